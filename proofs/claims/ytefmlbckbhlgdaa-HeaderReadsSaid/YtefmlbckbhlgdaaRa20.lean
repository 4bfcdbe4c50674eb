/- Rlp: the contract of the reference's Read. Rlp: the contract of the reference's Decode. The reference: an item as a field, as it stands. The reference: an item as a field, by a kind of a star and one sign. -/
import Derived.Test.YtefmlbckbhlgdaaRa19
namespace Go.Proofs.Ytefmlbckbhlgdaa
open Go.RowKit
/-- How the reference's Read ends. -/
def RReadPost (r : Option (It × Nat)) (w : World) (e : Ending) (w' : World) : Prop :=
  Below w.heap.size w w' ∧ (match r with
    | none => e = .returned (.tuple #[.agg #[.bool false, .string ⟨#[]⟩, .slice none 0 0], .int .i64 0, .bool false])
    | some (x, m) => ∃ v, e = .returned (.tuple #[v, .int .i64 m, .bool true]) ∧ ItemP (fun b => w.heap.size ≤ b) w' x v)

theorem RReadPost.none_mk {w w' : World} (h : Below w.heap.size w w') : RReadPost none w (.returned (.tuple #[.agg #[.bool false, .string ⟨#[]⟩, .slice none 0 0], .int .i64 0, .bool false])) w' := ⟨h, rfl⟩
theorem RReadPost.some_mk {w w' : World} {x : It} {m : Nat} {v : Value} (h : Below w.heap.size w w') (hi : ItemP (fun b => w.heap.size ≤ b) w' x v) : RReadPost (some (x, m)) w (.returned (.tuple #[v, .int .i64 m, .bool true])) w' := ⟨h, v, rfl, hi⟩

theorem rsize_pos {s : List UInt8} {fr n : Nat} (h : rsizeL s = some (fr, n)) : 1 ≤ fr + n ∧ fr ≤ 4 ∧ n < 16777216 := by
  cases s with
  | nil => cases h
  | cons c t =>
    simp only [rsizeL] at h
    have hc := c.toNat_lt
    have hC : (if 192 ≤ c.toNat then c.toNat - 64 else c.toNat) < 192 := by split <;> omega
    generalize (if 192 ≤ c.toNat then c.toNat - 64 else c.toNat) = C at h hC
    by_cases h1 : C < 128
    · rw [if_pos h1] at h; simp at h; omega
    · rw [if_neg h1] at h
      by_cases h2 : C ≤ 183
      · rw [if_pos h2] at h; simp at h; omega
      · rw [if_neg h2] at h
        by_cases h3 : 3 < C - 183 ∨ t.length < C - 183
        · rw [if_pos h3] at h; cases h
        · rw [if_neg h3] at h
          simp at h
          have h4 := valL_lt _ (t.take (C - 183)) rfl
          have h5 : (t.take (C - 183)).length ≤ 3 := by rw [List.length_take]; omega
          have := Nat.pow_le_pow_right (n := 256) (by decide) h5
          omega

theorem rread_bound {f : Nat} {s : List UInt8} {x : It} {m : Nat} (h : rreadL f s = some (x, m)) : 1 ≤ m ∧ m ≤ s.length := by
  cases f with
  | zero => cases h
  | succ f =>
    rw [rreadL] at h
    cases hz : rsizeL s with
    | none => rw [hz] at h; cases h
    | some q =>
      obtain ⟨fr, n⟩ := q
      have := rsize_pos hz
      rw [hz] at h
      simp only at h
      split at h
      · cases h
      · split at h
        · simp at h; omega
        · split at h
          · cases h
          · simp at h; omega

theorem rreadL_nil (f : Nat) : rreadL f [] = none := by
  cases f with
  | zero => rfl
  | succ f => rw [rreadL]; rfl

theorem rreadL_some {f : Nat} {s : List UInt8} {fr n : Nat} (hz : rsizeL s = some (fr, n)) : rreadL (f + 1) s =
    if s.length < fr + n then none
    else if (s.getD 0 0).toNat < 192 then some (.mk false ((s.take (fr + n)).drop fr) [], fr + n)
    else (match rkidsL f ((s.take (fr + n)).drop fr) with | none => none | some ks => some (.mk true [] ks, fr + n)) := by rw [rreadL, hz]; rfl

/-- Some kids have been read: from where on the others stand. -/
structure RInv (n : Nat) (body : List UInt8) (p : Nat) (ks : List It) (m : Nat) : Prop where
  within : p ≤ body.length
  enough : 2 * (body.length - p) ≤ m
  most : m ≤ n
  few : ks.length + (body.length - p) ≤ 4100
  same : rkidsL n body = (match rkidsL m (body.drop p) with | none => none | some ks' => some (ks ++ ks'))

theorem RInv.start {n : Nat} {body : List UInt8} (h : 2 * body.length ≤ n) (h' : body.length ≤ 4100) : RInv n body 0 [] n :=
  ⟨Nat.zero_le _, by simpa using h, Nat.le_refl _, by simpa using h', by rw [List.drop_zero]; cases rkidsL n body <;> rfl⟩
theorem RInv.more {n m p : Nat} {body : List UInt8} {ks : List It} (h : RInv n body p ks m) (hr : p < body.length) : ∃ m', m = m' + 1 ∧ 2 * (body.length - p) ≤ m' + 1 ∧ m' < n + 1 := by
  have h1 := h.enough
  have h2 := h.most
  exact ⟨m - 1, by omega, by omega, by omega⟩
theorem RInv.stop {n m p : Nat} {body : List UInt8} {ks : List It} (h : RInv n body p ks (m + 1)) (hr : p < body.length) (hn : rreadL m (body.drop p) = none) : rkidsL n body = none := by
  rw [h.same]
  cases hb : body.drop p with
  | nil => have := congrArg List.length hb; rw [List.length_drop] at this; simp at this; omega
  | cons c t => rw [hb] at hn; rw [rkidsL, hn]
theorem RInv.step {n m p l : Nat} {body : List UInt8} {ks : List It} {k : It} (h : RInv n body p ks (m + 1)) (hr : p < body.length) (hn : rreadL m (body.drop p) = some (k, l)) : RInv n body (p + l) (ks ++ [k]) m := by
  obtain ⟨b1, b2⟩ := rread_bound hn
  rw [List.length_drop] at b2
  have h1 := h.enough
  have h2 := h.most
  have h3 := h.few
  refine ⟨by omega, by omega, by omega, by rw [List.length_append, List.length_singleton]; omega, ?_⟩
  rw [h.same]
  cases hb : body.drop p with
  | nil => have := congrArg List.length hb; rw [List.length_drop] at this; simp at this; omega
  | cons c t =>
    rw [hb] at hn
    rw [rkidsL, hn]
    simp only
    rw [← hb, List.drop_drop]
    cases rkidsL m (body.drop (p + l)) <;> simp
theorem RInv.done {n m : Nat} {body : List UInt8} {ks : List It} (h : RInv n body body.length ks m) : rkidsL n body = some ks := by
  rw [h.same, List.drop_length]
  have : rkidsL m [] = some [] := by cases m <;> rfl
  rw [this]
  simp

set_option maxRecDepth 100000 in
set_option maxHeartbeats 4000000 in
theorem rread_any (f : Nat) : ∀ (s : ByteArray) (w : World), s.size ≤ 4100 → 2 * s.size ≤ f + 1 →
    Calls Try.prog 105 #[.string s] w (RReadPost (rreadL f (bl s)) w) := by
  induction f using Nat.strongRecOn with
  | ind f ih =>
  intro s w hs hf
  have B0 : Hid (Below w.heap.size w (w.alloc zeroO)) := Lib.hid ((Below.refl _ _).alloc (Nat.le_refl _) _)
  by_cases h0 : s.size = 0
  · have hn : bl s = [] := List.eq_nil_of_length_eq_zero (by rw [bl_length]; exact h0)
    have hst : s.toList = [] := by rw [toList_bl]; exact hn
    rw [hn, rreadL_nil]
    clear ih
    go_enter Try.func105, Try.ntmps105
    go_wp2
    refine bodyPost_ret (v := .tuple #[.agg #[.bool false, .string ⟨#[]⟩, .slice none 0 0], .int .i64 0, .bool false]) (by simp [results, Try.results105, go_sem]) rfl ?_
    exact RReadPost.none_mk B0.out
  · have hpos : 0 < s.size := by omega
    have hst : ¬ s.toList = [] := by rw [toList_bl]; intro e; have := bl_length s; rw [e] at this; simp at this; omega
    have hst2 : s.toList.isEmpty = false := by simpa using hst
    have KS := Lib.hid (fun w => rsize_any s w (by omega) hpos)
    obtain ⟨n, rfl⟩ : ∃ n, f = n + 1 := ⟨f - 1, by omega⟩
    have hs0 : (s[0].toNat : Int) = (((bl s).getD 0 0).toNat : Int) := by rw [sgetD hpos]
    cases hc : rsizeL (bl s) with
    | none =>
      have hr : rreadL (n + 1) (bl s) = none := by rw [rreadL, hc]
      rw [hr]
      rw [hc] at KS
      simp only [rsizeE] at KS
      clear ih hc hr hs0
      go_enter Try.func105, Try.ntmps105
      go_wp2_with fail
      refine (KS.out _).mono ?_
      rintro e w1 ⟨rfl, rfl⟩
      go_wp2
      refine bodyPost_ret (v := .tuple #[.agg #[.bool false, .string ⟨#[]⟩, .slice none 0 0], .int .i64 0, .bool false]) (by simp [results, Try.results105, go_sem]) rfl ?_
      exact RReadPost.none_mk B0.out
    | some q =>
      obtain ⟨fr, l⟩ := q
      obtain ⟨hp1, hp2, hp3⟩ := rsize_pos hc
      have hr := rreadL_some (f := n) hc
      rw [bl_length] at hr
      rw [hc] at KS
      simp only [rsizeE] at KS
      by_cases c1 : s.size < fr + l
      · rw [if_pos c1] at hr
        rw [hr]
        clear ih hc hr hs0
        go_enter Try.func105, Try.ntmps105
        go_wp2_with fail
        refine (KS.out _).mono ?_
        rintro e w1 ⟨rfl, rfl⟩
        go_wp2
        refine bodyPost_ret (v := .tuple #[.agg #[.bool false, .string ⟨#[]⟩, .slice none 0 0], .int .i64 0, .bool false]) (by simp [results, Try.results105, go_sem]) rfl ?_
        exact RReadPost.none_mk B0.out
      · rw [if_neg c1] at hr
        have hzb : (s.extract fr (fr + l)).size = l := by rw [ByteArray.size_extract]; omega
        have hbb : bl (s.extract fr (fr + l)) = ((bl s).take (fr + l)).drop fr := bl_extract _ _ _
        by_cases c2 : ((bl s).getD 0 0).toNat < 192
        · rw [if_pos c2, ← hbb] at hr
          rw [hr]
          have ht0 : (s[0].toNat : Int) < 192 := by omega
          have hT : s.extract fr (fr + l) = s.extract fr (fr + l) := rfl
          generalize hTT : s.extract fr (fr + l) = T at *
          have hTl : (bl T).length ≤ 9223372036854775807 := by rw [bl_length]; omega
          clear ih hc hr hs0 c2 hT hbb
          go_enter Try.func105, Try.ntmps105
          go_wp2_with fail
          refine (KS.out _).mono ?_
          rintro e w1 ⟨rfl, rfl⟩
          go_wp2
          refine bodyPost_ret (v := .tuple #[.agg #[.bool false, .string T, .slice none 0 0], .int .i64 ((fr + l : Nat) : Int), .bool true]) (by simp [results, Try.results105, go_sem]) rfl ?_
          exact RReadPost.some_mk ((Below.refl _ _).alloc (Nat.le_refl _) _) (leafP T hTl)
        · rw [if_neg c2, ← hbb] at hr
          have ht0 : ¬ (s[0].toNat : Int) < 192 := by omega
          have hfr1 : 1 ≤ fr := by
            cases hb : bl s with
            | nil => have := bl_length s; rw [hb] at this; simp at this; omega
            | cons c t =>
              rw [hb] at hc c2
              have hcc : 192 ≤ c.toNat := by simpa using c2
              simp only [rsizeL, if_pos hcc] at hc
              rw [if_neg (by omega)] at hc
              split at hc
              · simp at hc; omega
              · split at hc
                · cases hc
                · simp at hc; omega
          have hlen : (bl (s.extract fr (fr + l))).length = l := by rw [bl_length]; exact hzb
          have hcut : Hid (∀ p, p ≤ l → s.extract (fr + p) (fr + l) = mkS ((bl (s.extract fr (fr + l))).drop p)) := Lib.hid fun p hp => bl_inj (by rw [bl_extract, bl_mk, bl_extract, List.drop_drop])
          have hI : Hid (RInv n (bl (s.extract fr (fr + l))) 0 [] n) := Lib.hid (RInv.start (by omega) (by omega))
          generalize bl (s.extract fr (fr + l)) = body at *
          have HR := Lib.hid hr
          have IH := Lib.hid ih
          have HLen := Lib.hid hlen
          clear ih hr hbb hc hf hs0 c2 hlen hzb
          go_enter Try.func105, Try.ntmps105
          go_wp2_with fail
          refine (KS.out _).mono ?_
          rintro e w1 ⟨rfl, rfl⟩
          go_wp2
          have K0 : Hid (KSt w ((w.alloc zeroO).alloc (.cells #[.bool true, .string ⟨#[]⟩, .slice none 0 0] 98)) (.slice none 0 0) [] []) := Lib.hid
            ⟨(RowAt.new w _ _).alloc _, RowAt.new' _ _ _ (by simp), World.ownsRow_nil _ _ _ _, trivial, ((Below.refl _ _).alloc (Nat.le_refl _) _).alloc (by simp) _⟩
          clear KS B0
          go_loopw [8] (fun s8 wr => ∃ (p : Nat) (ks : List It) (lv : List IV) (kv : Value) (m : Nat), s8 = .int .i64 ((fr + p : Nat) : Int) ∧ RInv n body p ks m ∧ KSt w wr kv ks lv) (fun s8 _ => fr + l - (intOf s8).toNat)
          case atStart => exact ⟨0, [], [], .slice none 0 0, n, rfl, hI.out, K0.out⟩
          case round =>
            clear K0 hI
            obtain ⟨p, ks, lv, kv, m, rfl, hinv, hst⟩ := hrel
            obtain ⟨p1, c9, rfl, -⟩ := hst.own.parts
            have HI := Lib.hid hinv
            have HK := Lib.hid hst
            clear hinv hst
            have hpl := HI.out.within
            rw [HLen.out] at hpl
            by_cases hlt : p < l
            · obtain ⟨m', rfl, hm1, hm2⟩ := HI.out.more (by rw [HLen.out]; exact hlt)
              rw [HLen.out] at hm1
              have hlr := HI.out.few
              rw [HLen.out] at hlr
              have hex := hcut.out p hpl
              have KR := IH.out m' hm2 (mkS (body.drop p)) wr (by rw [mk_size, List.length_drop, HLen.out]; omega) (by rw [mk_size, List.length_drop, HLen.out]; omega)
              rw [bl_mk] at KR
              have hexl : fr + p ≤ fr + l := by omega
              cases hrd : rreadL m' (body.drop p) with
              | none =>
                have hst3 := HI.out.stop (by rw [HLen.out]; exact hlt) hrd
                have HR2 : Hid (rreadL (n + 1) (bl s) = none) := Lib.hid (by rw [HR.out, hst3])
                rw [hrd] at KR
                have KRH := Lib.hid KR
                clear hst3 HR KR IH HI hrd
                go_wp2_with fail
                refine KRH.out.mono ?_
                rintro e w2 ⟨hb, rfl⟩
                have G := (HK.out.rowG.belowS hb).alloc zeroO
                have HB := (HK.out.below.trans (hb.mono HK.out.below.size)).alloc (Nat.le_trans HK.out.below.size hb.size) zeroO
                have R0 := G.set 0 (.bool false) (cs' := #[.bool false, .string ⟨#[]⟩, .slice none 0 0]) rfl
                have R1 := R0.set 1 (.string ⟨#[]⟩) (cs' := #[.bool false, .string ⟨#[]⟩, .slice none 0 0]) rfl
                have R2 := R1.set 2 (.slice none 0 0) (cs' := #[.bool false, .string ⟨#[]⟩, .slice none 0 0]) rfl
                obtain ⟨e0, e1, e2, f0, f1, f2⟩ := G.c3
                have m0 := R0.c3.1
                have m1 := R1.c3.2.1
                have m2 := R2.c3.2.2.1
                have HB2 := Lib.hid (((HB.setCell (p := ⟨w.heap.size, 0, none⟩) (Nat.le_refl _) (.bool false)).setCell (p := ⟨w.heap.size, 1, none⟩) (Nat.le_refl _) (.string ⟨#[]⟩)).setCell (p := ⟨w.heap.size, 2, none⟩) (Nat.le_refl _) (.slice none 0 0))
                clear G HB R0 R1 R2 hb HK KRH
                go_wp2
                refine bodyPost_ret (v := .tuple #[.agg #[.bool false, .string ⟨#[]⟩, .slice none 0 0], .int .i64 0, .bool false]) (by simp [results, Try.results105, go_sem, m0, m1, m2]) rfl ?_
                rw [HR2.out]
                exact RReadPost.none_mk HB2.out
              | some q =>
                obtain ⟨k, l2⟩ := q
                rw [hrd] at KR
                have HI2 := Lib.hid (HI.out.step (by rw [HLen.out]; exact hlt) hrd)
                obtain ⟨b1, b2⟩ := rread_bound hrd
                rw [List.length_drop, HLen.out] at b2
                have KRH := Lib.hid KR
                clear KR IH HI hrd
                go_wp2_with fail
                refine KRH.out.mono ?_
                rintro e w2 ⟨hb, v, rfl, hv⟩
                obtain ⟨⟨yl, yb, yp, yn, yc⟩, rfl⟩ := hv.triple
                simp only [IV.val, IV.kids] at hv ⊢
                have HB3 : Below wr.heap.size wr (w2.alloc (ivO (yl, yb, yp, yn, yc))) := hb.alloc hb.size _
                have HB4 := Lib.hid (HB3.alloc HB3.size (ivO (yl, yb, yp, yn, yc)))
                have hk4 : Hid (ItemP (fun b => wr.heap.size ≤ b) ((w2.alloc (ivO (yl, yb, yp, yn, yc))).alloc (ivO (yl, yb, yp, yn, yc))) k (.agg #[.bool yl, .string yb, .slice yp yn yc])) := Lib.hid (ItemP.keep (fun a v hA hc => ⟨by
                  have hl := block_lt_of_cell hc
                  rw [World.cell?_of_block (Below.heap_alloc _ _ _ (by simp; omega)), World.cell?_of_block (Below.heap_alloc _ _ _ hl)]; exact hc, hA⟩) _ _ hv)
                have x3 := (HK.out.at4 HB3).2.1.c3.2.2.1
                have O4 := Lib.hid (HK.out.at4 HB4.out).2.2.1
                have hll := HK.out.kids.length
                have hgx := HK.out.rowX.lt
                have hgx2 : ¬ w.heap.size + 1 = w2.heap.size := by have := hb.size; omega
                have hws := hb.size
                clear hv hb HB3 KRH
                go_wp2_with (at_builtin; refine wpList_append_kid rfl _ _ rfl (w.heap.size + 2) _ lv rfl O4.out ⟨w2.heap.size + 1, 0, none⟩ (yl, yb, yp, yn, yc) rfl ?_ (by omega) (by simp; omega) ?_)
                · exact alloc_cells3 _ (yl, yb, yp, yn, yc) (w2.heap.size + 1) (by simp)
                · intro v' w5 own5 hg hn
                  obtain ⟨p5, c5, rfl, -⟩ := own5.parts
                  obtain ⟨t0, t1, t2, tf0, tf1, tf2⟩ := (HK.out.at5 HB4.out hg).c3
                  have hk2 := HK.out.step HB4.out hk4.out own5 hg (fun g e => by have := hn g e; simpa using this)
                  simp only [List.length_append, List.length_singleton] at hk2
                  have HK2 := Lib.hid hk2
                  clear hk2 own5 hg hn HB4 hk4 O4 HK x3
                  go_wp2_with fail
                  go_roundw
                  case rel => exact ⟨p + l2, _, _, _, m', by go_num, HI2.out, HK2.out⟩
                  case measure => simp [intOf]; omega
            · obtain rfl : p = l := by omega
              have hdn : rkidsL n body = some ks := by
                have := HI.out
                rw [← HLen.out] at this
                exact this.done
              have HR2 : Hid (rreadL (n + 1) (bl s) = some (.mk true [] ks, fr + p)) := Lib.hid (by rw [HR.out, hdn])
              have HD := Lib.hid (HK.out.done (.bool true) (.string ⟨#[]⟩) (.slice p1 lv.length c9))
              obtain ⟨x0, x1, x2, xf0, xf1, xf2⟩ := HK.out.rowX.c3
              have G := HK.out.rowG
              have R0 := G.set 0 (.bool true) (cs' := #[.bool true, .string ⟨#[]⟩, .slice none 0 0]) rfl
              have R1 := R0.set 1 (.string ⟨#[]⟩) (cs' := #[.bool true, .string ⟨#[]⟩, .slice none 0 0]) rfl
              have R2 := R1.set 2 (.slice p1 lv.length c9) (cs' := #[.bool true, .string ⟨#[]⟩, .slice p1 lv.length c9]) rfl
              obtain ⟨e0, e1, e2, f0, f1, f2⟩ := G.c3
              have m0 := R0.c3.1
              have m1 := R1.c3.2.1
              have m2 := R2.c3.2.2.1
              clear G R0 R1 R2 HI HR IH hdn
              go_wp2
              refine bodyPost_ret (v := .tuple #[.agg #[.bool true, .string ⟨#[]⟩, .slice p1 lv.length c9], .int .i64 ((fr + p : Nat) : Int), .bool true]) (by simp [results, Try.results105, go_sem, m0, m1, m2]) rfl ?_
              rw [HR2.out]
              exact RReadPost.some_mk HD.out.2 HD.out.1
end Go.Proofs.Ytefmlbckbhlgdaa
namespace Go.Proofs.Ytefmlbckbhlgdaa
open Go.RowKit
theorem rsize_zero {s : List UInt8} {fr l : Nat} (h : rsizeL s = some (fr, l)) : fr = 0 → l = 1 ∧ (s.getD 0 0).toNat < 128 := by
  intro e
  cases s with
  | nil => cases h
  | cons c t =>
    simp only [rsizeL] at h
    obtain ⟨C, hC⟩ : ∃ C, C = if 192 ≤ c.toNat then c.toNat - 64 else c.toNat := ⟨_, rfl⟩
    rw [← hC] at h
    by_cases h1 : C < 128
    · rw [if_pos h1] at h
      simp at h
      refine ⟨h.2.symm, ?_⟩
      simp only [List.getD_cons_zero]
      split at hC <;> omega
    · rw [if_neg h1] at h
      by_cases h2 : C ≤ 183
      · rw [if_pos h2] at h; simp at h; omega
      · rw [if_neg h2] at h
        by_cases h3 : 3 < C - 183 ∨ t.length < C - 183
        · rw [if_pos h3] at h; cases h
        · rw [if_neg h3] at h; simp at h; omega

theorem rread_weight : ∀ f : Nat, (∀ s x m, rreadL f s = some (x, m) → x.weight ≤ 2 * m) ∧ (∀ s ks, rkidsL f s = some ks → weights ks ≤ 2 * s.length)
  | 0 => by
    refine ⟨fun s x m h => by simp [rreadL] at h, fun s ks h => ?_⟩
    cases s with
    | nil => simp [rkidsL] at h; subst h; simp [weights]
    | cons c s => simp [rkidsL] at h
  | f + 1 => by
    obtain ⟨ih1, ih2⟩ := rread_weight f
    refine ⟨fun s x m h => ?_, fun s ks h => ?_⟩
    · cases hz : rsizeL s with
      | none => rw [rreadL, hz] at h; cases h
      | some q =>
        obtain ⟨fr, l⟩ := q
        have hp := rsize_pos hz
        rw [rreadL_some hz] at h
        split at h
        · cases h
        · rename_i h1
          have hl : ((s.take (fr + l)).drop fr).length = l := by rw [List.length_drop, List.length_take]; omega
          have hfr := rsize_zero hz
          split at h
          · simp at h
            obtain ⟨rfl, rfl⟩ := h
            rw [It.weight, weights, hl]
            by_cases h0 : fr = 0
            · have := (hfr h0).1; omega
            · omega
          · rename_i h2
            split at h
            · cases h
            · rename_i ks hk
              simp at h
              obtain ⟨rfl, rfl⟩ := h
              have := ih2 _ _ hk
              rw [hl] at this
              rw [It.weight, List.length_nil]
              by_cases h0 : fr = 0
              · have := (hfr h0).2; omega
              · omega
    · cases s with
      | nil => simp [rkidsL] at h; subst h; simp [weights]
      | cons c s =>
        rw [rkidsL] at h
        cases hr : rreadL f (c :: s) with
        | none => simp [hr] at h
        | some q =>
          obtain ⟨k, m⟩ := q
          simp only [hr] at h
          cases hk : rkidsL f ((c :: s).drop m) with
          | none => simp [hk] at h
          | some ks' =>
            simp only [hk, Option.some.injEq] at h
            subst h
            have h1 := ih1 _ _ _ hr
            have h2 := ih2 _ _ hk
            have h3 := (rread_bound hr).2
            rw [List.length_drop] at h2
            rw [weights]
            omega

theorem decL_ref (s : List UInt8) (hs : s.length ≤ 4100) : decL s =
    if 4000 < s.length then ((zeroI, 2) : It × Int)
    else match rreadL (2 * s.length) s with
      | none => ((zeroI, 4) : It × Int)
      | some (x, m) => if m ≠ s.length then ((zeroI, 4) : It × Int) else if x.write ≠ s then (zeroI, 4) else if 8 < x.depth then (zeroI, 5) else (x, 0) := by
  rw [decL]
  by_cases h1 : 4000 < s.length
  · rw [if_pos h1, if_pos h1]
  · rw [if_neg h1, if_neg h1]
    have key := fun x => reads_same s hs (2 * s.length) (2 * s.length) (by omega) (by omega) x
    cases hr : rreadL (2 * s.length) s with
    | none =>
      cases hp : readL (2 * s.length) s with
      | none => rfl
      | some q =>
        obtain ⟨x, t⟩ := q
        by_cases ht : t = []
        · subst ht
          have := ((key x).1 hp).1
          rw [hr] at this
          cases this
        · simp [ht]
    | some q =>
      obtain ⟨x, m⟩ := q
      simp only
      by_cases h2 : m = s.length
      · by_cases h3 : x.write = s
        · have := (key x).2 ⟨by rw [hr, h2], h3⟩
          rw [this]
          simp [h2, h3]
        · rw [if_neg (by simp [h2]), if_pos h3]
          cases hp : readL (2 * s.length) s with
          | none => rfl
          | some q =>
            obtain ⟨y, t⟩ := q
            by_cases ht : t = []
            · subst ht
              have h4 := (key y).1 hp
              rw [hr] at h4
              simp at h4
              obtain ⟨⟨rfl, _⟩, h5⟩ := h4
              exact absurd h5 h3
            · simp [ht]
      · rw [if_pos h2]
        cases hp : readL (2 * s.length) s with
        | none => rfl
        | some q =>
          obtain ⟨y, t⟩ := q
          by_cases ht : t = []
          · subst ht
            have h4 := (key y).1 hp
            rw [hr] at h4
            simp at h4
            exact absurd h4.1.2 h2
          · simp [ht]

/-- Stores into a result's cells. -/
theorem store3 {w : World} {g : Nat} {a0 a1 a2 : Value} (G : RowAt w g #[a0, a1, a2] 98) (v0 v1 v2 : Value) :
    (w.setCell ⟨g, 0, none⟩ v0).cell? ⟨g, 0, none⟩ = some v0 ∧ ((w.setCell ⟨g, 0, none⟩ v0).setCell ⟨g, 1, none⟩ v1).cell? ⟨g, 1, none⟩ = some v1 ∧ (((w.setCell ⟨g, 0, none⟩ v0).setCell ⟨g, 1, none⟩ v1).setCell ⟨g, 2, none⟩ v2).cell? ⟨g, 2, none⟩ = some v2 := by
  have R0 := G.set 0 v0 (cs' := #[v0, a1, a2]) rfl
  have R1 := R0.set 1 v1 (cs' := #[v0, v1, a2]) rfl
  have R2 := R1.set 2 v2 (cs' := #[v0, v1, v2]) rfl
  exact ⟨R0.c3.1, R1.c3.2.1, R2.c3.2.2.1⟩

theorem below_store3 {w0 w : World} {g : Nat} (h : Below g w0 w) (v0 v1 v2 : Value) : Below g w0 (((w.setCell ⟨g, 0, none⟩ v0).setCell ⟨g, 1, none⟩ v1).setCell ⟨g, 2, none⟩ v2) :=
  ((h.setCell (p := ⟨g, 0, none⟩) (Nat.le_refl _) v0).setCell (p := ⟨g, 1, none⟩) (Nat.le_refl _) v1).setCell (p := ⟨g, 2, none⟩) (Nat.le_refl _) v2

theorem ItemP.store3 {w : World} {g : Nat} {k : It} {v : Value} (h : ItemP (fun b => g + 1 ≤ b) w k v) (v0 v1 v2 : Value) : ItemP (fun b => g ≤ b) (((w.setCell ⟨g, 0, none⟩ v0).setCell ⟨g, 1, none⟩ v1).setCell ⟨g, 2, none⟩ v2) k v := by
  refine ItemP.keep (fun a v hA hc => ⟨?_, by omega⟩) _ _ h
  have hne : a.block ≠ g := by omega
  rw [World.cell?_of_block (heap_setCell_other _ _ _ _ hne), World.cell?_of_block (heap_setCell_other _ _ _ _ hne), World.cell?_of_block (heap_setCell_other _ _ _ _ hne)]
  exact hc

set_option maxRecDepth 100000 in
set_option maxHeartbeats 4000000 in
theorem rdecode_any (s : ByteArray) (w : World) (hs : s.size ≤ 4100) : Calls Try.prog 60 #[.string s] w (DecPost (decL (bl s)) w) := by
  have hd := decL_ref (bl s) (by rw [bl_length]; exact hs)
  rw [bl_length] at hd
  have B0 : Hid (Below w.heap.size w (w.alloc zeroO)) := Lib.hid ((Below.refl _ _).alloc (Nat.le_refl _) _)
  have G0 : Hid (RowAt (w.alloc zeroO) w.heap.size #[.bool false, .string ⟨#[]⟩, .slice none 0 0] 98) := Lib.hid (RowAt.new _ _ _)
  by_cases h1 : 4000 < s.size
  · rw [if_pos h1] at hd
    rw [hd]
    clear hd
    go_enter Try.func60, Try.ntmps60
    go_wp2
    refine bodyPost_ret (v := .tuple #[.agg #[.bool false, .string ⟨#[]⟩, .slice none 0 0], .int .i64 2]) (by simp [results, Try.results60, go_sem]) rfl ?_
    exact ⟨_, rfl, zeroP, B0.out⟩
  · rw [if_neg h1] at hd
    have KR := Lib.hid (fun W => rread_any (2 * s.size) s W hs (by omega))
    cases hr : rreadL (2 * s.size) (bl s) with
    | none =>
      rw [hr] at hd KR
      rw [hd]
      clear hd hr
      go_enter Try.func60, Try.ntmps60
      go_wp2_with fail
      refine (KR.out _).mono ?_
      rintro e w2 ⟨hb, rfl⟩
      have G2 := (G0.out.belowS hb).alloc zeroO
      have B2 := (B0.out.trans (hb.mono B0.out.size)).alloc (by have := hb.size; simp at this; omega) zeroO
      obtain ⟨m0, m1, m2⟩ := store3 G2 (.bool false) (.string ⟨#[]⟩) (.slice none 0 0)
      have HB := Lib.hid (below_store3 B2 (.bool false) (.string ⟨#[]⟩) (.slice none 0 0))
      obtain ⟨c0, c1, c2, f0, f1, f2⟩ := G2.c3
      clear hb G2 B2 B0 G0 KR
      go_wp2
      refine bodyPost_ret (v := .tuple #[.agg #[.bool false, .string ⟨#[]⟩, .slice none 0 0], .int .i64 4]) (by simp [results, Try.results60, go_sem, m0, m1, m2]) rfl ?_
      exact ⟨_, rfl, zeroP, HB.out⟩
    | some q =>
      obtain ⟨x, m⟩ := q
      rw [hr] at hd KR
      simp only at hd
      have hwt := (rread_weight _).1 _ _ _ hr
      have hm := (rread_bound hr).2
      rw [bl_length] at hm
      have hwl : x.write.length ≤ 1000000000 := by have := write_le x (by omega); omega
      have hsl : x.size ≤ 1000000 := by have := size_le_weight x; omega
      have KW := Lib.hid (fun W v (hi : ItemIs W x v) => rwrite_any x.size x (Nat.le_refl _) hwl v W hi)
      have KP := Lib.hid (fun W v (hi : ItemIs W x v) => rdepth_any x.size x (Nat.le_refl _) hsl v W hi)
      clear hwt hr hwl hsl
      by_cases h2 : m = s.size
      · subst h2
        rw [if_neg (by simp)] at hd
        by_cases h3 : x.write = bl s
        · rw [if_neg (by simp [h3])] at hd
          rw [h3] at KW
          have KW2 : Hid (∀ W v, ItemIs W x v → Calls Try.prog 49 #[v] W fun e w' => e = .returned (.string s) ∧ Below W.heap.size W w') := KW
          clear KW h3
          have KW := KW2
          clear KW2
          rw [hd]
          clear hd
          generalize x.depth = d at *
          by_cases h8 : 8 < d
          · rw [if_pos h8]
            go_enter Try.func60, Try.ntmps60
            go_wp2_with fail
            refine (KR.out _).mono ?_
            rintro e w2 ⟨hb, v, rfl, hv⟩
            obtain ⟨⟨yl, yb, yp, yn, yc⟩, rfl⟩ := hv.triple
            simp only [IV.val, IV.kids] at hv ⊢
            have G := Lib.hid ((G0.out.belowS hb).alloc (ivO (yl, yb, yp, yn, yc)))
            have T : Hid (RowAt (w2.alloc (ivO (yl, yb, yp, yn, yc))) w2.heap.size #[.bool yl, .string yb, .slice yp yn yc] 98) := Lib.hid (RowAt.new _ _ _)
            have hws : w.heap.size + 1 ≤ w2.heap.size := by have := hb.size; simpa using this
            have B := Lib.hid ((B0.out.trans (hb.mono B0.out.size)).alloc (by omega) (ivO (yl, yb, yp, yn, yc)))
            have I : Hid (ItemP (fun b => w.heap.size + 1 ≤ b) (w2.alloc (ivO (yl, yb, yp, yn, yc))) x (.agg #[.bool yl, .string yb, .slice yp yn yc])) := Lib.hid (ItemP.keep (fun a v hA hc => ⟨by rw [World.cell?_of_block (Below.heap_alloc _ _ _ (block_lt_of_cell hc))]; exact hc, by simpa using hA⟩) _ _ hv)
            clear hb hv B0 G0 KR
            have KX := Lib.hid (KW.out _ _ (ItemP.is _ _ I.out))
            obtain ⟨t0, t1, t2, tf0, tf1, tf2⟩ := T.out.c3
            go_wp2_with fail
            refine KX.out.mono ?_
            rintro e w3 ⟨rfl, hb⟩
            clear t0 t1 t2 tf0 tf1 tf2
            clear KX
            replace G := Lib.hid (G.out.belowS hb)
            replace T := Lib.hid (T.out.belowS hb)
            replace B := Lib.hid (B.out.trans (hb.mono B.out.size))
            replace I : Hid (ItemP (fun b => w.heap.size + 1 ≤ b) w3 x (.agg #[.bool yl, .string yb, .slice yp yn yc])) := Lib.hid (ItemP.keep (fun a v hA hc => ⟨by rw [hb.cell (block_lt_of_cell hc)]; exact hc, hA⟩) _ _ I.out)
            clear hb
            have KX := Lib.hid (KP.out _ _ (ItemP.is _ _ I.out))
            obtain ⟨t0, t1, t2, tf0, tf1, tf2⟩ := T.out.c3
            go_wp2_with fail
            refine KX.out.mono ?_
            rintro e w4 ⟨rfl, hb⟩
            clear t0 t1 t2 tf0 tf1 tf2
            clear KX
            replace G := Lib.hid (G.out.belowS hb)
            replace T := Lib.hid (T.out.belowS hb)
            replace B := Lib.hid (B.out.trans (hb.mono B.out.size))
            replace I : Hid (ItemP (fun b => w.heap.size + 1 ≤ b) w4 x (.agg #[.bool yl, .string yb, .slice yp yn yc])) := Lib.hid (ItemP.keep (fun a v hA hc => ⟨by rw [hb.cell (block_lt_of_cell hc)]; exact hc, hA⟩) _ _ I.out)
            clear hb
            have G2 := G.out
            obtain ⟨m0, m1, m2⟩ := store3 G2 (.bool false) (.string ⟨#[]⟩) (.slice none 0 0)
            have HB := Lib.hid (below_store3 B.out (.bool false) (.string ⟨#[]⟩) (.slice none 0 0))
            obtain ⟨c0, c1, c2, f0, f1, f2⟩ := G2.c3
            clear G2 B I G KW KP
            go_wp2
            refine bodyPost_ret (v := .tuple #[.agg #[.bool false, .string ⟨#[]⟩, .slice none 0 0], .int .i64 5]) (by simp [results, Try.results60, go_sem, m0, m1, m2]) rfl ?_
            exact ⟨_, rfl, zeroP, HB.out⟩
          · rw [if_neg h8]
            go_enter Try.func60, Try.ntmps60
            go_wp2_with fail
            refine (KR.out _).mono ?_
            rintro e w2 ⟨hb, v, rfl, hv⟩
            obtain ⟨⟨yl, yb, yp, yn, yc⟩, rfl⟩ := hv.triple
            simp only [IV.val, IV.kids] at hv ⊢
            have G := Lib.hid ((G0.out.belowS hb).alloc (ivO (yl, yb, yp, yn, yc)))
            have T : Hid (RowAt (w2.alloc (ivO (yl, yb, yp, yn, yc))) w2.heap.size #[.bool yl, .string yb, .slice yp yn yc] 98) := Lib.hid (RowAt.new _ _ _)
            have hws : w.heap.size + 1 ≤ w2.heap.size := by have := hb.size; simpa using this
            have B := Lib.hid ((B0.out.trans (hb.mono B0.out.size)).alloc (by omega) (ivO (yl, yb, yp, yn, yc)))
            have I : Hid (ItemP (fun b => w.heap.size + 1 ≤ b) (w2.alloc (ivO (yl, yb, yp, yn, yc))) x (.agg #[.bool yl, .string yb, .slice yp yn yc])) := Lib.hid (ItemP.keep (fun a v hA hc => ⟨by rw [World.cell?_of_block (Below.heap_alloc _ _ _ (block_lt_of_cell hc))]; exact hc, by simpa using hA⟩) _ _ hv)
            clear hb hv B0 G0 KR
            have KX := Lib.hid (KW.out _ _ (ItemP.is _ _ I.out))
            obtain ⟨t0, t1, t2, tf0, tf1, tf2⟩ := T.out.c3
            go_wp2_with fail
            refine KX.out.mono ?_
            rintro e w3 ⟨rfl, hb⟩
            clear t0 t1 t2 tf0 tf1 tf2
            clear KX
            replace G := Lib.hid (G.out.belowS hb)
            replace T := Lib.hid (T.out.belowS hb)
            replace B := Lib.hid (B.out.trans (hb.mono B.out.size))
            replace I : Hid (ItemP (fun b => w.heap.size + 1 ≤ b) w3 x (.agg #[.bool yl, .string yb, .slice yp yn yc])) := Lib.hid (ItemP.keep (fun a v hA hc => ⟨by rw [hb.cell (block_lt_of_cell hc)]; exact hc, hA⟩) _ _ I.out)
            clear hb
            have KX := Lib.hid (KP.out _ _ (ItemP.is _ _ I.out))
            obtain ⟨t0, t1, t2, tf0, tf1, tf2⟩ := T.out.c3
            go_wp2_with fail
            refine KX.out.mono ?_
            rintro e w4 ⟨rfl, hb⟩
            clear t0 t1 t2 tf0 tf1 tf2
            clear KX
            replace G := Lib.hid (G.out.belowS hb)
            replace T := Lib.hid (T.out.belowS hb)
            replace B := Lib.hid (B.out.trans (hb.mono B.out.size))
            replace I : Hid (ItemP (fun b => w.heap.size + 1 ≤ b) w4 x (.agg #[.bool yl, .string yb, .slice yp yn yc])) := Lib.hid (ItemP.keep (fun a v hA hc => ⟨by rw [hb.cell (block_lt_of_cell hc)]; exact hc, hA⟩) _ _ I.out)
            clear hb
            have hne : ¬ w2.heap.size = w.heap.size := by omega
            obtain ⟨t0, t1, t2, tf0, tf1, tf2⟩ := T.out.c3
            clear T
            have G2 := G.out
            obtain ⟨m0, m1, m2⟩ := store3 G2 (.bool yl) (.string yb) (.slice yp yn yc)
            have HB := Lib.hid (below_store3 B.out (.bool yl) (.string yb) (.slice yp yn yc))
            obtain ⟨c0, c1, c2, f0, f1, f2⟩ := G2.c3
            have HI := Lib.hid (I.out.store3 (.bool yl) (.string yb) (.slice yp yn yc))
            clear G2 B I G KW KP
            go_wp2
            refine bodyPost_ret (v := .tuple #[.agg #[.bool yl, .string yb, .slice yp yn yc], .int .i64 0]) (by simp [results, Try.results60, go_sem, m0, m1, m2]) rfl ?_
            exact ⟨_, rfl, HI.out, HB.out⟩
        · rw [if_pos h3] at hd
          rw [hd]
          have hsq := seq_false (show mkS x.write ≠ s from fun e => h3 (by rw [← e, bl_mk]))
          clear hd h3
          generalize mkS x.write = X at *
          go_enter Try.func60, Try.ntmps60
          go_wp2_with fail
          refine (KR.out _).mono ?_
          rintro e w2 ⟨hb, v, rfl, hv⟩
          obtain ⟨⟨yl, yb, yp, yn, yc⟩, rfl⟩ := hv.triple
          simp only [IV.val, IV.kids] at hv ⊢
          have G := Lib.hid ((G0.out.belowS hb).alloc (ivO (yl, yb, yp, yn, yc)))
          have T : Hid (RowAt (w2.alloc (ivO (yl, yb, yp, yn, yc))) w2.heap.size #[.bool yl, .string yb, .slice yp yn yc] 98) := Lib.hid (RowAt.new _ _ _)
          have hws : w.heap.size + 1 ≤ w2.heap.size := by have := hb.size; simpa using this
          have B := Lib.hid ((B0.out.trans (hb.mono B0.out.size)).alloc (by omega) (ivO (yl, yb, yp, yn, yc)))
          have I : Hid (ItemP (fun b => w.heap.size + 1 ≤ b) (w2.alloc (ivO (yl, yb, yp, yn, yc))) x (.agg #[.bool yl, .string yb, .slice yp yn yc])) := Lib.hid (ItemP.keep (fun a v hA hc => ⟨by rw [World.cell?_of_block (Below.heap_alloc _ _ _ (block_lt_of_cell hc))]; exact hc, by simpa using hA⟩) _ _ hv)
          clear hb hv B0 G0 KR
          have KX := Lib.hid (KW.out _ _ (ItemP.is _ _ I.out))
          obtain ⟨t0, t1, t2, tf0, tf1, tf2⟩ := T.out.c3
          go_wp2_with fail
          refine KX.out.mono ?_
          rintro e w3 ⟨rfl, hb⟩
          clear t0 t1 t2 tf0 tf1 tf2
          clear KX
          replace G := Lib.hid (G.out.belowS hb)
          replace T := Lib.hid (T.out.belowS hb)
          replace B := Lib.hid (B.out.trans (hb.mono B.out.size))
          replace I : Hid (ItemP (fun b => w.heap.size + 1 ≤ b) w3 x (.agg #[.bool yl, .string yb, .slice yp yn yc])) := Lib.hid (ItemP.keep (fun a v hA hc => ⟨by rw [hb.cell (block_lt_of_cell hc)]; exact hc, hA⟩) _ _ I.out)
          clear hb
          have G2 := G.out
          obtain ⟨m0, m1, m2⟩ := store3 G2 (.bool false) (.string ⟨#[]⟩) (.slice none 0 0)
          have HB := Lib.hid (below_store3 B.out (.bool false) (.string ⟨#[]⟩) (.slice none 0 0))
          obtain ⟨c0, c1, c2, f0, f1, f2⟩ := G2.c3
          clear G2 B I G KW KP
          go_wp2
          refine bodyPost_ret (v := .tuple #[.agg #[.bool false, .string ⟨#[]⟩, .slice none 0 0], .int .i64 4]) (by simp [results, Try.results60, go_sem, m0, m1, m2]) rfl ?_
          exact ⟨_, rfl, zeroP, HB.out⟩
      · rw [if_pos h2] at hd
        rw [hd]
        have hne : ¬ ((m : Int) = (s.size : Int)) := by omega
        have hne2 : ((m : Int) == (s.size : Int)) = false := by simp; omega
        clear hd h2
        go_enter Try.func60, Try.ntmps60
        go_wp2_with fail
        refine (KR.out _).mono ?_
        rintro e w2 ⟨hb, v, rfl, hv⟩
        obtain ⟨⟨yl, yb, yp, yn, yc⟩, rfl⟩ := hv.triple
        simp only [IV.val, IV.kids] at hv ⊢
        have G := Lib.hid ((G0.out.belowS hb).alloc (ivO (yl, yb, yp, yn, yc)))
        have T : Hid (RowAt (w2.alloc (ivO (yl, yb, yp, yn, yc))) w2.heap.size #[.bool yl, .string yb, .slice yp yn yc] 98) := Lib.hid (RowAt.new _ _ _)
        have hws : w.heap.size + 1 ≤ w2.heap.size := by have := hb.size; simpa using this
        have B := Lib.hid ((B0.out.trans (hb.mono B0.out.size)).alloc (by omega) (ivO (yl, yb, yp, yn, yc)))
        have I : Hid (ItemP (fun b => w.heap.size + 1 ≤ b) (w2.alloc (ivO (yl, yb, yp, yn, yc))) x (.agg #[.bool yl, .string yb, .slice yp yn yc])) := Lib.hid (ItemP.keep (fun a v hA hc => ⟨by rw [World.cell?_of_block (Below.heap_alloc _ _ _ (block_lt_of_cell hc))]; exact hc, by simpa using hA⟩) _ _ hv)
        clear hb hv B0 G0 KR
        have G2 := G.out
        obtain ⟨m0, m1, m2⟩ := store3 G2 (.bool false) (.string ⟨#[]⟩) (.slice none 0 0)
        have HB := Lib.hid (below_store3 B.out (.bool false) (.string ⟨#[]⟩) (.slice none 0 0))
        obtain ⟨c0, c1, c2, f0, f1, f2⟩ := G2.c3
        clear G2 B I G KW KP
        go_wp2
        refine bodyPost_ret (v := .tuple #[.agg #[.bool false, .string ⟨#[]⟩, .slice none 0 0], .int .i64 4]) (by simp [results, Try.results60, go_sem, m0, m1, m2]) rfl ?_
        exact ⟨_, rfl, zeroP, HB.out⟩
end Go.Proofs.Ytefmlbckbhlgdaa
namespace Go.Proofs.Ytefmlbckbhlgdaa
open Go.RowKit
set_option maxRecDepth 100000
/-- An item as a field by a kind of one sign, whatever it is. -/
def rleafF (c : UInt8) : It → Fd
  | .mk l b ks => if c = 110 then .mk ((It.mk l b ks).value.1, []) [] else .mk (0, b) []
/-- The field as it is handed back. -/
def FdAns (f : Fd) (w : World) (v : Value) (w' : World) : Prop :=
  ∃ s : Sl, v = fV f.val s ∧ Below w.heap.size w w' ∧ RowT encFd (fun b => w.heap.size ≤ b) w' (slV s) f.kids

set_option maxHeartbeats 4000000 in
theorem rfield_leaf (s : ByteArray) (c : UInt8) (hs0 : (bl s)[0]? = some c) (hc : leafK c = true) (x : It) (v : Value) (w : World) (hx : ItemIs w x v) :
    Calls Try.prog 61 #[.string s, v] w fun e w' => ∃ v', e = .returned v' ∧ FdAns (rleafF c x) w v' w' := by
  have KV := Lib.hid (fun W (hb : Below w.heap.size w W) => rvalue_any x v W (ItemIs.below hb (Nat.le_refl _) x v hx))
  obtain ⟨l, b, ks⟩ := x
  obtain ⟨kv, rfl, hbz, hk⟩ := itemIs_iff.1 hx
  obtain ⟨p, cap, rfl, h1, h2, -⟩ := hk.parts
  obtain ⟨hi, hg⟩ := at_byte hs0
  have hi0 : (0 : Int) < s.size := by omega
  clear hs0 hx hk
  have HV := Lib.hid (show rleafF c (.mk l b ks) = if c = 110 then .mk ((It.mk l b ks).value.1, []) [] else .mk (0, b) [] from rfl)
  generalize rleafF c (.mk l b ks) = res at *
  generalize (It.mk l b ks).value = vv at *
  replace KV : Hid (∀ W, Below w.heap.size w W → Calls Try.prog 107 #[.agg #[.bool l, .string (mkS b), .slice p ks.length cap]] W fun e w' => e = .returned (.tuple #[.int .u64 vv.1, .int .i64 vv.2]) ∧ Below W.heap.size W w') := KV
  show Calls Try.prog 61 #[.string s, .agg #[.bool l, .string (mkS b), .slice p ks.length cap]] w _
  have R3 := Lib.hid ((RowAt.new w #[.bool l, .string (mkS b), .slice p ks.length cap] 98).alloc (.cells #[.int .u64 0, .string ⟨#[]⟩, .slice none 0 0] 64))
  have R4 := Lib.hid (RowAt.new' (w.alloc (.cells #[.bool l, .string (mkS b), .slice p ks.length cap] 98)) #[.int .u64 0, .string ⟨#[]⟩, .slice none 0 0] 64 (k := w.heap.size + 1) (by simp))
  have HB := Lib.hid (bel2 w (.cells #[.bool l, .string (mkS b), .slice p ks.length cap] 98) (.cells #[.int .u64 0, .string ⟨#[]⟩, .slice none 0 0] 64))
  rcases leafK_cases hc with rfl | rfl | rfl | rfl | rfl
  all_goals
    replace hg : (s[0]'hi).toNat = _ := congrArg UInt8.toNat hg
    simp only [UInt8.reduceToNat] at hg
    clear hc
    go_enter Try.func61, Try.ntmps61
    go_upto_region 1 with (fail)
    generalize (w.alloc (.cells #[.bool l, .string (mkS b), .slice p ks.length cap] 98)).alloc (.cells #[.int .u64 0, .string ⟨#[]⟩, .slice none 0 0] 64) = W at *
    obtain ⟨y0, y1, y2, yf0, yf1, yf2⟩ := R3.out.c3
    go_upto_region 2 with (go_at_call 107; refine (KV.out _ HB.out).mono ?_; rintro e w1 ⟨rfl, hb⟩; replace R3 := Lib.hid (R3.out.belowS hb); replace R4 := Lib.hid (R4.out.belowS hb); replace HB := Lib.hid (HB.out.trans (hb.mono HB.out.size)); clear hb y0 y1 y2 yf0 yf1 yf2)
    obtain ⟨y0, y1, y2, yf0, yf1, yf2⟩ := R3.out.c3
    have z := R4.out.c3
    obtain ⟨z0, z1, z2, zf0, zf1, zf2⟩ := z
  · go_wp2
    obtain ⟨r, bb⟩ := box3 R4.out HB.out (Nat.le_succ _) (.int .u64 vv.1) (.string ⟨#[]⟩) (.slice none 0 0)
    obtain ⟨e0, e1, e2, _⟩ := r.c3
    refine bodyPost_ret (v := .agg #[.int .u64 vv.1, .string ⟨#[]⟩, .slice none 0 0]) (by simp [results, Try.results61, go_sem, e0, e1, e2]) rfl ?_
    refine ⟨_, rfl, (none, 0, 0), ?_, bb, ?_⟩
    · rw [HV.out]; rfl
    · rw [HV.out]; exact RowT.nil
  all_goals
    go_upto_region 5 with (fail)
    clear y0 y1 y2 yf0 yf1 yf2 z0 z1 z2 zf0 zf1 zf2
    (replace R4 := Lib.hid (R4.out.alloc (.cells #[.int .u64 0, .string (mkS b), .slice none 0 0] 64)); replace HB := Lib.hid (HB.out.alloc HB.out.size (.cells #[.int .u64 0, .string (mkS b), .slice none 0 0] 64)))
    have R7 := Lib.hid (RowAt.new w1 #[.int .u64 0, .string (mkS b), .slice none 0 0] 64)
    generalize w1.alloc (.cells #[.int .u64 0, .string (mkS b), .slice none 0 0] 64) = w2 at *
    generalize w1.heap.size = k7 at *
    obtain ⟨y0, y1, y2, yf0, yf1, yf2⟩ := R7.out.c3
    have z := R4.out.c3
    obtain ⟨z0, z1, z2, zf0, zf1, zf2⟩ := z
    go_wp2
    obtain ⟨r, bb⟩ := box3 R4.out HB.out (Nat.le_succ _) (.int .u64 0) (.string (mkS b)) (.slice none 0 0)
    obtain ⟨e0, e1, e2, _⟩ := r.c3
    refine bodyPost_ret (v := .agg #[.int .u64 0, .string (mkS b), .slice none 0 0]) (by simp [results, Try.results61, go_sem, e0, e1, e2]) rfl ?_
    refine ⟨_, rfl, (none, 0, 0), ?_, bb, ?_⟩
    · rw [HV.out]; rfl
    · rw [HV.out]; exact RowT.nil
end Go.Proofs.Ytefmlbckbhlgdaa
namespace Go.Proofs.Ytefmlbckbhlgdaa
open Go.RowKit
set_option maxRecDepth 100000
theorem FdAns.drew {x : Fd} {w w' : World} {v : Value} (h : FdAns x { w with drawn := w.drawn + 1 } v w') : FdAns x w v w' := by
  obtain ⟨s, h1, h2, h3⟩ := h
  exact ⟨s, h1, (Below.refl w.heap.size w).drew.trans h2, h3⟩

set_option maxHeartbeats 4000000 in
theorem rfield_star (s : ByteArray) (c : UInt8) (h0 : (bl s)[0]? = some 42) (h1 : (bl s)[1]? = some c) (hc : leafK c = true) (l : Bool) (b : List UInt8) (ks : List It) (hkl : ks.length ≤ 100000) (v : Value) (w : World) (hx : ItemIs w (.mk l b ks) v) :
    Calls Try.prog 61 #[.string s, v] w fun e w' => ∃ v', e = .returned v' ∧ FdAns (.mk (0, []) (ks.map (rleafF c))) w v' w' := by
  have K1 : (bl (s.extract 1 s.size))[0]? = some c := by rw [bl_extract, ← bl_length, List.take_length, List.getElem?_drop]; simpa using h1
  have KL := Lib.hid (fun (x : It) (v : Value) (W : World) (hx : ItemIs W x v) => rfield_leaf (s.extract 1 s.size) c K1 hc x v W hx)
  have KV := Lib.hid (fun W (hb : Below w.heap.size w W) => rvalue_any (.mk l b ks) v W (ItemIs.below hb (Nat.le_refl _) _ v hx))
  obtain ⟨kv, rfl, hbz, hk⟩ := itemIs_iff.1 hx
  obtain ⟨p, cap, rfl, g1, g2, hget⟩ := hk.parts
  have HG := Lib.hid hget
  have hl1 : 1 ≤ s.size := by have := (at_byte h0).1; omega
  obtain ⟨hi, hg⟩ := at_byte h0
  have hi0 : (0 : Int) < s.size := by omega
  have hi1 : (1 : Int) ≤ s.size := by omega
  clear h0 h1 K1 hc hx hk hget
  generalize (It.mk l b ks).value = vv at *
  replace hg : (s[0]'hi).toNat = _ := congrArg UInt8.toNat hg
  simp only [UInt8.reduceToNat] at hg
  generalize hs1 : s.extract 1 s.size = s1 at *
  replace KV : Hid (∀ W, Below w.heap.size w W → Calls Try.prog 107 #[.agg #[.bool l, .string (mkS b), .slice p ks.length cap]] W fun e w' => e = .returned (.tuple #[.int .u64 vv.1, .int .i64 vv.2]) ∧ Below W.heap.size W w') := KV
  show Calls Try.prog 61 #[.string s, .agg #[.bool l, .string (mkS b), .slice p ks.length cap]] w _
  have R3 := Lib.hid ((RowAt.new w #[.bool l, .string (mkS b), .slice p ks.length cap] 98).alloc (.cells #[.int .u64 0, .string ⟨#[]⟩, .slice none 0 0] 64))
  have R4 := Lib.hid (RowAt.new' (w.alloc (.cells #[.bool l, .string (mkS b), .slice p ks.length cap] 98)) #[.int .u64 0, .string ⟨#[]⟩, .slice none 0 0] 64 (k := w.heap.size + 1) (by simp))
  have HB := Lib.hid (bel2 w (.cells #[.bool l, .string (mkS b), .slice p ks.length cap] 98) (.cells #[.int .u64 0, .string ⟨#[]⟩, .slice none 0 0] 64))
  go_enter Try.func61, Try.ntmps61
  go_upto_region 1 with (fail)
  generalize (w.alloc (.cells #[.bool l, .string (mkS b), .slice p ks.length cap] 98)).alloc (.cells #[.int .u64 0, .string ⟨#[]⟩, .slice none 0 0] 64) = W at *
  obtain ⟨y0, y1, y2, yf0, yf1, yf2⟩ := R3.out.c3
  go_upto_region 2 with (go_at_call 107; refine (KV.out _ HB.out).mono ?_; rintro e w1 ⟨rfl, hb⟩; replace R3 := Lib.hid (R3.out.belowS hb); replace R4 := Lib.hid (R4.out.belowS hb); replace HB := Lib.hid (HB.out.trans (hb.mono HB.out.size)); clear hb y0 y1 y2 yf0 yf1 yf2)
  obtain ⟨y0, y1, y2, yf0, yf1, yf2⟩ := R3.out.c3
  go_upto_region 5 with (fail)
  have R7 := Lib.hid (RowAt.new w1 #[.int .u64 0, .string (mkS b), .slice none 0 0] 64)
  have HZ : Hid (w.heap.size + 2 ≤ w1.heap.size) := Lib.hid (by have := R4.out.lt; omega)
  clear y0 y1 y2 yf0 yf1 yf2
  (replace R3 := Lib.hid (R3.out.alloc (.cells #[.int .u64 0, .string (mkS b), .slice none 0 0] 64)); replace R4 := Lib.hid (R4.out.alloc (.cells #[.int .u64 0, .string (mkS b), .slice none 0 0] 64)); replace HB := Lib.hid (HB.out.alloc HB.out.size (.cells #[.int .u64 0, .string (mkS b), .slice none 0 0] 64)))
  generalize w1.alloc (.cells #[.int .u64 0, .string (mkS b), .slice none 0 0] 64) = w2 at *
  generalize w1.heap.size = k6 at *
  have q := R7.out.c3
  obtain ⟨q0, q1, q2, qf0, qf1, qf2⟩ := q
  go_upto_region 7 with (fail)
  clear q0 q1 q2 qf0 qf1 qf2
  replace R7 := Lib.hid (R7.out.set 1 (.string ⟨#[]⟩) rfl)
  replace R3 := Lib.hid (R3.out.other ⟨k6, 1, none⟩ (.string ⟨#[]⟩) (by have := HZ.out; simp only; omega))
  replace R4 := Lib.hid (R4.out.other ⟨k6, 1, none⟩ (.string ⟨#[]⟩) (by have := HZ.out; simp only; omega))
  replace HB := Lib.hid (HB.out.setCell (p := ⟨k6, 1, none⟩) (by have := HZ.out; simp only; omega) (.string ⟨#[]⟩))
  generalize w2.setCell ⟨k6, 1, none⟩ (.string ⟨#[]⟩) = w3 at *
  replace R7 : Hid (RowAt w3 k6 #[.int .u64 0, .string ⟨#[]⟩, .slice none 0 0] 64) := R7
  obtain ⟨y0, y1, y2, yf0, yf1, yf2⟩ := R3.out.c3
  go_upto_region 8 with (fail)
  clear y0 y1 y2 yf0 yf1 yf2 R3
  have HFG : Hid (∀ i k, ks[i]? = some k → (ks.map (rleafF c))[i]? = some (rleafF c k)) := Lib.hid (fun i k h => by rw [List.getElem?_map, h]; rfl)
  have HFL : Hid ((ks.map (rleafF c)).length = ks.length) := Lib.hid (by simp)
  generalize hFE : ks.map (rleafF c) = F at *
  have HFE := Lib.hid hFE
  clear hFE
  have O0 : Hid (OwnT encFd 64 (fun b => k6 < b) w3 (k6 + 1) (.slice none 0 0) (F.take 0)) := Lib.hid (OwnT.nil _ _)
  go_loopw [37] (fun s37 wr => ∃ (i : Nat) (po : Option Addr) (co : Nat), i ≤ ks.length ∧ s37 = .int .i64 i ∧ Hid (RowAt wr k6 #[.int .u64 0, .string ⟨#[]⟩, .slice po i co] 64) ∧ Hid (OwnT encFd 64 (fun b => k6 < b) wr (k6 + 1) (.slice po i co) (F.take i)) ∧ Hid (RowAt wr (w.heap.size + 1) #[.int .u64 0, .string ⟨#[]⟩, .slice none 0 0] 64) ∧ Hid (Below w.heap.size w wr)) (fun s _ => ks.length - (intOf s).toNat)
  case atStart => exact ⟨0, none, 0, Nat.zero_le _, rfl, R7, O0, R4, HB⟩
  case round =>
    clear R7 O0 R4 HB
    obtain ⟨i, po, co, hi, rfl, h6, ho, h4, hb⟩ := hrel
    have R6 := Lib.hid h6.out
    have O := Lib.hid ho.out
    have R4 := Lib.hid h4.out
    have HB := Lib.hid hb.out
    clear h6 ho h4 hb
    by_cases hlt : i < ks.length
    · obtain ⟨y, hy⟩ : ∃ y, ks[i]? = some y := ⟨_, List.getElem?_eq_getElem hlt⟩
      obtain ⟨a, l', b', p', n', c', rfl, r0, r1, r2, hyi⟩ := HG.out i y hy
      have HTK : Hid (F.take i ++ [rleafF c y] = F.take (i + 1)) := Lib.hid (by rw [List.take_add_one, HFG.out i y hy]; simp)
      have HTL : Hid ((F.take i).length = i) := Lib.hid (by rw [List.length_take, HFL.out]; omega)
      have mv : ∀ {q : Addr} {u : Value}, w.cell? q = some u → wr.cell? q = some u := fun h => by rw [HB.out.cell (block_lt_of_cell h)]; exact h
      replace r0 := mv r0
      replace r1 := mv r1
      replace r2 := mv r2
      rw [← Go.Deep.add_add] at r1 r2
      replace r0 : wr.cell? (a.add (i * 3)) = some (.bool l') := r0
      replace r1 : wr.cell? ⟨(a.add (i * 3)).block, (a.add (i * 3)).off + 1, none⟩ = some (.string b') := r1
      replace r2 : wr.cell? ⟨(a.add (i * 3)).block, (a.add (i * 3)).off + 2, none⟩ = some (.slice p' n' c') := r2
      have HYI := Lib.hid (ItemIs.below HB.out (Nat.le_refl _) y _ hyi)
      have HKL := Lib.hid hkl
      clear mv hyi hy
      have KC := Lib.hid (fun W (h : ItemIs W y (.agg #[.bool l', .string b', .slice p' n' c'])) => KL.out y _ W h)
      generalize rleafF c y = fy at *
      go_upto_region 16 with (fail)
      have R8 := Lib.hid (RowAt.new wr #[.bool l', .string b', .slice p' n' c'] 98)
      replace O := Lib.hid (O.out.below (bel1 wr (.cells #[.bool l', .string b', .slice p' n' c'] 98)) (Nat.le_refl _))
      have HK8 : Hid (k6 < wr.heap.size) := Lib.hid R6.out.lt
      replace HYI := Lib.hid (ItemIs.below (bel1 wr (.cells #[.bool l', .string b', .slice p' n' c'] 98)) (Nat.le_refl _) y _ HYI.out)
      (replace R4 := Lib.hid (R4.out.alloc ((.cells #[.bool l', .string b', .slice p' n' c'] 98))); replace R6 := Lib.hid (R6.out.alloc ((.cells #[.bool l', .string b', .slice p' n' c'] 98))); replace HB := Lib.hid (HB.out.alloc HB.out.size ((.cells #[.bool l', .string b', .slice p' n' c'] 98))))
      clear r0 r1 r2
      have HS9 : Hid (wr.heap.size < (wr.alloc (.cells #[.bool l', .string b', .slice p' n' c'] 98)).heap.size) := Lib.hid (by simp)
      generalize wr.alloc (.cells #[.bool l', .string b', .slice p' n' c'] 98) = wa at *
      generalize wr.heap.size = k9 at *
      obtain ⟨z0, z1, z2, zf0, zf1, zf2⟩ := R8.out.lw3
      have q := R6.out.lw3
      obtain ⟨q0, q1, q2, qf0, qf1, qf2⟩ := q
      have KC2 : Hid (Calls Try.prog 61 #[.string s1, .agg #[.bool l', .string b', .slice p' n' c']] { wa with drawn := wa.drawn + 1 } fun e w' => ∃ v', e = .returned v' ∧ FdAns fy wa v' w') := Lib.hid ((KC.out _ (ItemIs.below (Below.refl wa.heap.size wa).drew (Nat.le_refl _) y _ HYI.out)).mono fun e w' ⟨v, h1, h2⟩ => ⟨v, h1, FdAns.drew h2⟩)
      (refine region_call_tail 4 mix ?hB ⟨_, _, rfl, rfl, ?_⟩; case hB => kernel_rfl); (simp only [List.take_succ_cons, List.take_zero, List.drop_succ_cons, List.drop_zero]); (iterate 4 (with_reducible refine cr_step ?_; intro K hK; go_simp; (with_reducible refine hK _ ?_); clear hK K)); (with_reducible refine cr_nil ?_); (refine ⟨rfl, ?_⟩); (with_reducible refine cr_call ?_); (intro K hK; unfold EC; go_simp; (refine KC2.out.mono ?_; rintro e w6 ⟨v, rfl, sl, rfl, hb, hrow⟩; obtain ⟨ps, ns, cs⟩ := sl; obtain ⟨⟨fn, fb⟩, fk⟩ := fy; refine ⟨_, rfl, hb, hK _ _ ?_⟩; clear hK K)); (refine ⟨rfl, ?_⟩); (with_reducible refine cr_made ?_); (intro K hK; unfold EB; go_simp; refine ⟨⟨_, rfl⟩, hK _ _ ?_⟩; clear hK K)
      have HY := Lib.hid ((OwnT.fresh (t := .mk (fn, fb) fk) (s := (ps, ns, cs)) O.out (Nat.le_refl _) (fun b hb => Nat.lt_of_lt_of_le (by have := HK8.out; have := HS9.out; omega) hb) (show RowT encFd (fun b => wa.heap.size ≤ b) w6 (.slice ps ns cs) fk from hrow)).move (bel1 w6 (.cells #[.int .u64 (fn : Int), .string (mkS fb), .slice ps ns cs] 64)) (Nat.le_refl _))
      clear hrow z0 z1 z2 zf0 zf1 zf2 q0 q1 q2 qf0 qf1 qf2 KC2 KC
      (replace R4 := Lib.hid (R4.out.belowS hb); replace R6 := Lib.hid (R6.out.belowS hb); replace O := Lib.hid (O.out.below hb (Nat.le_refl _)); replace HB := Lib.hid (HB.out.trans (hb.mono HB.out.size)); clear hb)
      have R11 := Lib.hid (RowAt.new w6 #[.int .u64 (fn : Int), .string (mkS fb), .slice ps ns cs] 64)
      replace O := Lib.hid (O.out.below (bel1 w6 (.cells #[.int .u64 (fn : Int), .string (mkS fb), .slice ps ns cs] 64)) (Nat.le_refl _))
      have HSZ : Hid (k6 + 1 ≤ (w6.alloc (.cells #[.int .u64 (fn : Int), .string (mkS fb), .slice ps ns cs] 64)).heap.size) := Lib.hid (by have := R6.out.lt; simp; omega)
      (replace R4 := Lib.hid (R4.out.alloc (.cells #[.int .u64 (fn : Int), .string (mkS fb), .slice ps ns cs] 64)); replace R6 := Lib.hid (R6.out.alloc (.cells #[.int .u64 (fn : Int), .string (mkS fb), .slice ps ns cs] 64)); replace HB := Lib.hid (HB.out.alloc HB.out.size (.cells #[.int .u64 (fn : Int), .string (mkS fb), .slice ps ns cs] 64)))
      generalize w6.alloc (.cells #[.int .u64 (fn : Int), .string (mkS fb), .slice ps ns cs] 64) = w7 at *
      generalize w6.heap.size = k10 at *
      go_wp2_with (at_builtin; refine wpList_append_tree (E := encFd) (A := fun b => k6 < b) Try.underlying60 info_field rfl (by omega) rfl _ _ rfl (k6 + 1) _ (F.take i) rfl O.out ⟨k10, 0, none⟩ (.mk (fn, fb) fk) ((fn, fb), ps, ns, cs) rfl (lit_cells (E := encFd) R11.out rfl) HY.out (by have := HTL.out; have := HKL.out; omega) HSZ.out ?_)
      intro v' w' ho hg hbb hz
      obtain ⟨po', co', rfl, _, _⟩ := OwnT.shape ho
      have HN : (F.take i ++ [Tr.mk (fn, fb) fk]).length = i + 1 := by rw [List.length_append, HTL.out]; rfl
      rw [HN]
      rw [HN, HTK.out] at ho
      have hbk := hbb _ (Below.refl _ _)
      replace R6 := Lib.hid (R6.out.below hbk (Nat.lt_succ_self _))
      replace R4 := Lib.hid (R4.out.below hbk (by have := HZ.out; omega))
      replace HB := Lib.hid (HB.out.trans (hbk.mono (by have := HZ.out; omega)))
      replace O := Lib.hid ho
      clear ho hg hbb hz hbk HN HY R11 R8 HSZ
      have q := R6.out.c3
      obtain ⟨q0, q1, q2, qf0, qf1, qf2⟩ := q
      replace R6 := Lib.hid (R6.out.set 2 (.slice po' (i + 1) co') rfl)
      replace O := Lib.hid (O.out.setLow ⟨k6, 2, none⟩ (.slice po' (i + 1) co') (Nat.lt_succ_self _) (fun b hb => by simp only; omega))
      replace R4 := Lib.hid (R4.out.other ⟨k6, 2, none⟩ (.slice po' (i + 1) co') (by have := HZ.out; simp only; omega))
      replace HB := Lib.hid (HB.out.setCell (p := ⟨k6, 2, none⟩) (by have := HZ.out; simp only; omega) (.slice po' (i + 1) co'))
      go_wp2
      exact ⟨⟨i + 1, po', co', by omega, by simp, R6, O, R4, HB⟩, by simp [intOf]; omega⟩
    · obtain rfl : i = ks.length := by omega
      have HI := Lib.hid (show RowT encFd (fun b => k6 < b) wr (.slice po ks.length co) F from by
        have := O.out.row (fun b hb => hb)
        rwa [List.take_of_length_le (by have := HFL.out; omega)] at this)
      clear O
      have q := R6.out.c3
      obtain ⟨q0, q1, q2, qf0, qf1, qf2⟩ := q
      have z := R4.out.c3
      obtain ⟨z0, z1, z2, zf0, zf1, zf2⟩ := z
      go_wp2
      obtain ⟨r, bb⟩ := box3 R4.out HB.out (Nat.le_succ _) (.int .u64 0) (.string ⟨#[]⟩) (.slice po ks.length co)
      obtain ⟨e0, e1, e2, _⟩ := r.c3
      refine bodyPost_ret (v := .agg #[.int .u64 0, .string ⟨#[]⟩, .slice po ks.length co]) (by simp [results, Try.results61, go_sem, e0, e1, e2]) rfl ?_
      have HI2 : RowT encFd (fun b => w.heap.size ≤ b) (((wr.setCell ⟨w.heap.size + 1, 0, none⟩ (.int .u64 0)).setCell ⟨w.heap.size + 1, 1, none⟩ (.string ⟨#[]⟩)).setCell ⟨w.heap.size + 1, 2, none⟩ (.slice po ks.length co)) (.slice po ks.length co) F := HI.out.keep (fun a v ha hc => by rw [World.cell?_setCell_other, World.cell?_setCell_other, World.cell?_setCell_other]; exact hc; all_goals (intro e; subst e; have := HZ.out; simp only at ha; omega)) (fun b hb => by have := HZ.out; omega)
      exact ⟨_, rfl, (po, ks.length, co), rfl, bb, by rw [show (Tr.mk ((0 : Nat), ([] : List UInt8)) (ks.map (rleafF c))).kids = F from HFE.out]; exact HI2⟩
end Go.Proofs.Ytefmlbckbhlgdaa
