/- Rlp: the contract of the reference's Read. -/
import Derived.Test.YtdeboidelgnffaaRlp19
namespace Go.Proofs.Ytdeboidelgnffaa
open Go.RowKit

/-- How the reference's Read ends. -/
def RReadPost (r : Option (It × Nat)) (w : World) (e : Ending) (w' : World) : Prop :=
  Below w.heap.size w w' ∧ (match r with
    | none => e = .returned (.tuple #[.agg #[.bool false, .string ⟨#[]⟩, .slice none 0 0], .int .i64 0, .bool false])
    | some (x, m) => ∃ v, e = .returned (.tuple #[v, .int .i64 m, .bool true]) ∧ ItemP (fun b => w.heap.size ≤ b) w' x v)

theorem RReadPost.none_mk {w w' : World} (h : Below w.heap.size w w') : RReadPost none w (.returned (.tuple #[.agg #[.bool false, .string ⟨#[]⟩, .slice none 0 0], .int .i64 0, .bool false])) w' := ⟨h, rfl⟩
theorem RReadPost.some_mk {w w' : World} {x : It} {m : Nat} {v : Value} (h : Below w.heap.size w w') (hi : ItemP (fun b => w.heap.size ≤ b) w' x v) : RReadPost (some (x, m)) w (.returned (.tuple #[v, .int .i64 m, .bool true])) w' := ⟨h, v, rfl, hi⟩

theorem rsize_pos {s : List UInt8} {fr n : Nat} (h : rsizeL s = some (fr, n)) : 1 ≤ fr + n ∧ fr ≤ 4 ∧ n < 16777216 := by
  cases s with
  | nil => cases h
  | cons c t =>
    simp only [rsizeL] at h
    have hc := c.toNat_lt
    have hC : (if 192 ≤ c.toNat then c.toNat - 64 else c.toNat) < 192 := by split <;> omega
    generalize (if 192 ≤ c.toNat then c.toNat - 64 else c.toNat) = C at h hC
    by_cases h1 : C < 128
    · rw [if_pos h1] at h; simp at h; omega
    · rw [if_neg h1] at h
      by_cases h2 : C ≤ 183
      · rw [if_pos h2] at h; simp at h; omega
      · rw [if_neg h2] at h
        by_cases h3 : 3 < C - 183 ∨ t.length < C - 183
        · rw [if_pos h3] at h; cases h
        · rw [if_neg h3] at h
          simp at h
          have h4 := valL_lt _ (t.take (C - 183)) rfl
          have h5 : (t.take (C - 183)).length ≤ 3 := by rw [List.length_take]; omega
          have := Nat.pow_le_pow_right (n := 256) (by decide) h5
          omega

theorem rread_bound {f : Nat} {s : List UInt8} {x : It} {m : Nat} (h : rreadL f s = some (x, m)) : 1 ≤ m ∧ m ≤ s.length := by
  cases f with
  | zero => cases h
  | succ f =>
    rw [rreadL] at h
    cases hz : rsizeL s with
    | none => rw [hz] at h; cases h
    | some q =>
      obtain ⟨fr, n⟩ := q
      have := rsize_pos hz
      rw [hz] at h
      simp only at h
      split at h
      · cases h
      · split at h
        · simp at h; omega
        · split at h
          · cases h
          · simp at h; omega

theorem rreadL_nil (f : Nat) : rreadL f [] = none := by
  cases f with
  | zero => rfl
  | succ f => rw [rreadL]; rfl

theorem rreadL_some {f : Nat} {s : List UInt8} {fr n : Nat} (hz : rsizeL s = some (fr, n)) : rreadL (f + 1) s =
    if s.length < fr + n then none
    else if (s.getD 0 0).toNat < 192 then some (.mk false ((s.take (fr + n)).drop fr) [], fr + n)
    else (match rkidsL f ((s.take (fr + n)).drop fr) with | none => none | some ks => some (.mk true [] ks, fr + n)) := by rw [rreadL, hz]; rfl

/-- Some kids have been read: from where on the others stand. -/
structure RInv (n : Nat) (body : List UInt8) (p : Nat) (ks : List It) (m : Nat) : Prop where
  within : p ≤ body.length
  enough : 2 * (body.length - p) ≤ m
  most : m ≤ n
  few : ks.length + (body.length - p) ≤ 4100
  same : rkidsL n body = (match rkidsL m (body.drop p) with | none => none | some ks' => some (ks ++ ks'))

theorem RInv.start {n : Nat} {body : List UInt8} (h : 2 * body.length ≤ n) (h' : body.length ≤ 4100) : RInv n body 0 [] n :=
  ⟨Nat.zero_le _, by simpa using h, Nat.le_refl _, by simpa using h', by rw [List.drop_zero]; cases rkidsL n body <;> rfl⟩
theorem RInv.more {n m p : Nat} {body : List UInt8} {ks : List It} (h : RInv n body p ks m) (hr : p < body.length) : ∃ m', m = m' + 1 ∧ 2 * (body.length - p) ≤ m' + 1 ∧ m' < n + 1 := by
  have h1 := h.enough
  have h2 := h.most
  exact ⟨m - 1, by omega, by omega, by omega⟩
theorem RInv.stop {n m p : Nat} {body : List UInt8} {ks : List It} (h : RInv n body p ks (m + 1)) (hr : p < body.length) (hn : rreadL m (body.drop p) = none) : rkidsL n body = none := by
  rw [h.same]
  cases hb : body.drop p with
  | nil => have := congrArg List.length hb; rw [List.length_drop] at this; simp at this; omega
  | cons c t => rw [hb] at hn; rw [rkidsL, hn]
theorem RInv.step {n m p l : Nat} {body : List UInt8} {ks : List It} {k : It} (h : RInv n body p ks (m + 1)) (hr : p < body.length) (hn : rreadL m (body.drop p) = some (k, l)) : RInv n body (p + l) (ks ++ [k]) m := by
  obtain ⟨b1, b2⟩ := rread_bound hn
  rw [List.length_drop] at b2
  have h1 := h.enough
  have h2 := h.most
  have h3 := h.few
  refine ⟨by omega, by omega, by omega, by rw [List.length_append, List.length_singleton]; omega, ?_⟩
  rw [h.same]
  cases hb : body.drop p with
  | nil => have := congrArg List.length hb; rw [List.length_drop] at this; simp at this; omega
  | cons c t =>
    rw [hb] at hn
    rw [rkidsL, hn]
    simp only
    rw [← hb, List.drop_drop]
    cases rkidsL m (body.drop (p + l)) <;> simp
theorem RInv.done {n m : Nat} {body : List UInt8} {ks : List It} (h : RInv n body body.length ks m) : rkidsL n body = some ks := by
  rw [h.same, List.drop_length]
  have : rkidsL m [] = some [] := by cases m <;> rfl
  rw [this]
  simp

set_option maxRecDepth 100000 in
set_option maxHeartbeats 4000000 in
theorem rread_any (f : Nat) : ∀ (s : ByteArray) (w : World), s.size ≤ 4100 → 2 * s.size ≤ f + 1 →
    Calls Try.prog 33 #[.string s] w (RReadPost (rreadL f (bl s)) w) := by
  induction f using Nat.strongRecOn with
  | ind f ih =>
  intro s w hs hf
  have B0 : Hid (Below w.heap.size w (w.alloc zeroO)) := Lib.hid ((Below.refl _ _).alloc (Nat.le_refl _) _)
  by_cases h0 : s.size = 0
  · have hn : bl s = [] := List.eq_nil_of_length_eq_zero (by rw [bl_length]; exact h0)
    have hst : s.toList = [] := by rw [toList_bl]; exact hn
    rw [hn, rreadL_nil]
    clear ih
    go_enter Try.func33, Try.ntmps33
    go_wp2
    refine bodyPost_ret (v := .tuple #[.agg #[.bool false, .string ⟨#[]⟩, .slice none 0 0], .int .i64 0, .bool false]) (by simp [results, Try.results33, go_sem]) rfl ?_
    exact RReadPost.none_mk B0.out
  · have hpos : 0 < s.size := by omega
    have hst : ¬ s.toList = [] := by rw [toList_bl]; intro e; have := bl_length s; rw [e] at this; simp at this; omega
    have hst2 : s.toList.isEmpty = false := by simpa using hst
    have KS := Lib.hid (fun w => rsize_any s w (by omega) hpos)
    obtain ⟨n, rfl⟩ : ∃ n, f = n + 1 := ⟨f - 1, by omega⟩
    have hs0 : (s[0].toNat : Int) = (((bl s).getD 0 0).toNat : Int) := by rw [sgetD hpos]
    cases hc : rsizeL (bl s) with
    | none =>
      have hr : rreadL (n + 1) (bl s) = none := by rw [rreadL, hc]
      rw [hr]
      rw [hc] at KS
      simp only [rsizeE] at KS
      clear ih hc hr hs0
      go_enter Try.func33, Try.ntmps33
      go_wp2_with fail
      refine (KS.out _).mono ?_
      rintro e w1 ⟨rfl, rfl⟩
      go_wp2
      refine bodyPost_ret (v := .tuple #[.agg #[.bool false, .string ⟨#[]⟩, .slice none 0 0], .int .i64 0, .bool false]) (by simp [results, Try.results33, go_sem]) rfl ?_
      exact RReadPost.none_mk B0.out
    | some q =>
      obtain ⟨fr, l⟩ := q
      obtain ⟨hp1, hp2, hp3⟩ := rsize_pos hc
      have hr := rreadL_some (f := n) hc
      rw [bl_length] at hr
      rw [hc] at KS
      simp only [rsizeE] at KS
      by_cases c1 : s.size < fr + l
      · rw [if_pos c1] at hr
        rw [hr]
        clear ih hc hr hs0
        go_enter Try.func33, Try.ntmps33
        go_wp2_with fail
        refine (KS.out _).mono ?_
        rintro e w1 ⟨rfl, rfl⟩
        go_wp2
        refine bodyPost_ret (v := .tuple #[.agg #[.bool false, .string ⟨#[]⟩, .slice none 0 0], .int .i64 0, .bool false]) (by simp [results, Try.results33, go_sem]) rfl ?_
        exact RReadPost.none_mk B0.out
      · rw [if_neg c1] at hr
        have hzb : (s.extract fr (fr + l)).size = l := by rw [ByteArray.size_extract]; omega
        have hbb : bl (s.extract fr (fr + l)) = ((bl s).take (fr + l)).drop fr := bl_extract _ _ _
        by_cases c2 : ((bl s).getD 0 0).toNat < 192
        · rw [if_pos c2, ← hbb] at hr
          rw [hr]
          have ht0 : (s[0].toNat : Int) < 192 := by omega
          have hT : s.extract fr (fr + l) = s.extract fr (fr + l) := rfl
          generalize hTT : s.extract fr (fr + l) = T at *
          have hTl : (bl T).length ≤ 9223372036854775807 := by rw [bl_length]; omega
          clear ih hc hr hs0 c2 hT hbb
          go_enter Try.func33, Try.ntmps33
          go_wp2_with fail
          refine (KS.out _).mono ?_
          rintro e w1 ⟨rfl, rfl⟩
          go_wp2
          refine bodyPost_ret (v := .tuple #[.agg #[.bool false, .string T, .slice none 0 0], .int .i64 ((fr + l : Nat) : Int), .bool true]) (by simp [results, Try.results33, go_sem]) rfl ?_
          exact RReadPost.some_mk ((Below.refl _ _).alloc (Nat.le_refl _) _) (leafP T hTl)
        · rw [if_neg c2, ← hbb] at hr
          have ht0 : ¬ (s[0].toNat : Int) < 192 := by omega
          have hfr1 : 1 ≤ fr := by
            cases hb : bl s with
            | nil => have := bl_length s; rw [hb] at this; simp at this; omega
            | cons c t =>
              rw [hb] at hc c2
              have hcc : 192 ≤ c.toNat := by simpa using c2
              simp only [rsizeL, if_pos hcc] at hc
              rw [if_neg (by omega)] at hc
              split at hc
              · simp at hc; omega
              · split at hc
                · cases hc
                · simp at hc; omega
          have hlen : (bl (s.extract fr (fr + l))).length = l := by rw [bl_length]; exact hzb
          have hcut : Hid (∀ p, p ≤ l → s.extract (fr + p) (fr + l) = mkS ((bl (s.extract fr (fr + l))).drop p)) := Lib.hid fun p hp => bl_inj (by rw [bl_extract, bl_mk, bl_extract, List.drop_drop])
          have hI : Hid (RInv n (bl (s.extract fr (fr + l))) 0 [] n) := Lib.hid (RInv.start (by omega) (by omega))
          generalize bl (s.extract fr (fr + l)) = body at *
          have HR := Lib.hid hr
          have IH := Lib.hid ih
          have HLen := Lib.hid hlen
          clear ih hr hbb hc hf hs0 c2 hlen hzb
          go_enter Try.func33, Try.ntmps33
          go_wp2_with fail
          refine (KS.out _).mono ?_
          rintro e w1 ⟨rfl, rfl⟩
          go_wp2
          have K0 : Hid (KSt w ((w.alloc zeroO).alloc (.cells #[.bool true, .string ⟨#[]⟩, .slice none 0 0] 24)) (.slice none 0 0) [] []) := Lib.hid
            ⟨(RowAt.new w _ _).alloc _, RowAt.new' _ _ _ (by simp), World.ownsRow_nil _ _ _ _, trivial, ((Below.refl _ _).alloc (Nat.le_refl _) _).alloc (by simp) _⟩
          clear KS B0
          go_loopw [8] (fun s8 wr => ∃ (p : Nat) (ks : List It) (lv : List IV) (kv : Value) (m : Nat), s8 = .int .i64 ((fr + p : Nat) : Int) ∧ RInv n body p ks m ∧ KSt w wr kv ks lv) (fun s8 _ => fr + l - (intOf s8).toNat)
          case atStart => exact ⟨0, [], [], .slice none 0 0, n, rfl, hI.out, K0.out⟩
          case round =>
            clear K0 hI
            obtain ⟨p, ks, lv, kv, m, rfl, hinv, hst⟩ := hrel
            obtain ⟨p1, c9, rfl, -⟩ := hst.own.parts
            have HI := Lib.hid hinv
            have HK := Lib.hid hst
            clear hinv hst
            have hpl := HI.out.within
            rw [HLen.out] at hpl
            by_cases hlt : p < l
            · obtain ⟨m', rfl, hm1, hm2⟩ := HI.out.more (by rw [HLen.out]; exact hlt)
              rw [HLen.out] at hm1
              have hlr := HI.out.few
              rw [HLen.out] at hlr
              have hex := hcut.out p hpl
              have KR := IH.out m' hm2 (mkS (body.drop p)) wr (by rw [mk_size, List.length_drop, HLen.out]; omega) (by rw [mk_size, List.length_drop, HLen.out]; omega)
              rw [bl_mk] at KR
              have hexl : fr + p ≤ fr + l := by omega
              cases hrd : rreadL m' (body.drop p) with
              | none =>
                have hst3 := HI.out.stop (by rw [HLen.out]; exact hlt) hrd
                have HR2 : Hid (rreadL (n + 1) (bl s) = none) := Lib.hid (by rw [HR.out, hst3])
                rw [hrd] at KR
                have KRH := Lib.hid KR
                clear hst3 HR KR IH HI hrd
                go_wp2_with fail
                refine KRH.out.mono ?_
                rintro e w2 ⟨hb, rfl⟩
                have G := (HK.out.rowG.belowS hb).alloc zeroO
                have HB := (HK.out.below.trans (hb.mono HK.out.below.size)).alloc (Nat.le_trans HK.out.below.size hb.size) zeroO
                have R0 := G.set 0 (.bool false) (cs' := #[.bool false, .string ⟨#[]⟩, .slice none 0 0]) rfl
                have R1 := R0.set 1 (.string ⟨#[]⟩) (cs' := #[.bool false, .string ⟨#[]⟩, .slice none 0 0]) rfl
                have R2 := R1.set 2 (.slice none 0 0) (cs' := #[.bool false, .string ⟨#[]⟩, .slice none 0 0]) rfl
                obtain ⟨e0, e1, e2, f0, f1, f2⟩ := G.c3
                have m0 := R0.c3.1
                have m1 := R1.c3.2.1
                have m2 := R2.c3.2.2.1
                have HB2 := Lib.hid (((HB.setCell (p := ⟨w.heap.size, 0, none⟩) (Nat.le_refl _) (.bool false)).setCell (p := ⟨w.heap.size, 1, none⟩) (Nat.le_refl _) (.string ⟨#[]⟩)).setCell (p := ⟨w.heap.size, 2, none⟩) (Nat.le_refl _) (.slice none 0 0))
                clear G HB R0 R1 R2 hb HK KRH
                go_wp2
                refine bodyPost_ret (v := .tuple #[.agg #[.bool false, .string ⟨#[]⟩, .slice none 0 0], .int .i64 0, .bool false]) (by simp [results, Try.results33, go_sem, m0, m1, m2]) rfl ?_
                rw [HR2.out]
                exact RReadPost.none_mk HB2.out
              | some q =>
                obtain ⟨k, l2⟩ := q
                rw [hrd] at KR
                have HI2 := Lib.hid (HI.out.step (by rw [HLen.out]; exact hlt) hrd)
                obtain ⟨b1, b2⟩ := rread_bound hrd
                rw [List.length_drop, HLen.out] at b2
                have KRH := Lib.hid KR
                clear KR IH HI hrd
                go_wp2_with fail
                refine KRH.out.mono ?_
                rintro e w2 ⟨hb, v, rfl, hv⟩
                obtain ⟨⟨yl, yb, yp, yn, yc⟩, rfl⟩ := hv.triple
                simp only [IV.val, IV.kids] at hv ⊢
                have HB3 : Below wr.heap.size wr (w2.alloc (ivO (yl, yb, yp, yn, yc))) := hb.alloc hb.size _
                have HB4 := Lib.hid (HB3.alloc HB3.size (ivO (yl, yb, yp, yn, yc)))
                have hk4 : Hid (ItemP (fun b => wr.heap.size ≤ b) ((w2.alloc (ivO (yl, yb, yp, yn, yc))).alloc (ivO (yl, yb, yp, yn, yc))) k (.agg #[.bool yl, .string yb, .slice yp yn yc])) := Lib.hid (ItemP.keep (fun a v hA hc => ⟨by
                  have hl := block_lt_of_cell hc
                  rw [World.cell?_of_block (Below.heap_alloc _ _ _ (by simp; omega)), World.cell?_of_block (Below.heap_alloc _ _ _ hl)]; exact hc, hA⟩) _ _ hv)
                have x3 := (HK.out.at4 HB3).2.1.c3.2.2.1
                have O4 := Lib.hid (HK.out.at4 HB4.out).2.2.1
                have hll := HK.out.kids.length
                have hgx := HK.out.rowX.lt
                have hgx2 : ¬ w.heap.size + 1 = w2.heap.size := by have := hb.size; omega
                have hws := hb.size
                clear hv hb HB3 KRH
                go_wp2_with (at_builtin; refine wpList_append_kid rfl _ _ rfl (w.heap.size + 2) _ lv rfl O4.out ⟨w2.heap.size + 1, 0, none⟩ (yl, yb, yp, yn, yc) rfl ?_ (by omega) (by simp; omega) ?_)
                · exact alloc_cells3 _ (yl, yb, yp, yn, yc) (w2.heap.size + 1) (by simp)
                · intro v' w5 own5 hg hn
                  obtain ⟨p5, c5, rfl, -⟩ := own5.parts
                  obtain ⟨t0, t1, t2, tf0, tf1, tf2⟩ := (HK.out.at5 HB4.out hg).c3
                  have hk2 := HK.out.step HB4.out hk4.out own5 hg (fun g e => by have := hn g e; simpa using this)
                  simp only [List.length_append, List.length_singleton] at hk2
                  have HK2 := Lib.hid hk2
                  clear hk2 own5 hg hn HB4 hk4 O4 HK x3
                  go_wp2_with fail
                  go_roundw
                  case rel => exact ⟨p + l2, _, _, _, m', by go_num, HI2.out, HK2.out⟩
                  case measure => simp [intOf]; omega
            · obtain rfl : p = l := by omega
              have hdn : rkidsL n body = some ks := by
                have := HI.out
                rw [← HLen.out] at this
                exact this.done
              have HR2 : Hid (rreadL (n + 1) (bl s) = some (.mk true [] ks, fr + p)) := Lib.hid (by rw [HR.out, hdn])
              have HD := Lib.hid (HK.out.done (.bool true) (.string ⟨#[]⟩) (.slice p1 lv.length c9))
              obtain ⟨x0, x1, x2, xf0, xf1, xf2⟩ := HK.out.rowX.c3
              have G := HK.out.rowG
              have R0 := G.set 0 (.bool true) (cs' := #[.bool true, .string ⟨#[]⟩, .slice none 0 0]) rfl
              have R1 := R0.set 1 (.string ⟨#[]⟩) (cs' := #[.bool true, .string ⟨#[]⟩, .slice none 0 0]) rfl
              have R2 := R1.set 2 (.slice p1 lv.length c9) (cs' := #[.bool true, .string ⟨#[]⟩, .slice p1 lv.length c9]) rfl
              obtain ⟨e0, e1, e2, f0, f1, f2⟩ := G.c3
              have m0 := R0.c3.1
              have m1 := R1.c3.2.1
              have m2 := R2.c3.2.2.1
              clear G R0 R1 R2 HI HR IH hdn
              go_wp2
              refine bodyPost_ret (v := .tuple #[.agg #[.bool true, .string ⟨#[]⟩, .slice p1 lv.length c9], .int .i64 ((fr + p : Nat) : Int), .bool true]) (by simp [results, Try.results33, go_sem, m0, m1, m2]) rfl ?_
              rw [HR2.out]
              exact RReadPost.some_mk HD.out.2 HD.out.1
end Go.Proofs.Ytdeboidelgnffaa
