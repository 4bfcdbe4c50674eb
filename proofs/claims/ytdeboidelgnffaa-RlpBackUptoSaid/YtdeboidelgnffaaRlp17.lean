/- Rlp: the contract of read. -/
import Derived.Test.YtdeboidelgnffaaRlpK
namespace Go.Proofs.Ytdeboidelgnffaa
open Go.RowKit

/-- How read ends. -/
def ReadPost (r : Option (It × List UInt8)) (w : World) (e : Ending) (w' : World) : Prop :=
  Below w.heap.size w w' ∧ (match r with
    | none => e = .panicked [badE]
    | some (x, t) => ∃ v, e = .returned (.tuple #[v, .string (mkS t)]) ∧ ItemP (fun b => w.heap.size ≤ b) w' x v)

theorem ReadPost.none_mk {w w' : World} (h : Below w.heap.size w w') : ReadPost none w (.panicked [badE]) w' := ⟨h, rfl⟩
theorem ReadPost.some_mk {w w' : World} {x : It} {t : List UInt8} {v : Value} (h : Below w.heap.size w w') (hi : ItemP (fun b => w.heap.size ≤ b) w' x v) : ReadPost (some (x, t)) w (.returned (.tuple #[v, .string (mkS t)])) w' := ⟨h, v, rfl, hi⟩

theorem leafP {A : Nat → Prop} {w : World} (T : ByteArray) (h : (bl T).length ≤ 9223372036854775807) : ItemP A w (.mk false (bl T) []) (.agg #[.bool false, .string T, .slice none 0 0]) := by
  rw [ItemP]; exact ⟨_, rfl, h, .inl ⟨rfl, rfl⟩⟩

def strLen : Value → Nat
  | .string b => b.size
  | _ => 0

theorem cut_bounds {s : List UInt8} {is : Bool} {fr en : Nat} (h : cutL s = some (is, fr, en)) : fr ≤ en ∧ 1 ≤ en ∧ (is = true → 1 ≤ fr) := by
  rcases cut_inv h with ⟨rfl, rfl, rfl, _⟩ | ⟨n, t, _, _, rfl, rfl⟩
  · exact ⟨by omega, by omega, by simp⟩
  · have := headL_pos (frOf is) n
    exact ⟨by omega, by omega, fun _ => this⟩

theorem readL_nil (f : Nat) : readL f [] = none := by
  cases f with
  | zero => rfl
  | succ f => rw [readL]; rfl

theorem readL_some {n : Nat} {s : List UInt8} {is : Bool} {fr en : Nat} (hc : cutL s = some (is, fr, en)) : readL (n + 1) s =
    if s.length < en then none
    else if is = true then (match kidsL n ((s.take en).drop fr) with | none => none | some ks => some (.mk true [] ks, s.drop en))
    else if fr = 1 ∧ en = 2 ∧ (s.getD 1 0).toNat < 128 then none
    else some (.mk false ((s.take en).drop fr) [], s.drop en) := by rw [readL, hc]; rfl

theorem ItemP.set3 {w2 : World} {N : Nat} {k : It} {v : Value} (v0 v1 v2 : Value) (o : Obj) (h : ItemP (fun b => N + 1 ≤ b) w2 k v) :
    ItemP (fun b => N ≤ b) ((((w2.setCell ⟨N, 0, none⟩ v0).setCell ⟨N, 1, none⟩ v1).setCell ⟨N, 2, none⟩ v2).alloc o) k v := by
  refine ItemP.keep (fun a v hA hc => ⟨?_, by omega⟩) _ _ h
  have hal := block_lt_of_cell hc
  have hne : a.block ≠ N := by omega
  rw [World.cell?_of_block (Below.heap_alloc _ o a.block (by simpa [World.setCell] using hal)), World.cell?_of_block (heap_setCell_other _ _ _ _ hne), World.cell?_of_block (heap_setCell_other _ _ _ _ hne), World.cell?_of_block (heap_setCell_other _ _ _ _ hne)]
  exact hc

set_option maxRecDepth 100000 in
set_option maxHeartbeats 2000000 in
theorem read_any (f : Nat) : ∀ (s : ByteArray) (w : World), s.size ≤ 4100 → 2 * s.size ≤ f + 1 →
    Calls Try.prog 32 #[.string s] w (ReadPost (readL f (bl s)) w) := by
  induction f using Nat.strongRecOn with
  | ind f ih =>
  intro s w hs hf
  have KC := Lib.hid (fun w => cut_any s w (by omega))
  have B0 : Hid (Below w.heap.size w (w.alloc (.cells #[.bool false, .string ⟨#[]⟩, .slice none 0 0] 24))) := Lib.hid ((Below.refl _ _).alloc (Nat.le_refl _) _)
  cases hc : cutL (bl s) with
  | none =>
    have hr : readL f (bl s) = none := by
      cases f with
      | zero => rfl
      | succ f => rw [readL, hc]
    rw [hr]
    rw [hc] at KC
    clear ih hc hr
    go_enter Try.func32, Try.ntmps32
    go_wp2_with fail
    refine (KC.out _).mono ?_
    rintro e w1 ⟨rfl, rfl⟩
    exact ⟨rfl, ReadPost.none_mk B0.out⟩
  | some q =>
    obtain ⟨is, fr, en⟩ := q
    obtain ⟨hfe, hen, hfr⟩ := cut_bounds hc
    rw [hc] at KC
    obtain ⟨n, rfl⟩ : ∃ n, f = n + 1 := by
      cases f with
      | zero =>
        have h0 : s.size = 0 := by omega
        have : bl s = [] := List.eq_nil_of_length_eq_zero (by rw [bl_length]; exact h0)
        rw [this] at hc
        cases hc
      | succ n => exact ⟨n, rfl⟩
    have hr := readL_some (n := n) hc
    rw [bl_length] at hr
    simp only [cutE] at KC
    by_cases c1 : s.size < en
    · rw [if_pos c1] at hr
      rw [hr]
      clear ih hc hr hfe hen hfr hf
      go_enter Try.func32, Try.ntmps32
      go_wp2_with fail
      refine (KC.out _).mono ?_
      rintro e w1 ⟨rfl, rfl⟩
      go_wp2
      exact ⟨rfl, ReadPost.none_mk B0.out⟩
    · rw [if_neg c1] at hr
      have hzb : (s.extract fr en).size = en - fr := by rw [ByteArray.size_extract]; omega
      have hbb : bl (s.extract fr en) = ((bl s).take en).drop fr := bl_extract _ _ _
      have hbr : bl (s.extract en s.size) = (bl s).drop en := by rw [bl_extract, stake_all]
      cases is with
      | false =>
        rw [if_neg (by simp)] at hr
        clear ih hfr
        have hT0 : ∀ h : 0 < (s.extract fr en).size, fr = 1 → ((s.extract fr en)[0]'h).toNat = ((bl s).getD 1 0).toNat := fun h e => by
          subst e
          have h1 := sgetD h
          rw [hbb] at h1
          rw [← h1, List.getD, List.getElem?_drop, List.getElem?_take, if_pos (by omega)]
          rfl
        have hen2 : en ≤ s.size := by omega
        rw [← hbb, ← hbr] at hr
        generalize hT : s.extract fr en = T at *
        generalize hU : s.extract en s.size = U at *
        have HR := Lib.hid hr
        have hTl : (bl T).length ≤ 9223372036854775807 := by rw [bl_length]; omega
        clear hr hbb hbr hf hc hen
        by_cases c2 : fr = 1
        · by_cases c3 : en = 2
          · have hz1 : T.size = 1 := by omega
            have h0 : 0 < T.size := by omega
            have ht0 := hT0 h0 c2
            have hs1 : ((T.size : Int) == 1) = true := by rw [hz1]; rfl
            have hf1 : ((fr : Int) == 1) = true := by rw [c2]; rfl
            by_cases c4 : ((bl s).getD 1 0).toNat < 128
            · have hR2 : Hid (readL (n + 1) (bl s) = none) := Lib.hid (by rw [HR.out, if_pos ⟨c2, c3, c4⟩])
              have ht1 : ((T[0]'h0).toNat : Int) < 128 := by omega
              rw [hR2.out]
              clear hT0 c4 ht0 HR hz1 c2 c3 hzb
              go_enter Try.func32, Try.ntmps32
              go_wp2_with fail
              refine (KC.out _).mono ?_
              rintro e w1 ⟨rfl, rfl⟩
              go_wp2
              (refine region_tail 8 mix ?hB ?_; case hB => kernel_rfl); (simp only [List.take_succ_cons, List.take_zero, List.drop_succ_cons, List.drop_zero]; (iterate 8 (with_reducible refine wpStill_step ?_; intro K hK; go_simp; with_reducible refine hK _ ?_; clear hK K)); with_reducible refine wpStill_nil ?_)
              go_wp2
              exact ⟨rfl, ReadPost.none_mk B0.out.drew⟩
            · have hR2 : Hid (readL (n + 1) (bl s) = some (.mk false (bl T) [], bl U)) := Lib.hid (by rw [HR.out, if_neg (fun h => c4 h.2.2)])
              have ht1 : ¬ ((T[0]'h0).toNat : Int) < 128 := by omega
              rw [hR2.out]
              clear hT0 c4 ht0 HR hz1 c2 c3 hzb
              go_enter Try.func32, Try.ntmps32
              go_wp2_with fail
              refine (KC.out _).mono ?_
              rintro e w1 ⟨rfl, rfl⟩
              go_wp2
              (refine region_tail 8 mix ?hB ?_; case hB => kernel_rfl); (simp only [List.take_succ_cons, List.take_zero, List.drop_succ_cons, List.drop_zero]; (iterate 8 (with_reducible refine wpStill_step ?_; intro K hK; go_simp; with_reducible refine hK _ ?_; clear hK K)); with_reducible refine wpStill_nil ?_)
              go_wp2
              refine bodyPost_ret (v := .tuple #[.agg #[.bool false, .string T, .slice none 0 0], .string U]) (by simp [results, Try.results32, go_sem]) rfl ?_
              exact ReadPost.some_mk (t := bl U) ((Below.refl _ _).alloc (Nat.le_refl _) _).drew (leafP T hTl)
          · have hs1 : ((T.size : Int) == 1) = false := by simp; omega
            have hf1 : ((fr : Int) == 1) = true := by rw [c2]; rfl
            have hR2 : Hid (readL (n + 1) (bl s) = some (.mk false (bl T) [], bl U)) := Lib.hid (by rw [HR.out, if_neg (fun h => c3 h.2.1)])
            rw [hR2.out]
            clear hT0 HR c2 c3 hzb
            go_enter Try.func32, Try.ntmps32
            go_wp2_with fail
            refine (KC.out _).mono ?_
            rintro e w1 ⟨rfl, rfl⟩
            go_wp2
            (refine region_tail 8 mix ?hB ?_; case hB => kernel_rfl); (simp only [List.take_succ_cons, List.take_zero, List.drop_succ_cons, List.drop_zero]; (iterate 8 (with_reducible refine wpStill_step ?_; intro K hK; go_simp; with_reducible refine hK _ ?_; clear hK K)); with_reducible refine wpStill_nil ?_)
            go_wp2
            refine bodyPost_ret (v := .tuple #[.agg #[.bool false, .string T, .slice none 0 0], .string U]) (by simp [results, Try.results32, go_sem]) rfl ?_
            exact ReadPost.some_mk (t := bl U) ((Below.refl _ _).alloc (Nat.le_refl _) _).drew (leafP T hTl)
        · have hf1 : ((fr : Int) == 1) = false := by simp; omega
          have hR2 : Hid (readL (n + 1) (bl s) = some (.mk false (bl T) [], bl U)) := Lib.hid (by rw [HR.out, if_neg (fun h => c2 h.1)])
          rw [hR2.out]
          clear hT0 HR c2 hzb
          go_enter Try.func32, Try.ntmps32
          go_wp2_with fail
          refine (KC.out _).mono ?_
          rintro e w1 ⟨rfl, rfl⟩
          go_wp2
          (refine region_tail 8 mix ?hB ?_; case hB => kernel_rfl); (simp only [List.take_succ_cons, List.take_zero, List.drop_succ_cons, List.drop_zero]; (iterate 8 (with_reducible refine wpStill_step ?_; intro K hK; go_simp; with_reducible refine hK _ ?_; clear hK K)); with_reducible refine wpStill_nil ?_)
          go_wp2
          refine bodyPost_ret (v := .tuple #[.agg #[.bool false, .string T, .slice none 0 0], .string U]) (by simp [results, Try.results32, go_sem]) rfl ?_
          exact ReadPost.some_mk (t := bl U) ((Below.refl _ _).alloc (Nat.le_refl _) _).drew (leafP T hTl)
      | true =>
        rw [if_pos rfl] at hr
        have hfr1 := hfr rfl
        have hen2 : en ≤ s.size := by omega
        have hbl : (bl (s.extract fr en)).length = en - fr := by rw [bl_length]; exact hzb
        rw [← hbb, ← hbr] at hr
        have hI : Hid (KInv n (bl (s.extract fr en)) (bl (s.extract fr en)) [] n) := Lib.hid (KInv.start (by omega) (by omega))
        generalize hT : s.extract fr en = T at *
        generalize hU : s.extract en s.size = U at *
        have HR := Lib.hid hr
        have IH := Lib.hid ih
        have HT : Hid (mkS (bl T) = T) := Lib.hid (mk_bl T)
        clear ih hfr hr hbb hbr hc hf hen hbl
        go_enter Try.func32, Try.ntmps32
        go_wp2_with fail
        refine (KC.out _).mono ?_
        rintro e w1 ⟨rfl, rfl⟩
        go_wp2
        (refine region_tail 8 mix ?hB ?_; case hB => kernel_rfl); (simp only [List.take_succ_cons, List.take_zero, List.drop_succ_cons, List.drop_zero]; (iterate 8 (with_reducible refine wpStill_step ?_; intro K hK; go_simp; with_reducible refine hK _ ?_; clear hK K)); with_reducible refine wpStill_nil ?_)
        go_wp2
        have K0 : Hid (KSt w ((w.alloc zeroO).alloc (.cells #[.bool true, .string ⟨#[]⟩, .slice none 0 0] 24)).drew (.slice none 0 0) [] []) := Lib.hid
          ⟨((RowAt.new w _ _).alloc _).drew, (RowAt.new' _ _ _ (by simp)).drew, World.ownsRow_nil _ _ _ _, trivial, (((Below.refl _ _).alloc (Nat.le_refl _) _).alloc (by simp) _).drew⟩
        clear KC B0
        go_loopw [7] (fun s7 wr => ∃ (rest : List UInt8) (ks : List It) (lv : List IV) (kv : Value) (m : Nat), s7 = .string (mkS rest) ∧ KInv n (bl T) rest ks m ∧ KSt w wr kv ks lv) (fun s7 _ => strLen s7)
        case atStart => exact ⟨bl T, [], [], .slice none 0 0, n, rfl, hI.out, K0.out⟩
        case round =>
          clear K0 hI
          obtain ⟨rest, ks, lv, kv, m, rfl, hinv, hst⟩ := hrel
          obtain ⟨p1, c9, rfl, -⟩ := hst.own.parts
          have HI := Lib.hid hinv
          have HK := Lib.hid hst
          clear hinv hst
          by_cases hrest : rest = []
          · subst hrest
            have hse : (mkS []).toList = [] := by rw [toList_bl, bl_mk]
            have hR2 : readL (n + 1) (bl s) = some (.mk true [] ks, bl U) := by rw [HR.out, HI.out.done]
            have HR2 := Lib.hid hR2
            have HD := Lib.hid (HK.out.done (.bool true) (.string ⟨#[]⟩) (.slice p1 lv.length c9))
            have X := HK.out.rowX.c3
            have G := HK.out.rowG
            obtain ⟨x0, x1, x2, xf0, xf1, xf2⟩ := X
            have R0 := G.set 0 (.bool true) (cs' := #[.bool true, .string ⟨#[]⟩, .slice none 0 0]) rfl
            have R1 := R0.set 1 (.string ⟨#[]⟩) (cs' := #[.bool true, .string ⟨#[]⟩, .slice none 0 0]) rfl
            have R2 := R1.set 2 (.slice p1 lv.length c9) (cs' := #[.bool true, .string ⟨#[]⟩, .slice p1 lv.length c9]) rfl
            obtain ⟨c0, c1', c2, f0, f1, f2⟩ := G.c3
            have m0 := R0.c3.1
            have m1 := R1.c3.2.1
            have m2 := R2.c3.2.2.1
            clear G R0 R1 R2 HI HR IH hR2
            go_wp2
            refine bodyPost_ret (v := .tuple #[.agg #[.bool true, .string ⟨#[]⟩, .slice p1 lv.length c9], .string U]) (by simp [results, Try.results32, go_sem, m0, m1, m2]) rfl ?_
            rw [HR2.out]
            exact ReadPost.some_mk (t := bl U) HD.out.2 HD.out.1
          · have hse : ¬ (mkS rest).toList = [] := by rw [toList_bl, bl_mk]; exact hrest
            have hse2 : (mkS rest).toList.isEmpty = false := by rw [toList_bl, bl_mk]; simpa using hrest
            obtain ⟨m', rfl, hm1, hm2⟩ := HI.out.more hrest
            have hlr := HI.out.few
            have KR := IH.out m' hm2 (mkS rest) (wr.alloc zeroO) (by rw [mk_size]; omega) (by rw [mk_size]; omega)
            rw [bl_mk] at KR
            cases hrd : readL m' rest with
            | none =>
              have hst := HI.out.stop hrest hrd
              have hR2 : readL (n + 1) (bl s) = none := by rw [HR.out, hst]
              have HB := Lib.hid (HK.out.below.alloc HK.out.below.size zeroO)
              rw [hR2]
              rw [hrd] at KR
              have KRH := Lib.hid KR
              clear hst hR2 HR KR IH HI HK hrd
              go_wp2_with fail
              refine KRH.out.mono ?_
              rintro e w2 ⟨hb, rfl⟩
              exact ⟨rfl, ReadPost.none_mk (HB.out.trans (hb.mono HB.out.size))⟩
            | some q =>
              obtain ⟨k, t⟩ := q
              rw [hrd] at KR
              have HI2 := Lib.hid (HI.out.step hrest hrd)
              have hless := read_less hrd
              have KRH := Lib.hid KR
              clear KR IH HI hrd
              go_wp2_with fail
              refine KRH.out.mono ?_
              rintro e w2 ⟨hb, v, rfl, hv⟩
              obtain ⟨⟨yl, yb, yp, yn, yc⟩, rfl⟩ := hv.triple
              simp only [IV.val, IV.kids] at hv ⊢
              have RZ : RowAt w2 wr.heap.size #[.bool false, .string ⟨#[]⟩, .slice none 0 0] 24 := (RowAt.new wr _ _).belowS hb
              have hws : wr.heap.size + 1 ≤ w2.heap.size := by have := hb.size; simpa using this
              have R0 := RZ.set 0 (.bool yl) (cs' := #[.bool yl, .string ⟨#[]⟩, .slice none 0 0]) rfl
              have R1 := R0.set 1 (.string yb) (cs' := #[.bool yl, .string yb, .slice none 0 0]) rfl
              have R2 := R1.set 2 (.slice yp yn yc) (cs' := #[.bool yl, .string yb, .slice yp yn yc]) rfl
              obtain ⟨c0, c1', c2, f0, f1, f2⟩ := RZ.c3
              have m0 := R0.c3.1
              have m1 := R1.c3.2.1
              have m2 := R2.c3.2.2.1
              have HB2 : Below wr.heap.size wr w2 := ((Below.refl _ _).alloc (Nat.le_refl _) _).trans (hb.mono (by simp))
              have HB3 := (((HB2.setCell (p := ⟨wr.heap.size, 0, none⟩) (Nat.le_refl _) (.bool yl)).setCell (p := ⟨wr.heap.size, 1, none⟩) (Nat.le_refl _) (.string yb)).setCell (p := ⟨wr.heap.size, 2, none⟩) (Nat.le_refl _) (.slice yp yn yc))
              have HB4 := Lib.hid (HB3.alloc HB3.size (ivO (yl, yb, yp, yn, yc)))
              have hk4 := Lib.hid (ItemP.set3 (N := wr.heap.size) (.bool yl) (.string yb) (.slice yp yn yc) (ivO (yl, yb, yp, yn, yc)) (by simpa using hv))
              have x2 := (HK.out.at4 HB2).2.1.c3.2.2.1
              have x3 := (HK.out.at4 HB3).2.1.c3.2.2.1
              have O4 := Lib.hid (HK.out.at4 HB4.out).2.2.1
              have hll := HK.out.kids.length
              have hgx := HK.out.rowX.lt
              have hgx2 : ¬ w.heap.size + 1 = wr.heap.size := by omega
              clear hv hb RZ R0 R1 R2 HB2 HB3 KRH
              go_wp2_with (at_builtin; refine wpList_append_kid rfl _ _ rfl (w.heap.size + 2) _ lv rfl O4.out ⟨w2.heap.size, 0, none⟩ (yl, yb, yp, yn, yc) rfl ?_ (by omega) (by simp; omega) ?_)
              · exact alloc_cells3 _ (yl, yb, yp, yn, yc) w2.heap.size (by simp [World.setCell])
              · intro v' w5 own5 hg hn
                obtain ⟨p5, c5, rfl, -⟩ := own5.parts
                obtain ⟨t0, t1, t2, tf0, tf1, tf2⟩ := (HK.out.at5 HB4.out hg).c3
                have hk2 := HK.out.step HB4.out hk4.out own5 hg (fun g e => by have := hn g e; simpa [World.setCell] using this)
                simp only [List.length_append, List.length_singleton] at hk2
                have HK2 := Lib.hid hk2
                clear hk2
                clear own5 hg hn HB4 hk4 O4 HK c0 c1' c2 f0 f1 f2 m0 m1 m2 x2 x3
                have hlt : (mkS t).size < (mkS rest).size := by rw [mk_size, mk_size]; exact hless
                go_wp2_with fail
                go_roundw
                case rel => exact ⟨t, _, _, _, m', rfl, HI2.out, HK2.out⟩
                case measure => exact hlt
end Go.Proofs.Ytdeboidelgnffaa
