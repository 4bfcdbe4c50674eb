/- Vote: two sets of validators and votes are alike. -/
import Derived.Test.YthipnbiilobjeaaVo22
import Derived.Deep.DeepCutAuto
import Derived.BigRegion
namespace Go.Proofs.Ythipnbiilobjeaa
open Go.RowKit Go.Shelf

noncomputable def likeL (S : List ByteArray) (V : List Bal) (S' : List ByteArray) (V' : List Bal) : Bool := @decide (S = S' ∧ V = V') (Classical.propDecidable _)
theorem likeL_true {S : List ByteArray} {V : List Bal} {S' : List ByteArray} {V' : List Bal} (h : S = S' ∧ V = V') : likeL S V S' V' = true := @decide_eq_true _ (Classical.propDecidable _) h
theorem likeL_false {S : List ByteArray} {V : List Bal} {S' : List ByteArray} {V' : List Bal} (h : ¬ (S = S' ∧ V = V')) : likeL S V S' V' = false := @decide_eq_false _ (Classical.propDecidable _) h
theorem likeL_iff (S : List ByteArray) (V : List Bal) (S' : List ByteArray) (V' : List Bal) : likeL S V S' V' = true ↔ (S = S' ∧ V = V') := @decide_eq_true_iff _ (Classical.propDecidable _)

theorem take_eq_step {α : Type} {l m : List α} {k : Nat} (h : l.take k = m.take k) (h1 : k < l.length) (h2 : k < m.length) (he : l[k] = m[k]) : l.take (k + 1) = m.take (k + 1) := by
  rw [List.take_add_one, List.take_add_one, h, List.getElem?_eq_getElem h1, List.getElem?_eq_getElem h2, he]

set_option maxRecDepth 100000 in
set_option maxHeartbeats 4000000 in
theorem like_any (sa va sb vb : Value) (S : List ByteArray) (V : List Bal) (S' : List ByteArray) (V' : List Bal) (w : World) (hS : RowE encS w sa S) (hV : RowE encB w va V) (hS' : RowE encS w sb S') (hV' : RowE encB w vb V') :
    Calls Try.prog 35 #[.agg #[sa, va], .agg #[sb, vb]] w fun e w' => e = .returned (.bool (likeL S V S' V')) ∧ Below w.heap.size w w' := by
  obtain ⟨pS, cS, rfl, s1, s2⟩ := RowE.shape encS hS
  obtain ⟨pV, cV, rfl, s3, s4⟩ := RowE.shape encB hV
  obtain ⟨pT, cT, rfl, s5, s6⟩ := RowE.shape encS hS'
  obtain ⟨pW, cW, rfl, s7, s8⟩ := RowE.shape encB hV'
  have HS := Lib.hid hS
  have HV := Lib.hid hV
  have HS' := Lib.hid hS'
  have HV' := Lib.hid hV'
  clear hS hV hS' hV'
  generalize hn1 : S'.length = n1 at *
  generalize hn2 : V'.length = n2 at *
  unfold maxLen at s2 s4 s6 s8
  by_cases e1 : S.length = n1
  · by_cases e2 : V.length = n2
    · subst e1 e2
      have N1 := Lib.hid hn1
      have N2 := Lib.hid hn2
      clear hn1 hn2
      have HB := Lib.hid (belowA2 w (.cells #[.slice pS S.length cS, .slice pV V.length cV] 45) (.cells #[.slice pT S.length cT, .slice pW V.length cW] 45))
      have R1 := Lib.hid ((RowAt.new w #[.slice pS S.length cS, .slice pV V.length cV] 45).alloc (.cells #[.slice pT S.length cT, .slice pW V.length cW] 45))
      have R2 := Lib.hid (RowAt.new' (w.alloc (.cells #[.slice pS S.length cS, .slice pV V.length cV] 45)) #[.slice pT S.length cT, .slice pW V.length cW] 45 (k := w.heap.size + 1) (by simp))
      go_enter Try.func35, Try.ntmps35
      go_wp2
      go_loopw [5, 26] (fun _ c wr => ∃ k : Nat, k ≤ S.length ∧ c = .int .i64 k ∧ Hid (S.take k = S'.take k) ∧ Hid (RowAt wr w.heap.size #[.slice pS S.length cS, .slice pV V.length cV] 45) ∧ Hid (RowAt wr (w.heap.size + 1) #[.slice pT S.length cT, .slice pW V.length cW] 45) ∧ Hid (Below w.heap.size w wr)) (fun _ c _ => S.length - (intOf c).toNat)
      case atStart => exact ⟨0, Nat.zero_le _, rfl, Lib.hid (by simp), R1, R2, HB⟩
      case round =>
        obtain ⟨k, hk, rfl, ht, hr1, hr2, hb⟩ := hrel
        clear R1 R2 HB
        have R1 := Lib.hid hr1.out
        have R2 := Lib.hid hr2.out
        have HB := Lib.hid hb.out
        have HT := Lib.hid ht.out
        clear hr1 hr2 hb ht
        obtain ⟨x0, x1, xf0, xf1⟩ := R1.out.c2
        obtain ⟨y0, y1, yf0, yf1⟩ := R2.out.c2
        by_cases hlt : k < S.length
        · have hlt2 : k < S'.length := by rw [N1.out]; exact hlt
          obtain ⟨-, -, -, HA⟩ := (RowE.below encS HS.out HB.out (Nat.le_refl _)).atS
          obtain ⟨a, rfl, c0⟩ := HA k S[k] (List.getElem?_eq_getElem hlt)
          obtain ⟨-, -, -, HA'⟩ := (RowE.below encS HS'.out HB.out (Nat.le_refl _)).atS
          obtain ⟨a', rfl, c0'⟩ := HA' k S'[k] (List.getElem?_eq_getElem hlt2)
          clear HA HA'
          by_cases e : S[k] = S'[k]
          · have hst := Lib.hid (take_eq_step HT.out hlt hlt2 e)
            rw [← e] at c0'
            generalize S[k] = z at *
            clear e
            go_wp2
            go_region
            go_wp2
            go_roundw
            case rel => exact ⟨k + 1, by omega, by simp, hst, Lib.hid R1.out.drew, Lib.hid R2.out.drew, Lib.hid HB.out.drew⟩
            case measure => simp [intOf]; omega
          · have hno : Hid (likeL S V S' V' = false) := Lib.hid (likeL_false fun h => e (by cases h.1; rfl))
            have q := seq_false e
            generalize S[k] = z at *
            generalize S'[k] = z' at *
            clear e
            go_wp2
            go_region
            go_wp2
            go_ret
            exact ⟨by rw [hno.out]; rfl, HB.out.drew⟩
        · obtain rfl : k = S.length := by omega
          have HSS : Hid (S = S') := Lib.hid (by
            have := HT.out
            rw [List.take_length] at this
            rw [this, ← N1.out, List.take_length])
          go_wp2
          clear x0 x1 xf0 xf1 y0 y1 yf0 yf1 HT
          go_loopw [6, 44] (fun _ c wr => ∃ k : Nat, k ≤ V.length ∧ c = .int .i64 k ∧ Hid (V.take k = V'.take k) ∧ Hid (RowAt wr w.heap.size #[.slice pS S.length cS, .slice pV V.length cV] 45) ∧ Hid (RowAt wr (w.heap.size + 1) #[.slice pT S.length cT, .slice pW V.length cW] 45) ∧ Hid (Below w.heap.size w wr)) (fun _ c _ => V.length - (intOf c).toNat)
          case atStart => exact ⟨0, Nat.zero_le _, rfl, Lib.hid (by simp), R1, R2, HB⟩
          case round =>
            obtain ⟨k, hk, rfl, ht, hr1, hr2, hb⟩ := hrel
            clear R1 R2 HB
            have R1 := Lib.hid hr1.out
            have R2 := Lib.hid hr2.out
            have HB := Lib.hid hb.out
            have HT := Lib.hid ht.out
            clear hr1 hr2 hb ht
            obtain ⟨x0, x1, xf0, xf1⟩ := R1.out.c2
            obtain ⟨y0, y1, yf0, yf1⟩ := R2.out.c2
            by_cases hlt : k < V.length
            · have hlt2 : k < V'.length := by rw [N2.out]; exact hlt
              obtain ⟨-, -, -, HA⟩ := (RowE.below encB HV.out HB.out (Nat.le_refl _)).atB
              obtain ⟨a, rfl, c0, c1, c2⟩ := HA k V[k] (List.getElem?_eq_getElem hlt)
              obtain ⟨-, -, -, HA'⟩ := (RowE.below encB HV'.out HB.out (Nat.le_refl _)).atB
              obtain ⟨a', rfl, d0, d1, d2⟩ := HA' k V'[k] (List.getElem?_eq_getElem hlt2)
              clear HA HA'
              by_cases e : V[k] = V'[k]
              · have hst := Lib.hid (take_eq_step HT.out hlt hlt2 e)
                rw [← e] at d0 d1 d2
                generalize V[k] = z at *
                clear e
                obtain ⟨z1, z2, z3⟩ := z
                simp only at c0 c1 c2 d0 d1 d2
                go_wp2
                go_region
                go_wp2
                exact ⟨⟨k + 1, by omega, by simp, hst, Lib.hid R1.out.drew, Lib.hid R2.out.drew, Lib.hid HB.out.drew⟩, by simp [intOf]; omega⟩
              · have hno : Hid (likeL S V S' V' = false) := Lib.hid (likeL_false fun h => e (by cases h.2; rfl))
                generalize V[k] = z at *
                generalize V'[k] = z' at *
                obtain ⟨z1, z2, z3⟩ := z
                obtain ⟨u1, u2, u3⟩ := z'
                simp only at c0 c1 c2 d0 d1 d2
                by_cases f1 : z1 = u1
                · subst f1
                  by_cases f2 : z2 = u2
                  · subst f2
                    have f3 : ¬ z3 = u3 := fun h => e (by rw [h])
                    clear e
                    go_wp2
                    go_region
                    go_wp2
                    go_ret
                    exact ⟨by rw [hno.out]; rfl, HB.out.drew⟩
                  · have q : ¬ z2.toList = u2.toList := by simpa using seq_false f2
                    clear e f2
                    go_wp2
                    go_region
                    go_wp2
                    go_ret
                    exact ⟨by rw [hno.out]; rfl, HB.out.drew⟩
                · have q : ¬ z1.toList = u1.toList := by simpa using seq_false f1
                  clear e f1
                  go_wp2
                  go_region
                  go_wp2
                  go_ret
                  exact ⟨by rw [hno.out]; rfl, HB.out.drew⟩
            · obtain rfl : k = V.length := by omega
              have hyes : Hid (likeL S V S' V' = true) := Lib.hid (likeL_true ⟨HSS.out, by
                have := HT.out
                rw [List.take_length] at this
                rw [this, ← N2.out, List.take_length]⟩)
              go_wp2
              go_ret
              exact ⟨by rw [hyes.out]; rfl, HB.out⟩
    · have hno : Hid (likeL S V S' V' = false) := Lib.hid (likeL_false fun h => e2 (by rw [← hn2, h.2]))
      have hq : ¬ (V.length : Int) = (n2 : Int) := by omega
      subst e1
      clear hn1 hn2 e2
      go_enter Try.func35, Try.ntmps35
      go_wp2
      go_ret
      exact ⟨by rw [hno.out]; rfl, belowA2 w _ _⟩
  · have hno : Hid (likeL S V S' V' = false) := Lib.hid (likeL_false fun h => e1 (by rw [← hn1, h.1]))
    have hq : ¬ (S.length : Int) = (n1 : Int) := by omega
    clear hn1 hn2 e1
    go_enter Try.func35, Try.ntmps35
    go_wp2
    go_ret
    exact ⟨by rw [hno.out]; rfl, belowA2 w _ _⟩
end Go.Proofs.Ythipnbiilobjeaa
