/- Vote: how many votes are for the same; whether addresses may be. -/
import Derived.Test.YthipnbiilobjeaaVo5
namespace Go.Proofs.Ythipnbiilobjeaa
open Go.RowKit

set_option maxRecDepth 100000 in
set_option maxHeartbeats 4000000 in
theorem count_any (sv v : Value) (l : List Bal) (b : Bal) (w : World) (h : RowE encB w v l) :
    Calls Try.prog 147 #[.agg #[sv, v], balV b] w fun e w' => e = .returned (.int .i64 (cntL l b)) ∧ Below w.heap.size w w' := by
  obtain ⟨p, cap, rfl, h1, h2⟩ := h.shape
  have H := Lib.hid h
  have hl : l.length ≤ 9223372036854775807 := by unfold maxLen at h2; omega
  clear h
  obtain ⟨b1, b2, b3⟩ := b
  go_enter Try.func147, Try.ntmps147
  go_wp2
  go_loopw [5, 11] (fun n c wr => ∃ k : Nat, k ≤ l.length ∧ c = .int .i64 k ∧ n = .int .i64 (cntL (l.take k) (b1, b2, b3)) ∧ Hid (RowAt wr (w.heap.size + 1) #[.string b1, .string b2, .bool b3] 92) ∧ Hid (Below w.heap.size w wr)) (fun _ c _ => l.length - (intOf c).toNat)
  case atStart => exact ⟨0, Nat.zero_le _, rfl, rfl, Lib.hid (RowAt.new' _ _ _ (by simp)), Lib.hid (((Below.refl _ w).alloc (Nat.le_refl _) _).alloc (by simp) _)⟩
  case round =>
    obtain ⟨k, hk, rfl, rfl, hr, hb⟩ := hrel
    by_cases hlt : k < l.length
    · obtain ⟨_, _, _, HA⟩ := (RowE.below encB H.out hb.out (Nat.le_refl _)).atB
      obtain ⟨ad, rfl, c0, c1, c2⟩ := HA k l[k] (List.getElem?_eq_getElem hlt)
      have hst := cntL_step (b := (b1, b2, b3)) hlt
      have hle := cntL_le (l.take k) (b1, b2, b3)
      have htl : (l.take k).length ≤ k := List.length_take_le _ _
      clear HA
      have HB := Lib.hid hb
      have hbz : w.heap.size + 1 < wr.heap.size := hr.out.lt
      have HR := Lib.hid hr.out
      clear hr hb
      generalize hx : l[k] = x at *
      obtain ⟨x1, x2, x3⟩ := x
      obtain ⟨a0, a1, a2, af0, af1, af2⟩ := HR.out.c3
      by_cases e2 : x2 = b2
      · have q2 := seq_true e2
        by_cases e3 : x3 = b3
        · have q3 : (x3 == b3) = true := by simp [e3]
          rw [if_pos ⟨e2, e3⟩] at hst
          go_wp2_with fail
          refine ⟨⟨k + 1, by omega, by simp, by rw [hst]; simp, Lib.hid (HR.out.alloc _), Lib.hid (HB.out.out.alloc (by omega) _)⟩, by simp [intOf]; omega⟩
        · have q3 : (x3 == b3) = false := by simp [e3]
          rw [if_neg (fun h => e3 h.2)] at hst
          go_wp2_with fail
          refine ⟨⟨k + 1, by omega, by simp, by rw [hst]; simp, Lib.hid (HR.out.alloc _), Lib.hid (HB.out.out.alloc (by omega) _)⟩, by simp [intOf]; omega⟩
      · have q2 := seq_false e2
        rw [if_neg (fun h => e2 h.1)] at hst
        go_wp2_with fail
        refine ⟨⟨k + 1, by omega, by simp, by rw [hst]; simp, Lib.hid (HR.out.alloc _), Lib.hid (HB.out.out.alloc (by omega) _)⟩, by simp [intOf]; omega⟩
    · obtain rfl : k = l.length := by omega
      have hcn : cntL (l.take l.length) (b1, b2, b3) = cntL l (b1, b2, b3) := by rw [List.take_length]
      have HB := Lib.hid (Lib.hid hb).out
      clear hb hr
      go_wp2_with fail
      go_ret
      exact ⟨by rw [hcn]; rfl, HB.out.out⟩

/-- Addresses may be the set of validators. -/
def SetOk (l : List ByteArray) : Prop := (∀ (j : Nat) x, l[j]? = some x → x.size = 20) ∧ (∀ (j : Nat) x y, l[j]? = some x → l[j + 1]? = some y → ltS x y = true) ∧ 1 ≤ l.length ∧ l.length ≤ 16
noncomputable def setL (l : List ByteArray) : Bool := @decide (SetOk l) (Classical.propDecidable _)
theorem setL_true {l : List ByteArray} (h : SetOk l) : setL l = true := by unfold setL; exact @decide_eq_true _ (Classical.propDecidable _) h
theorem setL_false {l : List ByteArray} (h : ¬ SetOk l) : setL l = false := by unfold setL; exact @decide_eq_false _ (Classical.propDecidable _) h
theorem setL_iff (l : List ByteArray) : setL l = true ↔ SetOk l := by unfold setL; exact @decide_eq_true_iff _ (Classical.propDecidable _)

/-- What is gone through may be. -/
def SetTo (l : List ByteArray) (k : Nat) : Prop := (∀ (j : Nat) x, j < k → l[j]? = some x → x.size = 20) ∧ (∀ (j : Nat) x y, j + 1 < k → l[j]? = some x → l[j + 1]? = some y → ltS x y = true)
theorem SetTo.step {l : List ByteArray} {k : Nat} {x : ByteArray} (h : SetTo l k) (hx : l[k]? = some x) (hs : x.size = 20) (hp : ∀ j y, k = j + 1 → l[j]? = some y → ltS y x = true) : SetTo l (k + 1) := by
  refine ⟨fun j y hj hy => ?_, fun j y z hj hy hz => ?_⟩
  · by_cases e : j = k
    · subst e; rw [hx] at hy; injection hy with e; subst e; exact hs
    · exact h.1 j y (by omega) hy
  · by_cases e : j + 1 = k
    · subst e; rw [hx] at hz; injection hz with e; subst e; exact hp j y rfl hy
    · exact h.2 j y z (by omega) hy hz
theorem SetTo.all {l : List ByteArray} (h : SetTo l l.length) (h1 : 1 ≤ l.length) (h2 : l.length ≤ 16) : SetOk l :=
  ⟨fun j x hx => h.1 j x (List.getElem?_eq_some_iff.1 hx).1 hx, fun j x y hx hy => h.2 j x y (List.getElem?_eq_some_iff.1 hy).1 hx hy, h1, h2⟩

set_option maxRecDepth 100000 in
set_option maxHeartbeats 4000000 in
theorem set_any (v : Value) (l : List ByteArray) (w : World) (h : RowE encS w v l) (hl : l.length ≤ 1000000) :
    Calls Try.prog 95 #[v] w fun e w' => e = .returned (.bool (setL l)) ∧ w = w' := by
  obtain ⟨p, cap, rfl, h1, h2⟩ := h.shape
  have H := Lib.hid h.atS.2.2.2
  clear h
  go_enter Try.func95, Try.ntmps95
  go_wp2
  go_loop [7] (fun c => ∃ k : Nat, k ≤ l.length ∧ c = .int .i64 k ∧ Hid (SetTo l k)) (fun c => l.length - (intOf c).toNat)
  case atStart => exact ⟨0, Nat.zero_le _, rfl, Lib.hid ⟨fun _ _ h => by omega, fun _ _ _ h => by omega⟩⟩
  case round =>
    obtain ⟨k, hk, rfl, hto⟩ := hrel
    by_cases hlt : k < l.length
    · have hg := List.getElem?_eq_getElem hlt
      obtain ⟨ad, rfl, hc⟩ := H.out k l[k] hg
      generalize l[k] = x at *
      by_cases hs : x.size = 20
      · have hs' : ((x.size : Int) == 20) = true := by simp; omega
        by_cases hk0 : k = 0
        · have hnx := hto.out.step hg hs (fun j y e => by omega)
          subst hk0
          rw [Addr.add_zero'] at hc
          go_wp2_with fail
          refine ⟨⟨1, by omega, by simp, Lib.hid hnx⟩, by simp [intOf]; omega⟩
        · obtain ⟨i, hi⟩ : ∃ i, k = i + 1 := ⟨k - 1, by omega⟩
          have hg0 := List.getElem?_eq_getElem (show i < l.length by omega)
          obtain ⟨_, e, hc0⟩ := H.out i l[i] hg0
          cases e
          generalize l[i] = y at *
          have hgi : l[i + 1]? = some x := by rw [← hi]; exact hg
          have htn : ((k : Int) - 1).toNat = i := by omega
          have hp : (k : Int) > 0 := by omega
          have hp0 : 0 ≤ (k : Int) - 1 := by omega
          have hp1 : (k : Int) - 1 < l.length := by omega
          by_cases hy : ltS y x = true
          · have hnx := hto.out.step hg hs (fun j z e hz => by
              obtain rfl : j = i := by omega
              rw [hg0] at hz
              injection hz with e
              subst e
              exact hy)
            have hy1 := ltS_asym hy
            have hy2 := seq_false (ltS_ne hy).symm
            clear hi hgi hg hg0
            go_wp2_with fail
            refine ⟨⟨k + 1, by omega, by simp, Lib.hid hnx⟩, by simp [intOf]; omega⟩
          · have hno : setL l = false := setL_false (fun h => hy (h.2.1 i y x hg0 hgi))
            have hy' : ltS y x = false := by simpa using hy
            have hy1 : (ltS x y || (x.toList == y.toList)) = true := by rw [← ltS_not, hy']; rfl
            clear hi hgi hg hg0
            go_wp2_with fail
            go_ret
            exact ⟨rfl, rfl⟩
      · have hno : setL l = false := setL_false (fun h => hs (h.1 k x hg))
        go_wp2_with fail
        go_ret
        exact ⟨rfl, rfl⟩
    · obtain rfl : k = l.length := by omega
      by_cases h16 : 1 ≤ l.length ∧ l.length ≤ 16
      · have hyes : setL l = true := setL_true (hto.out.all h16.1 h16.2)
        have h16' := h16.1
        have h16'' : decide ((l.length : Int) ≤ 16) = true := by simp; omega
        go_wp2_with fail
        go_ret
        exact ⟨rfl, rfl⟩
      · have hno : setL l = false := setL_false (fun h => h16 h.2.2)
        go_wp2_with fail
        · go_ret
          have h16'' : decide ((l.length : Int) ≤ 16) = false := by simp; omega
          exact ⟨by rw [h16'']; rfl, rfl⟩
        · go_ret
          exact ⟨rfl, rfl⟩

set_option maxRecDepth 100000 in
set_option maxHeartbeats 4000000 in
theorem rset_any (v : Value) (l : List ByteArray) (w : World) (h : RowE encS w v l) (hl : l.length ≤ 1000000) :
    Calls Try.prog 50 #[v] w fun e w' => e = .returned (.bool (setL l)) ∧ w = w' := by
  obtain ⟨p, cap, rfl, h1, h2⟩ := h.shape
  have H := Lib.hid h.atS.2.2.2
  clear h
  go_enter Try.func50, Try.ntmps50
  go_wp2
  go_loop [7] (fun c => ∃ k : Nat, k ≤ l.length ∧ c = .int .i64 k ∧ Hid (SetTo l k)) (fun c => l.length - (intOf c).toNat)
  case atStart => exact ⟨0, Nat.zero_le _, rfl, Lib.hid ⟨fun _ _ h => by omega, fun _ _ _ h => by omega⟩⟩
  case round =>
    obtain ⟨k, hk, rfl, hto⟩ := hrel
    by_cases hlt : k < l.length
    · have hg := List.getElem?_eq_getElem hlt
      obtain ⟨ad, rfl, hc⟩ := H.out k l[k] hg
      generalize l[k] = x at *
      by_cases hs : x.size = 20
      · have hs' : ((x.size : Int) == 20) = true := by simp; omega
        by_cases hk0 : k = 0
        · have hnx := hto.out.step hg hs (fun j y e => by omega)
          subst hk0
          rw [Addr.add_zero'] at hc
          go_wp2_with fail
          refine ⟨⟨1, by omega, by simp, Lib.hid hnx⟩, by simp [intOf]; omega⟩
        · obtain ⟨i, hi⟩ : ∃ i, k = i + 1 := ⟨k - 1, by omega⟩
          have hg0 := List.getElem?_eq_getElem (show i < l.length by omega)
          obtain ⟨_, e, hc0⟩ := H.out i l[i] hg0
          cases e
          generalize l[i] = y at *
          have hgi : l[i + 1]? = some x := by rw [← hi]; exact hg
          have htn : ((k : Int) - 1).toNat = i := by omega
          have hp : (k : Int) > 0 := by omega
          have hp0 : 0 ≤ (k : Int) - 1 := by omega
          have hp1 : (k : Int) - 1 < l.length := by omega
          by_cases hy : ltS y x = true
          · have hnx := hto.out.step hg hs (fun j z e hz => by
              obtain rfl : j = i := by omega
              rw [hg0] at hz
              injection hz with e
              subst e
              exact hy)
            have hy1 := ltS_asym hy
            have hy2 := seq_false (ltS_ne hy).symm
            clear hi hgi hg hg0
            go_wp2_with fail
            refine ⟨⟨k + 1, by omega, by simp, Lib.hid hnx⟩, by simp [intOf]; omega⟩
          · have hno : setL l = false := setL_false (fun h => hy (h.2.1 i y x hg0 hgi))
            have hy' : ltS y x = false := by simpa using hy
            have hy1 : (ltS x y || (x.toList == y.toList)) = true := by rw [← ltS_not, hy']; rfl
            clear hi hgi hg hg0
            go_wp2_with fail
            go_ret
            exact ⟨rfl, rfl⟩
      · have hno : setL l = false := setL_false (fun h => hs (h.1 k x hg))
        go_wp2_with fail
        go_ret
        exact ⟨rfl, rfl⟩
    · obtain rfl : k = l.length := by omega
      by_cases h16 : 1 ≤ l.length ∧ l.length ≤ 16
      · have hyes : setL l = true := setL_true (hto.out.all h16.1 h16.2)
        have h16' := h16.1
        have h16'' : decide ((l.length : Int) ≤ 16) = true := by simp; omega
        go_wp2_with fail
        go_ret
        exact ⟨rfl, rfl⟩
      · have hno : setL l = false := setL_false (fun h => h16 h.2.2)
        go_wp2_with fail
        · go_ret
          have h16'' : decide ((l.length : Int) ≤ 16) = false := by simp; omega
          exact ⟨by rw [h16'']; rfl, rfl⟩
        · go_ret
          exact ⟨rfl, rfl⟩
end Go.Proofs.Ythipnbiilobjeaa
