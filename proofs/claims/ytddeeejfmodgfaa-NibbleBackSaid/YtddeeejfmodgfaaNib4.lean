/- Nibble: contracts of Unpack, Key. -/
import Derived.Test.YtddeeejfmodgfaaNibP2
namespace Go.Proofs.Ytddeeejfmodgfaa
open Go.RowKit

/-- A list of bytes as a text. -/
def bstr (l : List UInt8) : ByteArray := ⟨l.toArray⟩

theorem bstr_size (l : List UInt8) : (bstr l).size = l.length := by simp [bstr, ByteArray.size]
theorem bstr_tail (x : UInt8) (l : List UInt8) : (bstr (x :: l)).extract 1 (bstr (x :: l)).size = bstr l := by
  apply ByteArray.ext
  apply Array.toList_inj.1
  simp [bstr, ByteArray.size]
theorem bstr_get (x : UInt8) (l : List UInt8) (h : 0 < (bstr (x :: l)).size) : (bstr (x :: l))[0] = x := rfl

/-- What 'Unpack' makes of a flag, of a half byte and of the rest. -/
def unpack3 (f x : UInt8) (r : List UInt8) : Option (List UInt8 × Bool) :=
  if f = 1 then some (x :: r, false) else if f = 3 then some (x :: r, true)
  else if x = 0 ∧ f = 0 then some (r, false) else if x = 0 ∧ f = 2 then some (r, true) else none

theorem flag_cases (f : UInt8) (hf : f.toNat < 16) : (f = 1) ∨ (f = 3) ∨ (f = 0) ∨ (f = 2) ∨ (f.toNat % 2 = 1 ∧ 3 < f.toNat) ∨ (f.toNat % 2 = 0 ∧ 3 < f.toNat) := by
  have e : ∀ n : Nat, n < 16 → f.toNat = n → f = UInt8.ofNat n := fun n _ h => by rw [← h]; simp
  have : f.toNat = 0 ∨ f.toNat = 1 ∨ f.toNat = 2 ∨ f.toNat = 3 ∨ 3 < f.toNat := by omega
  rcases this with h | h | h | h | h
  · exact .inr (.inr (.inl (e 0 (by omega) h)))
  · exact .inl (e 1 (by omega) h)
  · exact .inr (.inr (.inr (.inl (e 2 (by omega) h))))
  · exact .inr (.inl (e 3 (by omega) h))
  · rcases Nat.mod_two_eq_zero_or_one f.toNat with h2 | h2
    · exact .inr (.inr (.inr (.inr (.inr ⟨h2, h⟩))))
    · exact .inr (.inr (.inr (.inr (.inl ⟨h2, h⟩))))

set_option maxHeartbeats 2000000 in
theorem unpack_nil (w : World) : Calls Try.prog 33 #[.string ⟨#[]⟩] w fun e w' => e = .returned (.tuple #[.string ⟨#[]⟩, .bool false, .int .i64 4]) ∧ Below w.heap.size w w' := by
  go_enter Try.func33, Try.ntmps33
  go_wp2
  go_ret3
  exact ⟨rfl, Below.refl _ _⟩

set_option maxHeartbeats 4000000 in
theorem unpack_odd (s : ByteArray) (f x : UInt8) (r : List UInt8) (ends : Bool) (w : World) (hs : s.size ≤ 1000000) (hne : s.toList.isEmpty = false) (ho : ofB s = bstr (f :: x :: r)) (hf : f = if ends then 3 else 1) :
    Calls Try.prog 33 #[.string s] w fun e w' => e = .returned (.tuple #[.string (bstr (x :: r)), .bool ends, .int .i64 0]) ∧ Below w.heap.size w w' := by
  have KO := of_any s
  rw [ho] at KO
  have z1 := bstr_size (f :: x :: r)
  have g0 := bstr_get f (x :: r)
  have t1 := bstr_tail f (x :: r)
  generalize bstr (f :: x :: r) = A at *
  generalize bstr (x :: r) = A1 at *
  have zA : 0 < A.size := by rw [z1]; simp
  have zI : (1 : Int) ≤ (A.size : Int) := by omega
  have HZ := Lib.hid z1
  have KO := Lib.hid KO
  have g0 := g0 zA
  clear z1 ho
  cases ends
  all_goals
    simp at hf
    subst hf
    go_enter Try.func33, Try.ntmps33
    go_wp2_with (first
      | (go_at_call 26; refine (KO.out _ hs).mono ?_; rintro e w1 ⟨rfl, hb1⟩))
    (refine region_tail 5 mix ?hB ?_; case hB => kernel_rfl); (simp only [List.take_succ_cons, List.take_zero, List.drop_succ_cons, List.drop_zero]; (iterate 5 (with_reducible refine wpStill_step ?_; intro K hK; go_simp; with_reducible refine hK _ ?_; clear hK K)); with_reducible refine wpStill_nil ?_)
    go_wp2
    go_ret3
    exact ⟨rfl, hb1.drew⟩

set_option maxHeartbeats 4000000 in
theorem unpack_odd_bad (s : ByteArray) (f x : UInt8) (r : List UInt8) (w : World) (hs : s.size ≤ 1000000) (hne : s.toList.isEmpty = false) (ho : ofB s = bstr (f :: x :: r)) (hf : f.toNat % 2 = 1) (hf3 : 3 < (f.toNat : Int)) :
    Calls Try.prog 33 #[.string s] w fun e w' => e = .returned (.tuple #[.string ⟨#[]⟩, .bool false, .int .i64 4]) ∧ Below w.heap.size w w' := by
  have KO := of_any s
  rw [ho] at KO
  have z1 := bstr_size (f :: x :: r)
  have g0 := bstr_get f (x :: r)
  have t1 := bstr_tail f (x :: r)
  generalize bstr (f :: x :: r) = A at *
  generalize bstr (x :: r) = A1 at *
  have zA : 0 < A.size := by rw [z1]; simp
  have zI : (1 : Int) ≤ (A.size : Int) := by omega
  have KO := Lib.hid KO
  have g0 := g0 zA
  have hp : ((f.toNat : Int) % 2 == 0) = false := by simp; omega
  clear z1 ho hf
  go_enter Try.func33, Try.ntmps33
  go_wp2_with (first
    | (go_at_call 26; refine (KO.out _ hs).mono ?_; rintro e w1 ⟨rfl, hb1⟩))
  (refine region_tail 5 mix ?hB ?_; case hB => kernel_rfl); (simp only [List.take_succ_cons, List.take_zero, List.drop_succ_cons, List.drop_zero]; (iterate 5 (with_reducible refine wpStill_step ?_; intro K hK; go_simp; with_reducible refine hK _ ?_; clear hK K)); with_reducible refine wpStill_nil ?_)
  go_wp2
  go_ret3
  exact ⟨rfl, hb1.drew⟩

set_option maxHeartbeats 4000000 in
theorem unpack_even (s : ByteArray) (f : UInt8) (r : List UInt8) (ends : Bool) (w : World) (hs : s.size ≤ 1000000) (hne : s.toList.isEmpty = false) (ho : ofB s = bstr (f :: 0 :: r)) (hf : f = if ends then 2 else 0) :
    Calls Try.prog 33 #[.string s] w fun e w' => e = .returned (.tuple #[.string (bstr r), .bool ends, .int .i64 0]) ∧ Below w.heap.size w w' := by
  have KO := of_any s
  rw [ho] at KO
  have z1 := bstr_size (f :: 0 :: r)
  have g0 := bstr_get f (0 :: r)
  have t1 := bstr_tail f (0 :: r)
  have z2 := bstr_size (0 :: r)
  have g2 := bstr_get 0 r
  have t2 := bstr_tail 0 r
  generalize bstr (f :: 0 :: r) = A at *
  generalize bstr (0 :: r) = A1 at *
  generalize bstr r = A2 at *
  have zA : 0 < A.size := by rw [z1]; simp
  have zI : (1 : Int) ≤ (A.size : Int) := by omega
  have zA1 : 0 < A1.size := by rw [z2]; simp
  have zI1 : (1 : Int) ≤ (A1.size : Int) := by omega
  have KO := Lib.hid KO
  have g0 := g0 zA
  have g2 := g2 zA1
  clear z1 z2 ho
  cases ends
  all_goals
    simp at hf
    subst hf
    go_enter Try.func33, Try.ntmps33
    go_wp2_with (first
      | (go_at_call 26; refine (KO.out _ hs).mono ?_; rintro e w1 ⟨rfl, hb1⟩))
    (refine region_tail 5 mix ?hB ?_; case hB => kernel_rfl); (simp only [List.take_succ_cons, List.take_zero, List.drop_succ_cons, List.drop_zero]; (iterate 5 (with_reducible refine wpStill_step ?_; intro K hK; go_simp; with_reducible refine hK _ ?_; clear hK K)); with_reducible refine wpStill_nil ?_)
    go_wp2
    go_ret3
    exact ⟨rfl, hb1.drew⟩

set_option maxHeartbeats 4000000 in
theorem unpack_even_bad (s : ByteArray) (f x : UInt8) (r : List UInt8) (w : World) (hs : s.size ≤ 1000000) (hne : s.toList.isEmpty = false) (ho : ofB s = bstr (f :: x :: r)) (hf : f.toNat % 2 = 0) (hx : x.toNat ≠ 0 ∨ (x.toNat = 0 ∧ 3 < (f.toNat : Int))) :
    Calls Try.prog 33 #[.string s] w fun e w' => e = .returned (.tuple #[.string ⟨#[]⟩, .bool false, .int .i64 4]) ∧ Below w.heap.size w w' := by
  have KO := of_any s
  rw [ho] at KO
  have z1 := bstr_size (f :: x :: r)
  have g0 := bstr_get f (x :: r)
  have t1 := bstr_tail f (x :: r)
  have z2 := bstr_size (x :: r)
  have g2 := bstr_get x r
  have t2 := bstr_tail x r
  generalize bstr (f :: x :: r) = A at *
  generalize bstr (x :: r) = A1 at *
  generalize bstr r = A2 at *
  have zA : 0 < A.size := by rw [z1]; simp
  have zI : (1 : Int) ≤ (A.size : Int) := by omega
  have zA1 : 0 < A1.size := by rw [z2]; simp
  have zI1 : (1 : Int) ≤ (A1.size : Int) := by omega
  have KO := Lib.hid KO
  have g0 := g0 zA
  have g2 := g2 zA1
  have hp : ((f.toNat : Int) % 2 == 0) = true := by simp; omega
  clear z1 z2 ho hf
  rcases hx with hx | ⟨hx, hf3⟩
  · have hx1 : ((x.toNat : Int) == 0) = false := by simp; omega
    have hx2 : ((x.toNat : Int) != 0) = true := by simp; omega
    clear hx
    go_enter Try.func33, Try.ntmps33
    go_wp2_with (first
      | (go_at_call 26; refine (KO.out _ hs).mono ?_; rintro e w1 ⟨rfl, hb1⟩))
    (refine region_tail 5 mix ?hB ?_; case hB => kernel_rfl); (simp only [List.take_succ_cons, List.take_zero, List.drop_succ_cons, List.drop_zero]; (iterate 5 (with_reducible refine wpStill_step ?_; intro K hK; go_simp; with_reducible refine hK _ ?_; clear hK K)); with_reducible refine wpStill_nil ?_)
    go_wp2
    go_ret3
    exact ⟨rfl, hb1.drew⟩
  · have hx1 : ((x.toNat : Int) == 0) = true := by simp; omega
    have hx2 : ((x.toNat : Int) != 0) = false := by simp; omega
    clear hx
    go_enter Try.func33, Try.ntmps33
    go_wp2_with (first
      | (go_at_call 26; refine (KO.out _ hs).mono ?_; rintro e w1 ⟨rfl, hb1⟩))
    (refine region_tail 5 mix ?hB ?_; case hB => kernel_rfl); (simp only [List.take_succ_cons, List.take_zero, List.drop_succ_cons, List.drop_zero]; (iterate 5 (with_reducible refine wpStill_step ?_; intro K hK; go_simp; with_reducible refine hK _ ?_; clear hK K)); with_reducible refine wpStill_nil ?_)
    go_wp2
    go_ret3
    exact ⟨rfl, hb1.drew⟩
end Go.Proofs.Ytddeeejfmodgfaa
