/- Nibble: the reference's Pack and Unpack; what Unpack answers, in one word. -/
import Derived.Test.YtddeeejfmodgfaaNibKeys
namespace Go.Proofs.Ytddeeejfmodgfaa
open Go.RowKit

theorem packB_eq (part : ByteArray) (ends : Bool) : packB part ends = bstr (packL part.data.toList ends) := by
  unfold packB joinB packL bstr
  congr 2
  congr 1
  rw [ByteArray.data_append, Array.toList_append]
  congr 1
  unfold aheadB
  have e : part.data.toList.length = part.size := by simp
  rw [e]
  rcases Nat.mod_two_eq_zero_or_one part.size with hp | hp
  · rw [if_pos hp, if_pos hp]
    have := pack_even_flag part hp
    cases ends
    · rw [this.1]; rfl
    · rw [this.2]; rfl
  · rw [if_neg (by omega), if_neg (by omega)]
    have := pack_odd_flag part hp
    cases ends
    · rw [this.1]; rfl
    · rw [this.2]; rfl

set_option maxHeartbeats 2000000 in
theorem rpack_any (part : ByteArray) (ends : Bool) (w : World) (hs : part.size ≤ 100000) :
    Calls Try.prog 36 #[.string part, .bool ends] w fun e w' => e = .returned (.string (packB part ends)) ∧ Below w.heap.size w w' := by
  rcases Nat.mod_two_eq_zero_or_one part.size with hp | hp
  · have hfl := pack_even_flag part hp
    have ha : aheadB part ends = ⟨#[flagB part ends, 0]⟩ := by unfold aheadB; rw [if_pos hp]
    have e1 : ((part.size : Int) % 2) = 0 := by omega
    have hpk : packB part ends = joinB (⟨#[flagB part ends, 0]⟩ ++ part) := by unfold packB; rw [ha]
    have HP := Lib.hid hpk
    have hsz : ((⟨#[flagB part ends, 0]⟩ : ByteArray) ++ part).size ≤ 1000000 := by rw [ByteArray.size_append]; show 2 + part.size ≤ _; omega
    have HZ := Lib.hid hsz
    clear hp ha hpk hsz
    cases ends
    · have cv := fun (w : World) => (OwnB.two (w := w) (Nat.le_refl _) 0 0 (x := 0) (y := 0) (by decide) (by decide)).conv
      rw [hfl.1] at HP HZ
      clear hfl
      go_enter Try.func36, Try.ntmps36
      go_wp2_with (first
        | (go_at_call 59; refine (rbytes_any _ _ HZ.out).mono ?_; rintro e w1 ⟨rfl, hb1⟩))
      go_ret
      rw [HP.out]
      exact ⟨rfl, ((Below.refl _ _).alloc (Nat.le_refl _) _).trans (hb1.mono (by simp))⟩
    · have cv := fun (w : World) => (OwnB.two (w := w) (Nat.le_refl _) 2 0 (x := 2) (y := 0) (by decide) (by decide)).conv
      rw [hfl.2] at HP HZ
      clear hfl
      go_enter Try.func36, Try.ntmps36
      go_wp2_with (first
        | (go_at_call 59; refine (rbytes_any _ _ HZ.out).mono ?_; rintro e w1 ⟨rfl, hb1⟩))
      go_ret
      rw [HP.out]
      exact ⟨rfl, ((Below.refl _ _).alloc (Nat.le_refl _) _).trans (hb1.mono (by simp))⟩
  · have hfl := pack_odd_flag part hp
    have ha : aheadB part ends = ⟨#[flagB part ends]⟩ := by unfold aheadB; rw [if_neg (by omega)]
    have e1 : ((part.size : Int) % 2) = 1 := by omega
    have hpk : packB part ends = joinB (⟨#[flagB part ends]⟩ ++ part) := by unfold packB; rw [ha]
    have HP := Lib.hid hpk
    have hsz : ((⟨#[flagB part ends]⟩ : ByteArray) ++ part).size ≤ 1000000 := by rw [ByteArray.size_append]; show 1 + part.size ≤ _; omega
    have HZ := Lib.hid hsz
    clear hp ha hpk hsz
    cases ends
    · have cv := fun (w : World) => (OwnB.one (w := w) (Nat.le_refl _) 1 (x := 1) (by decide)).conv
      rw [hfl.1] at HP HZ
      clear hfl
      go_enter Try.func36, Try.ntmps36
      go_wp2_with (first
        | (go_at_call 59; refine (rbytes_any _ _ HZ.out).mono ?_; rintro e w1 ⟨rfl, hb1⟩))
      go_ret
      rw [HP.out]
      exact ⟨rfl, ((Below.refl _ _).alloc (Nat.le_refl _) _).trans (hb1.mono (by simp))⟩
    · have cv := fun (w : World) => (OwnB.one (w := w) (Nat.le_refl _) 3 (x := 3) (by decide)).conv
      rw [hfl.2] at HP HZ
      clear hfl
      go_enter Try.func36, Try.ntmps36
      go_wp2_with (first
        | (go_at_call 59; refine (rbytes_any _ _ HZ.out).mono ?_; rintro e w1 ⟨rfl, hb1⟩))
      go_ret
      rw [HP.out]
      exact ⟨rfl, ((Below.refl _ _).alloc (Nat.le_refl _) _).trans (hb1.mono (by simp))⟩

/-- What 'Unpack' answers. -/
def unpackV : Option (List UInt8 × Bool) → Value
  | some (p, e) => .tuple #[.string (bstr p), .bool e, .int .i64 0]
  | none => .tuple #[.string ⟨#[]⟩, .bool false, .int .i64 4]

theorem ofB_eq (s : ByteArray) : ofB s = bstr (ofL s.data.toList) := rfl

theorem isEmpty_of {s : ByteArray} (h : s.data.toList ≠ []) : s.toList.isEmpty = false := by
  rw [ByteArray.toList_eq]
  simpa using h

theorem ofL_cases (l : List UInt8) : l = [] ∨ ∃ f x r, ofL l = f :: x :: r ∧ f.toNat < 16 ∧ l ≠ [] := by
  cases l with
  | nil => exact .inl rfl
  | cons a l =>
    refine .inr ⟨a / 16, a % 16, ofL l, rfl, ?_, by simp⟩
    have := a.toNat_lt
    simp
    omega

theorem unpack_any (s : ByteArray) (w : World) (hs : s.size ≤ 1000000) :
    Calls Try.prog 33 #[.string s] w fun e w' => e = .returned (unpackV (unpackL s.data.toList)) ∧ Below w.heap.size w w' := by
  rcases ofL_cases s.data.toList with h | ⟨f, x, r, ho, hf, hne⟩
  · have : s = ⟨#[]⟩ := by apply ByteArray.ext; apply Array.toList_inj.1; simpa using h
    subst this
    exact unpack_nil w
  · have hem := isEmpty_of hne
    have hB : ofB s = bstr (f :: x :: r) := by rw [ofB_eq, ho]
    unfold unpackL
    rw [ho]
    rcases flag_cases f hf with h | h | h | h | ⟨h, h3⟩ | ⟨h, h3⟩
    · subst h
      exact unpack_odd s 1 x r false w hs hem hB rfl
    · subst h
      exact unpack_odd s 3 x r true w hs hem hB rfl
    · subst h
      by_cases hx : x = 0
      · subst hx
        exact unpack_even s 0 r false w hs hem hB rfl
      · have := unpack_even_bad s 0 x r w hs hem hB rfl (.inl fun e => hx (UInt8.toNat_inj.1 e))
        simpa [hx, unpackV] using this
    · subst h
      by_cases hx : x = 0
      · subst hx
        exact unpack_even s 2 r true w hs hem hB rfl
      · have := unpack_even_bad s 2 x r w hs hem hB rfl (.inl fun e => hx (UInt8.toNat_inj.1 e))
        simpa [hx, unpackV] using this
    · have := unpack_odd_bad s f x r w hs hem hB h (by omega)
      have n1 : f ≠ 1 := by intro e; subst e; simp at h3
      have n2 : f ≠ 3 := by intro e; subst e; simp at h3
      have n3 : f ≠ 0 := by intro e; subst e; simp at h3
      have n4 : f ≠ 2 := by intro e; subst e; simp at h3
      simpa [n1, n2, n3, n4, unpackV] using this
    · have := unpack_even_bad s f x r w hs hem hB h (by by_cases hx : x.toNat = 0; exact .inr ⟨hx, by omega⟩; exact .inl hx)
      have n1 : f ≠ 1 := by intro e; subst e; simp at h3
      have n2 : f ≠ 3 := by intro e; subst e; simp at h3
      have n3 : f ≠ 0 := by intro e; subst e; simp at h3
      have n4 : f ≠ 2 := by intro e; subst e; simp at h3
      simpa [n1, n2, n3, n4, unpackV] using this
end Go.Proofs.Ytddeeejfmodgfaa
