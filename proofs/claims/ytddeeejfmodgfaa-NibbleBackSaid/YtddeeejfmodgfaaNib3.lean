/- Nibble: contracts of Pack, alive. -/
import Derived.Test.YtddeeejfmodgfaaNib2
namespace Go.Proofs.Ytddeeejfmodgfaa
open Go.RowKit

/-- The flag of a part: odd or even, an end or none. -/
def flagB (part : ByteArray) (ends : Bool) : UInt8 := UInt8.ofNat (part.size % 2) + (if ends then 2 else 0)
def aheadB (part : ByteArray) (ends : Bool) : ByteArray := if part.size % 2 = 0 then ⟨#[flagB part ends, 0]⟩ else ⟨#[flagB part ends]⟩
def packB (part : ByteArray) (ends : Bool) : ByteArray := joinB (aheadB part ends ++ part)

set_option maxHeartbeats 2000000 in
theorem pack_no (part : ByteArray) (ends : Bool) (w : World) (hs : part.size ≤ 1000000) (h : rightB part = false) :
    Calls Try.prog 32 #[.string part, .bool ends] w fun e w' => e = .returned (.tuple #[.string ⟨#[]⟩, .int .i64 1]) ∧ w = w' := by
  have HR := Lib.hid h
  clear h
  go_enter Try.func32, Try.ntmps32
  go_wp2_with (first
    | (go_at_call 57; refine (right_no _ _ (by omega) HR.out).mono ?_; rintro e w1 ⟨rfl, rfl⟩))
  go_ret2
  exact ⟨rfl, rfl⟩

theorem pack_odd_flag (part : ByteArray) (h : part.size % 2 = 1) : flagB part false = 1 ∧ flagB part true = 3 := by
  unfold flagB; rw [h]; decide
theorem pack_even_flag (part : ByteArray) (h : part.size % 2 = 0) : flagB part false = 0 ∧ flagB part true = 2 := by
  unfold flagB; rw [h]; decide

set_option maxHeartbeats 2000000 in
theorem pack_odd (part : ByteArray) (ends : Bool) (w : World) (hs : part.size ≤ 1000000) (h : rightB part = true) (hp : part.size % 2 = 1) :
    Calls Try.prog 32 #[.string part, .bool ends] w fun e w' => e = .returned (.tuple #[.string (packB part ends), .int .i64 0]) ∧ Below w.heap.size w w' := by
  have HR := Lib.hid h
  have hfl := pack_odd_flag part hp
  have ha : aheadB part ends = ⟨#[flagB part ends]⟩ := by unfold aheadB; rw [if_neg (by omega)]
  have e1 : ((part.size : Int) % 2) = 1 := by omega
  have hpk : packB part ends = joinB (⟨#[flagB part ends]⟩ ++ part) := by unfold packB; rw [ha]
  have HP := Lib.hid hpk
  have hsz : ((⟨#[flagB part ends]⟩ : ByteArray) ++ part).size ≤ 1000001 := by rw [ByteArray.size_append]; show 1 + part.size ≤ _; omega
  have HZ := Lib.hid hsz
  clear h hp ha hpk hsz
  cases ends
  · have cv := Lib.hid (fun (w : World) => (OwnB.one (w := w) (Nat.le_refl _) 1 (x := 1) (by decide)).conv)
    rw [hfl.1] at HP HZ
    clear hfl
    have cv' := cv.out
    clear cv
    go_enter Try.func32, Try.ntmps32
    go_wp2_with (first
      | (go_at_call 57; refine (right_yes _ _ (by omega) HR.out).mono ?_; rintro e w1 ⟨rfl, rfl⟩)
      | (go_at_call 58; refine (join_any _ _ (Nat.le_trans HZ.out (by omega)) (Nat.le_trans HZ.out (by omega))).mono ?_; rintro e w1 ⟨rfl, hb1⟩))
    go_ret2
    rw [HP.out]
    exact ⟨rfl, ((Below.refl _ _).alloc (Nat.le_refl _) _).trans (hb1.mono (by simp))⟩
  · have cv := fun (w : World) => (OwnB.one (w := w) (Nat.le_refl _) 3 (x := 3) (by decide)).conv
    rw [hfl.2] at HP HZ
    clear hfl
    go_enter Try.func32, Try.ntmps32
    go_wp2_with (first
      | (go_at_call 57; refine (right_yes _ _ (by omega) HR.out).mono ?_; rintro e w1 ⟨rfl, rfl⟩)
      | (go_at_call 58; refine (join_any _ _ (Nat.le_trans HZ.out (by omega)) (Nat.le_trans HZ.out (by omega))).mono ?_; rintro e w1 ⟨rfl, hb1⟩))
    go_ret2
    rw [HP.out]
    exact ⟨rfl, ((Below.refl _ _).alloc (Nat.le_refl _) _).trans (hb1.mono (by simp))⟩

set_option maxHeartbeats 2000000 in
theorem pack_even (part : ByteArray) (ends : Bool) (w : World) (hs : part.size ≤ 1000000) (h : rightB part = true) (hp : part.size % 2 = 0) :
    Calls Try.prog 32 #[.string part, .bool ends] w fun e w' => e = .returned (.tuple #[.string (packB part ends), .int .i64 0]) ∧ Below w.heap.size w w' := by
  have HR := Lib.hid h
  have hfl := pack_even_flag part hp
  have ha : aheadB part ends = ⟨#[flagB part ends, 0]⟩ := by unfold aheadB; rw [if_pos hp]
  have e1 : ((part.size : Int) % 2) = 0 := by omega
  have hpk : packB part ends = joinB (⟨#[flagB part ends, 0]⟩ ++ part) := by unfold packB; rw [ha]
  have HP := Lib.hid hpk
  have hsz : ((⟨#[flagB part ends, 0]⟩ : ByteArray) ++ part).size ≤ 1000002 := by rw [ByteArray.size_append]; show 2 + part.size ≤ _; omega
  have HZ := Lib.hid hsz
  clear h hp ha hpk hsz
  cases ends
  · rw [hfl.1] at HP HZ
    clear hfl
    go_enter Try.func32, Try.ntmps32
    go_wp2_with (first
      | (go_at_call 57; refine (right_yes _ _ (by omega) HR.out).mono ?_; rintro e w1 ⟨rfl, rfl⟩)
      | (at_builtin; refine wpList_append_bytes rfl _ _ rfl w.heap.size _ [0] rfl ((OwnB.one (Nat.le_refl _) (x := 0) 0 (by decide)).alloc _) ⟨w.heap.size + 1, 0, none⟩ 1 1 [0] rfl rfl (one_cell_at (w := w.alloc (.cells #[.int .u8 0] 5)) (x := 0) (b := 0) (by decide) (by simp)) (by decide) (by simp <;> omega) ?_; intro v' w1 hown1 hb1 hz1; have hcv := hown1.conv)
      | (go_at_call 58; refine (join_any _ _ (Nat.le_trans HZ.out (by omega)) (Nat.le_trans HZ.out (by omega))).mono ?_; rintro e w2 ⟨rfl, hb2⟩))
    go_ret2
    rw [HP.out]
    have B1 := hb1 _ (((Below.refl w.heap.size w).alloc (Nat.le_refl _) _).alloc (by simp <;> omega) _)
    exact ⟨rfl, B1.trans (hb2.mono B1.size)⟩
  · rw [hfl.2] at HP HZ
    clear hfl
    go_enter Try.func32, Try.ntmps32
    go_wp2_with (first
      | (go_at_call 57; refine (right_yes _ _ (by omega) HR.out).mono ?_; rintro e w1 ⟨rfl, rfl⟩)
      | (at_builtin; refine wpList_append_bytes rfl _ _ rfl w.heap.size _ [2] rfl ((OwnB.one (Nat.le_refl _) (x := 2) 2 (by decide)).alloc _) ⟨w.heap.size + 1, 0, none⟩ 1 1 [0] rfl rfl (one_cell_at (w := w.alloc (.cells #[.int .u8 2] 5)) (x := 0) (b := 0) (by decide) (by simp)) (by decide) (by simp <;> omega) ?_; intro v' w1 hown1 hb1 hz1; have hcv := hown1.conv)
      | (go_at_call 58; refine (join_any _ _ (Nat.le_trans HZ.out (by omega)) (Nat.le_trans HZ.out (by omega))).mono ?_; rintro e w2 ⟨rfl, hb2⟩))
    go_ret2
    rw [HP.out]
    have B1 := hb1 _ (((Below.refl w.heap.size w).alloc (Nat.le_refl _) _).alloc (by simp <;> omega) _)
    exact ⟨rfl, B1.trans (hb2.mono B1.size)⟩

theorem pack_yes (part : ByteArray) (ends : Bool) (w : World) (hs : part.size ≤ 1000000) (h : rightB part = true) :
    Calls Try.prog 32 #[.string part, .bool ends] w fun e w' => e = .returned (.tuple #[.string (packB part ends), .int .i64 0]) ∧ Below w.heap.size w w' := by
  rcases Nat.mod_two_eq_zero_or_one part.size with hp | hp
  · exact pack_even part ends w hs h hp
  · exact pack_odd part ends w hs h hp

theorem pack_123 (w : World) : Calls Try.prog 32 #[.string ⟨#[1, 2, 3]⟩, .bool false] w fun e w' => e = .returned (.tuple #[.string ⟨#[17, 35]⟩, .int .i64 0]) ∧ Below w.heap.size w w' := by
  have h := pack_yes ⟨#[1, 2, 3]⟩ false w (by decide) (by decide +kernel)
  have e : packB ⟨#[1, 2, 3]⟩ false = ⟨#[17, 35]⟩ := by decide +kernel
  rwa [e] at h

set_option maxHeartbeats 2000000 in
theorem alive09 (w : World) : Calls Try.prog 17 #[] w fun e w' => e = .returned (.bool true) ∧ Below w.heap.size w w' := by
  go_enter Try.func17, Try.ntmps17
  go_wp2_with (first
    | (go_at_call 32; refine (pack_123 _).mono ?_; rintro e w1 ⟨rfl, hb1⟩))
  go_ret
  exact ⟨rfl, hb1⟩

/-- A text cut to 500 bytes. -/
def shortB (s : ByteArray) : ByteArray := s.extract 0 500

theorem shortB_size (s : ByteArray) : (shortB s).size ≤ 500 := by unfold shortB; rw [ByteArray.size_extract]; omega

set_option maxHeartbeats 2000000 in
theorem short_any (s : ByteArray) (w : World) (hs : s.size ≤ 9223372036854775807) :
    Calls Try.prog 15 #[.string s] w fun e w' => e = .returned (.string (shortB s)) ∧ w = w' := by
  by_cases h : s.size ≤ 500
  · have e : s.extract 0 s.size = shortB s := by
      unfold shortB
      apply ByteArray.ext
      simp only [ByteArray.data_extract]
      apply Array.ext_getElem?
      intro i
      simp only [Array.getElem?_extract]
      split <;> split <;> first | rfl | (simp at *; omega)
    have he := Lib.hid e
    clear e
    go_enter Try.func15, Try.ntmps15
    go_wp2
    go_ret
    exact ⟨by rw [← he.out]; simp, rfl⟩
  · go_enter Try.func15, Try.ntmps15
    go_wp2
    go_ret
    exact ⟨rfl, rfl⟩
end Go.Proofs.Ytddeeejfmodgfaa
