/- NibbleKeys: the walk. -/
import Derived.Test.YtddeeejfmodgfaaNib6
namespace Go.Proofs.Ytddeeejfmodgfaa
open Go.RowKit

theorem shareB_self (a : ByteArray) : shareB a a = a.size := by
  have := shareL_self a.data.toList
  simpa [shareB] using this

set_option maxRecDepth 100000 in
set_option maxHeartbeats 4000000 in
theorem keys_any (a b : ByteArray) (w : World) (ha : a.size ≤ 9223372036854775807) (hb : b.size ≤ 9223372036854775807) :
    Calls Try.prog 5 #[.string a, .string b] w fun e w' => e = .returned (.bool true) ∧ Below w.heap.size w w' := by
  have K1 := fun w => short_any a w ha
  have K2 := fun w => short_any b w hb
  have za := shortB_size a
  have zb := shortB_size b
  generalize shortB a = a' at *
  generalize shortB b = b' at *
  have hself := shareB_self a'
  have K1 := Lib.hid K1
  have K2 := Lib.hid K2
  have HB0 := Lib.hid (Below.refl w.heap.size w)
  by_cases hk : rightB b' = true ∧ b'.size % 2 = 0
  · have HK := Lib.hid hk
    clear hk
    go_enter Try.func5, Try.ntmps5
    go_wp2_with fail
    refine (K1.out _).mono ?_
    rintro e w1 ⟨rfl, rfl⟩
    go_wp2_with fail
    refine (K2.out _).mono ?_
    rintro e w1 ⟨rfl, rfl⟩
    go_wp2_with (first
      | (go_at_call 24; refine (chainH (key_yes _ _ (by omega) HK.out.1 HK.out.2) (by assumption)).mono ?_; rintro e wN ⟨rfl, HBN⟩)
      | (go_at_call 25; refine (chainH (rkey_yes _ _ (by omega) HK.out.1 HK.out.2) (by assumption)).mono ?_; rintro e wN ⟨rfl, HBN⟩)
      | (go_at_call 17; refine (chainH (alive09 _) (by assumption)).mono ?_; rintro e wN ⟨rfl, HBN⟩)
      | (go_at_call 26; refine (chainH (of_any _ _ (by omega)) (by assumption)).mono ?_; rintro e wN ⟨rfl, HBN⟩)
      | (go_at_call 27; refine (chainH (rof_any _ _ (by omega)) (by assumption)).mono ?_; rintro e wN ⟨rfl, HBN⟩)
      | (go_at_call 16; refine (chainH (share_any _ _ _ (by omega) (by omega)) (by assumption)).mono ?_; rintro e wN ⟨rfl, HBN⟩)
      | (go_at_call 28; refine (chainH (rshare_any _ _ _ (by omega) (by omega)) (by assumption)).mono ?_; rintro e wN ⟨rfl, HBN⟩))
    go_ret
    exact ⟨rfl, Hid.out (by assumption)⟩
  · have hk' : rightB b' = false ∨ (rightB b' = true ∧ b'.size % 2 = 1) := by
      cases h : rightB b' with
      | false => exact .inl rfl
      | true => exact .inr ⟨rfl, by have : ¬ b'.size % 2 = 0 := fun e => hk ⟨h, e⟩; omega⟩
    have HK := Lib.hid hk'
    clear hk hk'
    go_enter Try.func5, Try.ntmps5
    go_wp2_with fail
    refine (K1.out _).mono ?_
    rintro e w1 ⟨rfl, rfl⟩
    go_wp2_with fail
    refine (K2.out _).mono ?_
    rintro e w1 ⟨rfl, rfl⟩
    go_wp2_with (first
      | (go_at_call 24; refine (chainH (key_no _ _ (by omega) HK.out) (by assumption)).mono ?_; rintro e wN ⟨rfl, HBN⟩)
      | (go_at_call 25; refine (chainH (rkey_no _ _ (by omega) HK.out) (by assumption)).mono ?_; rintro e wN ⟨rfl, HBN⟩)
      | (go_at_call 17; refine (chainH (alive09 _) (by assumption)).mono ?_; rintro e wN ⟨rfl, HBN⟩)
      | (go_at_call 26; refine (chainH (of_any _ _ (by omega)) (by assumption)).mono ?_; rintro e wN ⟨rfl, HBN⟩)
      | (go_at_call 27; refine (chainH (rof_any _ _ (by omega)) (by assumption)).mono ?_; rintro e wN ⟨rfl, HBN⟩)
      | (go_at_call 16; refine (chainH (share_any _ _ _ (by omega) (by omega)) (by assumption)).mono ?_; rintro e wN ⟨rfl, HBN⟩)
      | (go_at_call 28; refine (chainH (rshare_any _ _ _ (by omega) (by omega)) (by assumption)).mono ?_; rintro e wN ⟨rfl, HBN⟩))
    go_ret
    exact ⟨rfl, Hid.out (by assumption)⟩

theorem nibbleKeys_walk (W : World) (a : ByteArray) (ha : a.size ≤ maxLen) (b : ByteArray) (hb : b.size ≤ maxLen) :
    Calls Try.prog 5 #[.string a, .string b] W fun e W' => e = .returned (.bool true) ∧ Below W.heap.size W W' := by
  unfold maxLen at ha hb
  exact keys_any a b W ha hb
end Go.Proofs.Ytddeeejfmodgfaa
