/- CrcScans: the walk. -/
import Derived.Test.YtddeeejfmodgfaaCrc6
namespace Go.Proofs.Ytddeeejfmodgfaa
open Go.RowKit

set_option maxHeartbeats 4000000 in
theorem scans_any (s : ByteArray) (w : World) (hs : s.size ≤ 9223372036854775807) :
    Calls Try.prog 6 #[.string s] w fun e w' => e = .returned (.bool true) ∧ Below w.heap.size w w' := by
  obtain ⟨m, hm⟩ := minIs_ex 9000 (by omega) s.size
  obtain ⟨m1, m2, m3⟩ := hm
  have zT : (s.extract 0 m).size = m := by rw [ByteArray.size_extract]; omega
  have K1 := Lib.hid (fun w => crcScan_any (s.extract 0 m) w (by omega))
  have K2 := Lib.hid (fun w => rcrcScan_any (s.extract 0 m) w (by omega))
  clear zT
  unfold Scanned at K1 K2
  generalize scanL (bl (s.extract 0 m)) = R at *
  obtain ⟨R1, R2⟩ := R
  generalize R1.map mkS = L at *
  go_enter Try.func6, Try.ntmps6
  go_wp2_with fail
  refine (K1.out _).mono ?_
  rintro e w1 ⟨v1, rfl, o1, b1⟩
  have O1 := Lib.hid o1.row
  have B1 := Lib.hid b1
  clear o1 b1
  go_wp2_with fail
  refine (K2.out _).mono ?_
  rintro e w2 ⟨v2, rfl, o2, b2⟩
  have O1 := Lib.hid (O1.out.below b2 (Nat.le_refl _))
  have O2 := Lib.hid o2.row
  have B2 := Lib.hid (B1.out.trans (b2.mono B1.out.size))
  clear o2 b2
  go_wp2_with fail
  refine (alive05 _).mono ?_
  rintro e w3 ⟨rfl, b3⟩
  have O1 := Lib.hid (O1.out.below b3 (Nat.le_refl _))
  have O2 := Lib.hid (O2.out.below b3 (Nat.le_refl _))
  have B3 := Lib.hid (B2.out.trans (b3.mono B2.out.size))
  clear b3
  go_wp2_with fail
  refine (same_yes v1 v2 L _ O1.out O2.out).mono ?_
  rintro e w4 ⟨rfl, b4⟩
  have B4 := Lib.hid (B3.out.trans (b4.mono B3.out.size))
  clear b4
  go_wp2_with fail
  go_ret
  exact ⟨by simp, B4.out⟩

theorem crcScans_walk (W : World) (s : ByteArray) (hs : s.size ≤ maxLen) :
    Calls Try.prog 6 #[.string s] W fun e W' => e = .returned (.bool true) ∧ Below W.heap.size W W' := by
  unfold maxLen at hs
  exact scans_any s W hs
end Go.Proofs.Ytddeeejfmodgfaa
