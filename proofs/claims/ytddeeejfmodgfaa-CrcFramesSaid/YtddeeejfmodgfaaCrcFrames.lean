/- CrcFrames: the walk. -/
import Derived.Test.YtddeeejfmodgfaaCrc5
namespace Go.Proofs.Ytddeeejfmodgfaa
open Go.RowKit

set_option maxHeartbeats 4000000 in
theorem frames_any (s : ByteArray) (w : World) (hs : s.size ≤ 9223372036854775807) :
    Calls Try.prog 4 #[.string s] w fun e w' => e = .returned (.bool true) ∧ Below w.heap.size w w' := by
  obtain ⟨m, hm⟩ := minIs_ex 4100 (by omega) s.size
  obtain ⟨m1, m2, m3⟩ := hm
  have zT : (s.extract 0 m).size = m := by rw [ByteArray.size_extract]; omega
  have KC := Lib.hid (fun w => crcOf_any (s.extract 0 m) w (by omega))
  have KD := Lib.hid (fun w => rcrcOf_any (s.extract 0 m) w (by omega))
  have KI := fun w => isRec_any (s.extract 0 m) w (by omega)
  have HB0 := Lib.hid (Below.refl w.heap.size w)
  by_cases h : 1 ≤ m ∧ m ≤ 4000
  · have KF := Lib.hid (fun w => crcFrame_yes (s.extract 0 m) w (by omega) (by omega))
    have KG := Lib.hid (fun w => rcrcFrame_any (s.extract 0 m) w (by omega))
    have e : decide (1 ≤ (s.extract 0 m).size ∧ (s.extract 0 m).size ≤ 4000) = true := by rw [zT]; simp [h]
    rw [e] at KI
    have KI := Lib.hid KI
    clear zT e h
    generalize mkS (frameL (bl (s.extract 0 m))) = F at *
    generalize crcL (bl (s.extract 0 m)) = C at *
    go_enter Try.func4, Try.ntmps4
    go_wp2_with (first
      | (go_at_call 18; refine (chainH (KF.out _) (by assumption)).mono ?_; rintro e wN ⟨rfl, HBN⟩)
      | (go_at_call 19; refine (chainH (KC.out _) (by assumption)).mono ?_; rintro e wN ⟨rfl, HBN⟩)
      | (go_at_call 20; refine (chainQ (KD.out _) (by assumption)).mono ?_; rintro e wN ⟨rfl, HBN⟩)
      | (go_at_call 22; refine (chainQ (KI.out _) (by assumption)).mono ?_; rintro e wN ⟨rfl, HBN⟩)
      | (go_at_call 21; refine (chainH (alive05 _) (by assumption)).mono ?_; rintro e wN ⟨rfl, HBN⟩)
      | (go_at_call 23; refine (chainH (KG.out _) (by assumption)).mono ?_; rintro e wN ⟨rfl, HBN⟩))
    go_ret
    exact ⟨rfl, Hid.out (by assumption)⟩
  · have KF := Lib.hid (fun w => crcFrame_no (s.extract 0 m) w (by omega) (by rw [zT]; exact h))
    have e : decide (1 ≤ (s.extract 0 m).size ∧ (s.extract 0 m).size ≤ 4000) = false := by rw [zT]; simp only [decide_eq_false_iff_not]; exact h
    rw [e] at KI
    have KI := Lib.hid KI
    clear zT e h
    generalize crcL (bl (s.extract 0 m)) = C at *
    go_enter Try.func4, Try.ntmps4
    go_wp2_with (first
      | (go_at_call 18; refine (chainH (KF.out _) (by assumption)).mono ?_; rintro e wN ⟨rfl, HBN⟩)
      | (go_at_call 19; refine (chainH (KC.out _) (by assumption)).mono ?_; rintro e wN ⟨rfl, HBN⟩)
      | (go_at_call 20; refine (chainQ (KD.out _) (by assumption)).mono ?_; rintro e wN ⟨rfl, HBN⟩)
      | (go_at_call 22; refine (chainQ (KI.out _) (by assumption)).mono ?_; rintro e wN ⟨rfl, HBN⟩)
      | (go_at_call 21; refine (chainH (alive05 _) (by assumption)).mono ?_; rintro e wN ⟨rfl, HBN⟩))
    go_ret
    exact ⟨rfl, Hid.out (by assumption)⟩

theorem crcFrames_walk (W : World) (s : ByteArray) (hs : s.size ≤ maxLen) :
    Calls Try.prog 4 #[.string s] W fun e W' => e = .returned (.bool true) ∧ Below W.heap.size W W' := by
  unfold maxLen at hs
  exact frames_any s W hs
end Go.Proofs.Ytddeeejfmodgfaa
