/- CrcSizes: the walk. -/
import Derived.Test.YtddeeejfmodgfaaCrc6
namespace Go.Proofs.Ytddeeejfmodgfaa
open Go.RowKit

theorem scan_zeros (r : List UInt8) (h1 : 1 ≤ r.length) (h2 : r.length ≤ 4000) : scanL (frameL r ++ [0, 0, 0, 0, 0, 0, 0]) = ([r], r.length + 6) := by
  have h := scanL_frames [r] [0, 0, 0, 0, 0, 0, 0] (fun x hx => by simp at hx; subst hx; exact ⟨h1, h2⟩) (oneL_none_len (n := 0) (by rfl) (.inl (by omega)))
  simpa [frameL_length] using h

set_option maxHeartbeats 4000000 in
theorem sizes_any (s : ByteArray) (w : World) (hs : s.size ≤ 9223372036854775807) :
    Calls Try.prog 11 #[.string s] w fun e w' => e = .returned (.bool true) ∧ Below w.heap.size w w' := by
  obtain ⟨m, hm⟩ := minIs_ex 600 (by omega) s.size
  obtain ⟨m1, m2, m3⟩ := hm
  have zT : (s.extract 0 m).size = m := by rw [ByteArray.size_extract]; omega
  by_cases h : 1 ≤ m
  · have K1 := fun w => crcFrame_yes (s.extract 0 m) w (by omega) (by omega)
    have hz : (mkS (frameL (bl (s.extract 0 m)))).size = m + 6 := by rw [mk_size, frameL_length, bl_length, zT]
    have hsc := scan_zeros (bl (s.extract 0 m)) (by rw [bl_length]; omega) (by rw [bl_length]; omega)
    rw [bl_length, zT] at hsc
    obtain ⟨F, hF⟩ : ∃ F, mkS (frameL (bl (s.extract 0 m))) = F := ⟨_, rfl⟩
    have hFe : frameL (bl (s.extract 0 m)) = bl F := by rw [← hF, bl_mk]
    rw [hFe] at hsc
    rw [hF] at hz
    simp only [hF] at K1
    have K2 := fun w => crcScan_any (F ++ ⟨#[0, 0, 0, 0, 0, 0, 0]⟩) w (by rw [ByteArray.size_append, hz]; show m + 6 + 7 ≤ _; omega)
    have e2 : scanL (bl (F ++ ⟨#[0, 0, 0, 0, 0, 0, 0]⟩)) = ([bl (s.extract 0 m)], m + 6) := by rw [bl_append]; exact hsc
    unfold Scanned at K2
    rw [e2] at K2
    simp only [List.map_cons, List.map_nil, mk_bl] at K2
    have K1 := Lib.hid K1
    have K2 := Lib.hid K2
    have zF : (F.size : Int) = (m : Int) + 6 := by rw [hz]; rfl
    have zF2 : F.size ≤ 1000 := by omega
    have hq : ((F.size : Int) == (m : Int) + 6) = true := by rw [zF]; simp
    have hq2 : ((m : Int) + 6 == (F.size : Int)) = true := by rw [zF]; simp
    clear hz hsc hF hFe e2 zF
    go_enter Try.func11, Try.ntmps11
    go_wp2_with fail
    refine (K1.out _).mono ?_
    rintro e w1 ⟨rfl, b1⟩
    have B1 := Lib.hid b1
    clear b1
    go_wp2_with fail
    refine (K2.out _).mono ?_
    rintro e w2 ⟨v2, rfl, o2, b2⟩
    have O2 := Lib.hid o2.row
    have B2 := Lib.hid (B1.out.trans (b2.mono B1.out.size))
    clear o2 b2
    go_wp2_with fail
    refine (alive05 _).mono ?_
    rintro e w3 ⟨rfl, b3⟩
    have O2 := Lib.hid (O2.out.below b3 (Nat.le_refl _))
    have B3 := Lib.hid (B2.out.trans (b3.mono B2.out.size))
    clear b3
    go_wp2_with fail
    refine (same_yes v2 _ [s.extract 0 m] _ (O2.out.below ((Below.refl w3.heap.size w3).alloc (Nat.le_refl _) _) (Nat.le_refl _)) (OwnS.one (base := w3.heap.size) (Nat.le_refl _) _).row).mono ?_
    rintro e w4 ⟨rfl, b4⟩
    have B4 := Lib.hid (B3.out.trans (((Below.refl w3.heap.size w3).alloc (Nat.le_refl _) _ |>.trans (b4.mono (by simp))).mono B3.out.size))
    clear b4
    go_wp2_with fail
    go_ret
    exact ⟨rfl, B4.out⟩
  · have K1 := Lib.hid (fun w => crcFrame_no (s.extract 0 m) w (by omega) (by omega))
    have e1 : (s.extract 0 m).toList = [] := by rw [toList_bl]; exact List.eq_nil_of_length_eq_zero (by rw [bl_length]; omega)
    clear zT h
    go_enter Try.func11, Try.ntmps11
    go_wp2_with (first
      | (go_at_call 18; refine (K1.out _).mono ?_; rintro e w1 ⟨rfl, b1⟩)
      | (go_at_call 21; refine (alive05 _).mono ?_; rintro e w2 ⟨rfl, b2⟩))
    go_ret
    exact ⟨rfl, b1.trans (b2.mono b1.size)⟩

theorem crcSizes_walk (W : World) (s : ByteArray) (hs : s.size ≤ maxLen) :
    Calls Try.prog 11 #[.string s] W fun e W' => e = .returned (.bool true) ∧ Below W.heap.size W W' := by
  unfold maxLen at hs
  exact sizes_any s W hs
end Go.Proofs.Ytddeeejfmodgfaa
