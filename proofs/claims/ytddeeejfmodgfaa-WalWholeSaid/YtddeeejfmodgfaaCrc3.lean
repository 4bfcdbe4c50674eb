/- Crc: contracts of the program: Frame, one. -/
import Derived.Test.YtddeeejfmodgfaaCrc2
import Derived.BigQuiet
namespace Go.Proofs.Ytddeeejfmodgfaa
open Go.RowKit

set_option maxHeartbeats 1000000 in
theorem crcFrame_yes (s : ByteArray) (w : World) (h1 : 1 ≤ s.size) (h2 : s.size ≤ 4000) :
    Calls Try.prog 18 #[.string s] w fun e w' => e = .returned (.tuple #[.string (mkS (frameL (bl s))), .int .i64 0]) ∧ Below w.heap.size w w' := by
  obtain ⟨A, hA⟩ : ∃ A, mkS (lowL s.size 2) = A := ⟨_, rfl⟩
  obtain ⟨B, hB⟩ : ∃ B, mkS (lowL (crcL (bl (A ++ s))) 4) = B := ⟨_, rfl⟩
  have zA : A.size ≤ 2 := by rw [← hA, mk_size, lowL_length]; exact Nat.le_refl _
  have zB : B.size ≤ 4 := by rw [← hB, mk_size, lowL_length]; exact Nat.le_refl _
  have hz : (A ++ s).size ≤ 4002 := by rw [ByteArray.size_append]; omega
  have HF : Hid (A ++ s ++ B = mkS (frameL (bl s))) := Lib.hid (bl_inj (by
    subst hB hA
    simp only [bl_append, bl_mk]
    unfold frameL
    rw [bl_length]))
  have KA : ∀ w, Calls Try.prog 54 #[.int .u32 s.size, .int .i64 2] w fun e w' => e = .returned (.string A) ∧ Below w.heap.size w w' := fun w => hA ▸ low_any s.size 2 w (by omega) (by omega)
  have KB : ∀ w, Calls Try.prog 54 #[.int .u32 (crcL (bl (A ++ s))), .int .i64 4] w fun e w' => e = .returned (.string B) ∧ Below w.heap.size w w' := fun w => hB ▸ low_any _ 4 w (crcL_lt _) (by omega)
  have KA := Lib.hid KA
  have KB := Lib.hid KB
  clear hA hB
  go_enter Try.func18, Try.ntmps18
  go_wp2_with fail
  refine (KA.out _).mono ?_
  rintro e w1 ⟨rfl, hb1⟩
  go_wp2_with fail
  refine (crcOf_any _ _ (by omega)).mono ?_
  rintro e w2 ⟨rfl, hb2⟩
  go_wp2_with fail
  refine (KB.out _).mono ?_
  rintro e w3 ⟨rfl, hb3⟩
  go_wp2_with fail
  go_ret2
  exact ⟨congrArg (fun x => Ending.returned (.tuple #[.string x, .int .i64 0])) HF.out, hb1.trans ((hb2.mono hb1.size).trans (hb3.mono (Nat.le_trans hb1.size hb2.size)))⟩

set_option maxHeartbeats 1000000 in
theorem crcFrame_no (s : ByteArray) (w : World) (h0 : s.size ≤ 9223372036854775807) (h : ¬ (1 ≤ s.size ∧ s.size ≤ 4000)) :
    Calls Try.prog 18 #[.string s] w fun e w' => e = .returned (.tuple #[.string ⟨#[]⟩, .int .i64 1]) ∧ Below w.heap.size w w' := by
  rcases Nat.lt_or_ge s.size 1 with h1 | h1
  · go_enter Try.func18, Try.ntmps18
    go_wp2_with fail
    go_ret2
    exact ⟨rfl, Below.refl _ _⟩
  · have h2 : ¬ s.size ≤ 4000 := fun h2 => h ⟨h1, h2⟩
    clear h
    go_enter Try.func18, Try.ntmps18
    go_wp2_with fail
    go_ret2
    exact ⟨rfl, Below.refl _ _⟩

/-- Some values and no. -/
def NoOne (w : World) (e : Ending) (w' : World) : Prop := ∃ (r : ByteArray) (m : Int), e = .returned (.tuple #[.string r, .int .i64 m, .bool false]) ∧ ∃ nd, w' = w.drewN nd

set_option maxHeartbeats 1000000 in
theorem one_yes (s : ByteArray) (g n : Nat) (w : World) (hs : s.size ≤ 9223372036854775807) (ht : HasTab w g) (h : oneL (bl s) = some n) :
    Calls Try.prog 60 #[.string s, .pointer (some ⟨g, 0, none⟩)] w fun e w' => e = .returned (.tuple #[.string (s.extract 2 (2 + n)), .int .i64 (2 + n + 4), .bool true]) ∧ ∃ nd, w' = w.drewN nd := by
  obtain ⟨e1, h1, h2, h3, h4⟩ := oneL_some h
  rw [bl_length] at h3
  clear h
  have K1 : ∀ w, Calls Try.prog 69 #[.string (s.extract 0 2)] w fun e w' => e = .returned (.int .u32 n) ∧ w = w' := fun w => by
    have := number_any (s.extract 0 2) w (by rw [ByteArray.size_extract]; omega)
    rw [bl_extract, List.drop_zero, ← e1] at this
    exact this
  have K2 : ∀ w, Calls Try.prog 69 #[.string (s.extract (2 + n) (2 + n + 4))] w fun e w' => e = .returned (.int .u32 (crcL ((bl s).take (n + 2)))) ∧ w = w' := fun w => by
    have := number_any (s.extract (2 + n) (2 + n + 4)) w (by rw [ByteArray.size_extract]; omega)
    rw [bl_extract, show 2 + n + 4 = n + 6 by omega, show 2 + n = n + 2 by omega, h4] at this
    rwa [show 2 + n + 4 = n + 6 by omega, show 2 + n = n + 2 by omega]
  have K3 : ∀ w : World, HasTab w g → Calls Try.prog 56 #[.string (s.extract 0 (2 + n)), .pointer (some ⟨g, 0, none⟩)] w fun e w' => e = .returned (.int .u32 (crcL ((bl s).take (n + 2)))) ∧ ∃ nd, w' = w.drewN nd := fun w ht => by
    have := sum_any (s.extract 0 (2 + n)) g w (by rw [ByteArray.size_extract]; omega) ht
    rw [bl_extract, List.drop_zero, show 2 + n = n + 2 by omega] at this
    rwa [show 2 + n = n + 2 by omega]
  generalize crcL ((bl s).take (n + 2)) = c at K2 K3
  have K1 := Lib.hid K1
  have K2 := Lib.hid K2
  have K3 := Lib.hid K3
  clear e1 h4
  have HT := Lib.hid ht
  clear ht
  go_enter Try.func60, Try.ntmps60
  go_wp2_with fail
  refine (K1.out _).mono ?_
  rintro e w1 ⟨rfl, rfl⟩
  go_wp2_with fail
  have i1 : IntKind.i64.wrap (2 + (n : Int)) = 2 + (n : Int) := IntWalk.i64_in _ (by omega)
  have i2 : 0 ≤ 2 + (n : Int) := by omega
  have i3 : (2 + (n : Int)).toNat = 2 + n := by omega
  have i4 : (2 + (n : Int) + 4).toNat = 2 + n + 4 := by omega
  have i5 : 2 + (n : Int) + 4 ≤ (s.size : Int) := by omega
  have i6 : 2 + (n : Int) ≤ 2 + (n : Int) + 4 := by omega
  have i7 : 2 + (n : Int) ≤ (s.size : Int) := by omega
  go_quiet (first
    | (go_at_call 69; exact Calls.quiet_of_same ((K2.out _).mono fun _ _ h => ⟨h.1, h.2.symm⟩))
    | (go_at_call 56; exact Calls.quiet_of (K3.out _ HT.out)))
  go_wp2
  go_ret3
  exact ⟨rfl, _, rfl⟩

theorem oneL_none_ways {s : List UInt8} (h : oneL s = none) : s.length < 2 ∨ (2 ≤ s.length ∧ (numL (s.take 2) < 1 ∨ 4000 < numL (s.take 2) ∨ s.length < numL (s.take 2) + 6)) ∨
    (1 ≤ numL (s.take 2) ∧ numL (s.take 2) ≤ 4000 ∧ numL (s.take 2) + 6 ≤ s.length ∧ numL ((s.take (numL (s.take 2) + 6)).drop (numL (s.take 2) + 2)) ≠ crcL (s.take (numL (s.take 2) + 2))) := by
  unfold oneL at h
  split at h
  · left; assumption
  · split at h
    · right; left; exact ⟨by omega, by assumption⟩
    · split at h
      · cases h
      · right; right; exact ⟨by omega, by omega, by omega, by assumption⟩

set_option maxHeartbeats 1000000 in
theorem one_no (s : ByteArray) (g : Nat) (w : World) (hs : s.size ≤ 9223372036854775807) (ht : HasTab w g) (h : oneL (bl s) = none) :
    Calls Try.prog 60 #[.string s, .pointer (some ⟨g, 0, none⟩)] w (NoOne w) := by
  have hw := oneL_none_ways h
  rw [bl_length] at hw
  clear h
  rcases hw with h | ⟨h0, h⟩ | ⟨h1, h2, h3, h4⟩
  · clear ht
    go_enter Try.func60, Try.ntmps60
    go_wp2_with fail
    go_ret3
    exact ⟨_, _, rfl, 0, rfl⟩
  · clear ht
    have K1 : ∀ w, Calls Try.prog 69 #[.string (s.extract 0 2)] w fun e w' => e = .returned (.int .u32 (numL ((bl s).take 2))) ∧ w = w' := fun w => by
      have := number_any (s.extract 0 2) w (by rw [ByteArray.size_extract]; omega)
      rw [bl_extract, List.drop_zero] at this
      exact this
    have hn := numL_lt ((bl s).take 2)
    rw [List.length_take, bl_length, show min 2 s.size = 2 by omega] at hn
    generalize numL ((bl s).take 2) = n at *
    have K1 := Lib.hid K1
    by_cases c1 : n < 1
    · clear h
      go_enter Try.func60, Try.ntmps60
      go_wp2_with fail
      refine (K1.out _).mono ?_
      rintro e w1 ⟨rfl, rfl⟩
      go_wp2_with fail
      go_ret3
      exact ⟨_, _, rfl, 0, rfl⟩
    · by_cases c2 : 4000 < n
      · clear h
        go_enter Try.func60, Try.ntmps60
        go_wp2_with fail
        refine (K1.out _).mono ?_
        rintro e w1 ⟨rfl, rfl⟩
        go_wp2_with fail
        go_ret3
        exact ⟨_, _, rfl, 0, rfl⟩
      · have c3 : s.size < n + 6 := by omega
        clear h
        go_enter Try.func60, Try.ntmps60
        go_wp2_with fail
        refine (K1.out _).mono ?_
        rintro e w1 ⟨rfl, rfl⟩
        go_wp2_with fail
        go_ret3
        exact ⟨_, _, rfl, 0, rfl⟩
  · have K1 : ∀ w, Calls Try.prog 69 #[.string (s.extract 0 2)] w fun e w' => e = .returned (.int .u32 (numL ((bl s).take 2))) ∧ w = w' := fun w => by
      have := number_any (s.extract 0 2) w (by rw [ByteArray.size_extract]; omega)
      rw [bl_extract, List.drop_zero] at this
      exact this
    generalize numL ((bl s).take 2) = n at *
    have K2 : ∀ w, Calls Try.prog 69 #[.string (s.extract (2 + n) (2 + n + 4))] w fun e w' => e = .returned (.int .u32 (numL (((bl s).take (n + 6)).drop (n + 2)))) ∧ w = w' := fun w => by
      have := number_any (s.extract (2 + n) (2 + n + 4)) w (by rw [ByteArray.size_extract]; omega)
      rw [bl_extract, show 2 + n + 4 = n + 6 by omega, show 2 + n = n + 2 by omega] at this
      rwa [show 2 + n + 4 = n + 6 by omega, show 2 + n = n + 2 by omega]
    have K3 : ∀ w : World, HasTab w g → Calls Try.prog 56 #[.string (s.extract 0 (2 + n)), .pointer (some ⟨g, 0, none⟩)] w fun e w' => e = .returned (.int .u32 (crcL ((bl s).take (n + 2)))) ∧ ∃ nd, w' = w.drewN nd := fun w ht => by
      have := sum_any (s.extract 0 (2 + n)) g w (by rw [ByteArray.size_extract]; omega) ht
      rw [bl_extract, List.drop_zero, show 2 + n = n + 2 by omega] at this
      rwa [show 2 + n = n + 2 by omega]
    generalize crcL ((bl s).take (n + 2)) = c at *
    generalize numL (((bl s).take (n + 6)).drop (n + 2)) = d at *
    have K1 := Lib.hid K1
    have K2 := Lib.hid K2
    have K3 := Lib.hid K3
    have HT := Lib.hid ht
    have hne : ((d : Int) == (c : Int)) = false := by simp; omega
    clear ht h4
    go_enter Try.func60, Try.ntmps60
    go_wp2_with fail
    refine (K1.out _).mono ?_
    rintro e w1 ⟨rfl, rfl⟩
    go_wp2_with fail
    have i1 : IntKind.i64.wrap (2 + (n : Int)) = 2 + (n : Int) := IntWalk.i64_in _ (by omega)
    have i2 : 0 ≤ 2 + (n : Int) := by omega
    have i3 : (2 + (n : Int)).toNat = 2 + n := by omega
    have i4 : (2 + (n : Int) + 4).toNat = 2 + n + 4 := by omega
    have i5 : 2 + (n : Int) + 4 ≤ (s.size : Int) := by omega
    have i6 : 2 + (n : Int) ≤ 2 + (n : Int) + 4 := by omega
    have i7 : 2 + (n : Int) ≤ (s.size : Int) := by omega
    go_quiet (first
      | (go_at_call 69; exact Calls.quiet_of_same ((K2.out _).mono fun _ _ h => ⟨h.1, h.2.symm⟩))
      | (go_at_call 56; exact Calls.quiet_of (K3.out _ HT.out)))
    go_wp2
    go_ret3
    exact ⟨_, _, rfl, _, rfl⟩
end Go.Proofs.Ytddeeejfmodgfaa
