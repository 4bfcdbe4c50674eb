/- DeviceJoins: the walk. -/
import Derived.Test.YtaoegccekmgcmaaDev4
namespace Go.Proofs.Ytaoegccekmgcmaa
open Go.RowKit

set_option maxHeartbeats 1000000 in
theorem joins_any (b s t : ByteArray) (n : Int) (B S T : Nat) (w : World) (hb : b.size ≤ 9223372036854775807) (hs : s.size ≤ 9223372036854775807) (ht : t.size ≤ 9223372036854775807)
    (mb : MinIs 3000 b.size B) (ms : MinIs 300 s.size S) (mt : MinIs 300 t.size T) :
    Calls Try.prog 6 #[dev b n, .string s, .string t] w fun e w' => e = .returned (.bool true) ∧ Below w.heap.size w w' := by
  obtain ⟨b1, b2, b3⟩ := mb
  obtain ⟨s1, s2, s3⟩ := ms
  obtain ⟨t1, t2, t3⟩ := mt
  go_enter Try.func6, Try.ntmps6
  go_wp2
  go_region
  go_upto_region 2 with (fail)
  have zb : ((b.extract 0 B).size : Int) ≤ 3000 := by rw [ByteArray.size_extract]; omega
  have zs : ((s.extract 0 S).size : Int) ≤ 300 := by rw [ByteArray.size_extract]; omega
  have zt : ((t.extract 0 T).size : Int) ≤ 300 := by rw [ByteArray.size_extract]; omega
  generalize b.extract 0 B = b' at *
  generalize s.extract 0 S = s' at *
  generalize t.extract 0 T = t' at *
  clear b1 b2 b3 s1 s2 s3 t1 t2 t3 hb hs ht
  by_cases hR : 0 ≤ n ∧ n ≤ (b'.size : Int)
  · obtain ⟨r1, r2⟩ := hR
    have hst : ((s' ++ t').size : Int) ≤ 600 := by rw [ByteArray.size_append]; omega
    have hbs : ((b' ++ s').size : Int) ≤ 3300 := by rw [ByteArray.size_append]; omega
    have hbst : ((b' ++ (s' ++ t')).size : Int) ≤ 3600 := by rw [ByteArray.size_append]; omega
    have g1 : (b'.size : Int) ≤ ((b' ++ (s' ++ t')).size : Int) := by rw [ByteArray.size_append]; omega
    have g2 : (b'.size : Int) ≤ ((b' ++ s').size : Int) := by rw [ByteArray.size_append]; omega
    have hassoc : b' ++ s' ++ t' = b' ++ (s' ++ t') := ByteArray.append_assoc
    have hcut : (b' ++ (s' ++ t')).extract 0 b'.size = b' := by rw [ByteArray.extract_append]; simp
    have HA := Lib.hid hassoc
    have HC := Lib.hid hcut
    clear hassoc hcut
    go_wp2_with (fail)
    refine (rright_yes _ _ _ (by omega) r1 r2).mono ?_
    rintro e w1 ⟨rfl, hb1⟩
    have F1 : w1.cell? ⟨w.heap.size, 0, none⟩ = some (.string b') := cell_at hb1 (by simp) (by simp)
    have F2 : w1.cell? ⟨w.heap.size, 1, none⟩ = some (.int .i64 n) := cell_at hb1 (by simp) (by simp)
    have L1 : w.heap.size < w1.heap.size := by have := hb1.size; simp at this; omega
    have B1 := Lib.hid (Below.trans (((Below.refl w.heap.size w).alloc (Nat.le_refl _) (.cells #[.string b', .int .i64 n] 34)).drew) (hb1.mono (by simp)))
    clear hb1
    go_wp2_with (fail)
    refine (append_yes _ _ _ _ (by omega) r1 r2 (by omega)).mono ?_
    rintro e w2 ⟨rfl, hb2⟩
    have F3 : w2.cell? ⟨w.heap.size, 0, none⟩ = some (.string b') := cell_at hb2 L1 F1
    have F4 : w2.cell? ⟨w.heap.size, 1, none⟩ = some (.int .i64 n) := cell_at hb2 L1 F2
    have L2 : w.heap.size < w2.heap.size := lt_at hb2 L1
    have B2 := Lib.hid (B1.out.trans (hb2.mono (by omega)))
    clear hb2 B1 F1 F2 L1
    go_wp2_with (fail)
    refine (append_yes _ _ _ _ (by omega) r1 (by omega) (by omega)).mono ?_
    rintro e w3 ⟨rfl, hb3⟩
    have F5 : w3.cell? ⟨w.heap.size, 0, none⟩ = some (.string b') := cell_at hb3 (by simp <;> omega) (by go_simp)
    have F6 : w3.cell? ⟨w.heap.size, 1, none⟩ = some (.int .i64 n) := cell_at hb3 (by simp <;> omega) (by go_simp)
    have G1 : w3.cell? ⟨w2.heap.size, 0, none⟩ = some (.string (b' ++ s')) := cell_at hb3 (by simp) (by simp)
    have G2 : w3.cell? ⟨w2.heap.size, 1, none⟩ = some (.int .i64 n) := cell_at hb3 (by simp) (by simp)
    have Z1 : w3.frozen? ⟨w2.heap.size, 0, none⟩ = false := frozen_at hb3 (by simp <;> omega) (by simp [World.frozen?_alloc_at])
    have Z2 : w3.frozen? ⟨w2.heap.size, 1, none⟩ = false := frozen_at hb3 (by simp <;> omega) (by simp [World.frozen?_alloc_at])
    have N1 : ¬ w2.heap.size = w.heap.size := by omega
    have L3 : w2.heap.size < w3.heap.size := by have := hb3.size; simp at this; omega
    have B3 := Lib.hid ((B2.out.alloc (by omega) _).trans (hb3.mono (by simp <;> omega)))
    clear hb3 B2 F3 F4
    go_wp2_with (fail)
    refine (append_yes _ _ _ _ (by omega) r1 r2 (by omega)).mono ?_
    rintro e w4 ⟨rfl, hb4⟩
    have F7 : w4.cell? ⟨w.heap.size, 0, none⟩ = some (.string b') := cell_at hb4 (by simp <;> omega) (by go_simp)
    have F8 : w4.cell? ⟨w.heap.size, 1, none⟩ = some (.int .i64 n) := cell_at hb4 (by simp <;> omega) (by go_simp)
    have G3 : w4.cell? ⟨w2.heap.size, 0, none⟩ = some (.string (b' ++ s' ++ t')) := cell_at hb4 (by simp <;> omega) (by go_simp)
    have G4 : w4.cell? ⟨w2.heap.size, 1, none⟩ = some (.int .i64 n) := cell_at hb4 (by simp <;> omega) (by go_simp)
    have L4 : w2.heap.size < w4.heap.size := by have := hb4.size; simp at this; omega
    have L5 : w.heap.size < w4.heap.size := by omega
    have B4 := Lib.hid (((B3.out.setCell (p := ⟨w2.heap.size, 0, none⟩) (by simp <;> omega) (.string (b' ++ s' ++ t'))).setCell (p := ⟨w2.heap.size, 1, none⟩) (by simp <;> omega) (.int .i64 n)).trans (hb4.mono (by simp <;> omega)))
    clear hb4 B3 F5 F6 G1 G2 Z1 Z2 L3
    go_wp2_with (fail)
    refine (cut_yes (b' ++ (s' ++ t')) n b'.size n _ (by omega) r1 (by omega) (by omega) (by omega) (.inl ⟨by omega, rfl⟩)).mono ?_
    rintro e w5 ⟨rfl, hb5⟩
    rw [show ((b'.size : Int)).toNat = b'.size from by omega, HC.out]
    have F9 : w5.cell? ⟨w.heap.size, 0, none⟩ = some (.string b') := cell_at hb5 (by simp <;> omega) (by go_simp)
    have F10 : w5.cell? ⟨w.heap.size, 1, none⟩ = some (.int .i64 n) := cell_at hb5 (by simp <;> omega) (by go_simp)
    have G5 : w5.cell? ⟨w2.heap.size, 0, none⟩ = some (.string (b' ++ s' ++ t')) := cell_at hb5 (by simp <;> omega) (by go_simp)
    have G6 : w5.cell? ⟨w2.heap.size, 1, none⟩ = some (.int .i64 n) := cell_at hb5 (by simp <;> omega) (by go_simp)
    have K1 : w5.cell? ⟨w4.heap.size, 0, none⟩ = some (.string (b' ++ (s' ++ t'))) := cell_at hb5 (by simp <;> omega) (by go_simp)
    have K2 : w5.cell? ⟨w4.heap.size, 1, none⟩ = some (.int .i64 n) := cell_at hb5 (by simp <;> omega) (by go_simp)
    have L6 : w4.heap.size < w5.heap.size := by have := hb5.size; simp at this; omega
    have L7 : w2.heap.size < w5.heap.size := by omega
    have L8 : w.heap.size < w5.heap.size := by omega
    have B5 := Lib.hid ((B4.out.alloc (by omega) _).trans (hb5.mono (by simp <;> omega)))
    clear hb5 B4 F7 F8 G3 G4
    go_wp2_with (fail)
    refine (alive12 _).mono ?_
    rintro e w6 ⟨rfl, hb6⟩
    have F11 : w6.cell? ⟨w.heap.size, 0, none⟩ = some (.string b') := cell_at hb6 (by simp <;> omega) (by go_simp)
    have F12 : w6.cell? ⟨w.heap.size, 1, none⟩ = some (.int .i64 n) := cell_at hb6 (by simp <;> omega) (by go_simp)
    have G7 : w6.cell? ⟨w2.heap.size, 0, none⟩ = some (.string (b' ++ s' ++ t')) := cell_at hb6 (by simp <;> omega) (by go_simp)
    have G8 : w6.cell? ⟨w2.heap.size, 1, none⟩ = some (.int .i64 n) := cell_at hb6 (by simp <;> omega) (by go_simp)
    have K3 : w6.cell? ⟨w4.heap.size, 0, none⟩ = some (.string (b' ++ (s' ++ t'))) := cell_at hb6 (by simp <;> omega) (by go_simp)
    have K4 : w6.cell? ⟨w4.heap.size, 1, none⟩ = some (.int .i64 n) := cell_at hb6 (by simp <;> omega) (by go_simp)
    have M1 : w6.cell? ⟨w5.heap.size, 0, none⟩ = some (.string b') := cell_at hb6 (by simp <;> omega) (by go_simp)
    have M2 : w6.cell? ⟨w5.heap.size, 1, none⟩ = some (.int .i64 n) := cell_at hb6 (by simp <;> omega) (by go_simp)
    have B6 := Lib.hid ((B5.out.alloc (by omega) _).trans (hb6.mono (by simp <;> omega)))
    clear hb6 B5 F9 F10 G5 G6 K1 K2
    rw [HA.out] at G7
    go_wp2_with (fail)
    go_ret
    exact ⟨rfl, B6.out⟩
  · have hN : 200000 < (b'.size : Int) ∨ n < 0 ∨ (b'.size : Int) < n := by omega
    have HN := Lib.hid hN
    clear hN hR
    go_wp2_with (fail)
    refine (rright_no _ _ _ (by omega) HN.out).mono ?_
    rintro e w1 ⟨rfl, hb1⟩
    have B1 := Lib.hid (Below.trans (((Below.refl w.heap.size w).alloc (Nat.le_refl _) (.cells #[.string b', .int .i64 n] 34)).drew) (hb1.mono (by simp)))
    clear hb1
    go_wp2_with (fail)
    refine (alive12 _).mono ?_
    rintro e w6 ⟨rfl, hb6⟩
    have B6 := Lib.hid (B1.out.trans (hb6.mono B1.out.size))
    clear hb6 B1
    go_wp2_with (fail)
    go_ret
    exact ⟨rfl, B6.out⟩

theorem deviceJoins_walk (W : World) (v : Value) (x : ByteArray × Int) (hv : DevRep W v x) (s : ByteArray) (hs : s.size ≤ maxLen) (t : ByteArray) (ht : t.size ≤ maxLen) :
    Calls Try.prog 6 #[v, .string s, .string t] W fun e W' => e = .returned (.bool true) ∧ Below W.heap.size W W' := by
  obtain ⟨rfl, hx, _⟩ := hv
  unfold maxLen at hx hs ht
  obtain ⟨B, mb⟩ := minIs_ex 3000 (by omega) x.1.size
  obtain ⟨S, ms⟩ := minIs_ex 300 (by omega) s.size
  obtain ⟨T, mt⟩ := minIs_ex 300 (by omega) t.size
  exact joins_any x.1 s t x.2 B S T W hx hs ht mb ms mt
end Go.Proofs.Ytaoegccekmgcmaa
