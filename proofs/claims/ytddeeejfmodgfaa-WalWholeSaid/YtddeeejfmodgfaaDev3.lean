/- Device: contracts of Append, Sync, Crash, Cut. -/
import Derived.Test.YtddeeejfmodgfaaDev2
namespace Go.Proofs.Ytddeeejfmodgfaa
open Go.RowKit

theorem cell_at {W w1 : World} (hb : Below W.heap.size W w1) {k o : Nat} {v : Value} (hk : k < W.heap.size) (h : W.cell? ⟨k, o, none⟩ = some v) : w1.cell? ⟨k, o, none⟩ = some v := ((bcell hb).1 k o hk).trans h
theorem frozen_at {W w1 : World} (hb : Below W.heap.size W w1) {k o : Nat} {b : Bool} (hk : k < W.heap.size) (h : W.frozen? ⟨k, o, none⟩ = b) : w1.frozen? ⟨k, o, none⟩ = b := ((bcell hb).2 k o hk).trans h
theorem lt_at {W w1 : World} (hb : Below W.heap.size W w1) {k : Nat} (hk : k < W.heap.size) : k < w1.heap.size := Nat.lt_of_lt_of_le hk hb.size

set_option maxHeartbeats 400000 in
theorem append_yes (b s : ByteArray) (n : Int) (w : World) (h1 : (b.size : Int) ≤ 200000) (h2 : 0 ≤ n) (h3 : n ≤ (b.size : Int)) (g2 : (s.size : Int) ≤ 200000 - (b.size : Int)) :
    Calls Try.prog 61 #[dev b n, .string s] w fun e w' => e = .returned (.tuple #[dev (b ++ s) n, .int .i64 0]) ∧ Below w.heap.size w w' := by
  go_enter Try.func61, Try.ntmps61
  go_wp2_with (first
    | (go_at_call 66; refine (dcall_append _ _ _ _ _ _ _ _ h1 h2 h3 (fun w1 hb1 => append_c_ok _ _ b s n w1 (lt_at hb1 (by simp <;> omega)) (lt_at hb1 (by simp <;> omega)) (cell_at hb1 (by simp <;> omega) (by go_simp)) (cell_at hb1 (by simp <;> omega) (by go_simp)) (cell_at hb1 (by simp <;> omega) (by go_simp)) h1 g2)).mono ?_; rintro e w1 ⟨rfl, hb1⟩; obtain ⟨hc1, hf1⟩ := bcell hb1; have hz0 := hb1.size; simp at hz0; have hz1 : w.heap.size + 1 + 1 < w1.heap.size := by omega))
  refine bodyPost_ret (v := .tuple #[dev (b ++ s) n, .int .i64 0]) (by simp [results, Try.results61, go_sem, hc1, hz1]) rfl ?_
  exact ⟨rfl, (((((Below.refl _ _).alloc (Nat.le_refl _) _).alloc (by simp <;> omega) _).alloc (by simp <;> omega) _).trans (hb1.mono (by simp <;> omega))).setCell (by simp <;> omega) _ |>.setCell (by simp <;> omega) _⟩

set_option maxHeartbeats 400000 in
theorem append_long (b s : ByteArray) (n : Int) (w : World) (h1 : (b.size : Int) ≤ 200000) (h2 : 0 ≤ n) (h3 : n ≤ (b.size : Int)) (g2 : 200000 - (b.size : Int) < (s.size : Int)) :
    Calls Try.prog 61 #[dev b n, .string s] w fun e w' => e = .returned (.tuple #[dev ⟨#[]⟩ 0, .int .i64 2]) ∧ Below w.heap.size w w' := by
  go_enter Try.func61, Try.ntmps61
  go_wp2_with (first
    | (go_at_call 66; refine (dcall_append _ _ _ _ _ _ _ _ h1 h2 h3 (fun w1 hb1 => append_c_long _ _ b s w1 (lt_at hb1 (by simp <;> omega)) (lt_at hb1 (by simp <;> omega)) (cell_at hb1 (by simp <;> omega) (by go_simp)) (cell_at hb1 (by simp <;> omega) (by go_simp)) h1 g2)).mono ?_; rintro e w1 ⟨rfl, hb1⟩; obtain ⟨hc1, hf1⟩ := bcell hb1; have hz0 := hb1.size; simp at hz0; have hz1 : w.heap.size + 1 + 1 < w1.heap.size := by omega))
  refine bodyPost_ret (v := .tuple #[dev ⟨#[]⟩ 0, .int .i64 2]) (by simp [results, Try.results61, go_sem, hc1, hz1]) rfl ?_
  exact ⟨rfl, (((((Below.refl _ _).alloc (Nat.le_refl _) _).alloc (by simp <;> omega) _).alloc (by simp <;> omega) _).trans (hb1.mono (by simp <;> omega))).setCell (by simp <;> omega) _ |>.setCell (by simp <;> omega) _⟩

set_option maxHeartbeats 400000 in
theorem cut_yes (b : ByteArray) (n m k : Int) (w : World) (h1 : (b.size : Int) ≤ 200000) (h2 : 0 ≤ n) (h3 : n ≤ (b.size : Int)) (g2 : 0 ≤ m) (g3 : m ≤ (b.size : Int)) (hk : (n ≤ m ∧ k = n) ∨ (m < n ∧ k = m)) :
    Calls Try.prog 64 #[dev b n, .int .i64 m] w fun e w' => e = .returned (.tuple #[dev (b.extract 0 m.toNat) k, .int .i64 0]) ∧ Below w.heap.size w w' := by
  have HK := Lib.hid hk
  clear hk
  go_enter Try.func64, Try.ntmps64
  go_wp2_with (first
    | (go_at_call 66; refine (dcall_cut _ _ _ _ _ _ _ _ h1 h2 h3 (fun w1 hb1 => cut_c_ok _ _ b n m k w1 (lt_at hb1 (by simp <;> omega)) (lt_at hb1 (by simp <;> omega)) (cell_at hb1 (by simp <;> omega) (by go_simp)) (cell_at hb1 (by simp <;> omega) (by go_simp)) (cell_at hb1 (by simp <;> omega) (by go_simp)) h1 g2 g3 HK.out)).mono ?_; rintro e w1 ⟨rfl, hb1⟩; obtain ⟨hc1, hf1⟩ := bcell hb1; have hz0 := hb1.size; simp at hz0; have hz1 : w.heap.size + 1 + 1 < w1.heap.size := by omega))
  refine bodyPost_ret (v := .tuple #[dev (b.extract 0 m.toNat) k, .int .i64 0]) (by simp [results, Try.results64, go_sem, hc1, hz1]) rfl ?_
  exact ⟨rfl, (((((Below.refl _ _).alloc (Nat.le_refl _) _).alloc (by simp <;> omega) _).alloc (by simp <;> omega) _).trans (hb1.mono (by simp <;> omega))).setCell (by simp <;> omega) _ |>.setCell (by simp <;> omega) _⟩

set_option maxHeartbeats 400000 in
theorem cut_bad (b : ByteArray) (n m : Int) (w : World) (h1 : (b.size : Int) ≤ 200000) (h2 : 0 ≤ n) (h3 : n ≤ (b.size : Int)) (g2 : m < 0 ∨ (b.size : Int) < m) :
    Calls Try.prog 64 #[dev b n, .int .i64 m] w fun e w' => e = .returned (.tuple #[dev ⟨#[]⟩ 0, .int .i64 1]) ∧ Below w.heap.size w w' := by
  have HK := Lib.hid g2
  clear g2
  go_enter Try.func64, Try.ntmps64
  go_wp2_with (first
    | (go_at_call 66; refine (dcall_cut _ _ _ _ _ _ _ _ h1 h2 h3 (fun w1 hb1 => cut_c_bad _ _ b m w1 (lt_at hb1 (by simp <;> omega)) (lt_at hb1 (by simp <;> omega)) (cell_at hb1 (by simp <;> omega) (by go_simp)) (cell_at hb1 (by simp <;> omega) (by go_simp)) h1 HK.out)).mono ?_; rintro e w1 ⟨rfl, hb1⟩; obtain ⟨hc1, hf1⟩ := bcell hb1; have hz0 := hb1.size; simp at hz0; have hz1 : w.heap.size + 1 + 1 < w1.heap.size := by omega))
  refine bodyPost_ret (v := .tuple #[dev ⟨#[]⟩ 0, .int .i64 1]) (by simp [results, Try.results64, go_sem, hc1, hz1]) rfl ?_
  exact ⟨rfl, (((((Below.refl _ _).alloc (Nat.le_refl _) _).alloc (by simp <;> omega) _).alloc (by simp <;> omega) _).trans (hb1.mono (by simp <;> omega))).setCell (by simp <;> omega) _ |>.setCell (by simp <;> omega) _⟩

set_option maxHeartbeats 400000 in
theorem crash_yes (b : ByteArray) (n m k : Int) (w : World) (h1 : (b.size : Int) ≤ 200000) (h2 : 0 ≤ n) (h3 : n ≤ (b.size : Int)) (hk : (m ≤ 0 ∧ k = n) ∨ (0 < m ∧ m ≤ (b.size : Int) - n ∧ k = n + m) ∨ (0 < m ∧ (b.size : Int) - n < m ∧ k = (b.size : Int))) :
    Calls Try.prog 52 #[dev b n, .int .i64 m] w fun e w' => e = .returned (.tuple #[dev (b.extract 0 k.toNat) k, .int .i64 0]) ∧ Below w.heap.size w w' := by
  have HK := Lib.hid hk
  clear hk
  go_enter Try.func52, Try.ntmps52
  go_wp2_with (first
    | (go_at_call 66; refine (dcall_crash _ _ _ _ _ _ _ _ h1 h2 h3 (fun w1 hb1 => crash_c _ _ b n m k w1 (lt_at hb1 (by simp <;> omega)) (lt_at hb1 (by simp <;> omega)) (cell_at hb1 (by simp <;> omega) (by go_simp)) (cell_at hb1 (by simp <;> omega) (by go_simp)) (cell_at hb1 (by simp <;> omega) (by go_simp)) h1 h2 h3 HK.out)).mono ?_; rintro e w1 ⟨rfl, hb1⟩; obtain ⟨hc1, hf1⟩ := bcell hb1; have hz0 := hb1.size; simp at hz0; have hz1 : w.heap.size + 1 + 1 < w1.heap.size := by omega))
  refine bodyPost_ret (v := .tuple #[dev (b.extract 0 k.toNat) k, .int .i64 0]) (by simp [results, Try.results52, go_sem, hc1, hz1]) rfl ?_
  exact ⟨rfl, (((((Below.refl _ _).alloc (Nat.le_refl _) _).alloc (by simp <;> omega) _).alloc (by simp <;> omega) _).trans (hb1.mono (by simp <;> omega))).setCell (by simp <;> omega) _ |>.setCell (by simp <;> omega) _⟩

set_option maxHeartbeats 400000 in
theorem sync_yes (b : ByteArray) (n : Int) (w : World) (h1 : (b.size : Int) ≤ 200000) (h2 : 0 ≤ n) (h3 : n ≤ (b.size : Int))  :
    Calls Try.prog 51 #[dev b n] w fun e w' => e = .returned (.tuple #[dev b b.size, .int .i64 0]) ∧ Below w.heap.size w w' := by
  go_enter Try.func51, Try.ntmps51
  go_wp2_with (first
    | (go_at_call 66; refine (dcall_sync _ _ _ _ _ _ _ h1 h2 h3 (fun w1 hb1 => sync_c _ b w1 (lt_at hb1 (by simp <;> omega)) (cell_at hb1 (by simp <;> omega) (by go_simp)) h1)).mono ?_; rintro e w1 ⟨rfl, hb1⟩; obtain ⟨hc1, hf1⟩ := bcell hb1; have hz0 := hb1.size; simp at hz0; have hz1 : w.heap.size + 1 < w1.heap.size := by omega))
  refine bodyPost_ret (v := .tuple #[dev b b.size, .int .i64 0]) (by simp [results, Try.results51, go_sem, hc1, hz1]) rfl ?_
  exact ⟨rfl, ((((Below.refl _ _).alloc (Nat.le_refl _) _).alloc (by simp <;> omega) _).trans (hb1.mono (by simp <;> omega))).setCell (by simp <;> omega) _ |>.setCell (by simp <;> omega) _⟩

set_option maxHeartbeats 400000 in
theorem append_no (b s : ByteArray) (n : Int) (w : World) (hb : (b.size : Int) ≤ 9223372036854775807) (h : 200000 < (b.size : Int) ∨ n < 0 ∨ (b.size : Int) < n) :
    Calls Try.prog 61 #[dev b n, .string s] w fun e w' => e = .returned (.tuple #[dev ⟨#[]⟩ 0, .int .i64 1]) ∧ Below w.heap.size w w' := by
  have HH := Lib.hid h
  clear h
  go_enter Try.func61, Try.ntmps61
  go_wp2_with (first
    | (go_at_call 66; refine (dcall_no _ _ _ _ hb HH.out).mono ?_; rintro e w1 ⟨rfl, hb1⟩; obtain ⟨hc1, hf1⟩ := bcell hb1; have hz0 := hb1.size; simp at hz0; have hz1 : w.heap.size + 1 + 1 < w1.heap.size := by omega))
  refine bodyPost_ret (v := .tuple #[dev ⟨#[]⟩ 0, .int .i64 1]) (by simp [results, Try.results61, go_sem, hc1, hz1]) rfl ?_
  exact ⟨rfl, (((((Below.refl _ _).alloc (Nat.le_refl _) _).alloc (by simp <;> omega) _).alloc (by simp <;> omega) _).trans (hb1.mono (by simp <;> omega))).setCell (by simp <;> omega) _ |>.setCell (by simp <;> omega) _⟩

set_option maxHeartbeats 400000 in
theorem cut_no (b : ByteArray) (n m : Int) (w : World) (hb : (b.size : Int) ≤ 9223372036854775807) (h : 200000 < (b.size : Int) ∨ n < 0 ∨ (b.size : Int) < n) :
    Calls Try.prog 64 #[dev b n, .int .i64 m] w fun e w' => e = .returned (.tuple #[dev ⟨#[]⟩ 0, .int .i64 1]) ∧ Below w.heap.size w w' := by
  have HH := Lib.hid h
  clear h
  go_enter Try.func64, Try.ntmps64
  go_wp2_with (first
    | (go_at_call 66; refine (dcall_no _ _ _ _ hb HH.out).mono ?_; rintro e w1 ⟨rfl, hb1⟩; obtain ⟨hc1, hf1⟩ := bcell hb1; have hz0 := hb1.size; simp at hz0; have hz1 : w.heap.size + 1 + 1 < w1.heap.size := by omega))
  refine bodyPost_ret (v := .tuple #[dev ⟨#[]⟩ 0, .int .i64 1]) (by simp [results, Try.results64, go_sem, hc1, hz1]) rfl ?_
  exact ⟨rfl, (((((Below.refl _ _).alloc (Nat.le_refl _) _).alloc (by simp <;> omega) _).alloc (by simp <;> omega) _).trans (hb1.mono (by simp <;> omega))).setCell (by simp <;> omega) _ |>.setCell (by simp <;> omega) _⟩

set_option maxHeartbeats 400000 in
theorem crash_no (b : ByteArray) (n m : Int) (w : World) (hb : (b.size : Int) ≤ 9223372036854775807) (h : 200000 < (b.size : Int) ∨ n < 0 ∨ (b.size : Int) < n) :
    Calls Try.prog 52 #[dev b n, .int .i64 m] w fun e w' => e = .returned (.tuple #[dev ⟨#[]⟩ 0, .int .i64 1]) ∧ Below w.heap.size w w' := by
  have HH := Lib.hid h
  clear h
  go_enter Try.func52, Try.ntmps52
  go_wp2_with (first
    | (go_at_call 66; refine (dcall_no _ _ _ _ hb HH.out).mono ?_; rintro e w1 ⟨rfl, hb1⟩; obtain ⟨hc1, hf1⟩ := bcell hb1; have hz0 := hb1.size; simp at hz0; have hz1 : w.heap.size + 1 + 1 < w1.heap.size := by omega))
  refine bodyPost_ret (v := .tuple #[dev ⟨#[]⟩ 0, .int .i64 1]) (by simp [results, Try.results52, go_sem, hc1, hz1]) rfl ?_
  exact ⟨rfl, (((((Below.refl _ _).alloc (Nat.le_refl _) _).alloc (by simp <;> omega) _).alloc (by simp <;> omega) _).trans (hb1.mono (by simp <;> omega))).setCell (by simp <;> omega) _ |>.setCell (by simp <;> omega) _⟩

set_option maxHeartbeats 400000 in
theorem sync_no (b : ByteArray) (n : Int) (w : World) (hb : (b.size : Int) ≤ 9223372036854775807) (h : 200000 < (b.size : Int) ∨ n < 0 ∨ (b.size : Int) < n) :
    Calls Try.prog 51 #[dev b n] w fun e w' => e = .returned (.tuple #[dev ⟨#[]⟩ 0, .int .i64 1]) ∧ Below w.heap.size w w' := by
  have HH := Lib.hid h
  clear h
  go_enter Try.func51, Try.ntmps51
  go_wp2_with (first
    | (go_at_call 66; refine (dcall_no _ _ _ _ hb HH.out).mono ?_; rintro e w1 ⟨rfl, hb1⟩; obtain ⟨hc1, hf1⟩ := bcell hb1; have hz0 := hb1.size; simp at hz0; have hz1 : w.heap.size + 1 < w1.heap.size := by omega))
  refine bodyPost_ret (v := .tuple #[dev ⟨#[]⟩ 0, .int .i64 1]) (by simp [results, Try.results51, go_sem, hc1, hz1]) rfl ?_
  exact ⟨rfl, ((((Below.refl _ _).alloc (Nat.le_refl _) _).alloc (by simp <;> omega) _).trans (hb1.mono (by simp <;> omega))).setCell (by simp <;> omega) _ |>.setCell (by simp <;> omega) _⟩

end Go.Proofs.Ytddeeejfmodgfaa
