/- Device: contracts of Right, Append, Sync, Crash, Cut. -/
import Derived.Test.YtddeeejfmodgfaaRep1
namespace Go.Proofs.Ytddeeejfmodgfaa
open Go.RowKit

/-- The value of a device. -/
abbrev dev (b : ByteArray) (n : Int) : Value := .agg #[.string b, .int .i64 n]

/-- What holds below a world's size of a later world: old cells and marks read as before. -/
theorem bcell {W w1 : World} (hb : Below W.heap.size W w1) : (∀ b o, b < W.heap.size → w1.cell? ⟨b, o, none⟩ = W.cell? ⟨b, o, none⟩) ∧ (∀ b o, b < W.heap.size → w1.frozen? ⟨b, o, none⟩ = W.frozen? ⟨b, o, none⟩) :=
  ⟨fun b o h => hb.cell (p := ⟨b, o, none⟩) h, fun b o h => hb.frozen (p := ⟨b, o, none⟩) h⟩

set_option maxHeartbeats 400000 in
theorem dright_yes (b : ByteArray) (n : Int) (w : World) (h1 : (b.size : Int) ≤ 200000) (h2 : 0 ≤ n) (h3 : n ≤ (b.size : Int)) :
    Calls Try.prog 63 #[dev b n] w fun e w' => e = .returned (.bool true) ∧ Below w.heap.size w w' := by
  go_enter Try.func63, Try.ntmps63
  go_wp2
  go_ret
  exact ⟨rfl, (Below.refl _ _).alloc (Nat.le_refl _) _⟩

set_option maxHeartbeats 400000 in
theorem dright_no (b : ByteArray) (n : Int) (w : World) (hb : (b.size : Int) ≤ 9223372036854775807) (h : 200000 < (b.size : Int) ∨ n < 0 ∨ (b.size : Int) < n) :
    Calls Try.prog 63 #[dev b n] w fun e w' => e = .returned (.bool false) ∧ Below w.heap.size w w' := by
  have hc : 200000 < (b.size : Int) ∨ ((b.size : Int) ≤ 200000 ∧ n < 0) ∨ ((b.size : Int) ≤ 200000 ∧ 0 ≤ n ∧ (b.size : Int) < n) := by omega
  have hd : ((b.size : Int) < n) → decide (n ≤ (b.size : Int)) = false := fun h => by simp; omega
  rcases hc with c | ⟨c1, c2⟩ | ⟨c1, c2, c3⟩
  case inr.inr => have hd' := hd c3; clear hd; go_enter Try.func63, Try.ntmps63; go_wp2; go_ret; exact ⟨rfl, (Below.refl _ _).alloc (Nat.le_refl _) _⟩
  all_goals
    clear hd
    go_enter Try.func63, Try.ntmps63
    go_wp2
    go_ret
    exact ⟨rfl, (Below.refl _ _).alloc (Nat.le_refl _) _⟩

-- GENERATED

set_option maxHeartbeats 400000 in
theorem dcall_no (f : Value) (b : ByteArray) (n : Int) (w : World) (hb : (b.size : Int) ≤ 9223372036854775807) (h : 200000 < (b.size : Int) ∨ n < 0 ∨ (b.size : Int) < n) :
    Calls Try.prog 66 #[dev b n, f] w fun e w' => e = .returned (.tuple #[dev ⟨#[]⟩ 0, .int .i64 1]) ∧ Below w.heap.size w w' := by
  have HH := Lib.hid h
  clear h
  go_enter Try.func66, Try.ntmps66
  go_wp2_with (first
    | (go_at_call 63; refine (dright_no _ _ _ hb HH.out).mono ?_; rintro e w1 ⟨rfl, hb1⟩; obtain ⟨hc1, hf1⟩ := bcell hb1; have hz0 := hb1.size; simp at hz0; have hz1 : w.heap.size + 1 < w1.heap.size := by omega))
  refine bodyPost_ret (v := .tuple #[dev ⟨#[]⟩ 0, .int .i64 1]) (by simp [results, Try.results66, go_sem, hc1, hz1]) rfl ⟨rfl, ?_⟩
  exact ((((Below.refl _ _).alloc (Nat.le_refl _) _).alloc (by simp) _).trans (hb1.mono (by simp; omega))).setCell (by simp) _ |>.setCell (by simp) _

set_option maxHeartbeats 400000 in
theorem dcall_append (p0 p1 : Option Addr) (b b' : ByteArray) (n n' c : Int) (w : World) (h1 : (b.size : Int) ≤ 200000) (h2 : 0 ≤ n) (h3 : n ≤ (b.size : Int))
    (H : ∀ w1, Below w.heap.size w w1 → Calls Try.prog 70 #[.pointer p0, .pointer p1] w1 fun e w2 => e = .returned (.tuple #[dev b' n', .int .i64 c]) ∧ Below w1.heap.size w1 w2) :
    Calls Try.prog 66 #[dev b n, .func (.func 70) #[] #[.pointer p0, .pointer p1]] w fun e w' => e = .returned (.tuple #[dev b' n', .int .i64 c]) ∧ Below w.heap.size w w' := by
  have HH := Lib.hid H
  clear H
  go_enter Try.func66, Try.ntmps66
  go_wp2_with (first
    | (go_at_call 63; refine (dright_yes _ _ _ h1 h2 h3).mono ?_; rintro e w1 ⟨rfl, hb1⟩; obtain ⟨hc1, hf1⟩ := bcell hb1; have hz0 := hb1.size; simp at hz0; have hz1 : w.heap.size + 1 < w1.heap.size := by omega)
    | (go_at_call 70; refine (HH.out _ ((((Below.refl _ _).alloc (Nat.le_refl _) _).alloc (by simp) _).trans (hb1.mono (by simp; omega)))).mono ?_; rintro e w2 ⟨rfl, hb2⟩; obtain ⟨hc2, hf2⟩ := bcell hb2))
  refine bodyPost_ret (v := .tuple #[dev b' n', .int .i64 c]) (by simp [results, Try.results66, go_sem, hc1, hz1, hc2]) rfl ⟨rfl, ?_⟩
  exact (((((Below.refl _ _).alloc (Nat.le_refl _) _).alloc (by simp) _).trans (hb1.mono (by simp; omega))).trans (hb2.mono (by omega))).setCell (by simp) _ |>.setCell (by simp) _

set_option maxHeartbeats 400000 in
theorem dcall_sync (p0 : Option Addr) (b b' : ByteArray) (n n' c : Int) (w : World) (h1 : (b.size : Int) ≤ 200000) (h2 : 0 ≤ n) (h3 : n ≤ (b.size : Int))
    (H : ∀ w1, Below w.heap.size w w1 → Calls Try.prog 67 #[.pointer p0] w1 fun e w2 => e = .returned (.tuple #[dev b' n', .int .i64 c]) ∧ Below w1.heap.size w1 w2) :
    Calls Try.prog 66 #[dev b n, .func (.func 67) #[] #[.pointer p0]] w fun e w' => e = .returned (.tuple #[dev b' n', .int .i64 c]) ∧ Below w.heap.size w w' := by
  have HH := Lib.hid H
  clear H
  go_enter Try.func66, Try.ntmps66
  go_wp2_with (first
    | (go_at_call 63; refine (dright_yes _ _ _ h1 h2 h3).mono ?_; rintro e w1 ⟨rfl, hb1⟩; obtain ⟨hc1, hf1⟩ := bcell hb1; have hz0 := hb1.size; simp at hz0; have hz1 : w.heap.size + 1 < w1.heap.size := by omega)
    | (go_at_call 67; refine (HH.out _ ((((Below.refl _ _).alloc (Nat.le_refl _) _).alloc (by simp) _).trans (hb1.mono (by simp; omega)))).mono ?_; rintro e w2 ⟨rfl, hb2⟩; obtain ⟨hc2, hf2⟩ := bcell hb2))
  refine bodyPost_ret (v := .tuple #[dev b' n', .int .i64 c]) (by simp [results, Try.results66, go_sem, hc1, hz1, hc2]) rfl ⟨rfl, ?_⟩
  exact (((((Below.refl _ _).alloc (Nat.le_refl _) _).alloc (by simp) _).trans (hb1.mono (by simp; omega))).trans (hb2.mono (by omega))).setCell (by simp) _ |>.setCell (by simp) _

set_option maxHeartbeats 400000 in
theorem dcall_crash (p0 p1 : Option Addr) (b b' : ByteArray) (n n' c : Int) (w : World) (h1 : (b.size : Int) ≤ 200000) (h2 : 0 ≤ n) (h3 : n ≤ (b.size : Int))
    (H : ∀ w1, Below w.heap.size w w1 → Calls Try.prog 68 #[.pointer p0, .pointer p1] w1 fun e w2 => e = .returned (.tuple #[dev b' n', .int .i64 c]) ∧ Below w1.heap.size w1 w2) :
    Calls Try.prog 66 #[dev b n, .func (.func 68) #[] #[.pointer p0, .pointer p1]] w fun e w' => e = .returned (.tuple #[dev b' n', .int .i64 c]) ∧ Below w.heap.size w w' := by
  have HH := Lib.hid H
  clear H
  go_enter Try.func66, Try.ntmps66
  go_wp2_with (first
    | (go_at_call 63; refine (dright_yes _ _ _ h1 h2 h3).mono ?_; rintro e w1 ⟨rfl, hb1⟩; obtain ⟨hc1, hf1⟩ := bcell hb1; have hz0 := hb1.size; simp at hz0; have hz1 : w.heap.size + 1 < w1.heap.size := by omega)
    | (go_at_call 68; refine (HH.out _ ((((Below.refl _ _).alloc (Nat.le_refl _) _).alloc (by simp) _).trans (hb1.mono (by simp; omega)))).mono ?_; rintro e w2 ⟨rfl, hb2⟩; obtain ⟨hc2, hf2⟩ := bcell hb2))
  refine bodyPost_ret (v := .tuple #[dev b' n', .int .i64 c]) (by simp [results, Try.results66, go_sem, hc1, hz1, hc2]) rfl ⟨rfl, ?_⟩
  exact (((((Below.refl _ _).alloc (Nat.le_refl _) _).alloc (by simp) _).trans (hb1.mono (by simp; omega))).trans (hb2.mono (by omega))).setCell (by simp) _ |>.setCell (by simp) _

set_option maxHeartbeats 400000 in
theorem dcall_cut (p0 p1 : Option Addr) (b b' : ByteArray) (n n' c : Int) (w : World) (h1 : (b.size : Int) ≤ 200000) (h2 : 0 ≤ n) (h3 : n ≤ (b.size : Int))
    (H : ∀ w1, Below w.heap.size w w1 → Calls Try.prog 71 #[.pointer p0, .pointer p1] w1 fun e w2 => e = .returned (.tuple #[dev b' n', .int .i64 c]) ∧ Below w1.heap.size w1 w2) :
    Calls Try.prog 66 #[dev b n, .func (.func 71) #[] #[.pointer p0, .pointer p1]] w fun e w' => e = .returned (.tuple #[dev b' n', .int .i64 c]) ∧ Below w.heap.size w w' := by
  have HH := Lib.hid H
  clear H
  go_enter Try.func66, Try.ntmps66
  go_wp2_with (first
    | (go_at_call 63; refine (dright_yes _ _ _ h1 h2 h3).mono ?_; rintro e w1 ⟨rfl, hb1⟩; obtain ⟨hc1, hf1⟩ := bcell hb1; have hz0 := hb1.size; simp at hz0; have hz1 : w.heap.size + 1 < w1.heap.size := by omega)
    | (go_at_call 71; refine (HH.out _ ((((Below.refl _ _).alloc (Nat.le_refl _) _).alloc (by simp) _).trans (hb1.mono (by simp; omega)))).mono ?_; rintro e w2 ⟨rfl, hb2⟩; obtain ⟨hc2, hf2⟩ := bcell hb2))
  refine bodyPost_ret (v := .tuple #[dev b' n', .int .i64 c]) (by simp [results, Try.results66, go_sem, hc1, hz1, hc2]) rfl ⟨rfl, ?_⟩
  exact (((((Below.refl _ _).alloc (Nat.le_refl _) _).alloc (by simp) _).trans (hb1.mono (by simp; omega))).trans (hb2.mono (by omega))).setCell (by simp) _ |>.setCell (by simp) _

end Go.Proofs.Ytddeeejfmodgfaa
