/- Device: contracts of the closures. -/
import Derived.Test.YtddeeejfmodgfaaDev1
import Derived.Test.YtddeeejfmodgfaaReg
import Derived.RegionTactic
import Derived.BigRegion
import Derived.StillTailTactics
import Derived.Deep.QuietTactic
import Derived.BigQuiet
import Derived.Deep.DeepCutAuto
namespace Go.Proofs.Ytddeeejfmodgfaa
open Go.RowKit

set_option maxHeartbeats 400000 in
theorem append_c_ok (ks kd : Nat) (b s : ByteArray) (n : Int) (w : World) (h1 : ks < w.heap.size) (h2 : kd < w.heap.size)
    (c1 : w.cell? ⟨ks, 0, none⟩ = some (.string s)) (c2 : w.cell? ⟨kd, 0, none⟩ = some (.string b)) (c3 : w.cell? ⟨kd, 1, none⟩ = some (.int .i64 n))
    (g1 : (b.size : Int) ≤ 200000) (g2 : (s.size : Int) ≤ 200000 - (b.size : Int)) :
    Calls Try.prog 70 #[.pointer (some ⟨ks, 0, none⟩), .pointer (some ⟨kd, 0, none⟩)] w fun e w2 => e = .returned (.tuple #[dev (b ++ s) n, .int .i64 0]) ∧ Below w.heap.size w w2 := by
  go_enter Try.func70, Try.ntmps70
  go_wp2
  refine bodyPost_ret (v := .tuple #[dev (b ++ s) n, .int .i64 0]) (by simp [results, Try.results70, go_sem]) rfl ⟨rfl, (Below.refl _ _).alloc (Nat.le_refl _) _⟩

set_option maxHeartbeats 400000 in
theorem append_c_long (ks kd : Nat) (b s : ByteArray) (w : World) (h1 : ks < w.heap.size) (h2 : kd < w.heap.size)
    (c1 : w.cell? ⟨ks, 0, none⟩ = some (.string s)) (c2 : w.cell? ⟨kd, 0, none⟩ = some (.string b))
    (g1 : (b.size : Int) ≤ 200000) (g2 : 200000 - (b.size : Int) < (s.size : Int)) :
    Calls Try.prog 70 #[.pointer (some ⟨ks, 0, none⟩), .pointer (some ⟨kd, 0, none⟩)] w fun e w2 => e = .returned (.tuple #[dev ⟨#[]⟩ 0, .int .i64 2]) ∧ Below w.heap.size w w2 := by
  go_enter Try.func70, Try.ntmps70
  go_wp2
  refine bodyPost_ret (v := .tuple #[dev ⟨#[]⟩ 0, .int .i64 2]) (by simp [results, Try.results70, go_sem]) rfl ?_
  exact ⟨rfl, (Below.refl _ _).alloc (Nat.le_refl _) _⟩

set_option maxHeartbeats 400000 in
theorem sync_c (kd : Nat) (b : ByteArray) (w : World) (h2 : kd < w.heap.size) (c2 : w.cell? ⟨kd, 0, none⟩ = some (.string b)) (g1 : (b.size : Int) ≤ 200000) :
    Calls Try.prog 67 #[.pointer (some ⟨kd, 0, none⟩)] w fun e w2 => e = .returned (.tuple #[dev b b.size, .int .i64 0]) ∧ Below w.heap.size w w2 := by
  go_enter Try.func67, Try.ntmps67
  go_wp2
  refine bodyPost_ret (v := .tuple #[dev b b.size, .int .i64 0]) (by simp [results, Try.results67, go_sem]) rfl ?_
  exact ⟨rfl, (Below.refl _ _).alloc (Nat.le_refl _) _⟩

set_option maxHeartbeats 400000 in
theorem crash_c (km kd : Nat) (b : ByteArray) (n m k : Int) (w : World) (h1 : km < w.heap.size) (h2 : kd < w.heap.size)
    (c1 : w.cell? ⟨km, 0, none⟩ = some (.int .i64 m)) (c2 : w.cell? ⟨kd, 0, none⟩ = some (.string b)) (c3 : w.cell? ⟨kd, 1, none⟩ = some (.int .i64 n))
    (g1 : (b.size : Int) ≤ 200000) (g2 : 0 ≤ n) (g3 : n ≤ (b.size : Int)) (hk : (m ≤ 0 ∧ k = n) ∨ (0 < m ∧ m ≤ (b.size : Int) - n ∧ k = n + m) ∨ (0 < m ∧ (b.size : Int) - n < m ∧ k = (b.size : Int))) :
    Calls Try.prog 68 #[.pointer (some ⟨kd, 0, none⟩), .pointer (some ⟨km, 0, none⟩)] w fun e w2 => e = .returned (.tuple #[dev (b.extract 0 k.toNat) k, .int .i64 0]) ∧ Below w.heap.size w w2 := by
  have hk' : (m < 0 ∧ k = n) ∨ (m = 0 ∧ k = n) ∨ (0 < m ∧ m ≤ (b.size : Int) - n ∧ k = n + m) ∨ (0 < m ∧ (b.size : Int) - n < m ∧ k = (b.size : Int)) := by omega
  clear hk
  rcases hk' with ⟨d1, hk⟩ | ⟨d1, hk⟩ | ⟨d1, d2, hk⟩ | ⟨d1, d2, hk⟩ <;> subst k
  case inl =>
    go_enter Try.func68, Try.ntmps68
    go_wp2
    refine bodyPost_ret (v := .tuple #[dev (b.extract 0 n.toNat) n, .int .i64 0]) (by simp [results, Try.results68, go_sem]) rfl ?_
    exact ⟨rfl, (Below.refl _ _).alloc (Nat.le_refl _) _⟩
  case inr.inl =>
    subst m
    go_enter Try.func68, Try.ntmps68
    go_wp2
    refine bodyPost_ret (v := .tuple #[dev (b.extract 0 n.toNat) n, .int .i64 0]) (by simp [results, Try.results68, go_sem]) rfl ?_
    exact ⟨rfl, (Below.refl _ _).alloc (Nat.le_refl _) _⟩
  case inr.inr.inl =>
    go_enter Try.func68, Try.ntmps68
    go_wp2
    refine bodyPost_ret (v := .tuple #[dev (b.extract 0 (n + m).toNat) (n + m), .int .i64 0]) (by simp [results, Try.results68, go_sem]) rfl ?_
    exact ⟨rfl, (Below.refl _ _).alloc (Nat.le_refl _) _⟩
  case inr.inr.inr =>
    have he : n + ((b.size : Int) - n) = (b.size : Int) := by omega
    go_enter Try.func68, Try.ntmps68
    go_wp2
    refine bodyPost_ret (v := .tuple #[dev (b.extract 0 (b.size : Int).toNat) b.size, .int .i64 0]) (by simp [results, Try.results68, go_sem]) rfl ?_
    exact ⟨rfl, (Below.refl _ _).alloc (Nat.le_refl _) _⟩

set_option maxHeartbeats 400000 in
theorem cut_c_bad (ks kd : Nat) (b : ByteArray) (m : Int) (w : World) (h1 : ks < w.heap.size) (h2 : kd < w.heap.size)
    (c1 : w.cell? ⟨ks, 0, none⟩ = some (.int .i64 m)) (c2 : w.cell? ⟨kd, 0, none⟩ = some (.string b))
    (g1 : (b.size : Int) ≤ 200000) (g2 : m < 0 ∨ (b.size : Int) < m) :
    Calls Try.prog 71 #[.pointer (some ⟨ks, 0, none⟩), .pointer (some ⟨kd, 0, none⟩)] w fun e w2 => e = .returned (.tuple #[dev ⟨#[]⟩ 0, .int .i64 1]) ∧ Below w.heap.size w w2 := by
  have hc : m < 0 ∨ (0 ≤ m ∧ (b.size : Int) < m) := by omega
  clear g2
  rcases hc with c | ⟨c, c'⟩
  all_goals
    go_enter Try.func71, Try.ntmps71
    go_wp2
    refine bodyPost_ret (v := .tuple #[dev ⟨#[]⟩ 0, .int .i64 1]) (by simp [results, Try.results71, go_sem]) rfl ?_
    exact ⟨rfl, (Below.refl _ _).alloc (Nat.le_refl _) _⟩

set_option maxHeartbeats 400000 in
theorem cut_c_ok (ks kd : Nat) (b : ByteArray) (n m k : Int) (w : World) (h1 : ks < w.heap.size) (h2 : kd < w.heap.size)
    (c1 : w.cell? ⟨ks, 0, none⟩ = some (.int .i64 m)) (c2 : w.cell? ⟨kd, 0, none⟩ = some (.string b)) (c3 : w.cell? ⟨kd, 1, none⟩ = some (.int .i64 n))
    (g1 : (b.size : Int) ≤ 200000) (g2 : 0 ≤ m) (g3 : m ≤ (b.size : Int)) (hk : (n ≤ m ∧ k = n) ∨ (m < n ∧ k = m)) :
    Calls Try.prog 71 #[.pointer (some ⟨ks, 0, none⟩), .pointer (some ⟨kd, 0, none⟩)] w fun e w2 => e = .returned (.tuple #[dev (b.extract 0 m.toNat) k, .int .i64 0]) ∧ Below w.heap.size w w2 := by
  rcases hk with ⟨hk, e⟩ | ⟨hk, e⟩ <;> subst k
  all_goals
    go_enter Try.func71, Try.ntmps71
    go_wp2
    (refine region_tail 9 mix ?hB ?_; case hB => kernel_rfl); (simp only [List.take_succ_cons, List.take_zero, List.drop_succ_cons, List.drop_zero]; (iterate 9 (with_reducible refine wpStill_step ?_; intro K hK; go_simp; with_reducible refine hK _ ?_; clear hK K)); with_reducible refine wpStill_nil ?_)
    go_wp2
    first
      | (refine bodyPost_ret (v := .tuple #[dev (b.extract 0 m.toNat) n, .int .i64 0]) (by simp [results, Try.results71, go_sem]) rfl ?_; exact ⟨rfl, ((Below.refl _ _).alloc (Nat.le_refl _) _).drew⟩)
      | (refine bodyPost_ret (v := .tuple #[dev (b.extract 0 m.toNat) m, .int .i64 0]) (by simp [results, Try.results71, go_sem]) rfl ?_; exact ⟨rfl, ((Below.refl _ _).alloc (Nat.le_refl _) _).drew⟩)
end Go.Proofs.Ytddeeejfmodgfaa
