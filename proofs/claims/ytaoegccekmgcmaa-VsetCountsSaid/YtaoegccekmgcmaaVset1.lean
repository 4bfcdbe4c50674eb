/- Vset: counts, turns. Contracts of Quorum, Faults, Proposer, alive. -/
import Derived.Test.YtaoegccekmgcmaaRep1
namespace Go.Proofs.Ytaoegccekmgcmaa
open Go.RowKit

/-- 'n' clamped to 'lo .. 1000000' is 'm'. -/
def Clamp (lo n m : Int) : Prop := (n < lo ∧ m = lo) ∨ (lo ≤ n ∧ n ≤ 1000000 ∧ m = n) ∨ (1000000 < n ∧ m = 1000000)

theorem clamp_ex (lo n : Int) (h : lo ≤ 1000000) : ∃ m, Clamp lo n m := by
  by_cases h1 : n < lo
  · exact ⟨lo, .inl ⟨h1, rfl⟩⟩
  · by_cases h2 : n ≤ 1000000
    · exact ⟨n, .inr (.inl ⟨by omega, h2, rfl⟩)⟩
    · exact ⟨_, .inr (.inr ⟨by omega, rfl⟩)⟩

theorem ret_i64 {a b : Int} (h : a = b) : Ending.returned (.int .i64 a) = .returned (.int .i64 b) := by rw [h]

set_option maxHeartbeats 400000 in
theorem quorum_any (n m q : Int) (w : World) (hm : Clamp 0 n m) (g1 : 2 * m ≤ 3 * q) (g2 : 3 * q ≤ 2 * m + 2) :
    Calls Try.prog 9 #[.int .i64 n] w fun e w' => e = .returned (.int .i64 q) ∧ w = w' := by
  rcases hm with ⟨h1, rfl⟩ | ⟨h1, h2, rfl⟩ | ⟨h1, rfl⟩
  all_goals
    go_enter Try.func9, Try.ntmps9
    go_wp2
    go_ret
    exact ⟨ret_i64 (by omega), rfl⟩

set_option maxHeartbeats 400000 in
theorem faults_any (n m q : Int) (w : World) (hm : Clamp 1 n m) (g1 : m - 1 ≤ 3 * q + 2) (g2 : 3 * q ≤ m - 1) :
    Calls Try.prog 10 #[.int .i64 n] w fun e w' => e = .returned (.int .i64 q) ∧ w = w' := by
  rcases hm with ⟨h1, rfl⟩ | ⟨h1, h2, rfl⟩ | ⟨h1, rfl⟩
  all_goals
    go_enter Try.func10, Try.ntmps10
    go_wp2
    go_ret
    exact ⟨ret_i64 (by omega), rfl⟩

set_option maxHeartbeats 400000 in
theorem alive20 (w : World) :
    Calls Try.prog 12 #[] w fun e w' => e = .returned (.bool true) ∧ w = w' := by
  go_enter Try.func12, Try.ntmps12
  go_wp2
  go_ret
  exact ⟨rfl, rfl⟩

set_option maxHeartbeats 400000 in
theorem proposer_nil (w : World) (a : Option Addr) (cap : Nat) (h r : Int) :
    Calls Try.prog 11 #[.slice a 0 cap, .int .u64 h, .int .u64 r] w fun e w' => e = .returned (.tuple #[.string ⟨#[]⟩, .int .i64 1]) ∧ w = w' := by
  go_enter Try.func11, Try.ntmps11
  go_wp2
  go_ret2
  exact ⟨rfl, rfl⟩

set_option maxHeartbeats 400000 in
theorem proposer_any (w : World) (a : Addr) (len cap k : Nat) (h r x : Int) (s : ByteArray) (hl : 0 < len) (hk : k < len)
   (hs : IntKind.u64.wrap (h + r) = x) (hx : 0 ≤ x) (hw : IntKind.u64.wrap (len : Int) = (len : Int)) (hm : x % (len : Int) = (k : Int))
   (hc : w.cell? (a.add k) = some (.string s)) :
    Calls Try.prog 11 #[.slice (some a) len cap, .int .u64 h, .int .u64 r] w fun e w' => e = .returned (.tuple #[.string s, .int .i64 0]) ∧ w = w' := by
  go_enter Try.func11, Try.ntmps11
  go_wp2
  go_ret2
  exact ⟨rfl, rfl⟩
end Go.Proofs.Ytaoegccekmgcmaa
