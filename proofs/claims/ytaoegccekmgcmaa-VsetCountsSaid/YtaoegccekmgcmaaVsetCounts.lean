/- VsetCounts: the walk. -/
import Derived.Test.YtaoegccekmgcmaaVset1
namespace Go.Proofs.Ytaoegccekmgcmaa
open Go.RowKit

set_option maxHeartbeats 1000000 in
theorem counts_nil (a : Option Addr) (cap : Nat) (n m q m' f : Int) (h r : Int) (w : World) (b1 : -9223372036854775808 ≤ n) (b2 : n ≤ 9223372036854775807) (hm : Clamp 0 n m) (hm' : Clamp 1 n m')
    (g1 : 2 * m ≤ 3 * q) (g2 : 3 * q ≤ 2 * m + 2) (g3 : m' - 1 ≤ 3 * f + 2) (g4 : 3 * f ≤ m' - 1) :
    Calls Try.prog 3 #[.int .i64 n, .slice a 0 cap, .int .u64 h, .int .u64 r] w fun e w' => e = .returned (.bool true) ∧ w = w' := by
  have H1 := quorum_any n m q w hm g1 g2
  have H2 := faults_any n m' f w hm' g3 g4
  have hc : (n < 0 ∧ m = 0 ∧ m' = 1) ∨ (n = 0 ∧ m = 0 ∧ m' = 1) ∨ (1 ≤ n ∧ n ≤ 1000000 ∧ m = n ∧ m' = n) ∨ (1000000 < n ∧ m = 1000000 ∧ m' = 1000000) := by
    unfold Clamp at hm hm'; omega
  have K1 := Lib.hid H1
  have K2 := Lib.hid H2
  clear H1 H2 hm hm'
  rcases hc with ⟨c1, rfl, rfl⟩ | ⟨rfl, rfl, rfl⟩ | ⟨c1, c2, rfl, rfl⟩ | ⟨c1, rfl, rfl⟩
  all_goals
    go_enter Try.func3, Try.ntmps3
    go_wp2_with (first
      | (go_at_call 9; refine K1.out.mono ?_; rintro e w' ⟨rfl, rfl⟩)
      | (go_at_call 10; refine K2.out.mono ?_; rintro e w' ⟨rfl, rfl⟩)
      | (go_at_call 11; refine (proposer_nil _ _ _ _ _).mono ?_; rintro e w' ⟨rfl, rfl⟩)
      | (go_at_call 12; refine (alive20 _).mono ?_; rintro e w' ⟨rfl, rfl⟩))
  all_goals
    go_ret
    exact ⟨rfl, rfl⟩

set_option maxHeartbeats 1000000 in
theorem counts_row (n m q m' f : Int) (h r x : Int) (w : World) (a : Addr) (len cap k : Nat) (s : ByteArray) (b1 : -9223372036854775808 ≤ n) (b2 : n ≤ 9223372036854775807) (hm : Clamp 0 n m) (hm' : Clamp 1 n m')
    (g1 : 2 * m ≤ 3 * q) (g2 : 3 * q ≤ 2 * m + 2) (g3 : m' - 1 ≤ 3 * f + 2) (g4 : 3 * f ≤ m' - 1) (hl : 0 < len) (hk : k < len)
    (hs : IntKind.u64.wrap (h + r) = x) (hx : 0 ≤ x) (hw : IntKind.u64.wrap (len : Int) = (len : Int)) (hmd : x % (len : Int) = (k : Int))
    (hc : w.cell? (a.add k) = some (.string s)) :
    Calls Try.prog 3 #[.int .i64 n, .slice (some a) len cap, .int .u64 h, .int .u64 r] w fun e w' => e = .returned (.bool true) ∧ w = w' := by
  have H1 := quorum_any n m q w hm g1 g2
  have H2 := faults_any n m' f w hm' g3 g4
  have H3 := proposer_any w a len cap k h r x s hl hk hs hx hw hmd hc
  have hcs : (n < 0 ∧ m = 0 ∧ m' = 1) ∨ (n = 0 ∧ m = 0 ∧ m' = 1) ∨ (1 ≤ n ∧ n ≤ 1000000 ∧ m = n ∧ m' = n) ∨ (1000000 < n ∧ m = 1000000 ∧ m' = 1000000) := by
    unfold Clamp at hm hm'; omega
  have K1 := Lib.hid H1
  have K2 := Lib.hid H2
  have K3 := Lib.hid H3
  clear H1 H2 H3 hm hm'
  rcases hcs with ⟨c1, rfl, rfl⟩ | ⟨rfl, rfl, rfl⟩ | ⟨c1, c2, rfl, rfl⟩ | ⟨c1, rfl, rfl⟩
  all_goals
    go_enter Try.func3, Try.ntmps3
    go_wp2_with (first
      | (go_at_call 9; refine K1.out.mono ?_; rintro e w' ⟨rfl, rfl⟩)
      | (go_at_call 10; refine K2.out.mono ?_; rintro e w' ⟨rfl, rfl⟩)
      | (go_at_call 11; refine K3.out.mono ?_; rintro e w' ⟨rfl, rfl⟩)
      | (go_at_call 12; refine (alive20 _).mono ?_; rintro e w' ⟨rfl, rfl⟩))
  all_goals
    go_ret
    exact ⟨rfl, rfl⟩

theorem vsetCounts_walk (W : World) (n : Int) (wn : (Lit.int .i64 n).wf = true) (v : Value) (ss : List ByteArray) (hv : StrRow W v ss) (h : Int) (_ : (Lit.int .u64 h).wf = true) (r : Int) (_ : (Lit.int .u64 r).wf = true) :
    Calls Try.prog 3 #[.int .i64 n, v, .int .u64 h, .int .u64 r] W fun e W' => e = .returned (.bool true) ∧ Below W.heap.size W W' := by
  have b := i64_bd wn
  obtain ⟨m, hm⟩ := clamp_ex 0 n (by omega)
  obtain ⟨m', hm'⟩ := clamp_ex 1 n (by omega)
  rcases hv with ⟨rfl, rfl⟩ | ⟨a, len, cap, rfl, hlc, hcap, hlen, hcell⟩
  · exact (counts_nil _ _ n m ((2 * m + 2) / 3) m' ((m' - 1) / 3) h r W b.1 b.2 hm hm' (by omega) (by omega) (by omega) (by omega)).mono fun e w' h => below_same h
  · by_cases hz : len = 0
    · subst hz
      exact (counts_nil _ _ n m ((2 * m + 2) / 3) m' ((m' - 1) / 3) h r W b.1 b.2 hm hm' (by omega) (by omega) (by omega) (by omega)).mono fun e w' h => below_same h
    · have hb := u64_wrap_bd (h + r)
      unfold maxLen at hcap
      have hq : 0 ≤ IntKind.u64.wrap (h + r) % (len : Int) ∧ IntKind.u64.wrap (h + r) % (len : Int) < (len : Int) := ⟨Int.emod_nonneg _ (by omega), Int.emod_lt_of_pos _ (by omega)⟩
      exact (counts_row n m ((2 * m + 2) / 3) m' ((m' - 1) / 3) h r _ W a len cap (IntKind.u64.wrap (h + r) % (len : Int)).toNat _ b.1 b.2 hm hm' (by omega) (by omega) (by omega) (by omega) (by omega) (by omega) rfl hb.1
        (u64_wrap_lt (by omega) (by omega)) (by omega) (hcell _ (by omega))).mono fun e w' h => below_same h

end Go.Proofs.Ytaoegccekmgcmaa
