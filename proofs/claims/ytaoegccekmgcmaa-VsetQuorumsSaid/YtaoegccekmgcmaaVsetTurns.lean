/- VsetTurns: the walk. -/
import Derived.Test.YtaoegccekmgcmaaVset1
namespace Go.Proofs.Ytaoegccekmgcmaa
open Go.RowKit

/-- 'x' is 'n', or 'top' where n is beyond it. -/
def Top (top n x : Int) : Prop := (n ≤ top ∧ x = n) ∨ (top < n ∧ x = top)

theorem proposer_sum (w : World) (a : Addr) (len cap k : Nat) (h r : Int) (s : ByteArray) (hl : 0 < len) (hk : k < len) (hlen : len ≤ 20) (h0 : 0 ≤ h + r) (h1 : h + r ≤ 9223372036854775807) (hm : (h + r) % (len : Int) = (k : Int))
   (hc : w.cell? (a.add k) = some (.string s)) :
    Calls Try.prog 11 #[.slice (some a) len cap, .int .u64 h, .int .u64 r] w fun e w' => e = .returned (.tuple #[.string s, .int .i64 0]) ∧ w = w' :=
  proposer_any w a len cap k h r (h + r) s hl hk (u64_wrap_lt h0 (by omega)) h0 (u64_wrap_lt (by omega) (by omega)) hm hc

set_option maxHeartbeats 1000000 in
theorem turns_nil (a : Option Addr) (cap : Nat) (h r h' r' : Int) (w : World) (b1 : 0 ≤ h) (b2 : 0 ≤ r) (b3 : h ≤ 18446744073709551615) (b4 : r ≤ 18446744073709551615)
    (t1 : Top 4611686018427387904 h h') (t2 : Top 2305843009213693952 r r') :
    Calls Try.prog 5 #[.slice a 0 cap, .int .u64 h, .int .u64 r] w fun e w' => e = .returned (.bool true) ∧ w = w' := by
  rcases t1 with ⟨c1, rfl⟩ | ⟨c1, rfl⟩ <;> rcases t2 with ⟨c2, rfl⟩ | ⟨c2, rfl⟩
  all_goals
    go_enter Try.func5, Try.ntmps5
    go_wp2_with (first
      | (go_at_call 11; refine (proposer_nil _ _ _ _ _).mono ?_; rintro e w' ⟨rfl, rfl⟩)
      | (go_at_call 12; refine (alive20 _).mono ?_; rintro e w' ⟨rfl, rfl⟩))
  all_goals
    go_ret
    exact ⟨rfl, rfl⟩

set_option maxHeartbeats 1000000 in
theorem turns_row (a : Addr) (len cap L k : Nat) (s : ByteArray) (h r h' r' : Int) (w : World) (b1 : 0 ≤ h) (b2 : 0 ≤ r) (b3 : h ≤ 18446744073709551615) (b4 : r ≤ 18446744073709551615)
    (t1 : Top 4611686018427387904 h h') (t2 : Top 2305843009213693952 r r') (hl : 0 < len) (hlc : len ≤ cap) (hcap : cap ≤ 9223372036854775807) (tL : (len ≤ 20 ∧ L = len) ∨ (20 < len ∧ L = 20)) (hk : k < L)
    (hm : (h' + r' + 1) % (L : Int) = (k : Int)) (hc : w.cell? (a.add k) = some (.string s)) :
    Calls Try.prog 5 #[.slice (some a) len cap, .int .u64 h, .int .u64 r] w fun e w' => e = .returned (.bool true) ∧ w = w' := by
  have hh : 0 ≤ h' ∧ h' ≤ 4611686018427387904 := by unfold Top at t1; omega
  have hr : 0 ≤ r' ∧ r' ≤ 2305843009213693952 := by unfold Top at t2; omega
  have HM : Hid (∀ x : Int, x = h' + r' + 1 ∨ x = h' + r' + 1 + (L : Int) → x % (L : Int) = (k : Int)) := Lib.hid (by
    rintro x (rfl | rfl)
    · exact hm
    · rw [Int.add_emod_right]; exact hm)
  have HC := Lib.hid hc
  clear hm hc
  rcases t1 with ⟨c1, rfl⟩ | ⟨c1, rfl⟩ <;> rcases t2 with ⟨c2, rfl⟩ | ⟨c2, rfl⟩ <;> rcases tL with ⟨c3, rfl⟩ | ⟨c3, rfl⟩
  all_goals
    go_enter Try.func5, Try.ntmps5
    go_wp2_with (first
      | (go_at_call 11; refine (proposer_sum _ _ _ _ k _ _ s (by omega) hk (by omega) (by omega) (by omega) (HM.out _ (by omega)) HC.out).mono ?_; rintro e w' ⟨rfl, rfl⟩)
      | (go_at_call 12; refine (alive20 _).mono ?_; rintro e w' ⟨rfl, rfl⟩))
  all_goals
    go_ret
    exact ⟨rfl, rfl⟩

theorem top_ex (top n : Int) : ∃ x, Top top n x := by
  by_cases h : n ≤ top
  · exact ⟨n, .inl ⟨h, rfl⟩⟩
  · exact ⟨top, .inr ⟨by omega, rfl⟩⟩

theorem vsetTurns_walk (W : World) (v : Value) (ss : List ByteArray) (hv : StrRow W v ss) (h : Int) (wh : (Lit.int .u64 h).wf = true) (r : Int) (wr : (Lit.int .u64 r).wf = true) :
    Calls Try.prog 5 #[v, .int .u64 h, .int .u64 r] W fun e W' => e = .returned (.bool true) ∧ Below W.heap.size W W' := by
  have bh := u64_bd wh
  have br := u64_bd wr
  obtain ⟨h', t1⟩ := top_ex 4611686018427387904 h
  obtain ⟨r', t2⟩ := top_ex 2305843009213693952 r
  rcases hv with ⟨rfl, rfl⟩ | ⟨a, len, cap, rfl, hlc, hcap, hlen, hcell⟩
  · exact (turns_nil _ _ h r h' r' W bh.1 br.1 bh.2 br.2 t1 t2).mono fun e w' h => below_same h
  · by_cases hz : len = 0
    · subst hz
      exact (turns_nil _ _ h r h' r' W bh.1 br.1 bh.2 br.2 t1 t2).mono fun e w' h => below_same h
    · unfold maxLen at hcap
      obtain ⟨L, tL⟩ : ∃ L, (len ≤ 20 ∧ L = len) ∨ (20 < len ∧ L = 20) := by
        by_cases h : len ≤ 20
        · exact ⟨len, .inl ⟨h, rfl⟩⟩
        · exact ⟨20, .inr ⟨by omega, rfl⟩⟩
      have q1 := Int.emod_nonneg (h' + r' + 1) (b := (L : Int)) (by omega)
      have q2 := Int.emod_lt_of_pos (h' + r' + 1) (b := (L : Int)) (by omega)
      exact (turns_row a len cap L ((h' + r' + 1) % (L : Int)).toNat _ h r h' r' W bh.1 br.1 bh.2 br.2 t1 t2 (by omega) hlc (by omega) tL (by omega) (by omega) (hcell _ (by omega))).mono fun e w' h => below_same h
end Go.Proofs.Ytaoegccekmgcmaa
