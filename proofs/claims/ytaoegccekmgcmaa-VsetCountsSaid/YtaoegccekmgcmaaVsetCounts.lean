/- VsetCounts: for every input the law returns true, and each argument reads as it did. No condition. -/
import Derived.Test.YtaoegccekmgcmaaVset1
import Derived.SliceStrings
import Derived.Lib.Hide
namespace Go.Proofs.Ytaoegccekmgcmaa
open Go.ChangeShapes Go.WideShapes Go.ChangeAt Go.RowKit

theorem Try.own : ownKnob Try.prog.godebug = none := by kernel_rfl
theorem Try.laidOut : laidOutB Try.prog = true := by kernel_rfl

/-- A slice of strings: nil, or a row of cells that hold the strings. -/
def StrRow (w : World) (v : Value) (ss : List ByteArray) : Prop :=
  (v = .slice none 0 0 ∧ ss = []) ∨ ∃ (a : Addr) (len cap : Nat), v = .slice (some a) len cap ∧ len ≤ cap ∧ cap ≤ maxLen ∧ ss.length = len ∧ ∀ i, i < len → w.cell? (a.add i) = some (.string (ss.getD i ByteArray.empty))

theorem strRow_open {P : Program} {H : Type} {enc : TypeId × Value → H} {w : World} {base t e : Nat} {v : Value} {d : DataW H} {p : List MemPlace} (ht : P.underlying t = some (.slice e)) (he : P.underlying e = some .string) (hc : P.cellsOf e = 1)
    (hv : Value.okWide P w .any base t v) (h : DataW.Trod enc P w 0 (fun _ => true) true t v d p) : ∃ ss, StrRow w v ss := by
  obtain ⟨a0, len, cap, rfl⟩ := okWide_slice ht hv
  obtain ⟨fuel, hf⟩ := h
  rcases open_strings ht he hc hf with ⟨hcs, _⟩ | ⟨a, len', cap', ss, hcs, _, hl, hm, hz, _, hcell, _⟩
  · simp [Value.cells] at hcs
    obtain ⟨rfl, rfl, rfl⟩ := hcs
    exact ⟨[], .inl ⟨rfl, rfl⟩⟩
  · simp [Value.cells] at hcs
    obtain ⟨rfl, rfl, rfl⟩ := hcs
    simp at hz
    refine ⟨ss.take len, .inr ⟨a, len, cap, rfl, hl, hm, by simp; omega, fun i hi => ?_⟩⟩
    rw [hcell i (by omega)]
    simp [List.getD, List.getElem?_take, hi]

theorem u64_wrap_lt {x : Int} (h0 : 0 ≤ x) (h1 : x < 18446744073709551616) : IntKind.u64.wrap x = x := IntWalk.u64_in _ (by omega)

theorem u64_wrap_bd (x : Int) : 0 ≤ IntKind.u64.wrap x ∧ IntKind.u64.wrap x < 18446744073709551616 := by
  simp [IntKind.wrap, IntKind.bits, IntKind.signed]; omega

set_option maxHeartbeats 1000000 in
theorem counts_nil (a : Option Addr) (cap : Nat) (n m q m' f : Int) (h r : Int) (w : World) (b1 : -9223372036854775808 ≤ n) (b2 : n ≤ 9223372036854775807) (hm : Clamp 0 n m) (hm' : Clamp 1 n m')
    (g1 : 2 * m ≤ 3 * q) (g2 : 3 * q ≤ 2 * m + 2) (g3 : m' - 1 ≤ 3 * f + 2) (g4 : 3 * f ≤ m' - 1) :
    Calls Try.prog 3 #[.int .i64 n, .slice a 0 cap, .int .u64 h, .int .u64 r] w fun e w' => e = .returned (.bool true) ∧ w = w' := by
  have H1 := quorum_any n m q w hm g1 g2
  have H2 := faults_any n m' f w hm' g3 g4
  have hc : (n < 0 ∧ m = 0 ∧ m' = 1) ∨ (n = 0 ∧ m = 0 ∧ m' = 1) ∨ (1 ≤ n ∧ n ≤ 1000000 ∧ m = n ∧ m' = n) ∨ (1000000 < n ∧ m = 1000000 ∧ m' = 1000000) := by
    unfold Clamp at hm hm'; omega
  have K1 := Lib.hid H1
  have K2 := Lib.hid H2
  clear H1 H2 hm hm'
  rcases hc with ⟨c1, rfl, rfl⟩ | ⟨rfl, rfl, rfl⟩ | ⟨c1, c2, rfl, rfl⟩ | ⟨c1, rfl, rfl⟩
  all_goals
    go_enter Try.func3, Try.ntmps3
    go_wp2_with (first
      | (go_at_call 9; refine K1.out.mono ?_; rintro e w' ⟨rfl, rfl⟩)
      | (go_at_call 10; refine K2.out.mono ?_; rintro e w' ⟨rfl, rfl⟩)
      | (go_at_call 11; refine (proposer_nil _ _ _ _ _).mono ?_; rintro e w' ⟨rfl, rfl⟩)
      | (go_at_call 12; refine (alive20 _).mono ?_; rintro e w' ⟨rfl, rfl⟩))
  all_goals
    go_ret
    exact ⟨rfl, rfl⟩

set_option maxHeartbeats 1000000 in
theorem counts_row (n m q m' f : Int) (h r x : Int) (w : World) (a : Addr) (len cap k : Nat) (s : ByteArray) (b1 : -9223372036854775808 ≤ n) (b2 : n ≤ 9223372036854775807) (hm : Clamp 0 n m) (hm' : Clamp 1 n m')
    (g1 : 2 * m ≤ 3 * q) (g2 : 3 * q ≤ 2 * m + 2) (g3 : m' - 1 ≤ 3 * f + 2) (g4 : 3 * f ≤ m' - 1) (hl : 0 < len) (hk : k < len)
    (hs : IntKind.u64.wrap (h + r) = x) (hx : 0 ≤ x) (hw : IntKind.u64.wrap (len : Int) = (len : Int)) (hmd : x % (len : Int) = (k : Int))
    (hc : w.cell? (a.add k) = some (.string s)) :
    Calls Try.prog 3 #[.int .i64 n, .slice (some a) len cap, .int .u64 h, .int .u64 r] w fun e w' => e = .returned (.bool true) ∧ w = w' := by
  have H1 := quorum_any n m q w hm g1 g2
  have H2 := faults_any n m' f w hm' g3 g4
  have H3 := proposer_any w a len cap k h r x s hl hk hs hx hw hmd hc
  have hcs : (n < 0 ∧ m = 0 ∧ m' = 1) ∨ (n = 0 ∧ m = 0 ∧ m' = 1) ∨ (1 ≤ n ∧ n ≤ 1000000 ∧ m = n ∧ m' = n) ∨ (1000000 < n ∧ m = 1000000 ∧ m' = 1000000) := by
    unfold Clamp at hm hm'; omega
  have K1 := Lib.hid H1
  have K2 := Lib.hid H2
  have K3 := Lib.hid H3
  clear H1 H2 H3 hm hm'
  rcases hcs with ⟨c1, rfl, rfl⟩ | ⟨rfl, rfl, rfl⟩ | ⟨c1, c2, rfl, rfl⟩ | ⟨c1, rfl, rfl⟩
  all_goals
    go_enter Try.func3, Try.ntmps3
    go_wp2_with (first
      | (go_at_call 9; refine K1.out.mono ?_; rintro e w' ⟨rfl, rfl⟩)
      | (go_at_call 10; refine K2.out.mono ?_; rintro e w' ⟨rfl, rfl⟩)
      | (go_at_call 11; refine K3.out.mono ?_; rintro e w' ⟨rfl, rfl⟩)
      | (go_at_call 12; refine (alive20 _).mono ?_; rintro e w' ⟨rfl, rfl⟩))
  all_goals
    go_ret
    exact ⟨rfl, rfl⟩

theorem below_same {w : World} {e : Ending} {w' : World} {v : Value} (h : e = .returned v ∧ w = w') : e = .returned v ∧ Below w.heap.size w w' := by
  obtain ⟨h1, rfl⟩ := h
  exact ⟨h1, Below.refl _ _⟩

theorem clamp_ex (lo n : Int) (h : lo ≤ 1000000) : ∃ m, Clamp lo n m := by
  by_cases h1 : n < lo
  · exact ⟨lo, .inl ⟨h1, rfl⟩⟩
  · by_cases h2 : n ≤ 1000000
    · exact ⟨n, .inr (.inl ⟨by omega, h2, rfl⟩)⟩
    · exact ⟨_, .inr (.inr ⟨by omega, rfl⟩)⟩

theorem counts_calls (H : Type) (enc : TypeId × Value → H) (W : World) (args : Array Value) (ds : List (DataW H)) (p : List MemPlace)
    (T : Told enc Try.prog Try.f3.params.toList W args.toList ds p) :
    Calls Try.prog 3 args W fun e W' => e = .returned (.bool true) ∧ Below W.heap.size W W' := by
  obtain ⟨hA, ⟨base, hval⟩, _, _⟩ := T
  rw [Try.params3] at hA hval
  obtain ⟨v0, vs0, d0, ds0, p0, q0, hargs, rfl, rfl, h0, r0⟩ := trodAll_cons hA
  obtain ⟨v1, vs1, d1, ds1, p1, q1, rfl, rfl, rfl, h1, r1⟩ := trodAll_cons r0
  obtain ⟨v2, vs2, d2, ds2, p2, q2, rfl, rfl, rfl, h2, r2⟩ := trodAll_cons r1
  obtain ⟨v3, vs3, d3, ds3, p3, q3, rfl, rfl, rfl, h3, r3⟩ := trodAll_cons r2
  obtain ⟨rfl, rfl, rfl⟩ := trodAll_nil r3
  rw [hargs] at hval
  obtain rfl : args = #[v0, v1, v2, v3] := by cases args; simp_all
  obtain ⟨n, rfl, rfl, rfl, wn⟩ := open_int Try.underlying3 (hval 0 3 v0 rfl rfl) h0
  obtain ⟨ss, hss⟩ := strRow_open Try.underlying22 Try.underlying9 (by kernel_rfl) (hval 1 22 v1 rfl rfl) h1
  obtain ⟨h, rfl, rfl, rfl, wh⟩ := open_int Try.underlying23 (hval 2 23 v2 rfl rfl) h2
  obtain ⟨r, rfl, rfl, rfl, wr⟩ := open_int Try.underlying23 (hval 3 23 v3 rfl rfl) h3
  have b : -9223372036854775808 ≤ n ∧ n ≤ 9223372036854775807 := by simpa [Lit.wf, IntKind.min, IntKind.max, IntKind.signed, IntKind.bits] using wn
  obtain ⟨m, hm⟩ := clamp_ex 0 n (by omega)
  obtain ⟨m', hm'⟩ := clamp_ex 1 n (by omega)
  rcases hss with ⟨rfl, rfl⟩ | ⟨a, len, cap, rfl, hlc, hcap, hlen, hcell⟩
  · exact (counts_nil _ _ n m ((2 * m + 2) / 3) m' ((m' - 1) / 3) h r W b.1 b.2 hm hm' (by omega) (by omega) (by omega) (by omega)).mono fun e w' h => below_same h
  · by_cases hz : len = 0
    · subst hz
      exact (counts_nil _ _ n m ((2 * m + 2) / 3) m' ((m' - 1) / 3) h r W b.1 b.2 hm hm' (by omega) (by omega) (by omega) (by omega)).mono fun e w' h => below_same h
    · have hb := u64_wrap_bd (h + r)
      unfold maxLen at hcap
      have hq : 0 ≤ IntKind.u64.wrap (h + r) % (len : Int) ∧ IntKind.u64.wrap (h + r) % (len : Int) < (len : Int) := ⟨Int.emod_nonneg _ (by omega), Int.emod_lt_of_pos _ (by omega)⟩
      exact (counts_row n m ((2 * m + 2) / 3) m' ((m' - 1) / 3) h r _ W a len cap (IntKind.u64.wrap (h + r) % (len : Int)).toNat _ b.1 b.2 hm hm' (by omega) (by omega) (by omega) (by omega) (by omega) (by omega) rfl hb.1
        (u64_wrap_lt (by omega) (by omega)) (by omega) (hcell _ (by omega))).mono fun e w' h => below_same h

end Go.Proofs.Ytaoegccekmgcmaa
