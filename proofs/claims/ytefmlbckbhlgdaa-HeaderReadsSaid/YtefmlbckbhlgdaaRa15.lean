/- Numbers of four words: how two stand. Numbers of four words: sums, differences, the order. Numbers of four words: differences; the order of the curve. The order of the curve; may a number be one of a signature? May a signature be? A number's bytes, and a signature's: only that there are some. A signature's bytes. -/
import Derived.Shelf.Spec.BitsCarry
import Derived.BigRegion
import Derived.Deep.RegionWith
import Derived.BigQuiet
import Derived.ChangeKeysEq
import Derived.Deep.DeepCutAuto
import Derived.Deep.RegionHeld
import Derived.Test.YtefmlbckbhlgdaaRa0
import Derived.Test.YtefmlbckbhlgdaaRa1
import Derived.Test.YtefmlbckbhlgdaaRa12
import Derived.Test.YtefmlbckbhlgdaaRa14
namespace Go.Proofs.Ytefmlbckbhlgdaa
open Go.RowKit Go.Shelf
/-- A number: four words, the lowest first. -/
abbrev U4 := Int × Int × Int × Int
def WordOk (x : Int) : Prop := 0 ≤ x ∧ x < 18446744073709551616
def U4.ok (a : U4) : Prop := WordOk a.1 ∧ WordOk a.2.1 ∧ WordOk a.2.2.1 ∧ WordOk a.2.2.2
def U4.val (a : U4) : Int := a.1 + 18446744073709551616 * a.2.1 + 340282366920938463463374607431768211456 * a.2.2.1 + 6277101735386680763835789423207666416102355444464034512896 * a.2.2.2
abbrev u4c (a : U4) : Array Value := #[.int .u64 a.1, .int .u64 a.2.1, .int .u64 a.2.2.1, .int .u64 a.2.2.2]
abbrev u4V (a : U4) : Value := .agg (u4c a)

theorem RowAt.c4 {w : World} {k : Nat} {v0 v1 v2 v3 : Value} {T : TypeId} (h : RowAt w k #[v0, v1, v2, v3] T) : w.cell? ⟨k, 0, none⟩ = some v0 ∧ w.cell? ⟨k, 1, none⟩ = some v1 ∧ w.cell? ⟨k, 2, none⟩ = some v2 ∧ w.cell? ⟨k, 3, none⟩ = some v3 ∧
    w.frozen? ⟨k, 0, none⟩ = false ∧ w.frozen? ⟨k, 1, none⟩ = false ∧ w.frozen? ⟨k, 2, none⟩ = false ∧ w.frozen? ⟨k, 3, none⟩ = false :=
  ⟨h.cell 0, h.cell 1, h.cell 2, h.cell 3, h.frozen 0, h.frozen 1, h.frozen 2, h.frozen 3⟩

def cmpU (a b : U4) : Int := if a.val < b.val then -1 else if b.val < a.val then 1 else 0

set_option maxRecDepth 100000 in
set_option maxHeartbeats 2000000 in
theorem cmp_any (a b : U4) (ha : a.ok) (hb : b.ok) (w : World) : Calls Try.prog 148 #[u4V a, u4V b] w fun e w' => e = .returned (.int .i64 (cmpU a b)) ∧ Below w.heap.size w w' := by
  obtain ⟨a0, a1, a2, a3⟩ := a
  obtain ⟨b0, b1, b2, b3⟩ := b
  have RA := Lib.hid ((RowAt.new w (u4c (a0, a1, a2, a3)) 66).alloc (.cells (u4c (b0, b1, b2, b3)) 66))
  have RB' := Lib.hid (RowAt.new' (w.alloc (.cells (u4c (a0, a1, a2, a3)) 66)) (u4c (b0, b1, b2, b3)) 66 (k := w.heap.size + 1) (by simp))
  have HB := Lib.hid (belowA2 w (.cells (u4c (a0, a1, a2, a3)) 66) (.cells (u4c (b0, b1, b2, b3)) 66))
  obtain ⟨⟨x0, x0'⟩, ⟨x1, x1'⟩, ⟨x2, x2'⟩, ⟨x3, x3'⟩⟩ := ha
  obtain ⟨⟨y0, y0'⟩, ⟨y1, y1'⟩, ⟨y2, y2'⟩, ⟨y3, y3'⟩⟩ := hb
  simp only at x0 x0' x1 x1' x2 x2' x3 x3' y0 y0' y1 y1' y2 y2' y3 y3'
  go_enter Try.func148, Try.ntmps148
  go_wp2
  go_loopw [5] (fun s5 wr => ∃ n : Nat, n ≤ 4 ∧ s5 = .int .i64 (3 - (n : Int)) ∧ Hid ((1 ≤ n → a3 = b3) ∧ (2 ≤ n → a2 = b2) ∧ (3 ≤ n → a1 = b1) ∧ (4 ≤ n → a0 = b0)) ∧ Hid (RowAt wr w.heap.size (u4c (a0, a1, a2, a3)) 66) ∧ Hid (RowAt wr (w.heap.size + 1) (u4c (b0, b1, b2, b3)) 66) ∧ Hid (Below w.heap.size w wr)) (fun s _ => (intOf s + 1).toNat)
  case atStart => exact ⟨0, by omega, rfl, Lib.hid ⟨by omega, by omega, by omega, by omega⟩, RA, RB', HB⟩
  case round =>
    clear RA RB' HB
    obtain ⟨n, hn, rfl, hq, ra, rb, hb⟩ := hrel
    have RA := Lib.hid ra.out
    have RB' := Lib.hid rb.out
    have HB := Lib.hid hb.out
    have HQ := Lib.hid hq.out
    clear ra rb hb hq
    obtain ⟨p0, p1, p2, p3, pf0, pf1, pf2, pf3⟩ := RA.out.c4
    obtain ⟨q0, q1, q2, q3, qf0, qf1, qf2, qf3⟩ := RB'.out.c4
    simp only at p0 p1 p2 p3 q0 q1 q2 q3
    have hn5 : n = 0 ∨ n = 1 ∨ n = 2 ∨ n = 3 ∨ n = 4 := by omega
    rcases hn5 with rfl | rfl | rfl | rfl | rfl
    · rcases Int.lt_trichotomy a3 b3 with e | e | e
      · have HC : Hid (cmpU (a0, a1, a2, a3) (b0, b1, b2, b3) = -1) := Lib.hid (by have := HQ.out; unfold cmpU U4.val; simp only; rw [if_pos (by omega)])
        clear x0 x0' x1 x1' x2 x2' x3 x3' y0 y0' y1 y1' y2 y2' y3 y3'
        go_wp2
        go_region
        go_wp2
        go_ret
        exact ⟨by rw [HC.out]; rfl, HB.out.drew⟩
      · have HQ2 : Hid ((1 ≤ 1 → a3 = b3) ∧ (2 ≤ 1 → a2 = b2) ∧ (3 ≤ 1 → a1 = b1) ∧ (4 ≤ 1 → a0 = b0)) := Lib.hid (by have := HQ.out; omega)
        have f1 : ¬ a3 < b3 := by omega
        have f2 : ¬ b3 < a3 := by omega
        clear e x0 x0' x1 x1' x2 x2' x3 x3' y0 y0' y1 y1' y2 y2' y3 y3'
        go_wp2
        go_region
        go_wp2
        go_region
        go_wp2
        exact ⟨⟨1, by omega, by simp, HQ2, Lib.hid RA.out.drew.drew, Lib.hid RB'.out.drew.drew, Lib.hid HB.out.drew.drew⟩, by simp [intOf]⟩
      · have HC : Hid (cmpU (a0, a1, a2, a3) (b0, b1, b2, b3) = 1) := Lib.hid (by have := HQ.out; unfold cmpU U4.val; simp only; rw [if_neg (by omega), if_pos (by omega)])
        have f1 : ¬ a3 < b3 := by omega
        clear x0 x0' x1 x1' x2 x2' x3 x3' y0 y0' y1 y1' y2 y2' y3 y3'
        go_wp2
        go_region
        go_wp2
        go_region
        go_wp2
        go_ret
        exact ⟨by rw [HC.out]; rfl, HB.out.drew.drew⟩
    · rcases Int.lt_trichotomy a2 b2 with e | e | e
      · have HC : Hid (cmpU (a0, a1, a2, a3) (b0, b1, b2, b3) = -1) := Lib.hid (by have := HQ.out; unfold cmpU U4.val; simp only; rw [if_pos (by omega)])
        clear x0 x0' x1 x1' x2 x2' x3 x3' y0 y0' y1 y1' y2 y2' y3 y3'
        go_wp2
        go_region
        go_wp2
        go_ret
        exact ⟨by rw [HC.out]; rfl, HB.out.drew⟩
      · have HQ2 : Hid ((1 ≤ 2 → a3 = b3) ∧ (2 ≤ 2 → a2 = b2) ∧ (3 ≤ 2 → a1 = b1) ∧ (4 ≤ 2 → a0 = b0)) := Lib.hid (by have := HQ.out; omega)
        have f1 : ¬ a2 < b2 := by omega
        have f2 : ¬ b2 < a2 := by omega
        clear e x0 x0' x1 x1' x2 x2' x3 x3' y0 y0' y1 y1' y2 y2' y3 y3'
        go_wp2
        go_region
        go_wp2
        go_region
        go_wp2
        exact ⟨⟨2, by omega, by simp, HQ2, Lib.hid RA.out.drew.drew, Lib.hid RB'.out.drew.drew, Lib.hid HB.out.drew.drew⟩, by simp [intOf]⟩
      · have HC : Hid (cmpU (a0, a1, a2, a3) (b0, b1, b2, b3) = 1) := Lib.hid (by have := HQ.out; unfold cmpU U4.val; simp only; rw [if_neg (by omega), if_pos (by omega)])
        have f1 : ¬ a2 < b2 := by omega
        clear x0 x0' x1 x1' x2 x2' x3 x3' y0 y0' y1 y1' y2 y2' y3 y3'
        go_wp2
        go_region
        go_wp2
        go_region
        go_wp2
        go_ret
        exact ⟨by rw [HC.out]; rfl, HB.out.drew.drew⟩
    · rcases Int.lt_trichotomy a1 b1 with e | e | e
      · have HC : Hid (cmpU (a0, a1, a2, a3) (b0, b1, b2, b3) = -1) := Lib.hid (by have := HQ.out; unfold cmpU U4.val; simp only; rw [if_pos (by omega)])
        clear x0 x0' x1 x1' x2 x2' x3 x3' y0 y0' y1 y1' y2 y2' y3 y3'
        go_wp2
        go_region
        go_wp2
        go_ret
        exact ⟨by rw [HC.out]; rfl, HB.out.drew⟩
      · have HQ2 : Hid ((1 ≤ 3 → a3 = b3) ∧ (2 ≤ 3 → a2 = b2) ∧ (3 ≤ 3 → a1 = b1) ∧ (4 ≤ 3 → a0 = b0)) := Lib.hid (by have := HQ.out; omega)
        have f1 : ¬ a1 < b1 := by omega
        have f2 : ¬ b1 < a1 := by omega
        clear e x0 x0' x1 x1' x2 x2' x3 x3' y0 y0' y1 y1' y2 y2' y3 y3'
        go_wp2
        go_region
        go_wp2
        go_region
        go_wp2
        exact ⟨⟨3, by omega, by simp, HQ2, Lib.hid RA.out.drew.drew, Lib.hid RB'.out.drew.drew, Lib.hid HB.out.drew.drew⟩, by simp [intOf]⟩
      · have HC : Hid (cmpU (a0, a1, a2, a3) (b0, b1, b2, b3) = 1) := Lib.hid (by have := HQ.out; unfold cmpU U4.val; simp only; rw [if_neg (by omega), if_pos (by omega)])
        have f1 : ¬ a1 < b1 := by omega
        clear x0 x0' x1 x1' x2 x2' x3 x3' y0 y0' y1 y1' y2 y2' y3 y3'
        go_wp2
        go_region
        go_wp2
        go_region
        go_wp2
        go_ret
        exact ⟨by rw [HC.out]; rfl, HB.out.drew.drew⟩
    · rcases Int.lt_trichotomy a0 b0 with e | e | e
      · have HC : Hid (cmpU (a0, a1, a2, a3) (b0, b1, b2, b3) = -1) := Lib.hid (by have := HQ.out; unfold cmpU U4.val; simp only; rw [if_pos (by omega)])
        clear x0 x0' x1 x1' x2 x2' x3 x3' y0 y0' y1 y1' y2 y2' y3 y3'
        go_wp2
        go_region
        go_wp2
        go_ret
        exact ⟨by rw [HC.out]; rfl, HB.out.drew⟩
      · have HQ2 : Hid ((1 ≤ 4 → a3 = b3) ∧ (2 ≤ 4 → a2 = b2) ∧ (3 ≤ 4 → a1 = b1) ∧ (4 ≤ 4 → a0 = b0)) := Lib.hid (by have := HQ.out; omega)
        have f1 : ¬ a0 < b0 := by omega
        have f2 : ¬ b0 < a0 := by omega
        clear e x0 x0' x1 x1' x2 x2' x3 x3' y0 y0' y1 y1' y2 y2' y3 y3'
        go_wp2
        go_region
        go_wp2
        go_region
        go_wp2
        exact ⟨⟨4, by omega, by simp, HQ2, Lib.hid RA.out.drew.drew, Lib.hid RB'.out.drew.drew, Lib.hid HB.out.drew.drew⟩, by simp [intOf]⟩
      · have HC : Hid (cmpU (a0, a1, a2, a3) (b0, b1, b2, b3) = 1) := Lib.hid (by have := HQ.out; unfold cmpU U4.val; simp only; rw [if_neg (by omega), if_pos (by omega)])
        have f1 : ¬ a0 < b0 := by omega
        clear x0 x0' x1 x1' x2 x2' x3 x3' y0 y0' y1 y1' y2 y2' y3 y3'
        go_wp2
        go_region
        go_wp2
        go_region
        go_wp2
        go_ret
        exact ⟨by rw [HC.out]; rfl, HB.out.drew.drew⟩
    · have HC : Hid (cmpU (a0, a1, a2, a3) (b0, b1, b2, b3) = 0) := Lib.hid (by have := HQ.out; unfold cmpU U4.val; simp only; rw [if_neg (by omega), if_neg (by omega)])
      go_wp2
      go_ret
      exact ⟨by rw [HC.out]; rfl, HB.out⟩
end Go.Proofs.Ytefmlbckbhlgdaa
namespace Go.Proofs.Ytefmlbckbhlgdaa
open Go.RowKit Go.Shelf
theorem add64_run (x y c : Int) (hx : 0 ≤ x) (hy : 0 ≤ y) (hc0 : 0 ≤ c) (hc : c ≤ 1) (w : World) : (callFunc 173 #[.int .u64 x, .int .u64 y, .int .u64 c]).run Try.prog w =
    .ok (.value (.tuple #[.int .u64 ((x + y + c) % 18446744073709551616), .int .u64 ((x + y + c) / 18446744073709551616)])) w := by
  rw [run_callFunc_extern Try.func173 (by kernel_rfl) (by kernel_rfl) (by kernel_rfl) (e := add64Entry) (by kernel_rfl), run_add64 x y c hx hy hc0 hc]
  rfl
theorem sub64_run (x y b : Int) (hx : 0 ≤ x) (hy : 0 ≤ y) (hy' : y < 18446744073709551616) (hb0 : 0 ≤ b) (hb : b ≤ 1) (w : World) : (callFunc 178 #[.int .u64 x, .int .u64 y, .int .u64 b]).run Try.prog w =
    .ok (.value (.tuple #[.int .u64 ((x - y - b) % 18446744073709551616), .int .u64 (if x < y + b then 1 else 0)])) w := by
  obtain ⟨x, rfl⟩ := Int.eq_ofNat_of_zero_le hx
  obtain ⟨y, rfl⟩ := Int.eq_ofNat_of_zero_le hy
  obtain ⟨b, rfl⟩ := Int.eq_ofNat_of_zero_le hb0
  have e1 : (((x + 18446744073709551616 - y - b) % 18446744073709551616 : Nat) : Int) = ((x : Int) - y - b) % 18446744073709551616 := by omega
  have e2 : ((if x < y + b then 1 else 0 : Nat) : Int) = if (x : Int) < y + b then 1 else 0 := by split <;> split <;> omega
  rw [← e1, ← e2, run_callFunc_extern Try.func178 (by kernel_rfl) (by kernel_rfl) (by kernel_rfl) (e := sub64Entry) (by kernel_rfl), run_sub64 x y b (by omega)]
  rfl

/-- One word's sum, with what is carried in and out. -/
structure AddW (x y c s d : Int) : Prop where
  run : ∀ w, (callFunc 173 #[.int .u64 x, .int .u64 y, .int .u64 c]).run Try.prog w = .ok (.value (.tuple #[.int .u64 s, .int .u64 d])) w
  ok : WordOk s
  d0 : 0 ≤ d
  d1 : d ≤ 1
  sum : s + 18446744073709551616 * d = x + y + c
theorem addW_ex (x y c : Int) (hx : WordOk x) (hy : WordOk y) (hc0 : 0 ≤ c) (hc : c ≤ 1) : ∃ s d, AddW x y c s d := by
  obtain ⟨x0, x1⟩ := hx
  obtain ⟨y0, y1⟩ := hy
  exact ⟨_, _, fun w => add64_run x y c x0 y0 hc0 hc w, ⟨by omega, by omega⟩, by omega, by omega, by omega⟩

set_option maxRecDepth 100000 in
set_option maxHeartbeats 2000000 in
theorem add_any (a b : U4) (ha : a.ok) (hb : b.ok) : ∃ (c : U4) (d : Int), c.ok ∧ 0 ≤ d ∧ d ≤ 1 ∧ c.val + 115792089237316195423570985008687907853269984665640564039457584007913129639936 * d = a.val + b.val ∧
    ∀ w, Calls Try.prog 149 #[u4V a, u4V b] w fun e w' => e = .returned (.tuple #[u4V c, .bool (d == 1)]) ∧ Below w.heap.size w w' := by
  obtain ⟨a0, a1, a2, a3⟩ := a
  obtain ⟨b0, b1, b2, b3⟩ := b
  obtain ⟨x0, x1, x2, x3⟩ := ha
  obtain ⟨y0, y1, y2, y3⟩ := hb
  simp only at x0 x1 x2 x3 y0 y1 y2 y3
  obtain ⟨s0, d0, A0⟩ := addW_ex a0 b0 0 x0 y0 (by omega) (by omega)
  obtain ⟨s1, d1, A1⟩ := addW_ex a1 b1 d0 x1 y1 A0.d0 A0.d1
  obtain ⟨s2, d2, A2⟩ := addW_ex a2 b2 d1 x2 y2 A1.d0 A1.d1
  obtain ⟨s3, d3, A3⟩ := addW_ex a3 b3 d2 x3 y3 A2.d0 A2.d1
  refine ⟨(s0, s1, s2, s3), d3, ⟨A0.ok, A1.ok, A2.ok, A3.ok⟩, A3.d0, A3.d1, ?_, fun w => ?_⟩
  · have h0 := A0.sum
    have h1 := A1.sum
    have h2 := A2.sum
    have h3 := A3.sum
    unfold U4.val
    simp only
    omega
  · have K0 := Lib.hid A0.run
    have K1 := Lib.hid A1.run
    have K2 := Lib.hid A2.run
    have K3 := Lib.hid A3.run
    have R2 := Lib.hid ((((RowAt.new w (u4c (a0, a1, a2, a3)) 66).alloc (.cells (u4c (b0, b1, b2, b3)) 66)).alloc (.cells (u4c (0, 0, 0, 0)) 66)).alloc (.cells (u4c (0, 0, 0, 0)) 66))
    have R3 := Lib.hid (((RowAt.new' (w.alloc (.cells (u4c (a0, a1, a2, a3)) 66)) (u4c (b0, b1, b2, b3)) 66 (k := w.heap.size + 1) (by simp)).alloc (.cells (u4c (0, 0, 0, 0)) 66)).alloc (.cells (u4c (0, 0, 0, 0)) 66))
    have R4 := Lib.hid ((RowAt.new' ((w.alloc (.cells (u4c (a0, a1, a2, a3)) 66)).alloc (.cells (u4c (b0, b1, b2, b3)) 66)) (u4c (0, 0, 0, 0)) 66 (k := w.heap.size + 2) (by simp)).alloc (.cells (u4c (0, 0, 0, 0)) 66))
    have R6 := Lib.hid (RowAt.new' (((w.alloc (.cells (u4c (a0, a1, a2, a3)) 66)).alloc (.cells (u4c (b0, b1, b2, b3)) 66)).alloc (.cells (u4c (0, 0, 0, 0)) 66)) (u4c (0, 0, 0, 0)) 66 (k := w.heap.size + 3) (by simp))
    have HB := Lib.hid (((belowA2 w (.cells (u4c (a0, a1, a2, a3)) 66) (.cells (u4c (b0, b1, b2, b3)) 66)).alloc (by simp; omega) (.cells (u4c (0, 0, 0, 0)) 66)).alloc (by simp; omega) (.cells (u4c (0, 0, 0, 0)) 66))
    clear x0 x1 x2 x3 y0 y1 y2 y3 A0 A1 A2 A3
    go_enter Try.func149, Try.ntmps149
    go_wp2
    go_loopw [7, 9] (fun s7 s9 wr => ∃ (n : Nat) (c e0 e1 e2 e3 : Int), s9 = .int .i64 n ∧ s7 = .int .u64 c ∧ Hid ((n = 0 ∧ c = 0 ∧ e0 = 0 ∧ e1 = 0 ∧ e2 = 0 ∧ e3 = 0) ∨ (n = 1 ∧ d0 = c ∧ s0 = e0 ∧ e1 = 0 ∧ e2 = 0 ∧ e3 = 0) ∨ (n = 2 ∧ d1 = c ∧ s0 = e0 ∧ s1 = e1 ∧ e2 = 0 ∧ e3 = 0) ∨ (n = 3 ∧ d2 = c ∧ s0 = e0 ∧ s1 = e1 ∧ s2 = e2 ∧ e3 = 0) ∨ (n = 4 ∧ d3 = c ∧ s0 = e0 ∧ s1 = e1 ∧ s2 = e2 ∧ s3 = e3)) ∧
      Hid (RowAt wr w.heap.size (u4c (a0, a1, a2, a3)) 66) ∧ Hid (RowAt wr (w.heap.size + 1) (u4c (b0, b1, b2, b3)) 66) ∧ Hid (RowAt wr (w.heap.size + 2) (u4c (0, 0, 0, 0)) 66) ∧ Hid (RowAt wr (w.heap.size + 3) (u4c (e0, e1, e2, e3)) 66) ∧ Hid (Below w.heap.size w wr)) (fun _ s _ => (4 - intOf s).toNat)
    case atStart => exact ⟨0, 0, 0, 0, 0, 0, rfl, rfl, Lib.hid (.inl ⟨rfl, rfl, rfl, rfl, rfl, rfl⟩), R2, R3, R4, R6, HB⟩
    case round =>
      clear R2 R3 R4 R6 HB
      obtain ⟨n, c, e0, e1, e2, e3, rfl, rfl, hq, r2, r3, r4, r6, hb⟩ := hrel
      have hq' := hq.out
      have R2 := Lib.hid r2.out
      have R3 := Lib.hid r3.out
      have R4 := Lib.hid r4.out
      have R6 := Lib.hid r6.out
      have HB := Lib.hid hb.out
      clear hq r2 r3 r4 r6 hb
      obtain ⟨p0, p1, p2, p3, pf0, pf1, pf2, pf3⟩ := R2.out.c4
      obtain ⟨q0, q1, q2, q3, qf0, qf1, qf2, qf3⟩ := R3.out.c4
      obtain ⟨m0, m1, m2, m3, mf0, mf1, mf2, mf3⟩ := R6.out.c4
      simp only at p0 p1 p2 p3 q0 q1 q2 q3 m0 m1 m2 m3
      rcases hq' with ⟨rfl, rfl, rfl, rfl, rfl, rfl⟩ | ⟨rfl, rfl, rfl, rfl, rfl, rfl⟩ | ⟨rfl, rfl, rfl, rfl, rfl, rfl⟩ | ⟨rfl, rfl, rfl, rfl, rfl, rfl⟩ | ⟨rfl, rfl, rfl, rfl, rfl, rfl⟩
      · have K := K0.out
        go_wp2
        go_region_with (first | simp only [K] | fail)
        all_goals
          go_wp2
          exact ⟨⟨1, d0, s0, 0, 0, 0, by simp, rfl, Lib.hid (.inr (.inl ⟨rfl, rfl, rfl, rfl, rfl, rfl⟩)), Lib.hid (RowAt.drew (R2.out.other ⟨w.heap.size + 3, 0, none⟩ (.int .u64 s0) (by simp))), Lib.hid (RowAt.drew (R3.out.other ⟨w.heap.size + 3, 0, none⟩ (.int .u64 s0) (by simp))), Lib.hid (RowAt.drew (R4.out.other ⟨w.heap.size + 3, 0, none⟩ (.int .u64 s0) (by simp))), Lib.hid (RowAt.drew (R6.out.set 0 (.int .u64 s0) rfl)), Lib.hid (Below.drew (HB.out.setCell (p := ⟨w.heap.size + 3, 0, none⟩) (by simp) (.int .u64 s0)))⟩, by simp [intOf]⟩
      · have K := K1.out
        go_wp2
        go_region_with (first | simp only [K] | fail)
        all_goals
          go_wp2
          exact ⟨⟨2, d1, s0, s1, 0, 0, by simp, rfl, Lib.hid (.inr (.inr (.inl ⟨rfl, rfl, rfl, rfl, rfl, rfl⟩))), Lib.hid (RowAt.drew (R2.out.other ⟨w.heap.size + 3, 1, none⟩ (.int .u64 s1) (by simp))), Lib.hid (RowAt.drew (R3.out.other ⟨w.heap.size + 3, 1, none⟩ (.int .u64 s1) (by simp))), Lib.hid (RowAt.drew (R4.out.other ⟨w.heap.size + 3, 1, none⟩ (.int .u64 s1) (by simp))), Lib.hid (RowAt.drew (R6.out.set 1 (.int .u64 s1) rfl)), Lib.hid (Below.drew (HB.out.setCell (p := ⟨w.heap.size + 3, 1, none⟩) (by simp) (.int .u64 s1)))⟩, by simp [intOf]⟩
      · have K := K2.out
        go_wp2
        go_region_with (first | simp only [K] | fail)
        all_goals
          go_wp2
          exact ⟨⟨3, d2, s0, s1, s2, 0, by simp, rfl, Lib.hid (.inr (.inr (.inr (.inl ⟨rfl, rfl, rfl, rfl, rfl, rfl⟩)))), Lib.hid (RowAt.drew (R2.out.other ⟨w.heap.size + 3, 2, none⟩ (.int .u64 s2) (by simp))), Lib.hid (RowAt.drew (R3.out.other ⟨w.heap.size + 3, 2, none⟩ (.int .u64 s2) (by simp))), Lib.hid (RowAt.drew (R4.out.other ⟨w.heap.size + 3, 2, none⟩ (.int .u64 s2) (by simp))), Lib.hid (RowAt.drew (R6.out.set 2 (.int .u64 s2) rfl)), Lib.hid (Below.drew (HB.out.setCell (p := ⟨w.heap.size + 3, 2, none⟩) (by simp) (.int .u64 s2)))⟩, by simp [intOf]⟩
      · have K := K3.out
        go_wp2
        go_region_with (first | simp only [K] | fail)
        all_goals
          go_wp2
          exact ⟨⟨4, d3, s0, s1, s2, s3, by simp, rfl, Lib.hid (.inr (.inr (.inr (.inr (⟨rfl, rfl, rfl, rfl, rfl, rfl⟩))))), Lib.hid (RowAt.drew (R2.out.other ⟨w.heap.size + 3, 3, none⟩ (.int .u64 s3) (by simp))), Lib.hid (RowAt.drew (R3.out.other ⟨w.heap.size + 3, 3, none⟩ (.int .u64 s3) (by simp))), Lib.hid (RowAt.drew (R4.out.other ⟨w.heap.size + 3, 3, none⟩ (.int .u64 s3) (by simp))), Lib.hid (RowAt.drew (R6.out.set 3 (.int .u64 s3) rfl)), Lib.hid (Below.drew (HB.out.setCell (p := ⟨w.heap.size + 3, 3, none⟩) (by simp) (.int .u64 s3)))⟩, by simp [intOf]⟩
      · obtain ⟨z0, z1, z2, z3, zf0, zf1, zf2, zf3⟩ := R4.out.c4
        simp only at z0 z1 z2 z3
        go_wp2
        have RZ := (((R4.out.set 0 (.int .u64 s0) rfl).set 1 (.int .u64 s1) rfl).set 2 (.int .u64 s2) rfl).set 3 (.int .u64 s3) rfl
        obtain ⟨k0, k1, k2, k3, _⟩ := RZ.c4
        refine bodyPost_ret (v := .tuple #[u4V (s0, s1, s2, s3), .bool (d3 == 1)]) (by simp [results, Try.results149, go_sem, k0, k1, k2, k3]) rfl ?_
        exact ⟨rfl, (((HB.out.setCell (p := ⟨w.heap.size + 2, 0, none⟩) (Nat.le_add_right _ 2) _).setCell (p := ⟨w.heap.size + 2, 1, none⟩) (Nat.le_add_right _ 2) _).setCell (p := ⟨w.heap.size + 2, 2, none⟩) (Nat.le_add_right _ 2) _).setCell (p := ⟨w.heap.size + 2, 3, none⟩) (Nat.le_add_right _ 2) _⟩
end Go.Proofs.Ytefmlbckbhlgdaa
namespace Go.Proofs.Ytefmlbckbhlgdaa
open Go.RowKit Go.Shelf
/-- One word's difference, with what is borrowed in and out. -/
structure SubW (x y c s d : Int) : Prop where
  run : ∀ w, (callFunc 178 #[.int .u64 x, .int .u64 y, .int .u64 c]).run Try.prog w = .ok (.value (.tuple #[.int .u64 s, .int .u64 d])) w
  ok : WordOk s
  d0 : 0 ≤ d
  d1 : d ≤ 1
  sum : s = x - y - c + 18446744073709551616 * d
theorem subW_ex (x y c : Int) (hx : WordOk x) (hy : WordOk y) (hc0 : 0 ≤ c) (hc : c ≤ 1) : ∃ s d, SubW x y c s d := by
  obtain ⟨x0, x1⟩ := hx
  obtain ⟨y0, y1⟩ := hy
  exact ⟨_, _, fun w => sub64_run x y c x0 y0 y1 hc0 hc w, ⟨by omega, by omega⟩, by split <;> omega, by split <;> omega, by split <;> omega⟩

set_option maxRecDepth 100000 in
set_option maxHeartbeats 2000000 in
theorem sub_any (a b : U4) (ha : a.ok) (hb : b.ok) : ∃ (c : U4) (d : Int), c.ok ∧ 0 ≤ d ∧ d ≤ 1 ∧ c.val = a.val - b.val + 115792089237316195423570985008687907853269984665640564039457584007913129639936 * d ∧
    ∀ w, Calls Try.prog 177 #[u4V a, u4V b] w fun e w' => e = .returned (.tuple #[u4V c, .bool (d == 1)]) ∧ Below w.heap.size w w' := by
  obtain ⟨a0, a1, a2, a3⟩ := a
  obtain ⟨b0, b1, b2, b3⟩ := b
  obtain ⟨x0, x1, x2, x3⟩ := ha
  obtain ⟨y0, y1, y2, y3⟩ := hb
  simp only at x0 x1 x2 x3 y0 y1 y2 y3
  obtain ⟨s0, d0, A0⟩ := subW_ex a0 b0 0 x0 y0 (by omega) (by omega)
  obtain ⟨s1, d1, A1⟩ := subW_ex a1 b1 d0 x1 y1 A0.d0 A0.d1
  obtain ⟨s2, d2, A2⟩ := subW_ex a2 b2 d1 x2 y2 A1.d0 A1.d1
  obtain ⟨s3, d3, A3⟩ := subW_ex a3 b3 d2 x3 y3 A2.d0 A2.d1
  refine ⟨(s0, s1, s2, s3), d3, ⟨A0.ok, A1.ok, A2.ok, A3.ok⟩, A3.d0, A3.d1, ?_, fun w => ?_⟩
  · have h0 := A0.sum
    have h1 := A1.sum
    have h2 := A2.sum
    have h3 := A3.sum
    unfold U4.val
    simp only
    omega
  · have K0 := Lib.hid A0.run
    have K1 := Lib.hid A1.run
    have K2 := Lib.hid A2.run
    have K3 := Lib.hid A3.run
    have R2 := Lib.hid ((((RowAt.new w (u4c (a0, a1, a2, a3)) 66).alloc (.cells (u4c (b0, b1, b2, b3)) 66)).alloc (.cells (u4c (0, 0, 0, 0)) 66)).alloc (.cells (u4c (0, 0, 0, 0)) 66))
    have R3 := Lib.hid (((RowAt.new' (w.alloc (.cells (u4c (a0, a1, a2, a3)) 66)) (u4c (b0, b1, b2, b3)) 66 (k := w.heap.size + 1) (by simp)).alloc (.cells (u4c (0, 0, 0, 0)) 66)).alloc (.cells (u4c (0, 0, 0, 0)) 66))
    have R4 := Lib.hid ((RowAt.new' ((w.alloc (.cells (u4c (a0, a1, a2, a3)) 66)).alloc (.cells (u4c (b0, b1, b2, b3)) 66)) (u4c (0, 0, 0, 0)) 66 (k := w.heap.size + 2) (by simp)).alloc (.cells (u4c (0, 0, 0, 0)) 66))
    have R6 := Lib.hid (RowAt.new' (((w.alloc (.cells (u4c (a0, a1, a2, a3)) 66)).alloc (.cells (u4c (b0, b1, b2, b3)) 66)).alloc (.cells (u4c (0, 0, 0, 0)) 66)) (u4c (0, 0, 0, 0)) 66 (k := w.heap.size + 3) (by simp))
    have HB := Lib.hid (((belowA2 w (.cells (u4c (a0, a1, a2, a3)) 66) (.cells (u4c (b0, b1, b2, b3)) 66)).alloc (by simp; omega) (.cells (u4c (0, 0, 0, 0)) 66)).alloc (by simp; omega) (.cells (u4c (0, 0, 0, 0)) 66))
    clear x0 x1 x2 x3 y0 y1 y2 y3 A0 A1 A2 A3
    go_enter Try.func177, Try.ntmps177
    go_wp2
    go_loopw [7, 9] (fun s7 s9 wr => ∃ (n : Nat) (c e0 e1 e2 e3 : Int), s9 = .int .i64 n ∧ s7 = .int .u64 c ∧ Hid ((n = 0 ∧ c = 0 ∧ e0 = 0 ∧ e1 = 0 ∧ e2 = 0 ∧ e3 = 0) ∨ (n = 1 ∧ d0 = c ∧ s0 = e0 ∧ e1 = 0 ∧ e2 = 0 ∧ e3 = 0) ∨ (n = 2 ∧ d1 = c ∧ s0 = e0 ∧ s1 = e1 ∧ e2 = 0 ∧ e3 = 0) ∨ (n = 3 ∧ d2 = c ∧ s0 = e0 ∧ s1 = e1 ∧ s2 = e2 ∧ e3 = 0) ∨ (n = 4 ∧ d3 = c ∧ s0 = e0 ∧ s1 = e1 ∧ s2 = e2 ∧ s3 = e3)) ∧
      Hid (RowAt wr w.heap.size (u4c (a0, a1, a2, a3)) 66) ∧ Hid (RowAt wr (w.heap.size + 1) (u4c (b0, b1, b2, b3)) 66) ∧ Hid (RowAt wr (w.heap.size + 2) (u4c (0, 0, 0, 0)) 66) ∧ Hid (RowAt wr (w.heap.size + 3) (u4c (e0, e1, e2, e3)) 66) ∧ Hid (Below w.heap.size w wr)) (fun _ s _ => (4 - intOf s).toNat)
    case atStart => exact ⟨0, 0, 0, 0, 0, 0, rfl, rfl, Lib.hid (.inl ⟨rfl, rfl, rfl, rfl, rfl, rfl⟩), R2, R3, R4, R6, HB⟩
    case round =>
      clear R2 R3 R4 R6 HB
      obtain ⟨n, c, e0, e1, e2, e3, rfl, rfl, hq, r2, r3, r4, r6, hb⟩ := hrel
      have hq' := hq.out
      have R2 := Lib.hid r2.out
      have R3 := Lib.hid r3.out
      have R4 := Lib.hid r4.out
      have R6 := Lib.hid r6.out
      have HB := Lib.hid hb.out
      clear hq r2 r3 r4 r6 hb
      obtain ⟨p0, p1, p2, p3, pf0, pf1, pf2, pf3⟩ := R2.out.c4
      obtain ⟨q0, q1, q2, q3, qf0, qf1, qf2, qf3⟩ := R3.out.c4
      obtain ⟨m0, m1, m2, m3, mf0, mf1, mf2, mf3⟩ := R6.out.c4
      simp only at p0 p1 p2 p3 q0 q1 q2 q3 m0 m1 m2 m3
      rcases hq' with ⟨rfl, rfl, rfl, rfl, rfl, rfl⟩ | ⟨rfl, rfl, rfl, rfl, rfl, rfl⟩ | ⟨rfl, rfl, rfl, rfl, rfl, rfl⟩ | ⟨rfl, rfl, rfl, rfl, rfl, rfl⟩ | ⟨rfl, rfl, rfl, rfl, rfl, rfl⟩
      · have K := K0.out
        go_wp2
        go_region_with (first | simp only [K] | fail)
        all_goals
          go_wp2
          exact ⟨⟨1, d0, s0, 0, 0, 0, by simp, rfl, Lib.hid (.inr (.inl ⟨rfl, rfl, rfl, rfl, rfl, rfl⟩)), Lib.hid (RowAt.drew (R2.out.other ⟨w.heap.size + 3, 0, none⟩ (.int .u64 s0) (by simp))), Lib.hid (RowAt.drew (R3.out.other ⟨w.heap.size + 3, 0, none⟩ (.int .u64 s0) (by simp))), Lib.hid (RowAt.drew (R4.out.other ⟨w.heap.size + 3, 0, none⟩ (.int .u64 s0) (by simp))), Lib.hid (RowAt.drew (R6.out.set 0 (.int .u64 s0) rfl)), Lib.hid (Below.drew (HB.out.setCell (p := ⟨w.heap.size + 3, 0, none⟩) (by simp) (.int .u64 s0)))⟩, by simp [intOf]⟩
      · have K := K1.out
        go_wp2
        go_region_with (first | simp only [K] | fail)
        all_goals
          go_wp2
          exact ⟨⟨2, d1, s0, s1, 0, 0, by simp, rfl, Lib.hid (.inr (.inr (.inl ⟨rfl, rfl, rfl, rfl, rfl, rfl⟩))), Lib.hid (RowAt.drew (R2.out.other ⟨w.heap.size + 3, 1, none⟩ (.int .u64 s1) (by simp))), Lib.hid (RowAt.drew (R3.out.other ⟨w.heap.size + 3, 1, none⟩ (.int .u64 s1) (by simp))), Lib.hid (RowAt.drew (R4.out.other ⟨w.heap.size + 3, 1, none⟩ (.int .u64 s1) (by simp))), Lib.hid (RowAt.drew (R6.out.set 1 (.int .u64 s1) rfl)), Lib.hid (Below.drew (HB.out.setCell (p := ⟨w.heap.size + 3, 1, none⟩) (by simp) (.int .u64 s1)))⟩, by simp [intOf]⟩
      · have K := K2.out
        go_wp2
        go_region_with (first | simp only [K] | fail)
        all_goals
          go_wp2
          exact ⟨⟨3, d2, s0, s1, s2, 0, by simp, rfl, Lib.hid (.inr (.inr (.inr (.inl ⟨rfl, rfl, rfl, rfl, rfl, rfl⟩)))), Lib.hid (RowAt.drew (R2.out.other ⟨w.heap.size + 3, 2, none⟩ (.int .u64 s2) (by simp))), Lib.hid (RowAt.drew (R3.out.other ⟨w.heap.size + 3, 2, none⟩ (.int .u64 s2) (by simp))), Lib.hid (RowAt.drew (R4.out.other ⟨w.heap.size + 3, 2, none⟩ (.int .u64 s2) (by simp))), Lib.hid (RowAt.drew (R6.out.set 2 (.int .u64 s2) rfl)), Lib.hid (Below.drew (HB.out.setCell (p := ⟨w.heap.size + 3, 2, none⟩) (by simp) (.int .u64 s2)))⟩, by simp [intOf]⟩
      · have K := K3.out
        go_wp2
        go_region_with (first | simp only [K] | fail)
        all_goals
          go_wp2
          exact ⟨⟨4, d3, s0, s1, s2, s3, by simp, rfl, Lib.hid (.inr (.inr (.inr (.inr (⟨rfl, rfl, rfl, rfl, rfl, rfl⟩))))), Lib.hid (RowAt.drew (R2.out.other ⟨w.heap.size + 3, 3, none⟩ (.int .u64 s3) (by simp))), Lib.hid (RowAt.drew (R3.out.other ⟨w.heap.size + 3, 3, none⟩ (.int .u64 s3) (by simp))), Lib.hid (RowAt.drew (R4.out.other ⟨w.heap.size + 3, 3, none⟩ (.int .u64 s3) (by simp))), Lib.hid (RowAt.drew (R6.out.set 3 (.int .u64 s3) rfl)), Lib.hid (Below.drew (HB.out.setCell (p := ⟨w.heap.size + 3, 3, none⟩) (by simp) (.int .u64 s3)))⟩, by simp [intOf]⟩
      · obtain ⟨z0, z1, z2, z3, zf0, zf1, zf2, zf3⟩ := R4.out.c4
        simp only at z0 z1 z2 z3
        go_wp2
        have RZ := (((R4.out.set 0 (.int .u64 s0) rfl).set 1 (.int .u64 s1) rfl).set 2 (.int .u64 s2) rfl).set 3 (.int .u64 s3) rfl
        obtain ⟨k0, k1, k2, k3, _⟩ := RZ.c4
        refine bodyPost_ret (v := .tuple #[u4V (s0, s1, s2, s3), .bool (d3 == 1)]) (by simp [results, Try.results177, go_sem, k0, k1, k2, k3]) rfl ?_
        exact ⟨rfl, (((HB.out.setCell (p := ⟨w.heap.size + 2, 0, none⟩) (Nat.le_add_right _ 2) _).setCell (p := ⟨w.heap.size + 2, 1, none⟩) (Nat.le_add_right _ 2) _).setCell (p := ⟨w.heap.size + 2, 2, none⟩) (Nat.le_add_right _ 2) _).setCell (p := ⟨w.heap.size + 2, 3, none⟩) (Nat.le_add_right _ 2) _⟩

abbrev oN : U4 := (13822214165235122497, 13451932020343611451, 18446744073709551614, 18446744073709551615)
abbrev oC : U4 := (4624529908474429119, 4994812053365940164, 1, 0)
theorem oC_ok : oC.ok := ⟨⟨by decide, by decide⟩, ⟨by decide, by decide⟩, ⟨by decide, by decide⟩, ⟨by decide, by decide⟩⟩
theorem oN_ok : oN.ok := ⟨⟨by decide, by decide⟩, ⟨by decide, by decide⟩, ⟨by decide, by decide⟩, ⟨by decide, by decide⟩⟩
theorem zero_ok : U4.ok (0, 0, 0, 0) := ⟨⟨by decide, by decide⟩, ⟨by decide, by decide⟩, ⟨by decide, by decide⟩, ⟨by decide, by decide⟩⟩

theorem val_inj {a b : U4} (ha : a.ok) (hb : b.ok) (h : a.val = b.val) : a = b := by
  obtain ⟨a0, a1, a2, a3⟩ := a
  obtain ⟨b0, b1, b2, b3⟩ := b
  obtain ⟨⟨x0, x0'⟩, ⟨x1, x1'⟩, ⟨x2, x2'⟩, ⟨x3, x3'⟩⟩ := ha
  obtain ⟨⟨y0, y0'⟩, ⟨y1, y1'⟩, ⟨y2, y2'⟩, ⟨y3, y3'⟩⟩ := hb
  unfold U4.val at h
  simp only at *
  have e0 : a0 = b0 := by omega
  have e1 : a1 = b1 := by omega
  have e2 : a2 = b2 := by omega
  have e3 : a3 = b3 := by omega
  rw [e0, e1, e2, e3]

set_option maxRecDepth 100000 in
set_option maxHeartbeats 2000000 in
theorem below_any (w : World) : Calls Try.prog 171 #[.int .i64 1] w fun e w' => e = .returned (.tuple #[u4V oC, .bool true]) ∧ Below w.heap.size w w' := by
  have R := Lib.hid (RowAt.new w (u4c (0, 0, 0, 0)) 66)
  obtain ⟨z0, z1, z2, z3, zf0, zf1, zf2, zf3⟩ := R.out.c4
  simp only at z0 z1 z2 z3
  go_enter Try.func171, Try.ntmps171
  go_wp2
  refine bodyPost_ret (v := .tuple #[u4V oC, .bool true]) (by simp [results, Try.results171, go_sem]) rfl ?_
  exact ⟨rfl, belowA w _⟩
end Go.Proofs.Ytefmlbckbhlgdaa
namespace Go.Proofs.Ytefmlbckbhlgdaa
open Go.RowKit Go.Shelf
theorem RowAt.l4 {W : World} {k : Nat} {v0 v1 v2 v3 : Value} {T : TypeId} (h : RowAt W k #[v0, v1, v2, v3] T) : (∀ u : Later W, u.w.cell? ⟨k, 0, none⟩ = some v0) ∧ (∀ u : Later W, u.w.cell? ⟨k, 1, none⟩ = some v1) ∧ (∀ u : Later W, u.w.cell? ⟨k, 2, none⟩ = some v2) ∧ (∀ u : Later W, u.w.cell? ⟨k, 3, none⟩ = some v3) :=
  ⟨fun u => (h.later u).cell 0, fun u => (h.later u).cell 1, fun u => (h.later u).cell 2, fun u => (h.later u).cell 3⟩

theorem set4 {W : World} {k B : Nat} {a b : U4} {T : TypeId} (h : RowAt W k (u4c a) T) (hk : B ≤ k) : RowAt ((((W.setCell ⟨k, 0, none⟩ (.int .u64 b.1)).setCell ⟨k, 1, none⟩ (.int .u64 b.2.1)).setCell ⟨k, 2, none⟩ (.int .u64 b.2.2.1)).setCell ⟨k, 3, none⟩ (.int .u64 b.2.2.2)) k (u4c b) T ∧
    ∀ w, Below B w W → Below B w ((((W.setCell ⟨k, 0, none⟩ (.int .u64 b.1)).setCell ⟨k, 1, none⟩ (.int .u64 b.2.1)).setCell ⟨k, 2, none⟩ (.int .u64 b.2.2.1)).setCell ⟨k, 3, none⟩ (.int .u64 b.2.2.2)) :=
  ⟨(((h.set 0 (.int .u64 b.1) rfl).set 1 (.int .u64 b.2.1) rfl).set 2 (.int .u64 b.2.2.1) rfl).set 3 (.int .u64 b.2.2.2) rfl, fun _ hb => (((hb.setCell (p := ⟨k, 0, none⟩) hk _).setCell (p := ⟨k, 1, none⟩) hk _).setCell (p := ⟨k, 2, none⟩) hk _).setCell (p := ⟨k, 3, none⟩) hk _⟩

theorem modSub_any (w : World) : Calls Try.prog 177 #[u4V (0, 0, 0, 0), u4V oC] w fun e w' => e = .returned (.tuple #[u4V oN, .bool true]) ∧ Below w.heap.size w w' := by
  obtain ⟨c, d, hc, d0, d1, hs, hw⟩ := sub_any (0, 0, 0, 0) oC zero_ok oC_ok
  have hN : c = oN ∧ d = 1 := by
    have h2 := hc
    obtain ⟨c0, c1, c2, c3⟩ := c
    obtain ⟨⟨x0, x0'⟩, ⟨x1, x1'⟩, ⟨x2, x2'⟩, ⟨x3, x3'⟩⟩ := hc
    have hd : d = 1 := by
      unfold U4.val at hs
      simp only at *
      omega
    refine ⟨val_inj h2 oN_ok ?_, hd⟩
    rw [hs, hd]
    decide
  have := hw w
  rw [hN.1, hN.2] at this
  exact this

set_option maxRecDepth 100000 in
set_option maxHeartbeats 2000000 in
theorem modulus_any (w : World) : Calls Try.prog 172 #[.int .i64 1] w fun e w' => e = .returned (u4V oN) ∧ Below w.heap.size w w' := by
  have R2 := Lib.hid (RowAt.new w (u4c (0, 0, 0, 0)) 66)
  have HB := Lib.hid (belowA w (.cells (u4c (0, 0, 0, 0)) 66))
  go_enter Try.func172, Try.ntmps172
  go_upto_region 1 with (fail)
  go_upto_region 2 with (go_at_call 171; refine (below_any _).mono ?_; rintro e w1 ⟨rfl, hb⟩; (replace R2 := Lib.hid (R2.out.belowS hb); replace HB := Lib.hid (HB.out.trans (hb.mono HB.out.size)); clear hb))
  (replace R2 := Lib.hid (R2.out.alloc (.cells (u4c oC) 66)); replace HB := Lib.hid (HB.out.alloc HB.out.size (.cells (u4c oC) 66)))
  go_upto_region 3 with (go_at_call 177; refine (modSub_any _).mono ?_; rintro e w2 ⟨rfl, hb⟩; (replace R2 := Lib.hid (R2.out.belowS hb); replace HB := Lib.hid (HB.out.trans (hb.mono HB.out.size)); clear hb))
  (replace R2 := Lib.hid (R2.out.alloc (.cells (u4c oN) 66)); replace HB := Lib.hid (HB.out.alloc HB.out.size (.cells (u4c oN) 66)))
  obtain ⟨z0, z1, z2, z3, zf0, zf1, zf2, zf3⟩ := R2.out.c4
  simp only at z0 z1 z2 z3
  go_wp2
  obtain ⟨k, kb⟩ := set4 (b := oN) R2.out (Nat.le_refl w.heap.size)
  obtain ⟨k0, k1, k2, k3, _⟩ := k.c4
  simp only at k0 k1 k2 k3
  refine bodyPost_ret (v := u4V oN) (by simp [results, Try.results172, go_sem, k0, k1, k2, k3]) rfl ?_
  exact ⟨rfl, kb _ HB.out⟩

set_option maxRecDepth 100000 in
set_option maxHeartbeats 2000000 in
theorem prime_any (w : World) : Calls Try.prog 147 #[.int .i64 1] w fun e w' => e = .returned (.tuple #[u4V oN, .int .i64 0]) ∧ Below w.heap.size w w' := by
  have R2 := Lib.hid (RowAt.new w (u4c (0, 0, 0, 0)) 66)
  have HB := Lib.hid (belowA w (.cells (u4c (0, 0, 0, 0)) 66))
  go_enter Try.func147, Try.ntmps147
  go_upto_region 2 with (go_at_call 171; refine (below_any _).mono ?_; rintro e w1 ⟨rfl, hb⟩; (replace R2 := Lib.hid (R2.out.belowS hb); replace HB := Lib.hid (HB.out.trans (hb.mono HB.out.size)); clear hb))
  (replace R2 := Lib.hid (R2.out.alloc (.cells (u4c oC) 66)); replace HB := Lib.hid (HB.out.alloc HB.out.size (.cells (u4c oC) 66)))
  go_wp2_with (go_at_call 172; refine (modulus_any _).mono ?_; rintro e w2 ⟨rfl, hb⟩; (replace R2 := Lib.hid (R2.out.belowS hb); replace HB := Lib.hid (HB.out.trans (hb.mono HB.out.size)); clear hb); obtain ⟨z0, z1, z2, z3, zf0, zf1, zf2, zf3⟩ := R2.out.c4; simp only at z0 z1 z2 z3)
  obtain ⟨k, kb⟩ := set4 (b := oN) R2.out (Nat.le_refl w.heap.size)
  obtain ⟨k0, k1, k2, k3, _⟩ := k.c4
  simp only at k0 k1 k2 k3
  refine bodyPost_ret (v := .tuple #[u4V oN, .int .i64 0]) (by simp [results, Try.results147, go_sem, k0, k1, k2, k3]) rfl ?_
  exact ⟨rfl, kb _ HB.out⟩

theorem eqU_run (a b : U4) (w : World) : (Op.equalIn 10000 66 (u4V a) (u4V b)).run Try.prog w = .ok (decide (a.1 = b.1 ∧ a.2.1 = b.2.1 ∧ a.2.2.1 = b.2.2.1 ∧ a.2.2.2 = b.2.2.2)) w := by
  obtain ⟨a0, a1, a2, a3⟩ := a
  obtain ⟨b0, b1, b2, b3⟩ := b
  have hc : Try.prog.cellsOf 22 = 1 := by kernel_rfl
  have hi : (Try.prog.info? 22).map (fun i => i.size) = some 1 := by kernel_rfl
  obtain ⟨i, hi, _⟩ := Option.map_eq_some_iff.1 hi
  have hg : Try.prog.underlying 22 = some (.int .u64) := by kernel_rfl
  have hs : ∀ w, (sizeOf 22).run Try.prog w = .ok 1 w := fun w => by rw [run_sizeOf w hi, hc]
  rw [run_equalIn_array w 9999 (n := 4) (e := 22) _ _ (by kernel_rfl) hi, hc]
  rw [show List.range 4 = [0, 1, 2, 3] from rfl]
  simp only [Op.eqItems]
  have hp : ∀ (xs : Array Value) (j : Nat) (v : Value) (w : World), xs[j]? = some v → (part 22 xs j).run Try.prog w = .ok v w := fun xs j v w h => by
    simp [part, go_sem, h]
  have pa0 : ∀ w, (part 22 (u4c (a0, a1, a2, a3)) (0 * 1)).run Try.prog w = .ok (.int .u64 a0) w := fun w => hp _ _ _ w rfl
  have pa1 : ∀ w, (part 22 (u4c (a0, a1, a2, a3)) (1 * 1)).run Try.prog w = .ok (.int .u64 a1) w := fun w => hp _ _ _ w rfl
  have pa2 : ∀ w, (part 22 (u4c (a0, a1, a2, a3)) (2 * 1)).run Try.prog w = .ok (.int .u64 a2) w := fun w => hp _ _ _ w rfl
  have pa3 : ∀ w, (part 22 (u4c (a0, a1, a2, a3)) (3 * 1)).run Try.prog w = .ok (.int .u64 a3) w := fun w => hp _ _ _ w rfl
  have pb0 : ∀ w, (part 22 (u4c (b0, b1, b2, b3)) (0 * 1)).run Try.prog w = .ok (.int .u64 b0) w := fun w => hp _ _ _ w rfl
  have pb1 : ∀ w, (part 22 (u4c (b0, b1, b2, b3)) (1 * 1)).run Try.prog w = .ok (.int .u64 b1) w := fun w => hp _ _ _ w rfl
  have pb2 : ∀ w, (part 22 (u4c (b0, b1, b2, b3)) (2 * 1)).run Try.prog w = .ok (.int .u64 b2) w := fun w => hp _ _ _ w rfl
  have pb3 : ∀ w, (part 22 (u4c (b0, b1, b2, b3)) (3 * 1)).run Try.prog w = .ok (.int .u64 b3) w := fun w => hp _ _ _ w rfl
  have he : ∀ (x y : Int) w, (Op.equalIn 9999 22 (.int .u64 x) (.int .u64 y)).run Try.prog w = .ok (x == y) w := fun x y w => run_equalIn_int w 9998 _ _ _ _ _ hg
  have hR : decide (a0 = b0 ∧ a1 = b1 ∧ a2 = b2 ∧ a3 = b3) = ((a0 == b0) && ((a1 == b1) && ((a2 == b2) && (a3 == b3)))) := by
    rw [Bool.eq_iff_iff]; simp
  simp only [hR]
  simp only [Sem.run_bind, pa0, pb0, he, Result.andThen_ok]
  cases (a0 == b0)
  · simp
  simp only [Bool.not_true, Bool.false_eq_true, if_false, Sem.run_bind, pa1, pb1, he, Result.andThen_ok, Bool.true_and]
  cases (a1 == b1)
  · simp
  simp only [Bool.not_true, Bool.false_eq_true, if_false, Sem.run_bind, pa2, pb2, he, Result.andThen_ok, Bool.true_and]
  cases (a2 == b2)
  · simp
  simp only [Bool.not_true, Bool.false_eq_true, if_false, Sem.run_bind, pa3, pb3, he, Result.andThen_ok, Bool.true_and]
  cases (a3 == b3) <;> simp

def betweenU (a : U4) : Bool := decide (a.val ≠ 0) && decide (a.val < oN.val)
def highU (a : U4) : Bool := decide (oN.val < 2 * a.val)

theorem val_nonneg {a : U4} (h : a.ok) : 0 ≤ a.val ∧ a.val < 115792089237316195423570985008687907853269984665640564039457584007913129639936 := by
  obtain ⟨a0, a1, a2, a3⟩ := a
  obtain ⟨⟨x0, x0'⟩, ⟨x1, x1'⟩, ⟨x2, x2'⟩, ⟨x3, x3'⟩⟩ := h
  unfold U4.val
  simp only at *
  omega

set_option maxRecDepth 100000 in
set_option maxHeartbeats 2000000 in
theorem between_any (a : U4) (ha : a.ok) (w : World) : Calls Try.prog 101 #[u4V a] w fun e w' => e = .returned (.bool (betweenU a)) ∧ Below w.heap.size w w' := by
  have KC := fun W => cmp_any a oN ha oN_ok W
  have hz : a.val = 0 ↔ (a.1 = 0 ∧ a.2.1 = 0 ∧ a.2.2.1 = 0 ∧ a.2.2.2 = 0) := by
    obtain ⟨⟨x0, x0'⟩, ⟨x1, x1'⟩, ⟨x2, x2'⟩, ⟨x3, x3'⟩⟩ := ha
    unfold U4.val
    omega
  have R1 := Lib.hid (RowAt.new w (u4c a) 66)
  have HB := Lib.hid (belowA w (.cells (u4c a) 66))
  obtain ⟨a0, a1, a2, a3⟩ := a
  simp only at hz
  have HZ := Lib.hid hz
  clear hz
  go_enter Try.func101, Try.ntmps101
  go_upto_region 2 with (go_at_call 147; refine (prime_any _).mono ?_; rintro e w1 ⟨rfl, hb⟩; (replace R1 := Lib.hid (R1.out.belowS hb); replace HB := Lib.hid (HB.out.trans (hb.mono HB.out.size)); clear hb))
  (replace R1 := Lib.hid (R1.out.alloc (.cells (u4c oN) 66)); replace HB := Lib.hid (HB.out.alloc HB.out.size (.cells (u4c oN) 66)))
  have R3 := Lib.hid (RowAt.new w1 (u4c oN) 66)
  generalize w1.alloc (.cells (u4c oN) 66) = w2 at *
  have hc : (cmpU (a0, a1, a2, a3) oN < 0 ↔ U4.val (a0, a1, a2, a3) < oN.val) := by
    unfold cmpU
    split
    · exact ⟨fun _ => by assumption, fun _ => by omega⟩
    · split
      · exact ⟨fun h => by omega, fun h => absurd h (by assumption)⟩
      · exact ⟨fun h => by omega, fun h => absurd h (by assumption)⟩
  generalize cmpU (a0, a1, a2, a3) oN = n at *
  have KC := Lib.hid KC
  obtain ⟨x0, x1, x2, x3, xf0, xf1, xf2, xf3⟩ := R1.out.c4
  obtain ⟨y0, y1, y2, y3, yf0, yf1, yf2, yf3⟩ := R3.out.c4
  simp only at x0 x1 x2 x3 y0 y1 y2 y3
  have hq := fun w => eqU_run (a0, a1, a2, a3) (0, 0, 0, 0) w
  simp only at hq
  by_cases e : a0 = 0 ∧ a1 = 0 ∧ a2 = 0 ∧ a3 = 0
  · have hv : Hid (betweenU (a0, a1, a2, a3) = false) := Lib.hid (by unfold betweenU; rw [HZ.out.2 e]; rfl)
    rw [decide_eq_true e] at hq
    clear hc ha HZ e
    go_wp2
    go_ret
    exact ⟨by rw [hv.out]; rfl, HB.out⟩
  · have hv : Hid (betweenU (a0, a1, a2, a3) = decide (n < 0)) := Lib.hid (by
      unfold betweenU
      rw [decide_eq_true (p := U4.val (a0, a1, a2, a3) ≠ 0) (fun h => e (HZ.out.1 h)), Bool.true_and]
      exact decide_eq_decide.2 hc.symm)
    rw [decide_eq_false e] at hq
    clear e hc ha HZ
    go_wp2_with (go_at_call 148; refine (KC.out _).mono ?_; rintro e w4 ⟨rfl, hb⟩; have HE := Lib.hid (HB.out.trans (hb.mono HB.out.size)); clear hb)
    go_ret
    exact ⟨by rw [hv.out]; rfl, HE.out⟩
end Go.Proofs.Ytefmlbckbhlgdaa
namespace Go.Proofs.Ytefmlbckbhlgdaa
open Go.RowKit Go.Shelf
theorem cmp_pos (a b : U4) : (0 < cmpU a b ↔ b.val < a.val) := by
  unfold cmpU
  split
  · exact ⟨fun h => by omega, fun h => by omega⟩
  · split
    · exact ⟨fun _ => by assumption, fun _ => by omega⟩
    · exact ⟨fun h => by omega, fun h => absurd h (by assumption)⟩

set_option maxRecDepth 100000 in
set_option maxHeartbeats 2000000 in
theorem high_any (a : U4) (ha : a.ok) (w : World) : Calls Try.prog 102 #[u4V a] w fun e w' => e = .returned (.bool (highU a)) ∧ Below w.heap.size w w' := by
  obtain ⟨c, d, hc, d0, d1, hs, KA⟩ := add_any a a ha ha
  have KC := fun W => cmp_any c oN hc oN_ok W
  have hp := cmp_pos c oN
  have hcv := val_nonneg hc
  have hN : oN.val < 115792089237316195423570985008687907853269984665640564039457584007913129639936 := (val_nonneg oN_ok).2
  have R1 := Lib.hid (RowAt.new w (u4c a) 66)
  have HB := Lib.hid (belowA w (.cells (u4c a) 66))
  have hd : d = 0 ∨ d = 1 := by omega
  have hv : Hid (highU a = ((d == 1) || decide (0 < cmpU c oN))) := Lib.hid (by
    unfold highU
    rcases hd with rfl | rfl
    · rw [show ((0 : Int) == 1) = false from rfl, Bool.false_or]
      exact decide_eq_decide.2 (by omega)
    · rw [show ((1 : Int) == 1) = true from rfl, Bool.true_or]
      exact decide_eq_true (by omega))
  generalize cmpU c oN = n at *
  have KC := Lib.hid KC
  have KA := Lib.hid KA
  obtain ⟨a0, a1, a2, a3⟩ := a
  obtain ⟨c0, c1, c2, c3⟩ := c
  clear hs hp hcv hN d0 d1 ha hc
  go_enter Try.func102, Try.ntmps102
  go_upto_region 1 with (fail)
  obtain ⟨x0, x1, x2, x3, xf0, xf1, xf2, xf3⟩ := R1.out.c4
  simp only at x0 x1 x2 x3
  go_upto_region 2 with (go_at_call 149; refine (KA.out _).mono ?_; rintro e w1 ⟨rfl, hb⟩; (replace R1 := Lib.hid (R1.out.belowS hb); replace HB := Lib.hid (HB.out.trans (hb.mono HB.out.size)); clear hb))
  clear x0 x1 x2 x3 xf0 xf1 xf2 xf3
  (replace R1 := Lib.hid (R1.out.alloc (.cells (u4c (c0, c1, c2, c3)) 66)); replace HB := Lib.hid (HB.out.alloc HB.out.size (.cells (u4c (c0, c1, c2, c3)) 66)))
  have R3 := Lib.hid (RowAt.new w1 (u4c (c0, c1, c2, c3)) 66)
  generalize w1.alloc (.cells (u4c (c0, c1, c2, c3)) 66) = w2 at *
  generalize w1.heap.size = k3 at *
  go_upto_region 3 with (go_at_call 147; refine (prime_any _).mono ?_; rintro e w3 ⟨rfl, hb⟩; (replace R1 := Lib.hid (R1.out.belowS hb); replace R3 := Lib.hid (R3.out.belowS hb); replace HB := Lib.hid (HB.out.trans (hb.mono HB.out.size)); clear hb))
  (replace R1 := Lib.hid (R1.out.alloc (.cells (u4c oN) 66)); replace R3 := Lib.hid (R3.out.alloc (.cells (u4c oN) 66)); replace HB := Lib.hid (HB.out.alloc HB.out.size (.cells (u4c oN) 66)))
  have R5 := Lib.hid (RowAt.new w3 (u4c oN) 66)
  generalize w3.alloc (.cells (u4c oN) 66) = w4 at *
  generalize w3.heap.size = k5 at *
  obtain ⟨x0, x1, x2, x3, xf0, xf1, xf2, xf3⟩ := R3.out.c4
  obtain ⟨y0, y1, y2, y3, yf0, yf1, yf2, yf3⟩ := R5.out.c4
  simp only at x0 x1 x2 x3 y0 y1 y2 y3
  rcases hd with rfl | rfl
  · go_wp2_with (go_at_call 148; refine (KC.out _).mono ?_; rintro e w6 ⟨rfl, hb⟩; have HE := Lib.hid (HB.out.trans (hb.mono HB.out.size)); clear hb)
    go_ret
    exact ⟨by rw [hv.out]; rfl, HE.out⟩
  · go_wp2
    go_ret
    exact ⟨by rw [hv.out]; rfl, HB.out⟩

/-- A signature: its two numbers, and which of the points. -/
abbrev Sg := U4 × U4 × Int
def Sg.ok (s : Sg) : Prop := U4.ok s.1 ∧ U4.ok s.2.1
abbrev sgc (s : Sg) : Array Value := #[.int .u64 s.1.1, .int .u64 s.1.2.1, .int .u64 s.1.2.2.1, .int .u64 s.1.2.2.2, .int .u64 s.2.1.1, .int .u64 s.2.1.2.1, .int .u64 s.2.1.2.2.1, .int .u64 s.2.1.2.2.2, .int .i64 s.2.2]
abbrev sgV (s : Sg) : Value := .agg (sgc s)
def sigOk (s : Sg) : Bool := betweenU s.1 && (betweenU s.2.1 && (!highU s.2.1 && ((s.2.2 == 0) || (s.2.2 == 1))))

theorem RowAt.c9 {w : World} {k : Nat} {v0 v1 v2 v3 v4 v5 v6 v7 v8 : Value} {T : TypeId} (h : RowAt w k #[v0, v1, v2, v3, v4, v5, v6, v7, v8] T) : w.cell? ⟨k, 0, none⟩ = some v0 ∧ w.cell? ⟨k, 1, none⟩ = some v1 ∧ w.cell? ⟨k, 2, none⟩ = some v2 ∧ w.cell? ⟨k, 3, none⟩ = some v3 ∧
    w.cell? ⟨k, 4, none⟩ = some v4 ∧ w.cell? ⟨k, 5, none⟩ = some v5 ∧ w.cell? ⟨k, 6, none⟩ = some v6 ∧ w.cell? ⟨k, 7, none⟩ = some v7 ∧ w.cell? ⟨k, 8, none⟩ = some v8 :=
  ⟨h.cell 0, h.cell 1, h.cell 2, h.cell 3, h.cell 4, h.cell 5, h.cell 6, h.cell 7, h.cell 8⟩

set_option maxRecDepth 100000 in
set_option maxHeartbeats 2000000 in
theorem sigRight_any (s : Sg) (hs : s.ok) (w : World) : Calls Try.prog 56 #[sgV s] w fun e w' => e = .returned (.bool (sigOk s)) ∧ Below w.heap.size w w' := by
  obtain ⟨⟨r0, r1, r2, r3⟩, ⟨s0, s1, s2, s3⟩, v⟩ := s
  have K1 := fun W => between_any (r0, r1, r2, r3) hs.1 W
  have K2 := fun W => between_any (s0, s1, s2, s3) hs.2 W
  have K3 := fun W => high_any (s0, s1, s2, s3) hs.2 W
  have R := Lib.hid (RowAt.new w (sgc ((r0, r1, r2, r3), (s0, s1, s2, s3), v)) 68)
  have HB := Lib.hid (belowA w (.cells (sgc ((r0, r1, r2, r3), (s0, s1, s2, s3), v)) 68))
  have hv : Hid (sigOk ((r0, r1, r2, r3), (s0, s1, s2, s3), v) = (betweenU (r0, r1, r2, r3) && (betweenU (s0, s1, s2, s3) && (!highU (s0, s1, s2, s3) && ((v == 0) || (v == 1)))))) := Lib.hid rfl
  cases e1 : betweenU (r0, r1, r2, r3) <;> cases e2 : betweenU (s0, s1, s2, s3) <;> cases e3 : highU (s0, s1, s2, s3)
  all_goals
    rw [e1, e2, e3] at hv
    rw [e1] at K1
    rw [e2] at K2
    rw [e3] at K3
    have K1 := Lib.hid K1
    have K2 := Lib.hid K2
    have K3 := Lib.hid K3
    clear e1 e2 e3 hs
    go_enter Try.func56, Try.ntmps56
    go_upto_region 1 with (fail)
    obtain ⟨x0, x1, x2, x3, x4, x5, x6, x7, x8⟩ := R.out.c9
    simp only at x0 x1 x2 x3 x4 x5 x6 x7 x8
    go_wp2_with (first
      | (go_at_call_of 101 (Value.int .u64 r3); refine (K1.out _).mono ?_; rintro e w1 ⟨rfl, hb⟩; (replace R := Lib.hid (R.out.belowS hb); replace HB := Lib.hid (HB.out.trans (hb.mono HB.out.size)); clear hb); clear x0 x1 x2 x3 x4 x5 x6 x7 x8; obtain ⟨x0, x1, x2, x3, x4, x5, x6, x7, x8⟩ := R.out.c9; simp only at x0 x1 x2 x3 x4 x5 x6 x7 x8)
      | (go_at_call 101; refine (K2.out _).mono ?_; rintro e w1 ⟨rfl, hb⟩; (replace R := Lib.hid (R.out.belowS hb); replace HB := Lib.hid (HB.out.trans (hb.mono HB.out.size)); clear hb); clear x0 x1 x2 x3 x4 x5 x6 x7 x8; obtain ⟨x0, x1, x2, x3, x4, x5, x6, x7, x8⟩ := R.out.c9; simp only at x0 x1 x2 x3 x4 x5 x6 x7 x8)
      | (go_at_call 102; refine (K3.out _).mono ?_; rintro e w1 ⟨rfl, hb⟩; (replace R := Lib.hid (R.out.belowS hb); replace HB := Lib.hid (HB.out.trans (hb.mono HB.out.size)); clear hb); clear x0 x1 x2 x3 x4 x5 x6 x7 x8; obtain ⟨x0, x1, x2, x3, x4, x5, x6, x7, x8⟩ := R.out.c9; simp only at x0 x1 x2 x3 x4 x5 x6 x7 x8))
    all_goals
      go_ret
      exact ⟨by rw [hv.out]; first | rfl | (rename_i hv0; rw [hv0]; rfl), HB.out⟩
end Go.Proofs.Ytefmlbckbhlgdaa
namespace Go.Proofs.Ytefmlbckbhlgdaa
open Go.RowKit Go.Shelf
theorem conv_row {w : World} {k : Nat} {l : List UInt8} {T : TypeId} (h : RowAt w k (bvals l).toArray T) (n : Nat) (hn : n = l.length) : (convert 123 9 (.slice (some ⟨k, 0, none⟩) n n)).run Try.prog w = .ok (.string ⟨l.toArray⟩) w := by
  subst hn
  refine run_convert_bytes_back w 123 9 5 _ _ l Try.underlying123 Try.underlying5 Try.underlying9 fun j hj => ?_
  have := h.cell j
  rw [show (⟨k, 0, none⟩ : Addr).add j = ⟨k, j, none⟩ from by rw [Addr.add_lit, Nat.zero_add], this]
  simp [bvals, List.getElem?_eq_getElem hj]

def wordAt (a : U4) : Nat → Int
  | 0 => a.1
  | 1 => a.2.1
  | 2 => a.2.2.1
  | _ => a.2.2.2
/-- A number's byte at a place, the highest first; its bytes. -/
def byteAt (a : U4) (k : Nat) : UInt8 := UInt8.ofNat (wordAt a ((31 - k) / 8) / 2 ^ (8 * ((31 - k) % 8)) % 256).toNat
def bytesU (a : U4) : ByteArray := ⟨(fillL (byteAt a) 32 32).toArray⟩
theorem bytesU_size (a : U4) : (bytesU a).size = 32 := by
  show (fillL (byteAt a) 32 32).toArray.size = 32
  simp [fillL_length]
theorem byte_set (a : U4) (k : Nat) : (bvals (fillL (byteAt a) 32 k)).toArray.setIfInBounds k (.int .u8 (wordAt a ((31 - k) / 8) / 2 ^ (8 * ((31 - k) % 8)) % 256)) = (bvals (fillL (byteAt a) 32 (k + 1))).toArray := by
  rw [← fillL_set]
  unfold bvals
  rw [List.map_set]
  simp
  congr
  unfold byteAt
  have h0 := Int.emod_nonneg (wordAt a ((31 - k) / 8) / 2 ^ (8 * ((31 - k) % 8))) (show (256 : Int) ≠ 0 by decide)
  have h1 := Int.emod_lt_of_pos (wordAt a ((31 - k) / 8) / 2 ^ (8 * ((31 - k) % 8))) (show (0 : Int) < 256 by decide)
  generalize wordAt a ((31 - k) / 8) / 2 ^ (8 * ((31 - k) % 8)) % 256 = z at *
  simp
  omega

set_option maxRecDepth 100000 in
set_option maxHeartbeats 2000000 in
theorem bytesU_any (a : U4) (w : World) : Calls Try.prog 103 #[u4V a] w fun e w' => e = .returned (.string (bytesU a)) ∧ Below w.heap.size w w' := by
  have hrep : (bvals (List.replicate 32 0)).toArray = (bvals (fillL (byteAt a) 32 0)).toArray := by
    congr 2
  have R1 := Lib.hid ((RowAt.new w (u4c a) 66).alloc (.cells (bvals (List.replicate 32 0)).toArray 211))
  have R3 := Lib.hid (RowAt.new' (w.alloc (.cells (u4c a) 66)) (bvals (List.replicate 32 0)).toArray 211 (k := w.heap.size + 1) (by simp))
  have HB := Lib.hid (belowA2 w (.cells (u4c a) 66) (.cells (bvals (List.replicate 32 0)).toArray 211))
  have HW : Hid (∀ q, q < 4 → (u4c a)[q]? = some (.int .u64 (wordAt a q))) := Lib.hid (fun q hq => by
    have : q = 0 ∨ q = 1 ∨ q = 2 ∨ q = 3 := by omega
    rcases this with rfl | rfl | rfl | rfl <;> rfl)
  have HS : Hid (∀ k, (bvals (fillL (byteAt a) 32 k)).toArray.setIfInBounds k (.int .u8 (wordAt a ((31 - k) / 8) / 2 ^ (8 * ((31 - k) % 8)) % 256)) = (bvals (fillL (byteAt a) 32 (k + 1))).toArray) := Lib.hid (byte_set a)
  have HR := Lib.hid hrep
  clear hrep
  have hes : bytesU a = ⟨(fillL (byteAt a) 32 32).toArray⟩ := rfl
  rw [hes]
  clear hes
  generalize byteAt a = f at *
  generalize wordAt a = g at *
  obtain ⟨a0, a1, a2, a3⟩ := a
  go_enter Try.func103, Try.ntmps103
  go_wp2
  go_loopw [6] (fun s wr => ∃ k : Nat, k ≤ 32 ∧ s = .int .i64 k ∧ Hid (RowAt wr w.heap.size (u4c (a0, a1, a2, a3)) 66) ∧ Hid (RowAt wr (w.heap.size + 1) (bvals (fillL f 32 k)).toArray 211) ∧ Hid (Below w.heap.size w wr)) (fun s _ => (32 - intOf s).toNat)
  case atStart => exact ⟨0, by omega, rfl, R1, (by rw [← HR.out]; exact R3), HB⟩
  case round =>
    clear R1 R3 HB HR
    obtain ⟨k, hk, rfl, r1, r3, hb⟩ := hrel
    have R1 := Lib.hid r1.out
    have R3 := Lib.hid r3.out
    have HB := Lib.hid hb.out
    clear r1 r3 hb
    by_cases hlt : k < 32
    · have c0 : wr.cell? ⟨w.heap.size + 1, k, none⟩ = some (.int .u8 (((fillL f 32 k).getD k 0).toNat : Int)) := by
        rw [R3.out.cell k]; simp [bvals, List.getD, List.getElem?_eq_getElem (show k < (fillL f 32 k).length by rw [fillL_length]; omega)]
      have c1 := R3.out.frozen k
      have hq : (31 - (k : Int)).tdiv 8 = (((31 - k) / 8 : Nat) : Int) := by rw [Int.tdiv_eq_ediv_of_nonneg (by omega)]; omega
      have hx : wr.cell? ⟨w.heap.size, (31 - k) / 8, none⟩ = some (.int .u64 (g ((31 - k) / 8))) := by
        rw [R1.out.cell]; exact HW.out _ (by omega)
      have he := HS.out k
      have hq4 : (31 - k) / 8 < 4 := by omega
      generalize (31 - k) / 8 = q at *
      have HE := Lib.hid he
      clear he
      go_wp2
      exact ⟨⟨k + 1, by omega, by simp, Lib.hid (R1.out.other ⟨w.heap.size + 1, k, none⟩ _ (by simp)), Lib.hid (R3.out.set k _ HE.out), Lib.hid (HB.out.setCell (p := ⟨w.heap.size + 1, k, none⟩) (Nat.le_succ _) _)⟩, by simp [intOf]; omega⟩
    · obtain rfl : k = 32 := by omega
      have hcv := conv_row R3.out 32 (fillL_length _ _ _).symm
      go_wp2
      go_ret
      exact ⟨rfl, HB.out⟩

end Go.Proofs.Ytefmlbckbhlgdaa
namespace Go.Proofs.Ytefmlbckbhlgdaa
open Go.RowKit Go.Shelf
def sigBytes (s : Sg) (b : UInt8) : ByteArray := bytesU s.1 ++ bytesU s.2.1 ++ ⟨#[b]⟩

theorem sigOk_v {s : Sg} (h : sigOk s = true) : s.2.2 = 0 ∨ s.2.2 = 1 := by
  unfold sigOk at h
  simp only [Bool.and_eq_true, Bool.or_eq_true, beq_iff_eq] at h
  exact h.2.2.2

set_option maxRecDepth 100000 in
set_option maxHeartbeats 2000000 in
theorem sigBytes_no (s : Sg) (hs : s.ok) (e : sigOk s = false) (w : World) : Calls Try.prog 58 #[sgV s] w fun e w' => e = .returned (.tuple #[.string ⟨#[]⟩, .int .i64 1]) ∧ Below w.heap.size w w' := by
  have K := fun W => sigRight_any s hs W
  have R := Lib.hid (RowAt.new w (sgc s) 68)
  have HB := Lib.hid (belowA w (.cells (sgc s) 68))
  rw [e] at K
  have K := Lib.hid K
  clear e hs
  obtain ⟨⟨r0, r1, r2, r3⟩, ⟨s0, s1, s2, s3⟩, v⟩ := s
  go_enter Try.func58, Try.ntmps58
  go_upto_region 1 with (fail)
  obtain ⟨x0, x1, x2, x3, x4, x5, x6, x7, x8⟩ := R.out.c9
  simp only at x0 x1 x2 x3 x4 x5 x6 x7 x8
  go_wp2_with (go_at_call 56; refine (K.out _).mono ?_; rintro e w1 ⟨rfl, hb⟩; (replace R := Lib.hid (R.out.belowS hb); replace HB := Lib.hid (HB.out.trans (hb.mono HB.out.size)); clear hb))
  refine bodyPost_ret (v := .tuple #[.string ⟨#[]⟩, .int .i64 1]) (by simp [results, Try.results58, go_sem]) rfl ?_
  exact ⟨rfl, HB.out⟩

theorem conv_one {w : World} {k : Nat} {b : Int} {c : UInt8} {T : TypeId} (hb : b = (c.toNat : Int)) (h : RowAt w k #[.int .u8 b] T) : (convert 123 9 (.slice (some ⟨k, 0, none⟩) 1 1)).run Try.prog w = .ok (.string ⟨#[c]⟩) w := by
  subst hb
  exact conv_row (l := [c]) h 1 rfl

set_option maxRecDepth 100000 in
set_option maxHeartbeats 2000000 in
theorem sigBytes_yes (s : Sg) (hs : s.ok) (e : sigOk s = true) (c : UInt8) (hc : s.2.2 = (c.toNat : Int)) (w : World) : Calls Try.prog 58 #[sgV s] w fun e w' => e = .returned (.tuple #[.string (sigBytes s c), .int .i64 0]) ∧ Below w.heap.size w w' := by
  have K := fun W => sigRight_any s hs W
  have K1 := Lib.hid (fun W => bytesU_any s.1 W)
  have K2 := Lib.hid (fun W => bytesU_any s.2.1 W)
  have z1 := bytesU_size s.1
  have z2 := bytesU_size s.2.1
  have R := Lib.hid (RowAt.new w (sgc s) 68)
  have HB := Lib.hid (belowA w (.cells (sgc s) 68))
  rw [e] at K
  have K := Lib.hid K
  clear e hs
  have hes : sigBytes s c = bytesU s.1 ++ bytesU s.2.1 ++ ⟨#[c]⟩ := rfl
  rw [hes]
  clear hes
  obtain ⟨⟨r0, r1, r2, r3⟩, ⟨s0, s1, s2, s3⟩, v⟩ := s
  simp only at hc
  simp only at K1 K2
  subst hc
  generalize hcn : (c.toNat : Int) = v at *
  generalize bytesU (r0, r1, r2, r3) = rb at *
  generalize bytesU (s0, s1, s2, s3) = sb at *
  have hwc : IntKind.u8.wrap v = (c.toNat : Int) := by
    rw [← hcn]
    have := c.toNat_lt
    simp [IntKind.wrap, IntKind.bits, IntKind.signed]
    omega
  have hcv : ∀ W : World, (convert 123 9 (.slice (some ⟨W.heap.size, 0, none⟩) 1 1)).run Try.prog (W.alloc (.cells #[.int .u8 (IntKind.u8.wrap v)] 5)) = .ok (.string ⟨#[c]⟩) (W.alloc (.cells #[.int .u8 (IntKind.u8.wrap v)] 5)) := fun W => conv_one (hwc) (RowAt.new W _ _)
  have HWC := Lib.hid hwc
  have hcv2 : ∀ W : World, (convert 123 9 (.slice (some ⟨W.heap.size, 0, none⟩) 1 1)).run Try.prog (W.alloc (.cells #[.int .u8 (IntKind.u8.wrap v)] 5)).drew = .ok (.string ⟨#[c]⟩) (W.alloc (.cells #[.int .u8 (IntKind.u8.wrap v)] 5)).drew := fun W => conv_one hwc (RowAt.drew (RowAt.new W _ _))
  clear hwc
  have hv0 : 0 ≤ v := by omega
  have hv1 : v < 256 := by have := c.toNat_lt; omega
  clear hcn
  go_enter Try.func58, Try.ntmps58
  go_upto_region 1 with (fail)
  obtain ⟨x0, x1, x2, x3, x4, x5, x6, x7, x8⟩ := R.out.c9
  simp only at x0 x1 x2 x3 x4 x5 x6 x7 x8
  go_upto_region 3 with (go_at_call 56; refine (K.out _).mono ?_; rintro e w1 ⟨rfl, hb⟩; (replace R := Lib.hid (R.out.belowS hb); replace HB := Lib.hid (HB.out.trans (hb.mono HB.out.size)); clear hb); clear x0 x1 x2 x3 x4 x5 x6 x7 x8)
  obtain ⟨x0, x1, x2, x3, x4, x5, x6, x7, x8⟩ := R.out.c9
  simp only at x0 x1 x2 x3 x4 x5 x6 x7 x8
  have hlt := R.out.lt
  have hne : ¬ w.heap.size = w1.heap.size := by omega
  clear x0 x1 x2 x3 x4 x5 x6 x7 x8
  go_region_held (fun w' => w'.cell? ⟨w.heap.size, 0, none⟩ = some (.int .u64 r0) ∧ w'.cell? ⟨w.heap.size, 1, none⟩ = some (.int .u64 r1) ∧ w'.cell? ⟨w.heap.size, 2, none⟩ = some (.int .u64 r2) ∧ w'.cell? ⟨w.heap.size, 3, none⟩ = some (.int .u64 r3) ∧ w'.cell? ⟨w.heap.size, 4, none⟩ = some (.int .u64 s0) ∧ w'.cell? ⟨w.heap.size, 5, none⟩ = some (.int .u64 s1) ∧ w'.cell? ⟨w.heap.size, 6, none⟩ = some (.int .u64 s2) ∧ w'.cell? ⟨w.heap.size, 7, none⟩ = some (.int .u64 s3) ∧ w'.cell? ⟨w.heap.size, 8, none⟩ = some (.int .i64 v)) (first | with_reducible exact R.out.drew.c9 | with_reducible exact R.out.c9 | with_reducible exact (R.out.drew.alloc _).c9 | with_reducible exact (R.out.alloc _).c9 | with_reducible exact (R.out.alloc _).drew.c9) (first
    | (go_at_call_of 103 (Value.int .u64 r3); refine (K1.out _).mono ?_; rintro e wA ⟨rfl, hb⟩; (first | (replace RC := Lib.hid (show RowAt wA _ #[.int .u8 (IntKind.u8.wrap v)] 5 from by with_reducible exact RowAt.belowS RC.out hb); have hcN := conv_one HWC.out RC.out) | (have RC := Lib.hid (show RowAt wA _ #[.int .u8 (IntKind.u8.wrap v)] 5 from by with_reducible exact RowAt.belowS (RowAt.new _ _ _) hb); have hcN := conv_one HWC.out RC.out) | (have RC := Lib.hid (show RowAt wA _ #[.int .u8 (IntKind.u8.wrap v)] 5 from by with_reducible exact RowAt.belowS (RowAt.drew (RowAt.new _ _ _)) hb); have hcN := conv_one HWC.out RC.out) | skip); have HBW := Lib.hid (Below.trans (by first | with_reducible exact HB.out.drew | with_reducible exact HB.out | with_reducible exact HB.out.drew.alloc HB.out.size _ | with_reducible exact HB.out.alloc HB.out.size _ | with_reducible exact (HB.out.alloc HB.out.size _).drew) (hb.mono (show w.heap.size ≤ _ from by first | with_reducible exact HB.out.drew.size | with_reducible exact HB.out.size | with_reducible exact (HB.out.drew.alloc HB.out.size _).size | with_reducible exact (HB.out.alloc HB.out.size _).size | with_reducible exact (HB.out.alloc HB.out.size _).drew.size)) : Below w.heap.size w wA); replace HB := HBW; clear HBW; replace R := Lib.hid (RowAt.belowS (show RowAt _ w.heap.size _ _ from by first | with_reducible exact R.out.drew | with_reducible exact R.out | with_reducible exact R.out.drew.alloc _ | with_reducible exact R.out.alloc _ | with_reducible exact (R.out.alloc _).drew) hb); replace hlt := R.out.lt)
    | (go_at_call 103; refine (K2.out _).mono ?_; rintro e wA ⟨rfl, hb⟩; (first | (replace RC := Lib.hid (show RowAt wA _ #[.int .u8 (IntKind.u8.wrap v)] 5 from by with_reducible exact RowAt.belowS RC.out hb); have hcN := conv_one HWC.out RC.out) | (have RC := Lib.hid (show RowAt wA _ #[.int .u8 (IntKind.u8.wrap v)] 5 from by with_reducible exact RowAt.belowS (RowAt.new _ _ _) hb); have hcN := conv_one HWC.out RC.out) | (have RC := Lib.hid (show RowAt wA _ #[.int .u8 (IntKind.u8.wrap v)] 5 from by with_reducible exact RowAt.belowS (RowAt.drew (RowAt.new _ _ _)) hb); have hcN := conv_one HWC.out RC.out) | skip); have HBW := Lib.hid (Below.trans (by first | with_reducible exact HB.out.drew | with_reducible exact HB.out | with_reducible exact HB.out.drew.alloc HB.out.size _ | with_reducible exact HB.out.alloc HB.out.size _ | with_reducible exact (HB.out.alloc HB.out.size _).drew) (hb.mono (show w.heap.size ≤ _ from by first | with_reducible exact HB.out.drew.size | with_reducible exact HB.out.size | with_reducible exact (HB.out.drew.alloc HB.out.size _).size | with_reducible exact (HB.out.alloc HB.out.size _).size | with_reducible exact (HB.out.alloc HB.out.size _).drew.size)) : Below w.heap.size w wA); replace HB := HBW; clear HBW; replace R := Lib.hid (RowAt.belowS (show RowAt _ w.heap.size _ _ from by first | with_reducible exact R.out.drew | with_reducible exact R.out | with_reducible exact R.out.drew.alloc _ | with_reducible exact R.out.alloc _ | with_reducible exact (R.out.alloc _).drew) hb); replace hlt := R.out.lt))
  all_goals
    go_wp2
    refine bodyPost_ret (v := .tuple #[.string (rb ++ sb ++ ⟨#[c]⟩), .int .i64 0]) (by simp [results, Try.results58, go_sem]) rfl ?_
    exact ⟨rfl, by first | exact HB.out | exact HB.out.alloc HB.out.size _⟩
end Go.Proofs.Ytefmlbckbhlgdaa
