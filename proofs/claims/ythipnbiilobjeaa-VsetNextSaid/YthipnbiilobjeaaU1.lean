/- Numbers of four words: how two stand. -/
import Derived.Test.YthipnbiilobjeaaRow
import Derived.Test.YthipnbiilobjeaaVo7
import Derived.Shelf.Spec.BitsCarry
import Derived.BigRegion
namespace Go.Proofs.Ythipnbiilobjeaa
open Go.RowKit Go.Shelf

/-- A number: four words, the lowest first. -/
abbrev U4 := Int × Int × Int × Int
def WordOk (x : Int) : Prop := 0 ≤ x ∧ x < 18446744073709551616
def U4.ok (a : U4) : Prop := WordOk a.1 ∧ WordOk a.2.1 ∧ WordOk a.2.2.1 ∧ WordOk a.2.2.2
def U4.val (a : U4) : Int := a.1 + 18446744073709551616 * a.2.1 + 340282366920938463463374607431768211456 * a.2.2.1 + 6277101735386680763835789423207666416102355444464034512896 * a.2.2.2
abbrev u4c (a : U4) : Array Value := #[.int .u64 a.1, .int .u64 a.2.1, .int .u64 a.2.2.1, .int .u64 a.2.2.2]
abbrev u4V (a : U4) : Value := .agg (u4c a)

theorem RowAt.c4 {w : World} {k : Nat} {v0 v1 v2 v3 : Value} {T : TypeId} (h : RowAt w k #[v0, v1, v2, v3] T) : w.cell? ⟨k, 0, none⟩ = some v0 ∧ w.cell? ⟨k, 1, none⟩ = some v1 ∧ w.cell? ⟨k, 2, none⟩ = some v2 ∧ w.cell? ⟨k, 3, none⟩ = some v3 ∧
    w.frozen? ⟨k, 0, none⟩ = false ∧ w.frozen? ⟨k, 1, none⟩ = false ∧ w.frozen? ⟨k, 2, none⟩ = false ∧ w.frozen? ⟨k, 3, none⟩ = false :=
  ⟨h.cell 0, h.cell 1, h.cell 2, h.cell 3, h.frozen 0, h.frozen 1, h.frozen 2, h.frozen 3⟩

def cmpU (a b : U4) : Int := if a.val < b.val then -1 else if b.val < a.val then 1 else 0

set_option maxRecDepth 100000 in
set_option maxHeartbeats 2000000 in
theorem cmp_any (a b : U4) (ha : a.ok) (hb : b.ok) (w : World) : Calls Try.prog 164 #[u4V a, u4V b] w fun e w' => e = .returned (.int .i64 (cmpU a b)) ∧ Below w.heap.size w w' := by
  obtain ⟨a0, a1, a2, a3⟩ := a
  obtain ⟨b0, b1, b2, b3⟩ := b
  have RA := Lib.hid ((RowAt.new w (u4c (a0, a1, a2, a3)) 78).alloc (.cells (u4c (b0, b1, b2, b3)) 78))
  have RB' := Lib.hid (RowAt.new' (w.alloc (.cells (u4c (a0, a1, a2, a3)) 78)) (u4c (b0, b1, b2, b3)) 78 (k := w.heap.size + 1) (by simp))
  have HB := Lib.hid (belowA2 w (.cells (u4c (a0, a1, a2, a3)) 78) (.cells (u4c (b0, b1, b2, b3)) 78))
  obtain ⟨⟨x0, x0'⟩, ⟨x1, x1'⟩, ⟨x2, x2'⟩, ⟨x3, x3'⟩⟩ := ha
  obtain ⟨⟨y0, y0'⟩, ⟨y1, y1'⟩, ⟨y2, y2'⟩, ⟨y3, y3'⟩⟩ := hb
  simp only at x0 x0' x1 x1' x2 x2' x3 x3' y0 y0' y1 y1' y2 y2' y3 y3'
  go_enter Try.func164, Try.ntmps164
  go_wp2
  go_loopw [5] (fun s5 wr => ∃ n : Nat, n ≤ 4 ∧ s5 = .int .i64 (3 - (n : Int)) ∧ Hid ((1 ≤ n → a3 = b3) ∧ (2 ≤ n → a2 = b2) ∧ (3 ≤ n → a1 = b1) ∧ (4 ≤ n → a0 = b0)) ∧ Hid (RowAt wr w.heap.size (u4c (a0, a1, a2, a3)) 78) ∧ Hid (RowAt wr (w.heap.size + 1) (u4c (b0, b1, b2, b3)) 78) ∧ Hid (Below w.heap.size w wr)) (fun s _ => (intOf s + 1).toNat)
  case atStart => exact ⟨0, by omega, rfl, Lib.hid ⟨by omega, by omega, by omega, by omega⟩, RA, RB', HB⟩
  case round =>
    clear RA RB' HB
    obtain ⟨n, hn, rfl, hq, ra, rb, hb⟩ := hrel
    have RA := Lib.hid ra.out
    have RB' := Lib.hid rb.out
    have HB := Lib.hid hb.out
    have HQ := Lib.hid hq.out
    clear ra rb hb hq
    obtain ⟨p0, p1, p2, p3, pf0, pf1, pf2, pf3⟩ := RA.out.c4
    obtain ⟨q0, q1, q2, q3, qf0, qf1, qf2, qf3⟩ := RB'.out.c4
    simp only at p0 p1 p2 p3 q0 q1 q2 q3
    have hn5 : n = 0 ∨ n = 1 ∨ n = 2 ∨ n = 3 ∨ n = 4 := by omega
    rcases hn5 with rfl | rfl | rfl | rfl | rfl
    · rcases Int.lt_trichotomy a3 b3 with e | e | e
      · have HC : Hid (cmpU (a0, a1, a2, a3) (b0, b1, b2, b3) = -1) := Lib.hid (by have := HQ.out; unfold cmpU U4.val; simp only; rw [if_pos (by omega)])
        clear x0 x0' x1 x1' x2 x2' x3 x3' y0 y0' y1 y1' y2 y2' y3 y3'
        go_wp2
        go_region
        go_wp2
        go_ret
        exact ⟨by rw [HC.out]; rfl, HB.out.drew⟩
      · have HQ2 : Hid ((1 ≤ 1 → a3 = b3) ∧ (2 ≤ 1 → a2 = b2) ∧ (3 ≤ 1 → a1 = b1) ∧ (4 ≤ 1 → a0 = b0)) := Lib.hid (by have := HQ.out; omega)
        have f1 : ¬ a3 < b3 := by omega
        have f2 : ¬ b3 < a3 := by omega
        clear e x0 x0' x1 x1' x2 x2' x3 x3' y0 y0' y1 y1' y2 y2' y3 y3'
        go_wp2
        go_region
        go_wp2
        go_region
        go_wp2
        exact ⟨⟨1, by omega, by simp, HQ2, Lib.hid RA.out.drew.drew, Lib.hid RB'.out.drew.drew, Lib.hid HB.out.drew.drew⟩, by simp [intOf]⟩
      · have HC : Hid (cmpU (a0, a1, a2, a3) (b0, b1, b2, b3) = 1) := Lib.hid (by have := HQ.out; unfold cmpU U4.val; simp only; rw [if_neg (by omega), if_pos (by omega)])
        have f1 : ¬ a3 < b3 := by omega
        clear x0 x0' x1 x1' x2 x2' x3 x3' y0 y0' y1 y1' y2 y2' y3 y3'
        go_wp2
        go_region
        go_wp2
        go_region
        go_wp2
        go_ret
        exact ⟨by rw [HC.out]; rfl, HB.out.drew.drew⟩
    · rcases Int.lt_trichotomy a2 b2 with e | e | e
      · have HC : Hid (cmpU (a0, a1, a2, a3) (b0, b1, b2, b3) = -1) := Lib.hid (by have := HQ.out; unfold cmpU U4.val; simp only; rw [if_pos (by omega)])
        clear x0 x0' x1 x1' x2 x2' x3 x3' y0 y0' y1 y1' y2 y2' y3 y3'
        go_wp2
        go_region
        go_wp2
        go_ret
        exact ⟨by rw [HC.out]; rfl, HB.out.drew⟩
      · have HQ2 : Hid ((1 ≤ 2 → a3 = b3) ∧ (2 ≤ 2 → a2 = b2) ∧ (3 ≤ 2 → a1 = b1) ∧ (4 ≤ 2 → a0 = b0)) := Lib.hid (by have := HQ.out; omega)
        have f1 : ¬ a2 < b2 := by omega
        have f2 : ¬ b2 < a2 := by omega
        clear e x0 x0' x1 x1' x2 x2' x3 x3' y0 y0' y1 y1' y2 y2' y3 y3'
        go_wp2
        go_region
        go_wp2
        go_region
        go_wp2
        exact ⟨⟨2, by omega, by simp, HQ2, Lib.hid RA.out.drew.drew, Lib.hid RB'.out.drew.drew, Lib.hid HB.out.drew.drew⟩, by simp [intOf]⟩
      · have HC : Hid (cmpU (a0, a1, a2, a3) (b0, b1, b2, b3) = 1) := Lib.hid (by have := HQ.out; unfold cmpU U4.val; simp only; rw [if_neg (by omega), if_pos (by omega)])
        have f1 : ¬ a2 < b2 := by omega
        clear x0 x0' x1 x1' x2 x2' x3 x3' y0 y0' y1 y1' y2 y2' y3 y3'
        go_wp2
        go_region
        go_wp2
        go_region
        go_wp2
        go_ret
        exact ⟨by rw [HC.out]; rfl, HB.out.drew.drew⟩
    · rcases Int.lt_trichotomy a1 b1 with e | e | e
      · have HC : Hid (cmpU (a0, a1, a2, a3) (b0, b1, b2, b3) = -1) := Lib.hid (by have := HQ.out; unfold cmpU U4.val; simp only; rw [if_pos (by omega)])
        clear x0 x0' x1 x1' x2 x2' x3 x3' y0 y0' y1 y1' y2 y2' y3 y3'
        go_wp2
        go_region
        go_wp2
        go_ret
        exact ⟨by rw [HC.out]; rfl, HB.out.drew⟩
      · have HQ2 : Hid ((1 ≤ 3 → a3 = b3) ∧ (2 ≤ 3 → a2 = b2) ∧ (3 ≤ 3 → a1 = b1) ∧ (4 ≤ 3 → a0 = b0)) := Lib.hid (by have := HQ.out; omega)
        have f1 : ¬ a1 < b1 := by omega
        have f2 : ¬ b1 < a1 := by omega
        clear e x0 x0' x1 x1' x2 x2' x3 x3' y0 y0' y1 y1' y2 y2' y3 y3'
        go_wp2
        go_region
        go_wp2
        go_region
        go_wp2
        exact ⟨⟨3, by omega, by simp, HQ2, Lib.hid RA.out.drew.drew, Lib.hid RB'.out.drew.drew, Lib.hid HB.out.drew.drew⟩, by simp [intOf]⟩
      · have HC : Hid (cmpU (a0, a1, a2, a3) (b0, b1, b2, b3) = 1) := Lib.hid (by have := HQ.out; unfold cmpU U4.val; simp only; rw [if_neg (by omega), if_pos (by omega)])
        have f1 : ¬ a1 < b1 := by omega
        clear x0 x0' x1 x1' x2 x2' x3 x3' y0 y0' y1 y1' y2 y2' y3 y3'
        go_wp2
        go_region
        go_wp2
        go_region
        go_wp2
        go_ret
        exact ⟨by rw [HC.out]; rfl, HB.out.drew.drew⟩
    · rcases Int.lt_trichotomy a0 b0 with e | e | e
      · have HC : Hid (cmpU (a0, a1, a2, a3) (b0, b1, b2, b3) = -1) := Lib.hid (by have := HQ.out; unfold cmpU U4.val; simp only; rw [if_pos (by omega)])
        clear x0 x0' x1 x1' x2 x2' x3 x3' y0 y0' y1 y1' y2 y2' y3 y3'
        go_wp2
        go_region
        go_wp2
        go_ret
        exact ⟨by rw [HC.out]; rfl, HB.out.drew⟩
      · have HQ2 : Hid ((1 ≤ 4 → a3 = b3) ∧ (2 ≤ 4 → a2 = b2) ∧ (3 ≤ 4 → a1 = b1) ∧ (4 ≤ 4 → a0 = b0)) := Lib.hid (by have := HQ.out; omega)
        have f1 : ¬ a0 < b0 := by omega
        have f2 : ¬ b0 < a0 := by omega
        clear e x0 x0' x1 x1' x2 x2' x3 x3' y0 y0' y1 y1' y2 y2' y3 y3'
        go_wp2
        go_region
        go_wp2
        go_region
        go_wp2
        exact ⟨⟨4, by omega, by simp, HQ2, Lib.hid RA.out.drew.drew, Lib.hid RB'.out.drew.drew, Lib.hid HB.out.drew.drew⟩, by simp [intOf]⟩
      · have HC : Hid (cmpU (a0, a1, a2, a3) (b0, b1, b2, b3) = 1) := Lib.hid (by have := HQ.out; unfold cmpU U4.val; simp only; rw [if_neg (by omega), if_pos (by omega)])
        have f1 : ¬ a0 < b0 := by omega
        clear x0 x0' x1 x1' x2 x2' x3 x3' y0 y0' y1 y1' y2 y2' y3 y3'
        go_wp2
        go_region
        go_wp2
        go_region
        go_wp2
        go_ret
        exact ⟨by rw [HC.out]; rfl, HB.out.drew.drew⟩
    · have HC : Hid (cmpU (a0, a1, a2, a3) (b0, b1, b2, b3) = 0) := Lib.hid (by have := HQ.out; unfold cmpU U4.val; simp only; rw [if_neg (by omega), if_neg (by omega)])
      go_wp2
      go_ret
      exact ⟨by rw [HC.out]; rfl, HB.out⟩
end Go.Proofs.Ythipnbiilobjeaa
