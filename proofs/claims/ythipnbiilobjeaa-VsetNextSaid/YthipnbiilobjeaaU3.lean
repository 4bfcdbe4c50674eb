/- Numbers of four words: differences; the order of the curve. -/
import Derived.Test.YthipnbiilobjeaaU2
namespace Go.Proofs.Ythipnbiilobjeaa
open Go.RowKit Go.Shelf

/-- One word's difference, with what is borrowed in and out. -/
structure SubW (x y c s d : Int) : Prop where
  run : ∀ w, (callFunc 189 #[.int .u64 x, .int .u64 y, .int .u64 c]).run Try.prog w = .ok (.value (.tuple #[.int .u64 s, .int .u64 d])) w
  ok : WordOk s
  d0 : 0 ≤ d
  d1 : d ≤ 1
  sum : s = x - y - c + 18446744073709551616 * d
theorem subW_ex (x y c : Int) (hx : WordOk x) (hy : WordOk y) (hc0 : 0 ≤ c) (hc : c ≤ 1) : ∃ s d, SubW x y c s d := by
  obtain ⟨x0, x1⟩ := hx
  obtain ⟨y0, y1⟩ := hy
  exact ⟨_, _, fun w => sub64_run x y c x0 y0 y1 hc0 hc w, ⟨by omega, by omega⟩, by split <;> omega, by split <;> omega, by split <;> omega⟩

set_option maxRecDepth 100000 in
set_option maxHeartbeats 2000000 in
theorem sub_any (a b : U4) (ha : a.ok) (hb : b.ok) : ∃ (c : U4) (d : Int), c.ok ∧ 0 ≤ d ∧ d ≤ 1 ∧ c.val = a.val - b.val + 115792089237316195423570985008687907853269984665640564039457584007913129639936 * d ∧
    ∀ w, Calls Try.prog 188 #[u4V a, u4V b] w fun e w' => e = .returned (.tuple #[u4V c, .bool (d == 1)]) ∧ Below w.heap.size w w' := by
  obtain ⟨a0, a1, a2, a3⟩ := a
  obtain ⟨b0, b1, b2, b3⟩ := b
  obtain ⟨x0, x1, x2, x3⟩ := ha
  obtain ⟨y0, y1, y2, y3⟩ := hb
  simp only at x0 x1 x2 x3 y0 y1 y2 y3
  obtain ⟨s0, d0, A0⟩ := subW_ex a0 b0 0 x0 y0 (by omega) (by omega)
  obtain ⟨s1, d1, A1⟩ := subW_ex a1 b1 d0 x1 y1 A0.d0 A0.d1
  obtain ⟨s2, d2, A2⟩ := subW_ex a2 b2 d1 x2 y2 A1.d0 A1.d1
  obtain ⟨s3, d3, A3⟩ := subW_ex a3 b3 d2 x3 y3 A2.d0 A2.d1
  refine ⟨(s0, s1, s2, s3), d3, ⟨A0.ok, A1.ok, A2.ok, A3.ok⟩, A3.d0, A3.d1, ?_, fun w => ?_⟩
  · have h0 := A0.sum
    have h1 := A1.sum
    have h2 := A2.sum
    have h3 := A3.sum
    unfold U4.val
    simp only
    omega
  · have K0 := Lib.hid A0.run
    have K1 := Lib.hid A1.run
    have K2 := Lib.hid A2.run
    have K3 := Lib.hid A3.run
    have R2 := Lib.hid ((((RowAt.new w (u4c (a0, a1, a2, a3)) 78).alloc (.cells (u4c (b0, b1, b2, b3)) 78)).alloc (.cells (u4c (0, 0, 0, 0)) 78)).alloc (.cells (u4c (0, 0, 0, 0)) 78))
    have R3 := Lib.hid (((RowAt.new' (w.alloc (.cells (u4c (a0, a1, a2, a3)) 78)) (u4c (b0, b1, b2, b3)) 78 (k := w.heap.size + 1) (by simp)).alloc (.cells (u4c (0, 0, 0, 0)) 78)).alloc (.cells (u4c (0, 0, 0, 0)) 78))
    have R4 := Lib.hid ((RowAt.new' ((w.alloc (.cells (u4c (a0, a1, a2, a3)) 78)).alloc (.cells (u4c (b0, b1, b2, b3)) 78)) (u4c (0, 0, 0, 0)) 78 (k := w.heap.size + 2) (by simp)).alloc (.cells (u4c (0, 0, 0, 0)) 78))
    have R6 := Lib.hid (RowAt.new' (((w.alloc (.cells (u4c (a0, a1, a2, a3)) 78)).alloc (.cells (u4c (b0, b1, b2, b3)) 78)).alloc (.cells (u4c (0, 0, 0, 0)) 78)) (u4c (0, 0, 0, 0)) 78 (k := w.heap.size + 3) (by simp))
    have HB := Lib.hid (((belowA2 w (.cells (u4c (a0, a1, a2, a3)) 78) (.cells (u4c (b0, b1, b2, b3)) 78)).alloc (by simp; omega) (.cells (u4c (0, 0, 0, 0)) 78)).alloc (by simp; omega) (.cells (u4c (0, 0, 0, 0)) 78))
    clear x0 x1 x2 x3 y0 y1 y2 y3 A0 A1 A2 A3
    go_enter Try.func188, Try.ntmps188
    go_wp2
    go_loopw [7, 9] (fun s7 s9 wr => ∃ (n : Nat) (c e0 e1 e2 e3 : Int), s9 = .int .i64 n ∧ s7 = .int .u64 c ∧ Hid ((n = 0 ∧ c = 0 ∧ e0 = 0 ∧ e1 = 0 ∧ e2 = 0 ∧ e3 = 0) ∨ (n = 1 ∧ d0 = c ∧ s0 = e0 ∧ e1 = 0 ∧ e2 = 0 ∧ e3 = 0) ∨ (n = 2 ∧ d1 = c ∧ s0 = e0 ∧ s1 = e1 ∧ e2 = 0 ∧ e3 = 0) ∨ (n = 3 ∧ d2 = c ∧ s0 = e0 ∧ s1 = e1 ∧ s2 = e2 ∧ e3 = 0) ∨ (n = 4 ∧ d3 = c ∧ s0 = e0 ∧ s1 = e1 ∧ s2 = e2 ∧ s3 = e3)) ∧
      Hid (RowAt wr w.heap.size (u4c (a0, a1, a2, a3)) 78) ∧ Hid (RowAt wr (w.heap.size + 1) (u4c (b0, b1, b2, b3)) 78) ∧ Hid (RowAt wr (w.heap.size + 2) (u4c (0, 0, 0, 0)) 78) ∧ Hid (RowAt wr (w.heap.size + 3) (u4c (e0, e1, e2, e3)) 78) ∧ Hid (Below w.heap.size w wr)) (fun _ s _ => (4 - intOf s).toNat)
    case atStart => exact ⟨0, 0, 0, 0, 0, 0, rfl, rfl, Lib.hid (.inl ⟨rfl, rfl, rfl, rfl, rfl, rfl⟩), R2, R3, R4, R6, HB⟩
    case round =>
      clear R2 R3 R4 R6 HB
      obtain ⟨n, c, e0, e1, e2, e3, rfl, rfl, hq, r2, r3, r4, r6, hb⟩ := hrel
      have hq' := hq.out
      have R2 := Lib.hid r2.out
      have R3 := Lib.hid r3.out
      have R4 := Lib.hid r4.out
      have R6 := Lib.hid r6.out
      have HB := Lib.hid hb.out
      clear hq r2 r3 r4 r6 hb
      obtain ⟨p0, p1, p2, p3, pf0, pf1, pf2, pf3⟩ := R2.out.c4
      obtain ⟨q0, q1, q2, q3, qf0, qf1, qf2, qf3⟩ := R3.out.c4
      obtain ⟨m0, m1, m2, m3, mf0, mf1, mf2, mf3⟩ := R6.out.c4
      simp only at p0 p1 p2 p3 q0 q1 q2 q3 m0 m1 m2 m3
      rcases hq' with ⟨rfl, rfl, rfl, rfl, rfl, rfl⟩ | ⟨rfl, rfl, rfl, rfl, rfl, rfl⟩ | ⟨rfl, rfl, rfl, rfl, rfl, rfl⟩ | ⟨rfl, rfl, rfl, rfl, rfl, rfl⟩ | ⟨rfl, rfl, rfl, rfl, rfl, rfl⟩
      · have K := K0.out
        go_wp2
        go_region_with (first | simp only [K] | fail)
        all_goals
          go_wp2
          exact ⟨⟨1, d0, s0, 0, 0, 0, by simp, rfl, Lib.hid (.inr (.inl ⟨rfl, rfl, rfl, rfl, rfl, rfl⟩)), Lib.hid (RowAt.drew (R2.out.other ⟨w.heap.size + 3, 0, none⟩ (.int .u64 s0) (by simp))), Lib.hid (RowAt.drew (R3.out.other ⟨w.heap.size + 3, 0, none⟩ (.int .u64 s0) (by simp))), Lib.hid (RowAt.drew (R4.out.other ⟨w.heap.size + 3, 0, none⟩ (.int .u64 s0) (by simp))), Lib.hid (RowAt.drew (R6.out.set 0 (.int .u64 s0) rfl)), Lib.hid (Below.drew (HB.out.setCell (p := ⟨w.heap.size + 3, 0, none⟩) (by simp) (.int .u64 s0)))⟩, by simp [intOf]⟩
      · have K := K1.out
        go_wp2
        go_region_with (first | simp only [K] | fail)
        all_goals
          go_wp2
          exact ⟨⟨2, d1, s0, s1, 0, 0, by simp, rfl, Lib.hid (.inr (.inr (.inl ⟨rfl, rfl, rfl, rfl, rfl, rfl⟩))), Lib.hid (RowAt.drew (R2.out.other ⟨w.heap.size + 3, 1, none⟩ (.int .u64 s1) (by simp))), Lib.hid (RowAt.drew (R3.out.other ⟨w.heap.size + 3, 1, none⟩ (.int .u64 s1) (by simp))), Lib.hid (RowAt.drew (R4.out.other ⟨w.heap.size + 3, 1, none⟩ (.int .u64 s1) (by simp))), Lib.hid (RowAt.drew (R6.out.set 1 (.int .u64 s1) rfl)), Lib.hid (Below.drew (HB.out.setCell (p := ⟨w.heap.size + 3, 1, none⟩) (by simp) (.int .u64 s1)))⟩, by simp [intOf]⟩
      · have K := K2.out
        go_wp2
        go_region_with (first | simp only [K] | fail)
        all_goals
          go_wp2
          exact ⟨⟨3, d2, s0, s1, s2, 0, by simp, rfl, Lib.hid (.inr (.inr (.inr (.inl ⟨rfl, rfl, rfl, rfl, rfl, rfl⟩)))), Lib.hid (RowAt.drew (R2.out.other ⟨w.heap.size + 3, 2, none⟩ (.int .u64 s2) (by simp))), Lib.hid (RowAt.drew (R3.out.other ⟨w.heap.size + 3, 2, none⟩ (.int .u64 s2) (by simp))), Lib.hid (RowAt.drew (R4.out.other ⟨w.heap.size + 3, 2, none⟩ (.int .u64 s2) (by simp))), Lib.hid (RowAt.drew (R6.out.set 2 (.int .u64 s2) rfl)), Lib.hid (Below.drew (HB.out.setCell (p := ⟨w.heap.size + 3, 2, none⟩) (by simp) (.int .u64 s2)))⟩, by simp [intOf]⟩
      · have K := K3.out
        go_wp2
        go_region_with (first | simp only [K] | fail)
        all_goals
          go_wp2
          exact ⟨⟨4, d3, s0, s1, s2, s3, by simp, rfl, Lib.hid (.inr (.inr (.inr (.inr (⟨rfl, rfl, rfl, rfl, rfl, rfl⟩))))), Lib.hid (RowAt.drew (R2.out.other ⟨w.heap.size + 3, 3, none⟩ (.int .u64 s3) (by simp))), Lib.hid (RowAt.drew (R3.out.other ⟨w.heap.size + 3, 3, none⟩ (.int .u64 s3) (by simp))), Lib.hid (RowAt.drew (R4.out.other ⟨w.heap.size + 3, 3, none⟩ (.int .u64 s3) (by simp))), Lib.hid (RowAt.drew (R6.out.set 3 (.int .u64 s3) rfl)), Lib.hid (Below.drew (HB.out.setCell (p := ⟨w.heap.size + 3, 3, none⟩) (by simp) (.int .u64 s3)))⟩, by simp [intOf]⟩
      · obtain ⟨z0, z1, z2, z3, zf0, zf1, zf2, zf3⟩ := R4.out.c4
        simp only at z0 z1 z2 z3
        go_wp2
        have RZ := (((R4.out.set 0 (.int .u64 s0) rfl).set 1 (.int .u64 s1) rfl).set 2 (.int .u64 s2) rfl).set 3 (.int .u64 s3) rfl
        obtain ⟨k0, k1, k2, k3, _⟩ := RZ.c4
        refine bodyPost_ret (v := .tuple #[u4V (s0, s1, s2, s3), .bool (d3 == 1)]) (by simp [results, Try.results188, go_sem, k0, k1, k2, k3]) rfl ?_
        exact ⟨rfl, (((HB.out.setCell (p := ⟨w.heap.size + 2, 0, none⟩) (Nat.le_add_right _ 2) _).setCell (p := ⟨w.heap.size + 2, 1, none⟩) (Nat.le_add_right _ 2) _).setCell (p := ⟨w.heap.size + 2, 2, none⟩) (Nat.le_add_right _ 2) _).setCell (p := ⟨w.heap.size + 2, 3, none⟩) (Nat.le_add_right _ 2) _⟩

abbrev oN : U4 := (13822214165235122497, 13451932020343611451, 18446744073709551614, 18446744073709551615)
abbrev oC : U4 := (4624529908474429119, 4994812053365940164, 1, 0)
theorem oC_ok : oC.ok := ⟨⟨by decide, by decide⟩, ⟨by decide, by decide⟩, ⟨by decide, by decide⟩, ⟨by decide, by decide⟩⟩
theorem oN_ok : oN.ok := ⟨⟨by decide, by decide⟩, ⟨by decide, by decide⟩, ⟨by decide, by decide⟩, ⟨by decide, by decide⟩⟩
theorem zero_ok : U4.ok (0, 0, 0, 0) := ⟨⟨by decide, by decide⟩, ⟨by decide, by decide⟩, ⟨by decide, by decide⟩, ⟨by decide, by decide⟩⟩

theorem val_inj {a b : U4} (ha : a.ok) (hb : b.ok) (h : a.val = b.val) : a = b := by
  obtain ⟨a0, a1, a2, a3⟩ := a
  obtain ⟨b0, b1, b2, b3⟩ := b
  obtain ⟨⟨x0, x0'⟩, ⟨x1, x1'⟩, ⟨x2, x2'⟩, ⟨x3, x3'⟩⟩ := ha
  obtain ⟨⟨y0, y0'⟩, ⟨y1, y1'⟩, ⟨y2, y2'⟩, ⟨y3, y3'⟩⟩ := hb
  unfold U4.val at h
  simp only at *
  have e0 : a0 = b0 := by omega
  have e1 : a1 = b1 := by omega
  have e2 : a2 = b2 := by omega
  have e3 : a3 = b3 := by omega
  rw [e0, e1, e2, e3]

set_option maxRecDepth 100000 in
set_option maxHeartbeats 2000000 in
theorem below_any (w : World) : Calls Try.prog 181 #[.int .i64 1] w fun e w' => e = .returned (.tuple #[u4V oC, .bool true]) ∧ Below w.heap.size w w' := by
  have R := Lib.hid (RowAt.new w (u4c (0, 0, 0, 0)) 78)
  obtain ⟨z0, z1, z2, z3, zf0, zf1, zf2, zf3⟩ := R.out.c4
  simp only at z0 z1 z2 z3
  go_enter Try.func181, Try.ntmps181
  go_wp2
  refine bodyPost_ret (v := .tuple #[u4V oC, .bool true]) (by simp [results, Try.results181, go_sem]) rfl ?_
  exact ⟨rfl, belowA w _⟩
end Go.Proofs.Ythipnbiilobjeaa
