/- May a signature be? -/
import Derived.Test.YthipnbiilobjeaaU4
namespace Go.Proofs.Ythipnbiilobjeaa
open Go.RowKit Go.Shelf

theorem cmp_pos (a b : U4) : (0 < cmpU a b ↔ b.val < a.val) := by
  unfold cmpU
  split
  · exact ⟨fun h => by omega, fun h => by omega⟩
  · split
    · exact ⟨fun _ => by assumption, fun _ => by omega⟩
    · exact ⟨fun h => by omega, fun h => absurd h (by assumption)⟩

set_option maxRecDepth 100000 in
set_option maxHeartbeats 2000000 in
theorem high_any (a : U4) (ha : a.ok) (w : World) : Calls Try.prog 132 #[u4V a] w fun e w' => e = .returned (.bool (highU a)) ∧ Below w.heap.size w w' := by
  obtain ⟨c, d, hc, d0, d1, hs, KA⟩ := add_any a a ha ha
  have KC := fun W => cmp_any c oN hc oN_ok W
  have hp := cmp_pos c oN
  have hcv := val_nonneg hc
  have hN : oN.val < 115792089237316195423570985008687907853269984665640564039457584007913129639936 := (val_nonneg oN_ok).2
  have R1 := Lib.hid (RowAt.new w (u4c a) 78)
  have HB := Lib.hid (belowA w (.cells (u4c a) 78))
  have hd : d = 0 ∨ d = 1 := by omega
  have hv : Hid (highU a = ((d == 1) || decide (0 < cmpU c oN))) := Lib.hid (by
    unfold highU
    rcases hd with rfl | rfl
    · rw [show ((0 : Int) == 1) = false from rfl, Bool.false_or]
      exact decide_eq_decide.2 (by omega)
    · rw [show ((1 : Int) == 1) = true from rfl, Bool.true_or]
      exact decide_eq_true (by omega))
  generalize cmpU c oN = n at *
  have KC := Lib.hid KC
  have KA := Lib.hid KA
  obtain ⟨a0, a1, a2, a3⟩ := a
  obtain ⟨c0, c1, c2, c3⟩ := c
  clear hs hp hcv hN d0 d1 ha hc
  go_enter Try.func132, Try.ntmps132
  go_upto_region 1 with (fail)
  obtain ⟨x0, x1, x2, x3, xf0, xf1, xf2, xf3⟩ := R1.out.c4
  simp only at x0 x1 x2 x3
  go_upto_region 2 with (go_at_call 165; refine (KA.out _).mono ?_; rintro e w1 ⟨rfl, hb⟩; (replace R1 := Lib.hid (R1.out.belowS hb); replace HB := Lib.hid (HB.out.trans (hb.mono HB.out.size)); clear hb))
  clear x0 x1 x2 x3 xf0 xf1 xf2 xf3
  (replace R1 := Lib.hid (R1.out.alloc (.cells (u4c (c0, c1, c2, c3)) 78)); replace HB := Lib.hid (HB.out.alloc HB.out.size (.cells (u4c (c0, c1, c2, c3)) 78)))
  have R3 := Lib.hid (RowAt.new w1 (u4c (c0, c1, c2, c3)) 78)
  generalize w1.alloc (.cells (u4c (c0, c1, c2, c3)) 78) = w2 at *
  generalize w1.heap.size = k3 at *
  go_upto_region 3 with (go_at_call 163; refine (prime_any _).mono ?_; rintro e w3 ⟨rfl, hb⟩; (replace R1 := Lib.hid (R1.out.belowS hb); replace R3 := Lib.hid (R3.out.belowS hb); replace HB := Lib.hid (HB.out.trans (hb.mono HB.out.size)); clear hb))
  (replace R1 := Lib.hid (R1.out.alloc (.cells (u4c oN) 78)); replace R3 := Lib.hid (R3.out.alloc (.cells (u4c oN) 78)); replace HB := Lib.hid (HB.out.alloc HB.out.size (.cells (u4c oN) 78)))
  have R5 := Lib.hid (RowAt.new w3 (u4c oN) 78)
  generalize w3.alloc (.cells (u4c oN) 78) = w4 at *
  generalize w3.heap.size = k5 at *
  obtain ⟨x0, x1, x2, x3, xf0, xf1, xf2, xf3⟩ := R3.out.c4
  obtain ⟨y0, y1, y2, y3, yf0, yf1, yf2, yf3⟩ := R5.out.c4
  simp only at x0 x1 x2 x3 y0 y1 y2 y3
  rcases hd with rfl | rfl
  · go_wp2_with (go_at_call 164; refine (KC.out _).mono ?_; rintro e w6 ⟨rfl, hb⟩; have HE := Lib.hid (HB.out.trans (hb.mono HB.out.size)); clear hb)
    go_ret
    exact ⟨by rw [hv.out]; rfl, HE.out⟩
  · go_wp2
    go_ret
    exact ⟨by rw [hv.out]; rfl, HB.out⟩

/-- A signature: its two numbers, and which of the points. -/
abbrev Sg := U4 × U4 × Int
def Sg.ok (s : Sg) : Prop := U4.ok s.1 ∧ U4.ok s.2.1
abbrev sgc (s : Sg) : Array Value := #[.int .u64 s.1.1, .int .u64 s.1.2.1, .int .u64 s.1.2.2.1, .int .u64 s.1.2.2.2, .int .u64 s.2.1.1, .int .u64 s.2.1.2.1, .int .u64 s.2.1.2.2.1, .int .u64 s.2.1.2.2.2, .int .i64 s.2.2]
abbrev sgV (s : Sg) : Value := .agg (sgc s)
def sigOk (s : Sg) : Bool := betweenU s.1 && (betweenU s.2.1 && (!highU s.2.1 && ((s.2.2 == 0) || (s.2.2 == 1))))

theorem RowAt.c9 {w : World} {k : Nat} {v0 v1 v2 v3 v4 v5 v6 v7 v8 : Value} {T : TypeId} (h : RowAt w k #[v0, v1, v2, v3, v4, v5, v6, v7, v8] T) : w.cell? ⟨k, 0, none⟩ = some v0 ∧ w.cell? ⟨k, 1, none⟩ = some v1 ∧ w.cell? ⟨k, 2, none⟩ = some v2 ∧ w.cell? ⟨k, 3, none⟩ = some v3 ∧
    w.cell? ⟨k, 4, none⟩ = some v4 ∧ w.cell? ⟨k, 5, none⟩ = some v5 ∧ w.cell? ⟨k, 6, none⟩ = some v6 ∧ w.cell? ⟨k, 7, none⟩ = some v7 ∧ w.cell? ⟨k, 8, none⟩ = some v8 :=
  ⟨h.cell 0, h.cell 1, h.cell 2, h.cell 3, h.cell 4, h.cell 5, h.cell 6, h.cell 7, h.cell 8⟩

set_option maxRecDepth 100000 in
set_option maxHeartbeats 2000000 in
theorem sigRight_any (s : Sg) (hs : s.ok) (w : World) : Calls Try.prog 84 #[sgV s] w fun e w' => e = .returned (.bool (sigOk s)) ∧ Below w.heap.size w w' := by
  obtain ⟨⟨r0, r1, r2, r3⟩, ⟨s0, s1, s2, s3⟩, v⟩ := s
  have K1 := fun W => between_any (r0, r1, r2, r3) hs.1 W
  have K2 := fun W => between_any (s0, s1, s2, s3) hs.2 W
  have K3 := fun W => high_any (s0, s1, s2, s3) hs.2 W
  have R := Lib.hid (RowAt.new w (sgc ((r0, r1, r2, r3), (s0, s1, s2, s3), v)) 80)
  have HB := Lib.hid (belowA w (.cells (sgc ((r0, r1, r2, r3), (s0, s1, s2, s3), v)) 80))
  have hv : Hid (sigOk ((r0, r1, r2, r3), (s0, s1, s2, s3), v) = (betweenU (r0, r1, r2, r3) && (betweenU (s0, s1, s2, s3) && (!highU (s0, s1, s2, s3) && ((v == 0) || (v == 1)))))) := Lib.hid rfl
  cases e1 : betweenU (r0, r1, r2, r3) <;> cases e2 : betweenU (s0, s1, s2, s3) <;> cases e3 : highU (s0, s1, s2, s3)
  all_goals
    rw [e1, e2, e3] at hv
    rw [e1] at K1
    rw [e2] at K2
    rw [e3] at K3
    have K1 := Lib.hid K1
    have K2 := Lib.hid K2
    have K3 := Lib.hid K3
    clear e1 e2 e3 hs
    go_enter Try.func84, Try.ntmps84
    go_upto_region 1 with (fail)
    obtain ⟨x0, x1, x2, x3, x4, x5, x6, x7, x8⟩ := R.out.c9
    simp only at x0 x1 x2 x3 x4 x5 x6 x7 x8
    go_wp2_with (first
      | (go_at_call_of 131 (Value.int .u64 r3); refine (K1.out _).mono ?_; rintro e w1 ⟨rfl, hb⟩; (replace R := Lib.hid (R.out.belowS hb); replace HB := Lib.hid (HB.out.trans (hb.mono HB.out.size)); clear hb); clear x0 x1 x2 x3 x4 x5 x6 x7 x8; obtain ⟨x0, x1, x2, x3, x4, x5, x6, x7, x8⟩ := R.out.c9; simp only at x0 x1 x2 x3 x4 x5 x6 x7 x8)
      | (go_at_call 131; refine (K2.out _).mono ?_; rintro e w1 ⟨rfl, hb⟩; (replace R := Lib.hid (R.out.belowS hb); replace HB := Lib.hid (HB.out.trans (hb.mono HB.out.size)); clear hb); clear x0 x1 x2 x3 x4 x5 x6 x7 x8; obtain ⟨x0, x1, x2, x3, x4, x5, x6, x7, x8⟩ := R.out.c9; simp only at x0 x1 x2 x3 x4 x5 x6 x7 x8)
      | (go_at_call 132; refine (K3.out _).mono ?_; rintro e w1 ⟨rfl, hb⟩; (replace R := Lib.hid (R.out.belowS hb); replace HB := Lib.hid (HB.out.trans (hb.mono HB.out.size)); clear hb); clear x0 x1 x2 x3 x4 x5 x6 x7 x8; obtain ⟨x0, x1, x2, x3, x4, x5, x6, x7, x8⟩ := R.out.c9; simp only at x0 x1 x2 x3 x4 x5 x6 x7 x8))
    all_goals
      go_ret
      exact ⟨by rw [hv.out]; first | rfl | (rename_i hv0; rw [hv0]; rfl), HB.out⟩
end Go.Proofs.Ythipnbiilobjeaa
