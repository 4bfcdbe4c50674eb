/- The order of the curve; may a number be one of a signature? -/
import Derived.Test.YthipnbiilobjeaaU3
import Derived.Test.YthipnbiilobjeaaLaterTail
import Derived.BigQuiet
import Derived.ChangeKeysEq
import Derived.Deep.DeepCutAuto
namespace Go.Proofs.Ythipnbiilobjeaa
open Go.RowKit Go.Shelf

theorem RowAt.l4 {W : World} {k : Nat} {v0 v1 v2 v3 : Value} {T : TypeId} (h : RowAt W k #[v0, v1, v2, v3] T) : (∀ u : Later W, u.w.cell? ⟨k, 0, none⟩ = some v0) ∧ (∀ u : Later W, u.w.cell? ⟨k, 1, none⟩ = some v1) ∧ (∀ u : Later W, u.w.cell? ⟨k, 2, none⟩ = some v2) ∧ (∀ u : Later W, u.w.cell? ⟨k, 3, none⟩ = some v3) :=
  ⟨fun u => (h.later u).cell 0, fun u => (h.later u).cell 1, fun u => (h.later u).cell 2, fun u => (h.later u).cell 3⟩

theorem set4 {W : World} {k B : Nat} {a b : U4} {T : TypeId} (h : RowAt W k (u4c a) T) (hk : B ≤ k) : RowAt ((((W.setCell ⟨k, 0, none⟩ (.int .u64 b.1)).setCell ⟨k, 1, none⟩ (.int .u64 b.2.1)).setCell ⟨k, 2, none⟩ (.int .u64 b.2.2.1)).setCell ⟨k, 3, none⟩ (.int .u64 b.2.2.2)) k (u4c b) T ∧
    ∀ w, Below B w W → Below B w ((((W.setCell ⟨k, 0, none⟩ (.int .u64 b.1)).setCell ⟨k, 1, none⟩ (.int .u64 b.2.1)).setCell ⟨k, 2, none⟩ (.int .u64 b.2.2.1)).setCell ⟨k, 3, none⟩ (.int .u64 b.2.2.2)) :=
  ⟨(((h.set 0 (.int .u64 b.1) rfl).set 1 (.int .u64 b.2.1) rfl).set 2 (.int .u64 b.2.2.1) rfl).set 3 (.int .u64 b.2.2.2) rfl, fun _ hb => (((hb.setCell (p := ⟨k, 0, none⟩) hk _).setCell (p := ⟨k, 1, none⟩) hk _).setCell (p := ⟨k, 2, none⟩) hk _).setCell (p := ⟨k, 3, none⟩) hk _⟩

theorem modSub_any (w : World) : Calls Try.prog 188 #[u4V (0, 0, 0, 0), u4V oC] w fun e w' => e = .returned (.tuple #[u4V oN, .bool true]) ∧ Below w.heap.size w w' := by
  obtain ⟨c, d, hc, d0, d1, hs, hw⟩ := sub_any (0, 0, 0, 0) oC zero_ok oC_ok
  have hN : c = oN ∧ d = 1 := by
    have h2 := hc
    obtain ⟨c0, c1, c2, c3⟩ := c
    obtain ⟨⟨x0, x0'⟩, ⟨x1, x1'⟩, ⟨x2, x2'⟩, ⟨x3, x3'⟩⟩ := hc
    have hd : d = 1 := by
      unfold U4.val at hs
      simp only at *
      omega
    refine ⟨val_inj h2 oN_ok ?_, hd⟩
    rw [hs, hd]
    decide
  have := hw w
  rw [hN.1, hN.2] at this
  exact this

set_option maxRecDepth 100000 in
set_option maxHeartbeats 2000000 in
theorem modulus_any (w : World) : Calls Try.prog 182 #[.int .i64 1] w fun e w' => e = .returned (u4V oN) ∧ Below w.heap.size w w' := by
  have R2 := Lib.hid (RowAt.new w (u4c (0, 0, 0, 0)) 78)
  have HB := Lib.hid (belowA w (.cells (u4c (0, 0, 0, 0)) 78))
  go_enter Try.func182, Try.ntmps182
  go_upto_region 1 with (fail)
  go_upto_region 2 with (go_at_call 181; refine (below_any _).mono ?_; rintro e w1 ⟨rfl, hb⟩; (replace R2 := Lib.hid (R2.out.belowS hb); replace HB := Lib.hid (HB.out.trans (hb.mono HB.out.size)); clear hb))
  (replace R2 := Lib.hid (R2.out.alloc (.cells (u4c oC) 78)); replace HB := Lib.hid (HB.out.alloc HB.out.size (.cells (u4c oC) 78)))
  go_upto_region 3 with (go_at_call 188; refine (modSub_any _).mono ?_; rintro e w2 ⟨rfl, hb⟩; (replace R2 := Lib.hid (R2.out.belowS hb); replace HB := Lib.hid (HB.out.trans (hb.mono HB.out.size)); clear hb))
  (replace R2 := Lib.hid (R2.out.alloc (.cells (u4c oN) 78)); replace HB := Lib.hid (HB.out.alloc HB.out.size (.cells (u4c oN) 78)))
  obtain ⟨z0, z1, z2, z3, zf0, zf1, zf2, zf3⟩ := R2.out.c4
  simp only at z0 z1 z2 z3
  go_wp2
  obtain ⟨k, kb⟩ := set4 (b := oN) R2.out (Nat.le_refl w.heap.size)
  obtain ⟨k0, k1, k2, k3, _⟩ := k.c4
  simp only at k0 k1 k2 k3
  refine bodyPost_ret (v := u4V oN) (by simp [results, Try.results182, go_sem, k0, k1, k2, k3]) rfl ?_
  exact ⟨rfl, kb _ HB.out⟩

set_option maxRecDepth 100000 in
set_option maxHeartbeats 2000000 in
theorem prime_any (w : World) : Calls Try.prog 163 #[.int .i64 1] w fun e w' => e = .returned (.tuple #[u4V oN, .int .i64 0]) ∧ Below w.heap.size w w' := by
  have R2 := Lib.hid (RowAt.new w (u4c (0, 0, 0, 0)) 78)
  have HB := Lib.hid (belowA w (.cells (u4c (0, 0, 0, 0)) 78))
  go_enter Try.func163, Try.ntmps163
  go_upto_region 2 with (go_at_call 181; refine (below_any _).mono ?_; rintro e w1 ⟨rfl, hb⟩; (replace R2 := Lib.hid (R2.out.belowS hb); replace HB := Lib.hid (HB.out.trans (hb.mono HB.out.size)); clear hb))
  (replace R2 := Lib.hid (R2.out.alloc (.cells (u4c oC) 78)); replace HB := Lib.hid (HB.out.alloc HB.out.size (.cells (u4c oC) 78)))
  go_wp2_with (go_at_call 182; refine (modulus_any _).mono ?_; rintro e w2 ⟨rfl, hb⟩; (replace R2 := Lib.hid (R2.out.belowS hb); replace HB := Lib.hid (HB.out.trans (hb.mono HB.out.size)); clear hb); obtain ⟨z0, z1, z2, z3, zf0, zf1, zf2, zf3⟩ := R2.out.c4; simp only at z0 z1 z2 z3)
  obtain ⟨k, kb⟩ := set4 (b := oN) R2.out (Nat.le_refl w.heap.size)
  obtain ⟨k0, k1, k2, k3, _⟩ := k.c4
  simp only at k0 k1 k2 k3
  refine bodyPost_ret (v := .tuple #[u4V oN, .int .i64 0]) (by simp [results, Try.results163, go_sem, k0, k1, k2, k3]) rfl ?_
  exact ⟨rfl, kb _ HB.out⟩

theorem eqU_run (a b : U4) (w : World) : (Op.equalIn 10000 78 (u4V a) (u4V b)).run Try.prog w = .ok (decide (a.1 = b.1 ∧ a.2.1 = b.2.1 ∧ a.2.2.1 = b.2.2.1 ∧ a.2.2.2 = b.2.2.2)) w := by
  obtain ⟨a0, a1, a2, a3⟩ := a
  obtain ⟨b0, b1, b2, b3⟩ := b
  have hc : Try.prog.cellsOf 32 = 1 := by kernel_rfl
  have hi : (Try.prog.info? 32).map (fun i => i.size) = some 1 := by kernel_rfl
  obtain ⟨i, hi, _⟩ := Option.map_eq_some_iff.1 hi
  have hg : Try.prog.underlying 32 = some (.int .u64) := by kernel_rfl
  have hs : ∀ w, (sizeOf 32).run Try.prog w = .ok 1 w := fun w => by rw [run_sizeOf w hi, hc]
  rw [run_equalIn_array w 9999 (n := 4) (e := 32) _ _ (by kernel_rfl) hi, hc]
  rw [show List.range 4 = [0, 1, 2, 3] from rfl]
  simp only [Op.eqItems]
  have hp : ∀ (xs : Array Value) (j : Nat) (v : Value) (w : World), xs[j]? = some v → (part 32 xs j).run Try.prog w = .ok v w := fun xs j v w h => by
    simp [part, go_sem, hg, h]
  have pa0 : ∀ w, (part 32 (u4c (a0, a1, a2, a3)) (0 * 1)).run Try.prog w = .ok (.int .u64 a0) w := fun w => hp _ _ _ w rfl
  have pa1 : ∀ w, (part 32 (u4c (a0, a1, a2, a3)) (1 * 1)).run Try.prog w = .ok (.int .u64 a1) w := fun w => hp _ _ _ w rfl
  have pa2 : ∀ w, (part 32 (u4c (a0, a1, a2, a3)) (2 * 1)).run Try.prog w = .ok (.int .u64 a2) w := fun w => hp _ _ _ w rfl
  have pa3 : ∀ w, (part 32 (u4c (a0, a1, a2, a3)) (3 * 1)).run Try.prog w = .ok (.int .u64 a3) w := fun w => hp _ _ _ w rfl
  have pb0 : ∀ w, (part 32 (u4c (b0, b1, b2, b3)) (0 * 1)).run Try.prog w = .ok (.int .u64 b0) w := fun w => hp _ _ _ w rfl
  have pb1 : ∀ w, (part 32 (u4c (b0, b1, b2, b3)) (1 * 1)).run Try.prog w = .ok (.int .u64 b1) w := fun w => hp _ _ _ w rfl
  have pb2 : ∀ w, (part 32 (u4c (b0, b1, b2, b3)) (2 * 1)).run Try.prog w = .ok (.int .u64 b2) w := fun w => hp _ _ _ w rfl
  have pb3 : ∀ w, (part 32 (u4c (b0, b1, b2, b3)) (3 * 1)).run Try.prog w = .ok (.int .u64 b3) w := fun w => hp _ _ _ w rfl
  have he : ∀ (x y : Int) w, (Op.equalIn 9999 32 (.int .u64 x) (.int .u64 y)).run Try.prog w = .ok (x == y) w := fun x y w => run_equalIn_int w 9998 _ _ _ _ _ hg
  have hR : decide (a0 = b0 ∧ a1 = b1 ∧ a2 = b2 ∧ a3 = b3) = ((a0 == b0) && ((a1 == b1) && ((a2 == b2) && (a3 == b3)))) := by
    rw [Bool.eq_iff_iff]; simp
  simp only [hR]
  simp only [Sem.run_bind, pa0, pb0, he, Result.andThen_ok]
  cases (a0 == b0)
  · simp
  simp only [Bool.not_true, Bool.false_eq_true, if_false, Sem.run_bind, pa1, pb1, he, Result.andThen_ok, Bool.true_and]
  cases (a1 == b1)
  · simp
  simp only [Bool.not_true, Bool.false_eq_true, if_false, Sem.run_bind, pa2, pb2, he, Result.andThen_ok, Bool.true_and]
  cases (a2 == b2)
  · simp
  simp only [Bool.not_true, Bool.false_eq_true, if_false, Sem.run_bind, pa3, pb3, he, Result.andThen_ok, Bool.true_and]
  cases (a3 == b3) <;> simp

def betweenU (a : U4) : Bool := decide (a.val ≠ 0) && decide (a.val < oN.val)
def highU (a : U4) : Bool := decide (oN.val < 2 * a.val)

theorem val_nonneg {a : U4} (h : a.ok) : 0 ≤ a.val ∧ a.val < 115792089237316195423570985008687907853269984665640564039457584007913129639936 := by
  obtain ⟨a0, a1, a2, a3⟩ := a
  obtain ⟨⟨x0, x0'⟩, ⟨x1, x1'⟩, ⟨x2, x2'⟩, ⟨x3, x3'⟩⟩ := h
  unfold U4.val
  simp only at *
  omega

set_option maxRecDepth 100000 in
set_option maxHeartbeats 2000000 in
theorem between_any (a : U4) (ha : a.ok) (w : World) : Calls Try.prog 131 #[u4V a] w fun e w' => e = .returned (.bool (betweenU a)) ∧ Below w.heap.size w w' := by
  have KC := fun W => cmp_any a oN ha oN_ok W
  have hz : a.val = 0 ↔ (a.1 = 0 ∧ a.2.1 = 0 ∧ a.2.2.1 = 0 ∧ a.2.2.2 = 0) := by
    obtain ⟨⟨x0, x0'⟩, ⟨x1, x1'⟩, ⟨x2, x2'⟩, ⟨x3, x3'⟩⟩ := ha
    unfold U4.val
    omega
  have R1 := Lib.hid (RowAt.new w (u4c a) 78)
  have HB := Lib.hid (belowA w (.cells (u4c a) 78))
  obtain ⟨a0, a1, a2, a3⟩ := a
  simp only at hz
  have HZ := Lib.hid hz
  clear hz
  go_enter Try.func131, Try.ntmps131
  go_upto_region 2 with (go_at_call 163; refine (prime_any _).mono ?_; rintro e w1 ⟨rfl, hb⟩; (replace R1 := Lib.hid (R1.out.belowS hb); replace HB := Lib.hid (HB.out.trans (hb.mono HB.out.size)); clear hb))
  (replace R1 := Lib.hid (R1.out.alloc (.cells (u4c oN) 78)); replace HB := Lib.hid (HB.out.alloc HB.out.size (.cells (u4c oN) 78)))
  have R3 := Lib.hid (RowAt.new w1 (u4c oN) 78)
  generalize w1.alloc (.cells (u4c oN) 78) = w2 at *
  have hc : (cmpU (a0, a1, a2, a3) oN < 0 ↔ U4.val (a0, a1, a2, a3) < oN.val) := by
    unfold cmpU
    split
    · exact ⟨fun _ => by assumption, fun _ => by omega⟩
    · split
      · exact ⟨fun h => by omega, fun h => absurd h (by assumption)⟩
      · exact ⟨fun h => by omega, fun h => absurd h (by assumption)⟩
  generalize cmpU (a0, a1, a2, a3) oN = n at *
  have KC := Lib.hid KC
  obtain ⟨x0, x1, x2, x3, xf0, xf1, xf2, xf3⟩ := R1.out.c4
  obtain ⟨y0, y1, y2, y3, yf0, yf1, yf2, yf3⟩ := R3.out.c4
  simp only at x0 x1 x2 x3 y0 y1 y2 y3
  have hq := fun w => eqU_run (a0, a1, a2, a3) (0, 0, 0, 0) w
  simp only at hq
  by_cases e : a0 = 0 ∧ a1 = 0 ∧ a2 = 0 ∧ a3 = 0
  · have hv : Hid (betweenU (a0, a1, a2, a3) = false) := Lib.hid (by unfold betweenU; rw [HZ.out.2 e]; rfl)
    rw [decide_eq_true e] at hq
    clear hc ha HZ e
    go_wp2
    go_ret
    exact ⟨by rw [hv.out]; rfl, HB.out⟩
  · have hv : Hid (betweenU (a0, a1, a2, a3) = decide (n < 0)) := Lib.hid (by
      unfold betweenU
      rw [decide_eq_true (p := U4.val (a0, a1, a2, a3) ≠ 0) (fun h => e (HZ.out.1 h)), Bool.true_and]
      exact decide_eq_decide.2 hc.symm)
    rw [decide_eq_false e] at hq
    clear e hc ha HZ
    go_wp2_with (go_at_call 164; refine (KC.out _).mono ?_; rintro e w4 ⟨rfl, hb⟩; have HE := Lib.hid (HB.out.trans (hb.mono HB.out.size)); clear hb)
    go_ret
    exact ⟨by rw [hv.out]; rfl, HE.out⟩
end Go.Proofs.Ythipnbiilobjeaa
