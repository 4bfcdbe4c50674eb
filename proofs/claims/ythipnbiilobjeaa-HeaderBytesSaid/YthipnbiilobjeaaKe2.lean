/- A round of the sums' mixing. -/
import Derived.Test.YthipnbiilobjeaaKe1
namespace Go.Proofs.Ythipnbiilobjeaa
open Go.RowKit
set_option maxRecDepth 100000

abbrev z24 : Array Value := #[.int .u64 0, .int .u64 0, .int .u64 0, .int .u64 0, .int .u64 0, .int .u64 0, .int .u64 0, .int .u64 0, .int .u64 0, .int .u64 0, .int .u64 0, .int .u64 0, .int .u64 0, .int .u64 0, .int .u64 0, .int .u64 0, .int .u64 0, .int .u64 0, .int .u64 0, .int .u64 0, .int .u64 0, .int .u64 0, .int .u64 0, .int .u64 0]
set_option maxHeartbeats 4000000 in
theorem consts_any (w : World) : Calls Try.prog 129 #[] w fun e w' => e = .returned (.agg (rV 24 .u64 rcC)) ∧ Below w.heap.size w w' := by
  have R := Lib.hid (RowAt.new w z24 170)
  have HB := Lib.hid ((Below.refl w.heap.size w).alloc (Nat.le_refl _) (.cells z24 170))
  go_enter Try.func129, Try.ntmps129
  have HC : Hid (rV 24 .u64 rcC = rV 24 .u64 rcC) := Lib.hid rfl
  generalize hcs : rV 24 .u64 rcC = cs at HC
  have HS : Hid (cs.size = 24 ∧ cs.all (·.oneCell') = true) := Lib.hid (by rw [← hcs]; exact ⟨rV_size, rV_one⟩)
  have HCS := Lib.hid hcs
  clear hcs
  go_upto_region 1 with (fail)
  go_step
  refine wpList_build_to rfl _ _ rfl cs ?hf ?_
  case hf => rw [← HCS.out]; kernel_rfl
  refine wpList_store_row rfl 170 _ _ rfl w.heap.size cs rfl rfl 170 z24 ?hg ?hi ?ho ?h1 ?_
  case hi => rw [HS.out.1]; kernel_rfl
  case ho => rw [HS.out.1]; rfl
  case h1 => exact HS.out.2
  case hg => exact R.out
  have R2 := Lib.hid (R.out.row cs)
  have HB2 := Lib.hid (below_setRow HB.out (g := w.heap.size) (Nat.le_refl _) cs)
  generalize (w.alloc (.cells z24 170)).setRow w.heap.size cs = W at *
  go_wp2
  refine bodyPost_ret (results_cell_row rfl _ _ _ 170 cs (0, 0) _ rfl R2.out Try.underlying170 rfl (by rw [HS.out.1]; kernel_rfl)) rfl ?_
  exact ⟨rfl, HB2.out⟩

theorem rows6 (w : World) (a b c d e f : Array Value) (Ta Tb Tc Td Te Tf : TypeId) : ∀ W, W = (((((w.alloc (.cells a Ta)).alloc (.cells b Tb)).alloc (.cells c Tc)).alloc (.cells d Td)).alloc (.cells e Te)).alloc (.cells f Tf) →
    RowAt W w.heap.size a Ta ∧ RowAt W (w.heap.size + 1) b Tb ∧ RowAt W (w.heap.size + 1 + 1) c Tc ∧ RowAt W (w.heap.size + 1 + 1 + 1) d Td ∧ RowAt W (w.heap.size + 1 + 1 + 1 + 1) e Te ∧ RowAt W (w.heap.size + 1 + 1 + 1 + 1 + 1) f Tf ∧ Below w.heap.size w W ∧ W.heap.size = w.heap.size + 1 + 1 + 1 + 1 + 1 + 1 := by
  rintro W rfl
  exact ⟨(((((RowAt.new w a Ta).alloc _).alloc _).alloc _).alloc _).alloc _, ((((RowAt.new' (w.alloc (.cells a Ta)) b Tb (by simp)).alloc _).alloc _).alloc _).alloc _,
    (((RowAt.new' ((w.alloc (.cells a Ta)).alloc (.cells b Tb)) c Tc (by simp)).alloc _).alloc _).alloc _,
    ((RowAt.new' (((w.alloc (.cells a Ta)).alloc (.cells b Tb)).alloc (.cells c Tc)) d Td (by simp)).alloc _).alloc _,
    (RowAt.new' ((((w.alloc (.cells a Ta)).alloc (.cells b Tb)).alloc (.cells c Tc)).alloc (.cells d Td)) e Te (by simp)).alloc _,
    RowAt.new' (((((w.alloc (.cells a Ta)).alloc (.cells b Tb)).alloc (.cells c Tc)).alloc (.cells d Td)).alloc (.cells e Te)) f Tf (by simp),
    ((((((Below.refl w.heap.size w).alloc (Nat.le_refl _) _).alloc (by simp) _).alloc (by simp; omega) _).alloc (by simp; omega) _).alloc (by simp; omega) _).alloc (by simp; omega) _, by simp⟩

abbrev z5 (k : IntKind) : Array Value := #[.int k 0, .int k 0, .int k 0, .int k 0, .int k 0]

/-- The blocks of a round: the state, by how much, where to, the answer, the two rows of five. -/
def KR (w : World) (A : NF) (turnsBy places : Nat → Nat) (C D : NF) (wr : World) : Prop :=
  RowAt wr w.heap.size (rV 25 .u64 A) 118 ∧ RowAt wr (w.heap.size + 1) (rV 25 .i64 (asI turnsBy)) 167 ∧ RowAt wr (w.heap.size + 1 + 1) (rV 25 .i64 (asI places)) 167 ∧ RowAt wr (w.heap.size + 1 + 1 + 1) (z25 .u64) 118 ∧
    RowAt wr (w.heap.size + 1 + 1 + 1 + 1) (rV 5 .u64 C) 197 ∧ RowAt wr (w.heap.size + 1 + 1 + 1 + 1 + 1) (rV 5 .u64 D) 197 ∧ Below w.heap.size w wr ∧ w.heap.size + 1 + 1 + 1 + 1 + 1 + 1 ≤ wr.heap.size
theorem KR.drew {w wr : World} {A C D : NF} {b p : Nat → Nat} (h : KR w A b p C D wr) : KR w A b p C D wr.drew := ⟨h.1, h.2.1, h.2.2.1, h.2.2.2.1, h.2.2.2.2.1, h.2.2.2.2.2.1, h.2.2.2.2.2.2.1.drew, h.2.2.2.2.2.2.2⟩
theorem KR.stepC {w wr : World} {A D f Z : NF} {b p : Nat → Nat} {k : Nat} (h : KR w A b p (upto k f Z) D wr) {v : Int} (hv : v = f k) : KR w A b p (upto (k + 1) f Z) D (wr.setCell ⟨w.heap.size + 1 + 1 + 1 + 1, k, none⟩ (.int .u64 v)) :=
  ⟨h.1.other _ _ (by dsimp only; omega), h.2.1.other _ _ (by dsimp only; omega), h.2.2.1.other _ _ (by dsimp only; omega), h.2.2.2.1.other _ _ (by dsimp only; omega),
    h.2.2.2.2.1.step hv, h.2.2.2.2.2.1.other _ _ (by dsimp only; omega), h.2.2.2.2.2.2.1.setCell (by dsimp only; omega) _, by rw [World.size_setCell]; exact h.2.2.2.2.2.2.2⟩
theorem KR.stepD {w wr : World} {A C f Z : NF} {b p : Nat → Nat} {k : Nat} (h : KR w A b p C (upto k f Z) wr) {v : Int} (hv : v = f k) : KR w A b p C (upto (k + 1) f Z) (wr.setCell ⟨w.heap.size + 1 + 1 + 1 + 1 + 1, k, none⟩ (.int .u64 v)) :=
  ⟨h.1.other _ _ (by dsimp only; omega), h.2.1.other _ _ (by dsimp only; omega), h.2.2.1.other _ _ (by dsimp only; omega), h.2.2.2.1.other _ _ (by dsimp only; omega),
    h.2.2.2.2.1.other _ _ (by dsimp only; omega), h.2.2.2.2.2.1.step hv, h.2.2.2.2.2.2.1.setCell (by dsimp only; omega) _, by rw [World.size_setCell]; exact h.2.2.2.2.2.2.2⟩
theorem KR.stepA {w wr : World} {C D f Z : NF} {b p : Nat → Nat} {k : Nat} (h : KR w (upto k f Z) b p C D wr) {v : Int} (hv : v = f k) : KR w (upto (k + 1) f Z) b p C D (wr.setCell ⟨w.heap.size, k, none⟩ (.int .u64 v)) :=
  ⟨h.1.step hv, h.2.1.other _ _ (by dsimp only; omega), h.2.2.1.other _ _ (by dsimp only; omega), h.2.2.2.1.other _ _ (by dsimp only; omega),
    h.2.2.2.2.1.other _ _ (by dsimp only; omega), h.2.2.2.2.2.1.other _ _ (by dsimp only; omega), h.2.2.2.2.2.2.1.setCell (by dsimp only; omega) _, by rw [World.size_setCell]; exact h.2.2.2.2.2.2.2⟩
theorem KR.alloc {w wr : World} {A C D : NF} {b p : Nat → Nat} (h : KR w A b p C D wr) (o : Obj) : KR w A b p C D (wr.alloc o) :=
  ⟨h.1.alloc o, h.2.1.alloc o, h.2.2.1.alloc o, h.2.2.2.1.alloc o, h.2.2.2.2.1.alloc o, h.2.2.2.2.2.1.alloc o, h.2.2.2.2.2.2.1.alloc (by have := h.2.2.2.2.2.2.2; omega) o, by have := h.2.2.2.2.2.2.2; rw [World.size_alloc]; omega⟩
theorem KR.stepB {w wr : World} {A C D : NF} {b p : Nat → Nat} (h : KR w A b p C D wr) {g i : Nat} (hg : w.heap.size + 1 + 1 + 1 + 1 + 1 + 1 ≤ g) (v : Value) : KR w A b p C D (wr.setCell ⟨g, i, none⟩ v) :=
  ⟨h.1.other _ _ (by dsimp only; omega), h.2.1.other _ _ (by dsimp only; omega), h.2.2.1.other _ _ (by dsimp only; omega), h.2.2.2.1.other _ _ (by dsimp only; omega),
    h.2.2.2.2.1.other _ _ (by dsimp only; omega), h.2.2.2.2.2.1.other _ _ (by dsimp only; omega), h.2.2.2.2.2.2.1.setCell (by dsimp only; omega) _, by rw [World.size_setCell]; exact h.2.2.2.2.2.2.2⟩

theorem index_row {P : Program} {t e : TypeId} {n : Nat} {A : NF} {i : Nat} (hu : P.underlying t = some (.array n e)) (hi : (P.info? e).map (·.size) = some 1) (hag : ∀ w, (isAgg e).run P w = .ok false w) (h : i < n) (w : World) :
    (Instr.index t (.agg (rV n .u64 A)) (.int .i64 i)).run P w = .ok (.int .u64 (A i)) w := by
  cases hq : P.info? e with
  | none => simp [hq] at hi
  | some ie =>
    have hs : ie.size = 1 := by simpa [hq] using hi
    simp [Instr.index, asIntOf, run_underlying hu, sizeOf, typeInfo, hq, hs, h, part, hag, rV_get h]

set_option maxHeartbeats 8000000 in
theorem round_any (A : NF) (turnsBy places : Nat → Nat) (hby : ∀ i, turnsBy i < 64) (hto : ∀ i, i < 25 → places i < 25) (last : Int) (w : World) :
    Calls Try.prog 130 #[.agg (rV 25 .u64 A), .agg (rV 25 .i64 (asI turnsBy)), .agg (rV 25 .i64 (asI places)), .int .u64 last] w fun e w' => e = .returned (.agg (rV 25 .u64 (rnd A turnsBy places last))) ∧ Below w.heap.size w w' := by
  have H6 := rows6 w (rV 25 .u64 A) (rV 25 .i64 (asI turnsBy)) (rV 25 .i64 (asI places)) (z25 .u64) (z5 .u64) (z5 .u64) 118 167 167 118 197 197
  have HR := Lib.hid (show rnd A turnsBy places last = upd (chi (rho A turnsBy places 25)) 0 (xr (chi (rho A turnsBy places 25) 0) last) from rfl)
  generalize rnd A turnsBy places last = RR at *
  have HBY := Lib.hid hby
  have HTO := Lib.hid hto
  clear hby hto
  generalize hW : (((((w.alloc (.cells (rV 25 .u64 A) 118)).alloc (.cells (rV 25 .i64 (asI turnsBy)) 167)).alloc (.cells (rV 25 .i64 (asI places)) 167)).alloc (.cells (z25 .u64) 118)).alloc (.cells (z5 .u64) 197)).alloc (.cells (z5 .u64) 197) = W at H6
  obtain ⟨r0, r1, r2, r3, r4, r5, hb, hs⟩ := H6 W rfl
  have HK := Lib.hid (show KR w A turnsBy places (upto 0 (thC A) (fun _ => 0)) (upto 0 (thD A) (fun _ => 0)) W from ⟨r0, r1, r2, r3, r4, r5, hb, by omega⟩)
  have HW := Lib.hid hW
  clear r0 r1 r2 r3 r4 r5 hb hs H6 hW
  go_enter Try.func130, Try.ntmps130
  go_wp2
  generalize hwo : (((((w.alloc (.cells (rV 25 .u64 A) 118)).alloc (.cells (rV 25 .i64 (asI turnsBy)) 167)).alloc (.cells (rV 25 .i64 (asI places)) 167)).alloc (.cells (z25 .u64) 118)).alloc (.cells (z5 .u64) 197)).alloc (.cells (z5 .u64) 197) = wo
  obtain rfl : wo = W := hwo.symm.trans HW.out
  clear hwo HW
  go_loopw [18] (fun c wr => ∃ k : Nat, k ≤ 5 ∧ c = .int .i64 k ∧ Hid (KR w A turnsBy places (upto k (thC A) (fun _ => 0)) (upto 0 (thD A) (fun _ => 0)) wr)) (fun c _ => 5 - (intOf c).toNat)
  case atStart => exact ⟨0, by omega, rfl, HK⟩
  case round =>
    clear HK
    obtain ⟨k, hk, rfl, hh⟩ := hrel
    have HK := Lib.hid hh.out
    clear hh
    by_cases hlt : k < 5
    · have a0 := HK.out.1.drew.num (i := k) (by omega)
      have a1 := HK.out.1.drew.num (i := k + 5) (by omega)
      have a2 := HK.out.1.drew.num (i := k + 10) (by omega)
      have a3 := HK.out.1.drew.num (i := k + 15) (by omega)
      have a4 := HK.out.1.drew.num (i := k + 20) (by omega)
      have hc := HK.out.2.2.2.2.1.drew.num (i := k) hlt
      have hf := HK.out.2.2.2.2.1.drew.frozen k
      have e0 : (k : Int) < 25 := by omega
      have q1 : IntKind.i64.wrap ((k : Int) + 5) = (k : Int) + 5 := wrapN (n := k + 5) (by omega)
      have e1 : (k : Int) + 5 < 25 := by omega
      have g1 : 0 ≤ (k : Int) + 5 := by omega
      have n1 : ((k : Int) + 5).toNat = k + 5 := by omega
      have q2 : IntKind.i64.wrap ((k : Int) + 10) = (k : Int) + 10 := wrapN (n := k + 10) (by omega)
      have e2 : (k : Int) + 10 < 25 := by omega
      have g2 : 0 ≤ (k : Int) + 10 := by omega
      have n2 : ((k : Int) + 10).toNat = k + 10 := by omega
      have q3 : IntKind.i64.wrap ((k : Int) + 15) = (k : Int) + 15 := wrapN (n := k + 15) (by omega)
      have e3 : (k : Int) + 15 < 25 := by omega
      have g3 : 0 ≤ (k : Int) + 15 := by omega
      have n3 : ((k : Int) + 15).toNat = k + 15 := by omega
      have q4 : IntKind.i64.wrap ((k : Int) + 20) = (k : Int) + 20 := wrapN (n := k + 20) (by omega)
      have e4 : (k : Int) + 20 < 25 := by omega
      have g4 : 0 ≤ (k : Int) + 20 := by omega
      have n4 : ((k : Int) + 20).toNat = k + 20 := by omega
      have e5 : (k : Int) < 5 := by omega
      have hth : xr (xr (xr (xr (A k) (A (k + 5))) (A (k + 10))) (A (k + 15))) (A (k + 20)) = thC A k := rfl
      go_upto_region 5 with (fail)
      (refine region_tail 25 mix ?hB ?_; case hB => kernel_rfl); (simp only [List.take_succ_cons, List.take_zero, List.drop_succ_cons, List.drop_zero]; (iterate 25 (with_reducible refine wpStill_step ?_; intro K hK; go_simp; with_reducible refine hK _ ?_; clear hK K)); with_reducible refine wpStill_nil ?_)
      go_wp2
      exact ⟨⟨k + 1, by omega, by simp, Lib.hid (HK.out.stepC hth).drew⟩, by simp [intOf]; omega⟩
    · obtain rfl : k = 5 := by omega
      go_upto_region 8 with (fail)
      go_loopw [47] (fun c wr => ∃ k : Nat, k ≤ 5 ∧ c = .int .i64 k ∧ Hid (KR w A turnsBy places (upto 5 (thC A) (fun _ => 0)) (upto k (thD A) (fun _ => 0)) wr)) (fun c _ => 5 - (intOf c).toNat)
      case atStart => exact ⟨0, by omega, rfl, HK⟩
      case round =>
        clear HK
        obtain ⟨k, hk, rfl, hh⟩ := hrel
        have HK := Lib.hid hh.out
        clear hh
        by_cases hlt : k < 5
        · have a0 := HK.out.2.2.2.2.1.drew.num (i := (k + 4) % 5) (by omega)
          have a1 := HK.out.2.2.2.2.1.drew.num (i := (k + 1) % 5) (by omega)
          rw [upto_full (by omega)] at a0 a1
          have hc := HK.out.2.2.2.2.2.1.drew.num (i := k) hlt
          have hf := HK.out.2.2.2.2.2.1.drew.frozen k
          have e0 : (k : Int) < 5 := by omega
          have q1 : IntKind.i64.wrap ((k : Int) + 4) = (k : Int) + 4 := wrapN (n := k + 4) (by omega)
          have q2 : IntKind.i64.wrap ((k : Int) + 1) = (k : Int) + 1 := wrapN (n := k + 1) (by omega)
          have hth : xr (thC A ((k + 4) % 5)) (rl (thC A ((k + 1) % 5)) 1) = thD A k := rfl
          have m1 : ((k : Int) + 4).tmod 5 = (((k + 4) % 5 : Nat) : Int) := by rw [Int.tmod_eq_emod_of_nonneg (by omega)]; omega
          have m2 : ((k : Int) + 1).tmod 5 = (((k + 1) % 5 : Nat) : Int) := by rw [Int.tmod_eq_emod_of_nonneg (by omega)]; omega
          have e1 : (((k + 4) % 5 : Nat) : Int) < 5 := by omega
          have e2 : (((k + 1) % 5 : Nat) : Int) < 5 := by omega
          have HKC := Lib.hid HK.out
          clear HK
          generalize thC A ((k + 4) % 5) = c4 at *
          generalize thC A ((k + 1) % 5) = c1 at *
          generalize (k + 4) % 5 = i4 at *
          generalize (k + 1) % 5 = i1 at *
          go_upto_region 10 with (fail)
          (refine region_tail 14 mix ?hB ?_; case hB => kernel_rfl)
          (simp only [List.take_succ_cons, List.take_zero, List.drop_succ_cons, List.drop_zero])
          (iterate 11 (with_reducible refine wpStill_step ?_; intro K hK; go_simp; with_reducible refine hK _ ?_; clear hK K))
          (with_reducible refine wpStill_step ?_; intro K hK; go_simp; refine ⟨_, rl_any _ 1 (by omega) _ (by simp) _, hK _ ?_⟩; clear hK K)
          (iterate 2 (with_reducible refine wpStill_step ?_; intro K hK; go_simp; with_reducible refine hK _ ?_; clear hK K))
          with_reducible refine wpStill_nil ?_
          go_wp2
          exact ⟨⟨k + 1, by omega, by simp, Lib.hid (HKC.out.stepD hth).drew⟩, by simp [intOf]; omega⟩
        · obtain rfl : k = 5 := by omega
          go_upto_region 13 with (fail)
          have HK2 := Lib.hid (HK.out.alloc (.cells (z25 .u64) 118))
          have R6 := Lib.hid (show RowAt (wr.alloc (.cells (z25 .u64) 118)) wr.heap.size (rV 25 .u64 (rho A turnsBy places 0)) 118 from RowAt.new wr (z25 .u64) 118)
          have hg := HK.out.2.2.2.2.2.2.2
          clear HK
          generalize wr.alloc (.cells (z25 .u64) 118) = W2 at *
          generalize wr.heap.size = g at *
          go_step
          refine wpList_load_row rfl 118 _ rfl w.heap.size rfl 118 (rV 25 .u64 A) (0, 0) _ HK2.out.1 Try.underlying118 rfl (by kernel_rfl) ?_
          go_upto_region 14 with (fail)
          go_loopw [66] (fun c wr => ∃ k : Nat, k ≤ 25 ∧ c = .int .i64 k ∧ Hid (KR w A turnsBy places (upto 5 (thC A) (fun _ => 0)) (upto 5 (thD A) (fun _ => 0)) wr) ∧ Hid (RowAt wr g (rV 25 .u64 (rho A turnsBy places k)) 118)) (fun c _ => 25 - (intOf c).toNat)
          case atStart => exact ⟨0, by omega, rfl, HK2, R6⟩
          case round =>
            clear HK2 R6
            obtain ⟨k, hk, rfl, hh, h6⟩ := hrel
            have HK := Lib.hid hh.out
            have R6 := Lib.hid h6.out
            clear hh h6
            by_cases hlt : k < 25
            · have hix : ∀ w, (Instr.index 118 (.agg (rV 25 .u64 A)) (.int .i64 k)).run Try.prog w = .ok (.int .u64 (A k)) w := index_row Try.underlying118 (by kernel_rfl) (fun _ => by kernel_rfl) hlt
              go_upto_region 16 with (fail)
              have hp := HTO.out k hlt
              have a0 := HK.out.2.2.1.drew.num (i := k) hlt
              have a1 := HK.out.2.2.2.2.2.1.drew.num (i := k % 5) (by omega)
              rw [upto_full (by omega)] at a1
              have a2 := HK.out.2.1.drew.num (i := k) hlt
              have hc := R6.out.drew.num (i := places k) hp
              have hf := R6.out.drew.frozen (places k)
              have h64 := Lib.hid (HBY.out k)
              have hth : Hid (∀ j, j < 25 → upd (rho A turnsBy places k) (places k) (rl (xr (A k) (thD A (k % 5))) (turnsBy k)) j = rho A turnsBy places (k + 1) j) := Lib.hid (fun _ _ => rfl)
              have e0 : (k : Int) < 25 := by omega
              have m1 : (k : Int).tmod 5 = ((k % 5 : Nat) : Int) := by rw [Int.tmod_eq_emod_of_nonneg (by omega)]; omega
              have e1 : ((k % 5 : Nat) : Int) < 5 := by omega
              have e2 : (places k : Int) < 25 := by omega
              have HKC := Lib.hid HK.out
              have R6C := Lib.hid R6.out
              clear HK R6 hp hix
              unfold asI at a0 a2
              generalize thD A (k % 5) = d at *
              generalize k % 5 = i5 at *
              generalize turnsBy k = tb at *
              generalize places k = pl at *
              (refine region_tail 14 mix ?hB ?_; case hB => kernel_rfl)
              (simp only [List.take_succ_cons, List.take_zero, List.drop_succ_cons, List.drop_zero])
              (iterate 12 (with_reducible refine wpStill_step ?_; intro K hK; go_simp; with_reducible refine hK _ ?_; clear hK K))
              (with_reducible refine wpStill_step ?_; intro K hK; go_simp; refine ⟨_, rl_any _ tb h64.out _ (by simp) _, hK _ ?_⟩; clear hK K)
              (iterate 1 (with_reducible refine wpStill_step ?_; intro K hK; go_simp; with_reducible refine hK _ ?_; clear hK K))
              with_reducible refine wpStill_nil ?_
              go_wp2
              exact ⟨⟨k + 1, by omega, by simp, Lib.hid (HKC.out.stepB hg _).drew, Lib.hid (R6C.out.upd pl _ hth.out).drew⟩, by simp [intOf]; omega⟩
            · obtain rfl : k = 25 := by omega
              have HB : ∀ i, chi (rho A turnsBy places 25) i = xr (rho A turnsBy places 25 i) (an (nt (rho A turnsBy places 25 (i / 5 * 5 + (i + 1) % 5))) (rho A turnsBy places 25 (i / 5 * 5 + (i + 2) % 5))) := fun _ => rfl
              generalize rho A turnsBy places 25 = B at *
              generalize chi B = X at *
              have HK2 := Lib.hid (show KR w (upto 0 X A) turnsBy places (upto 5 (thC A) (fun _ => 0)) (upto 5 (thD A) (fun _ => 0)) wr by rw [upto_zero]; exact HK.out)
              clear HK
              go_upto_region 19 with (fail)
              go_loopw [85] (fun c wr => ∃ k : Nat, k ≤ 25 ∧ c = .int .i64 k ∧ Hid (KR w (upto k X A) turnsBy places (upto 5 (thC A) (fun _ => 0)) (upto 5 (thD A) (fun _ => 0)) wr) ∧ Hid (RowAt wr g (rV 25 .u64 B) 118)) (fun c _ => 25 - (intOf c).toNat)
              case atStart => exact ⟨0, by omega, rfl, HK2, R6⟩
              case round =>
                clear HK2 R6
                obtain ⟨k, hk, rfl, hh, h6⟩ := hrel
                have HK := Lib.hid hh.out
                have R6 := Lib.hid h6.out
                clear hh h6
                by_cases hlt : k < 25
                · have hxk := HB k
                  clear HB
                  have a0 := R6.out.drew.num (i := k) hlt
                  have a1 := R6.out.drew.num (i := k / 5 * 5 + (k + 1) % 5) (by omega)
                  have a2 := R6.out.drew.num (i := k / 5 * 5 + (k + 2) % 5) (by omega)
                  have hc := HK.out.1.drew.num (i := k) hlt
                  have hf := HK.out.1.drew.frozen k
                  have e0 : (k : Int) < 25 := by omega
                  have q1 : IntKind.i64.wrap ((k : Int) + 1) = (k : Int) + 1 := wrapN (n := k + 1) (by omega)
                  have q2 : IntKind.i64.wrap ((k : Int) + 2) = (k : Int) + 2 := wrapN (n := k + 2) (by omega)
                  have m1 : ((k : Int) + 1).tmod 5 = (((k + 1) % 5 : Nat) : Int) := by rw [Int.tmod_eq_emod_of_nonneg (by omega)]; omega
                  have m2 : ((k : Int) + 2).tmod 5 = (((k + 2) % 5 : Nat) : Int) := by rw [Int.tmod_eq_emod_of_nonneg (by omega)]; omega
                  have w1 : IntKind.i64.wrap ((k : Int) / 5 * 5 + (((k + 1) % 5 : Nat) : Int)) = ((k / 5 * 5 + (k + 1) % 5 : Nat) : Int) := by
                    rw [← wrapN (n := k / 5 * 5 + (k + 1) % 5) (by omega)]; congr 1
                  have w2 : IntKind.i64.wrap ((k : Int) / 5 * 5 + (((k + 2) % 5 : Nat) : Int)) = ((k / 5 * 5 + (k + 2) % 5 : Nat) : Int) := by
                    rw [← wrapN (n := k / 5 * 5 + (k + 2) % 5) (by omega)]; congr 1
                  have e1 : ((k / 5 * 5 + (k + 1) % 5 : Nat) : Int) < 25 := by omega
                  have e2 : ((k / 5 * 5 + (k + 2) % 5 : Nat) : Int) < 25 := by omega
                  have HKC := Lib.hid HK.out
                  have R6C := Lib.hid R6.out
                  clear HK R6
                  go_upto_region 22 with (fail)
                  generalize k / 5 * 5 + (k + 1) % 5 = r1 at *
                  generalize k / 5 * 5 + (k + 2) % 5 = r2 at *
                  generalize (k + 1) % 5 = i1 at *
                  generalize (k + 2) % 5 = i2 at *
                  generalize (k : Int) / 5 * 5 = rr at *
                  have HX := Lib.hid hxk
                  clear hxk
                  generalize B k = b0 at *
                  generalize B r1 = b1 at *
                  generalize B r2 = b2 at *
                  (refine region_tail 22 mix ?hB ?_; case hB => kernel_rfl)
                  (simp only [List.take_succ_cons, List.take_zero, List.drop_succ_cons, List.drop_zero])
                  (iterate 22 (with_reducible refine wpStill_step ?_; intro K hK; go_simp; with_reducible refine hK _ ?_; clear hK K))
                  with_reducible refine wpStill_nil ?_
                  go_wp2
                  exact ⟨⟨k + 1, by omega, by simp, Lib.hid (HKC.out.stepA (by rw [HX.out]; rfl)).drew, Lib.hid (R6C.out.other _ _ (by dsimp only; omega)).drew⟩, by simp [intOf]; omega⟩
                · obtain rfl : k = 25 := by omega
                  clear HB R6
                  have HK2 := Lib.hid (show KR w X turnsBy places (upto 5 (thC A) (fun _ => 0)) (upto 5 (thD A) (fun _ => 0)) wr from ⟨HK.out.1.full, HK.out.2⟩)
                  clear HK
                  have a0 := HK2.out.1.num (i := 0) (by omega)
                  have f0 := HK2.out.1.frozen 0
                  generalize hx0 : X 0 = x0 at a0
                  have HX0 := Lib.hid hx0
                  clear hx0
                  go_upto_region 25 with (fail)
                  have HA := Lib.hid (HK2.out.1.upd 0 (bits .xor .u64 x0 last) (B := RR) (fun j _ => by rw [HR.out, HX0.out]; rfl))
                  have R3 := Lib.hid (HK2.out.2.2.2.1.other ⟨w.heap.size, 0, none⟩ (.int .u64 (bits .xor .u64 x0 last)) (by dsimp only; omega))
                  have HBB := Lib.hid (HK2.out.2.2.2.2.2.2.1.setCell (p := ⟨w.heap.size, 0, none⟩) (Nat.le_refl _) (.int .u64 (bits .xor .u64 x0 last)))
                  clear HK2 a0 f0
                  generalize wr.setCell ⟨w.heap.size, 0, none⟩ (.int .u64 (bits .xor .u64 x0 last)) = W5 at *
                  go_step
                  refine wpList_load_row rfl 118 _ rfl w.heap.size rfl 118 (rV 25 .u64 RR) (0, 0) _ HA.out Try.underlying118 rfl (by kernel_rfl) ?_
                  refine wpList_store_row rfl 118 _ _ rfl _ (rV 25 .u64 RR) rfl rfl 118 _ R3.out (by kernel_rfl) (by kernel_rfl) rV_one ?_
                  have R2 := Lib.hid (R3.out.row (rV 25 .u64 RR))
                  have HB2 := Lib.hid (below_setRow HBB.out (g := w.heap.size + 1 + 1 + 1) (by omega) (rV 25 .u64 RR))
                  generalize W5.setRow (w.heap.size + 1 + 1 + 1) (rV 25 .u64 RR) = W at *
                  go_wp2
                  refine bodyPost_ret (results_cell_row rfl _ _ _ 118 (rV 25 .u64 RR) (0, 0) _ rfl R2.out Try.underlying118 rfl (by kernel_rfl)) rfl ?_
                  exact ⟨rfl, HB2.out⟩
end Go.Proofs.Ythipnbiilobjeaa
