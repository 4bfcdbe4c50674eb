/- Words turned round; by how much, and where to. A round of the sums' mixing. Sums, in plain words: blocks, what a text's sum is. States mixed. A text's sum. -/
import Derived.Test.YtefmlbckbhlgdaaTm0
import Derived.Test.YtefmlbckbhlgdaaTm13
namespace Go.Proofs.Ytefmlbckbhlgdaa
open Go.RowKit
set_option maxRecDepth 100000
theorem and63 {s : Nat} (hs : s < 64) : bits .and .u64 (s : Int) 63 = (s : Int) := by
  have := u64_and_nat s 63 (by omega) (by omega)
  rw [nat_mask6, Nat.mod_eq_of_lt hs] at this
  exact this
set_option maxHeartbeats 2000000 in
theorem rl_any (x : Int) (s : Nat) (hs : s < 64) (si : Int) (hsi : si = s) (w : World) : Calls Try.prog 164 #[.int .u64 x, .int .i64 si] w fun e w' => e = .returned (.int .u64 (rl x s)) ∧ w' = w := by
  subst hsi
  have h1 := and63 hs
  go_enter Try.func164, Try.ntmps164
  go_wp2
  go_ret
  exact ⟨rfl, rfl⟩

abbrev z25 (k : IntKind) : Array Value := #[.int k 0, .int k 0, .int k 0, .int k 0, .int k 0, .int k 0, .int k 0, .int k 0, .int k 0, .int k 0, .int k 0, .int k 0, .int k 0, .int k 0, .int k 0, .int k 0, .int k 0, .int k 0, .int k 0, .int k 0, .int k 0, .int k 0, .int k 0, .int k 0, .int k 0]
theorem RowAt.z25 {w : World} {b : Nat} {k : IntKind} {T : TypeId} (h : RowAt w b (Go.Proofs.Ytefmlbckbhlgdaa.z25 k) T) {A : NF} (hA : ∀ i, A i = 0) : RowAt w b (rV 25 k A) T := by
  rw [rV_ext (B := fun _ => 0) (fun i _ => hA i)]
  exact h
theorem rows4 (w : World) (c : Array Value) (T : TypeId) : RowAt ((((w.alloc (.cells c T)).alloc (.cells c T)).alloc (.cells c T)).alloc (.cells c T)) w.heap.size c T ∧
    RowAt ((((w.alloc (.cells c T)).alloc (.cells c T)).alloc (.cells c T)).alloc (.cells c T)) (w.heap.size + 1) c T ∧
    RowAt ((((w.alloc (.cells c T)).alloc (.cells c T)).alloc (.cells c T)).alloc (.cells c T)) (w.heap.size + 1 + 1) c T ∧
    RowAt ((((w.alloc (.cells c T)).alloc (.cells c T)).alloc (.cells c T)).alloc (.cells c T)) (w.heap.size + 1 + 1 + 1) c T ∧
    Below w.heap.size w ((((w.alloc (.cells c T)).alloc (.cells c T)).alloc (.cells c T)).alloc (.cells c T)) :=
  ⟨(((RowAt.new w c T).alloc _).alloc _).alloc _, (((RowAt.new' (w.alloc (.cells c T)) c T (by simp)).alloc _).alloc _), (RowAt.new' ((w.alloc (.cells c T)).alloc (.cells c T)) c T (by simp)).alloc _,
    RowAt.new' (((w.alloc (.cells c T)).alloc (.cells c T)).alloc (.cells c T)) c T (by simp), ((((Below.refl w.heap.size w).alloc (Nat.le_refl _) _).alloc (by simp) _).alloc (by simp; omega) _).alloc (by simp; omega) _⟩

theorem turn_num : ∀ t : Nat, t < 24 → (wrap64 ((wrap64 (((t : Int) + 1) * (t + 2))).tdiv 2)).tmod 64 = (((t + 1) * (t + 2) / 2 % 64 : Nat) : Int) := by decide +kernel

set_option maxHeartbeats 4000000 in
theorem turns_any (w : World) : Calls Try.prog 137 #[] w fun e w' => e = .returned (.tuple #[.agg (rV 25 .i64 (asI (byT 24))), .agg (rV 25 .i64 (asI toT))]) ∧ Below w.heap.size w w' := by
  have H4 := rows4 w (z25 .i64) 194
  obtain ⟨r0, r1, r2, r3, hb⟩ := H4
  have R0 := Lib.hid r0
  have R1 := Lib.hid r1
  have R2 := Lib.hid (r2.z25 (A := asI (byT 0)) (fun _ => rfl))
  have R3 := Lib.hid (r3.z25 (A := fun i => if i < 0 then asI toT i else 0) (fun i => rfl))
  have HB := Lib.hid hb
  clear r0 r1 r2 r3 hb
  go_enter Try.func137, Try.ntmps137
  go_wp2
  go_loopw [4, 5, 10] (fun x y c wr => ∃ t : Nat, t ≤ 24 ∧ c = .int .i64 t ∧ x = .int .i64 ((tXY t).1 : Nat) ∧ y = .int .i64 ((tXY t).2 : Nat) ∧ Hid (RowAt wr w.heap.size (z25 .i64) 194 ∧ RowAt wr (w.heap.size + 1) (z25 .i64) 194 ∧ RowAt wr (w.heap.size + 1 + 1) (rV 25 .i64 (asI (byT t))) 194 ∧ RowAt wr (w.heap.size + 1 + 1 + 1) (rV 25 .i64 (upto 0 (asI toT) (fun _ => 0))) 194 ∧ Below w.heap.size w wr)) (fun _ _ c _ => 24 - (intOf c).toNat)
  case atStart => exact ⟨0, by omega, rfl, rfl, rfl, Lib.hid ⟨R0.out, R1.out, R2.out, R3.out, HB.out⟩⟩
  case round =>
    clear R0 R1 R2 R3 HB
    obtain ⟨t, ht, rfl, rfl, rfl, hh⟩ := hrel
    by_cases hlt : t < 24
    · obtain ⟨r0, r1, r2, r3, hb⟩ := hh.out
      have hxy := tXY_lt t
      have es1 : (tXY (t + 1)).1 = (tXY t).2 := rfl
      have es2 : (tXY (t + 1)).2 = (2 * (tXY t).1 + 3 * (tXY t).2) % 5 := rfl
      have eby : ∀ j, j < 25 → upd (asI (byT t)) ((tXY t).1 + 5 * (tXY t).2) ((((t : Int) + 1) * (t + 2)) / 2 % 64) j = asI (byT (t + 1)) j := fun j _ => by
        simp only [asI, upd, byT, updN]; split
        · push_cast; rfl
        · rfl
      generalize (tXY t).1 = x at *
      generalize (tXY t).2 = y at *
      have hf := r2.frozen (x + 5 * y)
      have hc := r2.num (i := x + 5 * y) (by omega)
      have R0 := Lib.hid r0
      have R1 := Lib.hid r1
      have R2 := Lib.hid r2
      have R3 := Lib.hid r3
      have HB := Lib.hid hb
      clear r0 r1 r2 r3 hb hh
      have hv : (wrap64 ((wrap64 (((t : Int) + 1) * (t + 2))).tdiv 2)).tmod 64 = (((t + 1) * (t + 2) / 2 % 64 : Nat) : Int) := turn_num t hlt
      have EBY := Lib.hid eby
      clear eby
      go_wp2
      refine ⟨⟨t + 1, by omega, by simp, by rw [es1], by rw [es2]; simp, Lib.hid ⟨R0.out.other _ _ (by simp; omega), R1.out.other _ _ (by simp), R2.out.upd _ _ (EBY.out), R3.out.other _ _ (by simp), HB.out.setCell (by simp; omega) _⟩⟩, by simp [intOf]; omega⟩
    · obtain rfl : t = 24 := by omega
      obtain ⟨r0, r1, r2, r3, hb⟩ := hh.out
      clear hh
      generalize hgb : asI (byT 24) = G at *
      have HGB := Lib.hid hgb
      have R0 := Lib.hid r0
      have R1 := Lib.hid r1
      have R2 := Lib.hid r2
      have R3 := Lib.hid r3
      have HB := Lib.hid hb
      clear r0 r1 r2 r3 hb hgb
      go_wp2
      go_loopw [33] (fun c wr => ∃ t : Nat, t ≤ 25 ∧ c = .int .i64 t ∧ Hid (RowAt wr w.heap.size (z25 .i64) 194 ∧ RowAt wr (w.heap.size + 1) (z25 .i64) 194 ∧ RowAt wr (w.heap.size + 1 + 1) (rV 25 .i64 G) 194 ∧ RowAt wr (w.heap.size + 1 + 1 + 1) (rV 25 .i64 (upto t (asI toT) (fun _ => 0))) 194 ∧ Below w.heap.size w wr)) (fun c _ => 25 - (intOf c).toNat)
      case atStart => exact ⟨0, by omega, rfl, Lib.hid ⟨R0.out, R1.out, R2.out, R3.out, HB.out⟩⟩
      case round =>
        clear R0 R1 R2 R3 HB
        obtain ⟨t, ht, rfl, hh⟩ := hrel
        obtain ⟨r0, r1, r2, r3, hb⟩ := hh.out
        clear hh
        by_cases hlt : t < 25
        · have hf := r3.frozen t
          have hc := r3.num (i := t) hlt
          have R0 := Lib.hid r0
          have R1 := Lib.hid r1
          have R2 := Lib.hid r2
          have R3 := Lib.hid r3
          have HB := Lib.hid hb
          clear r0 r1 r2 r3 hb
          have h1 : (t : Int).tmod 5 = ((t % 5 : Nat) : Int) := by rw [Int.tmod_eq_emod_of_nonneg (by omega)]; simp
          have h2 : (t : Int).tdiv 5 = ((t / 5 : Nat) : Int) := by rw [Int.tdiv_eq_ediv_of_nonneg (by omega)]; simp
          have ETO : Hid ((t : Int) / 5 + 5 * ((2 * ((t : Int) % 5) + 3 * ((t : Int) / 5)) % 5) = asI toT t) := Lib.hid (by unfold asI toT; push_cast; rfl)
          go_wp2
          refine ⟨⟨t + 1, by omega, by simp, Lib.hid ⟨R0.out.other _ _ (by simp; omega), R1.out.other _ _ (by show w.heap.size + 1 ≠ w.heap.size + 1 + 1 + 1; omega), R2.out.other _ _ (by simp), R3.out.step ETO.out, HB.out.setCell (by simp; omega) _⟩⟩, by simp [intOf]; omega⟩
        · obtain rfl : t = 25 := by omega
          have R2 := Lib.hid r2
          have R3 := Lib.hid r3.full
          have R0 := Lib.hid r0
          have R1 := Lib.hid r1
          have HB := Lib.hid hb
          clear r0 r1 r2 r3 hb
          go_wp2
          obtain ⟨Ws, G0, G1, G2⟩ : ∃ Ws : Nat → World, Ws 0 = wr.drew ∧ Ws 1 = wr.drew.setRow w.heap.size (rV 25 .i64 G) ∧ Ws 2 = (wr.drew.setRow w.heap.size (rV 25 .i64 G)).setRow (w.heap.size + 1) (rV 25 .i64 (asI toT)) :=
            ⟨fun n => if n = 0 then wr.drew else if n = 1 then wr.drew.setRow w.heap.size (rV 25 .i64 G) else (wr.drew.setRow w.heap.size (rV 25 .i64 G)).setRow (w.heap.size + 1) (rV 25 .i64 (asI toT)), rfl, rfl, rfl⟩
          refine region_stages [2, 3] (fun k => if k == 0 then 0 else 1) Ws mix ?hB G0 ?_
          case hB => kernel_rfl
          refine stg_load_row 0 rfl rfl 194 _ rfl _ rfl 194 (rV 25 .i64 G) (0, 0) _ (fun s hs => ?h1) (Try.underlying194) rfl (by kernel_rfl) ?_
          case h1 => obtain rfl : s = 0 := by omega
                     rw [G0]; exact R2.out.drew
          refine stg_load_row 1 rfl rfl 194 _ rfl _ rfl 194 (rV 25 .i64 (asI toT)) (0, 0) _ (fun s hs => ?h1) (Try.underlying194) rfl (by kernel_rfl) ?_
          case h1 => have hs' : s = 0 ∨ s = 1 := by omega
                     rcases hs' with rfl | rfl
                     · rw [G0]; exact R3.out.drew
                     · rw [G1]; exact R3.out.drew.otherRow (by omega) _
          refine stg_eff 0 undef rfl (by decide) rfl ?he ?_
          case he => exact eff_store_row 194 _ _ rfl _ _ rfl rfl _ _ (by rw [G0]; exact R0.out.drew) (by kernel_rfl) (by kernel_rfl) rV_one (by rw [G1, G0])
          refine stg_eff 1 undef rfl (by decide) rfl ?he ?_
          case he => exact eff_store_row 194 _ _ rfl _ _ rfl rfl _ _ (by rw [G1]; exact R1.out.drew.otherRow (by omega) _) (by kernel_rfl) (by kernel_rfl) rV_one (by rw [G2, G1])
          with_reducible refine stg_nil ?_
          have r0 := (R0.out.drew.row (rV 25 .i64 G)).otherRow (g := w.heap.size + 1) (by omega) (rV 25 .i64 (asI toT))
          have r1 := (R1.out.drew.otherRow (g := w.heap.size) (by omega) (rV 25 .i64 G)).row (rV 25 .i64 (asI toT))
          rw [← G2] at r0 r1
          have HB2 := Lib.hid (below_setRow (below_setRow HB.out.drew (g := w.heap.size) (Nat.le_refl _) (rV 25 .i64 G)) (g := w.heap.size + 1) (by omega) (rV 25 .i64 (asI toT)))
          rw [← G2] at HB2
          simp only [List.length_cons, List.length_nil, Nat.zero_add, Nat.reduceAdd]
          go_wp2
          refine bodyPost_ret (results_row2 rfl _ _ _ _ _ _ _ _ _ _ rfl rfl r0 r1 Try.underlying194 rfl (by kernel_rfl) Try.underlying194 rfl (by kernel_rfl)) rfl ?_
          exact ⟨by rw [HGB.out], HB2.out⟩
end Go.Proofs.Ytefmlbckbhlgdaa
namespace Go.Proofs.Ytefmlbckbhlgdaa
open Go.RowKit
set_option maxRecDepth 100000
abbrev z24 : Array Value := #[.int .u64 0, .int .u64 0, .int .u64 0, .int .u64 0, .int .u64 0, .int .u64 0, .int .u64 0, .int .u64 0, .int .u64 0, .int .u64 0, .int .u64 0, .int .u64 0, .int .u64 0, .int .u64 0, .int .u64 0, .int .u64 0, .int .u64 0, .int .u64 0, .int .u64 0, .int .u64 0, .int .u64 0, .int .u64 0, .int .u64 0, .int .u64 0]
set_option maxHeartbeats 4000000 in
theorem consts_any (w : World) : Calls Try.prog 138 #[] w fun e w' => e = .returned (.agg (rV 24 .u64 rcC)) ∧ Below w.heap.size w w' := by
  have R := Lib.hid (RowAt.new w z24 197)
  have HB := Lib.hid ((Below.refl w.heap.size w).alloc (Nat.le_refl _) (.cells z24 197))
  go_enter Try.func138, Try.ntmps138
  have HC : Hid (rV 24 .u64 rcC = rV 24 .u64 rcC) := Lib.hid rfl
  generalize hcs : rV 24 .u64 rcC = cs at HC
  have HS : Hid (cs.size = 24 ∧ cs.all (·.oneCell') = true) := Lib.hid (by rw [← hcs]; exact ⟨rV_size, rV_one⟩)
  have HCS := Lib.hid hcs
  clear hcs
  go_upto_region 1 with (fail)
  go_step
  refine wpList_build_to rfl _ _ rfl cs ?hf ?_
  case hf => rw [← HCS.out]; kernel_rfl
  refine wpList_store_row rfl 197 _ _ rfl w.heap.size cs rfl rfl 197 z24 ?hg ?hi ?ho ?h1 ?_
  case hi => rw [HS.out.1]; kernel_rfl
  case ho => rw [HS.out.1]; rfl
  case h1 => exact HS.out.2
  case hg => exact R.out
  have R2 := Lib.hid (R.out.row cs)
  have HB2 := Lib.hid (below_setRow HB.out (g := w.heap.size) (Nat.le_refl _) cs)
  generalize (w.alloc (.cells z24 197)).setRow w.heap.size cs = W at *
  go_wp2
  refine bodyPost_ret (results_cell_row rfl _ _ _ 197 cs (0, 0) _ rfl R2.out Try.underlying197 rfl (by rw [HS.out.1]; kernel_rfl)) rfl ?_
  exact ⟨rfl, HB2.out⟩

theorem rows6 (w : World) (a b c d e f : Array Value) (Ta Tb Tc Td Te Tf : TypeId) : ∀ W, W = (((((w.alloc (.cells a Ta)).alloc (.cells b Tb)).alloc (.cells c Tc)).alloc (.cells d Td)).alloc (.cells e Te)).alloc (.cells f Tf) →
    RowAt W w.heap.size a Ta ∧ RowAt W (w.heap.size + 1) b Tb ∧ RowAt W (w.heap.size + 1 + 1) c Tc ∧ RowAt W (w.heap.size + 1 + 1 + 1) d Td ∧ RowAt W (w.heap.size + 1 + 1 + 1 + 1) e Te ∧ RowAt W (w.heap.size + 1 + 1 + 1 + 1 + 1) f Tf ∧ Below w.heap.size w W ∧ W.heap.size = w.heap.size + 1 + 1 + 1 + 1 + 1 + 1 := by
  rintro W rfl
  exact ⟨(((((RowAt.new w a Ta).alloc _).alloc _).alloc _).alloc _).alloc _, ((((RowAt.new' (w.alloc (.cells a Ta)) b Tb (by simp)).alloc _).alloc _).alloc _).alloc _,
    (((RowAt.new' ((w.alloc (.cells a Ta)).alloc (.cells b Tb)) c Tc (by simp)).alloc _).alloc _).alloc _,
    ((RowAt.new' (((w.alloc (.cells a Ta)).alloc (.cells b Tb)).alloc (.cells c Tc)) d Td (by simp)).alloc _).alloc _,
    (RowAt.new' ((((w.alloc (.cells a Ta)).alloc (.cells b Tb)).alloc (.cells c Tc)).alloc (.cells d Td)) e Te (by simp)).alloc _,
    RowAt.new' (((((w.alloc (.cells a Ta)).alloc (.cells b Tb)).alloc (.cells c Tc)).alloc (.cells d Td)).alloc (.cells e Te)) f Tf (by simp),
    ((((((Below.refl w.heap.size w).alloc (Nat.le_refl _) _).alloc (by simp) _).alloc (by simp; omega) _).alloc (by simp; omega) _).alloc (by simp; omega) _).alloc (by simp; omega) _, by simp⟩

abbrev z5 (k : IntKind) : Array Value := #[.int k 0, .int k 0, .int k 0, .int k 0, .int k 0]

/-- The blocks of a round: the state, by how much, where to, the answer, the two rows of five. -/
def KR (w : World) (A : NF) (turnsBy places : Nat → Nat) (C D : NF) (wr : World) : Prop :=
  RowAt wr w.heap.size (rV 25 .u64 A) 140 ∧ RowAt wr (w.heap.size + 1) (rV 25 .i64 (asI turnsBy)) 194 ∧ RowAt wr (w.heap.size + 1 + 1) (rV 25 .i64 (asI places)) 194 ∧ RowAt wr (w.heap.size + 1 + 1 + 1) (z25 .u64) 140 ∧
    RowAt wr (w.heap.size + 1 + 1 + 1 + 1) (rV 5 .u64 C) 224 ∧ RowAt wr (w.heap.size + 1 + 1 + 1 + 1 + 1) (rV 5 .u64 D) 224 ∧ Below w.heap.size w wr ∧ w.heap.size + 1 + 1 + 1 + 1 + 1 + 1 ≤ wr.heap.size
theorem KR.drew {w wr : World} {A C D : NF} {b p : Nat → Nat} (h : KR w A b p C D wr) : KR w A b p C D wr.drew := ⟨h.1, h.2.1, h.2.2.1, h.2.2.2.1, h.2.2.2.2.1, h.2.2.2.2.2.1, h.2.2.2.2.2.2.1.drew, h.2.2.2.2.2.2.2⟩
theorem KR.stepC {w wr : World} {A D f Z : NF} {b p : Nat → Nat} {k : Nat} (h : KR w A b p (upto k f Z) D wr) {v : Int} (hv : v = f k) : KR w A b p (upto (k + 1) f Z) D (wr.setCell ⟨w.heap.size + 1 + 1 + 1 + 1, k, none⟩ (.int .u64 v)) :=
  ⟨h.1.other _ _ (by dsimp only; omega), h.2.1.other _ _ (by dsimp only; omega), h.2.2.1.other _ _ (by dsimp only; omega), h.2.2.2.1.other _ _ (by dsimp only; omega),
    h.2.2.2.2.1.step hv, h.2.2.2.2.2.1.other _ _ (by dsimp only; omega), h.2.2.2.2.2.2.1.setCell (by dsimp only; omega) _, by rw [World.size_setCell]; exact h.2.2.2.2.2.2.2⟩
theorem KR.stepD {w wr : World} {A C f Z : NF} {b p : Nat → Nat} {k : Nat} (h : KR w A b p C (upto k f Z) wr) {v : Int} (hv : v = f k) : KR w A b p C (upto (k + 1) f Z) (wr.setCell ⟨w.heap.size + 1 + 1 + 1 + 1 + 1, k, none⟩ (.int .u64 v)) :=
  ⟨h.1.other _ _ (by dsimp only; omega), h.2.1.other _ _ (by dsimp only; omega), h.2.2.1.other _ _ (by dsimp only; omega), h.2.2.2.1.other _ _ (by dsimp only; omega),
    h.2.2.2.2.1.other _ _ (by dsimp only; omega), h.2.2.2.2.2.1.step hv, h.2.2.2.2.2.2.1.setCell (by dsimp only; omega) _, by rw [World.size_setCell]; exact h.2.2.2.2.2.2.2⟩
theorem KR.stepA {w wr : World} {C D f Z : NF} {b p : Nat → Nat} {k : Nat} (h : KR w (upto k f Z) b p C D wr) {v : Int} (hv : v = f k) : KR w (upto (k + 1) f Z) b p C D (wr.setCell ⟨w.heap.size, k, none⟩ (.int .u64 v)) :=
  ⟨h.1.step hv, h.2.1.other _ _ (by dsimp only; omega), h.2.2.1.other _ _ (by dsimp only; omega), h.2.2.2.1.other _ _ (by dsimp only; omega),
    h.2.2.2.2.1.other _ _ (by dsimp only; omega), h.2.2.2.2.2.1.other _ _ (by dsimp only; omega), h.2.2.2.2.2.2.1.setCell (by dsimp only; omega) _, by rw [World.size_setCell]; exact h.2.2.2.2.2.2.2⟩
theorem KR.alloc {w wr : World} {A C D : NF} {b p : Nat → Nat} (h : KR w A b p C D wr) (o : Obj) : KR w A b p C D (wr.alloc o) :=
  ⟨h.1.alloc o, h.2.1.alloc o, h.2.2.1.alloc o, h.2.2.2.1.alloc o, h.2.2.2.2.1.alloc o, h.2.2.2.2.2.1.alloc o, h.2.2.2.2.2.2.1.alloc (by have := h.2.2.2.2.2.2.2; omega) o, by have := h.2.2.2.2.2.2.2; rw [World.size_alloc]; omega⟩
theorem KR.stepB {w wr : World} {A C D : NF} {b p : Nat → Nat} (h : KR w A b p C D wr) {g i : Nat} (hg : w.heap.size + 1 + 1 + 1 + 1 + 1 + 1 ≤ g) (v : Value) : KR w A b p C D (wr.setCell ⟨g, i, none⟩ v) :=
  ⟨h.1.other _ _ (by dsimp only; omega), h.2.1.other _ _ (by dsimp only; omega), h.2.2.1.other _ _ (by dsimp only; omega), h.2.2.2.1.other _ _ (by dsimp only; omega),
    h.2.2.2.2.1.other _ _ (by dsimp only; omega), h.2.2.2.2.2.1.other _ _ (by dsimp only; omega), h.2.2.2.2.2.2.1.setCell (by dsimp only; omega) _, by rw [World.size_setCell]; exact h.2.2.2.2.2.2.2⟩

theorem index_row {P : Program} {t e : TypeId} {n : Nat} {A : NF} {i : Nat} (hu : P.underlying t = some (.array n e)) (hi : (P.info? e).map (·.size) = some 1) (hag : ∀ w, (isAgg e).run P w = .ok false w) (h : i < n) (w : World) :
    (Instr.index t (.agg (rV n .u64 A)) (.int .i64 i)).run P w = .ok (.int .u64 (A i)) w := by
  cases hq : P.info? e with
  | none => simp [hq] at hi
  | some ie =>
    have hs : ie.size = 1 := by simpa [hq] using hi
    simp [Instr.index, asIntOf, run_underlying hu, sizeOf, typeInfo, hq, hs, h, part, hag, rV_get h]

set_option maxHeartbeats 8000000 in
theorem round_any (A : NF) (turnsBy places : Nat → Nat) (hby : ∀ i, turnsBy i < 64) (hto : ∀ i, i < 25 → places i < 25) (last : Int) (w : World) :
    Calls Try.prog 139 #[.agg (rV 25 .u64 A), .agg (rV 25 .i64 (asI turnsBy)), .agg (rV 25 .i64 (asI places)), .int .u64 last] w fun e w' => e = .returned (.agg (rV 25 .u64 (rnd A turnsBy places last))) ∧ Below w.heap.size w w' := by
  have H6 := rows6 w (rV 25 .u64 A) (rV 25 .i64 (asI turnsBy)) (rV 25 .i64 (asI places)) (z25 .u64) (z5 .u64) (z5 .u64) 140 194 194 140 224 224
  have HR := Lib.hid (show rnd A turnsBy places last = upd (chi (rho A turnsBy places 25)) 0 (xr (chi (rho A turnsBy places 25) 0) last) from rfl)
  generalize rnd A turnsBy places last = RR at *
  have HBY := Lib.hid hby
  have HTO := Lib.hid hto
  clear hby hto
  generalize hW : (((((w.alloc (.cells (rV 25 .u64 A) 140)).alloc (.cells (rV 25 .i64 (asI turnsBy)) 194)).alloc (.cells (rV 25 .i64 (asI places)) 194)).alloc (.cells (z25 .u64) 140)).alloc (.cells (z5 .u64) 224)).alloc (.cells (z5 .u64) 224) = W at H6
  obtain ⟨r0, r1, r2, r3, r4, r5, hb, hs⟩ := H6 W rfl
  have HK := Lib.hid (show KR w A turnsBy places (upto 0 (thC A) (fun _ => 0)) (upto 0 (thD A) (fun _ => 0)) W from ⟨r0, r1, r2, r3, r4, r5, hb, by omega⟩)
  have HW := Lib.hid hW
  clear r0 r1 r2 r3 r4 r5 hb hs H6 hW
  go_enter Try.func139, Try.ntmps139
  go_wp2
  generalize hwo : (((((w.alloc (.cells (rV 25 .u64 A) 140)).alloc (.cells (rV 25 .i64 (asI turnsBy)) 194)).alloc (.cells (rV 25 .i64 (asI places)) 194)).alloc (.cells (z25 .u64) 140)).alloc (.cells (z5 .u64) 224)).alloc (.cells (z5 .u64) 224) = wo
  obtain rfl : wo = W := hwo.symm.trans HW.out
  clear hwo HW
  go_loopw [18] (fun c wr => ∃ k : Nat, k ≤ 5 ∧ c = .int .i64 k ∧ Hid (KR w A turnsBy places (upto k (thC A) (fun _ => 0)) (upto 0 (thD A) (fun _ => 0)) wr)) (fun c _ => 5 - (intOf c).toNat)
  case atStart => exact ⟨0, by omega, rfl, HK⟩
  case round =>
    clear HK
    obtain ⟨k, hk, rfl, hh⟩ := hrel
    have HK := Lib.hid hh.out
    clear hh
    by_cases hlt : k < 5
    · have a0 := HK.out.1.drew.num (i := k) (by omega)
      have a1 := HK.out.1.drew.num (i := k + 5) (by omega)
      have a2 := HK.out.1.drew.num (i := k + 10) (by omega)
      have a3 := HK.out.1.drew.num (i := k + 15) (by omega)
      have a4 := HK.out.1.drew.num (i := k + 20) (by omega)
      have hc := HK.out.2.2.2.2.1.drew.num (i := k) hlt
      have hf := HK.out.2.2.2.2.1.drew.frozen k
      have e0 : (k : Int) < 25 := by omega
      have q1 : IntKind.i64.wrap ((k : Int) + 5) = (k : Int) + 5 := wrapN (n := k + 5) (by omega)
      have e1 : (k : Int) + 5 < 25 := by omega
      have g1 : 0 ≤ (k : Int) + 5 := by omega
      have n1 : ((k : Int) + 5).toNat = k + 5 := by omega
      have q2 : IntKind.i64.wrap ((k : Int) + 10) = (k : Int) + 10 := wrapN (n := k + 10) (by omega)
      have e2 : (k : Int) + 10 < 25 := by omega
      have g2 : 0 ≤ (k : Int) + 10 := by omega
      have n2 : ((k : Int) + 10).toNat = k + 10 := by omega
      have q3 : IntKind.i64.wrap ((k : Int) + 15) = (k : Int) + 15 := wrapN (n := k + 15) (by omega)
      have e3 : (k : Int) + 15 < 25 := by omega
      have g3 : 0 ≤ (k : Int) + 15 := by omega
      have n3 : ((k : Int) + 15).toNat = k + 15 := by omega
      have q4 : IntKind.i64.wrap ((k : Int) + 20) = (k : Int) + 20 := wrapN (n := k + 20) (by omega)
      have e4 : (k : Int) + 20 < 25 := by omega
      have g4 : 0 ≤ (k : Int) + 20 := by omega
      have n4 : ((k : Int) + 20).toNat = k + 20 := by omega
      have e5 : (k : Int) < 5 := by omega
      have hth : xr (xr (xr (xr (A k) (A (k + 5))) (A (k + 10))) (A (k + 15))) (A (k + 20)) = thC A k := rfl
      go_upto_region 5 with (fail)
      (refine region_tail 25 mix ?hB ?_; case hB => kernel_rfl); (simp only [List.take_succ_cons, List.take_zero, List.drop_succ_cons, List.drop_zero]; (iterate 25 (with_reducible refine wpStill_step ?_; intro K hK; go_simp; with_reducible refine hK _ ?_; clear hK K)); with_reducible refine wpStill_nil ?_)
      go_wp2
      exact ⟨⟨k + 1, by omega, by simp, Lib.hid (HK.out.stepC hth).drew⟩, by simp [intOf]; omega⟩
    · obtain rfl : k = 5 := by omega
      go_upto_region 8 with (fail)
      go_loopw [47] (fun c wr => ∃ k : Nat, k ≤ 5 ∧ c = .int .i64 k ∧ Hid (KR w A turnsBy places (upto 5 (thC A) (fun _ => 0)) (upto k (thD A) (fun _ => 0)) wr)) (fun c _ => 5 - (intOf c).toNat)
      case atStart => exact ⟨0, by omega, rfl, HK⟩
      case round =>
        clear HK
        obtain ⟨k, hk, rfl, hh⟩ := hrel
        have HK := Lib.hid hh.out
        clear hh
        by_cases hlt : k < 5
        · have a0 := HK.out.2.2.2.2.1.drew.num (i := (k + 4) % 5) (by omega)
          have a1 := HK.out.2.2.2.2.1.drew.num (i := (k + 1) % 5) (by omega)
          rw [upto_full (by omega)] at a0 a1
          have hc := HK.out.2.2.2.2.2.1.drew.num (i := k) hlt
          have hf := HK.out.2.2.2.2.2.1.drew.frozen k
          have e0 : (k : Int) < 5 := by omega
          have q1 : IntKind.i64.wrap ((k : Int) + 4) = (k : Int) + 4 := wrapN (n := k + 4) (by omega)
          have q2 : IntKind.i64.wrap ((k : Int) + 1) = (k : Int) + 1 := wrapN (n := k + 1) (by omega)
          have hth : xr (thC A ((k + 4) % 5)) (rl (thC A ((k + 1) % 5)) 1) = thD A k := rfl
          have m1 : ((k : Int) + 4).tmod 5 = (((k + 4) % 5 : Nat) : Int) := by rw [Int.tmod_eq_emod_of_nonneg (by omega)]; omega
          have m2 : ((k : Int) + 1).tmod 5 = (((k + 1) % 5 : Nat) : Int) := by rw [Int.tmod_eq_emod_of_nonneg (by omega)]; omega
          have e1 : (((k + 4) % 5 : Nat) : Int) < 5 := by omega
          have e2 : (((k + 1) % 5 : Nat) : Int) < 5 := by omega
          have HKC := Lib.hid HK.out
          clear HK
          generalize thC A ((k + 4) % 5) = c4 at *
          generalize thC A ((k + 1) % 5) = c1 at *
          generalize (k + 4) % 5 = i4 at *
          generalize (k + 1) % 5 = i1 at *
          go_upto_region 10 with (fail)
          (refine region_tail 14 mix ?hB ?_; case hB => kernel_rfl)
          (simp only [List.take_succ_cons, List.take_zero, List.drop_succ_cons, List.drop_zero])
          (iterate 11 (with_reducible refine wpStill_step ?_; intro K hK; go_simp; with_reducible refine hK _ ?_; clear hK K))
          (with_reducible refine wpStill_step ?_; intro K hK; go_simp; refine ⟨_, rl_any _ 1 (by omega) _ (by simp) _, hK _ ?_⟩; clear hK K)
          (iterate 2 (with_reducible refine wpStill_step ?_; intro K hK; go_simp; with_reducible refine hK _ ?_; clear hK K))
          with_reducible refine wpStill_nil ?_
          go_wp2
          exact ⟨⟨k + 1, by omega, by simp, Lib.hid (HKC.out.stepD hth).drew⟩, by simp [intOf]; omega⟩
        · obtain rfl : k = 5 := by omega
          go_upto_region 13 with (fail)
          have HK2 := Lib.hid (HK.out.alloc (.cells (z25 .u64) 140))
          have R6 := Lib.hid (show RowAt (wr.alloc (.cells (z25 .u64) 140)) wr.heap.size (rV 25 .u64 (rho A turnsBy places 0)) 140 from RowAt.new wr (z25 .u64) 140)
          have hg := HK.out.2.2.2.2.2.2.2
          clear HK
          generalize wr.alloc (.cells (z25 .u64) 140) = W2 at *
          generalize wr.heap.size = g at *
          go_step
          refine wpList_load_row rfl 140 _ rfl w.heap.size rfl 140 (rV 25 .u64 A) (0, 0) _ HK2.out.1 Try.underlying140 rfl (by kernel_rfl) ?_
          go_upto_region 14 with (fail)
          go_loopw [66] (fun c wr => ∃ k : Nat, k ≤ 25 ∧ c = .int .i64 k ∧ Hid (KR w A turnsBy places (upto 5 (thC A) (fun _ => 0)) (upto 5 (thD A) (fun _ => 0)) wr) ∧ Hid (RowAt wr g (rV 25 .u64 (rho A turnsBy places k)) 140)) (fun c _ => 25 - (intOf c).toNat)
          case atStart => exact ⟨0, by omega, rfl, HK2, R6⟩
          case round =>
            clear HK2 R6
            obtain ⟨k, hk, rfl, hh, h6⟩ := hrel
            have HK := Lib.hid hh.out
            have R6 := Lib.hid h6.out
            clear hh h6
            by_cases hlt : k < 25
            · have hix : ∀ w, (Instr.index 140 (.agg (rV 25 .u64 A)) (.int .i64 k)).run Try.prog w = .ok (.int .u64 (A k)) w := index_row Try.underlying140 (by kernel_rfl) (fun _ => by kernel_rfl) hlt
              go_upto_region 16 with (fail)
              have hp := HTO.out k hlt
              have a0 := HK.out.2.2.1.drew.num (i := k) hlt
              have a1 := HK.out.2.2.2.2.2.1.drew.num (i := k % 5) (by omega)
              rw [upto_full (by omega)] at a1
              have a2 := HK.out.2.1.drew.num (i := k) hlt
              have hc := R6.out.drew.num (i := places k) hp
              have hf := R6.out.drew.frozen (places k)
              have h64 := Lib.hid (HBY.out k)
              have hth : Hid (∀ j, j < 25 → upd (rho A turnsBy places k) (places k) (rl (xr (A k) (thD A (k % 5))) (turnsBy k)) j = rho A turnsBy places (k + 1) j) := Lib.hid (fun _ _ => rfl)
              have e0 : (k : Int) < 25 := by omega
              have m1 : (k : Int).tmod 5 = ((k % 5 : Nat) : Int) := by rw [Int.tmod_eq_emod_of_nonneg (by omega)]; omega
              have e1 : ((k % 5 : Nat) : Int) < 5 := by omega
              have e2 : (places k : Int) < 25 := by omega
              have HKC := Lib.hid HK.out
              have R6C := Lib.hid R6.out
              clear HK R6 hp hix
              unfold asI at a0 a2
              generalize thD A (k % 5) = d at *
              generalize k % 5 = i5 at *
              generalize turnsBy k = tb at *
              generalize places k = pl at *
              (refine region_tail 14 mix ?hB ?_; case hB => kernel_rfl)
              (simp only [List.take_succ_cons, List.take_zero, List.drop_succ_cons, List.drop_zero])
              (iterate 12 (with_reducible refine wpStill_step ?_; intro K hK; go_simp; with_reducible refine hK _ ?_; clear hK K))
              (with_reducible refine wpStill_step ?_; intro K hK; go_simp; refine ⟨_, rl_any _ tb h64.out _ (by simp) _, hK _ ?_⟩; clear hK K)
              (iterate 1 (with_reducible refine wpStill_step ?_; intro K hK; go_simp; with_reducible refine hK _ ?_; clear hK K))
              with_reducible refine wpStill_nil ?_
              go_wp2
              exact ⟨⟨k + 1, by omega, by simp, Lib.hid (HKC.out.stepB hg _).drew, Lib.hid (R6C.out.upd pl _ hth.out).drew⟩, by simp [intOf]; omega⟩
            · obtain rfl : k = 25 := by omega
              have HB : ∀ i, chi (rho A turnsBy places 25) i = xr (rho A turnsBy places 25 i) (an (nt (rho A turnsBy places 25 (i / 5 * 5 + (i + 1) % 5))) (rho A turnsBy places 25 (i / 5 * 5 + (i + 2) % 5))) := fun _ => rfl
              generalize rho A turnsBy places 25 = B at *
              generalize chi B = X at *
              have HK2 := Lib.hid (show KR w (upto 0 X A) turnsBy places (upto 5 (thC A) (fun _ => 0)) (upto 5 (thD A) (fun _ => 0)) wr by rw [upto_zero]; exact HK.out)
              clear HK
              go_upto_region 19 with (fail)
              go_loopw [85] (fun c wr => ∃ k : Nat, k ≤ 25 ∧ c = .int .i64 k ∧ Hid (KR w (upto k X A) turnsBy places (upto 5 (thC A) (fun _ => 0)) (upto 5 (thD A) (fun _ => 0)) wr) ∧ Hid (RowAt wr g (rV 25 .u64 B) 140)) (fun c _ => 25 - (intOf c).toNat)
              case atStart => exact ⟨0, by omega, rfl, HK2, R6⟩
              case round =>
                clear HK2 R6
                obtain ⟨k, hk, rfl, hh, h6⟩ := hrel
                have HK := Lib.hid hh.out
                have R6 := Lib.hid h6.out
                clear hh h6
                by_cases hlt : k < 25
                · have hxk := HB k
                  clear HB
                  have a0 := R6.out.drew.num (i := k) hlt
                  have a1 := R6.out.drew.num (i := k / 5 * 5 + (k + 1) % 5) (by omega)
                  have a2 := R6.out.drew.num (i := k / 5 * 5 + (k + 2) % 5) (by omega)
                  have hc := HK.out.1.drew.num (i := k) hlt
                  have hf := HK.out.1.drew.frozen k
                  have e0 : (k : Int) < 25 := by omega
                  have q1 : IntKind.i64.wrap ((k : Int) + 1) = (k : Int) + 1 := wrapN (n := k + 1) (by omega)
                  have q2 : IntKind.i64.wrap ((k : Int) + 2) = (k : Int) + 2 := wrapN (n := k + 2) (by omega)
                  have m1 : ((k : Int) + 1).tmod 5 = (((k + 1) % 5 : Nat) : Int) := by rw [Int.tmod_eq_emod_of_nonneg (by omega)]; omega
                  have m2 : ((k : Int) + 2).tmod 5 = (((k + 2) % 5 : Nat) : Int) := by rw [Int.tmod_eq_emod_of_nonneg (by omega)]; omega
                  have w1 : IntKind.i64.wrap ((k : Int) / 5 * 5 + (((k + 1) % 5 : Nat) : Int)) = ((k / 5 * 5 + (k + 1) % 5 : Nat) : Int) := by
                    rw [← wrapN (n := k / 5 * 5 + (k + 1) % 5) (by omega)]; congr 1
                  have w2 : IntKind.i64.wrap ((k : Int) / 5 * 5 + (((k + 2) % 5 : Nat) : Int)) = ((k / 5 * 5 + (k + 2) % 5 : Nat) : Int) := by
                    rw [← wrapN (n := k / 5 * 5 + (k + 2) % 5) (by omega)]; congr 1
                  have e1 : ((k / 5 * 5 + (k + 1) % 5 : Nat) : Int) < 25 := by omega
                  have e2 : ((k / 5 * 5 + (k + 2) % 5 : Nat) : Int) < 25 := by omega
                  have HKC := Lib.hid HK.out
                  have R6C := Lib.hid R6.out
                  clear HK R6
                  go_upto_region 22 with (fail)
                  generalize k / 5 * 5 + (k + 1) % 5 = r1 at *
                  generalize k / 5 * 5 + (k + 2) % 5 = r2 at *
                  generalize (k + 1) % 5 = i1 at *
                  generalize (k + 2) % 5 = i2 at *
                  generalize (k : Int) / 5 * 5 = rr at *
                  have HX := Lib.hid hxk
                  clear hxk
                  generalize B k = b0 at *
                  generalize B r1 = b1 at *
                  generalize B r2 = b2 at *
                  (refine region_tail 22 mix ?hB ?_; case hB => kernel_rfl)
                  (simp only [List.take_succ_cons, List.take_zero, List.drop_succ_cons, List.drop_zero])
                  (iterate 22 (with_reducible refine wpStill_step ?_; intro K hK; go_simp; with_reducible refine hK _ ?_; clear hK K))
                  with_reducible refine wpStill_nil ?_
                  go_wp2
                  exact ⟨⟨k + 1, by omega, by simp, Lib.hid (HKC.out.stepA (by rw [HX.out]; rfl)).drew, Lib.hid (R6C.out.other _ _ (by dsimp only; omega)).drew⟩, by simp [intOf]; omega⟩
                · obtain rfl : k = 25 := by omega
                  clear HB R6
                  have HK2 := Lib.hid (show KR w X turnsBy places (upto 5 (thC A) (fun _ => 0)) (upto 5 (thD A) (fun _ => 0)) wr from ⟨HK.out.1.full, HK.out.2⟩)
                  clear HK
                  have a0 := HK2.out.1.num (i := 0) (by omega)
                  have f0 := HK2.out.1.frozen 0
                  generalize hx0 : X 0 = x0 at a0
                  have HX0 := Lib.hid hx0
                  clear hx0
                  go_upto_region 25 with (fail)
                  have HA := Lib.hid (HK2.out.1.upd 0 (bits .xor .u64 x0 last) (B := RR) (fun j _ => by rw [HR.out, HX0.out]; rfl))
                  have R3 := Lib.hid (HK2.out.2.2.2.1.other ⟨w.heap.size, 0, none⟩ (.int .u64 (bits .xor .u64 x0 last)) (by dsimp only; omega))
                  have HBB := Lib.hid (HK2.out.2.2.2.2.2.2.1.setCell (p := ⟨w.heap.size, 0, none⟩) (Nat.le_refl _) (.int .u64 (bits .xor .u64 x0 last)))
                  clear HK2 a0 f0
                  generalize wr.setCell ⟨w.heap.size, 0, none⟩ (.int .u64 (bits .xor .u64 x0 last)) = W5 at *
                  go_step
                  refine wpList_load_row rfl 140 _ rfl w.heap.size rfl 140 (rV 25 .u64 RR) (0, 0) _ HA.out Try.underlying140 rfl (by kernel_rfl) ?_
                  refine wpList_store_row rfl 140 _ _ rfl _ (rV 25 .u64 RR) rfl rfl 140 _ R3.out (by kernel_rfl) (by kernel_rfl) rV_one ?_
                  have R2 := Lib.hid (R3.out.row (rV 25 .u64 RR))
                  have HB2 := Lib.hid (below_setRow HBB.out (g := w.heap.size + 1 + 1 + 1) (by omega) (rV 25 .u64 RR))
                  generalize W5.setRow (w.heap.size + 1 + 1 + 1) (rV 25 .u64 RR) = W at *
                  go_wp2
                  refine bodyPost_ret (results_cell_row rfl _ _ _ 140 (rV 25 .u64 RR) (0, 0) _ rfl R2.out Try.underlying140 rfl (by kernel_rfl)) rfl ?_
                  exact ⟨rfl, HB2.out⟩
end Go.Proofs.Ytefmlbckbhlgdaa
namespace Go.Proofs.Ytefmlbckbhlgdaa
open Go.RowKit
/-- What stands behind a text in its blocks. -/
def tailL (n : Nat) : List UInt8 := ((List.replicate n 0).set 0 1).set (n - 1) ((((List.replicate n 0).set 0 1).getD (n - 1) 0) ||| 128)
def padL (l : List UInt8) : List UInt8 := l ++ tailL (136 - l.length % 136)
theorem tailL_length (n : Nat) : (tailL n).length = n := by simp [tailL]
theorem padL_length (l : List UInt8) : (padL l).length = 136 * (l.length / 136 + 1) := by
  rw [padL, List.length_append, tailL_length]
  have := Nat.mod_lt l.length (show 136 > 0 by omega)
  omega
def bAt (l : List UInt8) (i : Nat) : Int := ((l.getD i 0).toNat : Int)
theorem bAt_lt (l : List UInt8) (i : Nat) : 0 ≤ bAt l i ∧ bAt l i < 256 := by
  have := UInt8.toNat_lt (l.getD i 0)
  unfold bAt; omega
/-- A word with 'k' bytes mixed in, the lowest first. -/
def wordX (a : Int) (f : NF) : Nat → Int
  | 0 => a
  | k + 1 => xr (wordX a f k) (IntKind.u64.wrap (f k * 2 ^ (8 * k)))
/-- A block mixed into a state. -/
def wordT (A : NF) (l : List UInt8) (i k : Nat) : Int := wordX (A i) (fun k => bAt l (8 * i + k)) k
def absW (A : NF) (l : List UInt8) (i : Nat) : Int := wordT A l i 8
theorem wordT_zero (A : NF) (l : List UInt8) (i : Nat) : wordT A l i 0 = A i := rfl
theorem wordT_succ (A : NF) (l : List UInt8) (i k : Nat) : wordT A l i (k + 1) = xr (wordT A l i k) (IntKind.u64.wrap (bAt l (8 * i + k) * 2 ^ (8 * k))) := rfl
def absb (A : NF) (l : List UInt8) : NF := upto 17 (absW A l) A
def sumA : Nat → NF → List UInt8 → NF
  | 0, A, _ => A
  | n + 1, A, l => sumA n (mixF (absb A l)) (l.drop 136)
def outB (A : NF) (i : Nat) : UInt8 := UInt8.ofNat (A (i / 8) / 2 ^ (8 * (i % 8)) % 256).toNat
def outL (A : NF) : List UInt8 := (List.range 32).map (outB A)
/-- A text's sum. -/
def sumL (l : List UInt8) : List UInt8 := outL (sumA (l.length / 136 + 1) (fun _ => 0) (padL l))
theorem outB_at (A : NF) {i k : Nat} (hk : k < 8) : IntKind.u8.wrap (A i / 2 ^ (8 * k)) = ((outB A (8 * i + k)).toNat : Int) := by
  unfold outB
  rw [show (8 * i + k) / 8 = i by omega, show (8 * i + k) % 8 = k by omega]
  generalize A i / 2 ^ (8 * k) = z
  simp [IntKind.wrap, IntKind.bits, IntKind.signed]
  omega
theorem outL_step (A : NF) {i : Nat} (hi : i < 32) : (outL A).take (i + 1) = (outL A).take i ++ [outB A i] := by
  rw [List.take_add_one]
  congr 1
  unfold outL
  simp [hi]
theorem outL_length (A : NF) : (outL A).length = 32 := by simp [outL]
theorem sumL_length (l : List UInt8) : (sumL l).length = 32 := outL_length _
end Go.Proofs.Ytefmlbckbhlgdaa
namespace Go.Proofs.Ytefmlbckbhlgdaa
open Go.RowKit
set_option maxRecDepth 100000
theorem byT24_lt (i : Nat) : byT 24 i < 64 := byT_lt 24 i

/-- Two rows made and filled. -/
theorem mixRows (w : World) (z c d : Array Value) (T : TypeId) : let W := ((((w.alloc (.cells z T)).alloc (.cells z T)).setRow w.heap.size c).setRow (w.heap.size + 1) d)
    Below w.heap.size w W ∧ RowAt W w.heap.size c T ∧ RowAt W (w.heap.size + 1) d T :=
  ⟨below_setRow (below_setRow (((Below.refl w.heap.size w).alloc (Nat.le_refl _) _).alloc (by simp) _) (Nat.le_refl _) _) (by omega) _,
    (((RowAt.new w z T).alloc _).row c).otherRow (by omega) d, ((RowAt.new' (w.alloc (.cells z T)) z T (by simp)).otherRow (by omega) c).row d⟩

set_option maxHeartbeats 8000000 in
theorem mix_any (A : NF) (w : World) : Calls Try.prog 89 #[.agg (rV 25 .u64 A)] w fun e w' => e = .returned (.agg (rV 25 .u64 (mixF A))) ∧ Below w.heap.size w w' := by
  have R0 := Lib.hid ((RowAt.new w (rV 25 .u64 A) 140).alloc (.cells (z25 .u64) 140))
  have R1 := Lib.hid (RowAt.new' (w.alloc (.cells (rV 25 .u64 A) 140)) (z25 .u64) 140 (k := w.heap.size + 1) (by simp))
  have HB := Lib.hid (((Below.refl w.heap.size w).alloc (Nat.le_refl _) (.cells (rV 25 .u64 A) 140)).alloc (by simp) (.cells (z25 .u64) 140))
  have HMS := Lib.hid (show ∀ k, mixN A (k + 1) = rnd (mixN A k) (byT 24) toT (rcC k) from fun _ => rfl)
  go_enter Try.func89, Try.ntmps89
  go_upto_region 1 with (fail)
  generalize (w.alloc (.cells (rV 25 .u64 A) 140)).alloc (.cells (z25 .u64) 140) = W at *
  go_wp2_with (first
    | (go_at_call 137; (refine (turns_any _).mono ?_); rintro e w1 ⟨rfl, hb⟩; replace R0 := Lib.hid (R0.out.belowS hb); replace R1 := Lib.hid (R1.out.belowS hb); have hs1 := R1.out.lt; replace HB := Lib.hid (HB.out.trans (hb.mono HB.out.size)); clear hb)
    | (refine wpList_store_row rfl 194 _ _ rfl w1.heap.size (rV 25 .i64 (asI (byT 24))) rfl rfl 194 (z25 .i64) ?hg ?hi ?ho rV_one ?_; (case hg => exact ((RowAt.new w1 (z25 .i64) 194).alloc (.cells (z25 .i64) 194))); (case hi => kernel_rfl); (case ho => kernel_rfl))
    | (refine wpList_store_row rfl 194 _ _ rfl (w1.heap.size + 1) (rV 25 .i64 (asI toT)) rfl rfl 194 (z25 .i64) ?hg ?hi ?ho rV_one ?_; (case hg => exact ((RowAt.new' (w1.alloc (.cells (z25 .i64) 194)) (z25 .i64) 194 (k := w1.heap.size + 1) (by simp)).otherRow (by omega) _)); (case hi => kernel_rfl); (case ho => kernel_rfl))
    | (go_at_call 138; (refine (consts_any _).mono ?_); rintro e w2 ⟨rfl, hb2⟩; have h3 := mixRows w1 (z25 .i64) (rV 25 .i64 (asI (byT 24))) (rV 25 .i64 (asI toT)) 194; replace R0 := Lib.hid ((R0.out.belowS h3.1).belowS hb2); replace R1 := Lib.hid ((R1.out.belowS h3.1).belowS hb2); have R2 := Lib.hid (h3.2.1.belowS hb2); have R3 := Lib.hid (h3.2.2.belowS hb2);
       replace HB := Lib.hid (HB.out.trans ((h3.1.trans (hb2.mono h3.1.size)).mono HB.out.size)); clear h3 hb2))
  go_loopw [12] (fun c wr => ∃ k : Nat, k ≤ 24 ∧ c = .int .i64 k ∧ Hid (RowAt wr w.heap.size (rV 25 .u64 (mixN A k)) 140 ∧ RowAt wr (w.heap.size + 1) (z25 .u64) 140 ∧ RowAt wr w1.heap.size (rV 25 .i64 (asI (byT 24))) 194 ∧ RowAt wr (w1.heap.size + 1) (rV 25 .i64 (asI toT)) 194 ∧ Below w.heap.size w wr)) (fun c _ => 24 - (intOf c).toNat)
  case atStart => exact ⟨0, by omega, rfl, Lib.hid ⟨R0.out, R1.out, R2.out, R3.out, HB.out⟩⟩
  case round =>
    clear R0 R1 R2 R3 HB
    obtain ⟨k, hk, rfl, hh⟩ := hrel
    obtain ⟨r0, r1, r2, r3, hb⟩ := hh.out
    clear hh
    have R0 := Lib.hid r0
    have R1 := Lib.hid r1
    have R2 := Lib.hid r2
    have R3 := Lib.hid r3
    have HB := Lib.hid hb
    clear r0 r1 r2 r3 hb
    by_cases hlt : k < 24
    · have hix : ∀ w, (Instr.index 197 (.agg (rV 24 .u64 rcC)) (.int .i64 k)).run Try.prog w = .ok (.int .u64 (rcC k)) w := index_row Try.underlying197 (by kernel_rfl) (fun _ => by kernel_rfl) hlt
      go_upto_region 5 with (fail)
      go_step
      refine wpList_load_row rfl 140 _ rfl w.heap.size rfl 140 (rV 25 .u64 (mixN A k)) (0, 0) _ R0.out Try.underlying140 rfl (by kernel_rfl) ?_
      refine wpList_load_row rfl 194 _ rfl w1.heap.size rfl 194 (rV 25 .i64 (asI (byT 24))) (0, 0) _ R2.out Try.underlying194 rfl (by kernel_rfl) ?_
      refine wpList_load_row rfl 194 _ rfl (w1.heap.size + 1) rfl 194 (rV 25 .i64 (asI toT)) (0, 0) _ R3.out Try.underlying194 rfl (by kernel_rfl) ?_
      have hr : rnd (mixN A k) (byT 24) toT (rcC k) = mixN A (k + 1) := rfl
      have KR := fun W => round_any (mixN A k) (byT 24) toT byT24_lt (fun i => toT_lt) (rcC k) W
      rw [hr] at KR
      have KR := Lib.hid KR
      clear hr
      go_wp2_with (first
        | (go_at_call 139; (refine (KR.out _).mono ?_); rintro e w2 ⟨rfl, hb⟩; replace R0 := Lib.hid (R0.out.belowS hb); replace R1 := Lib.hid (R1.out.belowS hb); replace R2 := Lib.hid (R2.out.belowS hb); replace R3 := Lib.hid (R3.out.belowS hb); replace HB := Lib.hid (HB.out.trans (hb.mono HB.out.size)); clear hb)
        | (refine wpList_store_row rfl 140 _ _ rfl w.heap.size (rV 25 .u64 (mixN A (k + 1))) rfl rfl 140 (rV 25 .u64 (mixN A k)) R0.out ?hi ?ho rV_one ?_; (case hi => kernel_rfl); (case ho => rw [rV_size, rV_size])))
      exact ⟨⟨k + 1, by omega, by simp, Lib.hid ⟨R0.out.row _, R1.out.otherRow (by omega) _, R2.out.otherRow (by omega) _, R3.out.otherRow (by omega) _, below_setRow HB.out (Nat.le_refl _) _⟩⟩, by simp [intOf]; omega⟩
    · obtain rfl : k = 24 := by omega
      have hmx : Hid (mixN A 24 = mixF A) := Lib.hid rfl
      rw [hmx.out] at R0
      clear hmx
      go_upto_region 7 with (fail)
      go_step
      refine wpList_load_row rfl 140 _ rfl w.heap.size rfl 140 (rV 25 .u64 (mixF A)) (0, 0) _ R0.out Try.underlying140 rfl (by kernel_rfl) ?_
      refine wpList_store_row rfl 140 _ _ rfl (w.heap.size + 1) (rV 25 .u64 (mixF A)) rfl rfl 140 (z25 .u64) R1.out (by kernel_rfl) (by kernel_rfl) rV_one ?_
      have RR := Lib.hid (R1.out.row (rV 25 .u64 (mixF A)))
      have HB2 := Lib.hid (below_setRow HB.out (g := w.heap.size + 1) (by omega) (rV 25 .u64 (mixF A)))
      generalize wr.setRow (w.heap.size + 1) (rV 25 .u64 (mixF A)) = W5 at *
      go_wp2
      refine bodyPost_ret (results_cell_row rfl _ _ _ 140 (rV 25 .u64 (mixF A)) (0, 0) _ rfl RR.out Try.underlying140 rfl (by kernel_rfl)) rfl ?_
      exact ⟨rfl, HB2.out⟩
end Go.Proofs.Ytefmlbckbhlgdaa
namespace Go.Proofs.Ytefmlbckbhlgdaa
open Go.RowKit
set_option maxRecDepth 100000
theorem upd_same {A : NF} {i j : Nat} {v : Int} (h : v = A i) : upd A i v j = A j := by
  subst h
  unfold upd
  split
  · rename_i e; rw [e]
  · rfl
def kstrLen : Value → Nat
  | .string s => s.size
  | _ => 0

set_option maxHeartbeats 8000000 in
theorem sum_any (s : ByteArray) (hs : s.size ≤ 1000000000) (w : World) : Calls Try.prog 47 #[.string s] w fun e w' => e = .returned (.string (mkS (sumL (bl s)))) ∧ Below w.heap.size w w' := by
  obtain ⟨i0, hi, hz0, hz1, hz2⟩ := info_parts info_u8
  obtain ⟨n, hn⟩ : ∃ n, n = 136 - s.size % 136 := ⟨_, rfl⟩
  have hn1 : (136 : Int) - (s.size : Int) % 136 = (n : Int) := by omega
  have hn0 : 0 < n := by omega
  have hn2 : n ≤ 136 := by omega
  have HN := Lib.hid hn
  clear hn
  have hmm : (s.size : Int).tmod 136 = (s.size : Int) % 136 := Int.tmod_eq_emod_of_nonneg (by omega)
  go_enter Try.func47, Try.ntmps47
  go_upto_region 2 with (at_make; (refine wpList_make_full _ rfl _ _ 123 rfl w.heap.size 5 i0 (.int .u8 0) 1 Try.underlying123 hi hz0 hz1 .i64 .i64 _ _ n rfl rfl rfl rfl (by rw [hz2]; omega) (by unfold maxLen; omega) (Nat.le_refl _) ?_); intro w1 hown hg)
  have hbuf := buf_made (fun _ => 0) hown
  have hz0' : fillL (fun _ => 0) n 0 = List.replicate n 0 := by unfold fillL; rw [List.eq_replicate_iff]; simp
  rw [hz0'] at hbuf
  have c0 := hbuf.cell (i := 0) (by simp; omega)
  have f0 := hbuf.frozen 0
  have HB := Lib.hid ((Below.refl w.heap.size w).grown hg (Nat.le_refl _) (fun k hk => by cases hk))
  have BF := Lib.hid hbuf
  clear hbuf hown hg hz0'
  have e1 : (0 : Int) < n := by omega
  go_upto_region 3 with (fail)
  have BF2 := Lib.hid (BF.out.set 0 1 (v := 1) (by decide))
  have hcx := BF2.out.cell (i := n - 1) (by simp; omega)
  have f1 := BF2.out.frozen (n - 1)
  have e2 : ((n : Int) - 1).toNat = n - 1 := by omega
  have e3 : (0 : Int) ≤ (n : Int) - 1 := by omega
  have e4 : (n : Int) - 1 < n := by omega
  have hor : bits .or .u8 ((((List.replicate n (0 : UInt8)).set 0 1).getD (n - 1) 0).toNat : Int) 128 = (((((List.replicate n (0 : UInt8)).set 0 1).getD (n - 1) 0) ||| 128).toNat : Int) := by
    have := u8_or_nat (((List.replicate n (0 : UInt8)).set 0 1).getD (n - 1) 0).toNat 128 (UInt8.toNat_lt _) (by omega)
    rw [UInt8.toNat_or]
    exact this
  have BF3 := Lib.hid (BF2.out.set (n - 1) (((((List.replicate n (0 : UInt8)).set 0 1).getD (n - 1) 0) ||| 128)) hor.symm.symm)
  have ht : (((List.replicate n (0 : UInt8)).set 0 1).set (n - 1) (((((List.replicate n (0 : UInt8)).set 0 1).getD (n - 1) 0) ||| 128))) = tailL n := rfl
  rw [ht] at BF3
  clear ht hor
  generalize ((((List.replicate n (0 : UInt8)).set 0 1).getD (n - 1) 0).toNat : Int) = x at *
  have HB3 := Lib.hid ((HB.out.setCell (p := ⟨w.heap.size, 0, none⟩) (Nat.le_refl _) (.int .u8 1)).setCell (p := ⟨w.heap.size, n - 1, none⟩) (Nat.le_refl _) (.int .u8 (bits .or .u8 x 128)))
  clear c0 f0 BF BF2 HB
  generalize w1.setCell ⟨w.heap.size, 0, none⟩ (.int .u8 1) = W2 at *
  go_upto_region 4 with (fail)
  generalize W2.setCell ⟨w.heap.size, n - 1, none⟩ (.int .u8 (bits .or .u8 x 128)) = W3 at *
  have hcv := BF3.out.conv n (by rw [tailL_length])
  clear hcx f1 e2 e3 e4
  have hsz : (mkS (tailL n)).size = n := by rw [mk_size, tailL_length]
  replace hcv : (convert 123 9 (.slice (some ⟨w.heap.size, 0, none⟩) n n)).run Try.prog W3 = .ok (.string (mkS (tailL n))) W3 := hcv
  have HCV := Lib.hid hcv
  clear hcv
  have hq : ¬ 9223372036854775807 < s.size + n := by omega
  go_upto_region 6 with (simp only [HCV.out, Result.andThen_ok])
  have hp : s ++ mkS (tailL n) = mkS (padL (bl s)) := bl_inj (by rw [bl_append, bl_mk, bl_mk, padL, bl_length, HN.out])
  rw [hp]
  have hpl : (padL (bl s)).length = 136 * ((bl s).length / 136 + 1) := padL_length _
  have RS := Lib.hid (show sumL (bl s) = outL (sumA ((bl s).length / 136 + 1) (fun _ => 0) (padL (bl s))) from rfl)
  have RZ := Lib.hid ((RowAt.new W3 (z25 .u64) 140).z25 (A := fun _ => 0) (fun _ => rfl))
  have HB4 := Lib.hid (HB3.out.alloc HB3.out.size (.cells (z25 .u64) 140))
  have hgs := BF3.out.lt
  have HS3 := Lib.hid (show w.heap.size ≤ W3.heap.size by omega)
  clear hp HCV BF3 HB3 hq hgs
  generalize hg : W3.heap.size = g at *
  generalize hW4 : W3.alloc (.cells (z25 .u64) 140) = W4 at *
  clear hg hW4 e1 hmm hn1 hn0 hn2 HN hsz
  have hbl : (bl s).length = s.size := bl_length s
  have HFA := Lib.hid (show ∃ FA, FA = sumA ((bl s).length / 136 + 1) (fun _ => 0) (padL (bl s)) from ⟨_, rfl⟩)
  obtain ⟨FA, hfa⟩ := HFA.out
  have RS2 : Hid (sumL (bl s) = outL FA) := Lib.hid (by rw [RS.out, hfa])
  have HFA2 := Lib.hid hfa.symm
  clear RS HFA hfa
  have hps : (mkS (padL (bl s))).size = 136 * ((bl s).length / 136 + 1) := by rw [mk_size, hpl]
  have hpb : bl (mkS (padL (bl s))) = padL (bl s) := bl_mk _
  rw [← hpb] at HFA2
  generalize mkS (padL (bl s)) = t at *
  generalize (bl s).length / 136 + 1 = m at *
  go_loopw [0] (fun v wr => ∃ (m : Nat) (A : NF) (t : ByteArray), t.size = 136 * m ∧ v = .string t ∧ Hid (sumA m A (bl t) = FA) ∧ Hid (RowAt wr g (rV 25 .u64 A) 140) ∧ Hid (Below w.heap.size w wr)) (fun v _ => kstrLen v)
  case atStart => exact ⟨m, _, t, hps, rfl, HFA2, RZ, HB4⟩
  case round =>
    clear HFA2 RZ HB4 hps hpl hpb hbl
    obtain ⟨m, A, t, hts, rfl, hfa, hrow, hb⟩ := hrel
    have R := Lib.hid hrow.out
    have HB := Lib.hid hb.out
    have HFA := Lib.hid hfa.out
    clear hrow hb hfa
    rcases Nat.eq_zero_or_pos m with rfl | hm
    · obtain rfl : t = ⟨#[]⟩ := bl_inj (List.eq_nil_of_length_eq_zero (by rw [bl_length]; omega))
      have R2 := Lib.hid (show RowAt wr g (rV 25 .u64 FA) 140 from by have := HFA.out; unfold sumA at this; rw [← this]; exact R.out)
      clear R HFA
      have HG1 := Lib.hid (show g + 1 ≤ wr.heap.size from R2.out.lt)
      go_upto_region 20 with (fail)
      go_loopw [7, 58] (fun v c wr => ∃ i : Nat, i ≤ 4 ∧ c = .int .i64 i ∧ Hid (OwnB wr (g + 1) v ((outL FA).take (8 * i))) ∧ Hid (RowAt wr g (rV 25 .u64 FA) 140) ∧ Hid (Below w.heap.size w wr)) (fun _ c _ => 4 - (intOf c).toNat)
      case atStart => exact ⟨0, by omega, rfl, Lib.hid (OwnB.nil _ _), R2, HB⟩
      case round =>
        clear R2 HB HG1
        obtain ⟨i, hi2, rfl, hown, hrow, hb⟩ := hrel
        have R := Lib.hid hrow.out
        have HB := Lib.hid hb.out
        have HO := Lib.hid hown.out
        clear hrow hb hown
        by_cases hlt : i < 4
        · have hi4 : decide ((i : Int) < 4) = true := by simp; omega
          go_upto_region 23 with (fail)
          go_loopw [7, 61] (fun v c wr => ∃ k : Nat, k ≤ 8 ∧ c = .int .i64 k ∧ Hid (OwnB wr (g + 1) v ((outL FA).take (8 * i + k))) ∧ Hid (RowAt wr g (rV 25 .u64 FA) 140) ∧ Hid (Below w.heap.size w wr)) (fun _ c _ => 8 - (intOf c).toNat)
          case atStart => exact ⟨0, by omega, rfl, HO, R, HB⟩
          case round =>
            clear R HB HO
            obtain ⟨k, hk, rfl, hown, hrow, hb⟩ := hrel
            have R := Lib.hid hrow.out
            have HB := Lib.hid hb.out
            have HO := Lib.hid hown.out
            clear hrow hb hown
            by_cases hlt2 : k < 8
            · have a0 := R.out.num (i := i) (by omega)
              have hob := outB_at FA (i := i) hlt2
              have hst := Lib.hid (outL_step FA (i := 8 * i + k) (by omega))
              have hlen : ((outL FA).take (8 * i + k)).length ≤ 32 := by rw [List.length_take, outL_length]; omega
              have hg1 := R.out.lt
              go_wp2_with (at_builtin; refine wpList_append_bytes rfl _ _ rfl (g + 1) _ ((outL FA).take (8 * i + k)) rfl (HO.out.alloc _) ⟨wr.heap.size, 0, none⟩ 1 1 [outB FA (8 * i + k)] rfl rfl (one_cell_new rfl) (by omega) (by rw [World.size_alloc]; omega) ?_; intro v' w5 hown5 hb5 hz5)
              have HBa := Lib.hid (hb5 _ ((Below.refl (g + 1) wr).alloc hg1 (.cells #[.int .u8 ((outB FA (8 * i + k)).toNat : Int)] 5)))
              rw [← hst.out] at hown5
              exact ⟨⟨k + 1, by omega, by simp, Lib.hid hown5, Lib.hid (R.out.below HBa.out (Nat.lt_succ_self _)), Lib.hid (HB.out.trans (HBa.out.mono (Nat.le_succ_of_le HS3.out)))⟩, by simp [intOf]; omega⟩
            · obtain rfl : k = 8 := by omega
              go_wp2
              exact ⟨⟨i + 1, by omega, by simp, HO, R, HB⟩, by simp [intOf]; omega⟩
        · obtain rfl : i = 4 := by omega
          have HO2 := Lib.hid (show OwnB wr (g + 1) u7 (outL FA) from by have := HO.out; rwa [List.take_of_length_le (by rw [outL_length]; omega)] at this)
          have HCV := Lib.hid (show (convert 123 9 u7).run Try.prog wr = .ok (.string (mkS (outL FA))) wr from HO2.out.conv)
          go_wp2_with (simp only [HCV.out, Result.andThen_ok])
          go_ret
          exact ⟨by rw [RS2.out]; rfl, HB.out⟩
    · obtain ⟨m, rfl⟩ : ∃ j, m = j + 1 := ⟨m - 1, by omega⟩
      have hq : t.toList.isEmpty = false := by rw [toList_bl, List.isEmpty_eq_false_iff]; intro h; have := bl_length t; rw [h] at this; simp at this; omega
      go_upto_region 9 with (fail)
      go_loopw [33] (fun c wr => ∃ i : Nat, i ≤ 17 ∧ c = .int .i64 i ∧ Hid (RowAt wr g (rV 25 .u64 (upto i (absW A (bl t)) A)) 140) ∧ Hid (Below w.heap.size w wr)) (fun c _ => 17 - (intOf c).toNat)
      case atStart => exact ⟨0, by omega, rfl, Lib.hid (by rw [upto_zero]; exact R.out), HB⟩
      case round =>
        clear R HB
        obtain ⟨i, hi2, rfl, hrow, hb⟩ := hrel
        have R := Lib.hid hrow.out
        have HB := Lib.hid hb.out
        clear hrow hb
        by_cases hlt : i < 17
        · have hi17 : decide ((i : Int) < 17) = true := by simp; omega
          go_upto_region 12 with (fail)
          go_loopw [36] (fun c wr => ∃ k : Nat, k ≤ 8 ∧ c = .int .i64 k ∧ Hid (RowAt wr g (rV 25 .u64 (upd (upto i (absW A (bl t)) A) i (wordT A (bl t) i k))) 140) ∧ Hid (Below w.heap.size w wr)) (fun c _ => 8 - (intOf c).toNat)
          case atStart => exact ⟨0, by omega, rfl, Lib.hid (R.out.same (fun j _ => (upd_same (A := upto i (absW A (bl t)) A) (i := i) (v := wordT A (bl t) i 0) ((wordT_zero _ _ _).trans (upto_at (Nat.le_refl _)).symm)).symm)), HB⟩
          case round =>
            clear R HB
            obtain ⟨k, hk, rfl, hrow, hb⟩ := hrel
            have R := Lib.hid hrow.out
            have HB := Lib.hid hb.out
            clear hrow hb
            by_cases hlt2 : k < 8
            · have a0 := R.out.drew.num (i := i) (by omega)
              have f0 := R.out.drew.frozen i
              rw [show upd (upto i (absW A (bl t)) A) i (wordT A (bl t) i k) i = wordT A (bl t) i k from if_pos rfl] at a0
              have RC := Lib.hid R.out
              clear R
              have e0 : (i : Int) < 25 := by omega
              have HTS := Lib.hid hts
              have hq8 : 8 * i + k < t.size := by omega
              clear hts
              have hq9 : ((8 * i + k : Nat) : Int) < (t.size : Int) := by omega
              have hgt : ((t[8 * i + k]'hq8).toNat : Int) = bAt (bl t) (8 * i + k) := by rw [bAt, sgetD hq8]
              have hbv := bAt_lt (bl t) (8 * i + k)
              have m1 : IntKind.i64.wrap (8 * (i : Int)) = ((8 * i : Nat) : Int) := by rw [← wrapN (n := 8 * i) (by omega)]; congr 1
              have m2 : IntKind.i64.wrap (((8 * i : Nat) : Int) + (k : Int)) = ((8 * i + k : Nat) : Int) := by rw [← wrapN (n := 8 * i + k) (by omega)]; congr 1
              have m3 : IntKind.i64.wrap (8 * (k : Int)) = ((8 * k : Nat) : Int) := by rw [← wrapN (n := 8 * k) (by omega)]; congr 1
              have u1 : IntKind.u64.wrap (bAt (bl t) (8 * i + k)) = bAt (bl t) (8 * i + k) := u64_wrap_lt hbv.1 (by omega)
              have k64 : 8 * k < 64 := by omega
              have hws : Hid (wordT A (bl t) i (k + 1) = xr (wordT A (bl t) i k) (IntKind.u64.wrap (bAt (bl t) (8 * i + k) * 2 ^ (8 * k)))) := Lib.hid (wordT_succ _ _ _ _)
              generalize hwn : wordT A (bl t) i (k + 1) = wn at *
              generalize wordT A (bl t) i k = wo at *
              have HWN := Lib.hid hwn
              clear hwn
              generalize bAt (bl t) (8 * i + k) = bv at *
              generalize 8 * i + k = q8 at *
              generalize 8 * i = p8 at *
              generalize 8 * k = k8 at *
              go_upto_region 14 with (fail)
              (refine region_tail 15 mix ?hB ?_; case hB => kernel_rfl)
              (simp only [List.take_succ_cons, List.take_zero, List.drop_succ_cons, List.drop_zero])
              (iterate 12 (with_reducible refine wpStill_step ?_; intro K hK; go_simp; with_reducible refine hK _ ?_; clear hK K))
              (iterate 3 (with_reducible refine wpStill_step ?_; intro K hK; go_simp; with_reducible refine hK _ ?_; clear hK K))
              with_reducible refine wpStill_nil ?_
              go_wp2
              have RN := Lib.hid ((RC.out.upd i (xr wo (IntKind.u64.wrap (bv * 2 ^ k8))) (B := upd (upto i (absW A (bl t)) A) i (wordT A (bl t) i (k + 1))) (fun j _ => by rw [HWN.out, hws.out]; unfold upd; split <;> rfl)).drew)
              exact ⟨⟨k + 1, by omega, by simp, RN, Lib.hid (HB.out.setCell (p := ⟨g, i, none⟩) HS3.out _).drew⟩, by simp [intOf]; omega⟩
            · obtain rfl : k = 8 := by omega
              go_wp2
              refine ⟨⟨i + 1, by omega, by simp, Lib.hid (R.out.same (fun j _ => congrFun (upto_step (A := A) (f := absW A (bl t)) rfl) j)), HB⟩, by simp [intOf]; omega⟩
        · obtain rfl : i = 17 := by omega
          have R2 := Lib.hid (show RowAt wr g (rV 25 .u64 (absb A (bl t))) 140 from R.out)
          clear R
          have KM := Lib.hid (fun W => mix_any (absb A (bl t)) W)
          go_upto_region 17 with (fail)
          go_step
          refine wpList_load_row rfl 140 _ rfl g rfl 140 (rV 25 .u64 (absb A (bl t))) (0, 0) _ R2.out Try.underlying140 rfl (by kernel_rfl) ?_
          go_upto_region 7 with (first
            | (go_at_call 89; (refine (KM.out _).mono ?_); rintro e w9 ⟨rfl, hb⟩; replace R2 := Lib.hid (R2.out.belowS hb); replace HB := Lib.hid (HB.out.trans (hb.mono HB.out.size)); clear hb)
            | (refine wpList_store_row rfl 140 _ _ rfl g (rV 25 .u64 (mixF (absb A (bl t)))) rfl rfl 140 (rV 25 .u64 (absb A (bl t))) R2.out ?hi ?ho rV_one ?_; (case hi => kernel_rfl); (case ho => rw [rV_size, rV_size])))
          have R3 := Lib.hid (R2.out.row (rV 25 .u64 (mixF (absb A (bl t)))))
          have HB3 := Lib.hid (below_setRow HB.out (g := g) HS3.out (rV 25 .u64 (mixF (absb A (bl t)))))
          clear R2 HB KM
          generalize w9.setRow g (rV 25 .u64 (mixF (absb A (bl t)))) = W9 at *
          have hfa : Hid (sumA m (mixF (absb A (bl t))) (bl (t.extract 136 t.size)) = FA) := Lib.hid (by
            rw [bl_extract, stake_all]; exact HFA.out)
          have hsz : (t.extract 136 t.size).size = 136 * m := by rw [ByteArray.size_extract]; omega
          generalize mixF (absb A (bl t)) = A2 at *
          have h136 : 136 ≤ t.size := by omega
          have HSZ := Lib.hid hsz
          have hlt2 : (t.extract 136 t.size).size < t.size := by omega
          have HL2 := Lib.hid hlt2
          clear hsz hlt2 HFA hts hlt
          go_wp2
          exact ⟨⟨m, A2, _, HSZ.out, rfl, hfa, R3, HB3⟩, HL2.out⟩
end Go.Proofs.Ytefmlbckbhlgdaa
