/- Words turned round; by how much, and where to. -/
import Derived.Test.YthipnbiilobjeaaKeL
namespace Go.Proofs.Ythipnbiilobjeaa
open Go.RowKit
set_option maxRecDepth 100000

theorem and63 {s : Nat} (hs : s < 64) : bits .and .u64 (s : Int) 63 = (s : Int) := by
  have := u64_and_nat s 63 (by omega) (by omega)
  rw [nat_mask6, Nat.mod_eq_of_lt hs] at this
  exact this
set_option maxHeartbeats 2000000 in
theorem rl_any (x : Int) (s : Nat) (hs : s < 64) (si : Int) (hsi : si = s) (w : World) : Calls Try.prog 162 #[.int .u64 x, .int .i64 si] w fun e w' => e = .returned (.int .u64 (rl x s)) ∧ w' = w := by
  subst hsi
  have h1 := and63 hs
  go_enter Try.func162, Try.ntmps162
  go_wp2
  go_ret
  exact ⟨rfl, rfl⟩

abbrev z25 (k : IntKind) : Array Value := #[.int k 0, .int k 0, .int k 0, .int k 0, .int k 0, .int k 0, .int k 0, .int k 0, .int k 0, .int k 0, .int k 0, .int k 0, .int k 0, .int k 0, .int k 0, .int k 0, .int k 0, .int k 0, .int k 0, .int k 0, .int k 0, .int k 0, .int k 0, .int k 0, .int k 0]
theorem z25_row (k : IntKind) : z25 k = rV 25 k (fun _ => 0) := rfl
theorem RowAt.z25 {w : World} {b : Nat} {k : IntKind} {T : TypeId} (h : RowAt w b (Go.Proofs.Ythipnbiilobjeaa.z25 k) T) {A : NF} (hA : ∀ i, A i = 0) : RowAt w b (rV 25 k A) T := by
  rw [rV_ext (B := fun _ => 0) (fun i _ => hA i)]
  exact h
theorem rows4 (w : World) (c : Array Value) (T : TypeId) : RowAt ((((w.alloc (.cells c T)).alloc (.cells c T)).alloc (.cells c T)).alloc (.cells c T)) w.heap.size c T ∧
    RowAt ((((w.alloc (.cells c T)).alloc (.cells c T)).alloc (.cells c T)).alloc (.cells c T)) (w.heap.size + 1) c T ∧
    RowAt ((((w.alloc (.cells c T)).alloc (.cells c T)).alloc (.cells c T)).alloc (.cells c T)) (w.heap.size + 1 + 1) c T ∧
    RowAt ((((w.alloc (.cells c T)).alloc (.cells c T)).alloc (.cells c T)).alloc (.cells c T)) (w.heap.size + 1 + 1 + 1) c T ∧
    Below w.heap.size w ((((w.alloc (.cells c T)).alloc (.cells c T)).alloc (.cells c T)).alloc (.cells c T)) :=
  ⟨(((RowAt.new w c T).alloc _).alloc _).alloc _, (((RowAt.new' (w.alloc (.cells c T)) c T (by simp)).alloc _).alloc _), (RowAt.new' ((w.alloc (.cells c T)).alloc (.cells c T)) c T (by simp)).alloc _,
    RowAt.new' (((w.alloc (.cells c T)).alloc (.cells c T)).alloc (.cells c T)) c T (by simp), ((((Below.refl w.heap.size w).alloc (Nat.le_refl _) _).alloc (by simp) _).alloc (by simp; omega) _).alloc (by simp; omega) _⟩

theorem turn_num : ∀ t : Nat, t < 24 → (wrap64 ((wrap64 (((t : Int) + 1) * (t + 2))).tdiv 2)).tmod 64 = (((t + 1) * (t + 2) / 2 % 64 : Nat) : Int) := by decide +kernel

set_option maxHeartbeats 4000000 in
theorem turns_any (w : World) : Calls Try.prog 128 #[] w fun e w' => e = .returned (.tuple #[.agg (rV 25 .i64 (asI (byT 24))), .agg (rV 25 .i64 (asI toT))]) ∧ Below w.heap.size w w' := by
  have H4 := rows4 w (z25 .i64) 167
  obtain ⟨r0, r1, r2, r3, hb⟩ := H4
  have R0 := Lib.hid r0
  have R1 := Lib.hid r1
  have R2 := Lib.hid (r2.z25 (A := asI (byT 0)) (fun _ => rfl))
  have R3 := Lib.hid (r3.z25 (A := fun i => if i < 0 then asI toT i else 0) (fun i => rfl))
  have HB := Lib.hid hb
  clear r0 r1 r2 r3 hb
  go_enter Try.func128, Try.ntmps128
  go_wp2
  go_loopw [4, 5, 10] (fun x y c wr => ∃ t : Nat, t ≤ 24 ∧ c = .int .i64 t ∧ x = .int .i64 ((tXY t).1 : Nat) ∧ y = .int .i64 ((tXY t).2 : Nat) ∧ Hid (RowAt wr w.heap.size (z25 .i64) 167 ∧ RowAt wr (w.heap.size + 1) (z25 .i64) 167 ∧ RowAt wr (w.heap.size + 1 + 1) (rV 25 .i64 (asI (byT t))) 167 ∧ RowAt wr (w.heap.size + 1 + 1 + 1) (rV 25 .i64 (upto 0 (asI toT) (fun _ => 0))) 167 ∧ Below w.heap.size w wr)) (fun _ _ c _ => 24 - (intOf c).toNat)
  case atStart => exact ⟨0, by omega, rfl, rfl, rfl, Lib.hid ⟨R0.out, R1.out, R2.out, R3.out, HB.out⟩⟩
  case round =>
    clear R0 R1 R2 R3 HB
    obtain ⟨t, ht, rfl, rfl, rfl, hh⟩ := hrel
    by_cases hlt : t < 24
    · obtain ⟨r0, r1, r2, r3, hb⟩ := hh.out
      have hxy := tXY_lt t
      have es1 : (tXY (t + 1)).1 = (tXY t).2 := rfl
      have es2 : (tXY (t + 1)).2 = (2 * (tXY t).1 + 3 * (tXY t).2) % 5 := rfl
      have eby : ∀ j, j < 25 → upd (asI (byT t)) ((tXY t).1 + 5 * (tXY t).2) ((((t : Int) + 1) * (t + 2)) / 2 % 64) j = asI (byT (t + 1)) j := fun j _ => by
        simp only [asI, upd, byT, updN]; split
        · push_cast; rfl
        · rfl
      generalize (tXY t).1 = x at *
      generalize (tXY t).2 = y at *
      have hf := r2.frozen (x + 5 * y)
      have hc := r2.num (i := x + 5 * y) (by omega)
      have R0 := Lib.hid r0
      have R1 := Lib.hid r1
      have R2 := Lib.hid r2
      have R3 := Lib.hid r3
      have HB := Lib.hid hb
      clear r0 r1 r2 r3 hb hh
      have hv : (wrap64 ((wrap64 (((t : Int) + 1) * (t + 2))).tdiv 2)).tmod 64 = (((t + 1) * (t + 2) / 2 % 64 : Nat) : Int) := turn_num t hlt
      have EBY := Lib.hid eby
      clear eby
      go_wp2
      refine ⟨⟨t + 1, by omega, by simp, by rw [es1], by rw [es2]; simp, Lib.hid ⟨R0.out.other _ _ (by simp; omega), R1.out.other _ _ (by simp), R2.out.upd _ _ (EBY.out), R3.out.other _ _ (by simp), HB.out.setCell (by simp; omega) _⟩⟩, by simp [intOf]; omega⟩
    · obtain rfl : t = 24 := by omega
      obtain ⟨r0, r1, r2, r3, hb⟩ := hh.out
      clear hh
      generalize hgb : asI (byT 24) = G at *
      have HGB := Lib.hid hgb
      have R0 := Lib.hid r0
      have R1 := Lib.hid r1
      have R2 := Lib.hid r2
      have R3 := Lib.hid r3
      have HB := Lib.hid hb
      clear r0 r1 r2 r3 hb hgb
      go_wp2
      go_loopw [33] (fun c wr => ∃ t : Nat, t ≤ 25 ∧ c = .int .i64 t ∧ Hid (RowAt wr w.heap.size (z25 .i64) 167 ∧ RowAt wr (w.heap.size + 1) (z25 .i64) 167 ∧ RowAt wr (w.heap.size + 1 + 1) (rV 25 .i64 G) 167 ∧ RowAt wr (w.heap.size + 1 + 1 + 1) (rV 25 .i64 (upto t (asI toT) (fun _ => 0))) 167 ∧ Below w.heap.size w wr)) (fun c _ => 25 - (intOf c).toNat)
      case atStart => exact ⟨0, by omega, rfl, Lib.hid ⟨R0.out, R1.out, R2.out, R3.out, HB.out⟩⟩
      case round =>
        clear R0 R1 R2 R3 HB
        obtain ⟨t, ht, rfl, hh⟩ := hrel
        obtain ⟨r0, r1, r2, r3, hb⟩ := hh.out
        clear hh
        by_cases hlt : t < 25
        · have hf := r3.frozen t
          have hc := r3.num (i := t) hlt
          have R0 := Lib.hid r0
          have R1 := Lib.hid r1
          have R2 := Lib.hid r2
          have R3 := Lib.hid r3
          have HB := Lib.hid hb
          clear r0 r1 r2 r3 hb
          have h1 : (t : Int).tmod 5 = ((t % 5 : Nat) : Int) := by rw [Int.tmod_eq_emod_of_nonneg (by omega)]; simp
          have h2 : (t : Int).tdiv 5 = ((t / 5 : Nat) : Int) := by rw [Int.tdiv_eq_ediv_of_nonneg (by omega)]; simp
          have ETO : Hid ((t : Int) / 5 + 5 * ((2 * ((t : Int) % 5) + 3 * ((t : Int) / 5)) % 5) = asI toT t) := Lib.hid (by unfold asI toT; push_cast; rfl)
          go_wp2
          refine ⟨⟨t + 1, by omega, by simp, Lib.hid ⟨R0.out.other _ _ (by simp; omega), R1.out.other _ _ (by show w.heap.size + 1 ≠ w.heap.size + 1 + 1 + 1; omega), R2.out.other _ _ (by simp), R3.out.step ETO.out, HB.out.setCell (by simp; omega) _⟩⟩, by simp [intOf]; omega⟩
        · obtain rfl : t = 25 := by omega
          have R2 := Lib.hid r2
          have R3 := Lib.hid r3.full
          have R0 := Lib.hid r0
          have R1 := Lib.hid r1
          have HB := Lib.hid hb
          clear r0 r1 r2 r3 hb
          go_wp2
          obtain ⟨Ws, G0, G1, G2⟩ : ∃ Ws : Nat → World, Ws 0 = wr.drew ∧ Ws 1 = wr.drew.setRow w.heap.size (rV 25 .i64 G) ∧ Ws 2 = (wr.drew.setRow w.heap.size (rV 25 .i64 G)).setRow (w.heap.size + 1) (rV 25 .i64 (asI toT)) :=
            ⟨fun n => if n = 0 then wr.drew else if n = 1 then wr.drew.setRow w.heap.size (rV 25 .i64 G) else (wr.drew.setRow w.heap.size (rV 25 .i64 G)).setRow (w.heap.size + 1) (rV 25 .i64 (asI toT)), rfl, rfl, rfl⟩
          refine region_stages [2, 3] (fun k => if k == 0 then 0 else 1) Ws mix ?hB G0 ?_
          case hB => kernel_rfl
          refine stg_load_row 0 rfl rfl 167 _ rfl _ rfl 167 (rV 25 .i64 G) (0, 0) _ (fun s hs => ?h1) (Try.underlying167) rfl (by kernel_rfl) ?_
          case h1 => obtain rfl : s = 0 := by omega
                     rw [G0]; exact R2.out.drew
          refine stg_load_row 1 rfl rfl 167 _ rfl _ rfl 167 (rV 25 .i64 (asI toT)) (0, 0) _ (fun s hs => ?h1) (Try.underlying167) rfl (by kernel_rfl) ?_
          case h1 => have hs' : s = 0 ∨ s = 1 := by omega
                     rcases hs' with rfl | rfl
                     · rw [G0]; exact R3.out.drew
                     · rw [G1]; exact R3.out.drew.otherRow (by omega) _
          refine stg_eff 0 undef rfl (by decide) rfl ?he ?_
          case he => exact eff_store_row 167 _ _ rfl _ _ rfl rfl _ _ (by rw [G0]; exact R0.out.drew) (by kernel_rfl) (by kernel_rfl) rV_one (by rw [G1, G0])
          refine stg_eff 1 undef rfl (by decide) rfl ?he ?_
          case he => exact eff_store_row 167 _ _ rfl _ _ rfl rfl _ _ (by rw [G1]; exact R1.out.drew.otherRow (by omega) _) (by kernel_rfl) (by kernel_rfl) rV_one (by rw [G2, G1])
          with_reducible refine stg_nil ?_
          have r0 := (R0.out.drew.row (rV 25 .i64 G)).otherRow (g := w.heap.size + 1) (by omega) (rV 25 .i64 (asI toT))
          have r1 := (R1.out.drew.otherRow (g := w.heap.size) (by omega) (rV 25 .i64 G)).row (rV 25 .i64 (asI toT))
          rw [← G2] at r0 r1
          have HB2 := Lib.hid (below_setRow (below_setRow HB.out.drew (g := w.heap.size) (Nat.le_refl _) (rV 25 .i64 G)) (g := w.heap.size + 1) (by omega) (rV 25 .i64 (asI toT)))
          rw [← G2] at HB2
          simp only [List.length_cons, List.length_nil, Nat.zero_add, Nat.reduceAdd]
          go_wp2
          refine bodyPost_ret (results_row2 rfl _ _ _ _ _ _ _ _ _ _ rfl rfl r0 r1 Try.underlying167 rfl (by kernel_rfl) Try.underlying167 rfl (by kernel_rfl)) rfl ?_
          exact ⟨by rw [HGB.out], HB2.out⟩
end Go.Proofs.Ythipnbiilobjeaa
