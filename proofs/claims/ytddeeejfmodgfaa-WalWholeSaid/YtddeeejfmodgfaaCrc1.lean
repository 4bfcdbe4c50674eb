/- Crc: contracts of the program: table, sum. -/
import Derived.Test.YtddeeejfmodgfaaCrcP2
import Derived.Test.YtddeeejfmodgfaaStr
import Derived.Laws.Rows
import Derived.Laws.CopyOwn
import Derived.Deep.QuietTactic
import Derived.WalkSmall
namespace Go.Proofs.Ytddeeejfmodgfaa
open Go.RowKit

/-- The table, as far as it is filled. -/
def tabA (k : Nat) : Array Value := ((List.range 256).map fun j => Value.int .u32 (if j < k then ((ctab j).toNat : Int) else 0)).toArray
def tabV : Array Value := tabA 256

theorem tabA_size (k : Nat) : (tabA k).size = 256 := by simp [tabA]
theorem tabA_one (k : Nat) : (tabA k).all (·.oneCell') = true := by
  rw [Array.all_eq_true_iff_forall_mem]
  intro v hv
  simp only [tabA, List.mem_toArray, List.mem_map] at hv
  obtain ⟨j, _, rfl⟩ := hv
  rfl
theorem tabA_zero : Try.zeroCells71 = tabA 0 := by
  refine Array.ext (by rw [tabA_size, Try.zeroCells71_size]) fun i h1 h2 => ?_
  have e : (tabA 0)[i]'h2 = .int .u32 0 := by simp [tabA]
  rw [e]
  have key : (Try.zeroCells71.all fun v => match v with | .int .u32 0 => true | _ => false) = true := by kernel_rfl
  have := Array.all_eq_true.1 key i h1
  split at this
  · assumption
  · cases this
theorem tabA_get (k i : Nat) (h : i < 256) : (tabA k)[i]? = some (.int .u32 (if i < k then ((ctab i).toNat : Int) else 0)) := by
  simp [tabA, h]
theorem tabA_set (k : Nat) : (tabA k).setIfInBounds k (.int .u32 ((ctab k).toNat : Int)) = tabA (k + 1) := by
  refine Array.ext (by simp [tabA_size]) fun i h1 h2 => ?_
  rw [tabA_size] at h2
  rw [Array.getElem_setIfInBounds]
  · by_cases h : k = i
    · subst h; simp [tabA]
    · rw [if_neg h]
      simp only [tabA, List.getElem_toArray, List.getElem_map, List.getElem_range]
      by_cases h' : i < k
      · rw [if_pos h', if_pos (by omega)]
      · rw [if_neg h', if_neg (by omega)]
  · rw [tabA_size]; exact h2

theorem and1 (r : BitVec 32) : Go.bits .and .u32 (r.toNat : Int) 1 = ((r.toNat % 2 : Nat) : Int) := by
  have := u32_and_nat r.toNat 1 r.isLt (by decide)
  rw [show ((1 : Nat) : Int) = 1 from rfl] at this
  rw [this, Nat.and_one_is_mod]

set_option maxRecDepth 100000 in
set_option maxHeartbeats 1000000 in
theorem table_any (w : World) :
    Calls Try.prog 55 #[] w fun e w' => e = .returned (.agg tabV) ∧ Below w.heap.size w w' := by
  have hz := tabA_zero
  have HZ := Lib.hid hz
  clear hz
  go_enter Try.func55, Try.ntmps55
  go_wp2
  go_loopw [4] (fun c wr => ∃ k : Nat, k ≤ 256 ∧ c = .int .i64 k ∧ Hid (wr.heap[w.heap.size]? = some (.cells (tabA 0) 71 (0, 0))) ∧ Hid (wr.heap[w.heap.size + 1]? = some (.cells (tabA k) 71 (0, 0))) ∧ Hid (Below w.heap.size w wr)) (fun c _ => 256 - (intOf c).toNat)
  case atStart =>
    rw [HZ.out]
    refine ⟨0, Nat.zero_le _, rfl, Lib.hid ?_, Lib.hid ?_, Lib.hid (((Below.refl _ _).alloc (Nat.le_refl _) _).alloc (by simp) _)⟩
    · exact heap_alloc2_old _ _ _
    · exact heap_alloc2_new _ _ _
  case round =>
    obtain ⟨k, hk, rfl, H0, H1, HB⟩ := hrel
    by_cases hlt : k < 256
    · obtain ⟨R0, hR0⟩ : ∃ R0, BitVec.ofNat 32 k = R0 := ⟨_, rfl⟩
      have hR0n : (R0.toNat : Int) = (k : Int) := by rw [← hR0, BitVec.toNat_ofNat]; omega
      have HR := Lib.hid hR0
      have HRn := Lib.hid hR0n
      clear hR0 hR0n
      go_wp2
      go_loop [3, 9] (fun r c => ∃ (j : Nat), j ≤ 8 ∧ c = .int .i64 j ∧ r = .int .u32 ((csteps j R0).toNat : Int)) (fun _ c => 8 - (intOf c).toNat)
      case atStart => exact ⟨0, Nat.zero_le _, rfl, by rw [← HRn.out]; rfl⟩
      case round =>
        obtain ⟨j, hj, rfl, rfl⟩ := hrel
        by_cases hjlt : j < 8
        · have ha := and1 (csteps j R0)
          have hn := csteps_succ j R0
          have s1 := bit_step1 (csteps j R0)
          have s0 := bit_step0 (csteps j R0)
          rw [← hn] at s1 s0
          have hbd : 0 ≤ ((csteps j R0).toNat : Int) := by omega
          generalize hR2 : csteps (j + 1) R0 = R2 at *
          have HR2 := Lib.hid hR2
          generalize csteps j R0 = R1 at *
          clear hn hR2
          rcases Nat.mod_two_eq_zero_or_one R1.toNat with h | h
          · rw [h] at ha
            have HS := Lib.hid (s0 h)
            clear s0 s1 h
            go_wp2
            go_round
            case rel => exact ⟨j + 1, by omega, by go_num, by rw [HR2.out]; exact congrArg _ HS.out⟩
            case measure => simp [intOf]; omega
          · rw [h] at ha
            have HS := Lib.hid (s1 h)
            clear s0 s1 h
            go_wp2
            go_round
            case rel => exact ⟨j + 1, by omega, by go_num, by rw [HR2.out]; exact congrArg _ HS.out⟩
            case measure => simp [intOf]; omega
        · obtain rfl : j = 8 := by omega
          have c1 : wr.cell? ⟨w.heap.size + 1, k, none⟩ = some (.int .u32 0) := by
            rw [cell_of_row _ _ _ _ _ _ H1.out, tabA_get k k hlt]; simp
          have f1 : wr.frozen? ⟨w.heap.size + 1, k, none⟩ = false := frozen_of_row _ _ _ _ _ H1.out
          go_wp2
          go_roundw
          case rel =>
            refine ⟨k + 1, by omega, by go_num, Lib.hid ?_, Lib.hid ?_, Lib.hid (HB.out.setCell (by simp) _)⟩
            · rw [heap_setCell_other _ _ _ _ (by simp)]; exact H0.out
            · rw [heap_setCell_same _ _ _ _ _ _ H1.out, ← tabA_set]
              unfold ctab
              rw [HR.out]
          case measure => simp [intOf]; omega
    · obtain rfl : k = 256 := by omega
      go_wp2_with (first
        | (refine wpList_load_row rfl 71 _ rfl (w.heap.size + 1) rfl 71 (tabA 256) (0, 0) _ H1.out Try.underlying71 rfl (by rw [tabA_size]; kernel_rfl) ?_)
        | (refine wpList_store_row rfl 71 _ _ rfl w.heap.size (tabA 256) rfl rfl 71 (tabA 0) H0.out (by rw [tabA_size]; kernel_rfl) (by rw [tabA_size, tabA_size]) (tabA_one _) ?_))
      refine bodyPost_ret (v := .agg tabV) ?_ rfl ⟨rfl, below_setRow HB.out (Nat.le_refl _) _⟩
      exact results_cell_row Try.results55 _ _ w.heap.size 71 (tabA 256) (0, 0) _ rfl (setRow_heap _ _ _ _ _ _ H0.out) Try.underlying71 rfl (by rw [tabA_size]; kernel_rfl)

/-- A table lies there. -/
def HasTab (w : World) (g : Nat) : Prop := ∀ i, i < 256 → w.cell? ⟨g, i, none⟩ = some (.int .u32 ((ctab i).toNat : Int))

theorem hasTab_heap {w : World} {g : Nat} {T : TypeId} {fr : Nat × Nat} (h : w.heap[g]? = some (.cells tabV T fr)) : HasTab w g := fun i hi => by
  rw [cell_of_row _ _ _ _ _ _ h]
  unfold tabV
  rw [tabA_get 256 i hi, if_pos hi]

theorem xor_lt_256 {a b : Nat} (h1 : a < 256) (h2 : b < 256) : a ^^^ b < 256 := Nat.xor_lt_two_pow (n := 8) h1 h2

set_option maxRecDepth 100000 in
set_option maxHeartbeats 1000000 in
theorem sum_any (s : ByteArray) (g : Nat) (w : World) (hs : s.size ≤ 9223372036854775807) (ht : HasTab w g) :
    Calls Try.prog 56 #[.string s, .pointer (some ⟨g, 0, none⟩)] w fun e w' => e = .returned (.int .u32 (crcL (bl s))) ∧ ∃ nd, w' = w.drewN nd := by
  have HT := Lib.hid ht
  clear ht
  go_enter Try.func56, Try.ntmps56
  go_wp2
  go_loopw [5, 9] (fun r c wr => ∃ k : Nat, k ≤ s.size ∧ c = .int .i64 k ∧ r = .int .u32 ((cfold creg0 ((bl s).take k)).toNat : Int) ∧ Hid (∃ nd, wr = w.drewN nd)) (fun _ c _ => s.size - (intOf c).toNat)
  case atStart => exact ⟨0, Nat.zero_le _, rfl, rfl, Lib.hid ⟨0, rfl⟩⟩
  case round =>
    obtain ⟨k, hk, rfl, rfl, HB⟩ := hrel
    obtain ⟨nd, hnd⟩ := HB.out
    have HN := Lib.hid hnd
    clear hnd HB
    by_cases hlt : k < s.size
    · have hstep := tab_step (cfold creg0 ((bl s).take k)) s[k]
      rw [← cfold_snoc, ← stake hlt] at hstep
      generalize hR2 : cfold creg0 ((bl s).take (k + 1)) = R2 at *
      generalize cfold creg0 ((bl s).take k) = R at *
      have HR2 := Lib.hid hR2
      clear hR2
      have hb := s[k].toNat_lt
      have hx := u8_xor_nat (R.toNat % 256) s[k].toNat (by omega) hb
      have hq := xor_lt_256 (a := R.toNat % 256) (b := s[k].toNat) (by omega) hb
      have hw : IntKind.u8.wrap (R.toNat : Int) = ((R.toNat % 256 : Nat) : Int) := by rw [IntKind.wrap_u8]; omega
      rw [← hw] at hx
      clear hw
      generalize (R.toNat % 256) ^^^ s[k].toNat = q at *
      have hq2 : (q : Int) < 256 := by omega
      have hq0 : 0 ≤ (q : Int) := by omega
      have HS := Lib.hid hstep
      clear hstep
      have c1 : wr.cell? ⟨g, q, none⟩ = some (.int .u32 ((ctab q).toNat : Int)) := by rw [HN.out]; exact HT.out q hq
      generalize (ctab q).toNat = cq at *
      go_wp2
      (refine region_tail 13 mix ?hB ?_; case hB => kernel_rfl); (simp only [List.take_succ_cons, List.take_zero, List.drop_succ_cons, List.drop_zero]; (iterate 13 (with_reducible refine wpStill_step ?_; intro K hK; go_simp; with_reducible refine hK _ ?_; clear hK K)); with_reducible refine wpStill_nil ?_)
      go_wp2
      go_roundw
      case rel => exact ⟨k + 1, by omega, by go_num, by rw [HR2.out]; exact congrArg _ HS.out, Lib.hid ⟨nd + 1, by rw [HN.out]; rfl⟩⟩
      case measure => simp [intOf]; omega
    · obtain rfl : k = s.size := by omega
      have hfin : Go.bits .xor .u32 IntKind.u32.max ((cfold creg0 ((bl s).take s.size)).toNat : Int) = ((crcL (bl s) : Nat) : Int) := by
        rw [stake_all]
        have e : IntKind.u32.max = ((4294967295 : Nat) : Int) := rfl
        rw [e, u32_xor_nat _ _ (by decide) (BitVec.isLt _)]
        unfold crcL
        rw [← BitVec.allOnes_xor, BitVec.toNat_xor]
        rfl
      have HF := Lib.hid hfin
      clear hfin
      go_wp2
      go_ret
      exact ⟨congrArg (fun x => Ending.returned (.int .u32 x)) HF.out, nd, HN.out⟩
end Go.Proofs.Ytddeeejfmodgfaa
