/- Vote: slices.Delete of one address out of a row of the call's own. -/
import Derived.Test.YthipnbiilobjeaaVo12
namespace Go.Proofs.Ythipnbiilobjeaa
open Go.RowKit

/-- 'clear' of a row that may be written, whatever the size of an element. -/
theorem run_clear_k (w : World) (t e ty : TypeId) (z : Value) (g o n c : Nat) (cur : Array Value) (ht : Try.prog.underlying t = some (.slice e)) (hv : ∀ w, (zeroValue e).run Try.prog w = .ok z w) (h1 : ∀ u ∈ (Builtin.zeroCells z.cells n).toList, u.oneCell' = true)
    (hn : 0 < n) (hg : w.heap[g]? = some (.cells cur e (0, 0))) (hfit : o + (Builtin.zeroCells z.cells n).size ≤ cur.size) :
    (Builtin.clear_ #[t] ty #[.slice (some ⟨g, o, none⟩) n c]).run Try.prog w = .ok (.tuple #[]) (w.setRow g (cur.toList.take o ++ (Builtin.zeroCells z.cells n).toList ++ cur.toList.drop (o + (Builtin.zeroCells z.cells n).size)).toArray) := by
  have hst := run_storeCells_at Try.prog g o e (Builtin.zeroCells z.cells n).toList 0 cur w hg (by simpa using hfit) h1
  obtain ⟨m, rfl⟩ : ∃ m, n = m + 1 := ⟨n - 1, by omega⟩
  simp only [Nat.add_zero] at hst
  simp [Builtin.clear_, run_underlying ht, hv, hst]

theorem zero_one (z : Value) (h : z.cells = #[z]) (n : Nat) : (Builtin.zeroCells z.cells n).toList = List.replicate n z := by
  rw [h]
  simp [Builtin.zeroCells]
  apply List.ext_getElem
  · simp
  · intro i h1 h2
    simp [Nat.mod_one]

set_option maxRecDepth 100000 in
set_option maxHeartbeats 2000000 in
theorem deleteS_any (v : Value) (l : List ByteArray) (i : Nat) (w : World) (B : Nat) (hown : OwnE encS 9 w B v l) (hi : i < l.length) (hB : B ≤ w.heap.size) (hl : l.length ≤ 1000000) :
    Calls Try.prog 108 #[v, .int .i64 i, .int .i64 ((i : Int) + 1)] w fun e w' => ∃ v', e = .returned v' ∧ OwnE encS 9 w' B v' (l.take i ++ l.drop (i + 1)) ∧ Below B w w' := by
  rcases hown.2 with ⟨hv, hn⟩ | ⟨g, cap, cur, rfl, hg, hc, hn, hcap, hsz, htk⟩
  · omega
  · have hcap2 : cap ≤ 9223372036854775807 := by unfold maxLen at hcap; omega
    have hlt : (i : Int) + 1 ≤ l.length := by omega
    have hw1 : IntKind.i64.wrap ((i : Int) + 1) = (i : Int) + 1 := by rw [IntKind.wrap_i64]; omega
    have hb3 : (0 : Int) ≤ (i : Int) + 1 := by omega
    have htn : ((i : Int) + 1).toNat = i + 1 := by omega
    have hne : ¬ ((i : Int) = (i : Int) + 1) := by omega
    have hsz3 : cur.size = cap := by rw [hsz, k1S]
    have htk3 : cur.toList.take l.length = flat encS l := by rw [k1S] at htk; exact htk
    obtain ⟨i0, hi0, hz0, hz1, hz2⟩ := info_parts info_str
    obtain ⟨m, hm⟩ : ∃ m, l.length = m + 1 := ⟨l.length - 1, by omega⟩
    have hclen : cur.toList.length = cap := by rw [Array.length_toList, hsz3]
    have hdl : (flat encS (l.drop (i + 1))).length = m - i := by rw [flat_lengthS, List.length_drop, hm]; omega
    have hcsW : ∀ W : World, W.heap[g]? = some (.cells cur 9 (0, 0)) → ∀ j u, (flat encS l)[j]? = some u → W.cell? ⟨g, j, none⟩ = some u := fun W hW j u hj => by
      have ho : OwnE encS 9 W B (.slice (some ⟨g, 0, none⟩) l.length cap) l := ⟨hown.1, .inr ⟨g, cap, cur, rfl, hg, hW, hn, hcap, hsz, htk⟩⟩
      have := World.ownsRow.cells ho rfl j u hj
      have hadd : (⟨g, 0, none⟩ : Addr).add j = ⟨g, j, none⟩ := by rw [Addr.add_lit, Nat.zero_add]
      rwa [hadd] at this
    have hlen : (l.take i ++ l.drop (i + 1)).length = m := by
      rw [List.length_append, List.length_take, List.length_drop, hm]; omega
    have HC1 : Hid (∃ C1 : Array Value, C1 = (cur.toList.take i ++ flat encS (l.drop (i + 1)) ++ cur.toList.drop (i + (flat encS (l.drop (i + 1))).length)).toArray ∧ C1.size = cap ∧ C1.toList.take m = flat encS (l.take i ++ l.drop (i + 1))) := Lib.hid (by
      refine ⟨_, rfl, ?_, ?_⟩
      · simp only [List.size_toArray, List.length_append, List.length_take, List.length_drop, hclen, hdl]
        omega
      · have e1 : (cur.toList.take i ++ flat encS (l.drop (i + 1))).length = m := by rw [List.length_append, List.length_take, hclen, hdl]; omega
        show (cur.toList.take i ++ flat encS (l.drop (i + 1)) ++ cur.toList.drop (i + (flat encS (l.drop (i + 1))).length)).take m = _
        rw [← e1, List.take_left, flat_append, ← flat_takeS, ← htk3, List.take_take, Nat.min_eq_left (by omega)])
    obtain ⟨C1, hC1, hC1s, hC1t⟩ := HC1.out
    clear HC1
    have hr1 : (w.drew.setRow g C1).heap[g]? = some (.cells C1 9 (0, 0)) := setRow_heap w.drew g cur C1 _ _ hc
    have hB1 : Below B w (w.drew.setRow g C1) := (Below.refl B w).drew.trans (below_setRow _ _ _ _ hg)
    have happ : ∀ a : Addr, (∀ j u, (flat encS (l.drop (i + 1)))[j]? = some u → w.drew.cell? (a.add j) = some u) → ∀ c, (Builtin.append_ #[33, 33] 33 #[.slice (some ⟨g, 0, none⟩) i cap, .slice (some a) (m - i) c]).run Try.prog w.drew = .ok (.slice (some ⟨g, 0, none⟩) m cap) (w.drew.setRow g C1) := fun a ha c => by
      have := run_append_room w.drew 33 33 9 i0 Try.underlying33 hi0 g i cap cur hc a (m - i) c (flat encS (l.drop (i + 1))) (by rw [hdl, hz1, Nat.mul_one]) ha (flat_one _ _) (by omega) (by rw [hdl, hz1, hsz3]; omega)
      rw [hz1, Nat.mul_one, ← hC1, show i + (m - i) = m by omega] at this
      exact this
    have hclr := run_clear_k (w.drew.setRow g C1) 33 9 0 (.string ⟨#[]⟩) g m 1 (cap - m) C1 Try.underlying33 (fun w => by simp [zeroValue, typeInfo, hi0, hz0]) (fun u hu => by
        rw [zero_one _ rfl] at hu
        simp at hu
        subst hu
        rfl) (by decide) hr1 (by rw [size_zeroCells, hC1s]; show m + 1 * 1 ≤ cap; omega)
    have HC2 : Hid (∃ C2 : Array Value, C2 = (C1.toList.take m ++ (Builtin.zeroCells (Value.string ⟨#[]⟩).cells 1).toList ++ C1.toList.drop (m + (Builtin.zeroCells (Value.string ⟨#[]⟩).cells 1).size)).toArray ∧ C2.size = cap ∧ C2.toList.take m = flat encS (l.take i ++ l.drop (i + 1))) := Lib.hid (by
      have hl1 : C1.toList.length = cap := by rw [Array.length_toList, hC1s]
      refine ⟨_, rfl, ?_, ?_⟩
      · simp only [List.size_toArray, List.length_append, List.length_take, List.length_drop, hl1, Array.length_toList, size_zeroCells]
        show min m cap + 1 * 1 + (cap - (m + 1 * 1)) = cap
        omega
      · have e1 : (C1.toList.take m).length = m := by rw [List.length_take, hl1]; omega
        show (C1.toList.take m ++ (Builtin.zeroCells (Value.string ⟨#[]⟩).cells 1).toList ++ C1.toList.drop (m + (Builtin.zeroCells (Value.string ⟨#[]⟩).cells 1).size)).take m = _
        rw [List.append_assoc]
        rw [List.take_append_of_le_length (by omega), List.take_take, Nat.min_self]
        exact hC1t)
    obtain ⟨C2, hC2, hC2s, hC2t⟩ := HC2.out
    clear HC2
    rw [← hC2] at hclr
    generalize w.drew.setRow g C1 = W1 at *
    have hfin : Below B w (W1.setRow g C2) := hB1.trans (below_setRow _ _ _ _ hg)
    have hrow : (W1.setRow g C2).heap[g]? = some (.cells C2 9 (0, 0)) := setRow_heap W1 g C1 C2 _ _ hr1
    have HCW := Lib.hid (hcsW w.drew hc)
    have HAPP := Lib.hid happ
    have HCLR := Lib.hid hclr
    clear hC1 hC2 hcsW happ hclr htk htk3 hc hown hC1t hr1 hclen hsz hsz3
    have hmc : m + 1 ≤ cap := by omega
    have hic : i ≤ cap := by omega
    have him : i ≤ m := by omega
    have hcm : ¬ cap = m := by omega
    rw [hm] at hlt hn hl hi ⊢
    by_cases hci : cap = i + 1
    · obtain rfl : m = i := by omega
      subst hci
      have hmm : (m : Int) ≤ (m : Int) + 1 := by omega
      go_enter Try.func108, Try.ntmps108
      go_wp2_with fail
      (refine region_tail 6 mix ?hB ?_; case hB => kernel_rfl); (simp only [List.take_succ_cons, List.take_zero, List.drop_succ_cons, List.drop_zero]; (iterate 6 (with_reducible refine wpStill_step ?_; intro K hK; go_simp; with_reducible refine hK _ ?_; clear hK K)); with_reducible refine wpStill_nil ?_)
      have HA := HAPP.out
      rw [Nat.sub_self] at HA
      refine Lib.wpList_append_run w.drew rfl _ _ _ _ rfl _ _ rfl rfl _ _ (HA ⟨g, 0, none⟩ (fun j u hj => by
        rw [List.getElem?_eq_none (by omega)] at hj
        cases hj) 0) ?_
      have hclr2 := HCLR.out
      rw [show m + 1 - m = 1 by omega] at hclr2
      go_wp2_with (simp only [hclr2])
      go_ret
      exact ⟨_, rfl, ⟨by rw [flat_lengthS, hlen, k1S], .inr ⟨g, m + 1, C2, by rw [hlen]; rfl, hg, hrow, by rw [hlen]; omega, hcap, by rw [k1S]; exact hC2s, by rw [hlen, k1S]; exact hC2t⟩⟩, hfin⟩
    · go_enter Try.func108, Try.ntmps108
      go_wp2_with fail
      (refine region_tail 6 mix ?hB ?_; case hB => kernel_rfl); (simp only [List.take_succ_cons, List.take_zero, List.drop_succ_cons, List.drop_zero]; (iterate 6 (with_reducible refine wpStill_step ?_; intro K hK; go_simp; with_reducible refine hK _ ?_; clear hK K)); with_reducible refine wpStill_nil ?_)
      refine Lib.wpList_append_run w.drew rfl _ _ _ _ rfl _ _ rfl rfl _ _ (HAPP.out ⟨g, i + 1, none⟩ (fun j u hj => by
        rw [Addr.add_lit]
        rw [← flat_dropS, List.getElem?_drop] at hj
        exact HCW.out _ u hj) _) ?_
      have hclr2 := HCLR.out
      go_wp2_with (simp only [hclr2])
      go_ret
      exact ⟨_, rfl, ⟨by rw [flat_lengthS, hlen, k1S], .inr ⟨g, cap, C2, by rw [hlen]; rfl, hg, hrow, by rw [hlen]; omega, hcap, by rw [k1S]; exact hC2s, by rw [hlen, k1S]; exact hC2t⟩⟩, hfin⟩
end Go.Proofs.Ythipnbiilobjeaa
