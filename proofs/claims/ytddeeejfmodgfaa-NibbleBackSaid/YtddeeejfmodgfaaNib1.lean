/- Nibble: contracts. -/
import Derived.Test.YtddeeejfmodgfaaNibP
import Derived.Test.YtddeeejfmodgfaaRep1
import Derived.Test.YtddeeejfmodgfaaReg
namespace Go.Proofs.Ytddeeejfmodgfaa
open Go.RowKit

/-- How many bytes two texts begin with alike. -/
def shareB (a b : ByteArray) : Nat := shareL a.data.toList b.data.toList

theorem bget {a : ByteArray} {k : Nat} (h : k < a.size) : a.data.toList[k]? = some a[k] := by
  have h' : k < a.data.toList.length := by simpa using h
  rw [List.getElem?_eq_getElem h']
  rfl

theorem shareB_le (a b : ByteArray) : shareB a b ≤ a.size ∧ shareB a b ≤ b.size := by
  have := shareL_le a.data.toList b.data.toList
  simpa [shareB] using this

theorem shareB_alike (a b : ByteArray) {k : Nat} (h : k < shareB a b) (h1 : k < a.size) (h2 : k < b.size) : ((a[k].toNat : Int) == (b[k].toNat : Int)) = true := by
  have e := shareL_alike a.data.toList b.data.toList k h
  rw [bget h1, bget h2] at e
  rw [Option.some.inj e]
  simp

theorem shareB_stop (a b : ByteArray) (h1 : shareB a b < a.size) (h2 : shareB a b < b.size) : ((a[shareB a b].toNat : Int) == (b[shareB a b].toNat : Int)) = false := by
  have e := shareL_stop a.data.toList b.data.toList (by simpa [shareB] using h1) (by simpa [shareB] using h2)
  change a.data.toList[shareB a b]? ≠ b.data.toList[shareB a b]? at e
  rw [bget h1, bget h2] at e
  simp only [beq_eq_false_iff_ne, ne_eq]
  intro hh
  exact e (congrArg some (UInt8.toNat_inj.1 (by omega)))

set_option maxHeartbeats 2000000 in
theorem share_any (a b : ByteArray) (w : World) (ha : a.size ≤ 9223372036854775807) (hb : b.size ≤ 9223372036854775807) :
    Calls Try.prog 16 #[.string a, .string b] w fun e w' => e = .returned (.int .i64 (shareB a b)) ∧ Below w.heap.size w w' := by
  have H1 := shareB_le a b
  have HS := Lib.hid (shareB_stop a b)
  generalize hn : shareB a b = n at *
  have HA : Hid (∀ k, k < n → (h1 : k < a.size) → (h2 : k < b.size) → ((a[k].toNat : Int) == (b[k].toNat : Int)) = true) := by subst hn; exact fun k h h1 h2 => shareB_alike a b h h1 h2
  clear hn
  go_enter Try.func16, Try.ntmps16
  go_wp2
  go_loopw [5] (fun i wr => ∃ k : Nat, k ≤ n ∧ i = .int .i64 k ∧ Below w.heap.size w wr) (fun i _ => n - (intOf i).toNat)
  case atStart => exact ⟨0, Nat.zero_le _, rfl, Below.refl _ _⟩
  case round =>
    obtain ⟨k, hk, rfl, hbl⟩ := hrel
    have HB := Lib.hid hbl
    clear hbl
    by_cases hlt : k < n
    · have l1 : k < a.size := by omega
      have l2 : k < b.size := by omega
      have hq := HA.out k hlt l1 l2
      go_wp2
      (refine region_tail 18 mix ?hB ?_; case hB => kernel_rfl); (simp only [List.take_succ_cons, List.take_zero, List.drop_succ_cons, List.drop_zero]; (iterate 18 (with_reducible refine wpStill_step ?_; intro K hK; go_simp; with_reducible refine hK _ ?_; clear hK K)); with_reducible refine wpStill_nil ?_)
      go_wp2
      go_roundw
      case rel => exact ⟨k + 1, by omega, by go_num, HB.out.drew⟩
      case measure => simp [intOf]; omega
    · obtain rfl : k = n := by omega
      by_cases l1 : k < a.size
      · by_cases l2 : k < b.size
        · have hq := HS.out l1 l2
          go_wp2
          (refine region_tail 18 mix ?hB ?_; case hB => kernel_rfl); (simp only [List.take_succ_cons, List.take_zero, List.drop_succ_cons, List.drop_zero]; (iterate 18 (with_reducible refine wpStill_step ?_; intro K hK; go_simp; with_reducible refine hK _ ?_; clear hK K)); with_reducible refine wpStill_nil ?_)
          go_wp2
          go_ret
          exact ⟨rfl, HB.out.drew⟩
        · have hd : decide (k < b.size) = false := by simpa using l2
          clear l2
          go_wp2
          (refine region_tail 18 mix ?hB ?_; case hB => kernel_rfl); (simp only [List.take_succ_cons, List.take_zero, List.drop_succ_cons, List.drop_zero]; (iterate 18 (with_reducible refine wpStill_step ?_; intro K hK; go_simp; with_reducible refine hK _ ?_; clear hK K)); with_reducible refine wpStill_nil ?_)
          go_wp2
          go_ret
          exact ⟨rfl, HB.out.drew⟩
      · have hd : decide (k < a.size) = false := by simpa using l1
        clear l1
        go_wp2
        (refine region_tail 18 mix ?hB ?_; case hB => kernel_rfl); (simp only [List.take_succ_cons, List.take_zero, List.drop_succ_cons, List.drop_zero]; (iterate 18 (with_reducible refine wpStill_step ?_; intro K hK; go_simp; with_reducible refine hK _ ?_; clear hK K)); with_reducible refine wpStill_nil ?_)
        go_wp2
        go_ret
        exact ⟨rfl, HB.out.drew⟩
end Go.Proofs.Ytddeeejfmodgfaa
