/- Vote, the plain side: a place among what stands in order. -/
import Derived.Test.YthipnbiilobjeaaVo16
namespace Go.Proofs.Ythipnbiilobjeaa
open Go.RowKit

section
variable {α : Type} {lt : α → α → Bool}

theorem cut_take {V : List α} {b : α} {i : Nat} (h : CutAt lt V b i) : V.take i = V.filter (fun x => lt x b) := by
  have e : V = V.take i ++ V.drop i := (List.take_append_drop i V).symm
  conv => rhs; rw [e, List.filter_append]
  rw [List.filter_eq_self.2, List.filter_eq_nil_iff.2, List.append_nil]
  · intro x hx
    obtain ⟨j, hj⟩ := List.getElem?_of_mem hx
    rw [List.getElem?_drop] at hj
    rw [h.2.2 _ _ hj (by omega)]
    simp
  · intro x hx
    obtain ⟨j, hj⟩ := List.getElem?_of_mem hx
    rw [List.getElem?_take] at hj
    split at hj
    · exact h.2.1 _ _ hj (by omega)
    · cases hj
theorem cut_drop {V : List α} {b : α} {i : Nat} (h : CutAt lt V b i) : V.drop i = V.filter (fun x => !lt x b) := by
  have e : V = V.take i ++ V.drop i := (List.take_append_drop i V).symm
  conv => rhs; rw [e, List.filter_append]
  rw [List.filter_eq_nil_iff.2, List.filter_eq_self.2, List.nil_append]
  · intro x hx
    obtain ⟨j, hj⟩ := List.getElem?_of_mem hx
    rw [List.getElem?_drop] at hj
    rw [h.2.2 _ _ hj (by omega)]
    rfl
  · intro x hx
    obtain ⟨j, hj⟩ := List.getElem?_of_mem hx
    rw [List.getElem?_take] at hj
    split at hj
    · rw [h.2.1 _ _ hj (by omega)]; simp
    · cases hj
end
end Go.Proofs.Ythipnbiilobjeaa
