/- Readings of arguments: slices of strings, with their sizes. -/
import Derived.Test.YtddeeejfmodgfaaRep1
namespace Go.Proofs.Ytddeeejfmodgfaa
open Go.ChangeShapes Go.WideShapes Go.ChangeAt Go.RowKit

/-- A slice of strings, none too long. -/
def StrRowZ (w : World) (v : Value) (ss : List ByteArray) : Prop := StrRow w v ss ∧ ∀ i, (ss.getD i ByteArray.empty).size ≤ maxLen

theorem strRowZ_open0 {P : Program} {H : Type} {enc : TypeId × Value → H} {w : World} {base t e : Nat} {v : Value} {d : DataW H} {p : List MemPlace} (ht : P.underlying t = some (.slice e)) (he : P.underlying e = some .string) (hc : P.cellsOf e = 1)
    (hv : Value.okWide P w .any base t v) (h : DataW.Trod enc P w 0 (fun _ => true) true t v d p) : ∃ ss, StrRowZ w v ss := by
  obtain ⟨a0, len, cap, rfl⟩ := okWide_slice ht hv
  obtain ⟨fuel, hf⟩ := h
  rcases open_strings ht he hc hf with ⟨hcs, _⟩ | ⟨a, len', cap', ss, hcs, _, hl, hm, hz, _, hcell, hsz⟩
  · simp [Value.cells] at hcs
    obtain ⟨rfl, rfl, rfl⟩ := hcs
    exact ⟨[], .inl ⟨rfl, rfl⟩, fun i => by simp [List.getD, maxLen]⟩
  · simp [Value.cells] at hcs
    obtain ⟨rfl, rfl, rfl⟩ := hcs
    simp at hz
    refine ⟨ss.take len, .inr ⟨a, len, cap, rfl, hl, hm, by simp; omega, fun i hi => ?_⟩, fun i => ?_⟩
    · rw [hcell i (by omega)]
      simp [List.getD, List.getElem?_take, hi]
    · rw [List.getD]
      cases hg : (ss.take len)[i]? with
      | none => simp [maxLen]
      | some s =>
        have := List.mem_of_getElem? hg
        exact hsz s (List.mem_of_mem_take this)

theorem strRowZ_open {H : Type} {enc : TypeId × Value → H} {w : World} {base : Nat} {v : Value} {d : DataW H} {p : List MemPlace} (hv : Value.okWide Try.prog w .any base 33 v) (h : DataW.Trod enc Try.prog w 0 (fun _ => true) true 33 v d p) (_ : ∀ x ∈ p, x.block < w.heap.size) : ∃ ss, StrRowZ w v ss :=
  strRowZ_open0 Try.underlying33 Try.underlying9 (by kernel_rfl) hv h
end Go.Proofs.Ytddeeejfmodgfaa
