/- Readings of arguments: slices of strings; words. -/
import Derived.Test.YthipnbiilobjeaaLaw
import Derived.SliceStrings
import Derived.Lib.Hide
import Derived.WalkKit
import Derived.WalkSpells
import Derived.WalkLawsBesides
namespace Go.Proofs.Ythipnbiilobjeaa
open Go.ChangeShapes Go.WideShapes Go.ChangeAt Go.RowKit

theorem Try.own : ownKnob Try.prog.godebug = none := by kernel_rfl
theorem Try.laidOut : laidOutB Try.prog = true := by kernel_rfl

theorem addr_add_block (a : Addr) (n : Nat) : (a.add n).block = a.block := by unfold Addr.add; split <;> rfl

/-- A slice of strings: nil, or a row of cells that hold the strings. -/
def StrRow (w : World) (v : Value) (ss : List ByteArray) : Prop :=
  (v = .slice none 0 0 ∧ ss = []) ∨ ∃ (a : Addr) (len cap : Nat), v = .slice (some a) len cap ∧ len ≤ cap ∧ cap ≤ maxLen ∧ ss.length = len ∧ ∀ i, i < len → w.cell? (a.add i) = some (.string (ss.getD i ByteArray.empty))

theorem strRow_open0 {P : Program} {H : Type} {enc : TypeId × Value → H} {w : World} {base t e : Nat} {v : Value} {d : DataW H} {p : List MemPlace} (ht : P.underlying t = some (.slice e)) (he : P.underlying e = some .string) (hc : P.cellsOf e = 1)
    (hv : Value.okWide P w .any base t v) (h : DataW.Trod enc P w 0 (fun _ => true) true t v d p) : ∃ ss, StrRow w v ss := by
  obtain ⟨a0, len, cap, rfl⟩ := okWide_slice ht hv
  obtain ⟨fuel, hf⟩ := h
  rcases open_strings ht he hc hf with ⟨hcs, _⟩ | ⟨a, len', cap', ss, hcs, _, hl, hm, hz, _, hcell, _⟩
  · simp [Value.cells] at hcs
    obtain ⟨rfl, rfl, rfl⟩ := hcs
    exact ⟨[], .inl ⟨rfl, rfl⟩⟩
  · simp [Value.cells] at hcs
    obtain ⟨rfl, rfl, rfl⟩ := hcs
    simp at hz
    refine ⟨ss.take len, .inr ⟨a, len, cap, rfl, hl, hm, by simp; omega, fun i hi => ?_⟩⟩
    rw [hcell i (by omega)]
    simp [List.getD, hi]

theorem u64_wrap_lt {x : Int} (h0 : 0 ≤ x) (h1 : x < 18446744073709551616) : IntKind.u64.wrap x = x := IntWalk.u64_in _ (by omega)

theorem u64_wrap_bd (x : Int) : 0 ≤ IntKind.u64.wrap x ∧ IntKind.u64.wrap x < 18446744073709551616 := by
  simp [IntKind.wrap, IntKind.bits, IntKind.signed]; omega

theorem i64_bd {n : Int} (h : (Lit.int .i64 n).wf = true) : -9223372036854775808 ≤ n ∧ n ≤ 9223372036854775807 := by
  simpa [Lit.wf, IntKind.min, IntKind.max, IntKind.signed, IntKind.bits] using h
theorem u64_bd {n : Int} (h : (Lit.int .u64 n).wf = true) : 0 ≤ n ∧ n ≤ 18446744073709551615 := by
  simpa [Lit.wf, IntKind.min, IntKind.max, IntKind.signed, IntKind.bits] using h

theorem below_same {w : World} {e : Ending} {w' : World} {v : Value} (h : e = .returned v ∧ w = w') : e = .returned v ∧ Below w.heap.size w w' := by
  obtain ⟨h1, rfl⟩ := h
  exact ⟨h1, Below.refl _ _⟩


/-- The Go text 'min(len, top)', as the walk writes it, is 'm'. -/
def MinIs (top : Int) (len m : Nat) : Prop := (if top < (len : Int) then top else (len : Int)) = (m : Int) ∧ m ≤ len ∧ (m : Int) ≤ top

theorem minIs_ex (top : Int) (h : 0 ≤ top) (len : Nat) : ∃ m, MinIs top len m := by
  by_cases c : top < (len : Int)
  · exact ⟨top.toNat, by rw [if_pos c]; omega, by omega, by omega⟩
  · exact ⟨len, by rw [if_neg c], Nat.le_refl _, by omega⟩

end Go.Proofs.Ythipnbiilobjeaa
