/- Regions that draw their order and hold calls that make memory: one walk, in the order of the text, at the class of the worlds in which nothing old has turned. -/
import Derived.Test.YthipnbiilobjeaaRow
import Derived.Test.YthipnbiilobjeaaReg
import Derived.Deep.QuietTactic
import Derived.BigQuiet
namespace Go.Proofs.Ythipnbiilobjeaa
open Go.RowKit

/-- A world in which all that was in 'W' is as it was. -/
def Later (W : World) : Type := { w' : World // Below W.heap.size W w' }
def Later.w {W : World} (u : Later W) : World := u.1
theorem Later.below {W : World} (u : Later W) : Below W.heap.size W u.w := u.2
theorem Later.size {W : World} (u : Later W) : W.heap.size ≤ u.w.heap.size := u.2.size
def Later.of {W w' : World} (h : Below W.heap.size W w') : Later W := ⟨w', h⟩

instance laterNonempty (W : World) : Nonempty (Later W) := ⟨Later.of (Below.refl _ _)⟩

theorem region_later {P : Program} {id : Nat} {Q : Exit → Act → World → Prop} {a : Act} {w : World} {l : List Oper} (hm : P.follows .mixedOrders = true) (hB : Region.lexB .any l.toArray = true)
    (h : wpQuiet P l.toArray (fun w' => ∃ u : Later w, w' = u.w) (fun a' => ∀ w', (∃ u : Later w, w' = u.w) → Q .normal a' w') l a) : (Code.region id l.toArray true).wp P Q a w :=
  wp_region_quiet (C := fun w' => ∃ u : Later w, w' = u.w) hm hB ⟨Later.of (Below.refl w.heap.size w).drew, rfl⟩ (by simpa using h)

theorem Later.call {P : Program} {f : FuncId} {args : Array Value} {v : Value} {W : World} {u : Later W} (h : Calls P f args u.w fun e w' => e = .returned v ∧ Below u.w.heap.size u.w w') :
    Calls P f args u.w fun e w'' => e = .returned v ∧ ∃ u' : Later W, w'' = u'.w :=
  h.mono fun _ _ ⟨he, hb⟩ => ⟨he, Later.of (u.below.trans (hb.mono u.size)), rfl⟩

theorem Later.callSame {P : Program} {f : FuncId} {args : Array Value} {v : Value} {W : World} {u : Later W} (h : Calls P f args u.w fun e w' => e = .returned v ∧ u.w = w') :
    Calls P f args u.w fun e w'' => e = .returned v ∧ ∃ u' : Later W, w'' = u'.w :=
  h.mono fun _ _ ⟨he, hb⟩ => ⟨he, u, hb.symm⟩

theorem RowAt.later {W : World} {k : Nat} {cs : Array Value} {T : TypeId} (h : RowAt W k cs T) (u : Later W) : RowAt u.w k cs T := h.belowS u.below

theorem RowAt.l1 {W : World} {k : Nat} {v0 : Value} {T : TypeId} (h : RowAt W k #[v0] T) : ∀ u : Later W, u.w.cell? ⟨k, 0, none⟩ = some v0 := fun u => (h.later u).cell 0
theorem RowAt.l2 {W : World} {k : Nat} {v0 v1 : Value} {T : TypeId} (h : RowAt W k #[v0, v1] T) : (∀ u : Later W, u.w.cell? ⟨k, 0, none⟩ = some v0) ∧ (∀ u : Later W, u.w.cell? ⟨k, 1, none⟩ = some v1) :=
  ⟨fun u => (h.later u).cell 0, fun u => (h.later u).cell 1⟩
theorem RowAt.l3 {W : World} {k : Nat} {v0 v1 v2 : Value} {T : TypeId} (h : RowAt W k #[v0, v1, v2] T) : (∀ u : Later W, u.w.cell? ⟨k, 0, none⟩ = some v0) ∧ (∀ u : Later W, u.w.cell? ⟨k, 1, none⟩ = some v1) ∧ (∀ u : Later W, u.w.cell? ⟨k, 2, none⟩ = some v2) :=
  ⟨fun u => (h.later u).cell 0, fun u => (h.later u).cell 1, fun u => (h.later u).cell 2⟩
end Go.Proofs.Ythipnbiilobjeaa
