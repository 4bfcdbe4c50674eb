/- Whole rows of cells: what a boxed struct holds, carried from world to world. -/
import Derived.Test.YthipnbiilobjeaaRep0
import Derived.Laws.Rows
namespace Go.Proofs.Ythipnbiilobjeaa
open Go.RowKit

/-- Block 'k' holds the cells 'cs', and may be written. -/
def RowAt (w : World) (k : Nat) (cs : Array Value) (T : TypeId) : Prop := w.heap[k]? = some (.cells cs T (0, 0))

theorem RowAt.lt {w : World} {k : Nat} {cs : Array Value} {T : TypeId} (h : RowAt w k cs T) : k < w.heap.size := by
  rcases Nat.lt_or_ge k w.heap.size with h' | h'
  · exact h'
  · unfold RowAt at h; rw [Array.getElem?_eq_none h'] at h; cases h

theorem RowAt.new (w : World) (cs : Array Value) (T : TypeId) : RowAt (w.alloc (.cells cs T)) w.heap.size cs T := heap_alloc_new w _
theorem RowAt.new' (w : World) (cs : Array Value) (T : TypeId) {k : Nat} (hk : k = w.heap.size) : RowAt (w.alloc (.cells cs T)) k cs T := by subst hk; exact heap_alloc_new w _
theorem RowAt.alloc {w : World} {k : Nat} {cs : Array Value} {T : TypeId} (h : RowAt w k cs T) (o : Obj) : RowAt (w.alloc o) k cs T := by
  unfold RowAt
  rw [Below.heap_alloc w o k h.lt]
  exact h
theorem RowAt.drew {w : World} {k : Nat} {cs : Array Value} {T : TypeId} (h : RowAt w k cs T) : RowAt w.drew k cs T := h
theorem RowAt.drewN {w : World} {k : Nat} {cs : Array Value} {T : TypeId} (h : RowAt w k cs T) (n : Nat) : RowAt (w.drewN n) k cs T := h
theorem RowAt.below {w w' : World} {k B : Nat} {cs : Array Value} {T : TypeId} (h : RowAt w k cs T) (hb : Below B w w') (hB : k < B) : RowAt w' k cs T := by
  unfold RowAt
  rw [hb.block k hB]
  exact h
theorem RowAt.belowS {w w' : World} {k : Nat} {cs : Array Value} {T : TypeId} (h : RowAt w k cs T) (hb : Below w.heap.size w w') : RowAt w' k cs T := h.below hb h.lt
theorem RowAt.set {w : World} {k : Nat} {cs : Array Value} {T : TypeId} (h : RowAt w k cs T) (i : Nat) (v : Value) {cs' : Array Value} (hc : cs.setIfInBounds i v = cs') : RowAt (w.setCell ⟨k, i, none⟩ v) k cs' T := by
  subst hc
  exact heap_setCell_same w k i cs T v h
theorem RowAt.other {w : World} {k : Nat} {cs : Array Value} {T : TypeId} (h : RowAt w k cs T) (a : Addr) (v : Value) (hne : k ≠ a.block) : RowAt (w.setCell a v) k cs T := by
  unfold RowAt
  rw [heap_setCell_other _ _ _ _ hne]
  exact h
theorem RowAt.grown {w w' : World} {k : Nat} {cs : Array Value} {T : TypeId} (h : RowAt w k cs T) {r : Option Nat} (hg : w.grownBy w' r) (hne : some k ≠ r) : RowAt w' k cs T := by
  unfold RowAt
  rw [hg.block k h.lt hne]
  exact h

theorem RowAt.cell {w : World} {k : Nat} {cs : Array Value} {T : TypeId} (h : RowAt w k cs T) (i : Nat) : w.cell? ⟨k, i, none⟩ = cs[i]? := cell_of_row w k i cs T (0, 0) h
theorem RowAt.frozen {w : World} {k : Nat} {cs : Array Value} {T : TypeId} (h : RowAt w k cs T) (i : Nat) : w.frozen? ⟨k, i, none⟩ = false := frozen_of_row w k i cs T h

theorem RowAt.c1 {w : World} {k : Nat} {v0 : Value} {T : TypeId} (h : RowAt w k #[v0] T) : w.cell? ⟨k, 0, none⟩ = some v0 ∧ w.frozen? ⟨k, 0, none⟩ = false := ⟨h.cell 0, h.frozen 0⟩
theorem RowAt.c2 {w : World} {k : Nat} {v0 v1 : Value} {T : TypeId} (h : RowAt w k #[v0, v1] T) : w.cell? ⟨k, 0, none⟩ = some v0 ∧ w.cell? ⟨k, 1, none⟩ = some v1 ∧ w.frozen? ⟨k, 0, none⟩ = false ∧ w.frozen? ⟨k, 1, none⟩ = false :=
  ⟨h.cell 0, h.cell 1, h.frozen 0, h.frozen 1⟩
theorem RowAt.c3 {w : World} {k : Nat} {v0 v1 v2 : Value} {T : TypeId} (h : RowAt w k #[v0, v1, v2] T) : w.cell? ⟨k, 0, none⟩ = some v0 ∧ w.cell? ⟨k, 1, none⟩ = some v1 ∧ w.cell? ⟨k, 2, none⟩ = some v2 ∧
    w.frozen? ⟨k, 0, none⟩ = false ∧ w.frozen? ⟨k, 1, none⟩ = false ∧ w.frozen? ⟨k, 2, none⟩ = false :=
  ⟨h.cell 0, h.cell 1, h.cell 2, h.frozen 0, h.frozen 1, h.frozen 2⟩
end Go.Proofs.Ythipnbiilobjeaa
