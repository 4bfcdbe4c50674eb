/- Vote: what stands between the statements of Cast. -/
import Derived.Test.YthipnbiilobjeaaVoP
namespace Go.Proofs.Ythipnbiilobjeaa
open Go.RowKit Go.Shelf

section
variable {α : Type} {E : Enc α} {T : TypeId}

/-- A row that was there, or one of the call's own. -/
def OldNew (E : Enc α) (T : TypeId) (base : Nat) (w W : World) (v : Value) (l : List α) : Prop := RowE E w v l ∨ OwnE E T W base v l

theorem OwnE.other {W : World} {base : Nat} {v : Value} {l : List α} (h : OwnE E T W base v l) (a : Addr) (u : Value) (hne : a.block < base) : OwnE E T (W.setCell a u) base v l := by
  refine ⟨h.1, ?_⟩
  rcases h.2 with h' | ⟨g, cap, cur, hv, hg, hc, r⟩
  · exact .inl h'
  · exact .inr ⟨g, cap, cur, hv, hg, by rw [heap_setCell_other _ _ _ _ (by omega)]; exact hc, r⟩
theorem OldNew.row {base : Nat} {w W : World} {v : Value} {l : List α} (h : OldNew E T base w W v l) (hb : Below w.heap.size w W) : RowE E W v l := by
  rcases h with h | h
  · exact h.below E hb (Nat.le_refl _)
  · exact OwnE.row E h
theorem OldNew.next {base : Nat} {w W W' : World} {v : Value} {l : List α} (h : OldNew E T base w W v l) (hb : Below W.heap.size W W') : OldNew E T base w W' v l := by
  rcases h with h | h
  · exact .inl h
  · exact .inr (OwnE.below E h hb (Nat.le_refl _))
theorem OldNew.other {base : Nat} {w W : World} {v : Value} {l : List α} (h : OldNew E T base w W v l) (a : Addr) (u : Value) (hne : a.block < base) : OldNew E T base w (W.setCell a u) v l := by
  rcases h with h | h
  · exact .inl h
  · exact .inr (h.other a u hne)
end

theorem drewB {w w' : World} (h : Below w.drew.heap.size w.drew w') : Below w.heap.size w w' := (Below.refl _ w).drew.trans h
theorem allocB {w w' : World} {o : Obj} (h : Below (w.alloc o).drew.heap.size (w.alloc o).drew w') : Below w.heap.size w w' := (belowA w o).drew.trans (h.mono (belowA w o).size)

def CastSt (sv : Value) (S : List ByteArray) (vv : Value) (V : List Bal) (b : Bal) (w W : World) : Prop :=
  RowAt W w.heap.size #[sv, vv] 45 ∧ RowAt W (w.heap.size + 1) #[.string b.1, .string b.2.1, .bool b.2.2] 92 ∧ RowAt W (w.heap.size + 2) #[.slice none 0 0, .slice none 0 0] 45 ∧
  OldNew encS 9 (w.heap.size + 3) w W sv S ∧ OldNew encB 92 (w.heap.size + 3) w W vv V ∧ Below w.heap.size w W

section
variable {sv vv : Value} {S : List ByteArray} {V : List Bal} {b : Bal} {w W W' : World}
theorem CastSt.next (h : CastSt sv S vv V b w W) (hb : Below W.heap.size W W') : CastSt sv S vv V b w W' :=
  ⟨h.1.belowS hb, h.2.1.belowS hb, h.2.2.1.belowS hb, h.2.2.2.1.next hb, h.2.2.2.2.1.next hb, h.2.2.2.2.2.trans (hb.mono h.2.2.2.2.2.size)⟩
theorem CastSt.drew (h : CastSt sv S vv V b w W) : CastSt sv S vv V b w W.drew := h.next (Below.refl _ _).drew
theorem CastSt.rs (h : CastSt sv S vv V b w W) : RowE encS W sv S := h.2.2.2.1.row h.2.2.2.2.2
theorem CastSt.rb (h : CastSt sv S vv V b w W) : RowE encB W vv V := h.2.2.2.2.1.row h.2.2.2.2.2
theorem CastSt.size (h : CastSt sv S vv V b w W) : w.heap.size + 3 ≤ W.heap.size := h.2.2.1.lt
theorem CastSt.setV (h : CastSt sv S vv V b w W) {v' : Value} {V' : List Bal} (ho : OwnE encB 92 W (w.heap.size + 3) v' V') : CastSt sv S v' V' b w (W.setCell ⟨w.heap.size, 1, none⟩ v') :=
  ⟨h.1.set 1 v' rfl, h.2.1.other _ _ (by simp), h.2.2.1.other _ _ (by simp), h.2.2.2.1.other _ _ (by simp), .inr (ho.other _ _ (by simp)), h.2.2.2.2.2.setCell (by simp) _⟩
theorem CastSt.setS (h : CastSt sv S vv V b w W) {v' : Value} {S' : List ByteArray} (ho : OwnE encS 9 W (w.heap.size + 3) v' S') : CastSt v' S' vv V b w (W.setCell ⟨w.heap.size, 0, none⟩ v') :=
  ⟨h.1.set 0 v' rfl, h.2.1.other _ _ (by simp), h.2.2.1.other _ _ (by simp), .inr (ho.other _ _ (by simp)), h.2.2.2.2.1.other _ _ (by simp), h.2.2.2.2.2.setCell (by simp) _⟩
theorem CastSt.ans (h : CastSt sv S vv V b w W) : RowAt ((W.setCell ⟨w.heap.size + 2, 0, none⟩ sv).setCell ⟨w.heap.size + 2, 1, none⟩ vv) (w.heap.size + 2) #[sv, vv] 45 ∧
    RS ((W.setCell ⟨w.heap.size + 2, 0, none⟩ sv).setCell ⟨w.heap.size + 2, 1, none⟩ vv) sv S ∧ RB ((W.setCell ⟨w.heap.size + 2, 0, none⟩ sv).setCell ⟨w.heap.size + 2, 1, none⟩ vv) vv V ∧
    Below w.heap.size w ((W.setCell ⟨w.heap.size + 2, 0, none⟩ sv).setCell ⟨w.heap.size + 2, 1, none⟩ vv) := by
  have hb : Below w.heap.size w ((W.setCell ⟨w.heap.size + 2, 0, none⟩ sv).setCell ⟨w.heap.size + 2, 1, none⟩ vv) := (h.2.2.2.2.2.setCell (by simp) _).setCell (by simp) _
  exact ⟨(h.2.2.1.set 0 sv rfl).set 1 vv rfl, OldNew.row ((h.2.2.2.1.other _ _ (by simp)).other _ _ (by simp)) hb, OldNew.row ((h.2.2.2.2.1.other _ _ (by simp)).other _ _ (by simp)) hb, hb⟩
end
end Go.Proofs.Ythipnbiilobjeaa
