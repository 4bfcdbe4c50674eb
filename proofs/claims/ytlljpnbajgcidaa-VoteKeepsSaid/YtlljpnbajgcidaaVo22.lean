/- Vote: the document's Cast: the laws it wants. -/
import Derived.Test.YtlljpnbajgcidaaVo21
namespace Go.Proofs.Ytlljpnbajgcidaa
open Go.RowKit Go.Shelf

theorem step_append_oneB {ops : Array Oper} {o : Oper} {a : Act} {K : Act → World → Prop} {Q : Exit → Act → World → Prop} {E : Prop} {W : World} (hgd : o.guard = Option.none) (s x : Operand)
    (ho : o.op = .call { callee := .builtin .append, args := #[s, x], argTypes := #[23, 23] }) (base : Nat) (v : Value) (l : List Bal) (hs : a.eval s = v) (hown : OwnE encB 29 W base v l)
    (b : Bal) (hx : a.eval x = .slice (some ⟨W.heap.size, 0, none⟩) 1 1) (hb : l.length ≤ 1000000) (hbase : base ≤ W.heap.size)
    (h : ∀ v' w', OwnE encB 29 w' base v' (l ++ [b]) → Below base W w' → K (a.put o.dst v') w') :
    if Region.wanted o (yielded ops a.tmps) = true then Oper.wp Try.prog o a (W.alloc (balO b)) K Q else E := by
  rw [if_pos (by simp [Region.wanted, hgd])]
  obtain ⟨i0, hi, hz0, hz1, hz2⟩ := info_parts info_bal
  have hown2 : OwnE encB 29 (W.alloc (balO b)) base v l := OwnE.below encB hown (belowA W _) (Nat.le_refl _)
  have hsrc : RowE encB (W.alloc (balO b)) (.slice (some ⟨W.heap.size, 0, none⟩) 1 1) [b] := OwnE.row encB (OwnE.lit encB (Nat.le_refl _) b _ rfl)
  rcases hsrc with ⟨hh, _⟩ | ⟨ad, cap, hh, h1, h2, hc⟩
  · cases hh
  · injection hh with e1 e2 e3
    injection e1 with e1
    subst e1 e3
    refine wp_append_own _ s x 23 ho base 29 i0 _ 3 40 Try.underlying23 hi hz0 hz1 hz2 rfl (by decide) v l.length (flat encB l) hs hown2 ⟨W.heap.size, 0, none⟩ 1 1 (flat encB [b]) hx (flat_length encB [b]) hc (flat_one encB [b]) (by unfold maxLen; omega) (by omega) (by simp; omega) ?_
    intro v' w' hown' hg hn
    refine h v' w' ?_ (below_grown hown2 hg (by simp; omega) _ ((Below.refl base W).alloc hbase _))
    unfold OwnE
    rw [List.length_append, flat_append]
    exact hown'

theorem CastSt.ans2 {sv vv : Value} {S : List ByteArray} {V : List Bal} {b : Bal} {w W : World} (h : CastSt sv S vv V b w W) {s' v' : Value} {S' : List ByteArray} {V' : List Bal} (h1 : OldNew encS 9 (w.heap.size + 3) w W s' S') (h2 : OldNew encB 29 (w.heap.size + 3) w W v' V') : RowAt ((W.setCell ⟨w.heap.size + 2, 0, none⟩ s').setCell ⟨w.heap.size + 2, 1, none⟩ v') (w.heap.size + 2) #[s', v'] 25 ∧
    RS ((W.setCell ⟨w.heap.size + 2, 0, none⟩ s').setCell ⟨w.heap.size + 2, 1, none⟩ v') s' S' ∧ RB ((W.setCell ⟨w.heap.size + 2, 0, none⟩ s').setCell ⟨w.heap.size + 2, 1, none⟩ v') v' V' ∧
    Below w.heap.size w ((W.setCell ⟨w.heap.size + 2, 0, none⟩ s').setCell ⟨w.heap.size + 2, 1, none⟩ v') := by
  have hb : Below w.heap.size w ((W.setCell ⟨w.heap.size + 2, 0, none⟩ s').setCell ⟨w.heap.size + 2, 1, none⟩ v') := (h.2.2.2.2.2.setCell (by simp) _).setCell (by simp) _
  exact ⟨(h.2.2.1.set 0 s' rfl).set 1 v' rfl, OldNew.row ((h1.other _ _ (by simp)).other _ _ (by simp)) hb, OldNew.row ((h2.other _ _ (by simp)).other _ _ (by simp)) hb, hb⟩

/-- What is left, where a vote has won. -/
def leftL (V1 : List Bal) (b : Bal) : List Bal := V1.filter fun x => !goneL b x
def stayL (S2 : List ByteArray) (l : List Bal) (b : Bal) : List Bal := l.filter fun x => b.2.2 || !wonL S2 l x
def RCastRel (S : List ByteArray) (V : List Bal) (b : Bal) (S' : List ByteArray) (V' : List Bal) (c : Int) : Prop :=
  (¬ RightOk S V ∧ S' = [] ∧ V' = [] ∧ c = 1) ∨ (RightOk S V ∧ Refused S b ∧ S' = [] ∧ V' = [] ∧ c = 44) ∨
  (RightOk S V ∧ ¬ Refused S b ∧ c = 0 ∧ ((wonL S (putL V b) b = false ∧ S' = S ∧ V' = putL V b) ∨ (wonL S (putL V b) b = true ∧ S' = setToL S b.2.1 b.2.2 ∧ V' = stayL S' (leftL (putL V b) b) b)))
def RCastPost (S : List ByteArray) (V : List Bal) (b : Bal) (w : World) (e : Ending) (w' : World) : Prop :=
  ∃ sv vv S' V' c, e = .returned (.tuple #[.agg #[sv, vv], .int .i64 c]) ∧ RCastRel S V b S' V' c ∧ RS w' sv S' ∧ RB w' vv V' ∧ Below w.heap.size w w'

theorem putL_len (V : List Bal) (b : Bal) : (putL V b).length ≤ 2 * V.length + 1 := by
  have := putF_len b V ([], false)
  unfold putL
  simp only [List.length_append, List.length_nil] at *
  split <;> simp <;> omega
theorem setToL_len (S : List ByteArray) (a : ByteArray) (add : Bool) : (setToL S a add).length ≤ 2 * S.length + 1 := by
  have := setF_len a S ([], !add)
  unfold setToL
  simp only [List.length_append, List.length_nil] at *
  split <;> simp <;> omega
theorem filter_take_step {α : Type} (p : α → Bool) (V : List α) {k : Nat} (h : k < V.length) : (V.take (k + 1)).filter p = (V.take k).filter p ++ if p V[k] then [V[k]] else [] := by
  rw [List.take_add_one, List.getElem?_eq_getElem h, List.filter_append]
  cases hp : p V[k] <;> simp [hp]
end Go.Proofs.Ytlljpnbajgcidaa
