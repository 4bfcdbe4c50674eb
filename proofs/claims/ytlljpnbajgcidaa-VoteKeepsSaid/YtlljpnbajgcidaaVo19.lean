/- Vote: one more element behind the call's own; the document's put. -/
import Derived.Test.YtlljpnbajgcidaaVo17
import Derived.Deep.LoopGhost
namespace Go.Proofs.Ytlljpnbajgcidaa
open Go.RowKit Go.Shelf

theorem wpList_append_oneB {ops : Array Oper} {rest : List Oper} {o : Oper} {a : Act} {Q : Exit → Act → World → Prop} {W : World} (hgd : o.guard = Option.none) (s x : Operand)
    (ho : o.op = .call { callee := .builtin .append, args := #[s, x], argTypes := #[23, 23] }) (base : Nat) (v : Value) (l : List Bal) (hs : a.eval s = v) (hown : OwnE encB 29 W base v l)
    (b : Bal) (hx : a.eval x = .slice (some ⟨W.heap.size, 0, none⟩) 1 1) (hb : l.length ≤ 1000000) (hbase : base ≤ W.heap.size)
    (h : ∀ v' w', OwnE encB 29 w' base v' (l ++ [b]) → Below base W w' → (∀ k cs T, RowAt W k cs T → v.ownBlock ≠ some k → RowAt w' k cs T) → wpList Try.prog ops Q rest (a.put o.dst v') w') : wpList Try.prog ops Q (o :: rest) a (W.alloc (balO b)) := by
  obtain ⟨i0, hi, hz0, hz1, hz2⟩ := info_parts info_bal
  have hown2 : OwnE encB 29 (W.alloc (balO b)) base v l := OwnE.below encB hown (belowA W _) (Nat.le_refl _)
  have hsrc : RowE encB (W.alloc (balO b)) (.slice (some ⟨W.heap.size, 0, none⟩) 1 1) [b] := OwnE.row encB (OwnE.lit encB (Nat.le_refl _) b _ rfl)
  rcases hsrc with ⟨hh, _⟩ | ⟨ad, cap, hh, h1, h2, hc⟩
  · cases hh
  · injection hh with e1 e2 e3
    injection e1 with e1
    subst e1 e3
    refine wpList_append_own _ hgd s x 23 ho base 29 i0 _ 3 40 Try.underlying23 hi hz0 hz1 hz2 rfl (by decide) v l.length (flat encB l) hs hown2 ⟨W.heap.size, 0, none⟩ 1 1 (flat encB [b]) hx (flat_length encB [b]) hc (flat_one encB [b]) (by unfold maxLen; omega) (by omega) (by simp; omega) ?_
    intro v' w' hown' hg hn
    refine h v' w' ?_ (below_grown hown2 hg (by simp; omega) _ ((Below.refl base W).alloc hbase _)) ?_
    · unfold OwnE
      rw [List.length_append, flat_append]
      exact hown'
    · intro k cs T hk hne
      exact (hk.alloc _).grown hg (fun e => hne e.symm)

theorem wpList_append_oneS {ops : Array Oper} {rest : List Oper} {o : Oper} {a : Act} {Q : Exit → Act → World → Prop} {W : World} (hgd : o.guard = Option.none) (s x : Operand)
    (ho : o.op = .call { callee := .builtin .append, args := #[s, x], argTypes := #[22, 22] }) (base : Nat) (v : Value) (l : List ByteArray) (hs : a.eval s = v) (hown : OwnE encS 9 W base v l)
    (b : ByteArray) (hx : a.eval x = .slice (some ⟨W.heap.size, 0, none⟩) 1 1) (hb : l.length ≤ 1000000) (hbase : base ≤ W.heap.size)
    (h : ∀ v' w', OwnE encS 9 w' base v' (l ++ [b]) → Below base W w' → (∀ k cs T, RowAt W k cs T → v.ownBlock ≠ some k → RowAt w' k cs T) → wpList Try.prog ops Q rest (a.put o.dst v') w') : wpList Try.prog ops Q (o :: rest) a (W.alloc (.cells #[.string b] 9)) := by
  obtain ⟨i0, hi, hz0, hz1, hz2⟩ := info_parts info_str
  have hown2 : OwnE encS 9 (W.alloc (.cells #[.string b] 9)) base v l := OwnE.below encS hown (belowA W _) (Nat.le_refl _)
  have hsrc : RowE encS (W.alloc (.cells #[.string b] 9)) (.slice (some ⟨W.heap.size, 0, none⟩) 1 1) [b] := OwnE.row encS (OwnE.lit encS (Nat.le_refl _) b _ rfl)
  rcases hsrc with ⟨hh, _⟩ | ⟨ad, cap, hh, h1, h2, hc⟩
  · cases hh
  · injection hh with e1 e2 e3
    injection e1 with e1
    subst e1 e3
    refine wpList_append_own _ hgd s x 22 ho base 9 i0 _ 1 16 Try.underlying22 hi hz0 hz1 hz2 rfl (by decide) v l.length (flat encS l) hs hown2 ⟨W.heap.size, 0, none⟩ 1 1 (flat encS [b]) hx (flat_length encS [b]) hc (flat_one encS [b]) (by unfold maxLen; omega) (by omega) (by simp; omega) ?_
    intro v' w' hown' hg hn
    refine h v' w' ?_ (below_grown hown2 hg (by simp; omega) _ ((Below.refl base W).alloc hbase _)) ?_
    · unfold OwnE
      rw [List.length_append, flat_append]
      exact hown'
    · intro k cs T hk hne
      exact (hk.alloc _).grown hg (fun e => hne e.symm)

/-- One step of put, and put. -/
def putS (b : Bal) (s : List Bal × Bool) (x : Bal) : List Bal × Bool :=
  ((s.1 ++ (if !s.2 && !ltB x b then [b] else [])) ++ (if decide (x.2.1 ≠ b.2.1) || decide (x.1 ≠ b.1) then [x] else []), s.2 || !ltB x b)
def putL (V : List Bal) (b : Bal) : List Bal := (V.foldl (putS b) ([], false)).1 ++ (if (V.foldl (putS b) ([], false)).2 then [] else [b])
theorem putS_len (b : Bal) (s : List Bal × Bool) (x : Bal) : (putS b s x).1.length ≤ s.1.length + 2 := by
  unfold putS; simp only [List.length_append]; split <;> split <;> simp
theorem putF_len (b : Bal) : ∀ (V : List Bal) s, (V.foldl (putS b) s).1.length ≤ s.1.length + 2 * V.length
  | [], s => by simp
  | x :: V, s => by have := putF_len b V (putS b s x); have := putS_len b s x; simp only [List.foldl_cons, List.length_cons]; omega
theorem foldl_take_step {α β : Type} (f : β → α → β) (s : β) (V : List α) {k : Nat} (h : k < V.length) : (V.take (k + 1)).foldl f s = f ((V.take k).foldl f s) V[k] := by
  rw [List.take_add_one, List.getElem?_eq_getElem h, List.foldl_append]; rfl
end Go.Proofs.Ytlljpnbajgcidaa
