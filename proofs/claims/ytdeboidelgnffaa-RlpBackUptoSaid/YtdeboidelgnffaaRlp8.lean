/- Rlp: the queue grows; the contract of well. -/
import Derived.Test.YtdeboidelgnffaaRlpQ
import Derived.Test.YtdeboidelgnffaaRlp5
namespace Go.Proofs.Ytdeboidelgnffaa
open Go.RowKit

/-- The call's own row of items. -/
def OwnQ (w : World) (base : Nat) (v : Value) (l : List IV) : Prop := w.ownsRow base 24 3 v l.length (flat3 l)

theorem info_item : ∃ i, Try.prog.info? 24 = some i ∧ i.zero = some (.agg #[.bool false, .string ⟨#[]⟩, .slice none 0 0]) ∧ i.size = 3 ∧ i.bytes = 48 := by
  refine ⟨_, rfl, ?_, ?_, ?_⟩ <;> kernel_rfl

theorem OwnQ.below {w w' : World} {base B : Nat} {v : Value} {l : List IV} (h : OwnQ w base v l) (hb : Below B w w') (hB : w.heap.size ≤ B) : OwnQ w' base v l := by
  refine ⟨h.1, ?_⟩
  rcases h.2 with h' | ⟨g, cap, cur, hv, hg, hc, r⟩
  · exact .inl h'
  · have hlt : g < w.heap.size := by
      rcases Nat.lt_or_ge g w.heap.size with h | h
      · exact h
      · rw [Array.getElem?_eq_none h] at hc; cases hc
    exact .inr ⟨g, cap, cur, hv, hg, by rw [hb.block g (by omega)]; exact hc, r⟩

theorem wpList_append_kids {ops : Array Oper} {rest : List Oper} {o : Oper} {a : Act} {Q : Exit → Act → World → Prop} {w : World} (hgd : o.guard = Option.none) (s x : Operand)
    (ho : o.op = .call { callee := .builtin .append, args := #[s, x], argTypes := #[22, 22] }) (base : Nat) (v : Value) (l : List IV) (hs : a.eval s = v) (hown : OwnQ w base v l)
    (w0 : World) (ks : List It) (kv : Value) (hx : a.eval x = kv) (hk : KidsIs w0 ks kv) (hbl : Below w0.heap.size w0 w)
    (hb : l.length + ks.length ≤ 100000) (hbase : base ≤ w.heap.size)
    (h : ∀ v' w' lk, OwnQ w' base v' (l ++ lk) → QIs w0 ks lk → (∀ w0, Below base w0 w → Below base w0 w') → w.heap.size ≤ w'.heap.size → wpList Try.prog ops Q rest (a.put o.dst v') w') : wpList Try.prog ops Q (o :: rest) a w := by
  obtain ⟨i0, hi, hz0, hz1, hz2⟩ := info_item
  rcases hk with ⟨rfl, rfl⟩ | ⟨ad, len, cap, rfl, g1, g2, rfl, g4⟩
  · refine wpList_append_own_none hgd s x 22 ho base 24 i0 3 Try.underlying22 hi v l.length (flat3 l) hs hown hx ?_
    exact h v w [] (by rw [List.append_nil]; exact hown) trivial (fun _ h => h) (Nat.le_refl _)
  · obtain ⟨lk, hq, hc⟩ := KidsAt.list ks 0 g4
    have hl := hq.length
    refine wpList_append_own w hgd s x 22 ho base 24 i0 _ 3 48 Try.underlying22 hi hz0 hz1 hz2 rfl (by decide) v l.length (flat3 l) hs hown ad ks.length cap (flat3 lk) hx (by rw [flat3_length, hl]) (fun j u hj => ?_) (flat3_one lk) (by unfold maxLen; omega) (by omega) hbase ?_
    · have := hc j u hj
      rw [Nat.zero_mul, Nat.zero_add] at this
      rw [hbl.cell (block_lt_of_cell this)]
      exact this
    · intro v' w' hown' hg _
      refine h v' w' lk ?_ hq (fun w0 h0 => h0.grown hg hbase fun k hk => ?_) hg.size
      · unfold OwnQ
        rw [List.length_append, flat3_append, ← hl]
        exact hown'
      · exact (World.ownsRow.lt hown k hk).1
end Go.Proofs.Ytdeboidelgnffaa
