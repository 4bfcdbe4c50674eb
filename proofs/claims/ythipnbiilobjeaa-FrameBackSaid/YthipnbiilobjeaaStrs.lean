/- A row of strings that the call itself has made. -/
import Derived.Test.YthipnbiilobjeaaStr
import Derived.Laws.Rows
namespace Go.Proofs.Ythipnbiilobjeaa
open Go.RowKit

/-- Strings as cells. -/
def svals (l : List ByteArray) : List Value := l.map fun b => .string b

theorem info_str : (Try.prog.info? 9).map (fun i => (i.zero, i.size, i.bytes)) = some (some (.string ⟨#[]⟩), 1, 16) := by kernel_rfl

/-- The slice 'v', the call's own from block 'base' on, holds the strings 'l'. -/
def OwnS (w : World) (base : Nat) (v : Value) (l : List ByteArray) : Prop := w.ownsRow base 9 1 v l.length (svals l)

theorem OwnS.drew {w : World} {base : Nat} {v : Value} {l : List ByteArray} (h : OwnS w base v l) : OwnS w.drew base v l := h
theorem OwnS.drewN {w : World} {base : Nat} {v : Value} {l : List ByteArray} (h : OwnS w base v l) (n : Nat) : OwnS (w.drewN n) base v l := h
theorem OwnS.alloc {w : World} {base : Nat} {v : Value} {l : List ByteArray} (h : OwnS w base v l) (o : Obj) : OwnS (w.alloc o) base v l := World.ownsRow.alloc h o
theorem OwnS.nil (w : World) (base : Nat) : OwnS w base (.slice none 0 0) [] := World.ownsRow_nil w base _ _

theorem OwnS.below {w w' : World} {base B : Nat} {v : Value} {l : List ByteArray} (h : OwnS w base v l) (hb : Below B w w') (hB : w.heap.size ≤ B) : OwnS w' base v l := by
  refine ⟨h.1, ?_⟩
  rcases h.2 with h' | ⟨g, cap, cur, hv, hg, hc, r⟩
  · exact .inl h'
  · have hlt : g < w.heap.size := by
      rcases Nat.lt_or_ge g w.heap.size with h | h
      · exact h
      · rw [Array.getElem?_eq_none h] at hc; cases hc
    exact .inr ⟨g, cap, cur, hv, hg, by rw [hb.block g (by omega)]; exact hc, r⟩

theorem OwnS.start {w : World} {base : Nat} (hb : base ≤ w.heap.size) : OwnS (w.alloc (.cells #[] 9)) base (.slice (some ⟨w.heap.size, 0, none⟩) 0 0) [] := by
  refine ⟨rfl, .inr ⟨w.heap.size, 0, #[], rfl, hb, ?_, Nat.le_refl _, by unfold maxLen; omega, rfl, rfl⟩⟩
  exact (MapKept.heap_alloc w _).1

theorem OwnS.one {w : World} {base : Nat} (hb : base ≤ w.heap.size) (b : ByteArray) : OwnS (w.alloc (.cells #[.string b] 9)) base (.slice (some ⟨w.heap.size, 0, Option.none⟩) 1 1) [b] := by
  refine ⟨rfl, .inr ⟨w.heap.size, 1, _, rfl, hb, (MapKept.heap_alloc w _).1, Nat.le_refl _, by unfold maxLen; omega, rfl, rfl⟩⟩

/-- It reads as its strings. -/
theorem OwnS.row {w : World} {base : Nat} {v : Value} {l : List ByteArray} (h : OwnS w base v l) : StrRow w v l := by
  rcases h.2 with ⟨hv, hn⟩ | ⟨g, cap, cur, hv, hg, hc, hn, hcap, hsz, hx⟩
  · exact .inl ⟨hv, List.eq_nil_of_length_eq_zero hn⟩
  · refine .inr ⟨⟨g, 0, none⟩, l.length, cap, hv, hn, hcap, rfl, fun i hi => ?_⟩
    subst hv
    have := World.ownsRow.cells h rfl i (.string (l.getD i ByteArray.empty)) (by simp [svals, List.getElem?_eq_getElem hi, List.getD])
    exact this

theorem OwnS.mono {w : World} {base b : Nat} {v : Value} {l : List ByteArray} (h : OwnS w base v l) (hb : b ≤ base) : OwnS w b v l := by
  refine ⟨h.1, ?_⟩
  rcases h.2 with h' | ⟨g, cap, cur, hv, hg, hc, r⟩
  · exact .inl h'
  · exact .inr ⟨g, cap, cur, hv, by omega, hc, r⟩

/-- A store below the row's block. -/
theorem OwnS.setLow {w : World} {base : Nat} {v : Value} {l : List ByteArray} (h : OwnS w base v l) (a : Addr) (x : Value) (ha : a.block < base) : OwnS (w.setCell a x) base v l := by
  refine ⟨h.1, ?_⟩
  rcases h.2 with h' | ⟨g, cap, cur, hv, hg, hc, r⟩
  · exact .inl h'
  · exact .inr ⟨g, cap, cur, hv, hg, by rw [heap_setCell_other _ _ _ _ (by omega)]; exact hc, r⟩

theorem wpList_append_str {ops : Array Oper} {rest : List Oper} {o : Oper} {a : Act} {Q : Exit → Act → World → Prop} {w : World} (hgd : o.guard = Option.none) (s x : Operand)
    (ho : o.op = .call { callee := .builtin .append, args := #[s, x], argTypes := #[33, 33] }) (base : Nat) (v : Value) (l : List ByteArray) (hs : a.eval s = v) (hown : OwnS w base v l)
    (ad : Addr) (m c : Nat) (news : List ByteArray) (hx : a.eval x = .slice (some ad) m c) (hl : news.length = m) (hnews : ∀ j (h : j < news.length), w.cell? (ad.add j) = some (.string news[j]))
    (hb : l.length + m ≤ 8796093022208) (hbase : base ≤ w.heap.size)
    (h : ∀ v' w', OwnS w' base v' (l ++ news) → (∀ w0, Below base w0 w → Below base w0 w') → w.heap.size ≤ w'.heap.size → wpList Try.prog ops Q rest (a.put o.dst v') w') : wpList Try.prog ops Q (o :: rest) a w := by
  obtain ⟨i0, hi, hz0, hz1, hz2⟩ := info_parts info_str
  subst hl
  refine wpList_append_own w hgd s x 33 ho base 9 i0 (.string ⟨#[]⟩) 1 16 Try.underlying33 hi hz0 hz1 hz2 rfl (by decide) v l.length (svals l) hs hown ad news.length c (svals news) hx (by simp [svals]) ?_ ?_ (by unfold maxLen; omega) (by omega) hbase ?_
  · intro j u hj
    simp only [svals, List.getElem?_map, Option.map_eq_some_iff] at hj
    obtain ⟨b, hb1, rfl⟩ := hj
    obtain ⟨hlt, rfl⟩ := List.getElem?_eq_some_iff.1 hb1
    exact hnews j hlt
  · intro u hu
    obtain ⟨b, _, rfl⟩ := List.mem_map.1 hu
    rfl
  · intro v' w' hown' hg _
    refine h v' w' ?_ (fun w0 h0 => h0.grown hg hbase fun k hk => ?_) hg.size
    · unfold OwnS svals at *
      rw [List.length_append, List.map_append]
      exact hown'
    · exact (World.ownsRow.lt hown k hk).1

theorem one_str_new {w : World} {b : ByteArray} {T : TypeId} : ∀ j (h : j < [b].length), (w.alloc (.cells #[.string b] T)).cell? ((⟨w.heap.size, 0, Option.none⟩ : Addr).add j) = some (.string [b][j]) := by
  intro j h
  match j, h with
  | 0, _ => simp [Addr.add]

theorem one_str_at {w : World} {n : Nat} {b : ByteArray} {T : TypeId} (hn : n = w.heap.size) : ∀ j (h : j < [b].length), (w.alloc (.cells #[.string b] T)).cell? ((⟨n, 0, Option.none⟩ : Addr).add j) = some (.string [b][j]) := by
  subst hn
  exact one_str_new

theorem StrRow.below {w w' : World} {v : Value} {l : List ByteArray} {B : Nat} (h : StrRow w v l) (hb : Below B w w') (hB : w.heap.size ≤ B) : StrRow w' v l := by
  rcases h with h | ⟨a, len, cap, hv, h1, h2, h3, hc⟩
  · exact .inl h
  · refine .inr ⟨a, len, cap, hv, h1, h2, h3, fun i hi => ?_⟩
    have := hc i hi
    have hlt := block_lt_of_cell this
    rw [hb.cell (by omega)]
    exact this
end Go.Proofs.Ythipnbiilobjeaa
