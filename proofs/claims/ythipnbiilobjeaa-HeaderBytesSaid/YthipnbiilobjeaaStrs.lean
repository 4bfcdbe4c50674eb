/- Strings as lists of bytes: small laws. A row of strings that the call itself has made. -/
import Derived.Test.YthipnbiilobjeaaRep0
import Derived.Laws.Rows
namespace Go.Proofs.Ythipnbiilobjeaa
open Go.RowKit

/-- A list of bytes as a string. -/
def mkS (l : List UInt8) : ByteArray := ⟨l.toArray⟩
/-- A string's bytes. -/
def bl (s : ByteArray) : List UInt8 := s.data.toList

theorem bl_mk (l : List UInt8) : bl (mkS l) = l := by simp [bl, mkS]
theorem mk_bl (s : ByteArray) : mkS (bl s) = s := rfl
theorem bl_length (s : ByteArray) : (bl s).length = s.size := by simp [bl]
theorem mk_size (l : List UInt8) : (mkS l).size = l.length := by simp [mkS, ByteArray.size]
theorem bl_inj {s t : ByteArray} (h : bl s = bl t) : s = t := by rw [← mk_bl s, h, mk_bl]
theorem mk_inj {l m : List UInt8} (h : mkS l = mkS m) : l = m := by rw [← bl_mk l, h, bl_mk]
theorem sget {s : ByteArray} {k : Nat} (h : k < s.size) : (bl s)[k]? = some s[k] := by
  have h' : k < s.data.toList.length := by simpa using h
  unfold bl
  rw [List.getElem?_eq_getElem h']
  rfl
theorem sgetD {s : ByteArray} {k : Nat} (h : k < s.size) : (bl s).getD k 0 = s[k] := by rw [List.getD, sget h]; rfl
theorem mkget {l : List UInt8} {k : Nat} (h : k < (mkS l).size) : (mkS l)[k] = l.getD k 0 := by rw [← sgetD h, bl_mk]
theorem stake {s : ByteArray} {k : Nat} (h : k < s.size) : (bl s).take (k + 1) = (bl s).take k ++ [s[k]] := by
  rw [List.take_add_one, sget h]
  rfl
theorem stake_all (s : ByteArray) : (bl s).take s.size = bl s := List.take_of_length_le (by rw [bl_length]; exact Nat.le_refl _)
theorem bl_extract (s : ByteArray) (a b : Nat) : bl (s.extract a b) = ((bl s).take b).drop a := by
  unfold bl
  simp [ByteArray.data_extract, Array.toList_extract, List.drop_take]
theorem bl_append (s t : ByteArray) : bl (s ++ t) = bl s ++ bl t := by
  unfold bl
  simp
theorem mk_append (l m : List UInt8) : mkS l ++ mkS m = mkS (l ++ m) := bl_inj (by rw [bl_append, bl_mk, bl_mk, bl_mk])
theorem extract_all (s : ByteArray) : s.extract 0 s.size = s := bl_inj (by rw [bl_extract, stake_all]; rfl)
theorem mk_extract (l : List UInt8) (a b : Nat) : (mkS l).extract a b = mkS ((l.take b).drop a) := bl_inj (by rw [bl_extract, bl_mk, bl_mk])
theorem toList_bl (s : ByteArray) : s.toList = bl s := ByteArray.toList_eq s
/-- '==' between strings, as a walk writes it. -/
theorem seq_true {a b : ByteArray} (h : a = b) : (a.toList == b.toList) = true := by simp [h]
theorem seq_false {a b : ByteArray} (h : a ≠ b) : (a.toList == b.toList) = false := by
  rw [beq_eq_false_iff_ne, toList_bl, toList_bl]
  exact fun e => h (bl_inj e)
theorem seq_dec (a b : ByteArray) : (a.toList == b.toList) = decide (a = b) := by
  by_cases h : a = b
  · rw [seq_true h]; simp [h]
  · rw [seq_false h]; simp [h]
end Go.Proofs.Ythipnbiilobjeaa

namespace Go.Proofs.Ythipnbiilobjeaa
open Go.RowKit

/-- Strings as cells. -/
def svals (l : List ByteArray) : List Value := l.map fun b => .string b

theorem info_str : (Try.prog.info? 9).map (fun i => (i.zero, i.size, i.bytes)) = some (some (.string ⟨#[]⟩), 1, 16) := by kernel_rfl

/-- The slice 'v', the call's own from block 'base' on, holds the strings 'l'. -/
def OwnS (w : World) (base : Nat) (v : Value) (l : List ByteArray) : Prop := w.ownsRow base 9 1 v l.length (svals l)

theorem OwnS.drew {w : World} {base : Nat} {v : Value} {l : List ByteArray} (h : OwnS w base v l) : OwnS w.drew base v l := h
theorem OwnS.drewN {w : World} {base : Nat} {v : Value} {l : List ByteArray} (h : OwnS w base v l) (n : Nat) : OwnS (w.drewN n) base v l := h
theorem OwnS.alloc {w : World} {base : Nat} {v : Value} {l : List ByteArray} (h : OwnS w base v l) (o : Obj) : OwnS (w.alloc o) base v l := World.ownsRow.alloc h o
theorem OwnS.nil (w : World) (base : Nat) : OwnS w base (.slice none 0 0) [] := World.ownsRow_nil w base _ _

theorem OwnS.below {w w' : World} {base B : Nat} {v : Value} {l : List ByteArray} (h : OwnS w base v l) (hb : Below B w w') (hB : w.heap.size ≤ B) : OwnS w' base v l := by
  refine ⟨h.1, ?_⟩
  rcases h.2 with h' | ⟨g, cap, cur, hv, hg, hc, r⟩
  · exact .inl h'
  · have hlt : g < w.heap.size := by
      rcases Nat.lt_or_ge g w.heap.size with h | h
      · exact h
      · rw [Array.getElem?_eq_none h] at hc; cases hc
    exact .inr ⟨g, cap, cur, hv, hg, by rw [hb.block g (by omega)]; exact hc, r⟩

theorem OwnS.start {w : World} {base : Nat} (hb : base ≤ w.heap.size) : OwnS (w.alloc (.cells #[] 9)) base (.slice (some ⟨w.heap.size, 0, none⟩) 0 0) [] := by
  refine ⟨rfl, .inr ⟨w.heap.size, 0, #[], rfl, hb, ?_, Nat.le_refl _, by unfold maxLen; omega, rfl, rfl⟩⟩
  exact (MapKept.heap_alloc w _).1

theorem OwnS.one {w : World} {base : Nat} (hb : base ≤ w.heap.size) (b : ByteArray) : OwnS (w.alloc (.cells #[.string b] 9)) base (.slice (some ⟨w.heap.size, 0, Option.none⟩) 1 1) [b] := by
  refine ⟨rfl, .inr ⟨w.heap.size, 1, _, rfl, hb, (MapKept.heap_alloc w _).1, Nat.le_refl _, by unfold maxLen; omega, rfl, rfl⟩⟩

/-- It reads as its strings. -/
theorem OwnS.row {w : World} {base : Nat} {v : Value} {l : List ByteArray} (h : OwnS w base v l) : StrRow w v l := by
  rcases h.2 with ⟨hv, hn⟩ | ⟨g, cap, cur, hv, hg, hc, hn, hcap, hsz, hx⟩
  · exact .inl ⟨hv, List.eq_nil_of_length_eq_zero hn⟩
  · refine .inr ⟨⟨g, 0, none⟩, l.length, cap, hv, hn, hcap, rfl, fun i hi => ?_⟩
    subst hv
    have := World.ownsRow.cells h rfl i (.string (l.getD i ByteArray.empty)) (by simp [svals, List.getElem?_eq_getElem hi, List.getD])
    exact this

theorem OwnS.mono {w : World} {base b : Nat} {v : Value} {l : List ByteArray} (h : OwnS w base v l) (hb : b ≤ base) : OwnS w b v l := by
  refine ⟨h.1, ?_⟩
  rcases h.2 with h' | ⟨g, cap, cur, hv, hg, hc, r⟩
  · exact .inl h'
  · exact .inr ⟨g, cap, cur, hv, by omega, hc, r⟩

/-- A store below the row's block. -/
theorem OwnS.setLow {w : World} {base : Nat} {v : Value} {l : List ByteArray} (h : OwnS w base v l) (a : Addr) (x : Value) (ha : a.block < base) : OwnS (w.setCell a x) base v l := by
  refine ⟨h.1, ?_⟩
  rcases h.2 with h' | ⟨g, cap, cur, hv, hg, hc, r⟩
  · exact .inl h'
  · exact .inr ⟨g, cap, cur, hv, hg, by rw [heap_setCell_other _ _ _ _ (by omega)]; exact hc, r⟩

theorem wpList_append_str {ops : Array Oper} {rest : List Oper} {o : Oper} {a : Act} {Q : Exit → Act → World → Prop} {w : World} (hgd : o.guard = Option.none) (s x : Operand)
    (ho : o.op = .call { callee := .builtin .append, args := #[s, x], argTypes := #[33, 33] }) (base : Nat) (v : Value) (l : List ByteArray) (hs : a.eval s = v) (hown : OwnS w base v l)
    (ad : Addr) (m c : Nat) (news : List ByteArray) (hx : a.eval x = .slice (some ad) m c) (hl : news.length = m) (hnews : ∀ j (h : j < news.length), w.cell? (ad.add j) = some (.string news[j]))
    (hb : l.length + m ≤ 8796093022208) (hbase : base ≤ w.heap.size)
    (h : ∀ v' w', OwnS w' base v' (l ++ news) → (∀ w0, Below base w0 w → Below base w0 w') → w.heap.size ≤ w'.heap.size → wpList Try.prog ops Q rest (a.put o.dst v') w') : wpList Try.prog ops Q (o :: rest) a w := by
  obtain ⟨i0, hi, hz0, hz1, hz2⟩ := info_parts info_str
  subst hl
  refine wpList_append_own w hgd s x 33 ho base 9 i0 (.string ⟨#[]⟩) 1 16 Try.underlying33 hi hz0 hz1 hz2 rfl (by decide) v l.length (svals l) hs hown ad news.length c (svals news) hx (by simp [svals]) ?_ ?_ (by unfold maxLen; omega) (by omega) hbase ?_
  · intro j u hj
    simp only [svals, List.getElem?_map, Option.map_eq_some_iff] at hj
    obtain ⟨b, hb1, rfl⟩ := hj
    obtain ⟨hlt, rfl⟩ := List.getElem?_eq_some_iff.1 hb1
    exact hnews j hlt
  · intro u hu
    obtain ⟨b, _, rfl⟩ := List.mem_map.1 hu
    rfl
  · intro v' w' hown' hg _
    refine h v' w' ?_ (fun w0 h0 => h0.grown hg hbase fun k hk => ?_) hg.size
    · unfold OwnS svals at *
      rw [List.length_append, List.map_append]
      exact hown'
    · exact (World.ownsRow.lt hown k hk).1

theorem one_str_new {w : World} {b : ByteArray} {T : TypeId} : ∀ j (h : j < [b].length), (w.alloc (.cells #[.string b] T)).cell? ((⟨w.heap.size, 0, Option.none⟩ : Addr).add j) = some (.string [b][j]) := by
  intro j h
  match j, h with
  | 0, _ => simp [Addr.add]

theorem one_str_at {w : World} {n : Nat} {b : ByteArray} {T : TypeId} (hn : n = w.heap.size) : ∀ j (h : j < [b].length), (w.alloc (.cells #[.string b] T)).cell? ((⟨n, 0, Option.none⟩ : Addr).add j) = some (.string [b][j]) := by
  subst hn
  exact one_str_new

theorem StrRow.below {w w' : World} {v : Value} {l : List ByteArray} {B : Nat} (h : StrRow w v l) (hb : Below B w w') (hB : w.heap.size ≤ B) : StrRow w' v l := by
  rcases h with h | ⟨a, len, cap, hv, h1, h2, h3, hc⟩
  · exact .inl h
  · refine .inr ⟨a, len, cap, hv, h1, h2, h3, fun i hi => ?_⟩
    have := hc i hi
    have hlt := block_lt_of_cell this
    rw [hb.cell (by omega)]
    exact this
end Go.Proofs.Ythipnbiilobjeaa
