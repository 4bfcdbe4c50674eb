/- A row of bytes that the call itself has made. -/
import Derived.Test.YthipnbiilobjeaaRep0
import Derived.Test.YthipnbiilobjeaaReg
import Derived.Lib.BufferRead
namespace Go.Proofs.Ythipnbiilobjeaa
open Go.RowKit

/-- Bytes as cells. -/
def bvals (l : List UInt8) : List Value := l.map fun b => .int .u8 (b.toNat : Int)

/-- Block 'g' holds the bytes 'l', the call's own, from block 'base' on. -/
def Buf (w : World) (base g : Nat) (l : List UInt8) : Prop := w.ownsRow base 5 1 (.slice (some ⟨g, 0, none⟩) l.length l.length) l.length (bvals l)

theorem Buf.cell {w : World} {base g : Nat} {l : List UInt8} (h : Buf w base g l) {i : Nat} (hi : i < l.length) : w.cell? ⟨g, i, none⟩ = some (.int .u8 ((l.getD i 0).toNat : Int)) := by
  have := World.ownsRow.cellAt h i (by simpa using hi)
  rw [this]
  simp [bvals, List.getElem?_eq_getElem hi, List.getD]

theorem Buf.frozen {w : World} {base g : Nat} {l : List UInt8} (h : Buf w base g l) (i : Nat) : w.frozen? ⟨g, i, none⟩ = false := World.ownsRow.frozenAt h i

theorem Buf.lt {w : World} {base g : Nat} {l : List UInt8} (h : Buf w base g l) : base ≤ g ∧ g < w.heap.size := World.ownsRow.lt h g rfl

theorem Buf.set {w : World} {base g : Nat} {l : List UInt8} (h : Buf w base g l) (i : Nat) (b : UInt8) {v : Int} (hv : v = (b.toNat : Int)) : Buf (w.setCell ⟨g, i, none⟩ (.int .u8 v)) base g (l.set i b) := by
  subst hv
  have := (World.ownsRow.stored h i (.int .u8 (b.toNat : Int))).1
  unfold Buf bvals at *
  rw [List.length_set, List.map_set]
  exact this

theorem Buf.drew {w : World} {base g : Nat} {l : List UInt8} (h : Buf w base g l) : Buf w.drew base g l := h

theorem Buf.conv {w : World} {base g : Nat} {l : List UInt8} (h : Buf w base g l) (n : Nat) (hn : n = l.length) : (convert 117 9 (.slice (some ⟨g, 0, none⟩) n n)).run Try.prog w = .ok (.string ⟨l.toArray⟩) w := by
  subst hn
  refine run_convert_bytes_back w 117 9 5 _ _ l Try.underlying117 Try.underlying5 Try.underlying9 fun j hj => ?_
  have := h.cell hj
  simp only [Addr.add, Nat.zero_add]
  split
  · rename_i h0; subst h0; rw [this]; simp [List.getD, List.getElem?_eq_getElem hj]
  · rw [this]; simp [List.getD, List.getElem?_eq_getElem hj]

/-- 'f' laid into the first 'i' of 'n' places, 0 behind them. -/
def fillL (f : Nat → UInt8) (n i : Nat) : List UInt8 := (List.range n).map fun j => if j < i then f j else 0

theorem fillL_length (f : Nat → UInt8) (n i : Nat) : (fillL f n i).length = n := by simp [fillL]

theorem fillL_set (f : Nat → UInt8) (n i : Nat) : (fillL f n i).set i (f i) = fillL f n (i + 1) := by
  refine List.ext_getElem (by simp [fillL]) fun j h1 h2 => ?_
  simp only [fillL, List.getElem_set, List.getElem_map, List.getElem_range]
  by_cases h : i = j
  · subst h; simp
  · rw [if_neg h]
    by_cases h' : j < i
    · rw [if_pos h', if_pos (by omega)]
    · rw [if_neg h', if_neg (by omega)]

theorem fillL_full (f : Nat → UInt8) (n : Nat) : fillL f n n = (List.range n).map f := by
  unfold fillL
  refine List.map_congr_left fun j hj => ?_
  rw [if_pos (List.mem_range.1 hj)]

theorem info_u8 : (Try.prog.info? 5).map (fun i => (i.zero, i.size, i.bytes)) = some (some (.int .u8 0), 1, 1) := by kernel_rfl

theorem buf_made {w : World} {base g n : Nat} (f : Nat → UInt8) (h : w.ownsRow base 5 1 (.slice (some ⟨g, 0, none⟩) n n) n (madeCells (Value.cells (.int .u8 0)) (n * 1)).toList) : Buf w base g (fillL f n 0) := by
  unfold Buf
  rw [fillL_length]
  have e : (madeCells (Value.cells (.int .u8 0)) (n * 1)).toList = bvals (fillL f n 0) := by
    refine List.ext_getElem ?_ fun j h1 h2 => ?_
    · simp [bvals, fillL_length, madeCells]
    · simp [bvals, fillL, madeCells, Value.cells, Nat.mod_one]
  rwa [e] at h

theorem Buf.grown {w : World} {base g : Nat} {l : List UInt8} (h : Buf w base g l) (i : Nat) (v : Value) : w.grownBy (w.setCell ⟨g, i, none⟩ v) (some g) := (World.ownsRow.stored h i v).2

/-- The slice 'v', the call's own from block 'base' on, holds the bytes 'l'. -/
def OwnB (w : World) (base : Nat) (v : Value) (l : List UInt8) : Prop := w.ownsRow base 5 1 v l.length (bvals l)

theorem OwnB.drew {w : World} {base : Nat} {v : Value} {l : List UInt8} (h : OwnB w base v l) : OwnB w.drew base v l := h

theorem OwnB.alloc {w : World} {base : Nat} {v : Value} {l : List UInt8} (h : OwnB w base v l) (o : Obj) : OwnB (w.alloc o) base v l := World.ownsRow.alloc h o

theorem OwnB.nil (w : World) (base : Nat) : OwnB w base (.slice none 0 0) [] := World.ownsRow_nil w base _ _

theorem OwnB.below {w w' : World} {base B : Nat} {v : Value} {l : List UInt8} (h : OwnB w base v l) (hb : Below B w w') (hB : w.heap.size ≤ B) : OwnB w' base v l := by
  refine ⟨h.1, ?_⟩
  rcases h.2 with h' | ⟨g, cap, cur, hv, hg, hc, r⟩
  · exact .inl h'
  · have hlt : g < w.heap.size := by
      rcases Nat.lt_or_ge g w.heap.size with h | h
      · exact h
      · rw [Array.getElem?_eq_none h] at hc; cases hc
    exact .inr ⟨g, cap, cur, hv, hg, by rw [hb.block g (by omega)]; exact hc, r⟩

theorem OwnB.start {w : World} {base : Nat} (hb : base ≤ w.heap.size) (_ : Nat) : OwnB (w.alloc (.cells #[] 5)) base (.slice (some ⟨w.heap.size, 0, none⟩) 0 0) [] := by
  refine ⟨rfl, .inr ⟨w.heap.size, 0, #[], rfl, hb, ?_, Nat.le_refl _, by unfold maxLen; omega, rfl, rfl⟩⟩
  exact (MapKept.heap_alloc w _).1

theorem OwnB.conv {w : World} {base : Nat} {v : Value} {l : List UInt8} (h : OwnB w base v l) : (convert 117 9 v).run Try.prog w = .ok (.string ⟨l.toArray⟩) w := by
  rcases h.2 with ⟨hv, hn⟩ | ⟨g, cap, cur, hv, hg, hc, hn, hcap, hsz, hx⟩
  · subst hv
    obtain rfl : l = [] := List.eq_nil_of_length_eq_zero hn
    exact Lib.run_convert_nil_bytes w _ _ 5 0 Try.underlying117 Try.underlying5 Try.underlying9
  · subst hv
    refine run_convert_bytes_back w 117 9 5 _ _ l Try.underlying117 Try.underlying5 Try.underlying9 fun j hj => ?_
    refine World.ownsRow.cells h rfl j _ ?_
    simp [bvals, List.getElem?_eq_getElem hj]

theorem wpList_append_bytes {ops : Array Oper} {rest : List Oper} {o : Oper} {a : Act} {Q : Exit → Act → World → Prop} {w : World} (hgd : o.guard = Option.none) (s x : Operand)
    (ho : o.op = .call { callee := .builtin .append, args := #[s, x], argTypes := #[117, 117] }) (base : Nat) (v : Value) (l : List UInt8) (hs : a.eval s = v) (hown : OwnB w base v l)
    (ad : Addr) (m c : Nat) (news : List UInt8) (hx : a.eval x = .slice (some ad) m c) (hl : news.length = m) (hnews : ∀ j (h : j < news.length), w.cell? (ad.add j) = some (.int .u8 (news[j].toNat : Int)))
    (hb : l.length + m ≤ 140737488355328) (hbase : base ≤ w.heap.size)
    (h : ∀ v' w', OwnB w' base v' (l ++ news) → (∀ w0, Below base w0 w → Below base w0 w') → w.heap.size ≤ w'.heap.size → wpList Try.prog ops Q rest (a.put o.dst v') w') : wpList Try.prog ops Q (o :: rest) a w := by
  obtain ⟨i0, hi, hz0, hz1, hz2⟩ := info_parts info_u8
  subst hl
  refine wpList_append_own w hgd s x 117 ho base 5 i0 (.int .u8 0) 1 1 Try.underlying117 hi hz0 hz1 hz2 rfl (by decide) v l.length (bvals l) hs hown ad news.length c (bvals news) hx (by simp [bvals]) ?_ ?_ (by unfold maxLen; omega) (by omega) hbase ?_
  · intro j u hj
    simp only [bvals, List.getElem?_map, Option.map_eq_some_iff] at hj
    obtain ⟨b, hb1, rfl⟩ := hj
    obtain ⟨hlt, rfl⟩ := List.getElem?_eq_some_iff.1 hb1
    exact hnews j hlt
  · intro u hu
    obtain ⟨b, _, rfl⟩ := List.mem_map.1 hu
    rfl
  · intro v' w' hown' hg _
    refine h v' w' ?_ (fun w0 h0 => h0.grown hg hbase fun k hk => ?_) hg.size
    · unfold OwnB bvals at *
      rw [List.length_append, List.map_append]
      exact hown'
    · exact (World.ownsRow.lt hown k hk).1

/-- 'append' to the call's own bytes, as one step of a region that draws. -/
theorem step_append_bytes {ops : Array Oper} {o : Oper} {a : Act} {K : Act → World → Prop} {Q : Exit → Act → World → Prop} {E : Prop} {w : World} (hgd : o.guard = Option.none) (s x : Operand)
    (ho : o.op = .call { callee := .builtin .append, args := #[s, x], argTypes := #[117, 117] }) (base : Nat) (v : Value) (l : List UInt8) (hs : a.eval s = v) (hown : OwnB w base v l)
    (ad : Addr) (m c : Nat) (news : List UInt8) (hx : a.eval x = .slice (some ad) m c) (hl : news.length = m) (hnews : ∀ j (h : j < news.length), w.cell? (ad.add j) = some (.int .u8 (news[j].toNat : Int)))
    (hb : l.length + m ≤ 140737488355328) (hbase : base ≤ w.heap.size)
    (h : ∀ v' w', OwnB w' base v' (l ++ news) → (∀ w0, Below base w0 w → Below base w0 w') → w.heap.size ≤ w'.heap.size → K (a.put o.dst v') w') :
    if Region.wanted o (yielded ops a.tmps) = true then Oper.wp Try.prog o a w K Q else E := by
  rw [if_pos (by simp [Region.wanted, hgd])]
  obtain ⟨i0, hi, hz0, hz1, hz2⟩ := info_parts info_u8
  subst hl
  refine wp_append_own w s x 117 ho base 5 i0 (.int .u8 0) 1 1 Try.underlying117 hi hz0 hz1 hz2 rfl (by decide) v l.length (bvals l) hs hown ad news.length c (bvals news) hx (by simp [bvals]) ?_ ?_ (by unfold maxLen; omega) (by omega) hbase ?_
  · intro j u hj
    simp only [bvals, List.getElem?_map, Option.map_eq_some_iff] at hj
    obtain ⟨b, hb1, rfl⟩ := hj
    obtain ⟨hlt, rfl⟩ := List.getElem?_eq_some_iff.1 hb1
    exact hnews j hlt
  · intro u hu
    obtain ⟨b, _, rfl⟩ := List.mem_map.1 hu
    rfl
  · intro v' w' hown' hg _
    refine h v' w' ?_ (fun w0 h0 => h0.grown hg hbase fun k hk => ?_) hg.size
    · unfold OwnB bvals at *
      rw [List.length_append, List.map_append]
      exact hown'
    · exact (World.ownsRow.lt hown k hk).1

theorem two_cells {w : World} {x y : Int} {b c : UInt8} {T : TypeId} (hx : x = (b.toNat : Int)) (hy : y = (c.toNat : Int)) : ∀ j (h : j < [b, c].length), (w.alloc (.cells #[.int .u8 x, .int .u8 y] T)).cell? ((⟨w.heap.size, 0, Option.none⟩ : Addr).add j) = some (.int .u8 ([b, c][j].toNat : Int)) := by
  intro j h
  subst hx hy
  match j, h with
  | 0, _ => simp [Addr.add]
  | 1, _ => simp [Addr.add]

theorem one_cell_new {w : World} {x : Int} {b : UInt8} {T : TypeId} (hx : x = (b.toNat : Int)) : ∀ j (h : j < [b].length), (w.alloc (.cells #[.int .u8 x] T)).cell? ((⟨w.heap.size, 0, Option.none⟩ : Addr).add j) = some (.int .u8 ([b][j].toNat : Int)) := by
  intro j h
  subst hx
  match j, h with
  | 0, _ => simp [Addr.add]

theorem OwnB.one {w : World} {base : Nat} (hb : base ≤ w.heap.size) {x : Int} (b : UInt8) (hx : x = (b.toNat : Int)) : OwnB (w.alloc (.cells #[.int .u8 x] 5)) base (.slice (some ⟨w.heap.size, 0, Option.none⟩) 1 1) [b] := by
  subst hx
  refine ⟨rfl, .inr ⟨w.heap.size, 1, _, rfl, hb, (MapKept.heap_alloc w _).1, Nat.le_refl _, by unfold maxLen; omega, rfl, rfl⟩⟩
theorem OwnB.two {w : World} {base : Nat} (hb : base ≤ w.heap.size) {x y : Int} (b c : UInt8) (hx : x = (b.toNat : Int)) (hy : y = (c.toNat : Int)) : OwnB (w.alloc (.cells #[.int .u8 x, .int .u8 y] 5)) base (.slice (some ⟨w.heap.size, 0, Option.none⟩) 2 2) [b, c] := by
  subst hx hy
  refine ⟨rfl, .inr ⟨w.heap.size, 2, _, rfl, hb, (MapKept.heap_alloc w _).1, Nat.le_refl _, by unfold maxLen; omega, rfl, rfl⟩⟩

theorem OwnB.four {w : World} {base : Nat} (hb : base ≤ w.heap.size) {x y z u : Int} (b c d e : UInt8) (hx : x = (b.toNat : Int)) (hy : y = (c.toNat : Int)) (hz : z = (d.toNat : Int)) (hu : u = (e.toNat : Int)) : OwnB (w.alloc (.cells #[.int .u8 x, .int .u8 y, .int .u8 z, .int .u8 u] 5)) base (.slice (some ⟨w.heap.size, 0, Option.none⟩) 4 4) [b, c, d, e] := by
  subst hx hy hz hu
  refine ⟨rfl, .inr ⟨w.heap.size, 4, _, rfl, hb, (MapKept.heap_alloc w _).1, Nat.le_refl _, by unfold maxLen; omega, rfl, rfl⟩⟩

theorem one_cell_at {w : World} {n : Nat} {x : Int} {b : UInt8} {T : TypeId} (hx : x = (b.toNat : Int)) (hn : n = w.heap.size) : ∀ j (h : j < [b].length), (w.alloc (.cells #[.int .u8 x] T)).cell? ((⟨n, 0, Option.none⟩ : Addr).add j) = some (.int .u8 ([b][j].toNat : Int)) := by
  subst hn
  exact one_cell_new hx
end Go.Proofs.Ythipnbiilobjeaa
