/- A row of bytes that the call itself has made. Rlp: items, how they are written and read: plain laws. Rlp: reading: plain laws. Rlp: the reference's reading: plain laws. Rlp: contracts of the program: plain, head. Rlp: contracts of the program: head. Rlp: items in memory. From one contract of a law's call to the given statement of the second form (bulk at most the bound). Rlp: items that come in. -/
import Derived.Lib.BufferRead
import Derived.Laws.AppendOwnNone
import Derived.JoinedCond
import Derived.Lib.SmallJoins
import Derived.Test.YtefmlbckbhlgdaaRa0
namespace Go.Proofs.Ytefmlbckbhlgdaa
open Go.RowKit
/-- Bytes as cells. -/
def bvals (l : List UInt8) : List Value := l.map fun b => .int .u8 (b.toNat : Int)

/-- Block 'g' holds the bytes 'l', the call's own, from block 'base' on. -/
def Buf (w : World) (base g : Nat) (l : List UInt8) : Prop := w.ownsRow base 5 1 (.slice (some ⟨g, 0, none⟩) l.length l.length) l.length (bvals l)

theorem Buf.cell {w : World} {base g : Nat} {l : List UInt8} (h : Buf w base g l) {i : Nat} (hi : i < l.length) : w.cell? ⟨g, i, none⟩ = some (.int .u8 ((l.getD i 0).toNat : Int)) := by
  have := World.ownsRow.cellAt h i (by simpa using hi)
  rw [this]
  simp [bvals, List.getElem?_eq_getElem hi, List.getD]

theorem Buf.frozen {w : World} {base g : Nat} {l : List UInt8} (h : Buf w base g l) (i : Nat) : w.frozen? ⟨g, i, none⟩ = false := World.ownsRow.frozenAt h i

theorem Buf.lt {w : World} {base g : Nat} {l : List UInt8} (h : Buf w base g l) : base ≤ g ∧ g < w.heap.size := World.ownsRow.lt h g rfl

theorem Buf.set {w : World} {base g : Nat} {l : List UInt8} (h : Buf w base g l) (i : Nat) (b : UInt8) {v : Int} (hv : v = (b.toNat : Int)) : Buf (w.setCell ⟨g, i, none⟩ (.int .u8 v)) base g (l.set i b) := by
  subst hv
  have := (World.ownsRow.stored h i (.int .u8 (b.toNat : Int))).1
  unfold Buf bvals at *
  rw [List.length_set, List.map_set]
  exact this

theorem Buf.drew {w : World} {base g : Nat} {l : List UInt8} (h : Buf w base g l) : Buf w.drew base g l := h

theorem Buf.conv {w : World} {base g : Nat} {l : List UInt8} (h : Buf w base g l) (n : Nat) (hn : n = l.length) : (convert 123 9 (.slice (some ⟨g, 0, none⟩) n n)).run Try.prog w = .ok (.string ⟨l.toArray⟩) w := by
  subst hn
  refine run_convert_bytes_back w 123 9 5 _ _ l Try.underlying123 Try.underlying5 Try.underlying9 fun j hj => ?_
  have := h.cell hj
  simp only [Addr.add, Nat.zero_add]
  split
  · rename_i h0; subst h0; rw [this]; simp [List.getD, List.getElem?_eq_getElem hj]
  · rw [this]; simp [List.getD, List.getElem?_eq_getElem hj]

/-- 'f' laid into the first 'i' of 'n' places, 0 behind them. -/
def fillL (f : Nat → UInt8) (n i : Nat) : List UInt8 := (List.range n).map fun j => if j < i then f j else 0

theorem fillL_length (f : Nat → UInt8) (n i : Nat) : (fillL f n i).length = n := by simp [fillL]

theorem fillL_set (f : Nat → UInt8) (n i : Nat) : (fillL f n i).set i (f i) = fillL f n (i + 1) := by
  refine List.ext_getElem (by simp [fillL]) fun j h1 h2 => ?_
  simp only [fillL, List.getElem_set, List.getElem_map, List.getElem_range]
  by_cases h : i = j
  · subst h; simp
  · rw [if_neg h]
    by_cases h' : j < i
    · rw [if_pos h', if_pos (by omega)]
    · rw [if_neg h', if_neg (by omega)]

theorem fillL_full (f : Nat → UInt8) (n : Nat) : fillL f n n = (List.range n).map f := by
  unfold fillL
  refine List.map_congr_left fun j hj => ?_
  rw [if_pos (List.mem_range.1 hj)]

theorem info_u8 : (Try.prog.info? 5).map (fun i => (i.zero, i.size, i.bytes)) = some (some (.int .u8 0), 1, 1) := by kernel_rfl

theorem buf_made {w : World} {base g n : Nat} (f : Nat → UInt8) (h : w.ownsRow base 5 1 (.slice (some ⟨g, 0, none⟩) n n) n (madeCells (Value.cells (.int .u8 0)) (n * 1)).toList) : Buf w base g (fillL f n 0) := by
  unfold Buf
  rw [fillL_length]
  have e : (madeCells (Value.cells (.int .u8 0)) (n * 1)).toList = bvals (fillL f n 0) := by
    refine List.ext_getElem ?_ fun j h1 h2 => ?_
    · simp [bvals, fillL_length, madeCells]
    · simp [bvals, fillL, madeCells, Value.cells, Nat.mod_one]
  rwa [e] at h

theorem Buf.grown {w : World} {base g : Nat} {l : List UInt8} (h : Buf w base g l) (i : Nat) (v : Value) : w.grownBy (w.setCell ⟨g, i, none⟩ v) (some g) := (World.ownsRow.stored h i v).2

/-- The slice 'v', the call's own from block 'base' on, holds the bytes 'l'. -/
def OwnB (w : World) (base : Nat) (v : Value) (l : List UInt8) : Prop := w.ownsRow base 5 1 v l.length (bvals l)

theorem OwnB.drew {w : World} {base : Nat} {v : Value} {l : List UInt8} (h : OwnB w base v l) : OwnB w.drew base v l := h

theorem OwnB.alloc {w : World} {base : Nat} {v : Value} {l : List UInt8} (h : OwnB w base v l) (o : Obj) : OwnB (w.alloc o) base v l := World.ownsRow.alloc h o

theorem OwnB.nil (w : World) (base : Nat) : OwnB w base (.slice none 0 0) [] := World.ownsRow_nil w base _ _

theorem OwnB.below {w w' : World} {base B : Nat} {v : Value} {l : List UInt8} (h : OwnB w base v l) (hb : Below B w w') (hB : w.heap.size ≤ B) : OwnB w' base v l := by
  refine ⟨h.1, ?_⟩
  rcases h.2 with h' | ⟨g, cap, cur, hv, hg, hc, r⟩
  · exact .inl h'
  · have hlt : g < w.heap.size := by
      rcases Nat.lt_or_ge g w.heap.size with h | h
      · exact h
      · rw [Array.getElem?_eq_none h] at hc; cases hc
    exact .inr ⟨g, cap, cur, hv, hg, by rw [hb.block g (by omega)]; exact hc, r⟩

theorem OwnB.start {w : World} {base : Nat} (hb : base ≤ w.heap.size) (_ : Nat) : OwnB (w.alloc (.cells #[] 5)) base (.slice (some ⟨w.heap.size, 0, none⟩) 0 0) [] := by
  refine ⟨rfl, .inr ⟨w.heap.size, 0, #[], rfl, hb, ?_, Nat.le_refl _, by unfold maxLen; omega, rfl, rfl⟩⟩
  exact (MapKept.heap_alloc w _).1

theorem OwnB.conv {w : World} {base : Nat} {v : Value} {l : List UInt8} (h : OwnB w base v l) : (convert 123 9 v).run Try.prog w = .ok (.string ⟨l.toArray⟩) w := by
  rcases h.2 with ⟨hv, hn⟩ | ⟨g, cap, cur, hv, hg, hc, hn, hcap, hsz, hx⟩
  · subst hv
    obtain rfl : l = [] := List.eq_nil_of_length_eq_zero hn
    exact Lib.run_convert_nil_bytes w _ _ 5 0 Try.underlying123 Try.underlying5 Try.underlying9
  · subst hv
    refine run_convert_bytes_back w 123 9 5 _ _ l Try.underlying123 Try.underlying5 Try.underlying9 fun j hj => ?_
    refine World.ownsRow.cells h rfl j _ ?_
    simp [bvals, List.getElem?_eq_getElem hj]

theorem wpList_append_bytes {ops : Array Oper} {rest : List Oper} {o : Oper} {a : Act} {Q : Exit → Act → World → Prop} {w : World} (hgd : o.guard = Option.none) (s x : Operand)
    (ho : o.op = .call { callee := .builtin .append, args := #[s, x], argTypes := #[123, 123] }) (base : Nat) (v : Value) (l : List UInt8) (hs : a.eval s = v) (hown : OwnB w base v l)
    (ad : Addr) (m c : Nat) (news : List UInt8) (hx : a.eval x = .slice (some ad) m c) (hl : news.length = m) (hnews : ∀ j (h : j < news.length), w.cell? (ad.add j) = some (.int .u8 (news[j].toNat : Int)))
    (hb : l.length + m ≤ 140737488355328) (hbase : base ≤ w.heap.size)
    (h : ∀ v' w', OwnB w' base v' (l ++ news) → (∀ w0, Below base w0 w → Below base w0 w') → w.heap.size ≤ w'.heap.size → wpList Try.prog ops Q rest (a.put o.dst v') w') : wpList Try.prog ops Q (o :: rest) a w := by
  obtain ⟨i0, hi, hz0, hz1, hz2⟩ := info_parts info_u8
  subst hl
  refine wpList_append_own w hgd s x 123 ho base 5 i0 (.int .u8 0) 1 1 Try.underlying123 hi hz0 hz1 hz2 rfl (by decide) v l.length (bvals l) hs hown ad news.length c (bvals news) hx (by simp [bvals]) ?_ ?_ (by unfold maxLen; omega) (by omega) hbase ?_
  · intro j u hj
    simp only [bvals, List.getElem?_map, Option.map_eq_some_iff] at hj
    obtain ⟨b, hb1, rfl⟩ := hj
    obtain ⟨hlt, rfl⟩ := List.getElem?_eq_some_iff.1 hb1
    exact hnews j hlt
  · intro u hu
    obtain ⟨b, _, rfl⟩ := List.mem_map.1 hu
    rfl
  · intro v' w' hown' hg _
    refine h v' w' ?_ (fun w0 h0 => h0.grown hg hbase fun k hk => ?_) hg.size
    · unfold OwnB bvals at *
      rw [List.length_append, List.map_append]
      exact hown'
    · exact (World.ownsRow.lt hown k hk).1

/-- 'append' to the call's own bytes, as one step of a region that draws. -/
theorem step_append_bytes {ops : Array Oper} {o : Oper} {a : Act} {K : Act → World → Prop} {Q : Exit → Act → World → Prop} {E : Prop} {w : World} (hgd : o.guard = Option.none) (s x : Operand)
    (ho : o.op = .call { callee := .builtin .append, args := #[s, x], argTypes := #[123, 123] }) (base : Nat) (v : Value) (l : List UInt8) (hs : a.eval s = v) (hown : OwnB w base v l)
    (ad : Addr) (m c : Nat) (news : List UInt8) (hx : a.eval x = .slice (some ad) m c) (hl : news.length = m) (hnews : ∀ j (h : j < news.length), w.cell? (ad.add j) = some (.int .u8 (news[j].toNat : Int)))
    (hb : l.length + m ≤ 140737488355328) (hbase : base ≤ w.heap.size)
    (h : ∀ v' w', OwnB w' base v' (l ++ news) → (∀ w0, Below base w0 w → Below base w0 w') → w.heap.size ≤ w'.heap.size → K (a.put o.dst v') w') :
    if Region.wanted o (yielded ops a.tmps) = true then Oper.wp Try.prog o a w K Q else E := by
  rw [if_pos (by simp [Region.wanted, hgd])]
  obtain ⟨i0, hi, hz0, hz1, hz2⟩ := info_parts info_u8
  subst hl
  refine wp_append_own w s x 123 ho base 5 i0 (.int .u8 0) 1 1 Try.underlying123 hi hz0 hz1 hz2 rfl (by decide) v l.length (bvals l) hs hown ad news.length c (bvals news) hx (by simp [bvals]) ?_ ?_ (by unfold maxLen; omega) (by omega) hbase ?_
  · intro j u hj
    simp only [bvals, List.getElem?_map, Option.map_eq_some_iff] at hj
    obtain ⟨b, hb1, rfl⟩ := hj
    obtain ⟨hlt, rfl⟩ := List.getElem?_eq_some_iff.1 hb1
    exact hnews j hlt
  · intro u hu
    obtain ⟨b, _, rfl⟩ := List.mem_map.1 hu
    rfl
  · intro v' w' hown' hg _
    refine h v' w' ?_ (fun w0 h0 => h0.grown hg hbase fun k hk => ?_) hg.size
    · unfold OwnB bvals at *
      rw [List.length_append, List.map_append]
      exact hown'
    · exact (World.ownsRow.lt hown k hk).1

theorem two_cells {w : World} {x y : Int} {b c : UInt8} {T : TypeId} (hx : x = (b.toNat : Int)) (hy : y = (c.toNat : Int)) : ∀ j (h : j < [b, c].length), (w.alloc (.cells #[.int .u8 x, .int .u8 y] T)).cell? ((⟨w.heap.size, 0, Option.none⟩ : Addr).add j) = some (.int .u8 ([b, c][j].toNat : Int)) := by
  intro j h
  subst hx hy
  match j, h with
  | 0, _ => simp [Addr.add]
  | 1, _ => simp [Addr.add]

theorem OwnB.one {w : World} {base : Nat} (hb : base ≤ w.heap.size) {x : Int} (b : UInt8) (hx : x = (b.toNat : Int)) : OwnB (w.alloc (.cells #[.int .u8 x] 5)) base (.slice (some ⟨w.heap.size, 0, Option.none⟩) 1 1) [b] := by
  subst hx
  refine ⟨rfl, .inr ⟨w.heap.size, 1, _, rfl, hb, (MapKept.heap_alloc w _).1, Nat.le_refl _, by unfold maxLen; omega, rfl, rfl⟩⟩
theorem OwnB.two {w : World} {base : Nat} (hb : base ≤ w.heap.size) {x y : Int} (b c : UInt8) (hx : x = (b.toNat : Int)) (hy : y = (c.toNat : Int)) : OwnB (w.alloc (.cells #[.int .u8 x, .int .u8 y] 5)) base (.slice (some ⟨w.heap.size, 0, Option.none⟩) 2 2) [b, c] := by
  subst hx hy
  refine ⟨rfl, .inr ⟨w.heap.size, 2, _, rfl, hb, (MapKept.heap_alloc w _).1, Nat.le_refl _, by unfold maxLen; omega, rfl, rfl⟩⟩

theorem OwnB.four {w : World} {base : Nat} (hb : base ≤ w.heap.size) {x y z u : Int} (b c d e : UInt8) (hx : x = (b.toNat : Int)) (hy : y = (c.toNat : Int)) (hz : z = (d.toNat : Int)) (hu : u = (e.toNat : Int)) : OwnB (w.alloc (.cells #[.int .u8 x, .int .u8 y, .int .u8 z, .int .u8 u] 5)) base (.slice (some ⟨w.heap.size, 0, Option.none⟩) 4 4) [b, c, d, e] := by
  subst hx hy hz hu
  refine ⟨rfl, .inr ⟨w.heap.size, 4, _, rfl, hb, (MapKept.heap_alloc w _).1, Nat.le_refl _, by unfold maxLen; omega, rfl, rfl⟩⟩

end Go.Proofs.Ytefmlbckbhlgdaa
namespace Go.Proofs.Ytefmlbckbhlgdaa
set_option maxRecDepth 100000
/-- An item: whether it is a list, its bytes, its kids. -/
inductive It where
  | mk (l : Bool) (b : List UInt8) (k : List It)

mutual
/-- How many items there are in one. -/
def It.size : It → Nat
  | .mk _ _ ks => 1 + sizes ks
def sizes : List It → Nat
  | [] => 0
  | k :: ks => k.size + sizes ks
end
mutual
/-- Each one in it is bytes or a list. -/
def It.pure : It → Prop
  | .mk l b ks => (l = true → b = []) ∧ (l = false → ks = []) ∧ pures ks
def pures : List It → Prop
  | [] => True
  | k :: ks => k.pure ∧ pures ks
end
mutual
/-- How deep lists go. -/
def It.depth : It → Nat
  | .mk l _ ks => depths ks + (if l = true then 1 else 0)
def depths : List It → Nat
  | [] => 0
  | k :: ks => max k.depth (depths ks)
end
/-- A number's bytes, the highest first. -/
def dig (n : Nat) : List UInt8 := if n = 0 then [] else dig (n / 256) ++ [UInt8.ofNat n]
termination_by n
decreasing_by omega

theorem dig_zero : dig 0 = [] := by rw [dig]; rfl
theorem dig_pos {n : Nat} (h : 0 < n) : dig n = dig (n / 256) ++ [UInt8.ofNat n] := by rw [dig, if_neg (by omega)]
theorem dig_one {n : Nat} (h : 0 < n) (h' : n < 256) : dig n = [UInt8.ofNat n] := by
  rw [dig_pos h, show n / 256 = 0 by omega, dig_zero]; rfl
theorem dig_two {n : Nat} (h : 256 ≤ n) (h' : n < 65536) : dig n = [UInt8.ofNat (n / 256), UInt8.ofNat n] := by
  rw [dig_pos (by omega), dig_one (by omega) (by omega)]; rfl

/-- What stands ahead of so many bytes. -/
def headL (fr n : Nat) : List UInt8 := if n ≤ 55 then [UInt8.ofNat (fr + n)] else UInt8.ofNat (fr + 55 + (dig n).length) :: dig n

theorem headL_short {fr n : Nat} (h : n ≤ 55) : headL fr n = [UInt8.ofNat (fr + n)] := by rw [headL, if_pos h]
theorem headL_one {fr n : Nat} (h : 55 < n) (h' : n < 256) : headL fr n = [UInt8.ofNat (fr + 56), UInt8.ofNat n] := by
  rw [headL, if_neg (by omega), dig_one (by omega) h']; rfl
theorem headL_two {fr n : Nat} (h : 256 ≤ n) (h' : n < 65536) : headL fr n = [UInt8.ofNat (fr + 57), UInt8.ofNat (n / 256), UInt8.ofNat n] := by
  rw [headL, if_neg (by omega), dig_two h h']; rfl
theorem headL_length {fr n : Nat} (h : n < 65536) : (headL fr n).length = if n ≤ 55 then 1 else if n < 256 then 2 else 3 := by
  split
  · rw [headL_short (by assumption)]; rfl
  · split
    · rw [headL_one (by omega) (by assumption)]; rfl
    · rw [headL_two (by omega) h]; rfl
theorem headL_pos (fr n : Nat) : 1 ≤ (headL fr n).length := by
  unfold headL; split <;> simp

mutual
/-- What an item is written as. -/
def It.write : It → List UInt8
  | .mk l b ks => if l = true then headL 192 (writes ks).length ++ writes ks else if b.length = 1 ∧ (b.getD 0 0).toNat < 128 then b else headL 128 b.length ++ b
def writes : List It → List UInt8
  | [] => []
  | k :: ks => k.write ++ writes ks
end
/-- A head: whether it is a list's, where what it stands ahead of begins, and ends. -/
def cutL : List UInt8 → Option (Bool × Nat × Nat)
  | [] => none
  | c :: s =>
    if c.toNat < 128 then some (false, 0, 1)
    else
      let fr := if 192 ≤ c.toNat then 192 else 128
      let n := c.toNat - fr
      if n ≤ 55 then some (decide (192 ≤ c.toNat), 1, 1 + n)
      else if n = 56 then (match s with | a :: _ => if a.toNat ≤ 55 then none else some (decide (192 ≤ c.toNat), 2, 2 + a.toNat) | [] => none)
      else if n = 57 then (match s with | a :: b :: _ => if a.toNat = 0 then none else some (decide (192 ≤ c.toNat), 3, 3 + (256 * a.toNat + b.toNat)) | _ => none)
      else none

/-- Where a head counts from. -/
def frOf (is : Bool) : Nat := if is = true then 192 else 128

theorem cut_head (is : Bool) (n : Nat) (h : n < 65536) (t : List UInt8) : cutL (headL (frOf is) n ++ t) = some (is, (headL (frOf is) n).length, (headL (frOf is) n).length + n) := by
  have e1 : ∀ m : Nat, m < 256 → (UInt8.ofNat m).toNat = m := fun m hm => by simp; omega
  obtain ⟨F, hF, hF1, hF2, hF3⟩ : ∃ F, frOf is = F ∧ F ≤ 192 ∧ 128 ≤ F ∧ ∀ c, F ≤ c → c ≤ F + 63 → (if 192 ≤ c then 192 else 128) = F ∧ decide (192 ≤ c) = is := by
    cases is
    · exact ⟨128, rfl, by omega, by omega, fun c h1 h2 => ⟨if_neg (by omega), decide_eq_false (by omega)⟩⟩
    · exact ⟨192, rfl, by omega, by omega, fun c h1 h2 => ⟨if_pos (by omega), decide_eq_true (by omega)⟩⟩
  rw [hF]
  by_cases h1 : n ≤ 55
  · obtain ⟨g1, g2⟩ := hF3 (F + n) (by omega) (by omega)
    rw [headL_short h1]
    simp only [cutL, List.cons_append, List.nil_append, List.length_cons, List.length_nil, e1 (F + n) (by omega), g1, g2, if_neg (show ¬ F + n < 128 by omega), Nat.add_sub_cancel_left, if_pos h1]
  · by_cases h2 : n < 256
    · obtain ⟨g1, g2⟩ := hF3 (F + 56) (by omega) (by omega)
      rw [headL_one (by omega) h2]
      simp only [cutL, List.cons_append, List.nil_append, List.length_cons, List.length_nil, e1 (F + 56) (by omega), e1 n h2, g1, g2, if_neg (show ¬ F + 56 < 128 by omega), Nat.add_sub_cancel_left, if_neg (show ¬ 56 ≤ 55 by omega), if_neg h1, if_true]
    · obtain ⟨g1, g2⟩ := hF3 (F + 57) (by omega) (by omega)
      have e2 : (UInt8.ofNat n).toNat = n % 256 := by simp
      have e3 : 256 * (n / 256) + n % 256 = n := by omega
      rw [headL_two (by omega) h]
      simp only [cutL, List.cons_append, List.nil_append, List.length_cons, List.length_nil, e1 (F + 57) (by omega), e1 (n / 256) (by omega), e2, e3, g1, g2, if_neg (show ¬ F + 57 < 128 by omega), Nat.add_sub_cancel_left, if_neg (show ¬ 57 ≤ 55 by omega), if_neg (show ¬ 57 = 56 by omega), if_true, if_neg (show ¬ n / 256 = 0 by omega)]

theorem cut_inv {s : List UInt8} {is : Bool} {fr to : Nat} (h : cutL s = some (is, fr, to)) :
    (fr = 0 ∧ to = 1 ∧ is = false ∧ ∃ c t, s = c :: t ∧ c.toNat < 128) ∨ ∃ n t, n < 65536 ∧ s = headL (frOf is) n ++ t ∧ fr = (headL (frOf is) n).length ∧ to = fr + n := by
  have hc : ∀ c : UInt8, UInt8.ofNat c.toNat = c := fun c => by simp
  match s, h with
  | [], h => simp [cutL] at h
  | c :: s, h =>
    have hlt := c.toNat_lt
    simp only [cutL] at h
    split at h
    · simp at h; exact .inl ⟨h.2.1.symm, h.2.2.symm, h.1, c, s, rfl, by assumption⟩
    · have hf : (if 192 ≤ c.toNat then 192 else 128) = frOf (decide (192 ≤ c.toNat)) := by unfold frOf; simp
      rw [hf] at h
      have hle : frOf (decide (192 ≤ c.toNat)) ≤ c.toNat := by unfold frOf; split <;> simp_all
      obtain ⟨k, hk⟩ := Nat.le.dest hle
      rw [show c.toNat - frOf (decide (192 ≤ c.toNat)) = k by omega] at h
      split at h
      · simp only [Option.some.injEq, Prod.mk.injEq] at h
        obtain ⟨rfl, rfl, rfl⟩ := h
        refine .inr ⟨k, s, by omega, ?_, ?_, ?_⟩
        · rw [headL_short (by omega), hk, hc]; rfl
        · rw [headL_short (by omega)]; rfl
        · rfl
      · split at h
        · match s, h with
          | a :: s, h =>
            have ha := a.toNat_lt
            simp only at h
            split at h
            · simp at h
            · simp only [Option.some.injEq, Prod.mk.injEq] at h
              obtain ⟨rfl, rfl, rfl⟩ := h
              refine .inr ⟨a.toNat, s, by omega, ?_, ?_, rfl⟩
              · rw [headL_one (by omega) (by omega), show frOf (decide (192 ≤ c.toNat)) + 56 = c.toNat by omega, hc, hc]; rfl
              · rw [headL_one (by omega) (by omega)]; rfl
          | [], h => simp at h
        · split at h
          · match s, h with
            | a :: b :: s, h =>
              have ha := a.toNat_lt
              have hb := b.toNat_lt
              simp only at h
              split at h
              · simp at h
              · simp only [Option.some.injEq, Prod.mk.injEq] at h
                obtain ⟨rfl, rfl, rfl⟩ := h
                have q1 : (256 * a.toNat + b.toNat) / 256 = a.toNat := by omega
                have q2 : UInt8.ofNat (256 * a.toNat + b.toNat) = b := by
                  apply UInt8.toNat.inj
                  simp
                refine .inr ⟨256 * a.toNat + b.toNat, s, by omega, ?_, ?_, rfl⟩
                · rw [headL_two (by omega) (by omega), show frOf (decide (192 ≤ c.toNat)) + 57 = c.toNat by omega, hc, q1, hc, q2]; rfl
                · rw [headL_two (by omega) (by omega)]; rfl
            | [a], h => simp at h
            | [], h => simp at h
          · simp at h
end Go.Proofs.Ytefmlbckbhlgdaa
namespace Go.Proofs.Ytefmlbckbhlgdaa
set_option maxRecDepth 100000
mutual
/-- The item that stands first, and what stands behind it. -/
def readL : Nat → List UInt8 → Option (It × List UInt8)
  | 0, _ => none
  | f + 1, s =>
    match cutL s with
    | none => none
    | some (is, fr, to) =>
      if s.length < to then none
      else if is = true then (match kidsL f ((s.take to).drop fr) with | none => none | some ks => some (.mk true [] ks, s.drop to))
      else if fr = 1 ∧ to = 2 ∧ (s.getD 1 0).toNat < 128 then none
      else some (.mk false ((s.take to).drop fr) [], s.drop to)
def kidsL : Nat → List UInt8 → Option (List It)
  | _, [] => some []
  | 0, _ :: _ => none
  | f + 1, c :: s =>
    match readL f (c :: s) with
    | none => none
    | some (k, t) => (match kidsL f t with | none => none | some ks => some (k :: ks))
end
theorem write_pos : ∀ x : It, x.pure → 1 ≤ x.write.length
  | .mk l b ks, h => by
    rw [It.write]
    split
    · have := headL_pos 192 (writes ks).length; rw [List.length_append]; omega
    · split
      · omega
      · have := headL_pos 128 b.length; rw [List.length_append]; omega

theorem read_sound : ∀ f : Nat, (∀ s x t, readL f s = some (x, t) → s = x.write ++ t ∧ x.pure) ∧ (∀ s ks, kidsL f s = some ks → s = writes ks ∧ pures ks)
  | 0 => by
    refine ⟨fun s x t h => by simp [readL] at h, fun s ks h => ?_⟩
    cases s with
    | nil => simp [kidsL] at h; subst h; simp [writes, pures]
    | cons c s => simp [kidsL] at h
  | f + 1 => by
    obtain ⟨ih1, ih2⟩ := read_sound f
    refine ⟨fun s x t h => ?_, fun s ks h => ?_⟩
    · rw [readL] at h
      cases hc : cutL s with
      | none => simp [hc] at h
      | some q =>
        obtain ⟨is, fr, to⟩ := q
        simp only [hc] at h
        split at h
        · cases h
        rename_i hto
        rcases cut_inv hc with ⟨rfl, rfl, rfl, c, u, rfl, hlt⟩ | ⟨n, u, hn, rfl, rfl, rfl⟩
        · simp at h
          obtain ⟨rfl, rfl⟩ := h
          simp [It.write, It.pure, pures, hlt]
        · have hl : n ≤ u.length := by rw [List.length_append] at hto; omega
          have e1 : ((headL (frOf is) n ++ u).take ((headL (frOf is) n).length + n)).drop (headL (frOf is) n).length = u.take n := by
            rw [List.take_length_add_append, List.drop_left]
          have e2 : (headL (frOf is) n ++ u).drop ((headL (frOf is) n).length + n) = u.drop n := by
            rw [List.drop_length_add_append]
          rw [e1, e2] at h
          have e3 : (u.take n).length = n := by rw [List.length_take]; omega
          split at h
          · rename_i his
            subst his
            cases hk : kidsL f (u.take n) with
            | none => simp [hk] at h
            | some ks =>
              simp only [hk, Option.some.injEq, Prod.mk.injEq] at h
              obtain ⟨rfl, rfl⟩ := h
              obtain ⟨g1, g2⟩ := ih2 _ _ hk
              refine ⟨?_, by simp [It.pure, g2]⟩
              rw [It.write, if_pos rfl, ← g1, e3, List.append_assoc, List.take_append_drop]
              rfl
          · rename_i his
            have his' : is = false := by simpa using his
            subst his'
            split at h
            · cases h
            rename_i hb
            simp only [Option.some.injEq, Prod.mk.injEq] at h
            obtain ⟨rfl, rfl⟩ := h
            refine ⟨?_, by simp [It.pure, pures]⟩
            rw [It.write, if_neg (by simp), e3]
            by_cases hx : n = 1 ∧ ((u.take n).getD 0 0).toNat < 128
            · exfalso
              obtain ⟨rfl, hx⟩ := hx
              apply hb
              rw [headL_short (by omega)]
              refine ⟨rfl, rfl, ?_⟩
              cases u with
              | nil => simp at hl
              | cons a u => simpa using hx
            · rw [if_neg hx, List.append_assoc, List.take_append_drop]
              rfl
    · cases s with
      | nil => simp [kidsL] at h; subst h; simp [writes, pures]
      | cons c s =>
        rw [kidsL] at h
        cases hr : readL f (c :: s) with
        | none => simp [hr] at h
        | some q =>
          obtain ⟨k, t⟩ := q
          simp only [hr] at h
          cases hk : kidsL f t with
          | none => simp [hk] at h
          | some ks' =>
            simp only [hk, Option.some.injEq] at h
            subst h
            obtain ⟨g1, g2⟩ := ih1 _ _ _ hr
            obtain ⟨g3, g4⟩ := ih2 _ _ hk
            exact ⟨by rw [writes, g1, ← g3], by simp [pures, g2, g4]⟩

theorem read_write : ∀ f : Nat, (∀ (x : It) t, x.pure → x.write.length < 65536 → 2 * x.write.length ≤ f + 1 → readL f (x.write ++ t) = some (x, t)) ∧
    (∀ ks, pures ks → (writes ks).length < 65536 → 2 * (writes ks).length ≤ f → kidsL f (writes ks) = some ks)
  | 0 => by
    refine ⟨fun x t hp h1 h2 => ?_, fun ks hp h1 h2 => ?_⟩
    · have := write_pos x hp; omega
    · cases ks with
      | nil => simp [writes, kidsL]
      | cons k ks =>
        have := write_pos k hp.1
        rw [writes, List.length_append] at h2
        omega
  | f + 1 => by
    obtain ⟨ih1, ih2⟩ := read_write f
    refine ⟨fun x t hp h1 h2 => ?_, fun ks hp h1 h2 => ?_⟩
    · obtain ⟨l, b, ks⟩ := x
      obtain ⟨p1, p2, p3⟩ := hp
      cases l with
      | true =>
        obtain rfl := p1 rfl
        rw [It.write, if_pos rfl] at h1 h2 ⊢
        rw [List.length_append] at h1 h2
        have hh := headL_pos 192 (writes ks).length
        rw [readL, List.append_assoc, show headL 192 (writes ks).length = headL (frOf true) (writes ks).length from rfl, cut_head true _ (by omega)]
        simp only
        rw [if_neg (by simp only [List.length_append]; omega), if_pos trivial, List.take_length_add_append, List.drop_left, List.take_left, ih2 ks p3 (by omega) (by omega), List.drop_length_add_append, List.drop_left]
      | false =>
        obtain rfl := p2 rfl
        rw [It.write, if_neg (by simp)] at h1 h2 ⊢
        by_cases hb : b.length = 1 ∧ (b.getD 0 0).toNat < 128
        · rw [if_pos hb] at h1 h2 ⊢
          match b, hb with
          | [c], hb =>
            have hc : c.toNat < 128 := by simpa using hb.2
            simp [readL, cutL, hc]
        · rw [if_neg hb] at h1 h2 ⊢
          rw [List.length_append] at h1 h2
          have hh := headL_pos 128 b.length
          rw [readL, List.append_assoc, show headL 128 b.length = headL (frOf false) b.length from rfl, cut_head false _ (by omega)]
          simp only
          rw [if_neg (by simp only [List.length_append]; omega), if_neg (by simp), List.take_length_add_append, List.drop_left, List.take_left, List.drop_length_add_append, List.drop_left]
          rw [if_neg]
          rintro ⟨q1, q2, q3⟩
          apply hb
          have q4 : b.length = 1 := by omega
          refine ⟨q4, ?_⟩
          rw [headL_short (by omega)] at q3
          match b, q4 with
          | [c], _ => simpa using q3
    · cases ks with
      | nil => simp [writes, kidsL]
      | cons k ks =>
        have hk := write_pos k hp.1
        rw [writes] at h1 h2 ⊢
        rw [List.length_append] at h1 h2
        have h3 := ih1 k (writes ks) hp.1 (by omega) (by omega)
        have h4 := ih2 ks hp.2 (by omega) (by omega)
        cases he : k.write ++ writes ks with
        | nil => have := congrArg List.length he; rw [List.length_append, List.length_nil] at this; omega
        | cons c s =>
          rw [kidsL, ← he, h3]
          simp only
          rw [h4]

end Go.Proofs.Ytefmlbckbhlgdaa
namespace Go.Proofs.Ytefmlbckbhlgdaa
set_option maxRecDepth 100000
/-- What bytes tell, the highest first. -/
def valL (l : List UInt8) : Nat := l.foldl (fun n a => 256 * n + a.toNat) 0

/-- How many bytes a head has, and how many stand behind it. -/
def rsizeL : List UInt8 → Option (Nat × Nat)
  | [] => none
  | c :: s =>
    let c := if 192 ≤ c.toNat then c.toNat - 64 else c.toNat
    if c < 128 then some (0, 1)
    else if c ≤ 183 then some (1, c - 128)
    else if 3 < c - 183 ∨ s.length < c - 183 then none
    else some (1 + (c - 183), valL (s.take (c - 183)))

mutual
def rreadL : Nat → List UInt8 → Option (It × Nat)
  | 0, _ => none
  | f + 1, s =>
    match rsizeL s with
    | none => none
    | some (fr, n) =>
      if s.length < fr + n then none
      else if (s.getD 0 0).toNat < 192 then some (.mk false ((s.take (fr + n)).drop fr) [], fr + n)
      else (match rkidsL f ((s.take (fr + n)).drop fr) with | none => none | some ks => some (.mk true [] ks, fr + n))
def rkidsL : Nat → List UInt8 → Option (List It)
  | _, [] => some []
  | 0, _ :: _ => none
  | f + 1, c :: s =>
    match rreadL f (c :: s) with
    | none => none
    | some (k, m) => (match rkidsL f ((c :: s).drop m) with | none => none | some ks => some (k :: ks))
end
theorem rread_pure : ∀ f : Nat, (∀ s x n, rreadL f s = some (x, n) → x.pure) ∧ (∀ s ks, rkidsL f s = some ks → pures ks)
  | 0 => by
    refine ⟨fun s x n h => by simp [rreadL] at h, fun s ks h => ?_⟩
    cases s with
    | nil => simp [rkidsL] at h; subst h; simp [pures]
    | cons c s => simp [rkidsL] at h
  | f + 1 => by
    obtain ⟨ih1, ih2⟩ := rread_pure f
    refine ⟨fun s x n h => ?_, fun s ks h => ?_⟩
    · rw [rreadL] at h
      cases hc : rsizeL s with
      | none => simp [hc] at h
      | some q =>
        obtain ⟨fr, m⟩ := q
        simp only [hc] at h
        split at h
        · cases h
        split at h
        · simp only [Option.some.injEq, Prod.mk.injEq] at h
          obtain ⟨rfl, rfl⟩ := h
          simp [It.pure, pures]
        · cases hk : rkidsL f ((s.take (fr + m)).drop fr) with
          | none => simp [hk] at h
          | some ks =>
            simp only [hk, Option.some.injEq, Prod.mk.injEq] at h
            obtain ⟨rfl, rfl⟩ := h
            simp [It.pure, ih2 _ _ hk]
    · cases s with
      | nil => simp [rkidsL] at h; subst h; simp [pures]
      | cons c s =>
        rw [rkidsL] at h
        cases hr : rreadL f (c :: s) with
        | none => simp [hr] at h
        | some q =>
          obtain ⟨k, m⟩ := q
          simp only [hr] at h
          cases hk : rkidsL f ((c :: s).drop m) with
          | none => simp [hk] at h
          | some ks' =>
            simp only [hk, Option.some.injEq] at h
            subst h
            simp [pures, ih1 _ _ _ hr, ih2 _ _ hk]

theorem rsize_head (is : Bool) (n : Nat) (h : n < 65536) (t : List UInt8) : rsizeL (headL (frOf is) n ++ t) = some ((headL (frOf is) n).length, n) ∧ (((headL (frOf is) n ++ t).getD 0 0).toNat < 192 ↔ is = false) := by
  have e1 : ∀ m : Nat, m < 256 → (UInt8.ofNat m).toNat = m := fun m hm => by simp; omega
  obtain ⟨F, hF, hF1, hF2, hF3⟩ : ∃ F, frOf is = F ∧ F ≤ 192 ∧ 128 ≤ F ∧ ∀ c, F ≤ c → c ≤ F + 63 → (if 192 ≤ c then c - 64 else c) = 128 + (c - F) ∧ (c < 192 ↔ is = false) := by
    cases is
    · exact ⟨128, rfl, by omega, by omega, fun c h1 h2 => ⟨by rw [if_neg (by omega)]; omega, by simp; omega⟩⟩
    · exact ⟨192, rfl, by omega, by omega, fun c h1 h2 => ⟨by rw [if_pos (by omega)]; omega, by simp; omega⟩⟩
  rw [hF]
  by_cases h1 : n ≤ 55
  · obtain ⟨g1, g2⟩ := hF3 (F + n) (by omega) (by omega)
    rw [headL_short h1]
    simp only [rsizeL, List.cons_append, List.nil_append, List.length_cons, List.length_nil, e1 (F + n) (by omega), g1, Nat.add_sub_cancel_left, if_neg (show ¬ 128 + n < 128 by omega), if_pos (show 128 + n ≤ 183 by omega), List.getD_cons_zero]
    exact ⟨trivial, g2⟩
  · by_cases h2 : n < 256
    · obtain ⟨g1, g2⟩ := hF3 (F + 56) (by omega) (by omega)
      rw [headL_one (by omega) h2]
      have hk : 128 + 56 - 183 = 1 := rfl
      simp only [rsizeL, List.cons_append, List.nil_append, List.length_cons, List.length_nil, e1 (F + 56) (by omega), g1, Nat.add_sub_cancel_left, if_neg (show ¬ 128 + 56 < 128 by omega), if_neg (show ¬ 128 + 56 ≤ 183 by omega), List.getD_cons_zero, hk, List.take_succ_cons, List.take_zero,
        if_neg (show ¬ (3 < 1 ∨ t.length + 1 < 1) by omega), valL, List.foldl_cons, List.foldl_nil, e1 n h2]
      exact ⟨by simp, g2⟩
    · obtain ⟨g1, g2⟩ := hF3 (F + 57) (by omega) (by omega)
      have e2 : (UInt8.ofNat n).toNat = n % 256 := by simp
      rw [headL_two (by omega) h]
      have hk : 128 + 57 - 183 = 2 := rfl
      simp only [rsizeL, List.cons_append, List.nil_append, List.length_cons, List.length_nil, e1 (F + 57) (by omega), g1, Nat.add_sub_cancel_left, if_neg (show ¬ 128 + 57 < 128 by omega), if_neg (show ¬ 128 + 57 ≤ 183 by omega), List.getD_cons_zero, hk, List.take_succ_cons, List.take_zero,
        if_neg (show ¬ (3 < 2 ∨ t.length + 1 + 1 < 2) by omega), valL, List.foldl_cons, List.foldl_nil, e1 (n / 256) (by omega), e2]
      refine ⟨?_, g2⟩
      rw [show 256 * (256 * 0 + n / 256) + n % 256 = n by omega]

theorem rread_write : ∀ f : Nat, (∀ (x : It) t, x.pure → x.write.length < 65536 → 2 * x.write.length ≤ f + 1 → rreadL f (x.write ++ t) = some (x, x.write.length)) ∧
    (∀ ks, pures ks → (writes ks).length < 65536 → 2 * (writes ks).length ≤ f → rkidsL f (writes ks) = some ks)
  | 0 => by
    refine ⟨fun x t hp h1 h2 => ?_, fun ks hp h1 h2 => ?_⟩
    · have := write_pos x hp; omega
    · cases ks with
      | nil => simp [writes, rkidsL]
      | cons k ks =>
        have := write_pos k hp.1
        rw [writes, List.length_append] at h2
        omega
  | f + 1 => by
    obtain ⟨ih1, ih2⟩ := rread_write f
    refine ⟨fun x t hp h1 h2 => ?_, fun ks hp h1 h2 => ?_⟩
    · obtain ⟨l, b, ks⟩ := x
      obtain ⟨p1, p2, p3⟩ := hp
      cases l with
      | true =>
        obtain rfl := p1 rfl
        rw [It.write, if_pos rfl] at h1 h2 ⊢
        rw [List.length_append] at h1 h2
        have hh := headL_pos 192 (writes ks).length
        obtain ⟨g1, g2⟩ := rsize_head true (writes ks).length (by omega) (writes ks ++ t)
        rw [rreadL, List.append_assoc, show headL 192 (writes ks).length = headL (frOf true) (writes ks).length from rfl, g1]
        simp only
        rw [if_neg (by simp only [List.length_append]; omega), if_neg (fun e => by simpa using g2.1 e), List.take_length_add_append, List.drop_left, List.take_left, ih2 ks p3 (by omega) (by omega), List.length_append]
      | false =>
        obtain rfl := p2 rfl
        rw [It.write, if_neg (by simp)] at h1 h2 ⊢
        by_cases hb : b.length = 1 ∧ (b.getD 0 0).toNat < 128
        · rw [if_pos hb] at h1 h2 ⊢
          match b, hb with
          | [c], hb =>
            have hc : c.toNat < 128 := by simpa using hb.2
            simp [rreadL, rsizeL, if_neg (show ¬ 192 ≤ c.toNat by omega), hc, show c.toNat < 192 by omega]
        · rw [if_neg hb] at h1 h2 ⊢
          rw [List.length_append] at h1 h2
          have hh := headL_pos 128 b.length
          obtain ⟨g1, g2⟩ := rsize_head false b.length (by omega) (b ++ t)
          rw [rreadL, List.append_assoc, show headL 128 b.length = headL (frOf false) b.length from rfl, g1]
          simp only
          rw [if_neg (by simp only [List.length_append]; omega), if_pos (g2.2 rfl), List.take_length_add_append, List.drop_left, List.take_left, List.length_append]
    · cases ks with
      | nil => simp [writes, rkidsL]
      | cons k ks =>
        have hk := write_pos k hp.1
        rw [writes] at h1 h2 ⊢
        rw [List.length_append] at h1 h2
        have h3 := ih1 k (writes ks) hp.1 (by omega) (by omega)
        have h4 := ih2 ks hp.2 (by omega) (by omega)
        cases he : k.write ++ writes ks with
        | nil => have := congrArg List.length he; rw [List.length_append, List.length_nil] at this; omega
        | cons c s =>
          rw [rkidsL, ← he, h3]
          simp only
          rw [List.drop_left, h4]

/-- Both readings take the same bytes for the same item. -/
theorem reads_same (s : List UInt8) (h : s.length ≤ 4100) (f g : Nat) (hf : 2 * s.length ≤ f + 1) (hg : 2 * s.length ≤ g + 1) (x : It) :
    readL f s = some (x, []) ↔ rreadL g s = some (x, s.length) ∧ x.write = s := by
  constructor
  · intro hr
    obtain ⟨e, hp⟩ := (read_sound f).1 _ _ _ hr
    rw [List.append_nil] at e
    subst e
    have := (rread_write g).1 x [] hp (by omega) (by omega)
    rw [List.append_nil] at this
    exact ⟨this, rfl⟩
  · rintro ⟨hr, rfl⟩
    have hp := (rread_pure g).1 _ _ _ hr
    have := (read_write f).1 x [] hp (by omega) (by omega)
    rwa [List.append_nil] at this
end Go.Proofs.Ytefmlbckbhlgdaa
namespace Go.Proofs.Ytefmlbckbhlgdaa
open Go.RowKit
set_option maxRecDepth 100000
/-- 'append' of the call's own bytes to the call's own bytes. -/
theorem wpList_append_own_bytes {ops : Array Oper} {rest : List Oper} {o : Oper} {a : Act} {Q : Exit → Act → World → Prop} {w : World} (hgd : o.guard = Option.none) (s x : Operand)
    (ho : o.op = .call { callee := .builtin .append, args := #[s, x], argTypes := #[123, 123] }) (base : Nat) (v : Value) (l : List UInt8) (hs : a.eval s = v) (hown : OwnB w base v l)
    (b2 : Nat) (v2 : Value) (news : List UInt8) (hx : a.eval x = v2) (hsrc : OwnB w b2 v2 news)
    (hb : l.length + news.length ≤ 140737488355328) (hbase : base ≤ w.heap.size)
    (h : ∀ v' w', OwnB w' base v' (l ++ news) → (∀ w0, Below base w0 w → Below base w0 w') → w.heap.size ≤ w'.heap.size → wpList Try.prog ops Q rest (a.put o.dst v') w') : wpList Try.prog ops Q (o :: rest) a w := by
  obtain ⟨i0, hi, hz0, hz1, hz2⟩ := info_parts info_u8
  rcases hsrc.2 with ⟨hv, hn⟩ | ⟨g, cap, cur, hv, hg, hc, hn, hcap, hsz, hx'⟩
  · obtain rfl : news = [] := List.eq_nil_of_length_eq_zero hn
    subst hv
    refine wpList_append_own_none hgd s x 123 ho base 5 i0 1 Try.underlying123 hi v l.length (bvals l) hs hown hx ?_
    refine h v w ?_ (fun _ h => h) (Nat.le_refl _)
    rw [List.append_nil]
    exact hown
  · subst hv
    refine wpList_append_bytes hgd s x ho base v l hs hown ⟨g, 0, none⟩ news.length cap news hx rfl (fun j hj => ?_) hb hbase h
    refine World.ownsRow.cells hsrc rfl j _ ?_
    simp [bvals, List.getElem?_eq_getElem hj]

set_option maxHeartbeats 1000000 in
theorem plain_any (n : Nat) (w : World) (hn : n < 18446744073709551616) :
    Calls Try.prog 163 #[.int .u64 n] w fun e w' => e = .returned (.string (mkS (dig n))) ∧ Below w.heap.size w w' := by
  go_enter Try.func163, Try.ntmps163
  go_wp2
  go_loopw [0, 3] (fun s0 s3 wr => ∃ (k : Nat) (l : List UInt8), s0 = .int .u64 k ∧ OwnB wr w.heap.size s3 l ∧ dig n = dig k ++ l ∧ k * 256 ^ l.length ≤ n ∧ Below w.heap.size w wr) (fun s0 _ _ => (intOf s0).toNat)
  case atStart => exact ⟨n, [], rfl, OwnB.nil _ _, by simp, by simp, Below.refl _ _⟩
  case round =>
    obtain ⟨k, l, rfl, hown, hd, hle, hbl⟩ := hrel
    by_cases hk : 0 < k
    · have h8 : l.length ≤ 7 := by
        rcases Nat.lt_or_ge l.length 8 with h | h
        · omega
        · have h1 := Nat.pow_le_pow_right (n := 256) (by decide) h
          have h2 : 256 ^ l.length ≤ k * 256 ^ l.length := Nat.le_mul_of_pos_left _ hk
          omega
      have hkn : k < 18446744073709551616 := by
        have := Nat.le_mul_of_pos_right k (Nat.pow_pos (n := l.length) (show 0 < 256 by decide))
        omega
      have hsz := hbl.size
      have O2 := Lib.hid (hown.alloc (.cells #[.int .u8 ((k : Int) % 256)] 5))
      have O1 : Hid (OwnB (wr.alloc (.cells #[.int .u8 ((k : Int) % 256)] 5)) w.heap.size (.slice (some ⟨wr.heap.size, 0, Option.none⟩) 1 1) [UInt8.ofNat k]) := Lib.hid (OwnB.one hsz (UInt8.ofNat k) (by simp))
      have B1 := Lib.hid (hbl.alloc hsz (.cells #[.int .u8 ((k : Int) % 256)] 5))
      have D : Hid (dig n = dig (k / 256) ++ ([UInt8.ofNat k] ++ l)) := Lib.hid (by rw [hd, dig_pos hk, List.append_assoc])
      have E : Hid (k / 256 * 256 ^ ([UInt8.ofNat k] ++ l).length ≤ n) := Lib.hid (by
        rw [List.length_append, List.length_singleton, Nat.pow_add, Nat.pow_one, ← Nat.mul_assoc]
        exact Nat.le_trans (Nat.mul_le_mul_right _ (Nat.div_mul_le_self k 256)) hle)
      clear hown hd hle hbl
      go_wp2_with (at_builtin; refine wpList_append_own_bytes rfl _ _ rfl w.heap.size _ [UInt8.ofNat k] rfl O1.out w.heap.size _ l rfl O2.out (by simp; omega) (by simp; omega) ?_; intro v' w1 hown1 hb1 hz1)
      have HO := Lib.hid hown1
      have HB := Lib.hid (hb1 _ B1.out)
      clear hown1 hb1
      go_roundw
      case rel => exact ⟨k / 256, [UInt8.ofNat k] ++ l, by go_num, HO.out, D.out, E.out, HB.out⟩
      case measure => simp [intOf]; omega
    · obtain rfl : k = 0 := by omega
      have hcv := hown.conv
      rw [dig_zero, List.nil_append] at hd
      have HD := Lib.hid hd
      have HB := Lib.hid hbl
      clear hown hd hle hbl hk
      go_wp2
      go_ret
      rw [HD.out]
      exact ⟨rfl, HB.out⟩
end Go.Proofs.Ytefmlbckbhlgdaa
namespace Go.Proofs.Ytefmlbckbhlgdaa
open Go.RowKit
set_option maxRecDepth 100000
theorem dig_len : ∀ (k n : Nat), n < 256 ^ k → (dig n).length ≤ k
  | 0, n, h => by rw [show n = 0 by simpa using h, dig_zero]; exact Nat.le_refl _
  | k + 1, n, h => by
    rcases Nat.eq_zero_or_pos n with rfl | h0
    · rw [dig_zero]; simp
    · rw [dig_pos h0, List.length_append, List.length_singleton]
      have := dig_len k (n / 256) (by rw [Nat.pow_succ] at h; omega)
      omega

set_option maxHeartbeats 1000000 in
theorem head_any (fr n : Nat) (w : World) (hf : fr = 128 ∨ fr = 192) (hn : n < 9223372036854775808) :
    Calls Try.prog 134 #[.int .u8 fr, .int .i64 n] w fun e w' => e = .returned (.string (mkS (headL fr n))) ∧ Below w.heap.size w w' := by
  have hf2 : fr ≤ 192 := by omega
  by_cases h : n ≤ 55
  · obtain ⟨c, hc, hx⟩ : ∃ c : UInt8, UInt8.ofNat (fr + n) = c ∧ (fr : Int) + n = (c.toNat : Int) := ⟨_, rfl, by simp; omega⟩
    have hcv := (OwnB.one (w := w) (Nat.le_refl _) c hx).conv
    have B1 := Lib.hid ((Below.refl w.heap.size w).alloc (Nat.le_refl _) (.cells #[.int .u8 ((fr : Int) + n)] 5))
    rw [headL_short h, hc]
    have s1 : ((n : Int) % 256) = n := by omega
    have s2 : IntKind.u8.wrap ((fr : Int) + n) = (fr : Int) + n := by simp [IntKind.wrap, IntKind.bits, IntKind.signed]; omega
    clear hf hc hx
    go_enter Try.func134, Try.ntmps134
    go_wp2
    go_ret
    exact ⟨rfl, B1.out⟩
  · have hl := dig_len 8 n (by omega)
    have KP := Lib.hid (fun w => plain_any n w (by omega))
    rw [headL, if_neg h]
    have hl0 : 1 ≤ (dig n).length := by rw [dig_pos (by omega), List.length_append]; simp
    have hz : (mkS (dig n)).size = (dig n).length := mk_size _
    obtain ⟨c, hc, hx⟩ : ∃ c : UInt8, UInt8.ofNat (fr + 55 + (dig n).length) = c ∧ (fr : Int) + 55 + (dig n).length = (c.toNat : Int) := ⟨_, rfl, by simp; omega⟩
    rw [hc]
    have E : Hid ((⟨[c].toArray⟩ : ByteArray) ++ mkS (dig n) = mkS (c :: dig n)) := Lib.hid (mk_append [c] (dig n))
    generalize mkS (c :: dig n) = R at *
    generalize (dig n).length = m at *
    generalize mkS (dig n) = D at *
    have s1 : ((m : Int) % 256) = m := by omega
    have HX := Lib.hid hx
    clear hf hc hx
    go_enter Try.func134, Try.ntmps134
    go_wp2_with fail
    refine (KP.out _).mono ?_
    rintro e w1 ⟨rfl, hb⟩
    have hcv := (OwnB.one (w := w1) (Nat.le_refl _) c HX.out).conv
    have B1 := Lib.hid (hb.alloc hb.size (.cells #[.int .u8 ((fr : Int) + 55 + m)] 5))
    clear hb
    go_wp2
    go_ret
    exact ⟨by rw [← E.out]; rfl, B1.out⟩
end Go.Proofs.Ytefmlbckbhlgdaa
namespace Go.Proofs.Ytefmlbckbhlgdaa
open Go.RowKit
set_option maxRecDepth 100000
/-- An item as a value. -/
abbrev itemV (l : Bool) (b : List UInt8) (kv : Value) : Value := .agg #[.bool l, .string (mkS b), kv]

mutual
/-- The value reads as the item. -/
def ItemIs (w : World) : It → Value → Prop
  | .mk l b ks, v => ∃ kv, v = itemV l b kv ∧ b.length ≤ 9223372036854775807 ∧
      ((kv = .slice none 0 0 ∧ ks = []) ∨ ∃ (a : Addr) (len cap : Nat), kv = .slice (some a) len cap ∧ len ≤ cap ∧ cap ≤ 9223372036854775807 ∧ ks.length = len ∧ KidsAt w ks a 0)
/-- From element 'i' on the items lie there. -/
def KidsAt (w : World) : List It → Addr → Nat → Prop
  | [], _, _ => True
  | k :: ks, a, i => (∃ v0 v1 v2, w.cell? (a.add (i * 3)) = some v0 ∧ w.cell? (a.add (i * 3 + 1)) = some v1 ∧ w.cell? (a.add (i * 3 + 2)) = some v2 ∧ ItemIs w k (.agg #[v0, v1, v2])) ∧ KidsAt w ks a (i + 1)
end
/-- A slice of items. -/
def KidsIs (w : World) (ks : List It) (kv : Value) : Prop :=
  (kv = .slice none 0 0 ∧ ks = []) ∨ ∃ (a : Addr) (len cap : Nat), kv = .slice (some a) len cap ∧ len ≤ cap ∧ cap ≤ 9223372036854775807 ∧ ks.length = len ∧ KidsAt w ks a 0

theorem itemIs_iff {w : World} {l : Bool} {b : List UInt8} {ks : List It} {v : Value} : ItemIs w (.mk l b ks) v ↔ ∃ kv, v = itemV l b kv ∧ b.length ≤ 9223372036854775807 ∧ KidsIs w ks kv := by
  rw [ItemIs]; rfl

mutual
theorem ItemIs.below {w w' : World} {B : Nat} (hb : Below B w w') (hB : w.heap.size ≤ B) : ∀ (x : It) (v : Value), ItemIs w x v → ItemIs w' x v
  | .mk l b ks, v, h => by
    rw [ItemIs] at h ⊢
    obtain ⟨kv, e, h1, h2⟩ := h
    refine ⟨kv, e, h1, ?_⟩
    rcases h2 with h2 | ⟨a, len, cap, g1, g2, g3, g4, g5⟩
    · exact .inl h2
    · exact .inr ⟨a, len, cap, g1, g2, g3, g4, KidsAt.below hb hB ks a 0 g5⟩
theorem KidsAt.below {w w' : World} {B : Nat} (hb : Below B w w') (hB : w.heap.size ≤ B) : ∀ (ks : List It) (a : Addr) (i : Nat), KidsAt w ks a i → KidsAt w' ks a i
  | [], _, _, _ => by rw [KidsAt]; trivial
  | k :: ks, a, i, h => by
    rw [KidsAt] at h ⊢
    obtain ⟨⟨v0, v1, v2, c0, c1, c2, hi⟩, ht⟩ := h
    have hl := fun {p v} (c : w.cell? p = some v) => Nat.lt_of_lt_of_le (block_lt_of_cell c) hB
    exact ⟨⟨v0, v1, v2, by rw [hb.cell (hl c0)]; exact c0, by rw [hb.cell (hl c1)]; exact c1, by rw [hb.cell (hl c2)]; exact c2, ItemIs.below hb hB k _ hi⟩, KidsAt.below hb hB ks a (i + 1) ht⟩
end
theorem KidsIs.below {w w' : World} {B : Nat} {ks : List It} {v : Value} (h : KidsIs w ks v) (hb : Below B w w') (hB : w.heap.size ≤ B) : KidsIs w' ks v := by
  rcases h with h | ⟨a, len, cap, g1, g2, g3, g4, g5⟩
  · exact .inl h
  · exact .inr ⟨a, len, cap, g1, g2, g3, g4, KidsAt.below hb hB ks a 0 g5⟩

theorem KidsAt.get {w : World} {a : Addr} : ∀ (ks : List It) (j : Nat), KidsAt w ks a j → ∀ i k, ks[i]? = some k →
    ∃ v0 v1 v2, w.cell? (a.add ((j + i) * 3)) = some v0 ∧ w.cell? (a.add ((j + i) * 3 + 1)) = some v1 ∧ w.cell? (a.add ((j + i) * 3 + 2)) = some v2 ∧ ItemIs w k (.agg #[v0, v1, v2])
  | [], _, _, i, k, hk => by simp at hk
  | x :: ks, j, h, 0, k, hk => by
    rw [KidsAt] at h
    simp at hk
    subst hk
    exact h.1
  | x :: ks, j, h, i + 1, k, hk => by
    rw [KidsAt] at h
    have := KidsAt.get ks (j + 1) h.2 i k (by simpa using hk)
    rwa [show j + 1 + i = j + (i + 1) by omega] at this

/-- What a slice of items has. -/
theorem KidsIs.parts {w : World} {ks : List It} {v : Value} (h : KidsIs w ks v) : ∃ (p : Option Addr) (cap : Nat), v = .slice p ks.length cap ∧ ks.length ≤ cap ∧ cap ≤ 9223372036854775807 ∧
    ∀ i k, ks[i]? = some k → ∃ a l b p' n' c', p = some a ∧ w.cell? (a.add (i * 3)) = some (.bool l) ∧ w.cell? (a.add (i * 3 + 1)) = some (.string b) ∧ w.cell? (a.add (i * 3 + 2)) = some (.slice p' n' c') ∧ ItemIs w k (.agg #[.bool l, .string b, .slice p' n' c']) := by
  rcases h with ⟨rfl, rfl⟩ | ⟨a, len, cap, rfl, g2, g3, rfl, g5⟩
  · exact ⟨none, 0, rfl, Nat.le_refl _, Nat.zero_le _, fun i k hk => by simp at hk⟩
  · refine ⟨some a, cap, rfl, g2, g3, fun i k hk => ?_⟩
    obtain ⟨v0, v1, v2, c0, c1, c2, hi⟩ := KidsAt.get ks 0 g5 i k hk
    rw [Nat.zero_add] at c0 c1 c2
    obtain ⟨l, b, kk⟩ := k
    obtain ⟨kv, e, _, hk'⟩ := itemIs_iff.1 hi
    injection e with e
    simp at e
    obtain ⟨rfl, rfl, rfl⟩ := e
    rcases hk' with ⟨rfl, _⟩ | ⟨a', len', cap', rfl, _⟩
    · exact ⟨a, l, mkS b, none, 0, 0, rfl, c0, c1, c2, hi⟩
    · exact ⟨a, l, mkS b, some a', len', cap', rfl, c0, c1, c2, hi⟩
end Go.Proofs.Ytefmlbckbhlgdaa
namespace Go.Proofs.Ytefmlbckbhlgdaa
open Go.ChangeShapes Go.WideShapes Go.ChangeAt Go.RowKit
/-- What the contract of a law's call is told of the call's arguments, of bulk at most the bound. -/
structure ToldUpto {H : Type} (enc : TypeId × Value → H) (P : Program) (ts : List TypeId) (W : World) (args : List Value) (ds : List (DataW H)) (p : List MemPlace) : Prop where
  trod : DataW.TrodAll enc P W 0 (fun _ => true) true ts args ds p
  ok : ∃ base, ∀ (j : Nat) t v, ts[j]? = some t → args[j]? = some v → Value.okWide P W .any base t v
  lt : ∀ x ∈ p, x.block < W.heap.size
  small : Rows.uptoSmall H ds = true

end Go.Proofs.Ytefmlbckbhlgdaa
namespace Go.Proofs.Ytefmlbckbhlgdaa
open Go.RowKit Go.ChangeShapes Go.WideShapes Go.ChangeAt
set_option maxRecDepth 100000
mutual
/-- How many items and bytes there are in one. -/
def It.weight : It → Nat
  | .mk _ b ks => 1 + b.length + weights ks
def weights : List It → Nat
  | [] => 0
  | k :: ks => k.weight + weights ks
end
theorem headL_le (fr n : Nat) (h : n < 18446744073709551616) : (headL fr n).length ≤ 9 := by
  have : ∀ (k n : Nat), n < 256 ^ k → (dig n).length ≤ k := by
    intro k
    induction k with
    | zero => intro n h; rw [show n = 0 by simpa using h, dig_zero]; exact Nat.le_refl _
    | succ k ih =>
      intro n h
      rcases Nat.eq_zero_or_pos n with rfl | h0
      · rw [dig_zero]; simp
      · rw [dig_pos h0, List.length_append, List.length_singleton]
        have := ih (n / 256) (by rw [Nat.pow_succ] at h; omega)
        omega
  have := this 8 n (by omega)
  unfold headL
  split
  · simp
  · rw [List.length_cons]; omega

mutual
theorem write_le : ∀ x : It, x.weight ≤ 100000000 → x.write.length ≤ 9 * x.weight
  | .mk l b ks, h => by
    rw [It.weight] at h ⊢
    have hk := writes_le ks (by omega)
    rw [It.write]
    split
    · have := headL_le 192 (writes ks).length (by omega)
      rw [List.length_append]
      omega
    · split
      · omega
      · have := headL_le 128 b.length (by omega)
        rw [List.length_append]
        omega
theorem writes_le : ∀ ks : List It, weights ks ≤ 100000000 → (writes ks).length ≤ 9 * weights ks
  | [], _ => by simp [writes]
  | k :: ks, h => by
    rw [weights] at h ⊢
    have h1 := write_le k (by omega)
    have h2 := writes_le ks (by omega)
    rw [writes, List.length_append]
    omega
end
mutual
theorem size_le_weight : ∀ x : It, x.size ≤ x.weight
  | .mk l b ks => by
    have := sizes_le_weights ks
    rw [It.size, It.weight]
    omega
theorem sizes_le_weights : ∀ ks : List It, sizes ks ≤ weights ks
  | [] => Nat.le_refl _
  | k :: ks => by
    have h1 := size_le_weight k
    have h2 := sizes_le_weights ks
    rw [sizes, weights]
    omega
end
end Go.Proofs.Ytefmlbckbhlgdaa
