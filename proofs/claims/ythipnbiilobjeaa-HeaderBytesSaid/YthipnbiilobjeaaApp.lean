/- Vote: slices.Clone. Rows of one's own: elements behind it (any elements), elements laid anew. -/
import Derived.Test.YthipnbiilobjeaaVo1
namespace Go.Proofs.Ythipnbiilobjeaa
open Go.RowKit

theorem info_bal : (Try.prog.info? 92).map (fun i => (i.zero, i.size, i.bytes)) = some (some (.agg #[.string ⟨#[]⟩, .string ⟨#[]⟩, .bool false]), 3, 40) := by kernel_rfl

theorem below_grown {w w' : World} {base : Nat} {T : TypeId} {k n : Nat} {v : Value} {xs : List Value} (hown : w.ownsRow base T k v n xs) (hg : w.grownBy w' v.ownBlock) (hbase : base ≤ w.heap.size) : ∀ w0, Below base w0 w → Below base w0 w' :=
  fun _ h0 => h0.grown hg hbase fun k hk => (World.ownsRow.lt hown k hk).1

/-- Elements behind the call's own. -/
theorem wpList_append_rowS {ops : Array Oper} {rest : List Oper} {o : Oper} {a : Act} {Q : Exit → Act → World → Prop} {w : World} (hgd : o.guard = Option.none) (s x : Operand)
    (ho : o.op = .call { callee := .builtin .append, args := #[s, x], argTypes := #[33, 33] }) (base : Nat) (v : Value) (l : List _) (hs : a.eval s = v) (hown : OwnE encS 9 w base v l)
    (v2 : Value) (news : List _) (hx : a.eval x = v2) (hsrc : RowE encS w v2 news) (hb : l.length + news.length ≤ 1000000000) (hbase : base ≤ w.heap.size)
    (h : ∀ v' w', OwnE encS 9 w' base v' (l ++ news) → (∀ w0, Below base w0 w → Below base w0 w') → w.heap.size ≤ w'.heap.size → (v' = .slice none 0 0 ↔ v = .slice none 0 0 ∧ news.length = 0) → wpList Try.prog ops Q rest (a.put o.dst v') w') : wpList Try.prog ops Q (o :: rest) a w := by
  obtain ⟨i0, hi, hz0, hz1, hz2⟩ := info_parts info_str
  rcases hsrc with ⟨rfl, rfl⟩ | ⟨ad, cap, rfl, h1, h2, hc⟩
  · refine wpList_append_own_none hgd s x 33 ho base 9 i0 1 Try.underlying33 hi v l.length (flat encS l) hs hown hx ?_
    exact h v w (by rw [List.append_nil]; exact hown) (fun _ h => h) (Nat.le_refl _) (by simp)
  · refine wpList_append_own w hgd s x 33 ho base 9 i0 _ 1 16 Try.underlying33 hi hz0 hz1 hz2 rfl (by decide) v l.length (flat encS l) hs hown ad news.length cap (flat encS news) hx (flat_length encS news) hc (flat_one encS news) (by unfold maxLen; omega) (by omega) hbase ?_
    intro v' w' hown' hg hn
    refine h v' w' ?_ (below_grown hown hg hbase) hg.size hn
    unfold OwnE
    rw [List.length_append, flat_append]
    exact hown'

set_option maxHeartbeats 1000000 in
theorem cloneS_any (v : Value) (l : List _) (w : World) (hr : RowE encS w v l) (hl : l.length ≤ 1000000) :
    Calls Try.prog 107 #[v] w fun e w' => ∃ v', e = .returned v' ∧ OwnE encS 9 w' w.heap.size v' l ∧ Below w.heap.size w w' := by
  obtain ⟨p, cap, rfl, h1, h2⟩ := hr.shape
  have HR := Lib.hid hr
  cases p with
  | none =>
    rcases hr with ⟨e, rfl⟩ | ⟨a, cap', e, _⟩
    · simp at e
      subst e
      clear HR
      simp only [List.length_nil]
      have hq := Lib.run_eql_slice_nil (P := Try.prog) w 33 9 none 0 0 0 0 Try.underlying33
      go_enter Try.func107, Try.ntmps107
      go_wp2
      go_ret
      exact ⟨_, rfl, OwnE.nil _ _ _ _, Below.refl _ _⟩
    · cases e
  | some a =>
    have hq := Lib.run_eql_slice_nil (P := Try.prog) w 33 9 (some a) l.length cap 0 0 Try.underlying33
    have O := Lib.hid (OwnE.start encS (T := 9) (w := w) (Nat.le_refl w.heap.size))
    have R := Lib.hid (RowE.below encS HR.out ((Below.refl w.heap.size w).alloc (Nat.le_refl _) (.cells #[] 9)) (Nat.le_refl _))
    clear hr HR
    go_enter Try.func107, Try.ntmps107
    go_wp2_with (at_builtin; refine wpList_append_rowS rfl _ _ rfl w.heap.size _ [] rfl O.out _ l rfl R.out (by simp; omega) (by simp) ?_)
    intro v' w' ho hb hz hn
    have HO := Lib.hid ho
    have HB := Lib.hid (hb _ ((Below.refl w.heap.size w).alloc (Nat.le_refl _) _))
    clear ho hb hn
    go_wp2_with fail
    go_ret
    exact ⟨_, rfl, HO.out, HB.out⟩

/-- Elements behind the call's own. -/
theorem wpList_append_rowB {ops : Array Oper} {rest : List Oper} {o : Oper} {a : Act} {Q : Exit → Act → World → Prop} {w : World} (hgd : o.guard = Option.none) (s x : Operand)
    (ho : o.op = .call { callee := .builtin .append, args := #[s, x], argTypes := #[43, 43] }) (base : Nat) (v : Value) (l : List _) (hs : a.eval s = v) (hown : OwnE encB 92 w base v l)
    (v2 : Value) (news : List _) (hx : a.eval x = v2) (hsrc : RowE encB w v2 news) (hb : l.length + news.length ≤ 1000000000) (hbase : base ≤ w.heap.size)
    (h : ∀ v' w', OwnE encB 92 w' base v' (l ++ news) → (∀ w0, Below base w0 w → Below base w0 w') → w.heap.size ≤ w'.heap.size → (v' = .slice none 0 0 ↔ v = .slice none 0 0 ∧ news.length = 0) → wpList Try.prog ops Q rest (a.put o.dst v') w') : wpList Try.prog ops Q (o :: rest) a w := by
  obtain ⟨i0, hi, hz0, hz1, hz2⟩ := info_parts info_bal
  rcases hsrc with ⟨rfl, rfl⟩ | ⟨ad, cap, rfl, h1, h2, hc⟩
  · refine wpList_append_own_none hgd s x 43 ho base 92 i0 3 Try.underlying43 hi v l.length (flat encB l) hs hown hx ?_
    exact h v w (by rw [List.append_nil]; exact hown) (fun _ h => h) (Nat.le_refl _) (by simp)
  · refine wpList_append_own w hgd s x 43 ho base 92 i0 _ 3 40 Try.underlying43 hi hz0 hz1 hz2 rfl (by decide) v l.length (flat encB l) hs hown ad news.length cap (flat encB news) hx (flat_length encB news) hc (flat_one encB news) (by unfold maxLen; omega) (by omega) hbase ?_
    intro v' w' hown' hg hn
    refine h v' w' ?_ (below_grown hown hg hbase) hg.size hn
    unfold OwnE
    rw [List.length_append, flat_append]
    exact hown'

set_option maxHeartbeats 1000000 in
theorem cloneB_any (v : Value) (l : List _) (w : World) (hr : RowE encB w v l) (hl : l.length ≤ 1000000) :
    Calls Try.prog 102 #[v] w fun e w' => ∃ v', e = .returned v' ∧ OwnE encB 92 w' w.heap.size v' l ∧ Below w.heap.size w w' := by
  obtain ⟨p, cap, rfl, h1, h2⟩ := hr.shape
  have HR := Lib.hid hr
  cases p with
  | none =>
    rcases hr with ⟨e, rfl⟩ | ⟨a, cap', e, _⟩
    · simp at e
      subst e
      clear HR
      simp only [List.length_nil]
      have hq := Lib.run_eql_slice_nil (P := Try.prog) w 43 92 none 0 0 0 0 Try.underlying43
      go_enter Try.func102, Try.ntmps102
      go_wp2
      go_ret
      exact ⟨_, rfl, OwnE.nil _ _ _ _, Below.refl _ _⟩
    · cases e
  | some a =>
    have hq := Lib.run_eql_slice_nil (P := Try.prog) w 43 92 (some a) l.length cap 0 0 Try.underlying43
    have O := Lib.hid (OwnE.start encB (T := 92) (w := w) (Nat.le_refl w.heap.size))
    have R := Lib.hid (RowE.below encB HR.out ((Below.refl w.heap.size w).alloc (Nat.le_refl _) (.cells #[] 92)) (Nat.le_refl _))
    clear hr HR
    go_enter Try.func102, Try.ntmps102
    go_wp2_with (at_builtin; refine wpList_append_rowB rfl _ _ rfl w.heap.size _ [] rfl O.out _ l rfl R.out (by simp; omega) (by simp) ?_)
    intro v' w' ho hb hz hn
    have HO := Lib.hid ho
    have HB := Lib.hid (hb _ ((Below.refl w.heap.size w).alloc (Nat.le_refl _) _))
    clear ho hb hn
    go_wp2_with fail
    go_ret
    exact ⟨_, rfl, HO.out, HB.out⟩
end Go.Proofs.Ythipnbiilobjeaa

namespace Go.Proofs.Ythipnbiilobjeaa
open Go.RowKit

/-- Elements behind the call's own. -/
theorem wpList_append_rowE {α : Type} (E : Enc α) {ts te : TypeId} {z : Value} {bytes : Nat} (ht : Try.prog.underlying ts = some (.slice te)) (hinf : (Try.prog.info? te).map (fun i => (i.zero, i.size, i.bytes)) = some (some z, E.k, bytes)) (hzs : z.cells.size = E.k)
    {ops : Array Oper} {rest : List Oper} {o : Oper} {a : Act} {Q : Exit → Act → World → Prop} {w : World} (hgd : o.guard = Option.none) (s x : Operand)
    (ho : o.op = .call { callee := .builtin .append, args := #[s, x], argTypes := #[ts, ts] }) (base : Nat) (v : Value) (l : List α) (hs : a.eval s = v) (hown : OwnE E te w base v l)
    (v2 : Value) (news : List α) (hx : a.eval x = v2) (hsrc : RowE E w v2 news) (hb : l.length + news.length ≤ maxLen) (hby : (l.length + news.length) * bytes ≤ 140737488355328) (hbase : base ≤ w.heap.size)
    (h : ∀ v' w', OwnE E te w' base v' (l ++ news) → (∀ w0, Below base w0 w → Below base w0 w') → w.heap.size ≤ w'.heap.size → (v' = .slice none 0 0 ↔ v = .slice none 0 0 ∧ news.length = 0) → wpList Try.prog ops Q rest (a.put o.dst v') w') : wpList Try.prog ops Q (o :: rest) a w := by
  obtain ⟨i0, hi, hz0, hz1, hz2⟩ := info_parts hinf
  rcases hsrc with ⟨rfl, rfl⟩ | ⟨ad, cap, rfl, h1, h2, hc⟩
  · refine wpList_append_own_none hgd s x ts ho base te i0 E.k ht hi v l.length (flat E l) hs hown hx ?_
    exact h v w (by rw [List.append_nil]; exact hown) (fun _ h => h) (Nat.le_refl _) (by simp)
  · refine wpList_append_own w hgd s x ts ho base te i0 _ E.k bytes ht hi hz0 hz1 hz2 hzs E.pos v l.length (flat E l) hs hown ad news.length cap (flat E news) hx (flat_length E news) hc (flat_one E news) hb hby hbase ?_
    intro v' w' hown' hg hn
    refine h v' w' ?_ (below_grown hown hg hbase) hg.size hn
    unfold OwnE
    rw [List.length_append, flat_append]
    exact hown'

/-- One element that the call lays in a block of its own. -/
theorem RowE.lit {α : Type} (E : Enc α) {w : World} {k : Nat} {cs : Array Value} {T : TypeId} (h : w.heap[k]? = some (.cells cs T (0, 0))) (x : α) (hcs : cs.toList = E.cells x) : RowE E w (.slice (some ⟨k, 0, none⟩) 1 1) [x] := by
  refine .inr ⟨⟨k, 0, none⟩, 1, rfl, Nat.le_refl _, by unfold maxLen; omega, fun j u hj => ?_⟩
  have e : flat E [x] = E.cells x := by simp [flat]
  rw [e, ← hcs] at hj
  have : w.cell? ⟨k, j, none⟩ = cs[j]? := cell_of_row w k j cs T _ h
  rw [Array.getElem?_toList] at hj
  rw [← hj, ← this]
  cases j <;> simp [Addr.add]

/-- Cells laid anew from 'o' on. -/
def laid (C : Array Value) (o : Nat) : List Value → Array Value
  | [] => C
  | v :: l => laid (C.setIfInBounds o v) (o + 1) l
theorem laid_size : ∀ (l : List Value) (C : Array Value) (o : Nat), (laid C o l).size = C.size
  | [], _, _ => rfl
  | v :: l, C, o => by rw [laid, laid_size l]; simp
theorem laid_out : ∀ (l : List Value) (C : Array Value) (o q : Nat), (q < o ∨ o + l.length ≤ q) → (laid C o l)[q]? = C[q]?
  | [], _, _, _, _ => rfl
  | v :: l, C, o, q, h => by
    rw [List.length_cons] at h
    rw [laid, laid_out l _ (o + 1) q (by omega), Array.getElem?_setIfInBounds_ne (by omega)]
theorem laid_in : ∀ (l : List Value) (C : Array Value) (o r : Nat), o + l.length ≤ C.size → r < l.length → (laid C o l)[o + r]? = l[r]?
  | [], _, _, r, _, h => by simp at h
  | v :: l, C, o, 0, hs, _ => by
    rw [List.length_cons] at hs
    rw [laid, laid_out l _ (o + 1) (o + 0) (by omega), Nat.add_zero, Array.getElem?_setIfInBounds_self_of_lt (by omega)]
    rfl
  | v :: l, C, o, r + 1, hs, hr => by
    rw [List.length_cons] at hs hr
    rw [laid, show o + (r + 1) = (o + 1) + r by omega, laid_in l _ (o + 1) r (by simp; omega) (by omega)]
    rfl

theorem laid_flat {α : Type} (E : Enc α) {C : Array Value} {L : List α} {i : Nat} (y : α) (hi : i < L.length) (hs : L.length * E.k ≤ C.size) (h : C.toList.take (L.length * E.k) = flat E L) : (laid C (i * E.k) (E.cells y)).toList.take (L.length * E.k) = flat E (L.set i y) := by
  have hk := E.pos
  have hik : i * E.k + E.k ≤ L.length * E.k := by
    have := Nat.mul_le_mul_right E.k (show i + 1 ≤ L.length by omega)
    rw [Nat.add_mul, Nat.one_mul] at this
    exact this
  have hfl : (flat E (L.set i y)).length = L.length * E.k := by rw [flat_length, List.length_set]
  apply List.ext_getElem?
  intro q
  rw [List.getElem?_take]
  by_cases hq : q < L.length * E.k
  · rw [if_pos hq, Array.getElem?_toList]
    have hd : q / E.k < L.length := (Nat.div_lt_iff_lt_mul hk).2 hq
    have hr : q % E.k < E.k := Nat.mod_lt _ hk
    have e : q = q / E.k * E.k + q % E.k := by rw [Nat.mul_comm]; exact (Nat.div_add_mod q E.k).symm
    by_cases he : q / E.k = i
    · have hg : (L.set i y)[i]? = some y := by rw [List.getElem?_set_self hi]
      rw [e, he, flat_get E hg _ hr]
      exact laid_in _ _ _ _ (by rw [E.len]; omega) (by rw [E.len]; exact hr)
    · have hg : (L.set i y)[q / E.k]? = some L[q / E.k] := by rw [List.getElem?_set_ne (Ne.symm he), List.getElem?_eq_getElem hd]
      have h2 := flat_get E (List.getElem?_eq_getElem hd) _ hr
      rw [laid_out]
      · rw [← Array.getElem?_toList]
        have h3 : (C.toList.take (L.length * E.k))[q]? = C.toList[q]? := by rw [List.getElem?_take, if_pos hq]
        rw [← h3, h, e, h2, flat_get E hg _ hr]
      · rw [E.len]
        rcases Nat.lt_or_ge (q / E.k) i with h4 | h4
        · left
          have := Nat.mul_le_mul_right E.k (show q / E.k + 1 ≤ i by omega)
          rw [Nat.add_mul, Nat.one_mul] at this
          omega
        · right
          have := Nat.mul_le_mul_right E.k (show i + 1 ≤ q / E.k by omega)
          rw [Nat.add_mul, Nat.one_mul] at this
          omega
  · rw [if_neg hq, List.getElem?_eq_none (by omega)]

/-- The stores of cells from 'o' on. -/
def layW (w : World) (g o : Nat) : List Value → World
  | [] => w
  | v :: l => layW (w.setCell ⟨g, o, none⟩ v) g (o + 1) l
theorem layW_heap : ∀ (l : List Value) (w : World) (g o : Nat) (C : Array Value) (T : TypeId), RowAt w g C T → RowAt (layW w g o l) g (laid C o l) T
  | [], _, _, _, _, _, h => h
  | v :: l, _, g, o, _, T, h => layW_heap l _ g (o + 1) _ T (h.set o v rfl)
theorem layW_below : ∀ (l : List Value) (w w0 : World) (g o B : Nat), Below B w0 w → B ≤ g → Below B w0 (layW w g o l)
  | [], _, _, _, _, _, h, _ => h
  | v :: l, _, w0, g, o, B, h, hg => layW_below l _ w0 g (o + 1) B (h.setCell (p := ⟨g, o, none⟩) hg v) hg

theorem OwnE.at {α : Type} {E : Enc α} {T : TypeId} {w : World} {base : Nat} {p : Option Addr} {n c : Nat} {L : List α} (h : OwnE E T w base (.slice p n c) L) {i : Nat} {x : α} (hx : L[i]? = some x) :
    ∃ g, p = some ⟨g, 0, none⟩ ∧ base ≤ g ∧ g < w.heap.size ∧ (∀ r u, (E.cells x)[r]? = some u → w.cell? ⟨g, i * E.k + r, none⟩ = some u) ∧ (∀ r, w.frozen? ⟨g, r, none⟩ = false) ∧
      ∀ (y : α) (w' : World), (∀ C, RowAt w g C T → RowAt w' g C T) → OwnE E T (layW w' g (i * E.k) (E.cells y)) base (.slice p n c) (L.set i y) := by
  have hi := (List.getElem?_eq_some_iff.1 hx).1
  rcases h.2 with ⟨_, hn⟩ | ⟨g, cap, cur, hv, hg, hc, hn, hcap, hsz, htk⟩
  · exfalso; omega
  · injection hv with e1 e2 e3
    subst e1 e2 e3
    have hlt : g < w.heap.size := by
      rcases Nat.lt_or_ge g w.heap.size with h | h
      · exact h
      · rw [Array.getElem?_eq_none h] at hc; cases hc
    have hik : i * E.k + E.k ≤ L.length * E.k := by
      have := Nat.mul_le_mul_right E.k (show i + 1 ≤ L.length by omega)
      rw [Nat.add_mul, Nat.one_mul] at this
      exact this
    refine ⟨g, rfl, hg, hlt, fun r u hr => ?_, fun r => frozen_of_row w g r cur T hc, fun y w' hw' => ?_⟩
    · have hr' : r < E.k := by have := (List.getElem?_eq_some_iff.1 hr).1; rw [E.len] at this; exact this
      rw [cell_of_row w g _ cur T _ hc]
      have h3 : (cur.toList.take (L.length * E.k))[i * E.k + r]? = cur.toList[i * E.k + r]? := by rw [List.getElem?_take, if_pos (by omega)]
      rw [← Array.getElem?_toList, ← h3, htk, flat_get E hx r hr', hr]
    · refine ⟨by rw [flat_length], .inr ⟨g, c, laid cur (i * E.k) (E.cells y), by rw [List.length_set], hg, layW_heap _ _ _ _ _ _ (hw' _ hc), by rw [List.length_set]; exact hn, hcap, by rw [laid_size]; exact hsz, ?_⟩⟩
      rw [List.length_set]
      refine laid_flat E y hi ?_ htk
      rw [hsz]
      exact Nat.mul_le_mul_right _ hn

end Go.Proofs.Ythipnbiilobjeaa
