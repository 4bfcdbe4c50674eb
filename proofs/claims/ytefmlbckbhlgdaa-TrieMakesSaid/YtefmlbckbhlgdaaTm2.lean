/- Tries, in plain words: where a key stands among rising pairs; a pair put, one deleted. Vote: slices.Clone. Rows of one's own: elements behind it (any elements), elements laid anew. Regions that draw their order: operations that only read, and calls that make memory, ahead of a tail in one order. Tries in memory: pairs, nodes; may a pair be; the reference's Get, Delete, Put. Tries in memory: the reference's Delete and Put. Tries in memory: the reference's Put. -/
import Derived.StillTail
import Derived.BigRegion
import Derived.Deep.DeepCutAuto
import Derived.Test.YtefmlbckbhlgdaaTm1
namespace Go.Proofs.Ytefmlbckbhlgdaa
def putL (k v : List UInt8) : List Pr → List Pr
  | [] => [(k, v)]
  | p :: l => if ltL p.1 k then p :: putL k v l else if p.1 = k then (k, v) :: l else (k, v) :: p :: l
def delL (k : List UInt8) (l : List Pr) : List Pr := l.filter fun p => decide (p.1 ≠ k)
def getL (k : List UInt8) : List Pr → Option (List UInt8)
  | [] => none
  | p :: l => if p.1 = k then some p.2 else getL k l
/-- How many keys stand below one. -/
def idxL (k : List UInt8) : List Pr → Nat
  | [] => 0
  | p :: l => if ltL p.1 k then idxL k l + 1 else 0
theorem ltL_ne {a b : List UInt8} (h : ltL a b = true) : a ≠ b := fun e => by subst e; rw [ltL_irr] at h; cases h
theorem below_head {p : Pr} {l : List Pr} {k : List UInt8} (hs : sortP (p :: l)) (h : ltL k p.1 = true ∨ k = p.1) : ∀ q ∈ l, ltL k q.1 = true := fun q hq => by
  have h1 := (List.pairwise_cons.1 hs).1 q hq
  rcases h with h | rfl
  · exact ltL_trans _ _ _ h h1
  · exact h1
theorem getL_none {k : List UInt8} {l : List Pr} (h : ∀ q ∈ l, ltL k q.1 = true) : getL k l = none := by
  induction l with
  | nil => rfl
  | cons p l ih =>
    rw [getL, if_neg (fun e => ltL_ne (h p List.mem_cons_self) e.symm)]
    exact ih fun q hq => h q (List.mem_cons_of_mem _ hq)
theorem idxL_le (k : List UInt8) : ∀ l : List Pr, idxL k l ≤ l.length
  | [] => Nat.le_refl _
  | p :: l => by
    have := idxL_le k l
    rw [idxL]
    split
    · rw [List.length_cons]; omega
    · omega
/-- The place of a key: it stands there, or none does. -/
theorem idxL_has {k : List UInt8} : ∀ {l : List Pr}, sortP l → ∀ v, getL k l = some v → l[idxL k l]? = some (k, v)
  | [], _, v, h => by cases h
  | p :: l, hs, v, h => by
    rw [getL] at h
    rw [idxL]
    by_cases e : p.1 = k
    · rw [if_pos e] at h
      rw [if_neg (by rw [e, ltL_irr]; simp)]
      obtain ⟨a, b⟩ := p
      simp only at e h
      cases h
      rw [e]
      rfl
    · rw [if_neg e] at h
      by_cases hlt : ltL p.1 k = true
      · rw [if_pos hlt, List.getElem?_cons_succ]
        exact idxL_has (List.pairwise_cons.1 hs).2 v h
      · have : ltL k p.1 = true := by
          rcases ltL_tri p.1 k with h1 | h1 | h1
          · exact absurd h1 hlt
          · exact absurd h1 e
          · exact h1
        rw [getL_none (below_head hs (.inl this))] at h
        cases h
theorem putL_has {k v : List UInt8} : ∀ {l : List Pr}, sortP l → (getL k l).isSome = true → putL k v l = l.set (idxL k l) (k, v)
  | [], _, h => by cases h
  | p :: l, hs, h => by
    rw [getL] at h
    rw [putL, idxL]
    by_cases e : p.1 = k
    · rw [if_neg (by rw [e, ltL_irr]; simp), if_pos e, if_neg (by rw [e, ltL_irr]; simp)]
      rfl
    · rw [if_neg e] at h
      by_cases hlt : ltL p.1 k = true
      · rw [if_pos hlt, if_pos hlt, List.set_cons_succ, putL_has (List.pairwise_cons.1 hs).2 h]
      · have : ltL k p.1 = true := by
          rcases ltL_tri p.1 k with h1 | h1 | h1
          · exact absurd h1 hlt
          · exact absurd h1 e
          · exact h1
        rw [getL_none (below_head hs (.inl this))] at h
        cases h
theorem putL_not {k v : List UInt8} : ∀ {l : List Pr}, sortP l → getL k l = none → putL k v l = l.take (idxL k l) ++ (k, v) :: l.drop (idxL k l)
  | [], _, _ => rfl
  | p :: l, hs, h => by
    rw [getL] at h
    rw [putL, idxL]
    by_cases e : p.1 = k
    · rw [if_pos e] at h; cases h
    · rw [if_neg e] at h
      by_cases hlt : ltL p.1 k = true
      · rw [if_pos hlt, if_pos hlt, putL_not (List.pairwise_cons.1 hs).2 h]
        rfl
      · rw [if_neg hlt, if_neg e, if_neg hlt]
        rfl
theorem delL_above {k : List UInt8} {l : List Pr} (h : ∀ q ∈ l, ltL k q.1 = true) : delL k l = l :=
  List.filter_eq_self.2 fun q hq => decide_eq_true (fun e => ltL_ne (h q hq) e.symm)
theorem delL_has {k : List UInt8} : ∀ {l : List Pr}, sortP l → (getL k l).isSome = true → delL k l = l.take (idxL k l) ++ l.drop (idxL k l + 1)
  | [], _, h => by cases h
  | p :: l, hs, h => by
    rw [getL] at h
    rw [idxL]
    by_cases e : p.1 = k
    · rw [if_neg (by rw [e, ltL_irr]; simp)]
      unfold delL
      rw [List.filter_cons_of_neg (by simpa using e)]
      exact delL_above (below_head hs (.inr e.symm))
    · rw [if_neg e] at h
      by_cases hlt : ltL p.1 k = true
      · rw [if_pos hlt]
        unfold delL
        rw [List.filter_cons_of_pos (by simpa using e)]
        have := delL_has (List.pairwise_cons.1 hs).2 h
        unfold delL at this
        rw [this]
        rfl
      · have : ltL k p.1 = true := by
          rcases ltL_tri p.1 k with h1 | h1 | h1
          · exact absurd h1 hlt
          · exact absurd h1 e
          · exact h1
        rw [getL_none (below_head hs (.inl this))] at h
        cases h
theorem getL_not_mem {k : List UInt8} : ∀ {l : List Pr}, getL k l = none → ∀ p ∈ l, p.1 ≠ k
  | [], _, p, h => by cases h
  | q :: l, hn, p, h => by
    rw [getL] at hn
    split at hn
    · cases hn
    · rename_i e
      rcases List.mem_cons.1 h with rfl | h
      · exact e
      · exact getL_not_mem hn p h
theorem delL_not {k : List UInt8} {l : List Pr} (h : getL k l = none) : delL k l = l :=
  List.filter_eq_self.2 fun q hq => decide_eq_true (getL_not_mem h q hq)

theorem mem_put {k v : List UInt8} : ∀ {l : List Pr} {p : Pr}, p ∈ putL k v l → p = (k, v) ∨ p ∈ l
  | [], p, h => by rw [putL] at h; exact .inl (List.mem_singleton.1 h)
  | q :: l, p, h => by
    rw [putL] at h
    split at h
    · rcases List.mem_cons.1 h with rfl | h
      · exact .inr List.mem_cons_self
      · rcases mem_put h with h | h
        · exact .inl h
        · exact .inr (List.mem_cons_of_mem _ h)
    · split at h
      · rcases List.mem_cons.1 h with rfl | h
        · exact .inl rfl
        · exact .inr (List.mem_cons_of_mem _ h)
      · rcases List.mem_cons.1 h with rfl | h
        · exact .inl rfl
        · exact .inr h
theorem sortP_put {k v : List UInt8} : ∀ {l : List Pr}, sortP l → sortP (putL k v l)
  | [], _ => List.pairwise_singleton _ _
  | q :: l, hs => by
    obtain ⟨h1, h2⟩ := List.pairwise_cons.1 hs
    rw [putL]
    split
    · rename_i hlt
      refine List.pairwise_cons.2 ⟨fun p hp => ?_, sortP_put h2⟩
      rcases mem_put hp with rfl | hp
      · exact hlt
      · exact h1 p hp
    · rename_i hlt
      split
      · rename_i e
        exact List.pairwise_cons.2 ⟨fun p hp => by show ltL k p.1 = true; rw [← e]; exact h1 p hp, h2⟩
      · rename_i e
        have : ltL k q.1 = true := by
          rcases ltL_tri q.1 k with h3 | h3 | h3
          · exact absurd h3 hlt
          · exact absurd h3 e
          · exact h3
        refine List.pairwise_cons.2 ⟨fun p hp => ?_, hs⟩
        rcases List.mem_cons.1 hp with rfl | hp
        · exact this
        · exact below_head hs (.inl this) p hp
theorem sortP_del {k : List UInt8} {l : List Pr} (h : sortP l) : sortP (delL k l) := List.Pairwise.filter _ h
theorem Pairs.put {k v : List UInt8} {l : List Pr} (h : Pairs l) (hm : mayP (k, v) = true) (hl : (getL k l).isSome = true ∨ l.length < 64) : Pairs (putL k v l) := by
  obtain ⟨h1, h2, h3⟩ := h
  refine ⟨sortP_put h1, fun p hp => ?_, ?_⟩
  · rcases mem_put hp with rfl | hp
    · exact hm
    · exact h2 p hp
  · cases e : getL k l with
    | none =>
      rw [e] at hl
      rw [putL_not h1 e]
      have := idxL_le k l
      simp only [List.length_append, List.length_take, List.length_cons, List.length_drop]
      rcases hl with hl | hl
      · cases hl
      · omega
    | some u =>
      rw [putL_has h1 (by rw [e]; rfl), List.length_set]
      exact h3
theorem Pairs.del {k : List UInt8} {l : List Pr} (h : Pairs l) : Pairs (delL k l) := by
  obtain ⟨h1, h2, h3⟩ := h
  refine ⟨sortP_del h1, fun p hp => h2 p (List.mem_filter.1 hp).1, ?_⟩
  have := List.length_filter_le (fun p : Pr => decide (p.1 ≠ k)) l
  unfold delL
  omega
end Go.Proofs.Ytefmlbckbhlgdaa
namespace Go.Proofs.Ytefmlbckbhlgdaa
open Go.RowKit
theorem below_grown {w w' : World} {base : Nat} {T : TypeId} {k n : Nat} {v : Value} {xs : List Value} (hown : w.ownsRow base T k v n xs) (hg : w.grownBy w' v.ownBlock) (hbase : base ≤ w.heap.size) : ∀ w0, Below base w0 w → Below base w0 w' :=
  fun _ h0 => h0.grown hg hbase fun k hk => (World.ownsRow.lt hown k hk).1

end Go.Proofs.Ytefmlbckbhlgdaa
namespace Go.Proofs.Ytefmlbckbhlgdaa
open Go.RowKit
/-- Elements behind the call's own. -/
theorem wpList_append_rowE {α : Type} (E : Enc α) {ts te : TypeId} {z : Value} {bytes : Nat} (ht : Try.prog.underlying ts = some (.slice te)) (hinf : (Try.prog.info? te).map (fun i => (i.zero, i.size, i.bytes)) = some (some z, E.k, bytes)) (hzs : z.cells.size = E.k)
    {ops : Array Oper} {rest : List Oper} {o : Oper} {a : Act} {Q : Exit → Act → World → Prop} {w : World} (hgd : o.guard = Option.none) (s x : Operand)
    (ho : o.op = .call { callee := .builtin .append, args := #[s, x], argTypes := #[ts, ts] }) (base : Nat) (v : Value) (l : List α) (hs : a.eval s = v) (hown : OwnE E te w base v l)
    (v2 : Value) (news : List α) (hx : a.eval x = v2) (hsrc : RowE E w v2 news) (hb : l.length + news.length ≤ maxLen) (hby : (l.length + news.length) * bytes ≤ 140737488355328) (hbase : base ≤ w.heap.size)
    (h : ∀ v' w', OwnE E te w' base v' (l ++ news) → (∀ w0, Below base w0 w → Below base w0 w') → w.heap.size ≤ w'.heap.size → (v' = .slice none 0 0 ↔ v = .slice none 0 0 ∧ news.length = 0) → wpList Try.prog ops Q rest (a.put o.dst v') w') : wpList Try.prog ops Q (o :: rest) a w := by
  obtain ⟨i0, hi, hz0, hz1, hz2⟩ := info_parts hinf
  rcases hsrc with ⟨rfl, rfl⟩ | ⟨ad, cap, rfl, h1, h2, hc⟩
  · refine wpList_append_own_none hgd s x ts ho base te i0 E.k ht hi v l.length (flat E l) hs hown hx ?_
    exact h v w (by rw [List.append_nil]; exact hown) (fun _ h => h) (Nat.le_refl _) (by simp)
  · refine wpList_append_own w hgd s x ts ho base te i0 _ E.k bytes ht hi hz0 hz1 hz2 hzs E.pos v l.length (flat E l) hs hown ad news.length cap (flat E news) hx (flat_length E news) hc (flat_one E news) hb hby hbase ?_
    intro v' w' hown' hg hn
    refine h v' w' ?_ (below_grown hown hg hbase) hg.size hn
    unfold OwnE
    rw [List.length_append, flat_append]
    exact hown'

/-- One element that the call lays in a block of its own. -/
theorem RowE.lit {α : Type} (E : Enc α) {w : World} {k : Nat} {cs : Array Value} {T : TypeId} (h : w.heap[k]? = some (.cells cs T (0, 0))) (x : α) (hcs : cs.toList = E.cells x) : RowE E w (.slice (some ⟨k, 0, none⟩) 1 1) [x] := by
  refine .inr ⟨⟨k, 0, none⟩, 1, rfl, Nat.le_refl _, by unfold maxLen; omega, fun j u hj => ?_⟩
  have e : flat E [x] = E.cells x := by simp [flat]
  rw [e, ← hcs] at hj
  have : w.cell? ⟨k, j, none⟩ = cs[j]? := cell_of_row w k j cs T _ h
  rw [Array.getElem?_toList] at hj
  rw [← hj, ← this]
  cases j <;> simp [Addr.add]

/-- Cells laid anew from 'o' on. -/
def laid (C : Array Value) (o : Nat) : List Value → Array Value
  | [] => C
  | v :: l => laid (C.setIfInBounds o v) (o + 1) l
theorem laid_size : ∀ (l : List Value) (C : Array Value) (o : Nat), (laid C o l).size = C.size
  | [], _, _ => rfl
  | v :: l, C, o => by rw [laid, laid_size l]; simp
theorem laid_out : ∀ (l : List Value) (C : Array Value) (o q : Nat), (q < o ∨ o + l.length ≤ q) → (laid C o l)[q]? = C[q]?
  | [], _, _, _, _ => rfl
  | v :: l, C, o, q, h => by
    rw [List.length_cons] at h
    rw [laid, laid_out l _ (o + 1) q (by omega), Array.getElem?_setIfInBounds_ne (by omega)]
theorem laid_in : ∀ (l : List Value) (C : Array Value) (o r : Nat), o + l.length ≤ C.size → r < l.length → (laid C o l)[o + r]? = l[r]?
  | [], _, _, r, _, h => by simp at h
  | v :: l, C, o, 0, hs, _ => by
    rw [List.length_cons] at hs
    rw [laid, laid_out l _ (o + 1) (o + 0) (by omega), Nat.add_zero, Array.getElem?_setIfInBounds_self_of_lt (by omega)]
    rfl
  | v :: l, C, o, r + 1, hs, hr => by
    rw [List.length_cons] at hs hr
    rw [laid, show o + (r + 1) = (o + 1) + r by omega, laid_in l _ (o + 1) r (by simp; omega) (by omega)]
    rfl

theorem laid_flat {α : Type} (E : Enc α) {C : Array Value} {L : List α} {i : Nat} (y : α) (hi : i < L.length) (hs : L.length * E.k ≤ C.size) (h : C.toList.take (L.length * E.k) = flat E L) : (laid C (i * E.k) (E.cells y)).toList.take (L.length * E.k) = flat E (L.set i y) := by
  have hk := E.pos
  have hik : i * E.k + E.k ≤ L.length * E.k := by
    have := Nat.mul_le_mul_right E.k (show i + 1 ≤ L.length by omega)
    rw [Nat.add_mul, Nat.one_mul] at this
    exact this
  have hfl : (flat E (L.set i y)).length = L.length * E.k := by rw [flat_length, List.length_set]
  apply List.ext_getElem?
  intro q
  rw [List.getElem?_take]
  by_cases hq : q < L.length * E.k
  · rw [if_pos hq, Array.getElem?_toList]
    have hd : q / E.k < L.length := (Nat.div_lt_iff_lt_mul hk).2 hq
    have hr : q % E.k < E.k := Nat.mod_lt _ hk
    have e : q = q / E.k * E.k + q % E.k := by rw [Nat.mul_comm]; exact (Nat.div_add_mod q E.k).symm
    by_cases he : q / E.k = i
    · have hg : (L.set i y)[i]? = some y := by rw [List.getElem?_set_self hi]
      rw [e, he, flat_get E hg _ hr]
      exact laid_in _ _ _ _ (by rw [E.len]; omega) (by rw [E.len]; exact hr)
    · have hg : (L.set i y)[q / E.k]? = some L[q / E.k] := by rw [List.getElem?_set_ne (Ne.symm he), List.getElem?_eq_getElem hd]
      have h2 := flat_get E (List.getElem?_eq_getElem hd) _ hr
      rw [laid_out]
      · rw [← Array.getElem?_toList]
        have h3 : (C.toList.take (L.length * E.k))[q]? = C.toList[q]? := by rw [List.getElem?_take, if_pos hq]
        rw [← h3, h, e, h2, flat_get E hg _ hr]
      · rw [E.len]
        rcases Nat.lt_or_ge (q / E.k) i with h4 | h4
        · left
          have := Nat.mul_le_mul_right E.k (show q / E.k + 1 ≤ i by omega)
          rw [Nat.add_mul, Nat.one_mul] at this
          omega
        · right
          have := Nat.mul_le_mul_right E.k (show i + 1 ≤ q / E.k by omega)
          rw [Nat.add_mul, Nat.one_mul] at this
          omega
  · rw [if_neg hq, List.getElem?_eq_none (by omega)]

/-- The stores of cells from 'o' on. -/
def layW (w : World) (g o : Nat) : List Value → World
  | [] => w
  | v :: l => layW (w.setCell ⟨g, o, none⟩ v) g (o + 1) l
theorem layW_heap : ∀ (l : List Value) (w : World) (g o : Nat) (C : Array Value) (T : TypeId), RowAt w g C T → RowAt (layW w g o l) g (laid C o l) T
  | [], _, _, _, _, _, h => h
  | v :: l, _, g, o, _, T, h => layW_heap l _ g (o + 1) _ T (h.set o v rfl)
theorem layW_below : ∀ (l : List Value) (w w0 : World) (g o B : Nat), Below B w0 w → B ≤ g → Below B w0 (layW w g o l)
  | [], _, _, _, _, _, h, _ => h
  | v :: l, _, w0, g, o, B, h, hg => layW_below l _ w0 g (o + 1) B (h.setCell (p := ⟨g, o, none⟩) hg v) hg

theorem OwnE.at {α : Type} {E : Enc α} {T : TypeId} {w : World} {base : Nat} {p : Option Addr} {n c : Nat} {L : List α} (h : OwnE E T w base (.slice p n c) L) {i : Nat} {x : α} (hx : L[i]? = some x) :
    ∃ g, p = some ⟨g, 0, none⟩ ∧ base ≤ g ∧ g < w.heap.size ∧ (∀ r u, (E.cells x)[r]? = some u → w.cell? ⟨g, i * E.k + r, none⟩ = some u) ∧ (∀ r, w.frozen? ⟨g, r, none⟩ = false) ∧
      ∀ (y : α) (w' : World), (∀ C, RowAt w g C T → RowAt w' g C T) → OwnE E T (layW w' g (i * E.k) (E.cells y)) base (.slice p n c) (L.set i y) := by
  have hi := (List.getElem?_eq_some_iff.1 hx).1
  rcases h.2 with ⟨_, hn⟩ | ⟨g, cap, cur, hv, hg, hc, hn, hcap, hsz, htk⟩
  · exfalso; omega
  · injection hv with e1 e2 e3
    subst e1 e2 e3
    have hlt : g < w.heap.size := by
      rcases Nat.lt_or_ge g w.heap.size with h | h
      · exact h
      · rw [Array.getElem?_eq_none h] at hc; cases hc
    have hik : i * E.k + E.k ≤ L.length * E.k := by
      have := Nat.mul_le_mul_right E.k (show i + 1 ≤ L.length by omega)
      rw [Nat.add_mul, Nat.one_mul] at this
      exact this
    refine ⟨g, rfl, hg, hlt, fun r u hr => ?_, fun r => frozen_of_row w g r cur T hc, fun y w' hw' => ?_⟩
    · have hr' : r < E.k := by have := (List.getElem?_eq_some_iff.1 hr).1; rw [E.len] at this; exact this
      rw [cell_of_row w g _ cur T _ hc]
      have h3 : (cur.toList.take (L.length * E.k))[i * E.k + r]? = cur.toList[i * E.k + r]? := by rw [List.getElem?_take, if_pos (by omega)]
      rw [← Array.getElem?_toList, ← h3, htk, flat_get E hx r hr', hr]
    · refine ⟨by rw [flat_length], .inr ⟨g, c, laid cur (i * E.k) (E.cells y), by rw [List.length_set], hg, layW_heap _ _ _ _ _ _ (hw' _ hc), by rw [List.length_set]; exact hn, hcap, by rw [laid_size]; exact hsz, ?_⟩⟩
      rw [List.length_set]
      refine laid_flat E y hi ?_ htk
      rw [hsz]
      exact Nat.mul_le_mul_right _ hn

end Go.Proofs.Ytefmlbckbhlgdaa
namespace Go.Proofs.Ytefmlbckbhlgdaa
open Go.RowKit
section
variable {P : Program} {ops : Array Oper} {md : Region.Mode} {C : World → Prop}
/-- Whatever order is picked among the first 'n'. -/
def wpHeadQ (P : Program) (md : Region.Mode) (ops : Array Oper) (C : World → Prop) (n : Nat) (L : Array Bool → Act → Prop) : Nat → Array Bool → Act → Prop
  | 0, listed, a => L listed a
  | f + 1, listed, a =>
    Region.ready md ops listed ≠ [] ∧ ∀ i ∈ Region.ready md ops listed, i < n ∧ qOp P ops C i (wpHeadQ P md ops C n L f (listed.setIfInBounds i true)) a

theorem wpAny_of_headQ {n g : Nat} {L : Array Bool → Act → Prop} {Q' : Exit → Act → World → Prop} (hL : ∀ listed a w, C w → L listed a → wpAny P md ops Q' g listed a w) :
    ∀ (f : Nat) (listed : Array Bool) (a : Act) (w : World), C w → wpHeadQ P md ops C n L f listed a → wpAny P md ops Q' (f + g) listed a w
  | 0, listed, a, w, hw, h => by rw [Nat.zero_add]; exact hL _ _ _ hw h
  | f + 1, listed, a, w, hw, h => by
    rw [show f + 1 + g = (f + g) + 1 by omega]
    exact ⟨fun h0 => absurd h0 h.1, fun i hi => wpOp_of_qOp hw (fun a' w' hw' h' => wpAny_of_headQ hL f _ a' w' hw' h') (h.2 i hi).2⟩

theorem wpHeadQ_first {n i : Nat} {oi : Oper} {v : Value} {L : Array Bool → Act → Prop} (hi : ops[i]? = some oi) (hsel : ∀ (j : Nat) (o : Oper) cs b, ops[j]? = some o → o.op ≠ .select cs b)
    (hs : Region.sinkB md ops n = true) (hc : Region.chainB md ops n = true) (hn : n < ops.size) (hin : i < n)
    (hdone : ∀ listed a, L listed a → ∀ j ∈ Region.ready md ops listed, n ≤ j) :
    ∀ (f : Nat) (listed : Array Bool) (a : Act), HeadInv md ops n listed →
      (∀ j oj, ops[j]? = some oj → j ≠ i → listed.getD j true = false → (∀ e ∈ oj.after, Region.binds md e = true → e.on ≠ i) → oi.apart ops oj = true) →
      i ∈ Region.ready md ops listed → YieldsIn P ops C oi v a →
      wpHeadQ P md ops C n L f (listed.setIfInBounds i true) (a.put oi.dst v) → wpHeadQ P md ops C n L (f + 1) listed a := by
  intro f
  induction f with
  | zero =>
    intro listed a inv _ hr hy H
    have hun := (mem_ready.1 hr).1
    refine ⟨fun h => (by rw [h] at hr; cases hr), fun j hj => ?_⟩
    have hjn : j < n := by
      rcases Nat.lt_or_ge j n with h | h
      · exact h
      · exact absurd hj (tail_waits hs hc hn inv _ i rfl hin hun j h)
    refine ⟨hjn, ?_⟩
    by_cases hji : j = i
    · subst hji; exact hy.qOp hi H
    · have := hdone _ _ H j (ready_mono hj hji)
      omega
  | succ f ih =>
    intro listed a inv hfree hr hy H
    have hun := (mem_ready.1 hr).1
    refine ⟨fun h => (by rw [h] at hr; cases hr), fun j hj => ?_⟩
    have hjn : j < n := by
      rcases Nat.lt_or_ge j n with h | h
      · exact h
      · exact absurd hj (tail_waits hs hc hn inv _ i rfl hin hun j h)
    refine ⟨hjn, ?_⟩
    by_cases hji : j = i
    · subst hji; exact hy.qOp hi H
    · have h1 := (H.2 j (ready_mono hj hji)).2
      obtain ⟨hjun, oj, hoj, hall⟩ := mem_ready.1 hj
      have hnot : ∀ e ∈ oj.after, Region.binds md e = true → e.on ≠ i := fun e he hb heq => by
        have h1 := hall e he hb
        rw [heq, getD_both hun] at h1
        cases h1
      have h2 := qOp_put hoj (hfree j oj hoj hji hjun hnot) (fun cs b => hsel i oi cs b hi) (fun cs b => hsel j oj cs b hoj) hy h1
      have hfree' : ∀ k ok, ops[k]? = some ok → k ≠ i → (listed.setIfInBounds j true).getD k true = false →
          (∀ e ∈ ok.after, Region.binds md e = true → e.on ≠ i) → oi.apart ops ok = true := fun k ok hk hki hun hno => by
        refine hfree k ok hk hki ?_ hno
        by_cases hjk : j = k
        · subst hjk; exact hjun
        · rw [getD_set_ne true hjk] at hun; exact hun
      refine qOp_mono (fun a' h3 => ih (listed.setIfInBounds j true) a' (inv.set hj hjn) hfree' (ready_mono hr (Ne.symm hji)) h3.1 ?_) h2
      rw [Array.setIfInBounds_comm _ _ hji]
      exact h3.2

theorem wpHeadQ_lex {n g : Nat} {Lq : Act → Prop} (hsel : Region.noSelect ops = true) (hs : Region.sinkB md ops n = true) (hc : Region.chainB md ops n = true) (hn : n < ops.size) :
    ∀ (l : List Oper) (k : Nat) (listed : Array Bool) (a : Act), (∀ j, j < l.length → l[j]? = ops[k + j]?) → k + l.length = n → HeadInv md ops n listed →
    Region.lexHead md ops g l.length k listed = true → wpQuiet P ops C Lq l a →
    wpHeadQ P md ops C n (fun listed' a' => Region.seqB md ops g n listed' = true ∧ Lq a') l.length listed a
  | [], k, listed, a, _, hk, _, hB, h => by
    have : k = n := by simpa using hk
    subst this
    exact ⟨by simpa [Region.lexHead] using hB, h⟩
  | o :: l, k, listed, a, hl, hk, inv, hB, h => by
    have h0 : ops[k]? = some o := by simpa using (hl 0 (by simp)).symm
    simp only [List.length_cons, Region.lexHead, Bool.and_eq_true] at hB
    obtain ⟨⟨hr, hf⟩, hB'⟩ := hB
    have hkn : k < n := by simp only [List.length_cons] at hk; omega
    have hr' : k ∈ Region.ready md ops listed := by simpa using hr
    have hst : qOp P ops C k (wpQuiet P ops C Lq l) a := by unfold qOp; simp only [h0]; exact h
    obtain ⟨v, hy, hK⟩ := yieldsIn_of_qOp h0 hst
    exact wpHeadQ_first h0 (Region.noSelect_spec hsel) hs hc hn hkn (fun listed' a' hL => seqB_ready hL.1) l.length listed a inv (Region.free_spec h0 hf) hr' hy
      (wpHeadQ_lex hsel hs hc hn l (k + 1) _ _ (fun j hj => by have := hl (j + 1) (by simp; omega); simpa [Nat.add_assoc, Nat.add_comm 1 j] using this) (by simp only [List.length_cons] at hk; omega) (inv.set hr' hkn) hB' hK)
end
/-- Reads and calls that make memory, ahead of a tail in one order: one walk, in the order of the text. -/
theorem region_later_tail {P : Program} {id : Nat} {Q : Exit → Act → World → Prop} {a : Act} {w : World} {l : List Oper} (n : Nat) (hm : P.follows .mixedOrders = true) (hB : Region.lexTailB .any l.toArray n = true)
    (h : wpQuiet P l.toArray (fun w' => ∃ u : Later w, w' = u.w) (fun a' => ∀ u : Later w, wpList P l.toArray Q (l.drop n) a' u.w) (l.take n) a) : (Code.region id l.toArray true).wp P Q a w := by
  simp only [Region.lexTailB, Bool.and_eq_true, decide_eq_true_eq] at hB
  obtain ⟨⟨⟨⟨hsel, hn⟩, hs⟩, hc⟩, hlex⟩ := hB
  have hn' : n < l.length := by simpa using hn
  have htl : (l.take n).length = n := by simp; omega
  have hdl : (l.drop n).length = l.toArray.size - n := by simp
  have inv0 : HeadInv .any l.toArray n (Array.replicate l.toArray.size false) :=
    ⟨by simp, fun j oj _ hl => (by rw [getD_replicate_false] at hl; cases hl), fun t _ ht => getD_in (by simpa using ht) (getD_replicate_false _ _)⟩
  have H := wpHeadQ_lex (C := fun w' => ∃ u : Later w, w' = u.w) (md := .any) (g := l.toArray.size - n) hsel hs hc hn (l.take n) 0 _ a (fun j hj => by
    have hj' : j < n := by rw [htl] at hj; exact hj
    simp [hj']) (by simpa using htl) inv0 (by rw [htl]; exact hlex) h
  refine wp_region_any hm ?_
  have := wpAny_of_headQ (Q' := Q) (g := l.toArray.size - n) (fun listed a' w' hw hL => by
    obtain ⟨u, rfl⟩ := hw
    have := wpAny_of_seq (md := .any) (Q' := Q) (l.drop n) n listed a' u.w (fun j => by simp [List.getElem?_drop]) (by rw [hdl]; exact hL.1) (hL.2 u)
    rwa [hdl] at this) _ _ _ { w with drawn := w.drawn + 1 } ⟨Later.of (Below.refl w.heap.size w).drew, rfl⟩ H
  rw [htl, show n + (l.toArray.size - n) = l.toArray.size by omega] at this
  exact this
end Go.Proofs.Ytefmlbckbhlgdaa
namespace Go.Proofs.Ytefmlbckbhlgdaa
open Go.RowKit
set_option maxRecDepth 100000
/-- Elements behind the call's own row: what else there is stays as it is. -/
theorem wpList_append_rowG {α : Type} (E : Enc α) {ts te : TypeId} {z : Value} {bytes : Nat} (ht : Try.prog.underlying ts = some (.slice te)) (hinf : (Try.prog.info? te).map (fun i => (i.zero, i.size, i.bytes)) = some (some z, E.k, bytes)) (hzs : z.cells.size = E.k)
    {ops : Array Oper} {rest : List Oper} {o : Oper} {a : Act} {Q : Exit → Act → World → Prop} {w : World} (hgd : o.guard = Option.none) (s x : Operand)
    (ho : o.op = .call { callee := .builtin .append, args := #[s, x], argTypes := #[ts, ts] }) (base : Nat) (v : Value) (l : List α) (hs : a.eval s = v) (hown : OwnE E te w base v l)
    (v2 : Value) (news : List α) (hx : a.eval x = v2) (hsrc : RowE E w v2 news) (hb : l.length + news.length ≤ maxLen) (hby : (l.length + news.length) * bytes ≤ 140737488355328) (hbase : base ≤ w.heap.size)
    (h : ∀ v' w', OwnE E te w' base v' (l ++ news) → w.grownBy w' v.ownBlock → (∀ w0, Below base w0 w → Below base w0 w') → w.heap.size ≤ w'.heap.size → (v' = .slice none 0 0 ↔ v = .slice none 0 0 ∧ news.length = 0) → wpList Try.prog ops Q rest (a.put o.dst v') w') : wpList Try.prog ops Q (o :: rest) a w := by
  obtain ⟨i0, hi, hz0, hz1, hz2⟩ := info_parts hinf
  rcases hsrc with ⟨rfl, rfl⟩ | ⟨ad, cap, rfl, h1, h2, hc⟩
  · refine wpList_append_own_none hgd s x ts ho base te i0 E.k ht hi v l.length (flat E l) hs hown hx ?_
    exact h v w (by rw [List.append_nil]; exact hown) (World.grownBy.refl _ _) (fun _ h => h) (Nat.le_refl _) (by simp)
  · refine wpList_append_own w hgd s x ts ho base te i0 _ E.k bytes ht hi hz0 hz1 hz2 hzs E.pos v l.length (flat E l) hs hown ad news.length cap (flat E news) hx (flat_length E news) hc (flat_one E news) hb hby hbase ?_
    intro v' w' hown' hg hn
    refine h v' w' ?_ hg (below_grown hown hg hbase) hg.size hn
    unfold OwnE
    rw [List.length_append, flat_append]
    exact hown'

/-- One element that the call lays in a block of its own. -/

def encP : Enc Pr := ⟨2, fun p => [.string (mkS p.1), .string (mkS p.2)], fun _ => rfl, fun x u h => by simp at h; rcases h with rfl | rfl <;> rfl, by decide⟩
theorem info_pr : (Try.prog.info? 41).map (fun i => (i.zero, i.size, i.bytes)) = some (some (.agg #[.string ⟨#[]⟩, .string ⟨#[]⟩]), 2, 32) := by kernel_rfl
def RP (w : World) (v : Value) (l : List Pr) : Prop := RowE encP w v l
theorem RP.below {w w' : World} {v : Value} {l : List Pr} {B : Nat} (h : RP w v l) (hb : Below B w w') (hB : w.heap.size ≤ B) : RP w' v l := RowE.below encP h hb hB
abbrev prO (p : Pr) : Obj := .cells #[.string (mkS p.1), .string (mkS p.2)] 41
theorem RP.at {w : World} {p : Option Addr} {n c : Nat} {l : List Pr} (h : RP w (.slice p n c) l) {i : Nat} {x : Pr} (hx : l[i]? = some x) : ∃ a, p = some a ∧ w.cell? (a.add (i * 2)) = some (.string (mkS x.1)) ∧ w.cell? ⟨(a.add (i * 2)).block, (a.add (i * 2)).off + 1, none⟩ = some (.string (mkS x.2)) := by
  rcases h with ⟨_, rfl⟩ | ⟨a, cap, hv, h1, h2, hc⟩
  · simp at hx
  · injection hv with e1 e2 e3
    subst e1 e2 e3
    refine ⟨a, rfl, ?_, ?_⟩
    · have := hc (i * 2 + 0) _ (by have := flat_get encP hx 0 (by decide); exact this)
      exact this
    · have h := hc (i * 2 + 1) _ (by have := flat_get encP hx 1 (by decide); exact this)
      rw [← Go.Deep.add_add] at h
      exact h
theorem mkS_toList (l : List UInt8) : (mkS l).toList = l := by rw [toList_bl, bl_mk]
theorem mkS_beq (a b : List UInt8) : ((mkS a).toList == (mkS b).toList) = decide (a = b) := by
  rw [mkS_toList, mkS_toList]
  by_cases h : a = b
  · rw [decide_eq_true h]; exact beq_iff_eq.2 h
  · rw [decide_eq_false h]; exact beq_eq_false_iff_ne.2 h

set_option maxHeartbeats 1000000 in
theorem may_any (k v : List UInt8) (w : World) : Calls Try.prog 39 #[.string (mkS k), .string (mkS v)] w fun e w' => e = .returned (.bool (mayP (k, v))) ∧ w = w' := by
  have H : Hid (mayP (k, v) = (decide (1 ≤ k.length) && decide (k.length ≤ 32) && decide (1 ≤ v.length) && decide (v.length ≤ 500))) := Lib.hid rfl
  generalize mayP (k, v) = b at *
  have z1 : (mkS k).size = k.length := mk_size k
  have z2 : (mkS v).size = v.length := mk_size v
  generalize mkS k = ks at *
  generalize mkS v = vs at *
  by_cases h1 : 1 ≤ k.length
  · by_cases h2 : k.length ≤ 32
    · by_cases h3 : 1 ≤ v.length
      · by_cases h4 : v.length ≤ 500
        · have hb : Hid (b = true) := Lib.hid (by rw [H.out]; simp [h1, h2, h3, h4])
          clear H
          have g1 : (1 : Int) ≤ ks.size := by omega
          have g2 : (ks.size : Int) ≤ 32 := by omega
          have g3 : (1 : Int) ≤ vs.size := by omega
          have g4 : (vs.size : Int) ≤ 500 := by omega
          clear z1 z2 h1 h2 h3 h4
          go_enter Try.func39, Try.ntmps39
          go_wp2
          go_ret
          exact ⟨by rw [hb.out]; rfl, rfl⟩
        · have hb : Hid (b = false) := Lib.hid (by rw [H.out]; simp [h4])
          clear H
          have g1 : (1 : Int) ≤ ks.size := by omega
          have g2 : (ks.size : Int) ≤ 32 := by omega
          have g3 : (1 : Int) ≤ vs.size := by omega
          have g4 : ¬ (vs.size : Int) ≤ 500 := by omega
          clear z1 z2 h1 h2 h3 h4
          go_enter Try.func39, Try.ntmps39
          go_wp2
          go_ret
          exact ⟨by rw [hb.out]; rfl, rfl⟩
      · have hb : Hid (b = false) := Lib.hid (by rw [H.out]; simp [h3])
        clear H
        have g1 : (1 : Int) ≤ ks.size := by omega
        have g2 : (ks.size : Int) ≤ 32 := by omega
        have g3 : ¬ (1 : Int) ≤ vs.size := by omega
        clear z1 z2 h1 h2 h3
        go_enter Try.func39, Try.ntmps39
        go_wp2
        go_ret
        exact ⟨by rw [hb.out]; rfl, rfl⟩
    · have hb : Hid (b = false) := Lib.hid (by rw [H.out]; simp [h2])
      clear H
      have g1 : (1 : Int) ≤ ks.size := by omega
      have g2 : ¬ (ks.size : Int) ≤ 32 := by omega
      clear z1 z2 h1 h2
      go_enter Try.func39, Try.ntmps39
      go_wp2
      go_ret
      exact ⟨by rw [hb.out]; rfl, rfl⟩
  · have hb : Hid (b = false) := Lib.hid (by rw [H.out]; simp [h1])
    clear H
    have g1 : ¬ (1 : Int) ≤ ks.size := by omega
    clear z1 z2 h1
    go_enter Try.func39, Try.ntmps39
    go_wp2
    go_ret
    exact ⟨by rw [hb.out]; rfl, rfl⟩

set_option maxHeartbeats 2000000 in
theorem rget_any (k : List UInt8) (v : Value) (l : List Pr) (w : World) (h : RP w v l) : Calls Try.prog 34 #[v, .string (mkS k)] w fun e w' => e = .returned (.tuple #[.string (mkS ((getL k l).getD [])), .bool (getL k l).isSome]) ∧ Below w.heap.size w w' := by
  obtain ⟨p, c, rfl, h1, h2⟩ := RowE.shape encP h
  have HR := Lib.hid h
  have HB := Lib.hid (Below.refl w.heap.size w)
  have HS : Hid (∀ i x, l[i]? = some x → getL k (l.drop i) = if x.1 = k then some x.2 else getL k (l.drop (i + 1))) := Lib.hid (fun i x hx => by
    obtain ⟨hlt, e⟩ := List.getElem?_eq_some_iff.1 hx
    rw [List.drop_eq_getElem_cons hlt, e, getL])
  have H0 : Hid (getL k l = getL k (l.drop 0)) := Lib.hid rfl
  have HE : Hid (getL k (l.drop l.length) = none) := Lib.hid (by rw [List.drop_length]; rfl)
  generalize getL k l = r at *
  clear h
  unfold maxLen at h2
  go_enter Try.func34, Try.ntmps34
  go_upto_region 2 with (fail)
  go_loopw [10] (fun s wr => ∃ i : Nat, i ≤ l.length ∧ s = .int .i64 i ∧ Hid (r = getL k (l.drop i)) ∧ Hid (Below w.heap.size w wr)) (fun s _ => l.length - (intOf s).toNat)
  case atStart => exact ⟨0, Nat.zero_le _, rfl, H0, HB⟩
  case round =>
    clear H0 HB
    obtain ⟨i, hi, rfl, hr, hb⟩ := hrel
    have HR1 := Lib.hid hr.out
    have HB := Lib.hid hb.out
    clear hr hb
    by_cases hlt : i < l.length
    · obtain ⟨x, hx⟩ : ∃ x, l[i]? = some x := ⟨_, List.getElem?_eq_getElem hlt⟩
      obtain ⟨a, rfl, c0, c1⟩ := RP.at (RP.below HR.out HB.out (Nat.le_refl _)) hx
      have hs := HS.out i x hx
      obtain ⟨xk, xv⟩ := x
      simp only at c0 c1 hs
      have hbq := mkS_beq xk k
      by_cases e : xk = k
      · rw [if_pos e] at hs
        rw [decide_eq_true e] at hbq
        have hv := Lib.hid (HR1.out.trans hs)
        clear hs hx e
        go_wp2
        refine bodyPost_ret (v := .tuple #[.string (mkS xv), .bool true]) (by simp [results, Try.results34, go_sem]) rfl ?_
        rw [hv.out]
        exact ⟨rfl, HB.out.alloc HB.out.size _⟩
      · rw [if_neg e] at hs
        rw [decide_eq_false e] at hbq
        have hv := Lib.hid (HR1.out.trans hs)
        clear hs hx e
        go_wp2
        exact ⟨⟨i + 1, by omega, by simp, hv, Lib.hid (HB.out.alloc HB.out.size _)⟩, by simp [intOf]; omega⟩
    · obtain rfl : i = l.length := by omega
      have hv := Lib.hid (HR1.out.trans HE.out)
      go_wp2
      refine bodyPost_ret (v := .tuple #[.string ⟨#[]⟩, .bool false]) (by simp [results, Try.results34, go_sem]) rfl ?_
      rw [hv.out]
      exact ⟨rfl, HB.out⟩
end Go.Proofs.Ytefmlbckbhlgdaa
namespace Go.Proofs.Ytefmlbckbhlgdaa
open Go.RowKit
set_option maxRecDepth 100000
def OP (w : World) (base : Nat) (v : Value) (l : List Pr) : Prop := OwnE encP 41 w base v l
theorem OP.below {w w' : World} {base B : Nat} {v : Value} {l : List Pr} (h : OP w base v l) (hb : Below B w w') (hB : w.heap.size ≤ B) : OP w' base v l := OwnE.below encP h hb hB
theorem prAlloc (w : World) (x : Pr) : Below w.heap.size w (w.alloc (prO x)) := (Below.refl _ _).alloc (Nat.le_refl _) _

set_option maxHeartbeats 2000000 in
theorem rdel_any (k : List UInt8) (v : Value) (l : List Pr) (w : World) (h : RP w v l) (hl : l.length ≤ 100000) : Calls Try.prog 35 #[v, .string (mkS k)] w fun e w' => ∃ v', e = .returned v' ∧ RP w' v' (delL k l) ∧ Below w.heap.size w w' := by
  obtain ⟨p, c, rfl, h1, h2⟩ := RowE.shape encP h
  have HR := Lib.hid h
  have HB0 : Hid (Below w.heap.size w (w.alloc (.cells #[] 41))) := Lib.hid ((Below.refl _ _).alloc (Nat.le_refl _) _)
  have O0 : Hid (OP (w.alloc (.cells #[] 41)) w.heap.size (.slice (some ⟨w.heap.size, 0, none⟩) 0 0) []) := Lib.hid (OwnE.start encP (Nat.le_refl _))
  have HS : Hid (∀ i x, l[i]? = some x → delL k (l.drop i) = if x.1 = k then delL k (l.drop (i + 1)) else x :: delL k (l.drop (i + 1))) := Lib.hid (fun i x hx => by
    obtain ⟨hlt, e⟩ := List.getElem?_eq_some_iff.1 hx
    rw [List.drop_eq_getElem_cons hlt, e]
    unfold delL
    by_cases hk : x.1 = k
    · rw [List.filter_cons_of_neg (by simpa using hk), if_pos hk]
    · rw [List.filter_cons_of_pos (by simpa using hk), if_neg hk])
  have H0 : Hid ([] ++ delL k (l.drop 0) = delL k l) := Lib.hid rfl
  have HE : Hid (delL k (l.drop l.length) = []) := Lib.hid (by rw [List.drop_length]; rfl)
  generalize delL k l = r at *
  clear h
  unfold maxLen at h2
  go_enter Try.func35, Try.ntmps35
  go_upto_region 3 with (fail)
  go_loopw [5, 11] (fun s5 s wr => ∃ (i : Nat) (out : List Pr), i ≤ l.length ∧ out.length ≤ i ∧ s = .int .i64 i ∧ Hid (OP wr w.heap.size s5 out) ∧ Hid (out ++ delL k (l.drop i) = r) ∧ Hid (Below w.heap.size w wr)) (fun _ s _ => l.length - (intOf s).toNat)
  case atStart => exact ⟨0, [], Nat.zero_le _, Nat.zero_le _, rfl, O0, H0, HB0⟩
  case round =>
    clear H0 HB0 O0
    obtain ⟨i, out, hi, hoi, rfl, ho, hr, hb⟩ := hrel
    have O := Lib.hid ho.out
    have HR1 := Lib.hid hr.out
    have HB := Lib.hid hb.out
    clear ho hr hb
    by_cases hlt : i < l.length
    · obtain ⟨x, hx⟩ : ∃ x, l[i]? = some x := ⟨_, List.getElem?_eq_getElem hlt⟩
      obtain ⟨a, rfl, c0, c1⟩ := RP.at (RP.below HR.out HB.out (Nat.le_refl _)) hx
      have hs := HS.out i x hx
      have hbq := mkS_beq x.1 k
      have HA := prAlloc wr x
      have O1 := Lib.hid (O.out.below HA (Nat.le_refl _))
      have HB1 := Lib.hid (HB.out.trans (HA.mono HB.out.size))
      have R1 := Lib.hid (RowAt.new wr #[.string (mkS x.1), .string (mkS x.2)] 41)
      clear HA
      by_cases e : x.1 = k
      · rw [if_pos e] at hs
        rw [decide_eq_true e] at hbq
        have hv := Lib.hid (show out ++ delL k (l.drop (i + 1)) = r by rw [← hs]; exact HR1.out)
        obtain ⟨xk, xv⟩ := x
        simp only at c0 c1 hbq
        clear hs hx e
        go_wp2
        exact ⟨⟨i + 1, out, by omega, by omega, by simp, O1, hv, HB1⟩, by simp [intOf]; omega⟩
      · rw [if_neg e] at hs
        rw [decide_eq_false e] at hbq
        have hv := Lib.hid (show (out ++ [x]) ++ delL k (l.drop (i + 1)) = r by rw [List.append_assoc, List.singleton_append, ← hs]; exact HR1.out)
        clear hs hx e O HB
        go_upto_region 6 with (fail)
        clear c0 c1
        generalize hw1 : wr.alloc (.cells #[.string (mkS x.1), .string (mkS x.2)] 41) = w1 at *
        obtain ⟨y0, y1, yf0, yf1⟩ := R1.out.c2
        have R2 := Lib.hid (RowAt.new w1 #[.string (mkS x.1), .string (mkS x.2)] 41)
        have HA := prAlloc w1 x
        have O2 := Lib.hid (O1.out.below HA (Nat.le_refl _))
        have HB2 := Lib.hid (HB1.out.trans (HA.mono HB1.out.size))
        have HL2 := Lib.hid (RowE.lit encP R2.out x rfl)
        have HZ2 := Lib.hid HB2.out.size
        clear HA O1 HB1
        go_upto_region 7 with (at_builtin; refine wpList_append_rowE encP Try.underlying34 info_pr rfl rfl _ _ rfl w.heap.size _ out rfl O2.out _ [x] rfl HL2.out (by unfold maxLen; simp; omega) (by simp; omega) HZ2.out ?_)
        intro v' w' ho hbb hz _
        have HO := Lib.hid (show OP w' w.heap.size v' (out ++ [x]) from ho)
        have HB3 := Lib.hid (hbb _ HB2.out)
        clear ho hbb hz y0 y1 yf0 yf1
        go_wp2
        exact ⟨⟨i + 1, out ++ [x], by omega, by simp; omega, by simp, HO, hv, HB3⟩, by simp [intOf]; omega⟩
    · obtain rfl : i = l.length := by omega
      have hv := Lib.hid (show out = r by have := HR1.out; rw [HE.out, List.append_nil] at this; exact this)
      go_wp2
      go_ret
      exact ⟨_, rfl, by rw [← hv.out]; exact OwnE.row encP O.out, HB.out⟩
end Go.Proofs.Ytefmlbckbhlgdaa
namespace Go.Proofs.Ytefmlbckbhlgdaa
open Go.RowKit
set_option maxRecDepth 100000
/-- The reference's way to put a pair: what is out, and whether it is in. -/
def rputF (k v : List UInt8) : List Pr → Bool → List Pr → List Pr × Bool
  | [], b, out => (out, b)
  | p :: l, b, out => rputF k v l (b || !ltL p.1 k) ((if !b && !ltL p.1 k then out ++ [(k, v)] else out) ++ (if p.1 = k then [] else [p]))
def rputE (k v : List UInt8) (r : List Pr × Bool) : List Pr := if r.2 then r.1 else r.1 ++ [(k, v)]
theorem rput_above {k v : List UInt8} : ∀ {l : List Pr} {out : List Pr}, (∀ q ∈ l, ltL k q.1 = true) → rputF k v l true out = (out ++ l, true)
  | [], out, _ => by rw [rputF, List.append_nil]
  | p :: l, out, h => by
    have h1 := h p List.mem_cons_self
    rw [rputF]
    simp only [Bool.not_true, Bool.false_and, Bool.true_or]
    rw [if_neg (by simp), if_neg (fun e => ltL_ne h1 e.symm), rput_above (fun q hq => h q (List.mem_cons_of_mem _ hq))]
    simp
theorem rput_eq {k v : List UInt8} : ∀ {l : List Pr} {out : List Pr}, sortP l → rputE k v (rputF k v l false out) = out ++ putL k v l
  | [], out, _ => rfl
  | p :: l, out, hs => by
    rw [rputF, putL]
    cases e : ltL p.1 k with
    | true =>
      have e1 : (false || !true) = false := rfl
      have e2 : (!false && !true) = false := rfl
      rw [e1, e2, if_neg Bool.false_ne_true, if_neg (ltL_ne e), if_pos rfl, rput_eq (List.pairwise_cons.1 hs).2]
      simp
    | false =>
      have e1 : (false || !false) = true := rfl
      have e2 : (!false && !false) = true := rfl
      rw [e1, e2, if_pos rfl, if_neg Bool.false_ne_true]
      by_cases hk : p.1 = k
      · rw [if_pos hk, if_pos hk, rput_above (below_head hs (.inr hk.symm))]
        simp [rputE]
      · rw [if_neg hk, if_neg hk]
        have : ltL k p.1 = true := by
          rcases ltL_tri p.1 k with h | h | h
          · rw [e] at h; cases h
          · exact absurd h hk
          · exact h
        rw [rput_above (below_head hs (.inl this))]
        simp [rputE]
theorem mkS_less (a b : List UInt8) : Op.bytesLess (mkS a).toList (mkS b).toList = ltL a b := by rw [mkS_toList, mkS_toList]

set_option maxHeartbeats 4000000 in
theorem rput_any (k u : List UInt8) (v : Value) (l : List Pr) (w : World) (h : RP w v l) (hl : l.length ≤ 100000) (hs : sortP l) : Calls Try.prog 36 #[v, .string (mkS k), .string (mkS u)] w fun e w' => ∃ v', e = .returned v' ∧ RP w' v' (putL k u l) ∧ Below w.heap.size w w' := by
  obtain ⟨p, c, rfl, h1, h2⟩ := RowE.shape encP h
  have HR := Lib.hid h
  have HB0 : Hid (Below w.heap.size w (w.alloc (.cells #[] 41))) := Lib.hid ((Below.refl _ _).alloc (Nat.le_refl _) _)
  have O0 : Hid (OP (w.alloc (.cells #[] 41)) w.heap.size (.slice (some ⟨w.heap.size, 0, none⟩) 0 0) []) := Lib.hid (OwnE.start encP (Nat.le_refl _))
  have HS : Hid (∀ i x b out, l[i]? = some x → rputF k u (l.drop i) b out = rputF k u (l.drop (i + 1)) (b || !ltL x.1 k) ((if !b && !ltL x.1 k then out ++ [(k, u)] else out) ++ (if x.1 = k then [] else [x]))) := Lib.hid (fun i x b out hx => by
    obtain ⟨hlt, e⟩ := List.getElem?_eq_some_iff.1 hx
    rw [List.drop_eq_getElem_cons hlt, e, rputF])
  have H0 : Hid (rputE k u (rputF k u (l.drop 0) false []) = putL k u l) := Lib.hid (rput_eq hs)
  have HE : Hid (∀ b out, rputF k u (l.drop l.length) b out = (out, b)) := Lib.hid (fun b out => by rw [List.drop_length]; rfl)
  generalize putL k u l = r at *
  clear h hs
  unfold maxLen at h2
  go_enter Try.func36, Try.ntmps36
  go_upto_region 4 with (fail)
  go_loopw [7, 8, 14] (fun s7 s8 s wr => ∃ (i : Nat) (b : Bool) (out : List Pr), i ≤ l.length ∧ out.length ≤ 2 * i ∧ s = .int .i64 i ∧ s8 = .bool b ∧ Hid (OP wr w.heap.size s7 out) ∧ Hid (rputE k u (rputF k u (l.drop i) b out) = r) ∧ Hid (Below w.heap.size w wr)) (fun _ _ s _ => l.length - (intOf s).toNat)
  case atStart => exact ⟨0, false, [], Nat.zero_le _, Nat.zero_le _, rfl, rfl, O0, H0, HB0⟩
  case round =>
    clear H0 HB0 O0
    obtain ⟨i, b, out, hi, hoi, rfl, rfl, ho, hr, hb⟩ := hrel
    have O := Lib.hid ho.out
    have HR1 := Lib.hid hr.out
    have HB := Lib.hid hb.out
    clear ho hr hb
    by_cases hlt : i < l.length
    · obtain ⟨x, hx⟩ : ∃ x, l[i]? = some x := ⟨_, List.getElem?_eq_getElem hlt⟩
      obtain ⟨a, rfl, c0, c1⟩ := RP.at (RP.below HR.out HB.out (Nat.le_refl _)) hx
      have hs := HS.out i x b out hx
      have hbq := mkS_beq x.1 k
      have hbl := mkS_less x.1 k
      have HOL : Hid (∀ g, u7.ownBlock = some g → g < wr.heap.size) := Lib.hid (fun g hg => (World.ownsRow.lt O.out g hg).2)
      have HA := prAlloc wr x
      have O1 := Lib.hid (O.out.below HA (Nat.le_refl _))
      have HB1 := Lib.hid (HB.out.trans (HA.mono HB.out.size))
      have R1 := Lib.hid (RowAt.new wr #[.string (mkS x.1), .string (mkS x.2)] 41)
      have HR2 := HR1.out
      rw [hs] at HR2
      clear HA hs hx O HB HR1
      go_upto_region 6 with (fail)
      clear c0 c1
      generalize hw1 : wr.alloc (.cells #[.string (mkS x.1), .string (mkS x.2)] 41) = w1 at *
      clear hw1
      generalize wr.heap.size = k1 at *
      obtain ⟨y0, y1, yf0, yf1⟩ := R1.out.c2
      cases b with
      | true =>
        have e1 : (true || !ltL x.1 k) = true := rfl
        have e2 : (!true && !ltL x.1 k) = false := rfl
        rw [e1, e2, if_neg Bool.false_ne_true] at HR2
        replace HR2 := HR2
        clear e1 e2 hbl
        by_cases e : x.1 = k
        · rw [if_pos e, List.append_nil] at HR2
          rw [decide_eq_true e] at hbq
          have hv := Lib.hid HR2
          clear HR2 e
          go_wp2
          exact ⟨⟨i + 1, true, out, by omega, by first | omega | (simp; omega), by simp, rfl, O1, hv, HB1⟩, by simp [intOf]; omega⟩
        · rw [if_neg e] at HR2
          rw [decide_eq_false e] at hbq
          have hv := Lib.hid HR2
          have R2 := Lib.hid (RowAt.new w1 #[.string (mkS x.1), .string (mkS x.2)] 41)
          have HA := prAlloc w1 x
          have O2 := Lib.hid (O1.out.below HA (Nat.le_refl _))
          have HB2 := Lib.hid (HB1.out.trans (HA.mono HB1.out.size))
          have HL2 := Lib.hid (RowE.lit encP R2.out x rfl)
          have HZ2 := Lib.hid HB2.out.size
          clear HA O1 HB1 HR2 e
          go_upto_region 11 with (at_builtin; refine wpList_append_rowE encP Try.underlying34 info_pr rfl rfl _ _ rfl w.heap.size _ (out) rfl O2.out _ [x] rfl HL2.out (by unfold maxLen; simp; omega) (by simp; omega) HZ2.out ?_)
          intro v' w' ho hbb hz _
          have HO := Lib.hid (show OP w' w.heap.size v' ((out) ++ [x]) from ho)
          have HB3 := Lib.hid (hbb _ HB2.out)
          clear ho hbb hz y0 y1 yf0 yf1
          go_wp2
          exact ⟨⟨i + 1, true, (out) ++ [x], by omega, by simp; omega, by simp, rfl, HO, hv, HB3⟩, by simp [intOf]; omega⟩
      | false =>
        cases e0 : ltL x.1 k with
        | true =>
          rw [e0] at HR2 hbl
          have e1 : (false || !true) = false := rfl
          have e2 : (!false && !true) = false := rfl
          rw [e1, e2, if_neg Bool.false_ne_true] at HR2
          clear e1 e2 e0
          by_cases e : x.1 = k
          · rw [if_pos e, List.append_nil] at HR2
            rw [decide_eq_true e] at hbq
            have hv := Lib.hid HR2
            clear HR2 e
            go_wp2
            exact ⟨⟨i + 1, false, out, by omega, by first | omega | (simp; omega), by simp, rfl, O1, hv, HB1⟩, by simp [intOf]; omega⟩
          · rw [if_neg e] at HR2
            rw [decide_eq_false e] at hbq
            have hv := Lib.hid HR2
            have R2 := Lib.hid (RowAt.new w1 #[.string (mkS x.1), .string (mkS x.2)] 41)
            have HA := prAlloc w1 x
            have O2 := Lib.hid (O1.out.below HA (Nat.le_refl _))
            have HB2 := Lib.hid (HB1.out.trans (HA.mono HB1.out.size))
            have HL2 := Lib.hid (RowE.lit encP R2.out x rfl)
            have HZ2 := Lib.hid HB2.out.size
            clear HA O1 HB1 HR2 e
            go_upto_region 11 with (at_builtin; refine wpList_append_rowE encP Try.underlying34 info_pr rfl rfl _ _ rfl w.heap.size _ (out) rfl O2.out _ [x] rfl HL2.out (by unfold maxLen; simp; omega) (by simp; omega) HZ2.out ?_)
            intro v' w' ho hbb hz _
            have HO := Lib.hid (show OP w' w.heap.size v' ((out) ++ [x]) from ho)
            have HB3 := Lib.hid (hbb _ HB2.out)
            clear ho hbb hz y0 y1 yf0 yf1
            go_wp2
            exact ⟨⟨i + 1, false, (out) ++ [x], by omega, by simp; omega, by simp, rfl, HO, hv, HB3⟩, by simp [intOf]; omega⟩
        | false =>
          rw [e0] at HR2 hbl
          have e1 : (false || !false) = true := rfl
          have e2 : (!false && !false) = true := rfl
          rw [e1, e2, if_pos rfl] at HR2
          clear e1 e2 e0
          have R3 := Lib.hid (RowAt.new w1 #[.string (mkS k), .string (mkS u)] 41)
          have HA := prAlloc w1 (k, u)
          have O3 := Lib.hid (O1.out.below HA (Nat.le_refl _))
          have HB3 := Lib.hid (HB1.out.trans (HA.mono HB1.out.size))
          have HL3 := Lib.hid (RowE.lit encP R3.out (k, u) rfl)
          have HZ3 := Lib.hid HB3.out.size
          have HK := Lib.hid (show k1 < w1.heap.size from R1.out.lt)
          replace R1 := Lib.hid (R1.out.alloc (prO (k, u)))
          clear HA O1 HB1
          have HNE : Hid (u7.ownBlock ≠ some k1) := Lib.hid (fun e => by have := World.ownsRow.lt O3.out _ e; have := HOL.out _ e; omega)
          go_upto_region 8 with (at_builtin; refine wpList_append_rowG encP Try.underlying34 info_pr rfl rfl _ _ rfl w.heap.size _ out rfl O3.out _ [(k, u)] rfl HL3.out (by unfold maxLen; simp; omega) (by simp; omega) HZ3.out ?_)
          intro v' w2 ho hgr hbb hz _
          replace R1 := Lib.hid (R1.out.grown hgr (fun e => HNE.out e.symm))
          have O1 := Lib.hid (show OP w2 w.heap.size v' (out ++ [(k, u)]) from ho)
          have HB1 := Lib.hid (hbb _ HB3.out)
          clear ho hgr hbb hz y0 y1 yf0 yf1 O3 HB3 HL3 HZ3 R3 HNE HK
          obtain ⟨y0, y1, yf0, yf1⟩ := R1.out.c2
          go_upto_region 9 with (fail)
          by_cases e : x.1 = k
          · rw [if_pos e, List.append_nil] at HR2
            rw [decide_eq_true e] at hbq
            have hv := Lib.hid HR2
            clear HR2 e
            go_wp2
            exact ⟨⟨i + 1, true, out ++ [(k, u)], by omega, by first | omega | (simp; omega), by simp, rfl, O1, hv, HB1⟩, by simp [intOf]; omega⟩
          · rw [if_neg e] at HR2
            rw [decide_eq_false e] at hbq
            have hv := Lib.hid HR2
            have R2 := Lib.hid (RowAt.new w2 #[.string (mkS x.1), .string (mkS x.2)] 41)
            have HA := prAlloc w2 x
            have O2 := Lib.hid (O1.out.below HA (Nat.le_refl _))
            have HB2 := Lib.hid (HB1.out.trans (HA.mono HB1.out.size))
            have HL2 := Lib.hid (RowE.lit encP R2.out x rfl)
            have HZ2 := Lib.hid HB2.out.size
            clear HA O1 HB1 HR2 e
            go_upto_region 11 with (at_builtin; refine wpList_append_rowE encP Try.underlying34 info_pr rfl rfl _ _ rfl w.heap.size _ (out ++ [(k, u)]) rfl O2.out _ [x] rfl HL2.out (by unfold maxLen; simp; omega) (by simp; omega) HZ2.out ?_)
            intro v3 w3 ho hbb hz _
            have HO := Lib.hid (show OP w3 w.heap.size v3 ((out ++ [(k, u)]) ++ [x]) from by rw [List.append_assoc]; exact ho)
            have HB3 := Lib.hid (hbb _ HB2.out)
            clear ho hbb hz y0 y1 yf0 yf1
            go_wp2
            exact ⟨⟨i + 1, true, (out ++ [(k, u)]) ++ [x], by omega, by simp; omega, by simp, rfl, HO, hv, HB3⟩, by simp [intOf]; omega⟩
    · obtain rfl : i = l.length := by omega
      have hv := HR1.out
      rw [HE.out] at hv
      cases b with
      | true =>
        have hv := Lib.hid (show out = r from hv)
        go_wp2
        go_ret
        exact ⟨_, rfl, by rw [← hv.out]; exact OwnE.row encP O.out, HB.out⟩
      | false =>
        have hv := Lib.hid (show out ++ [(k, u)] = r from hv)
        have R2 := Lib.hid (RowAt.new wr #[.string (mkS k), .string (mkS u)] 41)
        have HA := prAlloc wr (k, u)
        have O2 := Lib.hid (O.out.below HA (Nat.le_refl _))
        have HB2 := Lib.hid (HB.out.trans (HA.mono HB.out.size))
        have HL2 := Lib.hid (RowE.lit encP R2.out (k, u) rfl)
        have HZ2 := Lib.hid HB2.out.size
        clear HA O
        go_upto_region 14 with (at_builtin; refine wpList_append_rowE encP Try.underlying34 info_pr rfl rfl _ _ rfl w.heap.size _ out rfl O2.out _ [(k, u)] rfl HL2.out (by unfold maxLen; simp; omega) (by simp; omega) HZ2.out ?_)
        intro v' w' ho hbb hz _
        have HO := Lib.hid (show OP w' w.heap.size v' (out ++ [(k, u)]) from ho)
        have HB3 := Lib.hid (hbb _ HB2.out)
        clear ho hbb hz
        go_wp2
        go_ret
        exact ⟨_, rfl, by rw [← hv.out]; exact OwnE.row encP HO.out, HB3.out⟩
end Go.Proofs.Ytefmlbckbhlgdaa
