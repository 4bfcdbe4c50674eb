/- Vote: slices.Clone. Rows of one's own: elements behind it (any elements), elements laid anew. Tries in memory: pairs, nodes; may a pair be; the reference's Get, Delete, Put. Tries in memory: the reference's Delete and Put. Tries in memory: the reference's Put. Trees in memory: a node is some cells, the last of which is the slice of its kids; rows of nodes of one's own. -/
import Derived.StillTail
import Derived.BigRegion
import Derived.Deep.DeepCutAuto
import Derived.Test.YtefmlbckbhlgdaaTg0
import Derived.Test.YtefmlbckbhlgdaaTg1
namespace Go.Proofs.Ytefmlbckbhlgdaa
open Go.RowKit
theorem below_grown {w w' : World} {base : Nat} {T : TypeId} {k n : Nat} {v : Value} {xs : List Value} (hown : w.ownsRow base T k v n xs) (hg : w.grownBy w' v.ownBlock) (hbase : base ≤ w.heap.size) : ∀ w0, Below base w0 w → Below base w0 w' :=
  fun _ h0 => h0.grown hg hbase fun k hk => (World.ownsRow.lt hown k hk).1

end Go.Proofs.Ytefmlbckbhlgdaa
namespace Go.Proofs.Ytefmlbckbhlgdaa
open Go.RowKit
/-- Elements behind the call's own. -/
theorem wpList_append_rowE {α : Type} (E : Enc α) {ts te : TypeId} {z : Value} {bytes : Nat} (ht : Try.prog.underlying ts = some (.slice te)) (hinf : (Try.prog.info? te).map (fun i => (i.zero, i.size, i.bytes)) = some (some z, E.k, bytes)) (hzs : z.cells.size = E.k)
    {ops : Array Oper} {rest : List Oper} {o : Oper} {a : Act} {Q : Exit → Act → World → Prop} {w : World} (hgd : o.guard = Option.none) (s x : Operand)
    (ho : o.op = .call { callee := .builtin .append, args := #[s, x], argTypes := #[ts, ts] }) (base : Nat) (v : Value) (l : List α) (hs : a.eval s = v) (hown : OwnE E te w base v l)
    (v2 : Value) (news : List α) (hx : a.eval x = v2) (hsrc : RowE E w v2 news) (hb : l.length + news.length ≤ maxLen) (hby : (l.length + news.length) * bytes ≤ 140737488355328) (hbase : base ≤ w.heap.size)
    (h : ∀ v' w', OwnE E te w' base v' (l ++ news) → (∀ w0, Below base w0 w → Below base w0 w') → w.heap.size ≤ w'.heap.size → (v' = .slice none 0 0 ↔ v = .slice none 0 0 ∧ news.length = 0) → wpList Try.prog ops Q rest (a.put o.dst v') w') : wpList Try.prog ops Q (o :: rest) a w := by
  obtain ⟨i0, hi, hz0, hz1, hz2⟩ := info_parts hinf
  rcases hsrc with ⟨rfl, rfl⟩ | ⟨ad, cap, rfl, h1, h2, hc⟩
  · refine wpList_append_own_none hgd s x ts ho base te i0 E.k ht hi v l.length (flat E l) hs hown hx ?_
    exact h v w (by rw [List.append_nil]; exact hown) (fun _ h => h) (Nat.le_refl _) (by simp)
  · refine wpList_append_own w hgd s x ts ho base te i0 _ E.k bytes ht hi hz0 hz1 hz2 hzs E.pos v l.length (flat E l) hs hown ad news.length cap (flat E news) hx (flat_length E news) hc (flat_one E news) hb hby hbase ?_
    intro v' w' hown' hg hn
    refine h v' w' ?_ (below_grown hown hg hbase) hg.size hn
    unfold OwnE
    rw [List.length_append, flat_append]
    exact hown'

/-- One element that the call lays in a block of its own. -/
theorem RowE.lit {α : Type} (E : Enc α) {w : World} {k : Nat} {cs : Array Value} {T : TypeId} (h : w.heap[k]? = some (.cells cs T (0, 0))) (x : α) (hcs : cs.toList = E.cells x) : RowE E w (.slice (some ⟨k, 0, none⟩) 1 1) [x] := by
  refine .inr ⟨⟨k, 0, none⟩, 1, rfl, Nat.le_refl _, by unfold maxLen; omega, fun j u hj => ?_⟩
  have e : flat E [x] = E.cells x := by simp [flat]
  rw [e, ← hcs] at hj
  have : w.cell? ⟨k, j, none⟩ = cs[j]? := cell_of_row w k j cs T _ h
  rw [Array.getElem?_toList] at hj
  rw [← hj, ← this]
  cases j <;> simp [Addr.add]

/-- Cells laid anew from 'o' on. -/
def laid (C : Array Value) (o : Nat) : List Value → Array Value
  | [] => C
  | v :: l => laid (C.setIfInBounds o v) (o + 1) l
theorem laid_size : ∀ (l : List Value) (C : Array Value) (o : Nat), (laid C o l).size = C.size
  | [], _, _ => rfl
  | v :: l, C, o => by rw [laid, laid_size l]; simp
theorem laid_out : ∀ (l : List Value) (C : Array Value) (o q : Nat), (q < o ∨ o + l.length ≤ q) → (laid C o l)[q]? = C[q]?
  | [], _, _, _, _ => rfl
  | v :: l, C, o, q, h => by
    rw [List.length_cons] at h
    rw [laid, laid_out l _ (o + 1) q (by omega), Array.getElem?_setIfInBounds_ne (by omega)]
theorem laid_in : ∀ (l : List Value) (C : Array Value) (o r : Nat), o + l.length ≤ C.size → r < l.length → (laid C o l)[o + r]? = l[r]?
  | [], _, _, r, _, h => by simp at h
  | v :: l, C, o, 0, hs, _ => by
    rw [List.length_cons] at hs
    rw [laid, laid_out l _ (o + 1) (o + 0) (by omega), Nat.add_zero, Array.getElem?_setIfInBounds_self_of_lt (by omega)]
    rfl
  | v :: l, C, o, r + 1, hs, hr => by
    rw [List.length_cons] at hs hr
    rw [laid, show o + (r + 1) = (o + 1) + r by omega, laid_in l _ (o + 1) r (by simp; omega) (by omega)]
    rfl

theorem laid_flat {α : Type} (E : Enc α) {C : Array Value} {L : List α} {i : Nat} (y : α) (hi : i < L.length) (hs : L.length * E.k ≤ C.size) (h : C.toList.take (L.length * E.k) = flat E L) : (laid C (i * E.k) (E.cells y)).toList.take (L.length * E.k) = flat E (L.set i y) := by
  have hk := E.pos
  have hik : i * E.k + E.k ≤ L.length * E.k := by
    have := Nat.mul_le_mul_right E.k (show i + 1 ≤ L.length by omega)
    rw [Nat.add_mul, Nat.one_mul] at this
    exact this
  have hfl : (flat E (L.set i y)).length = L.length * E.k := by rw [flat_length, List.length_set]
  apply List.ext_getElem?
  intro q
  rw [List.getElem?_take]
  by_cases hq : q < L.length * E.k
  · rw [if_pos hq, Array.getElem?_toList]
    have hd : q / E.k < L.length := (Nat.div_lt_iff_lt_mul hk).2 hq
    have hr : q % E.k < E.k := Nat.mod_lt _ hk
    have e : q = q / E.k * E.k + q % E.k := by rw [Nat.mul_comm]; exact (Nat.div_add_mod q E.k).symm
    by_cases he : q / E.k = i
    · have hg : (L.set i y)[i]? = some y := by rw [List.getElem?_set_self hi]
      rw [e, he, flat_get E hg _ hr]
      exact laid_in _ _ _ _ (by rw [E.len]; omega) (by rw [E.len]; exact hr)
    · have hg : (L.set i y)[q / E.k]? = some L[q / E.k] := by rw [List.getElem?_set_ne (Ne.symm he), List.getElem?_eq_getElem hd]
      have h2 := flat_get E (List.getElem?_eq_getElem hd) _ hr
      rw [laid_out]
      · rw [← Array.getElem?_toList]
        have h3 : (C.toList.take (L.length * E.k))[q]? = C.toList[q]? := by rw [List.getElem?_take, if_pos hq]
        rw [← h3, h, e, h2, flat_get E hg _ hr]
      · rw [E.len]
        rcases Nat.lt_or_ge (q / E.k) i with h4 | h4
        · left
          have := Nat.mul_le_mul_right E.k (show q / E.k + 1 ≤ i by omega)
          rw [Nat.add_mul, Nat.one_mul] at this
          omega
        · right
          have := Nat.mul_le_mul_right E.k (show i + 1 ≤ q / E.k by omega)
          rw [Nat.add_mul, Nat.one_mul] at this
          omega
  · rw [if_neg hq, List.getElem?_eq_none (by omega)]

/-- The stores of cells from 'o' on. -/
def layW (w : World) (g o : Nat) : List Value → World
  | [] => w
  | v :: l => layW (w.setCell ⟨g, o, none⟩ v) g (o + 1) l
theorem layW_heap : ∀ (l : List Value) (w : World) (g o : Nat) (C : Array Value) (T : TypeId), RowAt w g C T → RowAt (layW w g o l) g (laid C o l) T
  | [], _, _, _, _, _, h => h
  | v :: l, _, g, o, _, T, h => layW_heap l _ g (o + 1) _ T (h.set o v rfl)
theorem OwnE.at {α : Type} {E : Enc α} {T : TypeId} {w : World} {base : Nat} {p : Option Addr} {n c : Nat} {L : List α} (h : OwnE E T w base (.slice p n c) L) {i : Nat} {x : α} (hx : L[i]? = some x) :
    ∃ g, p = some ⟨g, 0, none⟩ ∧ base ≤ g ∧ g < w.heap.size ∧ (∀ r u, (E.cells x)[r]? = some u → w.cell? ⟨g, i * E.k + r, none⟩ = some u) ∧ (∀ r, w.frozen? ⟨g, r, none⟩ = false) ∧
      ∀ (y : α) (w' : World), (∀ C, RowAt w g C T → RowAt w' g C T) → OwnE E T (layW w' g (i * E.k) (E.cells y)) base (.slice p n c) (L.set i y) := by
  have hi := (List.getElem?_eq_some_iff.1 hx).1
  rcases h.2 with ⟨_, hn⟩ | ⟨g, cap, cur, hv, hg, hc, hn, hcap, hsz, htk⟩
  · exfalso; omega
  · injection hv with e1 e2 e3
    subst e1 e2 e3
    have hlt : g < w.heap.size := by
      rcases Nat.lt_or_ge g w.heap.size with h | h
      · exact h
      · rw [Array.getElem?_eq_none h] at hc; cases hc
    have hik : i * E.k + E.k ≤ L.length * E.k := by
      have := Nat.mul_le_mul_right E.k (show i + 1 ≤ L.length by omega)
      rw [Nat.add_mul, Nat.one_mul] at this
      exact this
    refine ⟨g, rfl, hg, hlt, fun r u hr => ?_, fun r => frozen_of_row w g r cur T hc, fun y w' hw' => ?_⟩
    · have hr' : r < E.k := by have := (List.getElem?_eq_some_iff.1 hr).1; rw [E.len] at this; exact this
      rw [cell_of_row w g _ cur T _ hc]
      have h3 : (cur.toList.take (L.length * E.k))[i * E.k + r]? = cur.toList[i * E.k + r]? := by rw [List.getElem?_take, if_pos (by omega)]
      rw [← Array.getElem?_toList, ← h3, htk, flat_get E hx r hr', hr]
    · refine ⟨by rw [flat_length], .inr ⟨g, c, laid cur (i * E.k) (E.cells y), by rw [List.length_set], hg, layW_heap _ _ _ _ _ _ (hw' _ hc), by rw [List.length_set]; exact hn, hcap, by rw [laid_size]; exact hsz, ?_⟩⟩
      rw [List.length_set]
      refine laid_flat E y hi ?_ htk
      rw [hsz]
      exact Nat.mul_le_mul_right _ hn

end Go.Proofs.Ytefmlbckbhlgdaa
namespace Go.Proofs.Ytefmlbckbhlgdaa
open Go.RowKit
set_option maxRecDepth 100000
/-- Elements behind the call's own row: what else there is stays as it is. -/
theorem wpList_append_rowG {α : Type} (E : Enc α) {ts te : TypeId} {z : Value} {bytes : Nat} (ht : Try.prog.underlying ts = some (.slice te)) (hinf : (Try.prog.info? te).map (fun i => (i.zero, i.size, i.bytes)) = some (some z, E.k, bytes)) (hzs : z.cells.size = E.k)
    {ops : Array Oper} {rest : List Oper} {o : Oper} {a : Act} {Q : Exit → Act → World → Prop} {w : World} (hgd : o.guard = Option.none) (s x : Operand)
    (ho : o.op = .call { callee := .builtin .append, args := #[s, x], argTypes := #[ts, ts] }) (base : Nat) (v : Value) (l : List α) (hs : a.eval s = v) (hown : OwnE E te w base v l)
    (v2 : Value) (news : List α) (hx : a.eval x = v2) (hsrc : RowE E w v2 news) (hb : l.length + news.length ≤ maxLen) (hby : (l.length + news.length) * bytes ≤ 140737488355328) (hbase : base ≤ w.heap.size)
    (h : ∀ v' w', OwnE E te w' base v' (l ++ news) → w.grownBy w' v.ownBlock → (∀ w0, Below base w0 w → Below base w0 w') → w.heap.size ≤ w'.heap.size → (v' = .slice none 0 0 ↔ v = .slice none 0 0 ∧ news.length = 0) → wpList Try.prog ops Q rest (a.put o.dst v') w') : wpList Try.prog ops Q (o :: rest) a w := by
  obtain ⟨i0, hi, hz0, hz1, hz2⟩ := info_parts hinf
  rcases hsrc with ⟨rfl, rfl⟩ | ⟨ad, cap, rfl, h1, h2, hc⟩
  · refine wpList_append_own_none hgd s x ts ho base te i0 E.k ht hi v l.length (flat E l) hs hown hx ?_
    exact h v w (by rw [List.append_nil]; exact hown) (World.grownBy.refl _ _) (fun _ h => h) (Nat.le_refl _) (by simp)
  · refine wpList_append_own w hgd s x ts ho base te i0 _ E.k bytes ht hi hz0 hz1 hz2 hzs E.pos v l.length (flat E l) hs hown ad news.length cap (flat E news) hx (flat_length E news) hc (flat_one E news) hb hby hbase ?_
    intro v' w' hown' hg hn
    refine h v' w' ?_ hg (below_grown hown hg hbase) hg.size hn
    unfold OwnE
    rw [List.length_append, flat_append]
    exact hown'

/-- One element that the call lays in a block of its own. -/

def encP : Enc Pr := ⟨2, fun p => [.string (mkS p.1), .string (mkS p.2)], fun _ => rfl, fun x u h => by simp at h; rcases h with rfl | rfl <;> rfl, by decide⟩
theorem info_pr : (Try.prog.info? 41).map (fun i => (i.zero, i.size, i.bytes)) = some (some (.agg #[.string ⟨#[]⟩, .string ⟨#[]⟩]), 2, 32) := by kernel_rfl
def RP (w : World) (v : Value) (l : List Pr) : Prop := RowE encP w v l
theorem RP.below {w w' : World} {v : Value} {l : List Pr} {B : Nat} (h : RP w v l) (hb : Below B w w') (hB : w.heap.size ≤ B) : RP w' v l := RowE.below encP h hb hB
abbrev prO (p : Pr) : Obj := .cells #[.string (mkS p.1), .string (mkS p.2)] 41
theorem RP.at {w : World} {p : Option Addr} {n c : Nat} {l : List Pr} (h : RP w (.slice p n c) l) {i : Nat} {x : Pr} (hx : l[i]? = some x) : ∃ a, p = some a ∧ w.cell? (a.add (i * 2)) = some (.string (mkS x.1)) ∧ w.cell? ⟨(a.add (i * 2)).block, (a.add (i * 2)).off + 1, none⟩ = some (.string (mkS x.2)) := by
  rcases h with ⟨_, rfl⟩ | ⟨a, cap, hv, h1, h2, hc⟩
  · simp at hx
  · injection hv with e1 e2 e3
    subst e1 e2 e3
    refine ⟨a, rfl, ?_, ?_⟩
    · have := hc (i * 2 + 0) _ (by have := flat_get encP hx 0 (by decide); exact this)
      exact this
    · have h := hc (i * 2 + 1) _ (by have := flat_get encP hx 1 (by decide); exact this)
      rw [← Go.Deep.add_add] at h
      exact h
theorem mkS_toList (l : List UInt8) : (mkS l).toList = l := by rw [toList_bl, bl_mk]
theorem mkS_beq (a b : List UInt8) : ((mkS a).toList == (mkS b).toList) = decide (a = b) := by
  rw [mkS_toList, mkS_toList]
  by_cases h : a = b
  · rw [decide_eq_true h]; exact beq_iff_eq.2 h
  · rw [decide_eq_false h]; exact beq_eq_false_iff_ne.2 h

set_option maxHeartbeats 1000000 in
theorem may_any (k v : List UInt8) (w : World) : Calls Try.prog 39 #[.string (mkS k), .string (mkS v)] w fun e w' => e = .returned (.bool (mayP (k, v))) ∧ w = w' := by
  have H : Hid (mayP (k, v) = (decide (1 ≤ k.length) && decide (k.length ≤ 32) && decide (1 ≤ v.length) && decide (v.length ≤ 500))) := Lib.hid rfl
  generalize mayP (k, v) = b at *
  have z1 : (mkS k).size = k.length := mk_size k
  have z2 : (mkS v).size = v.length := mk_size v
  generalize mkS k = ks at *
  generalize mkS v = vs at *
  by_cases h1 : 1 ≤ k.length
  · by_cases h2 : k.length ≤ 32
    · by_cases h3 : 1 ≤ v.length
      · by_cases h4 : v.length ≤ 500
        · have hb : Hid (b = true) := Lib.hid (by rw [H.out]; simp [h1, h2, h3, h4])
          clear H
          have g1 : (1 : Int) ≤ ks.size := by omega
          have g2 : (ks.size : Int) ≤ 32 := by omega
          have g3 : (1 : Int) ≤ vs.size := by omega
          have g4 : (vs.size : Int) ≤ 500 := by omega
          clear z1 z2 h1 h2 h3 h4
          go_enter Try.func39, Try.ntmps39
          go_wp2
          go_ret
          exact ⟨by rw [hb.out]; rfl, rfl⟩
        · have hb : Hid (b = false) := Lib.hid (by rw [H.out]; simp [h4])
          clear H
          have g1 : (1 : Int) ≤ ks.size := by omega
          have g2 : (ks.size : Int) ≤ 32 := by omega
          have g3 : (1 : Int) ≤ vs.size := by omega
          have g4 : ¬ (vs.size : Int) ≤ 500 := by omega
          clear z1 z2 h1 h2 h3 h4
          go_enter Try.func39, Try.ntmps39
          go_wp2
          go_ret
          exact ⟨by rw [hb.out]; rfl, rfl⟩
      · have hb : Hid (b = false) := Lib.hid (by rw [H.out]; simp [h3])
        clear H
        have g1 : (1 : Int) ≤ ks.size := by omega
        have g2 : (ks.size : Int) ≤ 32 := by omega
        have g3 : ¬ (1 : Int) ≤ vs.size := by omega
        clear z1 z2 h1 h2 h3
        go_enter Try.func39, Try.ntmps39
        go_wp2
        go_ret
        exact ⟨by rw [hb.out]; rfl, rfl⟩
    · have hb : Hid (b = false) := Lib.hid (by rw [H.out]; simp [h2])
      clear H
      have g1 : (1 : Int) ≤ ks.size := by omega
      have g2 : ¬ (ks.size : Int) ≤ 32 := by omega
      clear z1 z2 h1 h2
      go_enter Try.func39, Try.ntmps39
      go_wp2
      go_ret
      exact ⟨by rw [hb.out]; rfl, rfl⟩
  · have hb : Hid (b = false) := Lib.hid (by rw [H.out]; simp [h1])
    clear H
    have g1 : ¬ (1 : Int) ≤ ks.size := by omega
    clear z1 z2 h1
    go_enter Try.func39, Try.ntmps39
    go_wp2
    go_ret
    exact ⟨by rw [hb.out]; rfl, rfl⟩

set_option maxHeartbeats 2000000 in
theorem rget_any (k : List UInt8) (v : Value) (l : List Pr) (w : World) (h : RP w v l) : Calls Try.prog 34 #[v, .string (mkS k)] w fun e w' => e = .returned (.tuple #[.string (mkS ((getL k l).getD [])), .bool (getL k l).isSome]) ∧ Below w.heap.size w w' := by
  obtain ⟨p, c, rfl, h1, h2⟩ := RowE.shape encP h
  have HR := Lib.hid h
  have HB := Lib.hid (Below.refl w.heap.size w)
  have HS : Hid (∀ i x, l[i]? = some x → getL k (l.drop i) = if x.1 = k then some x.2 else getL k (l.drop (i + 1))) := Lib.hid (fun i x hx => by
    obtain ⟨hlt, e⟩ := List.getElem?_eq_some_iff.1 hx
    rw [List.drop_eq_getElem_cons hlt, e, getL])
  have H0 : Hid (getL k l = getL k (l.drop 0)) := Lib.hid rfl
  have HE : Hid (getL k (l.drop l.length) = none) := Lib.hid (by rw [List.drop_length]; rfl)
  generalize getL k l = r at *
  clear h
  unfold maxLen at h2
  go_enter Try.func34, Try.ntmps34
  go_upto_region 2 with (fail)
  go_loopw [10] (fun s wr => ∃ i : Nat, i ≤ l.length ∧ s = .int .i64 i ∧ Hid (r = getL k (l.drop i)) ∧ Hid (Below w.heap.size w wr)) (fun s _ => l.length - (intOf s).toNat)
  case atStart => exact ⟨0, Nat.zero_le _, rfl, H0, HB⟩
  case round =>
    clear H0 HB
    obtain ⟨i, hi, rfl, hr, hb⟩ := hrel
    have HR1 := Lib.hid hr.out
    have HB := Lib.hid hb.out
    clear hr hb
    by_cases hlt : i < l.length
    · obtain ⟨x, hx⟩ : ∃ x, l[i]? = some x := ⟨_, List.getElem?_eq_getElem hlt⟩
      obtain ⟨a, rfl, c0, c1⟩ := RP.at (RP.below HR.out HB.out (Nat.le_refl _)) hx
      have hs := HS.out i x hx
      obtain ⟨xk, xv⟩ := x
      simp only at c0 c1 hs
      have hbq := mkS_beq xk k
      by_cases e : xk = k
      · rw [if_pos e] at hs
        rw [decide_eq_true e] at hbq
        have hv := Lib.hid (HR1.out.trans hs)
        clear hs hx e
        go_wp2
        refine bodyPost_ret (v := .tuple #[.string (mkS xv), .bool true]) (by simp [results, Try.results34, go_sem]) rfl ?_
        rw [hv.out]
        exact ⟨rfl, HB.out.alloc HB.out.size _⟩
      · rw [if_neg e] at hs
        rw [decide_eq_false e] at hbq
        have hv := Lib.hid (HR1.out.trans hs)
        clear hs hx e
        go_wp2
        exact ⟨⟨i + 1, by omega, by simp, hv, Lib.hid (HB.out.alloc HB.out.size _)⟩, by simp [intOf]; omega⟩
    · obtain rfl : i = l.length := by omega
      have hv := Lib.hid (HR1.out.trans HE.out)
      go_wp2
      refine bodyPost_ret (v := .tuple #[.string ⟨#[]⟩, .bool false]) (by simp [results, Try.results34, go_sem]) rfl ?_
      rw [hv.out]
      exact ⟨rfl, HB.out⟩
end Go.Proofs.Ytefmlbckbhlgdaa
namespace Go.Proofs.Ytefmlbckbhlgdaa
open Go.RowKit
set_option maxRecDepth 100000
def OP (w : World) (base : Nat) (v : Value) (l : List Pr) : Prop := OwnE encP 41 w base v l
theorem OP.below {w w' : World} {base B : Nat} {v : Value} {l : List Pr} (h : OP w base v l) (hb : Below B w w') (hB : w.heap.size ≤ B) : OP w' base v l := OwnE.below encP h hb hB
theorem prAlloc (w : World) (x : Pr) : Below w.heap.size w (w.alloc (prO x)) := (Below.refl _ _).alloc (Nat.le_refl _) _

set_option maxHeartbeats 2000000 in
theorem rdel_any (k : List UInt8) (v : Value) (l : List Pr) (w : World) (h : RP w v l) (hl : l.length ≤ 100000) : Calls Try.prog 35 #[v, .string (mkS k)] w fun e w' => ∃ v', e = .returned v' ∧ RP w' v' (delL k l) ∧ Below w.heap.size w w' := by
  obtain ⟨p, c, rfl, h1, h2⟩ := RowE.shape encP h
  have HR := Lib.hid h
  have HB0 : Hid (Below w.heap.size w (w.alloc (.cells #[] 41))) := Lib.hid ((Below.refl _ _).alloc (Nat.le_refl _) _)
  have O0 : Hid (OP (w.alloc (.cells #[] 41)) w.heap.size (.slice (some ⟨w.heap.size, 0, none⟩) 0 0) []) := Lib.hid (OwnE.start encP (Nat.le_refl _))
  have HS : Hid (∀ i x, l[i]? = some x → delL k (l.drop i) = if x.1 = k then delL k (l.drop (i + 1)) else x :: delL k (l.drop (i + 1))) := Lib.hid (fun i x hx => by
    obtain ⟨hlt, e⟩ := List.getElem?_eq_some_iff.1 hx
    rw [List.drop_eq_getElem_cons hlt, e]
    unfold delL
    by_cases hk : x.1 = k
    · rw [List.filter_cons_of_neg (by simpa using hk), if_pos hk]
    · rw [List.filter_cons_of_pos (by simpa using hk), if_neg hk])
  have H0 : Hid ([] ++ delL k (l.drop 0) = delL k l) := Lib.hid rfl
  have HE : Hid (delL k (l.drop l.length) = []) := Lib.hid (by rw [List.drop_length]; rfl)
  generalize delL k l = r at *
  clear h
  unfold maxLen at h2
  go_enter Try.func35, Try.ntmps35
  go_upto_region 3 with (fail)
  go_loopw [5, 11] (fun s5 s wr => ∃ (i : Nat) (out : List Pr), i ≤ l.length ∧ out.length ≤ i ∧ s = .int .i64 i ∧ Hid (OP wr w.heap.size s5 out) ∧ Hid (out ++ delL k (l.drop i) = r) ∧ Hid (Below w.heap.size w wr)) (fun _ s _ => l.length - (intOf s).toNat)
  case atStart => exact ⟨0, [], Nat.zero_le _, Nat.zero_le _, rfl, O0, H0, HB0⟩
  case round =>
    clear H0 HB0 O0
    obtain ⟨i, out, hi, hoi, rfl, ho, hr, hb⟩ := hrel
    have O := Lib.hid ho.out
    have HR1 := Lib.hid hr.out
    have HB := Lib.hid hb.out
    clear ho hr hb
    by_cases hlt : i < l.length
    · obtain ⟨x, hx⟩ : ∃ x, l[i]? = some x := ⟨_, List.getElem?_eq_getElem hlt⟩
      obtain ⟨a, rfl, c0, c1⟩ := RP.at (RP.below HR.out HB.out (Nat.le_refl _)) hx
      have hs := HS.out i x hx
      have hbq := mkS_beq x.1 k
      have HA := prAlloc wr x
      have O1 := Lib.hid (O.out.below HA (Nat.le_refl _))
      have HB1 := Lib.hid (HB.out.trans (HA.mono HB.out.size))
      have R1 := Lib.hid (RowAt.new wr #[.string (mkS x.1), .string (mkS x.2)] 41)
      clear HA
      by_cases e : x.1 = k
      · rw [if_pos e] at hs
        rw [decide_eq_true e] at hbq
        have hv := Lib.hid (show out ++ delL k (l.drop (i + 1)) = r by rw [← hs]; exact HR1.out)
        obtain ⟨xk, xv⟩ := x
        simp only at c0 c1 hbq
        clear hs hx e
        go_wp2
        exact ⟨⟨i + 1, out, by omega, by omega, by simp, O1, hv, HB1⟩, by simp [intOf]; omega⟩
      · rw [if_neg e] at hs
        rw [decide_eq_false e] at hbq
        have hv := Lib.hid (show (out ++ [x]) ++ delL k (l.drop (i + 1)) = r by rw [List.append_assoc, List.singleton_append, ← hs]; exact HR1.out)
        clear hs hx e O HB
        go_upto_region 6 with (fail)
        clear c0 c1
        generalize hw1 : wr.alloc (.cells #[.string (mkS x.1), .string (mkS x.2)] 41) = w1 at *
        obtain ⟨y0, y1, yf0, yf1⟩ := R1.out.c2
        have R2 := Lib.hid (RowAt.new w1 #[.string (mkS x.1), .string (mkS x.2)] 41)
        have HA := prAlloc w1 x
        have O2 := Lib.hid (O1.out.below HA (Nat.le_refl _))
        have HB2 := Lib.hid (HB1.out.trans (HA.mono HB1.out.size))
        have HL2 := Lib.hid (RowE.lit encP R2.out x rfl)
        have HZ2 := Lib.hid HB2.out.size
        clear HA O1 HB1
        go_upto_region 7 with (at_builtin; refine wpList_append_rowE encP Try.underlying34 info_pr rfl rfl _ _ rfl w.heap.size _ out rfl O2.out _ [x] rfl HL2.out (by unfold maxLen; simp; omega) (by simp; omega) HZ2.out ?_)
        intro v' w' ho hbb hz _
        have HO := Lib.hid (show OP w' w.heap.size v' (out ++ [x]) from ho)
        have HB3 := Lib.hid (hbb _ HB2.out)
        clear ho hbb hz y0 y1 yf0 yf1
        go_wp2
        exact ⟨⟨i + 1, out ++ [x], by omega, by simp; omega, by simp, HO, hv, HB3⟩, by simp [intOf]; omega⟩
    · obtain rfl : i = l.length := by omega
      have hv := Lib.hid (show out = r by have := HR1.out; rw [HE.out, List.append_nil] at this; exact this)
      go_wp2
      go_ret
      exact ⟨_, rfl, by rw [← hv.out]; exact OwnE.row encP O.out, HB.out⟩
end Go.Proofs.Ytefmlbckbhlgdaa
namespace Go.Proofs.Ytefmlbckbhlgdaa
open Go.RowKit
set_option maxRecDepth 100000
/-- The reference's way to put a pair: what is out, and whether it is in. -/
def rputF (k v : List UInt8) : List Pr → Bool → List Pr → List Pr × Bool
  | [], b, out => (out, b)
  | p :: l, b, out => rputF k v l (b || !ltL p.1 k) ((if !b && !ltL p.1 k then out ++ [(k, v)] else out) ++ (if p.1 = k then [] else [p]))
def rputE (k v : List UInt8) (r : List Pr × Bool) : List Pr := if r.2 then r.1 else r.1 ++ [(k, v)]
theorem rput_above {k v : List UInt8} : ∀ {l : List Pr} {out : List Pr}, (∀ q ∈ l, ltL k q.1 = true) → rputF k v l true out = (out ++ l, true)
  | [], out, _ => by rw [rputF, List.append_nil]
  | p :: l, out, h => by
    have h1 := h p List.mem_cons_self
    rw [rputF]
    simp only [Bool.not_true, Bool.false_and, Bool.true_or]
    rw [if_neg (by simp), if_neg (fun e => ltL_ne h1 e.symm), rput_above (fun q hq => h q (List.mem_cons_of_mem _ hq))]
    simp
theorem rput_eq {k v : List UInt8} : ∀ {l : List Pr} {out : List Pr}, sortP l → rputE k v (rputF k v l false out) = out ++ putL k v l
  | [], out, _ => rfl
  | p :: l, out, hs => by
    rw [rputF, putL]
    cases e : ltL p.1 k with
    | true =>
      have e1 : (false || !true) = false := rfl
      have e2 : (!false && !true) = false := rfl
      rw [e1, e2, if_neg Bool.false_ne_true, if_neg (ltL_ne e), if_pos rfl, rput_eq (List.pairwise_cons.1 hs).2]
      simp
    | false =>
      have e1 : (false || !false) = true := rfl
      have e2 : (!false && !false) = true := rfl
      rw [e1, e2, if_pos rfl, if_neg Bool.false_ne_true]
      by_cases hk : p.1 = k
      · rw [if_pos hk, if_pos hk, rput_above (below_head hs (.inr hk.symm))]
        simp [rputE]
      · rw [if_neg hk, if_neg hk]
        have : ltL k p.1 = true := by
          rcases ltL_tri p.1 k with h | h | h
          · rw [e] at h; cases h
          · exact absurd h hk
          · exact h
        rw [rput_above (below_head hs (.inl this))]
        simp [rputE]
theorem mkS_less (a b : List UInt8) : Op.bytesLess (mkS a).toList (mkS b).toList = ltL a b := by rw [mkS_toList, mkS_toList]

set_option maxHeartbeats 4000000 in
theorem rput_any (k u : List UInt8) (v : Value) (l : List Pr) (w : World) (h : RP w v l) (hl : l.length ≤ 100000) (hs : sortP l) : Calls Try.prog 36 #[v, .string (mkS k), .string (mkS u)] w fun e w' => ∃ v', e = .returned v' ∧ RP w' v' (putL k u l) ∧ Below w.heap.size w w' := by
  obtain ⟨p, c, rfl, h1, h2⟩ := RowE.shape encP h
  have HR := Lib.hid h
  have HB0 : Hid (Below w.heap.size w (w.alloc (.cells #[] 41))) := Lib.hid ((Below.refl _ _).alloc (Nat.le_refl _) _)
  have O0 : Hid (OP (w.alloc (.cells #[] 41)) w.heap.size (.slice (some ⟨w.heap.size, 0, none⟩) 0 0) []) := Lib.hid (OwnE.start encP (Nat.le_refl _))
  have HS : Hid (∀ i x b out, l[i]? = some x → rputF k u (l.drop i) b out = rputF k u (l.drop (i + 1)) (b || !ltL x.1 k) ((if !b && !ltL x.1 k then out ++ [(k, u)] else out) ++ (if x.1 = k then [] else [x]))) := Lib.hid (fun i x b out hx => by
    obtain ⟨hlt, e⟩ := List.getElem?_eq_some_iff.1 hx
    rw [List.drop_eq_getElem_cons hlt, e, rputF])
  have H0 : Hid (rputE k u (rputF k u (l.drop 0) false []) = putL k u l) := Lib.hid (rput_eq hs)
  have HE : Hid (∀ b out, rputF k u (l.drop l.length) b out = (out, b)) := Lib.hid (fun b out => by rw [List.drop_length]; rfl)
  generalize putL k u l = r at *
  clear h hs
  unfold maxLen at h2
  go_enter Try.func36, Try.ntmps36
  go_upto_region 4 with (fail)
  go_loopw [7, 8, 14] (fun s7 s8 s wr => ∃ (i : Nat) (b : Bool) (out : List Pr), i ≤ l.length ∧ out.length ≤ 2 * i ∧ s = .int .i64 i ∧ s8 = .bool b ∧ Hid (OP wr w.heap.size s7 out) ∧ Hid (rputE k u (rputF k u (l.drop i) b out) = r) ∧ Hid (Below w.heap.size w wr)) (fun _ _ s _ => l.length - (intOf s).toNat)
  case atStart => exact ⟨0, false, [], Nat.zero_le _, Nat.zero_le _, rfl, rfl, O0, H0, HB0⟩
  case round =>
    clear H0 HB0 O0
    obtain ⟨i, b, out, hi, hoi, rfl, rfl, ho, hr, hb⟩ := hrel
    have O := Lib.hid ho.out
    have HR1 := Lib.hid hr.out
    have HB := Lib.hid hb.out
    clear ho hr hb
    by_cases hlt : i < l.length
    · obtain ⟨x, hx⟩ : ∃ x, l[i]? = some x := ⟨_, List.getElem?_eq_getElem hlt⟩
      obtain ⟨a, rfl, c0, c1⟩ := RP.at (RP.below HR.out HB.out (Nat.le_refl _)) hx
      have hs := HS.out i x b out hx
      have hbq := mkS_beq x.1 k
      have hbl := mkS_less x.1 k
      have HOL : Hid (∀ g, u7.ownBlock = some g → g < wr.heap.size) := Lib.hid (fun g hg => (World.ownsRow.lt O.out g hg).2)
      have HA := prAlloc wr x
      have O1 := Lib.hid (O.out.below HA (Nat.le_refl _))
      have HB1 := Lib.hid (HB.out.trans (HA.mono HB.out.size))
      have R1 := Lib.hid (RowAt.new wr #[.string (mkS x.1), .string (mkS x.2)] 41)
      have HR2 := HR1.out
      rw [hs] at HR2
      clear HA hs hx O HB HR1
      go_upto_region 6 with (fail)
      clear c0 c1
      generalize hw1 : wr.alloc (.cells #[.string (mkS x.1), .string (mkS x.2)] 41) = w1 at *
      clear hw1
      generalize wr.heap.size = k1 at *
      obtain ⟨y0, y1, yf0, yf1⟩ := R1.out.c2
      cases b with
      | true =>
        have e1 : (true || !ltL x.1 k) = true := rfl
        have e2 : (!true && !ltL x.1 k) = false := rfl
        rw [e1, e2, if_neg Bool.false_ne_true] at HR2
        replace HR2 := HR2
        clear e1 e2 hbl
        by_cases e : x.1 = k
        · rw [if_pos e, List.append_nil] at HR2
          rw [decide_eq_true e] at hbq
          have hv := Lib.hid HR2
          clear HR2 e
          go_wp2
          exact ⟨⟨i + 1, true, out, by omega, by first | omega | (simp; omega), by simp, rfl, O1, hv, HB1⟩, by simp [intOf]; omega⟩
        · rw [if_neg e] at HR2
          rw [decide_eq_false e] at hbq
          have hv := Lib.hid HR2
          have R2 := Lib.hid (RowAt.new w1 #[.string (mkS x.1), .string (mkS x.2)] 41)
          have HA := prAlloc w1 x
          have O2 := Lib.hid (O1.out.below HA (Nat.le_refl _))
          have HB2 := Lib.hid (HB1.out.trans (HA.mono HB1.out.size))
          have HL2 := Lib.hid (RowE.lit encP R2.out x rfl)
          have HZ2 := Lib.hid HB2.out.size
          clear HA O1 HB1 HR2 e
          go_upto_region 11 with (at_builtin; refine wpList_append_rowE encP Try.underlying34 info_pr rfl rfl _ _ rfl w.heap.size _ (out) rfl O2.out _ [x] rfl HL2.out (by unfold maxLen; simp; omega) (by simp; omega) HZ2.out ?_)
          intro v' w' ho hbb hz _
          have HO := Lib.hid (show OP w' w.heap.size v' ((out) ++ [x]) from ho)
          have HB3 := Lib.hid (hbb _ HB2.out)
          clear ho hbb hz y0 y1 yf0 yf1
          go_wp2
          exact ⟨⟨i + 1, true, (out) ++ [x], by omega, by simp; omega, by simp, rfl, HO, hv, HB3⟩, by simp [intOf]; omega⟩
      | false =>
        cases e0 : ltL x.1 k with
        | true =>
          rw [e0] at HR2 hbl
          have e1 : (false || !true) = false := rfl
          have e2 : (!false && !true) = false := rfl
          rw [e1, e2, if_neg Bool.false_ne_true] at HR2
          clear e1 e2 e0
          by_cases e : x.1 = k
          · rw [if_pos e, List.append_nil] at HR2
            rw [decide_eq_true e] at hbq
            have hv := Lib.hid HR2
            clear HR2 e
            go_wp2
            exact ⟨⟨i + 1, false, out, by omega, by first | omega | (simp; omega), by simp, rfl, O1, hv, HB1⟩, by simp [intOf]; omega⟩
          · rw [if_neg e] at HR2
            rw [decide_eq_false e] at hbq
            have hv := Lib.hid HR2
            have R2 := Lib.hid (RowAt.new w1 #[.string (mkS x.1), .string (mkS x.2)] 41)
            have HA := prAlloc w1 x
            have O2 := Lib.hid (O1.out.below HA (Nat.le_refl _))
            have HB2 := Lib.hid (HB1.out.trans (HA.mono HB1.out.size))
            have HL2 := Lib.hid (RowE.lit encP R2.out x rfl)
            have HZ2 := Lib.hid HB2.out.size
            clear HA O1 HB1 HR2 e
            go_upto_region 11 with (at_builtin; refine wpList_append_rowE encP Try.underlying34 info_pr rfl rfl _ _ rfl w.heap.size _ (out) rfl O2.out _ [x] rfl HL2.out (by unfold maxLen; simp; omega) (by simp; omega) HZ2.out ?_)
            intro v' w' ho hbb hz _
            have HO := Lib.hid (show OP w' w.heap.size v' ((out) ++ [x]) from ho)
            have HB3 := Lib.hid (hbb _ HB2.out)
            clear ho hbb hz y0 y1 yf0 yf1
            go_wp2
            exact ⟨⟨i + 1, false, (out) ++ [x], by omega, by simp; omega, by simp, rfl, HO, hv, HB3⟩, by simp [intOf]; omega⟩
        | false =>
          rw [e0] at HR2 hbl
          have e1 : (false || !false) = true := rfl
          have e2 : (!false && !false) = true := rfl
          rw [e1, e2, if_pos rfl] at HR2
          clear e1 e2 e0
          have R3 := Lib.hid (RowAt.new w1 #[.string (mkS k), .string (mkS u)] 41)
          have HA := prAlloc w1 (k, u)
          have O3 := Lib.hid (O1.out.below HA (Nat.le_refl _))
          have HB3 := Lib.hid (HB1.out.trans (HA.mono HB1.out.size))
          have HL3 := Lib.hid (RowE.lit encP R3.out (k, u) rfl)
          have HZ3 := Lib.hid HB3.out.size
          have HK := Lib.hid (show k1 < w1.heap.size from R1.out.lt)
          replace R1 := Lib.hid (R1.out.alloc (prO (k, u)))
          clear HA O1 HB1
          have HNE : Hid (u7.ownBlock ≠ some k1) := Lib.hid (fun e => by have := World.ownsRow.lt O3.out _ e; have := HOL.out _ e; omega)
          go_upto_region 8 with (at_builtin; refine wpList_append_rowG encP Try.underlying34 info_pr rfl rfl _ _ rfl w.heap.size _ out rfl O3.out _ [(k, u)] rfl HL3.out (by unfold maxLen; simp; omega) (by simp; omega) HZ3.out ?_)
          intro v' w2 ho hgr hbb hz _
          replace R1 := Lib.hid (R1.out.grown hgr (fun e => HNE.out e.symm))
          have O1 := Lib.hid (show OP w2 w.heap.size v' (out ++ [(k, u)]) from ho)
          have HB1 := Lib.hid (hbb _ HB3.out)
          clear ho hgr hbb hz y0 y1 yf0 yf1 O3 HB3 HL3 HZ3 R3 HNE HK
          obtain ⟨y0, y1, yf0, yf1⟩ := R1.out.c2
          go_upto_region 9 with (fail)
          by_cases e : x.1 = k
          · rw [if_pos e, List.append_nil] at HR2
            rw [decide_eq_true e] at hbq
            have hv := Lib.hid HR2
            clear HR2 e
            go_wp2
            exact ⟨⟨i + 1, true, out ++ [(k, u)], by omega, by first | omega | (simp; omega), by simp, rfl, O1, hv, HB1⟩, by simp [intOf]; omega⟩
          · rw [if_neg e] at HR2
            rw [decide_eq_false e] at hbq
            have hv := Lib.hid HR2
            have R2 := Lib.hid (RowAt.new w2 #[.string (mkS x.1), .string (mkS x.2)] 41)
            have HA := prAlloc w2 x
            have O2 := Lib.hid (O1.out.below HA (Nat.le_refl _))
            have HB2 := Lib.hid (HB1.out.trans (HA.mono HB1.out.size))
            have HL2 := Lib.hid (RowE.lit encP R2.out x rfl)
            have HZ2 := Lib.hid HB2.out.size
            clear HA O1 HB1 HR2 e
            go_upto_region 11 with (at_builtin; refine wpList_append_rowE encP Try.underlying34 info_pr rfl rfl _ _ rfl w.heap.size _ (out ++ [(k, u)]) rfl O2.out _ [x] rfl HL2.out (by unfold maxLen; simp; omega) (by simp; omega) HZ2.out ?_)
            intro v3 w3 ho hbb hz _
            have HO := Lib.hid (show OP w3 w.heap.size v3 ((out ++ [(k, u)]) ++ [x]) from by rw [List.append_assoc]; exact ho)
            have HB3 := Lib.hid (hbb _ HB2.out)
            clear ho hbb hz y0 y1 yf0 yf1
            go_wp2
            exact ⟨⟨i + 1, true, (out ++ [(k, u)]) ++ [x], by omega, by simp; omega, by simp, rfl, HO, hv, HB3⟩, by simp [intOf]; omega⟩
    · obtain rfl : i = l.length := by omega
      have hv := HR1.out
      rw [HE.out] at hv
      cases b with
      | true =>
        have hv := Lib.hid (show out = r from hv)
        go_wp2
        go_ret
        exact ⟨_, rfl, by rw [← hv.out]; exact OwnE.row encP O.out, HB.out⟩
      | false =>
        have hv := Lib.hid (show out ++ [(k, u)] = r from hv)
        have R2 := Lib.hid (RowAt.new wr #[.string (mkS k), .string (mkS u)] 41)
        have HA := prAlloc wr (k, u)
        have O2 := Lib.hid (O.out.below HA (Nat.le_refl _))
        have HB2 := Lib.hid (HB.out.trans (HA.mono HB.out.size))
        have HL2 := Lib.hid (RowE.lit encP R2.out (k, u) rfl)
        have HZ2 := Lib.hid HB2.out.size
        clear HA O
        go_upto_region 14 with (at_builtin; refine wpList_append_rowE encP Try.underlying34 info_pr rfl rfl _ _ rfl w.heap.size _ out rfl O2.out _ [(k, u)] rfl HL2.out (by unfold maxLen; simp; omega) (by simp; omega) HZ2.out ?_)
        intro v' w' ho hbb hz _
        have HO := Lib.hid (show OP w' w.heap.size v' (out ++ [(k, u)]) from ho)
        have HB3 := Lib.hid (hbb _ HB2.out)
        clear ho hbb hz
        go_wp2
        go_ret
        exact ⟨_, rfl, by rw [← hv.out]; exact OwnE.row encP HO.out, HB3.out⟩
end Go.Proofs.Ytefmlbckbhlgdaa
namespace Go.Proofs.Ytefmlbckbhlgdaa
open Go.RowKit
inductive Tr (α : Type) where
  | mk (a : α) (ks : List (Tr α))
abbrev Tr.val {α : Type} : Tr α → α
  | .mk a _ => a
abbrev Tr.kids {α : Type} : Tr α → List (Tr α)
  | .mk _ ks => ks

/-- How a node lies, but for its kids. -/
structure TE (α : Type) where
  n : Nat
  pre : α → List Value
  len : ∀ a, (pre a).length = n
  one : ∀ a, ∀ u ∈ pre a, u.oneCell' = true

abbrev Sl := Option Addr × Nat × Nat
abbrev slV (s : Sl) : Value := .slice s.1 s.2.1 s.2.2
abbrev EV (α : Type) := α × Sl
def TE.enc {α : Type} (E : TE α) : Enc (EV α) := ⟨E.n + 1, fun x => E.pre x.1 ++ [slV x.2], fun x => by simp [E.len], fun x u h => by
  rcases List.mem_append.1 h with h | h
  · exact E.one _ u h
  · simp at h; subst h; rfl, Nat.succ_pos _⟩

theorem Addr.add_block (a : Addr) (n : Nat) : (a.add n).block = a.block := by unfold Addr.add; split <;> rfl

theorem RowE.keep {α : Type} {E : Enc α} {w w' : World} {ad : Addr} {n c : Nat} {l : List α} (h : RowE E w (.slice (some ad) n c) l) (hk : ∀ (a : Addr) (v : Value), a.block = ad.block → w.cell? a = some v → w'.cell? a = some v) : RowE E w' (.slice (some ad) n c) l := by
  rcases h with ⟨h, _⟩ | ⟨a, cap, hv, h1, h2, hc⟩
  · cases h
  · injection hv with e1 e2 e3
    injection e1 with e1
    subst e1 e2 e3
    exact .inr ⟨ad, c, rfl, h1, h2, fun j u hj => hk _ _ (Addr.add_block _ _) (hc j u hj)⟩

theorem RowE.empty {α : Type} {E : Enc α} {w : World} {p : Option Addr} {c : Nat} (hc : c ≤ maxLen) (hp : p = none → c = 0) : RowE E w (.slice p 0 c) [] := by
  cases p with
  | none => rw [hp rfl]; exact .inl ⟨rfl, rfl⟩
  | some ad => exact .inr ⟨ad, c, rfl, Nat.zero_le _, hc, fun j u h => by simp [flat] at h⟩
theorem RowE.sane {α : Type} {E : Enc α} {w : World} {p : Option Addr} {n c : Nat} {l : List α} (h : RowE E w (.slice p n c) l) : n = l.length ∧ n ≤ c ∧ c ≤ maxLen ∧ (p = none → c = 0) := by
  rcases h with ⟨e, rfl⟩ | ⟨a, cap, hv, h1, h2, _⟩
  · injection e with e1 e2 e3
    subst e1 e2 e3
    exact ⟨rfl, Nat.le_refl _, Nat.zero_le _, fun _ => rfl⟩
  · injection hv with e1 e2 e3
    subst e1 e2 e3
    exact ⟨rfl, h1, h2, fun e => by cases e⟩
theorem RowE.lt {α : Type} {E : Enc α} {w : World} {ad : Addr} {n c : Nat} {l : List α} (h : RowE E w (.slice (some ad) n c) l) (hl : l ≠ []) : ad.block < w.heap.size := by
  rcases h with ⟨e, _⟩ | ⟨a, cap, hv, h1, h2, hc⟩
  · cases e
  · injection hv with e1 e2 e3
    injection e1 with e1
    subst e1
    cases l with
    | nil => exact absurd rfl hl
    | cons x l =>
      have hk := E.pos
      have h0 : 0 < (flat E (x :: l)).length := by rw [flat_length, List.length_cons, Nat.add_mul]; omega
      have := hc 0 _ (List.getElem?_eq_getElem h0)
      have := block_lt_of_cell this
      rwa [Addr.add_block] at this

/-- The node 'x' reads as the tree; all rows of kids lie in blocks of the class. -/
inductive TreeP {α : Type} (E : TE α) (A : Nat → Prop) (w : World) : Tr α → EV α → Prop
  | leaf (a : α) (p : Option Addr) (c : Nat) (hc : c ≤ maxLen) (hp : p = none → c = 0) : TreeP E A w (.mk a []) (a, p, 0, c)
  | node (a : α) (ks : List (Tr α)) (xs : List (EV α)) (ad : Addr) (cap : Nat) (hn : ks ≠ []) (hl : xs.length = ks.length) (hA : A ad.block) (hr : RowE E.enc w (.slice (some ad) ks.length cap) xs)
      (h : ∀ (i : Nat) (k : Tr α) (x : EV α), ks[i]? = some k → xs[i]? = some x → TreeP E A w k x) : TreeP E A w (.mk a ks) (a, some ad, ks.length, cap)

section
variable {α : Type} {E : TE α} {A A' : Nat → Prop} {w w' : World}
theorem TreeP.keep (hk : ∀ (a : Addr) (v : Value), A a.block → w.cell? a = some v → w'.cell? a = some v) (_ : ∀ (a : Addr) (v : Value), A a.block → w.cell? a = some v → A' a.block) (hA0 : ∀ b, A b → A' b) {t : Tr α} {x : EV α} (h : TreeP E A w t x) : TreeP E A' w' t x := by
  induction h with
  | leaf a p c hc hp => exact .leaf a p c hc hp
  | node a ks xs ad cap hn hl hAd hr _ ih => exact .node a ks xs ad cap hn hl (hA0 _ hAd) (RowE.keep hr fun a v ha => hk a v (by rw [ha]; exact hAd)) ih

theorem TreeP.weaken (hA : ∀ b, A b → A' b) {t : Tr α} {x : EV α} (h : TreeP E A w t x) : TreeP E A' w t x := h.keep (fun _ _ _ h => h) (fun _ _ h _ => hA _ h) hA
theorem TreeP.move {B : Nat} (hb : Below B w w') (hB : w.heap.size ≤ B) {t : Tr α} {x : EV α} (h : TreeP E A w t x) : TreeP E A w' t x :=
  h.keep (fun a v _ hc => by rw [hb.cell (Nat.lt_of_lt_of_le (block_lt_of_cell hc) hB)]; exact hc) (fun _ _ h _ => h) (fun _ h => h)
theorem TreeP.parts {t : Tr α} {x : EV α} (h : TreeP E A w t x) : x.1 = t.val ∧ x.2.2.1 = t.kids.length ∧ x.2.2.1 ≤ x.2.2.2 ∧ x.2.2.2 ≤ maxLen ∧ ∃ xs, xs.length = t.kids.length ∧ RowE E.enc w (slV x.2) xs ∧ ∀ (i : Nat) (k : Tr α) (y : EV α), t.kids[i]? = some k → xs[i]? = some y → TreeP E A w k y := by
  cases h with
  | leaf a p c hc hp => exact ⟨rfl, rfl, Nat.zero_le _, hc, [], rfl, RowE.empty hc hp, fun i k y h => by simp at h⟩
  | node a ks xs ad cap hn hl hA hr h =>
    obtain ⟨p, c, e, h1, h2⟩ := RowE.shape _ hr
    injection e with e1 e2 e3
    subst e3
    exact ⟨rfl, rfl, by show ks.length ≤ cap; omega, h2, xs, hl, hr, h⟩

/-- A row of trees. -/
def RowT (E : TE α) (A : Nat → Prop) (w : World) (v : Value) (ts : List (Tr α)) : Prop :=
  ∃ xs, xs.length = ts.length ∧ RowE E.enc w v xs ∧ (ts ≠ [] → ∀ ad n c, v = .slice (some ad) n c → A ad.block) ∧ ∀ (i : Nat) (t : Tr α) (x : EV α), ts[i]? = some t → xs[i]? = some x → TreeP E A w t x
theorem RowT.nil : RowT E A w (.slice none 0 0) [] := ⟨[], rfl, .inl ⟨rfl, rfl⟩, fun h => absurd rfl h, fun i t x h => by simp at h⟩
theorem RowT.shape {v : Value} {ts : List (Tr α)} (h : RowT E A w v ts) : ∃ (p : Option Addr) (cap : Nat), v = .slice p ts.length cap ∧ ts.length ≤ cap ∧ cap ≤ maxLen := by
  obtain ⟨xs, hl, hr, _, _⟩ := h
  obtain ⟨p, c, e, h1, h2⟩ := RowE.shape _ hr
  exact ⟨p, c, by rw [← hl]; exact e, by omega, h2⟩
theorem RowT.below {B : Nat} {v : Value} {ts : List (Tr α)} (h : RowT E A w v ts) (hb : Below B w w') (hB : w.heap.size ≤ B) : RowT E A w' v ts := by
  obtain ⟨xs, hl, hr, ha, ht⟩ := h
  exact ⟨xs, hl, RowE.below _ hr hb hB, ha, fun i t x h1 h2 => (ht i t x h1 h2).move hb hB⟩
theorem RowT.weaken (hA : ∀ b, A b → A' b) {v : Value} {ts : List (Tr α)} (h : RowT E A w v ts) : RowT E A' w v ts := by
  obtain ⟨xs, hl, hr, ha, ht⟩ := h
  exact ⟨xs, hl, hr, fun hn ad n c e => hA _ (ha hn ad n c e), fun i t x h1 h2 => (ht i t x h1 h2).weaken hA⟩
theorem RowT.keep (hk : ∀ (a : Addr) (v : Value), A a.block → w.cell? a = some v → w'.cell? a = some v) (hA0 : ∀ b, A b → A' b) {v : Value} {ts : List (Tr α)} (h : RowT E A w v ts) : RowT E A' w' v ts := by
  obtain ⟨xs, hl, hr, ha, ht⟩ := h
  refine ⟨xs, hl, ?_, fun hn ad n c e => hA0 _ (ha hn ad n c e), fun i t x h1 h2 => (ht i t x h1 h2).keep hk (fun a _ h _ => hA0 _ h) hA0⟩
  obtain ⟨p, c, e, _, _⟩ := RowE.shape _ hr
  subst e
  by_cases hn : ts = []
  · subst hn
    obtain rfl : xs = [] := List.eq_nil_of_length_eq_zero hl
    obtain ⟨_, _, h2, h3⟩ := RowE.sane hr
    exact RowE.empty h2 h3
  · cases p with
    | none =>
      rcases hr with hr | ⟨_, _, e, _⟩
      · exact .inl hr
      · cases e
    | some ad => exact RowE.keep hr fun a v hb => hk a v (by rw [hb]; exact ha hn ad _ _ rfl)
/-- A row of trees as the kids of a node. -/
theorem RowT.node (a : α) {s : Sl} {ts : List (Tr α)} (h : RowT E A w (slV s) ts) : TreeP E A w (.mk a ts) (a, s) := by
  obtain ⟨xs, hl, hr, ha, ht⟩ := h
  obtain ⟨p, n, c⟩ := s
  obtain ⟨e0, e1, e2, e3⟩ := RowE.sane hr
  by_cases hn : ts = []
  · subst hn
    obtain rfl : xs = [] := List.eq_nil_of_length_eq_zero hl
    simp only [List.length_nil] at e0
    subst e0
    exact .leaf a p c e2 e3
  · cases p with
    | none =>
      rcases hr with ⟨_, rfl⟩ | ⟨_, _, e, _⟩
      · exact absurd (List.eq_nil_of_length_eq_zero hl.symm) hn
      · cases e
    | some ad =>
      subst e0
      simp only [hl] at hr ⊢
      exact .node a ts xs ad c hn hl (ha hn ad _ _ rfl) hr ht
/-- One tree in a block of its own. -/
theorem RowT.one {t : Tr α} {s : Sl} {g : Nat} {cs : Array Value} {T : TypeId} (hg : w.heap[g]? = some (.cells cs T (0, 0))) (hcs : cs.toList = E.pre t.val ++ [slV s]) (hA : A g) (h : RowT E A w (slV s) t.kids) : RowT E A w (.slice (some ⟨g, 0, none⟩) 1 1) [t] := by
  refine ⟨[(t.val, s)], rfl, RowE.lit E.enc hg _ hcs, fun _ ad n c e => by injection e with e _ _; injection e with e; subst e; exact hA, fun i t' x h1 h2 => ?_⟩
  obtain ⟨rfl, rfl⟩ : i = 0 ∧ t = t' := by
    cases i with
    | zero => simp at h1; exact ⟨rfl, h1⟩
    | succ i => simp at h1
  simp at h2
  subst h2
  cases t with
  | mk a ks => exact RowT.node a h
theorem TreeP.row {t : Tr α} {x : EV α} (h : TreeP E A w t x) : RowT E A w (slV x.2) t.kids := by
  cases h with
  | leaf a p c hc hp => exact ⟨[], rfl, RowE.empty hc hp, fun h => absurd rfl h, fun i t x h => by simp at h⟩
  | node a ks xs ad cap hn hl hA hr h => exact ⟨xs, hl, hr, fun _ ad' n c e => by injection e with e; injection e with e; subst e; exact hA, h⟩
theorem RowT.at {p : Option Addr} {n c : Nat} {ts : List (Tr α)} (h : RowT E A w (.slice p n c) ts) {i : Nat} {t : Tr α} (ht : ts[i]? = some t) : ∃ ad x, p = some ad ∧ (∀ r u, (E.enc.cells x)[r]? = some u → w.cell? (ad.add (i * (E.n + 1) + r)) = some u) ∧ TreeP E A w t x := by
  obtain ⟨xs, hl, hr, _, h⟩ := h
  have hi := (List.getElem?_eq_some_iff.1 ht).1
  have hx := List.getElem?_eq_getElem (show i < xs.length by omega)
  rcases hr with ⟨_, rfl⟩ | ⟨ad, cap, hv, h1, h2, hc⟩
  · simp at hl; omega
  · injection hv with e1 e2 e3
    subst e1
    refine ⟨ad, xs[i], rfl, fun r u hr => hc _ _ ?_, h i t _ ht hx⟩
    have hr' : r < E.enc.k := by have := (List.getElem?_eq_some_iff.1 hr).1; rwa [E.enc.len] at this
    rw [show i * (E.n + 1) + r = i * E.enc.k + r from rfl, flat_get _ hx r hr']
    exact hr
theorem RowT.take {p : Option Addr} {n c : Nat} {ts : List (Tr α)} (h : RowT E A w (.slice p n c) ts) {m : Nat} (hm : m ≤ ts.length) : RowT E A w (.slice p m c) (ts.take m) := by
  obtain ⟨xs, hl, hr, ha, ht⟩ := h
  refine ⟨xs.take m, by simp; omega, RowE.take _ hr (by omega), fun hn ad n' c' e => ?_, fun i t x h1 h2 => ?_⟩
  · injection e with e _ _
    subst e
    exact ha (fun h => hn (by rw [h]; simp)) ad n c rfl
  · rw [List.getElem?_take] at h1 h2
    split at h1
    · rename_i hlt
      rw [if_pos hlt] at h2
      exact ht i t x h1 h2
    · cases h1

/-- The call's own row of trees; what is below lies outside of it. -/
def OwnT (E : TE α) (T : TypeId) (A : Nat → Prop) (w : World) (base : Nat) (v : Value) (ts : List (Tr α)) : Prop :=
  ∃ xs, xs.length = ts.length ∧ OwnE E.enc T w base v xs ∧ ∀ (i : Nat) (t : Tr α) (x : EV α), ts[i]? = some t → xs[i]? = some x → TreeP E (fun b => A b ∧ v.ownBlock ≠ some b) w t x
theorem OwnT.nil (T : TypeId) (base : Nat) : OwnT E T A w base (.slice none 0 0) [] := ⟨[], rfl, OwnE.nil _ _ _ _, fun i t x h => by simp at h⟩
theorem OwnT.start {T : TypeId} {base : Nat} (hb : base ≤ w.heap.size) : OwnT E T A (w.alloc (.cells #[] T)) base (.slice (some ⟨w.heap.size, 0, none⟩) 0 0) [] := ⟨[], rfl, OwnE.start _ hb, fun i t x h => by simp at h⟩
theorem OwnT.below {T : TypeId} {base B : Nat} {v : Value} {ts : List (Tr α)} (h : OwnT E T A w base v ts) (hb : Below B w w') (hB : w.heap.size ≤ B) : OwnT E T A w' base v ts := by
  obtain ⟨xs, hl, ho, ht⟩ := h
  exact ⟨xs, hl, OwnE.below _ ho hb hB, fun i t x h1 h2 => (ht i t x h1 h2).move hb hB⟩
theorem OwnT.shape {T : TypeId} {base : Nat} {v : Value} {ts : List (Tr α)} (h : OwnT E T A w base v ts) : ∃ (p : Option Addr) (cap : Nat), v = .slice p ts.length cap ∧ ts.length ≤ cap ∧ cap ≤ maxLen := by
  obtain ⟨xs, hl, ho, _⟩ := h
  obtain ⟨p, c, e, h1, h2⟩ := RowE.shape _ (OwnE.row _ ho)
  exact ⟨p, c, by rw [← hl]; exact e, by omega, h2⟩
theorem OwnT.row {T : TypeId} {base : Nat} {v : Value} {ts : List (Tr α)} (h : OwnT E T A w base v ts) (hA : ∀ b, base ≤ b → A b) : RowT E A w v ts := by
  obtain ⟨xs, hl, ho, ht⟩ := h
  refine ⟨xs, hl, OwnE.row _ ho, fun _ ad n c e => ?_, fun i t x h1 h2 => (ht i t x h1 h2).weaken fun b h => h.1⟩
  subst e
  rcases ho.2 with ⟨e, _⟩ | ⟨g, cap, cur, hv, hg, _⟩
  · cases e
  · injection hv with e _ _
    injection e with e
    subst e
    exact hA _ hg

theorem OwnT.lt {T : TypeId} {base : Nat} {v : Value} {ts : List (Tr α)} (h : OwnT E T A w base v ts) : ∀ g, v.ownBlock = some g → base ≤ g ∧ g < w.heap.size := by
  obtain ⟨xs, _, ho, _⟩ := h
  exact fun g hg => World.ownsRow.lt ho g hg
/-- What a call has made, behind the call's own row. -/
theorem OwnT.fresh {T : TypeId} {base B : Nat} {v : Value} {ts : List (Tr α)} {w1 : World} {t : Tr α} {s : Sl} (h : OwnT E T A w base v ts) (hB : w.heap.size ≤ B) (hA : ∀ b, B ≤ b → A b) (hr : RowT E (fun b => B ≤ b) w1 (slV s) t.kids) : TreeP E (fun b => A b ∧ v.ownBlock ≠ some b) w1 t (t.val, s) := by
  cases t with
  | mk a ks => exact (RowT.node a hr).weaken fun b hb => ⟨hA b hb, fun e => by have := (h.lt b e).2; omega⟩

end
end Go.Proofs.Ytefmlbckbhlgdaa
