/- Vote: the first vote that is to go. -/
import Derived.Test.YthipnbiilobjeaaVo11
import Derived.Test.YthipnbiilobjeaaVo13
import Derived.Shelf.Abstract
namespace Go.Proofs.Ythipnbiilobjeaa
open Go.RowKit Go.Shelf

/-- What a function value says of a vote, in every world in which what lay below 'B' lies as it was. -/
def PredB (g : Nat) (caps : Array Value) (p : Bal → Bool) (B : Nat) (w : World) : Prop :=
  ∀ (W : World) (x : Bal), Below B w W → Calls Try.prog g (#[balV x] ++ caps) W fun e w' => e = .returned (.bool (p x)) ∧ Below W.heap.size W w'
theorem PredB.below {g : Nat} {caps : Array Value} {p : Bal → Bool} {B : Nat} {w w' : World} (h : PredB g caps p B w) (hb : Below B w w') : PredB g caps p B w' := fun W x hW => h W x (hb.trans hW)

def FirstP (p : Bal → Bool) (l : List Bal) (n : Int) : Prop := (n = -1 ∧ ∀ x ∈ l, p x = false) ∨ ∃ i : Nat, n = i ∧ ∃ x, l[i]? = some x ∧ p x = true ∧ ∀ y ∈ l.take i, p y = false

set_option maxRecDepth 100000 in
set_option maxHeartbeats 2000000 in
theorem indexFunc_any (g : Nat) (caps : Array Value) (p : Bal → Bool) (eg : ∀ args w, (callFunc g args).run Try.prog w = .ok (.enter g args) w) (v : Value) (l : List Bal) (w : World) (B : Nat) (hB : B ≤ w.heap.size) (h : RowE encB w v l) (hl : l.length ≤ 1000000) (hp : PredB g caps p B w) :
    Calls Try.prog 176 #[v, .func (.func g) #[] caps] w fun e w' => (∃ n : Int, e = .returned (.int .i64 n) ∧ FirstP p l n) ∧ Below w.heap.size w w' := by
  obtain ⟨pp, cap, rfl, h1, h2⟩ := h.shape
  have HL := Lib.hid h
  have HP := Lib.hid hp
  clear h hp
  go_enter Try.func176, Try.ntmps176
  go_wp2
  go_loopw [8] (fun c wr => ∃ k : Nat, k ≤ l.length ∧ c = .int .i64 k ∧ Hid (∀ y ∈ l.take k, p y = false) ∧ Hid (Below w.heap.size w wr)) (fun c _ => l.length - (intOf c).toNat)
  case atStart => exact ⟨0, Nat.zero_le _, rfl, Lib.hid (by simp), Lib.hid (Below.refl _ _)⟩
  case round =>
    obtain ⟨k, hk, rfl, hno, hb⟩ := hrel
    by_cases hlt : k < l.length
    · have hg := List.getElem?_eq_getElem hlt
      obtain ⟨_, _, _, HA⟩ := (RowE.below encB HL.out hb.out (Nat.le_refl _)).atB
      obtain ⟨ad, rfl, c0, c1, c2⟩ := HA k l[k] hg
      have HC := HP.out wr l[k] (hb.out.mono hB)
      clear HA
      generalize l[k] = x at *
      cases e1 : p x
      · rw [e1] at HC
        have HC := Lib.hid HC
        obtain ⟨x1, x2, x3⟩ := x
        have hnx : Hid (∀ y ∈ l.take (k + 1), p y = false) := Lib.hid (fun y hy => by
          rw [List.take_add_one, hg] at hy
          rcases List.mem_append.1 hy with hy | hy
          · exact hno.out y hy
          · simp at hy
            subst hy
            exact e1)
        go_wp2_with (go_at_fn g; refine HC.out.mono ?_; rintro e w' ⟨rfl, hb'⟩)
        exact ⟨⟨k + 1, by omega, by simp, hnx, Lib.hid (hb.out.trans (hb'.mono hb.out.size))⟩, by simp [intOf]; omega⟩
      · rw [e1] at HC
        have HC := Lib.hid HC
        obtain ⟨x1, x2, x3⟩ := x
        have hf : Hid (FirstP p l (k : Int)) := Lib.hid (.inr ⟨k, rfl, _, hg, e1, hno.out⟩)
        go_wp2_with (go_at_fn g; refine HC.out.mono ?_; rintro e w' ⟨rfl, hb'⟩)
        go_ret
        exact ⟨⟨_, rfl, hf.out⟩, hb.out.trans (hb'.mono hb.out.size)⟩
    · obtain rfl : k = l.length := by omega
      have hf : Hid (FirstP p l (-1)) := Lib.hid (.inl ⟨rfl, fun x hx => hno.out x (by rw [List.take_length]; exact hx)⟩)
      have HB := Lib.hid hb.out
      clear hb
      go_wp2_with fail
      go_ret
      exact ⟨⟨_, rfl, hf.out⟩, HB.out⟩

/-- What a row holds while votes are put forward: 'i' that stay, then what is not yet gone through. -/
def Sifted (p : Bal → Bool) (l : List Bal) (C : List Value) (i j : Nat) : Prop :=
  i ≤ j ∧ j ≤ l.length ∧ C.take (i * 3) = flat encB ((l.take j).filter fun x => !p x) ∧ ((l.take j).filter fun x => !p x).length = i ∧ ∀ q, j * 3 ≤ q → q < l.length * 3 → C[q]? = (flat encB l)[q]?

theorem put3 (C : Array Value) (o : Nat) (a b c : Value) (h : o + 3 ≤ C.size) :
    (((C.setIfInBounds o a).setIfInBounds (o + 1) b).setIfInBounds (o + 2) c).toList.take (o + 3) = C.toList.take o ++ [a, b, c] ∧
    (∀ q, o + 3 ≤ q → (((C.setIfInBounds o a).setIfInBounds (o + 1) b).setIfInBounds (o + 2) c).toList[q]? = C.toList[q]?) ∧ (((C.setIfInBounds o a).setIfInBounds (o + 1) b).setIfInBounds (o + 2) c).size = C.size := by
  refine ⟨?_, ?_, by simp⟩
  · apply List.ext_getElem?
    intro q
    rw [List.getElem?_take, Array.getElem?_toList]
    have hl : (C.toList.take o).length = o := by rw [List.length_take, Array.length_toList]; omega
    by_cases h1 : q < o
    · rw [if_pos (by omega), Array.getElem?_setIfInBounds_ne (by omega), Array.getElem?_setIfInBounds_ne (by omega), Array.getElem?_setIfInBounds_ne (by omega), List.getElem?_append_left (by omega), List.getElem?_take, if_pos h1, Array.getElem?_toList]
    · rw [List.getElem?_append_right (by omega), hl]
      by_cases h2 : q = o
      · subst h2
        rw [if_pos (by omega), Array.getElem?_setIfInBounds_ne (by omega), Array.getElem?_setIfInBounds_ne (by omega), Array.getElem?_setIfInBounds_self_of_lt (by omega), Nat.sub_self]
        rfl
      · by_cases h3 : q = o + 1
        · subst h3
          rw [if_pos (by omega), Array.getElem?_setIfInBounds_ne (by omega), Array.getElem?_setIfInBounds_self_of_lt (by simp; omega), show o + 1 - o = 1 by omega]
          rfl
        · by_cases h4 : q = o + 2
          · subst h4
            rw [if_pos (by omega), Array.getElem?_setIfInBounds_self_of_lt (by simp; omega), show o + 2 - o = 2 by omega]
            rfl
          · rw [if_neg (by omega)]
            simp
            omega
  · intro q hq
    rw [Array.getElem?_toList, Array.getElem?_setIfInBounds_ne (by omega), Array.getElem?_setIfInBounds_ne (by omega), Array.getElem?_setIfInBounds_ne (by omega), Array.getElem?_toList]

theorem Sifted.keep {p : Bal → Bool} {l : List Bal} {C C' : List Value} {i j : Nat} {x : Bal} (h : Sifted p l C i j) (hx : l[j]? = some x) (hp : p x = false) (h1 : C'.take (i * 3 + 3) = C.take (i * 3) ++ encB.cells x) (h2 : ∀ q, i * 3 + 3 ≤ q → C'[q]? = C[q]?) : Sifted p l C' (i + 1) (j + 1) := by
  have hj := (List.getElem?_eq_some_iff.1 hx).1
  have hf : (l.take (j + 1)).filter (fun x => !p x) = (l.take j).filter (fun x => !p x) ++ [x] := by
    rw [List.take_add_one, hx]
    simp [List.filter_append, hp]
  refine ⟨by have := h.1; omega, by omega, ?_, by rw [hf, List.length_append, h.2.2.2.1]; rfl, fun q hq hq2 => ?_⟩
  · rw [hf, flat_append, ← h.2.2.1, show (i + 1) * 3 = i * 3 + 3 by omega, h1]
    simp [flat]
  · rw [h2 q (by have := h.1; omega)]
    exact h.2.2.2.2 q (by omega) hq2
theorem Sifted.skip {p : Bal → Bool} {l : List Bal} {C : List Value} {i j : Nat} {x : Bal} (h : Sifted p l C i j) (hx : l[j]? = some x) (hp : p x = true) : Sifted p l C i (j + 1) := by
  have hj := (List.getElem?_eq_some_iff.1 hx).1
  have hf : (l.take (j + 1)).filter (fun x => !p x) = (l.take j).filter (fun x => !p x) := by
    rw [List.take_add_one, hx]
    simp [List.filter_append, hp]
  exact ⟨by have := h.1; omega, by omega, by rw [hf]; exact h.2.2.1, by rw [hf]; exact h.2.2.2.1, fun q hq hq2 => h.2.2.2.2 q (by omega) hq2⟩
theorem Sifted.start {p : Bal → Bool} {l : List Bal} {C : List Value} {i : Nat} {x : Bal} (hC : C.take (l.length * 3) = flat encB l) (hx : l[i]? = some x) (hp : p x = true) (hpre : ∀ y ∈ l.take i, p y = false) : Sifted p l C i (i + 1) := by
  have hi := (List.getElem?_eq_some_iff.1 hx).1
  have hf : (l.take (i + 1)).filter (fun x => !p x) = l.take i := by
    rw [List.take_add_one, hx]
    simp only [Option.toList_some, List.filter_append, List.filter_cons, hp, Bool.not_true, Bool.false_eq_true, if_false, List.filter_nil, List.append_nil]
    exact List.filter_eq_self.2 (fun y hy => by rw [hpre y hy]; rfl)
  refine ⟨by omega, by omega, ?_, by rw [hf, List.length_take]; omega, fun q _ hq => ?_⟩
  · have e : flat encB (l.take i) = (flat encB l).take (i * 3) := (flat_take encB l i).symm
    rw [hf, e, ← hC, List.take_take, Nat.min_eq_left (by omega)]
  · rw [← hC, List.getElem?_take, if_pos hq]

theorem zeros_one (z : Array Value) (n : Nat) (h : ∀ u ∈ z.toList, u.oneCell' = true) : ∀ u ∈ (Builtin.zeroCells z n).toList, u.oneCell' = true := by
  intro u hu
  simp only [Builtin.zeroCells, Array.toList_map, List.mem_map, Array.toList_range, List.mem_range] at hu
  obtain ⟨i, hi, rfl⟩ := hu
  have hz : 0 < z.size := by
    rcases Nat.eq_zero_or_pos z.size with h0 | h0
    · rw [h0, Nat.mul_zero] at hi; omega
    · exact h0
  have hlt := Nat.mod_lt i hz
  rw [getElem!_pos z _ hlt]
  exact h _ (Array.getElem_mem_toList hlt)

set_option maxRecDepth 100000 in
set_option maxHeartbeats 4000000 in
theorem deleteFunc_any (g : Nat) (caps : Array Value) (p : Bal → Bool) (eg : ∀ args w, (callFunc g args).run Try.prog w = .ok (.enter g args) w) (v : Value) (l : List Bal) (w : World) (B : Nat) (hB : B ≤ w.heap.size) (hown : OwnE encB 92 w B v l) (hl : l.length ≤ 1000000) (hp : PredB g caps p B w) :
    Calls Try.prog 151 #[v, .func (.func g) #[] caps] w fun e w' => ∃ v', e = .returned v' ∧ OwnE encB 92 w' B v' (l.filter fun x => !p x) ∧ Below B w w' := by
  rcases hown.2 with ⟨rfl, hn0⟩ | ⟨gr, cap, cur, rfl, hg, hc, hn, hcap, hsz, htk⟩
  · obtain rfl : l = [] := List.eq_nil_of_length_eq_zero hn0
    have HI := Lib.hid (indexFunc_any g caps p eg _ [] w B hB (OwnE.row encB hown) hl hp)
    go_enter Try.func151, Try.ntmps151
    go_wp2_with (go_at_call 176; refine HI.out.mono ?_; rintro e w1 ⟨⟨n, rfl, hf⟩, hb1⟩; rcases hf with ⟨rfl, hnone⟩ | ⟨i, rfl, x, hx, hpx, hpre⟩; rotate_left; (exact absurd hx (by simp)))
    go_ret
    exact ⟨_, rfl, OwnE.below encB hown hb1 (Nat.le_refl _), hb1.mono hB⟩
  · have HI := Lib.hid (indexFunc_any g caps p eg _ l w B hB (OwnE.row encB hown) hl hp)
    have HP := Lib.hid hp
    have HO := Lib.hid hown
    have hsz3 : cur.size = cap * 3 := hsz
    have htk3 : Hid (cur.toList.take (l.length * 3) = flat encB l) := Lib.hid htk
    have hcl : gr < w.heap.size := (Array.getElem?_eq_some_iff.mp hc).1
    have hcap2 : cap ≤ 9223372036854775807 := by unfold maxLen at hcap; omega
    clear hp hown htk hsz
    go_enter Try.func151, Try.ntmps151
    go_wp2_with (go_at_call 176; refine HI.out.mono ?_; rintro e w1 ⟨⟨n, rfl, hf⟩, hb1⟩; rcases hf with ⟨rfl, hnone⟩ | ⟨i, rfl, x, hx, hpx, hpre⟩; rotate_left; have hil := (List.getElem?_eq_some_iff.1 hx).1; have hwi : IntKind.i64.wrap ((i : Int) + 1) = (i : Int) + 1 := (by rw [IntKind.wrap_i64]; omega); rotate_left)
    · go_ret
      exact ⟨_, rfl, by rw [List.filter_eq_self.2 (fun x hx => by rw [hnone x hx]; rfl)]; exact OwnE.below encB HO.out hb1 (Nat.le_refl _), hb1.mono hB⟩
    · have hst : Hid (Sifted p l cur.toList i (i + 1)) := Lib.hid (Sifted.start htk3.out hx hpx hpre)
      have hc1 : Hid (w1.heap[gr]? = some (.cells cur 92 (0, 0))) := Lib.hid (by rw [hb1.block gr hcl]; exact hc)
      have hb1' : Hid (Below B w w1) := Lib.hid (hb1.mono hB)
      clear hb1 hx hpx hpre hc
      go_loopw [5, 6] (fun a b wr => ∃ (i j : Nat) (C : Array Value), a = .int .i64 i ∧ b = .int .i64 j ∧ i < j ∧ j ≤ l.length ∧ C.size = cap * 3 ∧ Hid (Sifted p l C.toList i j) ∧ Hid (wr.heap[gr]? = some (.cells C 92 (0, 0))) ∧ Hid (Below B w wr)) (fun _ b _ => l.length - (intOf b).toNat)
      case atStart => exact ⟨i, i + 1, cur, rfl, by simp, by omega, by omega, hsz3, hst, hc1, hb1'⟩
      case round =>
        obtain ⟨i, j, C, rfl, rfl, hij, hjl, hCs, hsf, hcr, hb⟩ := hrel
        clear hst hc1 hb1'
        by_cases hlt : j < l.length
        · have hgj := List.getElem?_eq_getElem hlt
          generalize l[j] = x at *
          obtain ⟨x1, x2, x3⟩ := x
          have hcell : ∀ q u, (encB.cells (x1, x2, x3))[q]? = some u → wr.cell? ⟨gr, j * 3 + q, none⟩ = some u := fun q u hq => by
            have hq3 : q < 3 := (List.getElem?_eq_some_iff.1 hq).1
            have h1 := hsf.out.2.2.2.2 (j * 3 + q) (by omega) (by omega)
            have h2 := flat_get encB hgj q hq3
            rw [cell_of_row wr gr (j * 3 + q) C _ _ hcr.out, ← Array.getElem?_toList, h1]
            exact h2.trans hq
          have c0 : wr.cell? ⟨gr, j * 3, none⟩ = some (.string x1) := hcell 0 (.string x1) rfl
          have c1 := hcell 1 (.string x2) rfl
          have c2 := hcell 2 (.bool x3) rfl
          clear hcell
          have HC := HP.out (wr.alloc (.cells #[.string x1, .string x2, .bool x3] 92)) (x1, x2, x3) (hb.out.alloc (by have := hb.out.size; omega) _)
          cases e1 : p (x1, x2, x3)
          · rw [e1] at HC
            have HC := Lib.hid HC
            have hrj : Hid (∃ u0 u1 u2, C[i * 3]? = some u0 ∧ C[i * 3 + 1]? = some u1 ∧ C[i * 3 + 2]? = some u2) := Lib.hid ⟨_, _, _, Array.getElem?_eq_getElem (by omega), Array.getElem?_eq_getElem (by omega), Array.getElem?_eq_getElem (by omega)⟩
            have hgw : gr < wr.heap.size := (Array.getElem?_eq_some_iff.mp hcr.out).1
            obtain ⟨v0, v1, v2, hv0, hv1, hv2⟩ := hrj.out
            go_wp2_with (go_at_fn g; refine HC.out.mono ?_; rintro e w' ⟨rfl, hb'⟩; have hcw : Hid (w'.heap[gr]? = some (.cells C 92 (0, 0))) := Lib.hid (by rw [hb'.block gr (by simp; omega), Below.heap_alloc _ _ _ hgw]; exact hcr.out); obtain ⟨y0, y1, y2, z0, z1, z2⟩ := ((RowAt.new wr #[.string x1, .string x2, .bool x3] 92).belowS hb').c3; have d0 := (cell_of_row w' gr (i * 3) C _ _ hcw.out).trans hv0; have d1 := (cell_of_row w' gr (i * 3 + 1) C _ _ hcw.out).trans hv1; have d2 := (cell_of_row w' gr (i * 3 + 2) C _ _ hcw.out).trans hv2; have f0 := frozen_of_row w' gr (i * 3) C _ hcw.out; have f1 := frozen_of_row w' gr (i * 3 + 1) C _ hcw.out; have f2 := frozen_of_row w' gr (i * 3 + 2) C _ hcw.out)
            refine ⟨?_, by simp [intOf]; omega⟩
            · refine ⟨_, _, _, _, _, _, _, _, _, _, _, _, _, _, _, _, _, _, _, _, _, _, _, ?_, rfl⟩
              obtain ⟨p1, p2, p3⟩ := put3 C (i * 3) (.string x1) (.string x2) (.bool x3) (by omega)
              refine ⟨i + 1, j + 1, _, by simp, by simp, by omega, by omega, p3.trans hCs, Lib.hid (hsf.out.keep hgj e1 p1 p2), Lib.hid ?_, Lib.hid ?_⟩
              · exact ((RowAt.set (show RowAt w' gr C 92 from hcw.out) (i * 3) (.string x1) rfl).set (i * 3 + 1) (.string x2) rfl).set (i * 3 + 2) (.bool x3) rfl
              · exact ((((hb.out.alloc (by have := hb.out.size; omega) _).trans (hb'.mono (by have := hb.out.size; simp; omega))).setCell hg _).setCell hg _).setCell hg _
          · rw [e1] at HC
            have HC := Lib.hid HC
            go_wp2_with (go_at_fn g; refine HC.out.mono ?_; rintro e w' ⟨rfl, hb'⟩)
            refine ⟨?_, by simp [intOf]; omega⟩
            · refine ⟨_, _, _, _, _, _, _, _, _, _, _, _, _, _, _, _, _, _, _, _, _, _, _, ?_, rfl⟩
              have hgw : gr < wr.heap.size := (Array.getElem?_eq_some_iff.mp hcr.out).1
              refine ⟨i, j + 1, C, rfl, by simp, by omega, by omega, hCs, Lib.hid (hsf.out.skip hgj e1), Lib.hid ?_, Lib.hid ?_⟩
              · rw [hb'.block gr (by simp; omega), Below.heap_alloc _ _ _ hgw]
                exact hcr.out
              · exact (hb.out.alloc (by have := hb.out.size; omega) _).trans (hb'.mono (by have := hb.out.size; simp; omega))
        · obtain rfl : j = l.length := by omega
          obtain ⟨i0, hi0, hz0, hz1, hz2⟩ := info_parts info_bal
          have hclr := run_clear_k wr 43 92 0 (.agg #[.string ⟨#[]⟩, .string ⟨#[]⟩, .bool false]) gr (i * 3) (l.length - i) (cap - i) C Try.underlying43 (fun w => by simp [zeroValue, typeInfo, hi0, hz0]) (zeros_one _ _ (fun u hu => by
            rw [show (Value.agg #[.string ⟨#[]⟩, .string ⟨#[]⟩, .bool false]).cells.toList = [.string ⟨#[]⟩, .string ⟨#[]⟩, .bool false] from by kernel_rfl] at hu
            simp at hu
            rcases hu with rfl | rfl <;> rfl)) (by omega) hcr.out (by
            rw [size_zeroCells, hCs]
            show i * 3 + (l.length - i) * 3 ≤ cap * 3
            omega)
          obtain ⟨_, _, g1, g2, _⟩ := hsf.out
          rw [List.take_length] at g1 g2
          have HC2 : Hid (∃ C2 : Array Value, C2 = (C.toList.take (i * 3) ++ (Builtin.zeroCells (Value.agg #[.string ⟨#[]⟩, .string ⟨#[]⟩, .bool false]).cells (l.length - i)).toList ++ C.toList.drop (i * 3 + (Builtin.zeroCells (Value.agg #[.string ⟨#[]⟩, .string ⟨#[]⟩, .bool false]).cells (l.length - i)).size)).toArray ∧ C2.size = cap * 3 ∧ C2.toList.take (i * 3) = flat encB (l.filter fun x => !p x)) := Lib.hid (by
            have hl1 : C.toList.length = cap * 3 := by rw [Array.length_toList, hCs]
            refine ⟨_, rfl, ?_, ?_⟩
            · simp only [List.size_toArray, List.length_append, List.length_take, List.length_drop, hl1, Array.length_toList, size_zeroCells]
              show min (i * 3) (cap * 3) + (l.length - i) * 3 + (cap * 3 - (i * 3 + (l.length - i) * 3)) = cap * 3
              omega
            · show (C.toList.take (i * 3) ++ (Builtin.zeroCells (Value.agg #[.string ⟨#[]⟩, .string ⟨#[]⟩, .bool false]).cells (l.length - i)).toList ++ C.toList.drop (i * 3 + (Builtin.zeroCells (Value.agg #[.string ⟨#[]⟩, .string ⟨#[]⟩, .bool false]).cells (l.length - i)).size)).take (i * 3) = _
              have e1 : (C.toList.take (i * 3)).length = i * 3 := by rw [List.length_take, hl1]; omega
              rw [List.append_assoc, List.take_append_of_le_length (by omega), List.take_take, Nat.min_self, g1])
          obtain ⟨C2, hC2, hC2s, hC2t⟩ := HC2.out
          clear HC2
          rw [← hC2] at hclr
          have hfin : Below B w (wr.setRow gr C2) := hb.out.trans (below_setRow _ _ _ _ hg)
          have hrow : (wr.setRow gr C2).heap[gr]? = some (.cells C2 92 (0, 0)) := setRow_heap wr gr C C2 _ _ hcr.out
          have hci : ¬ cap = i := by omega
          have hic : i ≤ cap := by omega
          clear hC2
          go_wp2_with (simp only [hclr])
          go_ret
          exact ⟨_, rfl, ⟨by rw [flat_length], .inr ⟨gr, cap, C2, by rw [g2]; rfl, hg, hrow, by rw [g2]; omega, hcap, hC2s, by rw [g2]; exact hC2t⟩⟩, hfin⟩
end Go.Proofs.Ythipnbiilobjeaa
