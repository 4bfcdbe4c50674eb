/- Regions that draw their order, hold reads, calls that make memory, and ONE store (unguarded) into cells that nothing else of the region reads or writes: one walk, in the order of the text. -/
import Derived.Test.YtefmlbckbhlgdaaRa2
namespace Go.Proofs.Ytefmlbckbhlgdaa
open Go.RowKit
/-- A world later than 'W0' (the store has not come up yet) or than 'W1' (it has). -/
structure LB (W0 W1 : World) : Type where
  b : Bool
  w : World
  below : Below W0.heap.size (if b then W1 else W0) w

section
variable {P : Program} {ops : Array Oper} {md : Region.Mode} {W0 W1 : World} {s : Nat}
def LC (W0 W1 : World) (b : Bool) (w : World) : Prop := ∃ u : LB W0 W1, u.b = b ∧ w = u.w

/-- What is asked of the store. -/
def storeUpon (W1 : World) : Result Next → Prop
  | .ok .skip w' => ∃ u : Later W1, w' = u.w
  | _ => False

/-- What operation 'i' leaves in its temporary, in each world of the class. -/
def YieldsO (P : Program) (ops : Array Oper) (W0 W1 : World) (s i : Nat) (o : Oper) (v : Value) (a : Act) : Prop :=
  if i = s then Region.wanted o (yielded ops a.tmps) = true ∧ v = undef ∧ ∀ u : Later W0, storeUpon W1 ((execOp a.eval o).run P u.w)
  else (Region.wanted o (yielded ops a.tmps) = true ∧ ∀ u : LB W0 W1, o.quietAt P a (fun w' => LC W0 W1 u.b w') u.w v) ∨ (Region.wanted o (yielded ops a.tmps) = false ∧ v = undef)

/-- The walk in the order of the text ('k': the number of the first operation left). -/
def wpOnce (P : Program) (ops : Array Oper) (W0 W1 : World) (s : Nat) (Q : Act → Prop) : Nat → List Oper → Act → Prop
  | _, [], a => Q a
  | k, o :: rest, a => ∃ v, YieldsO P ops W0 W1 s k o v a ∧ wpOnce P ops W0 W1 s Q (k + 1) rest (a.put o.dst v)

def oOp (P : Program) (ops : Array Oper) (W0 W1 : World) (s i : Nat) (K : Act → Prop) (a : Act) : Prop :=
  match ops[i]? with
  | none => K a
  | some o => ∃ v, YieldsO P ops W0 W1 s i o v a ∧ K (a.put o.dst v)

theorem oOp_mono {i : Nat} {a : Act} {K K' : Act → Prop} (h : ∀ a, K a → K' a) (hh : oOp P ops W0 W1 s i K a) : oOp P ops W0 W1 s i K' a := by
  unfold oOp at *
  split at hh
  · exact h _ hh
  · obtain ⟨v, h1, h2⟩ := hh
    exact ⟨v, h1, h _ h2⟩

def wpAnyO (P : Program) (md : Region.Mode) (ops : Array Oper) (W0 W1 : World) (s : Nat) (Q : Act → Prop) : Nat → Array Bool → Act → Prop
  | 0, listed, a => Region.ready md ops listed = [] ∧ listed.getD s true = true ∧ Q a
  | fuel + 1, listed, a =>
    (Region.ready md ops listed = [] → listed.getD s true = true ∧ Q a) ∧
    ∀ i ∈ Region.ready md ops listed, oOp P ops W0 W1 s i (wpAnyO P md ops W0 W1 s Q fuel (listed.setIfInBounds i true)) a

theorem getD_set_same (l : Array Bool) (i : Nat) : (l.setIfInBounds i true).getD i true = true := by
  rcases Nat.lt_or_ge i l.size with h | h
  · simp [h]
  · simp

theorem LC.to0 {w : World} (h : LC W0 W1 false w) : ∃ u : Later W0, w = u.w := by
  obtain ⟨u, hu, rfl⟩ := h
  have := u.below
  rw [hu] at this
  exact ⟨Later.of this, rfl⟩
theorem LC.of0 {w : World} (h : Below W0.heap.size W0 w) : LC W0 W1 false w := ⟨⟨false, w, h⟩, rfl, rfl⟩
theorem LC.of1 (hs : W1.heap.size = W0.heap.size) {w : World} (h : Below W1.heap.size W1 w) : LC W0 W1 true w := ⟨⟨true, w, by rw [← hs]; exact h⟩, rfl, rfl⟩
theorem LC.to1 (hs : W1.heap.size = W0.heap.size) {w : World} (h : LC W0 W1 true w) : ∃ u : Later W1, w = u.w := by
  obtain ⟨u, hu, rfl⟩ := h
  have := u.below
  rw [hu] at this
  exact ⟨Later.of (by rw [hs]; exact this), rfl⟩

theorem wpOp_of_oOp (hs1 : W1.heap.size = W0.heap.size) {i : Nat} {listed : Array Bool} {a : Act} {K : Act → Prop} {K' : Act → World → Prop} {Q' : Exit → Act → World → Prop} {w : World} (hr : i ∈ Region.ready md ops listed)
    (hC : LC W0 W1 (listed.getD s true) w) (h : ∀ a w', LC W0 W1 ((listed.setIfInBounds i true).getD s true) w' → K a → K' a w') (hh : oOp P ops W0 W1 s i K a) : wpOp P ops Q' i K' a w := by
  obtain ⟨hun, o, ho, -⟩ := mem_ready.1 hr
  unfold oOp at hh
  unfold wpOp
  simp only [ho] at hh ⊢
  obtain ⟨v, hy, hK⟩ := hh
  unfold YieldsO at hy
  by_cases e : i = s
  · subst e
    rw [if_pos rfl] at hy
    obtain ⟨hw, rfl, hst⟩ := hy
    simp only [hw, if_true]
    rw [hun] at hC
    obtain ⟨u, rfl⟩ := hC.to0
    have h3 := hst u
    refine .inl ?_
    unfold Oper.wp
    generalize (execOp a.eval o).run P u.w = r at *
    cases r with
    | ok n w' =>
      cases n <;> simp only [storeUpon] at h3 <;> simp only [Oper.upon]
      case skip =>
        obtain ⟨u', rfl⟩ := h3
        exact h _ _ (by rw [getD_set_same]; exact LC.of1 hs1 u'.below) hK
    | halt x w' => simp only [storeUpon] at h3
  · rw [if_neg e] at hy
    have hbs : (listed.setIfInBounds i true).getD s true = listed.getD s true := getD_set_ne true e
    rcases hy with ⟨hw, hq⟩ | ⟨hw, rfl⟩
    · simp only [hw, if_true]
      refine .inl ?_
      obtain ⟨u, hu, rfl⟩ := hC
      refine Oper.wp_of_quiet (C := fun w' => LC W0 W1 u.b w') ⟨u, rfl, rfl⟩ (fun a w' hw' hk => h a w' (by rw [hbs, ← hu]; exact hw') hk) (o := o) (K := K) ⟨v, fun w2 hw2 => ?_, hK⟩
      obtain ⟨u2, hu2, rfl⟩ := hw2
      have := hq u2
      rw [hu2] at this
      exact this
    · simp only [hw, Bool.false_eq_true, if_false]
      exact h _ _ (by rw [hbs]; exact hC) hK

theorem wpAny_of_once (hs1 : W1.heap.size = W0.heap.size) {Q : Act → Prop} {Q' : Exit → Act → World → Prop} (hQ : ∀ a w, LC W0 W1 true w → Q a → Q' .normal a w) : ∀ (fuel : Nat) (listed : Array Bool) (a : Act) (w : World), LC W0 W1 (listed.getD s true) w →
    wpAnyO P md ops W0 W1 s Q fuel listed a → wpAny P md ops Q' fuel listed a w
  | 0, _, _, _, hw, h => ⟨h.1, hQ _ _ (by rw [h.2.1] at hw; exact hw) h.2.2⟩
  | fuel + 1, _, _, _, hw, h => ⟨fun h0 => hQ _ _ (by rw [(h.1 h0).1] at hw; exact hw) (h.1 h0).2, fun i hi => wpOp_of_oOp (md := md) hs1 hi hw (fun a' w' hw' => wpAny_of_once hs1 hQ fuel _ a' w' hw') (h.2 i hi)⟩

theorem YieldsO.of_same {i : Nat} {o : Oper} {v : Value} {a a' : Act} (hy : YieldsO P ops W0 W1 s i o v a) (he : execOp a'.eval o = execOp a.eval o)
    (hw : Region.wanted o (yielded ops a'.tmps) = Region.wanted o (yielded ops a.tmps)) : YieldsO P ops W0 W1 s i o v a' := by
  unfold YieldsO Oper.quietAt at *
  rw [he, hw]
  exact hy

theorem oOp_put {i j : Nat} {oi oj : Oper} {v : Value} (hj : ops[j]? = some oj) (hap : oi.apart ops oj = true)
    (hsi : ∀ cs b, oi.op ≠ .select cs b) (hsj : ∀ cs b, oj.op ≠ .select cs b) {K : Act → Prop} {a : Act}
    (hy : YieldsO P ops W0 W1 s i oi v a) (h : oOp P ops W0 W1 s j K (a.put oi.dst v)) :
    oOp P ops W0 W1 s j (fun a' => YieldsO P ops W0 W1 s i oi v a' ∧ K (a'.put oi.dst v)) a := by
  obtain ⟨h1, h2, h3⟩ := Oper.apart_spec hap
  unfold oOp at *
  simp only [hj] at *
  obtain ⟨u, hu, hn⟩ := h
  exact ⟨u, hu.of_same (execOp_put oj hsj a oi.dst v h1).symm (wanted_put oj a oi.dst v h1).symm, hy.of_same (execOp_put oi hsi a oj.dst u h3) (wanted_put oi a oj.dst u h3), by rw [← Act.put_comm a v u h2]; exact hn⟩

theorem YieldsO.oOp {i : Nat} {o : Oper} {v : Value} {a : Act} (hi : ops[i]? = some o) (hy : YieldsO P ops W0 W1 s i o v a) {K : Act → Prop} (h : K (a.put o.dst v)) : oOp P ops W0 W1 s i K a := by
  unfold Go.Proofs.Ytefmlbckbhlgdaa.oOp
  simp only [hi]
  exact ⟨v, hy, h⟩

theorem wpAnyO_first {Q : Act → Prop} {i : Nat} {oi : Oper} {v : Value} (hi : ops[i]? = some oi) (hsel : ∀ (j : Nat) (o : Oper) cs b, ops[j]? = some o → o.op ≠ .select cs b) :
    ∀ (fuel : Nat) (listed : Array Bool) (a : Act),
      (∀ j oj, ops[j]? = some oj → j ≠ i → listed.getD j true = false → (∀ e ∈ oj.after, Region.binds md e = true → e.on ≠ i) → oi.apart ops oj = true) →
      i ∈ Region.ready md ops listed → YieldsO P ops W0 W1 s i oi v a →
      wpAnyO P md ops W0 W1 s Q fuel (listed.setIfInBounds i true) (a.put oi.dst v) → wpAnyO P md ops W0 W1 s Q (fuel + 1) listed a := by
  intro fuel
  induction fuel with
  | zero =>
    intro listed a _ hr hy H
    refine ⟨fun h => (by rw [h] at hr; cases hr), fun j hj => ?_⟩
    by_cases hji : j = i
    · subst hji; exact hy.oOp hi H
    · have := ready_mono hj hji
      rw [H.1] at this
      cases this
  | succ fuel ih =>
    intro listed a hfree hr hy H
    refine ⟨fun h => (by rw [h] at hr; cases hr), fun j hj => ?_⟩
    by_cases hji : j = i
    · subst hji; exact hy.oOp hi H
    · have h1 := H.2 j (ready_mono hj hji)
      obtain ⟨hjun, oj, hoj, hall⟩ := mem_ready.1 hj
      have hnot : ∀ e ∈ oj.after, Region.binds md e = true → e.on ≠ i := fun e he hb heq => by
        have h1 := hall e he hb
        have h0 := (mem_ready.1 hr).1
        rw [heq] at h1
        rcases Nat.lt_or_ge i listed.size with h' | h'
        · simp [h'] at h0 h1; rw [h0] at h1; cases h1
        · simp [Array.getElem?_eq_none h'] at h1
      have h2 := oOp_put hoj (hfree j oj hoj hji hjun hnot) (fun cs b => hsel i oi cs b hi) (fun cs b => hsel j oj cs b hoj) hy h1
      have hfree' : ∀ k ok, ops[k]? = some ok → k ≠ i → (listed.setIfInBounds j true).getD k true = false →
          (∀ e ∈ ok.after, Region.binds md e = true → e.on ≠ i) → oi.apart ops ok = true := fun k ok hk hki hun hno => by
        refine hfree k ok hk hki ?_ hno
        by_cases hjk : j = k
        · subst hjk; exact hjun
        · rw [getD_set_ne true hjk] at hun; exact hun
      refine oOp_mono (fun a' h3 => ih (listed.setIfInBounds j true) a' hfree' (ready_mono hr (Ne.symm hji)) h3.1 ?_) h2
      rw [Array.setIfInBounds_comm _ _ hji]
      exact h3.2

theorem wpAnyO_lex {Q : Act → Prop} (hsel : Region.noSelect ops = true) (hsz : s < ops.size) : ∀ (l : List Oper) (k : Nat) (listed : Array Bool) (a : Act), (∀ j, l[j]? = ops[k + j]?) → (∀ j, j < k → listed.getD j true = true) →
    Region.lexFrom md ops l.length k listed = true → wpOnce P ops W0 W1 s Q k l a → wpAnyO P md ops W0 W1 s Q l.length listed a
  | [], k, listed, _, hl, hd, hB, h => ⟨by simpa [Region.lexFrom] using hB, hd s (by
      rcases Nat.lt_or_ge s k with h' | h'
      · exact h'
      · have := hl (s - k)
        rw [show k + (s - k) = s by omega, Array.getElem?_eq_getElem hsz] at this
        simp at this), h⟩
  | o :: l, k, listed, a, hl, hd, hB, h => by
    have h0 : ops[k]? = some o := by simpa using (hl 0).symm
    simp only [List.length_cons, Region.lexFrom, Bool.and_eq_true] at hB
    obtain ⟨⟨hr, hf⟩, hB'⟩ := hB
    obtain ⟨v, hy, hK⟩ := h
    exact wpAnyO_first h0 (Region.noSelect_spec hsel) l.length listed a (Region.free_spec h0 hf) (by simpa using hr) hy
      (wpAnyO_lex hsel hsz l (k + 1) _ _ (fun j => by have := hl (j + 1); simpa [Nat.add_assoc, Nat.add_comm 1 j] using this) (fun j hj => by
        by_cases e : k = j
        · subst e; exact getD_set_same _ _
        · rw [getD_set_ne true e]; exact hd j (by omega)) hB' hK)

/-- One walk, in the order of the text. -/
theorem region_once {id : Nat} {Q : Exit → Act → World → Prop} {a : Act} {w : World} {l : List Oper} (s : Nat) (W1 : World) (hm : P.follows .mixedOrders = true) (hB : (Region.lexB .any l.toArray && decide (s < l.toArray.size)) = true) (hs1 : W1.heap.size = w.heap.size)
    (h : wpOnce P l.toArray w W1 s (fun a' => ∀ u : Later W1, Q .normal a' u.w) 0 l a) : (Code.region id l.toArray true).wp P Q a w := by
  simp only [Region.lexB, Bool.and_eq_true, decide_eq_true_eq] at hB
  obtain ⟨⟨hsel, hlex⟩, hsz⟩ := hB
  refine wp_region_any hm (wpAny_of_once (Q := fun a' => ∀ u : Later W1, Q .normal a' u.w) (s := s) hs1 (fun a' w' hw' h => ?_) _ _ _ _ ?_ ?_)
  · obtain ⟨u, rfl⟩ := LC.to1 hs1 hw'
    exact h u
  · rw [show (Array.replicate l.toArray.size false).getD s true = false from getD_in (by simpa using hsz) (getD_replicate_false _ _)]
    exact LC.of0 (Below.refl w.heap.size w).drew
  · have := wpAnyO_lex (md := .any) (P := P) (W0 := w) (W1 := W1) (Q := fun a' => ∀ u : Later W1, Q .normal a' u.w) hsel hsz l 0 (Array.replicate l.toArray.size false) a (fun j => by simp) (fun j hj => absurd hj (Nat.not_lt_zero _)) (by simpa using hlex) h
    simpa using this

/-! ### The steps -/
theorem once_nil {Q : Act → Prop} {k : Nat} {a : Act} (h : Q a) : wpOnce P ops W0 W1 s Q k [] a := h
theorem once_step {Q : Act → Prop} {k : Nat} {a : Act} {o : Oper} {rest : List Oper} (hk : (k == s) = false)
    (h : ∀ K : Act → Prop, (∀ a, wpOnce P ops W0 W1 s Q (k + 1) rest a → K a) → if Region.wanted o (yielded ops a.tmps) then (∃ v, (∀ u : LB W0 W1, o.quietAt P a (fun w' => LC W0 W1 u.b w') u.w v) ∧ K (a.put o.dst v)) else K (a.put o.dst undef)) : wpOnce P ops W0 W1 s Q k (o :: rest) a := by
  have := h _ (fun _ h => h)
  have hk' : k ≠ s := by simpa using hk
  unfold wpOnce YieldsO
  simp only [if_neg hk']
  split at this
  · rename_i hw
    obtain ⟨v, h1, h2⟩ := this
    exact ⟨v, .inl ⟨hw, h1⟩, h2⟩
  · rename_i hw
    exact ⟨_, .inr ⟨by simpa using hw, rfl⟩, this⟩
theorem once_store {Q : Act → Prop} {k : Nat} {a : Act} {o : Oper} {rest : List Oper} (hk : (k == s) = true) (hg : o.guard = none)
    (h : ∀ u : Later W0, storeUpon W1 ((execOp a.eval o).run P u.w)) (h' : wpOnce P ops W0 W1 s Q (k + 1) rest (a.put o.dst undef)) : wpOnce P ops W0 W1 s Q k (o :: rest) a := by
  have hk' : k = s := by simpa using hk
  unfold wpOnce YieldsO
  simp only [if_pos hk']
  exact ⟨_, ⟨by unfold Region.wanted; rw [hg], rfl, h⟩, h'⟩

instance lbNonempty (W0 W1 : World) : Nonempty (LB W0 W1) := ⟨⟨false, W0, Below.refl _ _⟩⟩

theorem LB.size (hs1 : W1.heap.size = W0.heap.size) (u : LB W0 W1) : W0.heap.size ≤ u.w.heap.size := by
  have := u.below.size
  split at this <;> omega
theorem LB.call (hs1 : W1.heap.size = W0.heap.size) {f : FuncId} {args : Array Value} {v : Value} {u : LB W0 W1} (h : Calls P f args u.w fun e w' => e = .returned v ∧ Below u.w.heap.size u.w w') :
    Calls P f args u.w fun e w'' => e = .returned v ∧ LC W0 W1 u.b w'' :=
  h.mono fun _ _ ⟨he, hb⟩ => ⟨he, ⟨u.b, _, u.below.trans (hb.mono (u.size hs1))⟩, rfl, rfl⟩
theorem LB.callSame {f : FuncId} {args : Array Value} {v : Value} {u : LB W0 W1} (h : Calls P f args u.w fun e w' => e = .returned v ∧ u.w = w') :
    Calls P f args u.w fun e w'' => e = .returned v ∧ LC W0 W1 u.b w'' :=
  h.mono fun _ _ ⟨he, hb⟩ => ⟨he, u, rfl, hb.symm⟩
theorem RowAt.lb (_ : W1.heap.size = W0.heap.size) {k : Nat} {cs : Array Value} {T : TypeId} (h0 : RowAt W0 k cs T) (h1 : RowAt W1 k cs T) (u : LB W0 W1) : RowAt u.w k cs T := by
  have hb := u.below
  split at hb
  · exact h1.below hb h0.lt
  · exact h0.below hb h0.lt
theorem RowAt.lb2 (hs1 : W1.heap.size = W0.heap.size) {k : Nat} {v0 v1 : Value} {T : TypeId} (h0 : RowAt W0 k #[v0, v1] T) (h1 : RowAt W1 k #[v0, v1] T) : (∀ u : LB W0 W1, u.w.cell? ⟨k, 0, none⟩ = some v0) ∧ (∀ u : LB W0 W1, u.w.cell? ⟨k, 1, none⟩ = some v1) :=
  ⟨fun u => (RowAt.lb hs1 h0 h1 u).cell 0, fun u => (RowAt.lb hs1 h0 h1 u).cell 1⟩
theorem RowAt.lb3 (hs1 : W1.heap.size = W0.heap.size) {k : Nat} {v0 v1 v2 : Value} {T : TypeId} (h0 : RowAt W0 k #[v0, v1, v2] T) (h1 : RowAt W1 k #[v0, v1, v2] T) : (∀ u : LB W0 W1, u.w.cell? ⟨k, 0, none⟩ = some v0) ∧ (∀ u : LB W0 W1, u.w.cell? ⟨k, 1, none⟩ = some v1) ∧ (∀ u : LB W0 W1, u.w.cell? ⟨k, 2, none⟩ = some v2) :=
  ⟨fun u => (RowAt.lb hs1 h0 h1 u).cell 0, fun u => (RowAt.lb hs1 h0 h1 u).cell 1, fun u => (RowAt.lb hs1 h0 h1 u).cell 2⟩

/-- The same cells are written in a later world: it is later than the one in which they were. -/
theorem below_set {B : Nat} {W w : World} (h : Below B W w) (p : Addr) (v : Value) (_ : p.block < B) : Below B (W.setCell p v) (w.setCell p v) := by
  refine ⟨h.os, h.tape, h.output, ?_, fun k hk => ?_⟩
  · have := h.size
    simpa using this
  · have := h.block k hk
    unfold World.setCell
    simp only [Array.getElem?_modify]
    split
    · rename_i e
      rw [this]
    · exact this
theorem Later.set {W : World} (u : Later W) (p : Addr) (v : Value) (hp : p.block < W.heap.size) : ∃ u' : Later (W.setCell p v), u.w.setCell p v = u'.w :=
  ⟨Later.of (by rw [show (W.setCell p v).heap.size = W.heap.size by simp]; exact below_set u.below p v hp), rfl⟩
theorem Later.set3 {W : World} {k : Nat} (hk : k < W.heap.size) (v0 v1 v2 : Value) (u : Later W) :
    ∃ u' : Later (((W.setCell ⟨k, 0, none⟩ v0).setCell ⟨k, 1, none⟩ v1).setCell ⟨k, 2, none⟩ v2), ((u.w.setCell ⟨k, 0, none⟩ v0).setCell ⟨k, 1, none⟩ v1).setCell ⟨k, 2, none⟩ v2 = u'.w := by
  obtain ⟨u1, e1⟩ := u.set ⟨k, 0, none⟩ v0 hk
  obtain ⟨u2, e2⟩ := u1.set ⟨k, 1, none⟩ v1 (by simpa using hk)
  obtain ⟨u3, e3⟩ := u2.set ⟨k, 2, none⟩ v2 (by simpa using hk)
  exact ⟨u3, by rw [e1, e2, e3]⟩
theorem size3 (W : World) (k : Nat) (v0 v1 v2 : Value) : (((W.setCell ⟨k, 0, none⟩ v0).setCell ⟨k, 1, none⟩ v1).setCell ⟨k, 2, none⟩ v2).heap.size = W.heap.size := by simp
theorem RowAt.other3 {W : World} {j k : Nat} (v0 v1 v2 : Value) {cs : Array Value} {T : TypeId} (h : RowAt W j cs T) (hne : j ≠ k) : RowAt (((W.setCell ⟨k, 0, none⟩ v0).setCell ⟨k, 1, none⟩ v1).setCell ⟨k, 2, none⟩ v2) j cs T :=
  ((h.other _ v0 hne).other _ v1 hne).other _ v2 hne
theorem RowAt.set3 {W : World} {k : Nat} (v0 v1 v2 : Value) {x0 x1 x2 : Value} {T : TypeId} (h : RowAt W k #[x0, x1, x2] T) : RowAt (((W.setCell ⟨k, 0, none⟩ v0).setCell ⟨k, 1, none⟩ v1).setCell ⟨k, 2, none⟩ v2) k #[v0, v1, v2] T :=
  ((h.set 0 v0 rfl).set 1 v1 rfl).set 2 v2 rfl
end
end Go.Proofs.Ytefmlbckbhlgdaa
