/- Regions that draw their order and hold a chain of effects (each behind the one ahead of it in whatever order), and operations that only read: one walk, in the order of the text. Header: a header of few bytes. Header: Bytes; a header that may be. Header, the plain side: a header's fields as an item; how long its bytes are. Header: the laws' own call that must answer. Header: two signatures compared. Frame: FrameBack walked. Sums, in plain words: words, states of 25 words, what a round makes of them. Whole rows read and written in regions that draw their order. Words turned round; by how much, and where to. -/
import Derived.BigQuiet
import Derived.BigRegion
import Derived.Laws.StructEq
import Derived.Laws.Bits64b
import Derived.Laws.CopyOwn
import Derived.Deep.DeepCutAuto
import Derived.Test.YtefmlbckbhlgdaaRa0
import Derived.Test.YtefmlbckbhlgdaaRa8
import Derived.Test.YtefmlbckbhlgdaaRa11
import Derived.Test.YtefmlbckbhlgdaaRa12
import Derived.Test.YtefmlbckbhlgdaaRa16
namespace Go.Proofs.Ytefmlbckbhlgdaa
open Go.RowKit
section
variable {P : Program} {ops : Array Oper} {md : Region.Mode}
def depM (md : Region.Mode) (o : Oper) (m : Nat) : Nat := o.after.toList.foldl (fun m e => if Region.binds md e = true then m ||| (1 <<< e.on) else m) m
/-- What must have come up ahead of the marked ones. -/
def closeD (md : Region.Mode) (ops : Array Oper) : Nat → Nat → Nat
  | 0, m => m
  | n + 1, m => closeD md ops n (match ops[n]? with
    | some o => if m.testBit n = true then depM md o m else m
    | none => m)
def needsB (md : Region.Mode) (ops : Array Oper) (k k' : Nat) : Bool := match ops[k]? with
  | some o => (closeD md ops ops.size (depM md o 0)).testBit k'
  | none => false

theorem depM_ok {L : Nat → Prop} {o : Oper} (h : ∀ e ∈ o.after, Region.binds md e = true → L e.on) : ∀ {m : Nat}, (∀ b, m.testBit b = true → L b) → ∀ b, (depM md o m).testBit b = true → L b := by
  unfold depM
  replace h : ∀ e ∈ o.after.toList, Region.binds md e = true → L e.on := fun e he => h e (Array.mem_toList_iff.1 he)
  generalize o.after.toList = l at h
  induction l with
  | nil => intro m hm b hb; exact hm b hb
  | cons e l ih =>
    intro m hm b hb
    rw [List.foldl_cons] at hb
    refine ih (fun e' he' => h e' (by simp [he'])) (m := if Region.binds md e = true then m ||| (1 <<< e.on) else m) (fun b hb => ?_) b hb
    split at hb
    · rename_i hbi
      rw [Nat.testBit_or, Bool.or_eq_true, Nat.one_shiftLeft, Nat.testBit_two_pow] at hb
      rcases hb with hb | hb
      · exact hm b hb
      · have : e.on = b := by simpa using hb
        rw [← this]
        exact h e (by simp) hbi
    · exact hm b hb
theorem closeD_ok {listed : Array Bool} (inv : HeadInv md ops ops.size listed) : ∀ (n m : Nat), (∀ b, m.testBit b = true → listed.getD b false = true) → ∀ b, (closeD md ops n m).testBit b = true → listed.getD b false = true
  | 0, m, h, b, hb => h b hb
  | n + 1, m, h, b, hb => by
    rw [closeD] at hb
    refine closeD_ok inv n _ (fun b hb => ?_) b hb
    split at hb
    · rename_i o ho
      split at hb
      · rename_i hbit
        exact depM_ok (L := fun b => listed.getD b false = true) (fun e he hbi => inv.closed n o ho (h n hbit) e he hbi) h b hb
      · exact h b hb
    · exact h b hb
theorem needs_listed {listed : Array Bool} (inv : HeadInv md ops ops.size listed) {k k' : Nat} (h : needsB md ops k k' = true) (hk : ∀ o, ops[k]? = some o → ∀ e ∈ o.after, Region.binds md e = true → listed.getD e.on false = true) : listed.getD k' false = true := by
  unfold needsB at h
  split at h
  · rename_i o ho
    exact closeD_ok inv _ _ (fun b hb => depM_ok (L := fun b => listed.getD b false = true) (m := 0) (fun e he hbi => hk o ho e he hbi) (fun b hb => by simp at hb) b hb) _ h
  · cases h

theorem ld {es : List Nat} {i : Nat} (h : i < es.length) : es.getD i 0 = es[i] := by simp [List.getD, h]
theorem getD_tf {listed : Array Bool} {i : Nat} (hi : i < listed.size) (h : listed.getD i true = true) : listed.getD i false = true := by
  simp [hi] at h ⊢; exact h
def chainsB (md : Region.Mode) (ops : Array Oper) (es : List Nat) (his : Nat → Nat) : Bool :=
  (List.range es.length).all (fun i => (List.range i).all fun j => needsB md ops (es.getD i 0) (es.getD j 0) && decide (es.getD j 0 < es.getD i 0)) && es.all (fun e => decide (e < ops.size)) &&
    (List.range ops.size).all (fun k => es.contains k || decide (es.length ≤ his k) || needsB md ops (es.getD (his k) 0) k)

structure Stg (es : List Nat) (listed : Array Bool) (st : Nat) : Prop where
  le : st ≤ es.length
  iff : ∀ i, i < es.length → (listed.getD (es.getD i 0) true = true ↔ i < st)

theorem getD_false_of {listed : Array Bool} {i : Nat} (h : listed.getD i false = true) : listed.getD i true = true := by
  rcases Nat.lt_or_ge i listed.size with h' | h'
  · simp [h'] at h ⊢; exact h
  · simp [Array.getElem?_eq_none h'] at h

def effUpon (w1 : World) (v : Value) : Result Next → Prop
  | .ok (.value u) w => w = w1 ∧ u = v
  | .ok .skip w => w = w1 ∧ v = undef
  | _ => False

/-- What operation 'k' leaves: an effect from its stage to the next one; anything else the same at all stages at which it can come up. -/
def YieldsT (P : Program) (ops : Array Oper) (es : List Nat) (his : Nat → Nat) (Ws : Nat → World) (k : Nat) (o : Oper) (v : Value) (a : Act) : Prop :=
  if k ∈ es then Region.wanted o (yielded ops a.tmps) = true ∧ ∀ i, i < es.length → es.getD i 0 = k → effUpon (Ws (i + 1)) v ((execOp a.eval o).run P (Ws i))
  else (Region.wanted o (yielded ops a.tmps) = true ∧ ∀ s, s ≤ his k → o.quietAt P a (fun w' => w' = Ws s) (Ws s) v) ∨ (Region.wanted o (yielded ops a.tmps) = false ∧ v = undef)

variable {es : List Nat} {his : Nat → Nat} {Ws : Nat → World}
def wpStg (P : Program) (ops : Array Oper) (es : List Nat) (his : Nat → Nat) (Ws : Nat → World) (Q : Act → Prop) : Nat → List Oper → Act → Prop
  | _, [], a => Q a
  | k, o :: rest, a => ∃ v, YieldsT P ops es his Ws k o v a ∧ wpStg P ops es his Ws Q (k + 1) rest (a.put o.dst v)
def tOp (P : Program) (ops : Array Oper) (es : List Nat) (his : Nat → Nat) (Ws : Nat → World) (k : Nat) (K : Act → Prop) (a : Act) : Prop :=
  match ops[k]? with
  | none => K a
  | some o => ∃ v, YieldsT P ops es his Ws k o v a ∧ K (a.put o.dst v)
theorem tOp_mono {i : Nat} {a : Act} {K K' : Act → Prop} (h : ∀ a, K a → K' a) (hh : tOp P ops es his Ws i K a) : tOp P ops es his Ws i K' a := by
  unfold tOp at *
  split at hh
  · exact h _ hh
  · obtain ⟨v, h1, h2⟩ := hh
    exact ⟨v, h1, h _ h2⟩
def allE (es : List Nat) (listed : Array Bool) : Prop := ∀ i, i < es.length → listed.getD (es.getD i 0) true = true
def wpAnyT (P : Program) (md : Region.Mode) (ops : Array Oper) (es : List Nat) (his : Nat → Nat) (Ws : Nat → World) (Q : Act → Prop) : Nat → Array Bool → Act → Prop
  | 0, listed, a => Region.ready md ops listed = [] ∧ allE es listed ∧ Q a
  | fuel + 1, listed, a =>
    (Region.ready md ops listed = [] → allE es listed ∧ Q a) ∧
    ∀ i ∈ Region.ready md ops listed, tOp P ops es his Ws i (wpAnyT P md ops es his Ws Q fuel (listed.setIfInBounds i true)) a

theorem ready_lt {listed : Array Bool} {i : Nat} (hi : i ∈ Region.ready md ops listed) : i < ops.size := by
  obtain ⟨_, o, ho, _⟩ := mem_ready.1 hi
  exact (Array.getElem?_eq_some_iff.1 ho).1

theorem wpOp_of_tOp (hB : chainsB md ops es his = true) {k st : Nat} {listed : Array Bool} {a : Act} {K : Act → Prop} {K' : Act → World → Prop} {Q' : Exit → Act → World → Prop} (inv : HeadInv md ops ops.size listed) (hs : Stg es listed st) (hr : k ∈ Region.ready md ops listed)
    (h : ∀ a st', Stg es (listed.setIfInBounds k true) st' → K a → K' a (Ws st')) (hh : tOp P ops es his Ws k K a) : wpOp P ops Q' k K' a (Ws st) := by
  obtain ⟨hun, o, ho, hdep⟩ := mem_ready.1 hr
  simp only [chainsB, Bool.and_eq_true, List.all_eq_true, List.mem_range, Bool.or_eq_true, decide_eq_true_eq] at hB
  obtain ⟨⟨hch, hlt⟩, hhi⟩ := hB
  unfold tOp at hh
  unfold wpOp
  simp only [ho] at hh ⊢
  obtain ⟨v, hy, hK⟩ := hh
  unfold YieldsT at hy
  have hdep' : ∀ o', ops[k]? = some o' → ∀ e ∈ o'.after, Region.binds md e = true → listed.getD e.on false = true := fun o' ho' => by
    have : o' = o := Option.some.inj (ho'.symm.trans ho)
    subst this
    exact hdep
  by_cases hke : k ∈ es
  · rw [if_pos hke] at hy
    obtain ⟨hw, hrun⟩ := hy
    simp only [hw, if_true]
    obtain ⟨i, hil, hie⟩ := List.getElem_of_mem hke
    have hig : es.getD i 0 = k := by rw [ld hil]; exact hie
    have hnot : ¬ i < st := fun hlt' => by
      have := (hs.iff i hil).2 hlt'
      rw [hig, hun] at this
      cases this
    have hst : st = i := by
      rcases Nat.lt_or_ge st i with hlt' | hge
      · have hc := (hch i hil st hlt').1
        rw [hig] at hc
        have := getD_false_of (needs_listed inv hc hdep')
        exact absurd ((hs.iff st (by omega)).1 this) (by omega)
      · omega
    subst hst
    have h3 := hrun st hil hig
    have hs' : Stg es (listed.setIfInBounds k true) (st + 1) := by
      refine ⟨hil, fun j hj => ?_⟩
      by_cases hjs : j = st
      · subst hjs
        rw [hig, getD_set_same]
        simp
      · have hne : k ≠ es.getD j 0 := fun e => by
          rw [← hig] at e
          rcases Nat.lt_or_ge j st with h1 | h1
          · have := (hch st hil j h1).2; omega
          · have := (hch j hj st (by omega)).2; omega
        rw [getD_set_ne true hne, hs.iff j hj]
        omega
    refine .inl ?_
    unfold Oper.wp
    generalize (execOp a.eval o).run P (Ws st) = r at *
    cases r with
    | ok n w' =>
      cases n <;> simp only [effUpon] at h3 <;> simp only [Oper.upon]
      case value u =>
        obtain ⟨e1, e2⟩ := h3
        rw [e1, e2]
        exact h _ _ hs' hK
      case skip =>
        obtain ⟨e1, e2⟩ := h3
        rw [e1, ← e2]
        exact h _ _ hs' hK
    | halt x w' => simp only [effUpon] at h3
  · rw [if_neg hke] at hy
    have hle : st ≤ his k := by
      rcases hhi k (ready_lt hr) with (h1 | h1) | h1
      · exact absurd (by simpa using h1) hke
      · have := hs.le; omega
      · rcases Nat.lt_or_ge (his k) st with h2 | h2
        · have hl := hs.le
          have hon := (hs.iff (his k) (by omega)).2 h2
          have hb : listed.getD (es.getD (his k) 0) false = true := by
            have hsz : es.getD (his k) 0 < listed.size := by
              rw [inv.size]
              have := hlt (es.getD (his k) 0) (by rw [ld (by omega)]; exact List.getElem_mem _)
              exact this
            exact getD_tf hsz hon
          have hoE : ∃ oE, ops[es.getD (his k) 0]? = some oE := by
            have := hlt (es.getD (his k) 0) (by rw [ld (by omega)]; exact List.getElem_mem _)
            exact ⟨_, Array.getElem?_eq_getElem this⟩
          have hk := getD_false_of (needs_listed inv h1 (fun o' ho' => inv.closed _ o' ho' hb))
          rw [hun] at hk
          cases hk
        · exact h2
    have hs' : Stg es (listed.setIfInBounds k true) st := by
      refine ⟨hs.le, fun j hj => ?_⟩
      have hne : k ≠ es.getD j 0 := fun e => hke (by rw [e, ld hj]; exact List.getElem_mem _)
      rw [getD_set_ne true hne, hs.iff j hj]
    rcases hy with ⟨hw, hq⟩ | ⟨hw, rfl⟩
    · simp only [hw, if_true]
      refine .inl ?_
      refine Oper.wp_of_quiet (C := fun w' => w' = Ws st) rfl (fun a w' hw' hk => by rw [hw']; exact h a st hs' hk) (o := o) (K := K) ⟨v, fun w2 hw2 => ?_, hK⟩
      rw [hw2]
      exact hq st hle
    · simp only [hw, Bool.false_eq_true, if_false]
      exact h _ _ hs' hK

theorem wpAny_of_stg (hB : chainsB md ops es his = true) {Q : Act → Prop} {Q' : Exit → Act → World → Prop} (hQ : ∀ a, Q a → Q' .normal a (Ws es.length)) : ∀ (fuel : Nat) (listed : Array Bool) (a : Act) (st : Nat), HeadInv md ops ops.size listed → Stg es listed st →
    wpAnyT P md ops es his Ws Q fuel listed a → wpAny P md ops Q' fuel listed a (Ws st)
  | 0, listed, a, st, inv, hs, h => ⟨h.1, by
    have : st = es.length := by
      have := hs.le
      rcases Nat.lt_or_ge st es.length with h1 | h1
      · exact absurd ((hs.iff st h1).1 (h.2.1 st h1)) (by omega)
      · omega
    rw [this]; exact hQ _ h.2.2⟩
  | fuel + 1, listed, a, st, inv, hs, h => ⟨fun h0 => by
    have : st = es.length := by
      have := hs.le
      rcases Nat.lt_or_ge st es.length with h1 | h1
      · exact absurd ((hs.iff st h1).1 ((h.1 h0).1 st h1)) (by omega)
      · omega
    rw [this]; exact hQ _ (h.1 h0).2, fun i hi => wpOp_of_tOp (md := md) hB inv hs hi (fun a' st' hs' hk => wpAny_of_stg hB hQ fuel _ a' st' (inv.set hi (ready_lt hi)) hs' hk) (h.2 i hi)⟩

theorem YieldsT.of_same {i : Nat} {o : Oper} {v : Value} {a a' : Act} (hy : YieldsT P ops es his Ws i o v a) (he : execOp a'.eval o = execOp a.eval o)
    (hw : Region.wanted o (yielded ops a'.tmps) = Region.wanted o (yielded ops a.tmps)) : YieldsT P ops es his Ws i o v a' := by
  unfold YieldsT Oper.quietAt at *
  rw [he, hw]
  exact hy
theorem tOp_put {i j : Nat} {oi oj : Oper} {v : Value} (hj : ops[j]? = some oj) (hap : oi.apart ops oj = true)
    (hsi : ∀ cs b, oi.op ≠ .select cs b) (hsj : ∀ cs b, oj.op ≠ .select cs b) {K : Act → Prop} {a : Act}
    (hy : YieldsT P ops es his Ws i oi v a) (h : tOp P ops es his Ws j K (a.put oi.dst v)) :
    tOp P ops es his Ws j (fun a' => YieldsT P ops es his Ws i oi v a' ∧ K (a'.put oi.dst v)) a := by
  obtain ⟨h1, h2, h3⟩ := Oper.apart_spec hap
  unfold tOp at *
  simp only [hj] at *
  obtain ⟨u, hu, hn⟩ := h
  exact ⟨u, hu.of_same (execOp_put oj hsj a oi.dst v h1).symm (wanted_put oj a oi.dst v h1).symm, hy.of_same (execOp_put oi hsi a oj.dst u h3) (wanted_put oi a oj.dst u h3), by rw [← Act.put_comm a v u h2]; exact hn⟩
theorem YieldsT.tOp {i : Nat} {o : Oper} {v : Value} {a : Act} (hi : ops[i]? = some o) (hy : YieldsT P ops es his Ws i o v a) {K : Act → Prop} (h : K (a.put o.dst v)) : tOp P ops es his Ws i K a := by
  unfold Go.Proofs.Ytefmlbckbhlgdaa.tOp
  simp only [hi]
  exact ⟨v, hy, h⟩

theorem wpAnyT_first {Q : Act → Prop} {i : Nat} {oi : Oper} {v : Value} (hi : ops[i]? = some oi) (hsel : ∀ (j : Nat) (o : Oper) cs b, ops[j]? = some o → o.op ≠ .select cs b) :
    ∀ (fuel : Nat) (listed : Array Bool) (a : Act),
      (∀ j oj, ops[j]? = some oj → j ≠ i → listed.getD j true = false → (∀ e ∈ oj.after, Region.binds md e = true → e.on ≠ i) → oi.apart ops oj = true) →
      i ∈ Region.ready md ops listed → YieldsT P ops es his Ws i oi v a →
      wpAnyT P md ops es his Ws Q fuel (listed.setIfInBounds i true) (a.put oi.dst v) → wpAnyT P md ops es his Ws Q (fuel + 1) listed a := by
  intro fuel
  induction fuel with
  | zero =>
    intro listed a _ hr hy H
    refine ⟨fun h => (by rw [h] at hr; cases hr), fun j hj => ?_⟩
    by_cases hji : j = i
    · subst hji; exact hy.tOp hi H
    · have := ready_mono hj hji
      rw [H.1] at this
      cases this
  | succ fuel ih =>
    intro listed a hfree hr hy H
    refine ⟨fun h => (by rw [h] at hr; cases hr), fun j hj => ?_⟩
    by_cases hji : j = i
    · subst hji; exact hy.tOp hi H
    · have h1 := H.2 j (ready_mono hj hji)
      obtain ⟨hjun, oj, hoj, hall⟩ := mem_ready.1 hj
      have hnot : ∀ e ∈ oj.after, Region.binds md e = true → e.on ≠ i := fun e he hb heq => by
        have h1 := hall e he hb
        have h0 := (mem_ready.1 hr).1
        rw [heq] at h1
        rcases Nat.lt_or_ge i listed.size with h' | h'
        · simp [h'] at h0 h1; rw [h0] at h1; cases h1
        · simp [Array.getElem?_eq_none h'] at h1
      have h2 := tOp_put hoj (hfree j oj hoj hji hjun hnot) (fun cs b => hsel i oi cs b hi) (fun cs b => hsel j oj cs b hoj) hy h1
      have hfree' : ∀ k ok, ops[k]? = some ok → k ≠ i → (listed.setIfInBounds j true).getD k true = false →
          (∀ e ∈ ok.after, Region.binds md e = true → e.on ≠ i) → oi.apart ops ok = true := fun k ok hk hki hun hno => by
        refine hfree k ok hk hki ?_ hno
        by_cases hjk : j = k
        · subst hjk; exact hjun
        · rw [getD_set_ne true hjk] at hun; exact hun
      refine tOp_mono (fun a' h3 => ih (listed.setIfInBounds j true) a' hfree' (ready_mono hr (Ne.symm hji)) h3.1 ?_) h2
      rw [Array.setIfInBounds_comm _ _ hji]
      exact h3.2

theorem wpAnyT_lex {Q : Act → Prop} (hsel : Region.noSelect ops = true) (hes : ∀ i, i < es.length → es.getD i 0 < ops.size) : ∀ (l : List Oper) (k : Nat) (listed : Array Bool) (a : Act), (∀ j, l[j]? = ops[k + j]?) → (∀ j, j < k → listed.getD j true = true) →
    Region.lexFrom md ops l.length k listed = true → wpStg P ops es his Ws Q k l a → wpAnyT P md ops es his Ws Q l.length listed a
  | [], k, listed, _, hl, hd, hB, h => ⟨by simpa [Region.lexFrom] using hB, fun i hi => hd _ (by
      have hsz := hes i hi
      rcases Nat.lt_or_ge (es.getD i 0) k with h' | h'
      · exact h'
      · have := hl (es.getD i 0 - k)
        rw [show k + (es.getD i 0 - k) = es.getD i 0 by omega, Array.getElem?_eq_getElem hsz] at this
        simp at this), h⟩
  | o :: l, k, listed, a, hl, hd, hB, h => by
    have h0 : ops[k]? = some o := by simpa using (hl 0).symm
    simp only [List.length_cons, Region.lexFrom, Bool.and_eq_true] at hB
    obtain ⟨⟨hr, hf⟩, hB'⟩ := hB
    obtain ⟨v, hy, hK⟩ := h
    exact wpAnyT_first h0 (Region.noSelect_spec hsel) l.length listed a (Region.free_spec h0 hf) (by simpa using hr) hy
      (wpAnyT_lex hsel hes l (k + 1) _ _ (fun j => by have := hl (j + 1); simpa [Nat.add_assoc, Nat.add_comm 1 j] using this) (fun j hj => by
        by_cases e : k = j
        · subst e; exact getD_set_same _ _
        · rw [getD_set_ne true e]; exact hd j (by omega)) hB' hK)

/-- One walk, in the order of the text: the effects 'es' (places in the region), from world to world; what else there is only reads, the same at all stages up to 'his' of its place. -/
theorem region_stages {id : Nat} {Q : Exit → Act → World → Prop} {a : Act} {w : World} {l : List Oper} (es : List Nat) (his : Nat → Nat) (Ws : Nat → World) (hm : P.follows .mixedOrders = true) (hB : (Region.lexB .any l.toArray && chainsB .any l.toArray es his) = true) (h0 : Ws 0 = w.drew)
    (h : wpStg P l.toArray es his Ws (fun a' => Q .normal a' (Ws es.length)) 0 l a) : (Code.region id l.toArray true).wp P Q a w := by
  simp only [Region.lexB, Bool.and_eq_true] at hB
  obtain ⟨⟨hsel, hlex⟩, hch⟩ := hB
  have hes : ∀ i, i < es.length → es.getD i 0 < l.toArray.size := fun i hi => by
    simp only [chainsB, Bool.and_eq_true, List.all_eq_true, decide_eq_true_eq] at hch
    exact hch.1.2 _ (by rw [ld hi]; exact List.getElem_mem _)
  have inv0 : HeadInv .any l.toArray l.toArray.size (Array.replicate l.toArray.size false) :=
    ⟨by simp, fun j oj _ hl => (by rw [getD_replicate_false] at hl; cases hl), fun t ht ht' => by omega⟩
  have hs0 : Stg es (Array.replicate l.toArray.size false) 0 := ⟨Nat.zero_le _, fun i hi => by
    rw [show (Array.replicate l.toArray.size false).getD (es.getD i 0) true = false from getD_in (by simpa using hes i hi) (getD_replicate_false _ _)]
    simp⟩
  refine wp_region_any hm ?_
  have := wpAny_of_stg (Q' := Q) hch (Q := fun a' => Q .normal a' (Ws es.length)) (fun a' h => h) l.toArray.size (Array.replicate l.toArray.size false) a 0 inv0 hs0 (by
    have := wpAnyT_lex (md := .any) (P := P) (es := es) (his := his) (Ws := Ws) (Q := fun a' => Q .normal a' (Ws es.length)) hsel hes l 0 (Array.replicate l.toArray.size false) a (fun j => by simp) (fun j hj => absurd hj (Nat.not_lt_zero _)) (by simpa using hlex) h
    simpa using this)
  rw [h0] at this
  exact this

/-! ### The steps -/
theorem stg_nil {Q : Act → Prop} {k : Nat} {a : Act} (h : Q a) : wpStg P ops es his Ws Q k [] a := h
theorem stg_step {Q : Act → Prop} {k : Nat} {a : Act} {o : Oper} {rest : List Oper} (n : Nat) (hk : (!es.contains k && his k == n) = true)
    (h : ∀ K : Act → Prop, (∀ a, wpStg P ops es his Ws Q (k + 1) rest a → K a) → if Region.wanted o (yielded ops a.tmps) then (∃ v, (∀ s : { s : Nat // s ≤ n }, o.quietAt P a (fun w' => w' = Ws s.1) (Ws s.1) v) ∧ K (a.put o.dst v)) else K (a.put o.dst undef)) : wpStg P ops es his Ws Q k (o :: rest) a := by
  have := h _ (fun _ h => h)
  simp only [Bool.and_eq_true, beq_iff_eq, Bool.not_eq_true'] at hk
  obtain ⟨hk, rfl⟩ := hk
  have hk' : ¬ k ∈ es := by simpa using hk
  unfold wpStg YieldsT
  simp only [if_neg hk']
  split at this
  · rename_i hw
    obtain ⟨v, h1, h2⟩ := this
    exact ⟨v, .inl ⟨hw, fun s hs => h1 ⟨s, hs⟩⟩, h2⟩
  · rename_i hw
    exact ⟨_, .inr ⟨by simpa using hw, rfl⟩, this⟩
theorem stg_eff {Q : Act → Prop} {k : Nat} {a : Act} {o : Oper} {rest : List Oper} (i : Nat) (v : Value) (hk : ((List.range es.length).all fun j => (es.getD j 0 == k) == (j == i)) = true) (hi : i < es.length) (hg : o.guard = none)
    (h : effUpon (Ws (i + 1)) v ((execOp a.eval o).run P (Ws i))) (h' : wpStg P ops es his Ws Q (k + 1) rest (a.put o.dst v)) : wpStg P ops es his Ws Q k (o :: rest) a := by
  simp only [List.all_eq_true, List.mem_range, beq_iff_eq] at hk
  have hki : es.getD i 0 = k := by
    have := hk i hi
    simpa using this
  have hk' : k ∈ es := by rw [← hki, ld hi]; exact List.getElem_mem _
  unfold wpStg YieldsT
  simp only [if_pos hk']
  refine ⟨v, ⟨by unfold Region.wanted; rw [hg], fun j hj hjk => ?_⟩, h'⟩
  have := hk j hj
  rw [hjk] at this
  have : j = i := by simpa using this
  subst this
  exact h
instance stNonempty (n : Nat) : Nonempty { s : Nat // s ≤ n } := ⟨⟨0, Nat.zero_le _⟩⟩

end
end Go.Proofs.Ytefmlbckbhlgdaa
namespace Go.Proofs.Ytefmlbckbhlgdaa
open Go.RowKit Go.Shelf
theorem RowAt.f11 {w : World} {k : Nat} {cs : Array Value} {T : TypeId} (h : RowAt w k cs T) : w.frozen? ⟨k, 0, none⟩ = false ∧ w.frozen? ⟨k, 1, none⟩ = false ∧ w.frozen? ⟨k, 2, none⟩ = false ∧ w.frozen? ⟨k, 3, none⟩ = false ∧
    w.frozen? ⟨k, 4, none⟩ = false ∧ w.frozen? ⟨k, 5, none⟩ = false ∧ w.frozen? ⟨k, 6, none⟩ = false ∧ w.frozen? ⟨k, 7, none⟩ = false ∧ w.frozen? ⟨k, 8, none⟩ = false ∧ w.frozen? ⟨k, 9, none⟩ = false ∧ w.frozen? ⟨k, 10, none⟩ = false :=
  ⟨h.frozen 0, h.frozen 1, h.frozen 2, h.frozen 3, h.frozen 4, h.frozen 5, h.frozen 6, h.frozen 7, h.frozen 8, h.frozen 9, h.frozen 10⟩
/-- Eleven cells stored one behind the other. -/
abbrev put11 (w : World) (b o : Nat) (v0 v1 v2 v3 v4 v5 v6 v7 v8 v9 v10 : Value) : World :=
  ((((((((((w.setCell ⟨b, o, none⟩ v0).setCell ⟨b, o + 1, none⟩ v1).setCell ⟨b, o + 2, none⟩ v2).setCell ⟨b, o + 3, none⟩ v3).setCell ⟨b, o + 4, none⟩ v4).setCell ⟨b, o + 5, none⟩ v5).setCell ⟨b, o + 6, none⟩ v6).setCell ⟨b, o + 7, none⟩ v7).setCell ⟨b, o + 8, none⟩ v8).setCell ⟨b, o + 9, none⟩ v9).setCell ⟨b, o + 10, none⟩ v10
theorem RowAt.set11 {w : World} {k : Nat} {u0 u1 u2 u3 u4 u5 u6 u7 u8 u9 u10 : Value} {T : TypeId} (h : RowAt w k #[u0, u1, u2, u3, u4, u5, u6, u7, u8, u9, u10] T) (v0 v1 v2 v3 v4 v5 v6 v7 v8 v9 v10 : Value) : RowAt (put11 w k 0 v0 v1 v2 v3 v4 v5 v6 v7 v8 v9 v10) k #[v0, v1, v2, v3, v4, v5, v6, v7, v8, v9, v10] T := by
  have h0 := h.set 0 v0 (cs' := #[v0, u1, u2, u3, u4, u5, u6, u7, u8, u9, u10]) rfl
  have h1 := h0.set 1 v1 (cs' := #[v0, v1, u2, u3, u4, u5, u6, u7, u8, u9, u10]) rfl
  have h2 := h1.set 2 v2 (cs' := #[v0, v1, v2, u3, u4, u5, u6, u7, u8, u9, u10]) rfl
  have h3 := h2.set 3 v3 (cs' := #[v0, v1, v2, v3, u4, u5, u6, u7, u8, u9, u10]) rfl
  have h4 := h3.set 4 v4 (cs' := #[v0, v1, v2, v3, v4, u5, u6, u7, u8, u9, u10]) rfl
  have h5 := h4.set 5 v5 (cs' := #[v0, v1, v2, v3, v4, v5, u6, u7, u8, u9, u10]) rfl
  have h6 := h5.set 6 v6 (cs' := #[v0, v1, v2, v3, v4, v5, v6, u7, u8, u9, u10]) rfl
  have h7 := h6.set 7 v7 (cs' := #[v0, v1, v2, v3, v4, v5, v6, v7, u8, u9, u10]) rfl
  have h8 := h7.set 8 v8 (cs' := #[v0, v1, v2, v3, v4, v5, v6, v7, v8, u9, u10]) rfl
  have h9 := h8.set 9 v9 (cs' := #[v0, v1, v2, v3, v4, v5, v6, v7, v8, v9, u10]) rfl
  have h10 := h9.set 10 v10 (cs' := #[v0, v1, v2, v3, v4, v5, v6, v7, v8, v9, v10]) rfl
  exact h10
theorem below_set11 {w0 w : World} {B b o : Nat} (h : Below B w0 w) (hb : B ≤ b) (v0 v1 v2 v3 v4 v5 v6 v7 v8 v9 v10 : Value) : Below B w0 (put11 w b o v0 v1 v2 v3 v4 v5 v6 v7 v8 v9 v10) :=
  ((((((((((h.setCell (p := ⟨b, o, none⟩) hb v0).setCell (p := ⟨b, o + 1, none⟩) hb v1).setCell (p := ⟨b, o + 2, none⟩) hb v2).setCell (p := ⟨b, o + 3, none⟩) hb v3).setCell (p := ⟨b, o + 4, none⟩) hb v4).setCell (p := ⟨b, o + 5, none⟩) hb v5).setCell (p := ⟨b, o + 6, none⟩) hb v6).setCell (p := ⟨b, o + 7, none⟩) hb v7).setCell (p := ⟨b, o + 8, none⟩) hb v8).setCell (p := ⟨b, o + 9, none⟩) hb v9).setCell (p := ⟨b, o + 10, none⟩) hb v10

/-- How 'few' ends. -/
def FewPost (h : Hd) (w : World) (e : Ending) (w' : World) : Prop := ∃ (sv gv : Value), e = .returned (.agg (hdc h sv gv)) ∧ HdAt w' h sv gv ∧ Below w.heap.size w w'
theorem OwnE.setLow {α : Type} {E : Enc α} {T : TypeId} {w : World} {base : Nat} {v : Value} {l : List α} (h : OwnE E T w base v l) (a : Addr) (u : Value) (ha : a.block < base) : OwnE E T (w.setCell a u) base v l := by
  refine ⟨h.1, ?_⟩
  rcases h.2 with h' | ⟨g, cap, cur, hv, hg, hc, r⟩
  · exact .inl h'
  · exact .inr ⟨g, cap, cur, hv, hg, by rw [heap_setCell_other _ _ _ _ (by omega)]; exact hc, r⟩
theorem OwnE.setLow11 {α : Type} {E : Enc α} {T : TypeId} {w : World} {base k : Nat} {v : Value} {l : List α} (h : OwnE E T w base v l) (ha : k < base) {v0 v1 v2 v3 v4 v5 v6 v7 v8 v9 v10 : Value} : OwnE E T (put11 w k 0 v0 v1 v2 v3 v4 v5 v6 v7 v8 v9 v10) base v l :=
  ((((((((((h.setLow ⟨k, 0, none⟩ v0 ha).setLow ⟨k, 0 + 1, none⟩ v1 ha).setLow ⟨k, 0 + 2, none⟩ v2 ha).setLow ⟨k, 0 + 3, none⟩ v3 ha).setLow ⟨k, 0 + 4, none⟩ v4 ha).setLow ⟨k, 0 + 5, none⟩ v5 ha).setLow ⟨k, 0 + 6, none⟩ v6 ha).setLow ⟨k, 0 + 7, none⟩ v7 ha).setLow ⟨k, 0 + 8, none⟩ v8 ha).setLow ⟨k, 0 + 9, none⟩ v9 ha).setLow ⟨k, 0 + 10, none⟩ v10 ha
end Go.Proofs.Ytefmlbckbhlgdaa
namespace Go.Proofs.Ytefmlbckbhlgdaa
open Go.RowKit Go.Shelf
set_option maxRecDepth 100000
/-- A header's bytes. -/
noncomputable def bytesL (h : Hd) : List UInt8 × Int := if hdL h = true then recL h else ([], 1)

theorem hdL_lens {h : Hd} (e : hdL h = true) : h.val.length ≤ 1000 ∧ h.se.length ≤ 1000 := by
  have : HdOk h := by
    by_cases hh : HdOk h
    · exact hh
    · rw [hdL_false hh] at e; cases e
  obtain ⟨_, _, _, _, _, h1, h2, _⟩ := this
  have := h1.2.2
  exact ⟨by omega, by omega⟩

set_option maxHeartbeats 2000000 in
theorem bytes_any (h : Hd) (sv gv : Value) (w : World) (hh : HdAt w h sv gv) (hn : HdNum h) (hl : h.val.length ≤ 1000000) : Calls Try.prog 31 #[.agg (hdc h sv gv)] w fun e w' => e = .returned (.tuple #[.string (mkS (bytesL h).1), .int .i64 (bytesL h).2]) ∧ Below w.heap.size w w' := by
  have KR : Hid (∀ W, Below w.heap.size w W → Calls Try.prog 26 #[.agg (hdc h sv gv)] W fun e w' => e = .returned (.bool (hdL h)) ∧ Below W.heap.size W w') := Lib.hid (fun W hb => hRight_any h sv gv W (hh.below hb) hl)
  have R := Lib.hid (RowAt.new w (hdc h sv gv) 26)
  have HB := Lib.hid (bel1 w (.cells (hdc h sv gv) 26))
  cases e : hdL h with
  | false =>
    have HR : Hid (bytesL h = ([], 1)) := Lib.hid (by unfold bytesL; rw [e]; rfl)
    rw [e] at KR
    generalize bytesL h = r at *
    clear e hh hn hl
    obtain ⟨pa, ht, ro, tx, pr, va, val, vo, ad, rd, se⟩ := h
    obtain ⟨x0, x1, x2, x3, x4, x5, x6, x7, x8, x9, x10⟩ := R.out.c11
    go_enter Try.func31, Try.ntmps31
    go_wp2_with (go_at_call 26; refine (KR.out _ HB.out).mono ?_; rintro e w1 ⟨rfl, hb⟩; have HB1 := Lib.hid (HB.out.trans (hb.mono HB.out.size)); clear hb)
    go_ret2
    rw [HR.out]
    exact ⟨rfl, HB1.out⟩
  | true =>
    have HR : Hid (bytesL h = recL h) := Lib.hid (by unfold bytesL; rw [e]; rfl)
    have hlen := hdL_lens e
    have KW : Hid (∀ W, Below w.heap.size w W → Calls Try.prog 67 #[.agg (hdc h sv gv)] W fun e w' => e = .returned (.tuple #[.string (mkS (recL h).1), .int .i64 (recL h).2]) ∧ Below W.heap.size W w') := Lib.hid (fun W hb => record_any h sv gv W (hh.below hb) hn hlen.1 hlen.2)
    rw [e] at KR
    generalize bytesL h = r at *
    generalize recL h = r2 at *
    clear e hh hn hl hlen
    obtain ⟨pa, ht, ro, tx, pr, va, val, vo, ad, rd, se⟩ := h
    obtain ⟨x0, x1, x2, x3, x4, x5, x6, x7, x8, x9, x10⟩ := R.out.c11
    go_enter Try.func31, Try.ntmps31
    go_wp2_with (first
      | (go_at_call 26; refine (KR.out _ HB.out).mono ?_; rintro e w1 ⟨rfl, hb⟩; have HB1 := Lib.hid (HB.out.trans (hb.mono HB.out.size)); have R1 := Lib.hid (R.out.belowS hb); clear hb x0 x1 x2 x3 x4 x5 x6 x7 x8 x9 x10; obtain ⟨x0, x1, x2, x3, x4, x5, x6, x7, x8, x9, x10⟩ := R1.out.c11)
      | (go_at_call 67; refine (KW.out _ HB1.out).mono ?_; rintro e w2 ⟨rfl, hb⟩; have HB2 := Lib.hid (HB1.out.trans (hb.mono HB1.out.size)); clear hb))
    go_ret2
    rw [HR.out]
    exact ⟨rfl, HB2.out⟩

/-! ### A header that may be -/
def zB (n : Nat) : ByteArray := mkS (List.replicate n 0)
def someH : Hd := ⟨zB 32, 0, zB 32, zB 32, zB 20, ⟨#[]⟩, [zB 20], ⟨#[]⟩, false, 0, []⟩
theorem zB_size (n : Nat) : (zB n).size = n := by unfold zB; rw [mkS_size, List.length_replicate]
theorem zB_cut : (zB 32).extract 0 20 = zB 20 := by decide
theorem someH_ok : HdOk someH := by
  refine ⟨zB_size 32, zB_size 32, zB_size 32, zB_size 20, by show (0 : Nat) ≤ 8; omega, ?_, by show (0 : Nat) ≤ 16; omega, .inr ⟨rfl, rfl⟩, fun s hs => by cases hs⟩
  refine ⟨fun j x hx => ?_, fun j x y hx hy => ?_, by show (1 : Nat) ≤ 1; omega, by show (1 : Nat) ≤ 16; omega⟩
  · match j, hx with
    | 0, hx => have : zB 20 = x := by simpa [someH] using hx
               rw [← this]; exact zB_size 20
    | j + 1, hx => simp [someH] at hx
  · simp [someH] at hy

theorem RowAt.other11 {w : World} {k b : Nat} {cs : Array Value} {T : TypeId} (h : RowAt w k cs T) (hne : k ≠ b) (v0 v1 v2 v3 v4 v5 v6 v7 v8 v9 v10 : Value) : RowAt (put11 w b 0 v0 v1 v2 v3 v4 v5 v6 v7 v8 v9 v10) k cs T :=
  ((((((((((h.other ⟨b, 0, none⟩ v0 hne).other ⟨b, 0 + 1, none⟩ v1 hne).other ⟨b, 0 + 2, none⟩ v2 hne).other ⟨b, 0 + 3, none⟩ v3 hne).other ⟨b, 0 + 4, none⟩ v4 hne).other ⟨b, 0 + 5, none⟩ v5 hne).other ⟨b, 0 + 6, none⟩ v6 hne).other ⟨b, 0 + 7, none⟩ v7 hne).other ⟨b, 0 + 8, none⟩ v8 hne).other ⟨b, 0 + 9, none⟩ v9 hne).other ⟨b, 0 + 10, none⟩ v10 hne
set_option maxHeartbeats 2000000 in
theorem some_any (w : World) : Calls Try.prog 32 #[] w (FewPost someH w) := by
  obtain ⟨i0, hi, hz0, hz1, hz2⟩ := info_parts info_u8
  have HH : Hid (someH = ⟨zB 32, 0, zB 32, zB 32, zB 20, ⟨#[]⟩, [zB 20], ⟨#[]⟩, false, 0, []⟩) := Lib.hid rfl
  generalize someH = h at *
  have R0 := Lib.hid (RowAt.new w #[.string ⟨#[]⟩, .int .u64 0, .string ⟨#[]⟩, .string ⟨#[]⟩, .string ⟨#[]⟩, .string ⟨#[]⟩, .slice none 0 0, .string ⟨#[]⟩, .bool false, .int .u64 0, .slice none 0 0] 26)
  have HB0 := Lib.hid (bel1 w (.cells #[.string ⟨#[]⟩, .int .u64 0, .string ⟨#[]⟩, .string ⟨#[]⟩, .string ⟨#[]⟩, .string ⟨#[]⟩, .slice none 0 0, .string ⟨#[]⟩, .bool false, .int .u64 0, .slice none 0 0] 26))
  go_enter Try.func32, Try.ntmps32
  go_upto_region 1 with (fail)
  generalize w.alloc (.cells #[.string ⟨#[]⟩, .int .u64 0, .string ⟨#[]⟩, .string ⟨#[]⟩, .string ⟨#[]⟩, .string ⟨#[]⟩, .slice none 0 0, .string ⟨#[]⟩, .bool false, .int .u64 0, .slice none 0 0] 26) = W at *
  go_wp2_with (at_make; (refine wpList_make_full _ rfl _ _ 123 rfl W.heap.size 5 i0 (.int .u8 0) 1 Try.underlying123 hi hz0 hz1 .i64 .i64 _ _ 32 rfl rfl rfl rfl (by rw [hz2]; omega) (by unfold maxLen; omega) (Nat.le_refl _) ?_); intro w1 hown hg)
  have hbuf := buf_made (fun _ => 0) hown
  have hcv := hbuf.conv 32 (by rw [fillL_length])
  have hz : (⟨(fillL (fun _ => 0) 32 0).toArray⟩ : ByteArray) = zB 32 := by decide
  rw [hz] at hcv
  have HCV := Lib.hid hcv
  have R1 := Lib.hid (RowAt.grown R0.out hg (by simp))
  have HB1 := Lib.hid (HB0.out.grown hg HB0.out.size (fun k hk => by cases hk))
  have hzs : (zB 32).size = 32 := zB_size 32
  have HZC := Lib.hid zB_cut
  clear hbuf hown hg hcv hz R0 HB0
  go_wp2_with (simp only [HCV.out, Result.andThen_ok])
  have R1a := Lib.hid (R1.out.drew.alloc (.cells #[.string (zB 20)] 9))
  have RS := Lib.hid (RowAt.new w1.drew #[.string (zB 20)] 9)
  have hd20 : (zB 32).extract 0 20 = zB 20 := HZC.out
  have HB2 := Lib.hid (HB1.out.alloc HB1.out.size (.cells #[.string (zB 20)] 9))
  have R1b := Lib.hid (R1.out.alloc (.cells #[.string (zB 20)] 9))
  obtain ⟨x0, x1, x2, x3, x4, x5, x6, x7, x8, x9, x10⟩ := R1b.out.c11
  obtain ⟨y0, y1, y2, y3, y4, y5, y6, y7, y8, y9, y10⟩ := R1b.out.f11
  obtain ⟨Ws, g0, g1, g2⟩ : ∃ Ws : Nat → World, Ws 0 = w1.drew ∧ Ws 1 = (w1.alloc (.cells #[.string (zB 20)] 9)).drew ∧ Ws 2 = (put11 (w1.alloc (.cells #[.string (zB 20)] 9)) w.heap.size 0 (.string (zB 32)) (.int .u64 0) (.string (zB 32)) (.string (zB 32)) (.string (zB 20)) (.string ⟨#[]⟩) (.slice (some ⟨w1.heap.size, 0, none⟩) 1 1) (.string ⟨#[]⟩) (.bool false) (.int .u64 0) (.slice none 0 0)).drew :=
    ⟨fun s => match s with | 0 => w1.drew | 1 => (w1.alloc (.cells #[.string (zB 20)] 9)).drew | _ => (put11 (w1.alloc (.cells #[.string (zB 20)] 9)) w.heap.size 0 (.string (zB 32)) (.int .u64 0) (.string (zB 32)) (.string (zB 32)) (.string (zB 20)) (.string ⟨#[]⟩) (.slice (some ⟨w1.heap.size, 0, none⟩) 1 1) (.string ⟨#[]⟩) (.bool false) (.int .u64 0) (.slice none 0 0)).drew, rfl, rfl, rfl⟩
  have G0 := Lib.hid g0
  have G1 := Lib.hid g1
  have G2 := Lib.hid g2
  clear g0 g1 g2
  (refine region_stages [7, 9] (fun k => 2) Ws mix ?hB G0.out ?_; case hB => kernel_rfl); ((with_reducible refine stg_step 2 ?hkk ?_); (case hkk => rfl); intro K hK; go_simp; (with_reducible refine hK _ ?_; clear hK K)); ((with_reducible refine stg_step 2 ?hkk ?_); (case hkk => rfl); intro K hK; go_simp; (with_reducible refine hK _ ?_; clear hK K)); ((with_reducible refine stg_step 2 ?hkk ?_); (case hkk => rfl); intro K hK; go_simp; (with_reducible refine hK _ ?_; clear hK K)); ((with_reducible refine stg_step 2 ?hkk ?_); (case hkk => rfl); intro K hK; go_simp; (with_reducible refine hK _ ?_; clear hK K)); ((with_reducible refine stg_step 2 ?hkk ?_); (case hkk => rfl); intro K hK; go_simp; (with_reducible refine hK _ ?_; clear hK K)); ((with_reducible refine stg_step 2 ?hkk ?_); (case hkk => rfl); intro K hK; go_simp; (with_reducible refine hK _ ?_; clear hK K)); ((with_reducible refine stg_step 2 ?hkk ?_); (case hkk => rfl); intro K hK; go_simp; (with_reducible refine hK _ ?_; clear hK K)); (refine stg_eff 0 (.slice (some ⟨w1.heap.size, 0, none⟩) 1 1) rfl (by decide) rfl ?he ?_; case he => (show effUpon (Ws 1) _ (Sem.run _ _ (Ws 0)); (rw [G1.out, G0.out]; unfold effUpon; go_simp))); go_simp; ((with_reducible refine stg_step 2 ?hkk ?_); (case hkk => rfl); intro K hK; go_simp; (with_reducible refine hK _ ?_; clear hK K)); (refine stg_eff 1 (undef) rfl (by decide) rfl ?he ?_; case he => (show effUpon (Ws 2) _ (Sem.run _ _ (Ws 1)); (rw [G2.out, G1.out]; unfold effUpon; go_simp))); go_simp; (with_reducible refine stg_nil ?_)
  clear x0 x1 x2 x3 x4 x5 x6 x7 x8 x9 x10 y0 y1 y2 y3 y4 y5 y6 y7 y8 y9 y10
  have RF := Lib.hid (show RowAt (Ws 2) w.heap.size #[.string (zB 32), .int .u64 0, .string (zB 32), .string (zB 32), .string (zB 20), .string ⟨#[]⟩, .slice (some ⟨w1.heap.size, 0, none⟩) 1 1, .string ⟨#[]⟩, .bool false, .int .u64 0, .slice none 0 0] 26 from by rw [G2.out]; exact (R1b.out.set11 (.string (zB 32)) (.int .u64 0) (.string (zB 32)) (.string (zB 32)) (.string (zB 20)) (.string ⟨#[]⟩) (.slice (some ⟨w1.heap.size, 0, none⟩) 1 1) (.string ⟨#[]⟩) (.bool false) (.int .u64 0) (.slice none 0 0)).drew)
  have RG := Lib.hid (show RowAt (Ws 2) w1.heap.size #[.string (zB 20)] 9 from by rw [G2.out]; exact RowAt.drew (RowAt.other11 (show RowAt (w1.alloc (.cells #[.string (zB 20)] 9)) w1.heap.size #[.string (zB 20)] 9 from RS.out) (by have := R1.out.lt; show w1.heap.size ≠ w.heap.size; omega) _ _ _ _ _ _ _ _ _ _ _))
  have HB3 := Lib.hid (show Below w.heap.size w (Ws 2) from by rw [G2.out]; exact Below.drew (below_set11 (b := w.heap.size) (o := 0) HB2.out (Nat.le_refl _) (.string (zB 32)) (.int .u64 0) (.string (zB 32)) (.string (zB 32)) (.string (zB 20)) (.string ⟨#[]⟩) (.slice (some ⟨w1.heap.size, 0, none⟩) 1 1) (.string ⟨#[]⟩) (.bool false) (.int .u64 0) (.slice none 0 0)))
  clear G0 G1 G2 R1 R1a R1b RS HB1 HB2
  go_wp2
  obtain ⟨k0, k1, k2, k3, k4, k5, k6, k7, k8, k9, k10⟩ := RF.out.c11
  refine bodyPost_ret (v := .agg #[.string (zB 32), .int .u64 0, .string (zB 32), .string (zB 32), .string (zB 20), .string ⟨#[]⟩, .slice (some ⟨w1.heap.size, 0, none⟩) 1 1, .string ⟨#[]⟩, .bool false, .int .u64 0, .slice none 0 0]) (by simp [results, Try.results32, go_sem, k0, k1, k2, k3, k4, k5, k6, k7, k8, k9, k10]) rfl ?_
  refine ⟨.slice (some ⟨w1.heap.size, 0, none⟩) 1 1, .slice none 0 0, by rw [HH.out], ⟨?_, ?_, ?_⟩, HB3.out⟩
  · rw [HH.out]
    exact RowE.lit encS RG.out (zB 20) rfl
  · rw [HH.out]
    exact .inl ⟨rfl, rfl⟩
  · rw [HH.out]
    exact fun s hs => by cases hs
end Go.Proofs.Ytefmlbckbhlgdaa
namespace Go.Proofs.Ytefmlbckbhlgdaa
open Go.RowKit
set_option maxRecDepth 100000
abbrev bI (s : ByteArray) : It := .mk false (bl s) []
abbrev nI (n : Nat) : It := .mk false (dig n) []
abbrev lI (l : List It) : It := .mk true [] l
def hkinds : List Kd := [.mk 104 [], .mk 110 [], .mk 104 [], .mk 104 [], .mk 97 [], .mk 98 [], .mk 42 [.mk 97 []], .mk 98 [], .mk 110 [], .mk 110 [], .mk 42 [.mk 115 []]]
theorem hkinds_ok : kindsL hform = some hkinds := by rfl
def hdI (h : Hd) : It := lI [bI h.pa, nI h.ht.toNat, bI h.ro, bI h.tx, bI h.pr, bI h.va, lI (h.val.map bI), bI h.vo, nI (if h.ad = true then 1 else 0), nI h.rd.toNat, lI ((h.se.map sealB).map bI)]

mutual
theorem write_le3 : ∀ x : It, x.weight ≤ 20000 → x.write.length ≤ x.weight + 2 * x.size
  | .mk l b ks, h => by
    rw [It.weight] at h ⊢
    rw [It.size]
    have hk := writes_le3 ks (by omega)
    have hs := sizes_le_weights ks
    rw [It.write]
    split
    · have := headL_length (fr := 192) (n := (writes ks).length) (by omega)
      rw [List.length_append, this]
      split <;> (try split) <;> omega
    · split
      · omega
      · have := headL_length (fr := 128) (n := b.length) (by omega)
        rw [List.length_append, this]
        split <;> (try split) <;> omega
theorem writes_le3 : ∀ ks : List It, weights ks ≤ 20000 → (writes ks).length ≤ weights ks + 2 * sizes ks
  | [], _ => by simp [writes]
  | k :: ks, h => by
    rw [weights] at h ⊢
    rw [sizes]
    have h1 := write_le3 k (by omega)
    have h2 := writes_le3 ks (by omega)
    rw [writes, List.length_append]
    omega
end
mutual
/-- Lists bear no bytes of their own. -/
theorem write_ge : ∀ x : It, x.pure → x.weight ≤ x.write.length + x.size
  | .mk l b ks, h => by
    rw [It.pure] at h
    obtain ⟨h1, h2, h3⟩ := h
    have hk := writes_ge ks h3
    rw [It.weight, It.size, It.write]
    split
    · rename_i hl
      rw [h1 hl, List.length_append]
      simp
      omega
    · rename_i hl
      obtain rfl := h2 (by simpa using hl)
      simp only [weights, sizes]
      split
      · omega
      · rw [List.length_append]; omega
theorem writes_ge : ∀ ks : List It, pures ks → weights ks ≤ (writes ks).length + sizes ks
  | [], _ => by simp [writes, weights]
  | k :: ks, h => by
    rw [pures] at h
    have h1 := write_ge k h.1
    have h2 := writes_ge ks h.2
    rw [weights, writes, sizes, List.length_append]
    omega
end
theorem sealB_size {s : Sg} (h : sigOk s = true) : (sealB s).size = 65 := by
  unfold sealB sigBytes
  rw [if_pos h]
  have h1 := bytesU_size s.1
  have h2 := bytesU_size s.2.1
  rw [ByteArray.size_append, ByteArray.size_append, h1, h2]
  rfl

theorem mapM_bI (c : UInt8) (hc : c ≠ 110 ∧ c ≠ 98 ∧ c ≠ 42 ∧ c ≠ 40) : ∀ l : List ByteArray, (∀ s ∈ l, (s.size : Int) = sizeK c) → (l.map bF).mapM (itemK (.mk c [])) = some (l.map bI)
  | [], _ => rfl
  | s :: l, h => by
    rw [List.map_cons, List.mapM_cons, mapM_bI c hc l (fun t ht => h t (by simp [ht]))]
    have : itemK (.mk c []) (bF s) = some (bI s) := by
      rw [itemK, if_neg hc.1, if_neg hc.2.1, if_neg hc.2.2.1, if_neg hc.2.2.2, if_pos ⟨rfl, rfl, by rw [bl_length]; exact h s (by simp)⟩]
    rw [this]
    rfl
theorem weights_bI : ∀ (N : Nat) (l : List ByteArray), (∀ s ∈ l, s.size = N) → weights (l.map bI) = (N + 1) * l.length ∧ sizes (l.map bI) = l.length ∧ pures (l.map bI) ∧ depths (l.map bI) = 0
  | N, [], _ => ⟨by simp [weights], rfl, trivial, rfl⟩
  | N, s :: l, h => by
    obtain ⟨h1, h2, h3, h4⟩ := weights_bI N l (fun t ht => h t (by simp [ht]))
    have hs := h s (by simp)
    refine ⟨?_, ?_, ?_, ?_⟩
    · rw [List.map_cons, weights, h1, It.weight, weights, bl_length, hs, List.length_cons, Nat.mul_add]; omega
    · rw [List.map_cons, sizes, h2, It.size, sizes, List.length_cons]; omega
    · rw [List.map_cons, pures]; exact ⟨by rw [It.pure]; exact ⟨by simp, by simp, trivial⟩, h3⟩
    · rw [List.map_cons, depths, h4, It.depth, depths]; rfl
theorem counts_bF : ∀ l : List ByteArray, counts (l.map bF) = l.length
  | [] => rfl
  | s :: l => by rw [List.map_cons, counts, counts_bF l, Tr.count, counts, List.length_cons]; omega
theorem SetOk.all {l : List ByteArray} (h : SetOk l) : ∀ s ∈ l, s.size = 20 := fun s hs => by
  obtain ⟨i, hi⟩ := List.getElem?_of_mem hs
  exact h.1 i s hi

theorem i_h {s : ByteArray} (h : s.size = 32) : itemK (.mk 104 []) (bF s) = some (bI s) := by
  rw [itemK, if_neg (by decide), if_neg (by decide), if_neg (by decide), if_neg (by decide), if_pos ⟨rfl, rfl, by rw [bl_length, h]; rfl⟩]
theorem i_a {s : ByteArray} (h : s.size = 20) : itemK (.mk 97 []) (bF s) = some (bI s) := by
  rw [itemK, if_neg (by decide), if_neg (by decide), if_neg (by decide), if_neg (by decide), if_pos ⟨rfl, rfl, by rw [bl_length, h]; rfl⟩]
theorem i_b {s : ByteArray} (h : s.size ≤ 64) : itemK (.mk 98 []) (bF s) = some (bI s) := by
  rw [itemK, if_neg (by decide), if_pos rfl, if_pos ⟨rfl, rfl, by rw [bl_length]; exact h⟩]
theorem i_n (n : Nat) : itemK (.mk 110 []) (nF n) = some (nI n) := by
  rw [itemK, if_pos rfl, if_pos ⟨rfl, rfl⟩]
theorem i_l {c : UInt8} (hc : c ≠ 110 ∧ c ≠ 98 ∧ c ≠ 42 ∧ c ≠ 40) {l : List ByteArray} (hl : l.length ≤ 40) (h : ∀ s ∈ l, (s.size : Int) = sizeK c) : itemK (.mk 42 [.mk c []]) (lF (l.map bF)) = some (lI (l.map bI)) := by
  rw [itemK, if_neg (by decide), if_neg (by decide), if_pos rfl, if_pos ⟨rfl, rfl, by simpa using hl⟩, starI, mapM_bI c hc l h]
  rfl
theorem vo_size {h : Hd} (hk : HdOk h) : h.vo.size ≤ 64 := by
  rcases hk.2.2.2.2.2.2.2.1 with e | ⟨e, _⟩
  · omega
  · rw [e]; show (0 : Nat) ≤ 64; omega
theorem seal_sizes {h : Hd} (hk : HdOk h) : ∀ s ∈ h.se.map sealB, s.size = 65 := fun s hs => by
  obtain ⟨x, hx, rfl⟩ := List.mem_map.1 hs
  exact sealB_size (hk.2.2.2.2.2.2.2.2 x hx)

theorem hdI_ok {h : Hd} (hk : HdOk h) : itemsT (.mk 40 hkinds) (hdF h) = some (hdI h) := by
  have hv := vo_size hk
  have hs := seal_sizes hk
  obtain ⟨h1, h2, h3, h4, h5, h6, h7, h8, h9⟩ := hk
  have e1 : itemK (.mk 42 [.mk 97 []]) (lF (h.val.map bF)) = some (lI (h.val.map bI)) := i_l (by decide) (by have := h6.2.2.2; omega) (fun s hs => by rw [h6.all s hs]; rfl)
  have e2 : itemK (.mk 42 [.mk 115 []]) (lF ((h.se.map sealB).map bF)) = some (lI ((h.se.map sealB).map bI)) := i_l (by decide) (by rw [List.length_map]; omega) (fun s hs' => by rw [hs s hs']; rfl)
  unfold hkinds hdF hdI
  rw [itemsT, if_neg (by decide)]
  simp only [rowI, i_h h1, i_h h2, i_h h3, i_a h4, i_b (Nat.le_trans h5 (by omega)), i_b hv, i_n, e1, e2, Option.bind_some, Option.map_some]
theorem rec_ok {h : Hd} (hk : HdOk h) (hn : HdNum h) : recL h = ((hdI h).write, 0) ∧ 116 ≤ (hdI h).write.length := by
  have hv := vo_size hk
  have hs := seal_sizes hk
  have hi := hdI_ok hk
  obtain ⟨h1, h2, h3, h4, h5, h6, h7, h8, h9⟩ := hk
  obtain ⟨a1, a2, a3, a4⟩ := weights_bI 20 h.val h6.all
  obtain ⟨b1, b2, b3, b4⟩ := weights_bI 65 (h.se.map sealB) hs
  have l1 := h6.2.2.2
  have l2 : (h.se.map sealB).length ≤ 16 := by rw [List.length_map]; exact h7
  have d1 := dig_len8 (n := h.ht.toNat) (by have := hn.1; omega)
  have d2 := dig_len8 (n := h.rd.toNat) (by have := hn.2; omega)
  have d3 := dig_len8 (n := if h.ad = true then 1 else 0) (by split <;> decide)
  have hw : (hdI h).weight = 1 + (33 + (1 + (dig h.ht.toNat).length) + 33 + 33 + 21 + (1 + h.va.size) + (1 + (20 + 1) * h.val.length) + (1 + h.vo.size) + (1 + (dig (if h.ad = true then 1 else 0)).length) + (1 + (dig h.rd.toNat).length) + (1 + (65 + 1) * (h.se.map sealB).length)) := by
    unfold hdI
    simp only [It.weight, weights, a1, b1, bl_length, List.length_nil, h1, h2, h3, h4]
    omega
  have hsz : (hdI h).size = 12 + h.val.length + (h.se.map sealB).length := by
    unfold hdI
    simp only [It.size, sizes, a2, b2]
    omega
  have hp : (hdI h).pure := by
    unfold hdI
    simp [-List.map_map, It.pure, pures, a3, b3]
  have hd : (hdI h).depth ≤ 8 := by
    unfold hdI
    simp [-List.map_map, It.depth, depths, a4, b4]
  have hle := write_le3 (hdI h) (by omega)
  have hge := write_ge (hdI h) hp
  refine ⟨?_, by omega⟩
  unfold recL writeF
  have hcnt : counts (hdF h) ≤ 1000 := by
    unfold hdF
    simp only [counts, Tr.count, counts_bF]
    omega
  rw [hkinds_ok]
  simp only [if_pos hcnt, hi]
  rw [It.enc, if_neg (by rw [(pureB_iff _).2 hp]; simp; omega), if_neg (by omega), if_neg (by omega)]
end Go.Proofs.Ytefmlbckbhlgdaa
namespace Go.Proofs.Ytefmlbckbhlgdaa
open Go.RowKit Go.Shelf
set_option maxRecDepth 100000
theorem someH_num : HdNum someH := ⟨⟨by decide, by decide⟩, ⟨by decide, by decide⟩⟩
theorem bytesL_ok {h : Hd} (hk : HdOk h) (hn : HdNum h) : bytesL h = ((hdI h).write, 0) := by
  unfold bytesL
  rw [hdL_true hk, if_pos rfl, (rec_ok hk hn).1]

set_option maxHeartbeats 2000000 in
theorem halive_any (w : World) : Calls Try.prog 9 #[] w fun e w' => e = .returned (.bool true) ∧ Below w.heap.size w w' := by
  have KS := Lib.hid (fun W => some_any W)
  have hb := bytesL_ok someH_ok someH_num
  have hlen := (rec_ok someH_ok someH_num).2
  have KB : Hid (∀ W sv gv, HdAt W someH sv gv → Calls Try.prog 31 #[.agg (hdc someH sv gv)] W fun e w' => e = .returned (.tuple #[.string (mkS (hdI someH).write), .int .i64 0]) ∧ Below W.heap.size W w') := Lib.hid (fun W sv gv hh => by
    have := bytes_any someH sv gv W hh someH_num (by show (1 : Nat) ≤ 1000000; omega)
    rw [hb] at this
    exact this)
  have KR : Hid (∀ W sv gv, HdAt W someH sv gv → Calls Try.prog 26 #[.agg (hdc someH sv gv)] W fun e w' => e = .returned (.bool true) ∧ Below W.heap.size W w') := Lib.hid (fun W sv gv hh => by
    have := hRight_any someH sv gv W hh (by show (1 : Nat) ≤ 1000000; omega)
    rw [hdL_true someH_ok] at this
    exact this)
  have hz : ((mkS (hdI someH).write).size : Int) > 100 := by rw [mkS_size]; omega
  clear hb hlen
  generalize mkS (hdI someH).write = B at *
  generalize someH = h at *
  have HB0 := Lib.hid (Below.refl w.heap.size w)
  go_enter Try.func9, Try.ntmps9
  go_wp2_with (first
    | (go_at_call 32; refine (KS.out _).mono ?_; rintro e w1 ⟨sv, gv, rfl, hh, hb⟩; have HH := Lib.hid hh; have HB0 := Lib.hid (HB0.out.trans (hb.mono HB0.out.size)); clear hh hb)
    | (go_at_call 31; refine (KB.out _ _ _ HH.out).mono ?_; rintro e w2 ⟨rfl, hb⟩; have HB0 := Lib.hid (HB0.out.trans (hb.mono HB0.out.size)); clear hb)
    | (go_at_call 26; refine (KR.out _ _ _ HH.out).mono ?_; rintro e w3 ⟨rfl, hb⟩; have HB0 := Lib.hid (HB0.out.trans (hb.mono HB0.out.size)); clear hb))
  go_ret
  exact ⟨rfl, HB0.out⟩
end Go.Proofs.Ytefmlbckbhlgdaa
namespace Go.Proofs.Ytefmlbckbhlgdaa
open Go.RowKit Go.Shelf
set_option maxRecDepth 100000
theorem eqU_runD (d : Nat) (a b : U4) (w : World) : (Op.equalIn (d + 2) 66 (u4V a) (u4V b)).run Try.prog w = .ok (decide (a.1 = b.1 ∧ a.2.1 = b.2.1 ∧ a.2.2.1 = b.2.2.1 ∧ a.2.2.2 = b.2.2.2)) w := by
  obtain ⟨a0, a1, a2, a3⟩ := a
  obtain ⟨b0, b1, b2, b3⟩ := b
  have hc : Try.prog.cellsOf 22 = 1 := by kernel_rfl
  have hi : (Try.prog.info? 22).map (fun i => i.size) = some 1 := by kernel_rfl
  obtain ⟨i, hi, _⟩ := Option.map_eq_some_iff.1 hi
  have hg : Try.prog.underlying 22 = some (.int .u64) := by kernel_rfl
  have hs : ∀ w, (sizeOf 22).run Try.prog w = .ok 1 w := fun w => by rw [run_sizeOf w hi, hc]
  rw [run_equalIn_array w (d + 1) (n := 4) (e := 22) _ _ (by kernel_rfl) hi, hc]
  rw [show List.range 4 = [0, 1, 2, 3] from rfl]
  simp only [Op.eqItems]
  have hp : ∀ (xs : Array Value) (j : Nat) (v : Value) (w : World), xs[j]? = some v → (part 22 xs j).run Try.prog w = .ok v w := fun xs j v w h => by
    simp [part, go_sem, h]
  have pa0 : ∀ w, (part 22 (u4c (a0, a1, a2, a3)) (0 * 1)).run Try.prog w = .ok (.int .u64 a0) w := fun w => hp _ _ _ w rfl
  have pa1 : ∀ w, (part 22 (u4c (a0, a1, a2, a3)) (1 * 1)).run Try.prog w = .ok (.int .u64 a1) w := fun w => hp _ _ _ w rfl
  have pa2 : ∀ w, (part 22 (u4c (a0, a1, a2, a3)) (2 * 1)).run Try.prog w = .ok (.int .u64 a2) w := fun w => hp _ _ _ w rfl
  have pa3 : ∀ w, (part 22 (u4c (a0, a1, a2, a3)) (3 * 1)).run Try.prog w = .ok (.int .u64 a3) w := fun w => hp _ _ _ w rfl
  have pb0 : ∀ w, (part 22 (u4c (b0, b1, b2, b3)) (0 * 1)).run Try.prog w = .ok (.int .u64 b0) w := fun w => hp _ _ _ w rfl
  have pb1 : ∀ w, (part 22 (u4c (b0, b1, b2, b3)) (1 * 1)).run Try.prog w = .ok (.int .u64 b1) w := fun w => hp _ _ _ w rfl
  have pb2 : ∀ w, (part 22 (u4c (b0, b1, b2, b3)) (2 * 1)).run Try.prog w = .ok (.int .u64 b2) w := fun w => hp _ _ _ w rfl
  have pb3 : ∀ w, (part 22 (u4c (b0, b1, b2, b3)) (3 * 1)).run Try.prog w = .ok (.int .u64 b3) w := fun w => hp _ _ _ w rfl
  have he : ∀ (x y : Int) w, (Op.equalIn (d + 1) 22 (.int .u64 x) (.int .u64 y)).run Try.prog w = .ok (x == y) w := fun x y w => run_equalIn_int w d _ _ _ _ _ hg
  have hR : decide (a0 = b0 ∧ a1 = b1 ∧ a2 = b2 ∧ a3 = b3) = ((a0 == b0) && ((a1 == b1) && ((a2 == b2) && (a3 == b3)))) := by
    rw [Bool.eq_iff_iff]; simp
  simp only [hR]
  simp only [Sem.run_bind, pa0, pb0, he, Result.andThen_ok]
  cases (a0 == b0)
  · simp
  simp only [Bool.not_true, Bool.false_eq_true, if_false, Sem.run_bind, pa1, pb1, he, Result.andThen_ok, Bool.true_and]
  cases (a1 == b1)
  · simp
  simp only [Bool.not_true, Bool.false_eq_true, if_false, Sem.run_bind, pa2, pb2, he, Result.andThen_ok, Bool.true_and]
  cases (a2 == b2)
  · simp
  simp only [Bool.not_true, Bool.false_eq_true, if_false, Sem.run_bind, pa3, pb3, he, Result.andThen_ok, Bool.true_and]
  cases (a3 == b3) <;> simp

theorem eqSig_run (a b : Sg) (w : World) : (Op.equalIn 10000 68 (sgV a) (sgV b)).run Try.prog w = .ok (decide (a = b)) w := by
  have hu : Try.prog.underlying 66 = some (.array 4 22) := by kernel_rfl
  obtain ⟨⟨a0, a1, a2, a3⟩, ⟨a4, a5, a6, a7⟩, a8⟩ := a
  obtain ⟨⟨b0, b1, b2, b3⟩, ⟨b4, b5, b6, b7⟩, b8⟩ := b
  rw [run_equalIn_struct w 9999 68 _ _ (by kernel_rfl) (by kernel_rfl)]
  have hf : (Try.prog.fieldsOf 68).toList.map (fun f => (f.name, f.type, f.offset)) = [("R", 66, 0), ("S", 66, 4), ("V", 3, 8)] := by kernel_rfl
  generalize (Try.prog.fieldsOf 68).toList = fl at hf ⊢
  have hl3 : fl.length = 3 := by have := congrArg List.length hf; simpa using this
  obtain ⟨f0, f1, f2, rfl⟩ : ∃ f0 f1 f2, fl = [f0, f1, f2] := by
    match fl, hl3 with
    | [a, b, c], _ => exact ⟨a, b, c, rfl⟩
  simp only [List.map_cons, List.map_nil, List.cons.injEq, Prod.mk.injEq, and_true] at hf
  obtain ⟨e0, e1, e2⟩ := hf
  have pU : ∀ (xs : Array Value) (k : Nat) (w : World), (part 66 xs k).run Try.prog w = .ok (.agg (xs.extract k (k + 4))) w := fun xs k w => by
    have hc : Try.prog.cellsOf 66 = 4 := by kernel_rfl
    have hi : (Try.prog.info? 66).map (fun i => i.size) = some 4 := by kernel_rfl
    obtain ⟨i, hi, _⟩ := Option.map_eq_some_iff.1 hi
    have hs : (sizeOf 66).run Try.prog w = .ok 4 w := by rw [run_sizeOf w hi, hc]
    simp [part, go_sem]
  have pV : ∀ (xs : Array Value) (v : Value) (w : World), xs[8]? = some v → (part 3 xs 8).run Try.prog w = .ok v w := fun xs v w h => by
    have hg : Try.prog.underlying 3 = some (.int .i64) := by kernel_rfl
    simp [part, go_sem, h]
  have hV : ∀ (x y : Int) w, (Op.equalIn 9999 3 (.int .i64 x) (.int .i64 y)).run Try.prog w = .ok (x == y) w := fun x y w => run_equalIn_int w 9998 _ _ _ _ _ (by kernel_rfl : Try.prog.underlying 3 = some (.int .i64))
  simp only [Op.eqFields, e0.1, e1.1, e2.1, e0.2.1, e1.2.1, e2.2.1, e0.2.2, e1.2.2, e2.2.2]
  have k1 := fun w => eqU_runD 9997 (a0, a1, a2, a3) (b0, b1, b2, b3) w
  have k2 := fun w => eqU_runD 9997 (a4, a5, a6, a7) (b4, b5, b6, b7) w
  have v1 := fun w => pV (sgc ((a0, a1, a2, a3), (a4, a5, a6, a7), a8)) _ w rfl
  have v2 := fun w => pV (sgc ((b0, b1, b2, b3), (b4, b5, b6, b7), b8)) _ w rfl
  have x1 : (sgc ((a0, a1, a2, a3), (a4, a5, a6, a7), a8)).extract 0 (0 + 4) = u4c (a0, a1, a2, a3) := rfl
  have x2 : (sgc ((b0, b1, b2, b3), (b4, b5, b6, b7), b8)).extract 0 (0 + 4) = u4c (b0, b1, b2, b3) := rfl
  have x3 : (sgc ((a0, a1, a2, a3), (a4, a5, a6, a7), a8)).extract 4 (4 + 4) = u4c (a4, a5, a6, a7) := rfl
  have x4 : (sgc ((b0, b1, b2, b3), (b4, b5, b6, b7), b8)).extract 4 (4 + 4) = u4c (b4, b5, b6, b7) := rfl
  have hR : decide ((((a0, a1, a2, a3), (a4, a5, a6, a7), a8) : Sg) = ((b0, b1, b2, b3), (b4, b5, b6, b7), b8)) = (decide (a0 = b0 ∧ a1 = b1 ∧ a2 = b2 ∧ a3 = b3) && (decide (a4 = b4 ∧ a5 = b5 ∧ a6 = b6 ∧ a7 = b7) && (a8 == b8))) := by
    rw [Bool.eq_iff_iff]
    simp only [decide_eq_true_eq, Prod.mk.injEq, Bool.and_eq_true, beq_iff_eq]
  rw [hR]
  rw [if_pos (by decide)]
  simp only [Sem.run_bind, pU, Result.andThen_ok, x1, x2]
  rw [k1]
  simp only [Result.andThen_ok]
  cases decide (a0 = b0 ∧ a1 = b1 ∧ a2 = b2 ∧ a3 = b3)
  · simp
  simp only [Bool.not_true, Bool.false_eq_true, if_false, Bool.true_and]
  rw [if_pos (by decide)]
  simp only [Sem.run_bind, pU, Result.andThen_ok, x3, x4]
  rw [k2]
  simp only [Result.andThen_ok]
  cases decide (a4 = b4 ∧ a5 = b5 ∧ a6 = b6 ∧ a7 = b7)
  · simp
  simp only [Bool.not_true, Bool.false_eq_true, if_false, Bool.true_and]
  rw [if_pos (by decide)]
  simp only [Sem.run_bind, v1, v2, Result.andThen_ok]
  rw [show (sgc ((a0, a1, a2, a3), (a4, a5, a6, a7), a8))[8] = .int .i64 a8 from rfl, show (sgc ((b0, b1, b2, b3), (b4, b5, b6, b7), b8))[8] = .int .i64 b8 from rfl, hV]
  simp only [Result.andThen_ok]
  cases (a8 == b8) <;> simp
end Go.Proofs.Ytefmlbckbhlgdaa
namespace Go.Proofs.Ytefmlbckbhlgdaa
open Go.RowKit
theorem read_ok {form s : List UInt8} {m : List Fd} (h : readF form s = (m, 0)) : fsOk m := by
  unfold readF at h
  split at h
  · cases h
  · split at h
    · rename_i h1
      injection h with _ h
      exact absurd h h1
    · split at h
      · cases h
      · rename_i hx
        split at h
        · injection h with h _
          subst h
          exact fieldsT_ok hx
        · cases h

end Go.Proofs.Ytefmlbckbhlgdaa
namespace Go.Proofs.Ytefmlbckbhlgdaa
open Go.RowKit
/-- Numbers by their places. -/
abbrev NF := Nat → Int
def upd (A : NF) (i : Nat) (v : Int) : NF := fun j => if j = i then v else A j
/-- The first 't' by 'f', the others by 'A'. -/
def upto (t : Nat) (f A : NF) : NF := fun i => if i < t then f i else A i
theorem upto_step {t : Nat} {f A : NF} {v : Int} (h : v = f t) : upd (upto t f A) t v = upto (t + 1) f A := by
  subst h
  funext i
  unfold upd upto
  by_cases e : i = t
  · subst e; rw [if_pos rfl, if_pos (Nat.lt_succ_self _)]
  · rw [if_neg e]
    by_cases e2 : i < t
    · rw [if_pos e2, if_pos (by omega)]
    · rw [if_neg e2, if_neg (by omega)]
/-- A row of 'n' numbers. -/
def rV (n : Nat) (k : IntKind) (A : NF) : Array Value := ((List.range n).map fun i => Value.int k (A i)).toArray
theorem rV_size {n : Nat} {k : IntKind} {A : NF} : (rV n k A).size = n := by simp [rV]
theorem rV_get {n : Nat} {k : IntKind} {A : NF} {i : Nat} (h : i < n) : (rV n k A)[i]? = some (.int k (A i)) := by
  simp [rV, h]
theorem rV_ext {n : Nat} {k : IntKind} {A B : NF} (h : ∀ i, i < n → A i = B i) : rV n k A = rV n k B := by
  unfold rV
  congr 1
  exact List.map_congr_left (fun i hi => by rw [h i (List.mem_range.1 hi)])
theorem rV_set {n : Nat} {k : IntKind} {A : NF} {i : Nat} (v : Int) : (rV n k A).setIfInBounds i (.int k v) = rV n k (upd A i v) := by
  apply Array.ext_getElem?
  intro j
  rw [Array.getElem?_setIfInBounds]
  by_cases h : j < n
  · rw [rV_get h]
    by_cases e : i = j
    · subst e
      rw [if_pos rfl, rV_size, if_pos h, rV_get h, upd, if_pos rfl]
    · rw [if_neg e, rV_get h, upd, if_neg (fun e' => e e'.symm)]
  · have h1 : (rV n k A)[j]? = none := Array.getElem?_eq_none (by rw [rV_size]; omega)
    have h2 : (rV n k (upd A i v))[j]? = none := Array.getElem?_eq_none (by rw [rV_size]; omega)
    rw [h1, h2]
    by_cases e : i = j
    · subst e
      simp [rV_size, h]
    · rw [if_neg e]
theorem RowAt.upd {w : World} {b n : Nat} {k : IntKind} {A : NF} {T : TypeId} (h : RowAt w b (rV n k A) T) (i : Nat) (v : Int) {B : NF} (hB : ∀ j, j < n → Go.Proofs.Ytefmlbckbhlgdaa.upd A i v j = B j) : RowAt (w.setCell ⟨b, i, none⟩ (.int k v)) b (rV n k B) T :=
  h.set i _ (by rw [rV_set, rV_ext hB])
theorem RowAt.same {w : World} {b n : Nat} {k : IntKind} {A B : NF} {T : TypeId} (h : RowAt w b (rV n k A) T) (e : ∀ i, i < n → A i = B i) : RowAt w b (rV n k B) T := rV_ext e ▸ h
theorem RowAt.step {w : World} {b n : Nat} {k : IntKind} {t : Nat} {f A : NF} {T : TypeId} (h : RowAt w b (rV n k (upto t f A)) T) {v : Int} (hv : v = f t) : RowAt (w.setCell ⟨b, t, none⟩ (.int k v)) b (rV n k (upto (t + 1) f A)) T :=
  h.set t _ (by rw [rV_set, upto_step hv])
theorem RowAt.row {w : World} {b : Nat} {cs : Array Value} {T : TypeId} (h : RowAt w b cs T) (cs' : Array Value) : RowAt (w.setRow b cs') b cs' T := setRow_heap w b cs cs' T (0, 0) h
def an (a b : Int) : Int := bits .and .u64 a b
/-- The same as numbers of a row. -/
abbrev asI (A : Nat → Nat) : NF := fun i => (A i : Int)

end Go.Proofs.Ytefmlbckbhlgdaa
namespace Go.Proofs.Ytefmlbckbhlgdaa
open Go.RowKit
section
variable {P : Program} {ops : Array Oper} {es : List Nat} {his : Nat → Nat} {Ws : Nat → World}
end
end Go.Proofs.Ytefmlbckbhlgdaa
namespace Go.Proofs.Ytefmlbckbhlgdaa
open Go.RowKit
set_option maxRecDepth 100000
abbrev z25 (k : IntKind) : Array Value := #[.int k 0, .int k 0, .int k 0, .int k 0, .int k 0, .int k 0, .int k 0, .int k 0, .int k 0, .int k 0, .int k 0, .int k 0, .int k 0, .int k 0, .int k 0, .int k 0, .int k 0, .int k 0, .int k 0, .int k 0, .int k 0, .int k 0, .int k 0, .int k 0, .int k 0]
theorem RowAt.z25 {w : World} {b : Nat} {k : IntKind} {T : TypeId} (h : RowAt w b (Go.Proofs.Ytefmlbckbhlgdaa.z25 k) T) {A : NF} (hA : ∀ i, A i = 0) : RowAt w b (rV 25 k A) T := by
  rw [rV_ext (B := fun _ => 0) (fun i _ => hA i)]
  exact h
end Go.Proofs.Ytefmlbckbhlgdaa
