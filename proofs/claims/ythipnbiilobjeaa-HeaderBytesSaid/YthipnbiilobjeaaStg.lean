/- Regions that draw their order and hold a chain of effects (each behind the one ahead of it in whatever order), and operations that only read: one walk, in the order of the text. -/
import Derived.Test.YthipnbiilobjeaaOnce
namespace Go.Proofs.Ythipnbiilobjeaa
open Go.RowKit

section
variable {P : Program} {ops : Array Oper} {md : Region.Mode}

def depM (md : Region.Mode) (o : Oper) (m : Nat) : Nat := o.after.toList.foldl (fun m e => if Region.binds md e = true then m ||| (1 <<< e.on) else m) m
/-- What must have come up ahead of the marked ones. -/
def closeD (md : Region.Mode) (ops : Array Oper) : Nat → Nat → Nat
  | 0, m => m
  | n + 1, m => closeD md ops n (match ops[n]? with
    | some o => if m.testBit n = true then depM md o m else m
    | none => m)
def needsB (md : Region.Mode) (ops : Array Oper) (k k' : Nat) : Bool := match ops[k]? with
  | some o => (closeD md ops ops.size (depM md o 0)).testBit k'
  | none => false

theorem depM_ok {L : Nat → Prop} {o : Oper} (h : ∀ e ∈ o.after, Region.binds md e = true → L e.on) : ∀ {m : Nat}, (∀ b, m.testBit b = true → L b) → ∀ b, (depM md o m).testBit b = true → L b := by
  unfold depM
  replace h : ∀ e ∈ o.after.toList, Region.binds md e = true → L e.on := fun e he => h e (Array.mem_toList_iff.1 he)
  generalize o.after.toList = l at h
  induction l with
  | nil => intro m hm b hb; exact hm b hb
  | cons e l ih =>
    intro m hm b hb
    rw [List.foldl_cons] at hb
    refine ih (fun e' he' => h e' (by simp [he'])) (m := if Region.binds md e = true then m ||| (1 <<< e.on) else m) (fun b hb => ?_) b hb
    split at hb
    · rename_i hbi
      rw [Nat.testBit_or, Bool.or_eq_true, Nat.one_shiftLeft, Nat.testBit_two_pow] at hb
      rcases hb with hb | hb
      · exact hm b hb
      · have : e.on = b := by simpa using hb
        rw [← this]
        exact h e (by simp) hbi
    · exact hm b hb
theorem closeD_ok {listed : Array Bool} (inv : HeadInv md ops ops.size listed) : ∀ (n m : Nat), (∀ b, m.testBit b = true → listed.getD b false = true) → ∀ b, (closeD md ops n m).testBit b = true → listed.getD b false = true
  | 0, m, h, b, hb => h b hb
  | n + 1, m, h, b, hb => by
    rw [closeD] at hb
    refine closeD_ok inv n _ (fun b hb => ?_) b hb
    split at hb
    · rename_i o ho
      split at hb
      · rename_i hbit
        exact depM_ok (L := fun b => listed.getD b false = true) (fun e he hbi => inv.closed n o ho (h n hbit) e he hbi) h b hb
      · exact h b hb
    · exact h b hb
theorem needs_listed {listed : Array Bool} (inv : HeadInv md ops ops.size listed) {k k' : Nat} (h : needsB md ops k k' = true) (hk : ∀ o, ops[k]? = some o → ∀ e ∈ o.after, Region.binds md e = true → listed.getD e.on false = true) : listed.getD k' false = true := by
  unfold needsB at h
  split at h
  · rename_i o ho
    exact closeD_ok inv _ _ (fun b hb => depM_ok (L := fun b => listed.getD b false = true) (m := 0) (fun e he hbi => hk o ho e he hbi) (fun b hb => by simp at hb) b hb) _ h
  · cases h

theorem ld {es : List Nat} {i : Nat} (h : i < es.length) : es.getD i 0 = es[i] := by simp [List.getD, h]
theorem getD_tf {listed : Array Bool} {i : Nat} (hi : i < listed.size) (h : listed.getD i true = true) : listed.getD i false = true := by
  simp [hi] at h ⊢; exact h
def chainsB (md : Region.Mode) (ops : Array Oper) (es : List Nat) (his : Nat → Nat) : Bool :=
  (List.range es.length).all (fun i => (List.range i).all fun j => needsB md ops (es.getD i 0) (es.getD j 0) && decide (es.getD j 0 < es.getD i 0)) && es.all (fun e => decide (e < ops.size)) &&
    (List.range ops.size).all (fun k => es.contains k || decide (es.length ≤ his k) || needsB md ops (es.getD (his k) 0) k)

structure Stg (es : List Nat) (listed : Array Bool) (st : Nat) : Prop where
  le : st ≤ es.length
  iff : ∀ i, i < es.length → (listed.getD (es.getD i 0) true = true ↔ i < st)

theorem getD_false_of {listed : Array Bool} {i : Nat} (h : listed.getD i false = true) : listed.getD i true = true := by
  rcases Nat.lt_or_ge i listed.size with h' | h'
  · simp [h'] at h ⊢; exact h
  · simp [Array.getElem?_eq_none h'] at h

def effUpon (w1 : World) (v : Value) : Result Next → Prop
  | .ok (.value u) w => w = w1 ∧ u = v
  | .ok .skip w => w = w1 ∧ v = undef
  | _ => False

/-- What operation 'k' leaves: an effect from its stage to the next one; anything else the same at all stages at which it can come up. -/
def YieldsT (P : Program) (ops : Array Oper) (es : List Nat) (his : Nat → Nat) (Ws : Nat → World) (k : Nat) (o : Oper) (v : Value) (a : Act) : Prop :=
  if k ∈ es then Region.wanted o (yielded ops a.tmps) = true ∧ ∀ i, i < es.length → es.getD i 0 = k → effUpon (Ws (i + 1)) v ((execOp a.eval o).run P (Ws i))
  else (Region.wanted o (yielded ops a.tmps) = true ∧ ∀ s, s ≤ his k → o.quietAt P a (fun w' => w' = Ws s) (Ws s) v) ∨ (Region.wanted o (yielded ops a.tmps) = false ∧ v = undef)

variable {es : List Nat} {his : Nat → Nat} {Ws : Nat → World}

def wpStg (P : Program) (ops : Array Oper) (es : List Nat) (his : Nat → Nat) (Ws : Nat → World) (Q : Act → Prop) : Nat → List Oper → Act → Prop
  | _, [], a => Q a
  | k, o :: rest, a => ∃ v, YieldsT P ops es his Ws k o v a ∧ wpStg P ops es his Ws Q (k + 1) rest (a.put o.dst v)
def tOp (P : Program) (ops : Array Oper) (es : List Nat) (his : Nat → Nat) (Ws : Nat → World) (k : Nat) (K : Act → Prop) (a : Act) : Prop :=
  match ops[k]? with
  | none => K a
  | some o => ∃ v, YieldsT P ops es his Ws k o v a ∧ K (a.put o.dst v)
theorem tOp_mono {i : Nat} {a : Act} {K K' : Act → Prop} (h : ∀ a, K a → K' a) (hh : tOp P ops es his Ws i K a) : tOp P ops es his Ws i K' a := by
  unfold tOp at *
  split at hh
  · exact h _ hh
  · obtain ⟨v, h1, h2⟩ := hh
    exact ⟨v, h1, h _ h2⟩
def allE (es : List Nat) (listed : Array Bool) : Prop := ∀ i, i < es.length → listed.getD (es.getD i 0) true = true
def wpAnyT (P : Program) (md : Region.Mode) (ops : Array Oper) (es : List Nat) (his : Nat → Nat) (Ws : Nat → World) (Q : Act → Prop) : Nat → Array Bool → Act → Prop
  | 0, listed, a => Region.ready md ops listed = [] ∧ allE es listed ∧ Q a
  | fuel + 1, listed, a =>
    (Region.ready md ops listed = [] → allE es listed ∧ Q a) ∧
    ∀ i ∈ Region.ready md ops listed, tOp P ops es his Ws i (wpAnyT P md ops es his Ws Q fuel (listed.setIfInBounds i true)) a

theorem ready_lt {listed : Array Bool} {i : Nat} (hi : i ∈ Region.ready md ops listed) : i < ops.size := by
  obtain ⟨_, o, ho, _⟩ := mem_ready.1 hi
  exact (Array.getElem?_eq_some_iff.1 ho).1

theorem wpOp_of_tOp (hB : chainsB md ops es his = true) {k st : Nat} {listed : Array Bool} {a : Act} {K : Act → Prop} {K' : Act → World → Prop} {Q' : Exit → Act → World → Prop} (inv : HeadInv md ops ops.size listed) (hs : Stg es listed st) (hr : k ∈ Region.ready md ops listed)
    (h : ∀ a st', Stg es (listed.setIfInBounds k true) st' → K a → K' a (Ws st')) (hh : tOp P ops es his Ws k K a) : wpOp P ops Q' k K' a (Ws st) := by
  obtain ⟨hun, o, ho, hdep⟩ := mem_ready.1 hr
  simp only [chainsB, Bool.and_eq_true, List.all_eq_true, List.mem_range, Bool.or_eq_true, decide_eq_true_eq] at hB
  obtain ⟨⟨hch, hlt⟩, hhi⟩ := hB
  unfold tOp at hh
  unfold wpOp
  simp only [ho] at hh ⊢
  obtain ⟨v, hy, hK⟩ := hh
  unfold YieldsT at hy
  have hdep' : ∀ o', ops[k]? = some o' → ∀ e ∈ o'.after, Region.binds md e = true → listed.getD e.on false = true := fun o' ho' => by
    have : o' = o := Option.some.inj (ho'.symm.trans ho)
    subst this
    exact hdep
  by_cases hke : k ∈ es
  · rw [if_pos hke] at hy
    obtain ⟨hw, hrun⟩ := hy
    simp only [hw, if_true]
    obtain ⟨i, hil, hie⟩ := List.getElem_of_mem hke
    have hig : es.getD i 0 = k := by rw [ld hil]; exact hie
    have hnot : ¬ i < st := fun hlt' => by
      have := (hs.iff i hil).2 hlt'
      rw [hig, hun] at this
      cases this
    have hst : st = i := by
      rcases Nat.lt_or_ge st i with hlt' | hge
      · have hc := (hch i hil st hlt').1
        rw [hig] at hc
        have := getD_false_of (needs_listed inv hc hdep')
        exact absurd ((hs.iff st (by omega)).1 this) (by omega)
      · omega
    subst hst
    have h3 := hrun st hil hig
    have hs' : Stg es (listed.setIfInBounds k true) (st + 1) := by
      refine ⟨hil, fun j hj => ?_⟩
      by_cases hjs : j = st
      · subst hjs
        rw [hig, getD_set_same]
        simp
      · have hne : k ≠ es.getD j 0 := fun e => by
          rw [← hig] at e
          rcases Nat.lt_or_ge j st with h1 | h1
          · have := (hch st hil j h1).2; omega
          · have := (hch j hj st (by omega)).2; omega
        rw [getD_set_ne true hne, hs.iff j hj]
        omega
    refine .inl ?_
    unfold Oper.wp
    generalize (execOp a.eval o).run P (Ws st) = r at *
    cases r with
    | ok n w' =>
      cases n <;> simp only [effUpon] at h3 <;> simp only [Oper.upon]
      case value u =>
        obtain ⟨e1, e2⟩ := h3
        rw [e1, e2]
        exact h _ _ hs' hK
      case skip =>
        obtain ⟨e1, e2⟩ := h3
        rw [e1, ← e2]
        exact h _ _ hs' hK
    | halt x w' => simp only [effUpon] at h3
  · rw [if_neg hke] at hy
    have hle : st ≤ his k := by
      rcases hhi k (ready_lt hr) with (h1 | h1) | h1
      · exact absurd (by simpa using h1) hke
      · have := hs.le; omega
      · rcases Nat.lt_or_ge (his k) st with h2 | h2
        · have hl := hs.le
          have hon := (hs.iff (his k) (by omega)).2 h2
          have hb : listed.getD (es.getD (his k) 0) false = true := by
            have hsz : es.getD (his k) 0 < listed.size := by
              rw [inv.size]
              have := hlt (es.getD (his k) 0) (by rw [ld (by omega)]; exact List.getElem_mem _)
              exact this
            exact getD_tf hsz hon
          have hoE : ∃ oE, ops[es.getD (his k) 0]? = some oE := by
            have := hlt (es.getD (his k) 0) (by rw [ld (by omega)]; exact List.getElem_mem _)
            exact ⟨_, Array.getElem?_eq_getElem this⟩
          have hk := getD_false_of (needs_listed inv h1 (fun o' ho' => inv.closed _ o' ho' hb))
          rw [hun] at hk
          cases hk
        · exact h2
    have hs' : Stg es (listed.setIfInBounds k true) st := by
      refine ⟨hs.le, fun j hj => ?_⟩
      have hne : k ≠ es.getD j 0 := fun e => hke (by rw [e, ld hj]; exact List.getElem_mem _)
      rw [getD_set_ne true hne, hs.iff j hj]
    rcases hy with ⟨hw, hq⟩ | ⟨hw, rfl⟩
    · simp only [hw, if_true]
      refine .inl ?_
      refine Oper.wp_of_quiet (C := fun w' => w' = Ws st) rfl (fun a w' hw' hk => by rw [hw']; exact h a st hs' hk) (o := o) (K := K) ⟨v, fun w2 hw2 => ?_, hK⟩
      rw [hw2]
      exact hq st hle
    · simp only [hw, Bool.false_eq_true, if_false]
      exact h _ _ hs' hK

theorem wpAny_of_stg (hB : chainsB md ops es his = true) {Q : Act → Prop} {Q' : Exit → Act → World → Prop} (hQ : ∀ a, Q a → Q' .normal a (Ws es.length)) : ∀ (fuel : Nat) (listed : Array Bool) (a : Act) (st : Nat), HeadInv md ops ops.size listed → Stg es listed st →
    wpAnyT P md ops es his Ws Q fuel listed a → wpAny P md ops Q' fuel listed a (Ws st)
  | 0, listed, a, st, inv, hs, h => ⟨h.1, by
    have : st = es.length := by
      have := hs.le
      rcases Nat.lt_or_ge st es.length with h1 | h1
      · exact absurd ((hs.iff st h1).1 (h.2.1 st h1)) (by omega)
      · omega
    rw [this]; exact hQ _ h.2.2⟩
  | fuel + 1, listed, a, st, inv, hs, h => ⟨fun h0 => by
    have : st = es.length := by
      have := hs.le
      rcases Nat.lt_or_ge st es.length with h1 | h1
      · exact absurd ((hs.iff st h1).1 ((h.1 h0).1 st h1)) (by omega)
      · omega
    rw [this]; exact hQ _ (h.1 h0).2, fun i hi => wpOp_of_tOp (md := md) hB inv hs hi (fun a' st' hs' hk => wpAny_of_stg hB hQ fuel _ a' st' (inv.set hi (ready_lt hi)) hs' hk) (h.2 i hi)⟩

theorem YieldsT.of_same {i : Nat} {o : Oper} {v : Value} {a a' : Act} (hy : YieldsT P ops es his Ws i o v a) (he : execOp a'.eval o = execOp a.eval o)
    (hw : Region.wanted o (yielded ops a'.tmps) = Region.wanted o (yielded ops a.tmps)) : YieldsT P ops es his Ws i o v a' := by
  unfold YieldsT Oper.quietAt at *
  rw [he, hw]
  exact hy
theorem tOp_put {i j : Nat} {oi oj : Oper} {v : Value} (hj : ops[j]? = some oj) (hap : oi.apart ops oj = true)
    (hsi : ∀ cs b, oi.op ≠ .select cs b) (hsj : ∀ cs b, oj.op ≠ .select cs b) {K : Act → Prop} {a : Act}
    (hy : YieldsT P ops es his Ws i oi v a) (h : tOp P ops es his Ws j K (a.put oi.dst v)) :
    tOp P ops es his Ws j (fun a' => YieldsT P ops es his Ws i oi v a' ∧ K (a'.put oi.dst v)) a := by
  obtain ⟨h1, h2, h3⟩ := Oper.apart_spec hap
  unfold tOp at *
  simp only [hj] at *
  obtain ⟨u, hu, hn⟩ := h
  exact ⟨u, hu.of_same (execOp_put oj hsj a oi.dst v h1).symm (wanted_put oj a oi.dst v h1).symm, hy.of_same (execOp_put oi hsi a oj.dst u h3) (wanted_put oi a oj.dst u h3), by rw [← Act.put_comm a v u h2]; exact hn⟩
theorem YieldsT.tOp {i : Nat} {o : Oper} {v : Value} {a : Act} (hi : ops[i]? = some o) (hy : YieldsT P ops es his Ws i o v a) {K : Act → Prop} (h : K (a.put o.dst v)) : tOp P ops es his Ws i K a := by
  unfold Go.Proofs.Ythipnbiilobjeaa.tOp
  simp only [hi]
  exact ⟨v, hy, h⟩

theorem wpAnyT_first {Q : Act → Prop} {i : Nat} {oi : Oper} {v : Value} (hi : ops[i]? = some oi) (hsel : ∀ (j : Nat) (o : Oper) cs b, ops[j]? = some o → o.op ≠ .select cs b) :
    ∀ (fuel : Nat) (listed : Array Bool) (a : Act),
      (∀ j oj, ops[j]? = some oj → j ≠ i → listed.getD j true = false → (∀ e ∈ oj.after, Region.binds md e = true → e.on ≠ i) → oi.apart ops oj = true) →
      i ∈ Region.ready md ops listed → YieldsT P ops es his Ws i oi v a →
      wpAnyT P md ops es his Ws Q fuel (listed.setIfInBounds i true) (a.put oi.dst v) → wpAnyT P md ops es his Ws Q (fuel + 1) listed a := by
  intro fuel
  induction fuel with
  | zero =>
    intro listed a _ hr hy H
    refine ⟨fun h => (by rw [h] at hr; cases hr), fun j hj => ?_⟩
    by_cases hji : j = i
    · subst hji; exact hy.tOp hi H
    · have := ready_mono hj hji
      rw [H.1] at this
      cases this
  | succ fuel ih =>
    intro listed a hfree hr hy H
    refine ⟨fun h => (by rw [h] at hr; cases hr), fun j hj => ?_⟩
    by_cases hji : j = i
    · subst hji; exact hy.tOp hi H
    · have h1 := H.2 j (ready_mono hj hji)
      obtain ⟨hjun, oj, hoj, hall⟩ := mem_ready.1 hj
      have hnot : ∀ e ∈ oj.after, Region.binds md e = true → e.on ≠ i := fun e he hb heq => by
        have h1 := hall e he hb
        have h0 := (mem_ready.1 hr).1
        rw [heq] at h1
        rcases Nat.lt_or_ge i listed.size with h' | h'
        · simp [h'] at h0 h1; rw [h0] at h1; cases h1
        · simp [Array.getElem?_eq_none h'] at h1
      have h2 := tOp_put hoj (hfree j oj hoj hji hjun hnot) (fun cs b => hsel i oi cs b hi) (fun cs b => hsel j oj cs b hoj) hy h1
      have hfree' : ∀ k ok, ops[k]? = some ok → k ≠ i → (listed.setIfInBounds j true).getD k true = false →
          (∀ e ∈ ok.after, Region.binds md e = true → e.on ≠ i) → oi.apart ops ok = true := fun k ok hk hki hun hno => by
        refine hfree k ok hk hki ?_ hno
        by_cases hjk : j = k
        · subst hjk; exact hjun
        · rw [getD_set_ne true hjk] at hun; exact hun
      refine tOp_mono (fun a' h3 => ih (listed.setIfInBounds j true) a' hfree' (ready_mono hr (Ne.symm hji)) h3.1 ?_) h2
      rw [Array.setIfInBounds_comm _ _ hji]
      exact h3.2

theorem wpAnyT_lex {Q : Act → Prop} (hsel : Region.noSelect ops = true) (hes : ∀ i, i < es.length → es.getD i 0 < ops.size) : ∀ (l : List Oper) (k : Nat) (listed : Array Bool) (a : Act), (∀ j, l[j]? = ops[k + j]?) → (∀ j, j < k → listed.getD j true = true) →
    Region.lexFrom md ops l.length k listed = true → wpStg P ops es his Ws Q k l a → wpAnyT P md ops es his Ws Q l.length listed a
  | [], k, listed, _, hl, hd, hB, h => ⟨by simpa [Region.lexFrom] using hB, fun i hi => hd _ (by
      have hsz := hes i hi
      rcases Nat.lt_or_ge (es.getD i 0) k with h' | h'
      · exact h'
      · have := hl (es.getD i 0 - k)
        rw [show k + (es.getD i 0 - k) = es.getD i 0 by omega, Array.getElem?_eq_getElem hsz] at this
        simp at this), h⟩
  | o :: l, k, listed, a, hl, hd, hB, h => by
    have h0 : ops[k]? = some o := by simpa using (hl 0).symm
    simp only [List.length_cons, Region.lexFrom, Bool.and_eq_true] at hB
    obtain ⟨⟨hr, hf⟩, hB'⟩ := hB
    obtain ⟨v, hy, hK⟩ := h
    exact wpAnyT_first h0 (Region.noSelect_spec hsel) l.length listed a (Region.free_spec h0 hf) (by simpa using hr) hy
      (wpAnyT_lex hsel hes l (k + 1) _ _ (fun j => by have := hl (j + 1); simpa [Nat.add_assoc, Nat.add_comm 1 j] using this) (fun j hj => by
        by_cases e : k = j
        · subst e; exact getD_set_same _ _
        · rw [getD_set_ne true e]; exact hd j (by omega)) hB' hK)

/-- One walk, in the order of the text: the effects 'es' (places in the region), from world to world; what else there is only reads, the same at all stages up to 'his' of its place. -/
theorem region_stages {id : Nat} {Q : Exit → Act → World → Prop} {a : Act} {w : World} {l : List Oper} (es : List Nat) (his : Nat → Nat) (Ws : Nat → World) (hm : P.follows .mixedOrders = true) (hB : (Region.lexB .any l.toArray && chainsB .any l.toArray es his) = true) (h0 : Ws 0 = w.drew)
    (h : wpStg P l.toArray es his Ws (fun a' => Q .normal a' (Ws es.length)) 0 l a) : (Code.region id l.toArray true).wp P Q a w := by
  simp only [Region.lexB, Bool.and_eq_true] at hB
  obtain ⟨⟨hsel, hlex⟩, hch⟩ := hB
  have hes : ∀ i, i < es.length → es.getD i 0 < l.toArray.size := fun i hi => by
    simp only [chainsB, Bool.and_eq_true, List.all_eq_true, decide_eq_true_eq] at hch
    exact hch.1.2 _ (by rw [ld hi]; exact List.getElem_mem _)
  have inv0 : HeadInv .any l.toArray l.toArray.size (Array.replicate l.toArray.size false) :=
    ⟨by simp, fun j oj _ hl => (by rw [getD_replicate_false] at hl; cases hl), fun t ht ht' => by omega⟩
  have hs0 : Stg es (Array.replicate l.toArray.size false) 0 := ⟨Nat.zero_le _, fun i hi => by
    rw [show (Array.replicate l.toArray.size false).getD (es.getD i 0) true = false from getD_in (by simpa using hes i hi) (getD_replicate_false _ _)]
    simp⟩
  refine wp_region_any hm ?_
  have := wpAny_of_stg (Q' := Q) hch (Q := fun a' => Q .normal a' (Ws es.length)) (fun a' h => h) l.toArray.size (Array.replicate l.toArray.size false) a 0 inv0 hs0 (by
    have := wpAnyT_lex (md := .any) (P := P) (es := es) (his := his) (Ws := Ws) (Q := fun a' => Q .normal a' (Ws es.length)) hsel hes l 0 (Array.replicate l.toArray.size false) a (fun j => by simp) (fun j hj => absurd hj (Nat.not_lt_zero _)) (by simpa using hlex) h
    simpa using this)
  rw [h0] at this
  exact this

/-! ### The steps -/
theorem stg_nil {Q : Act → Prop} {k : Nat} {a : Act} (h : Q a) : wpStg P ops es his Ws Q k [] a := h
theorem stg_step {Q : Act → Prop} {k : Nat} {a : Act} {o : Oper} {rest : List Oper} (n : Nat) (hk : (!es.contains k && his k == n) = true)
    (h : ∀ K : Act → Prop, (∀ a, wpStg P ops es his Ws Q (k + 1) rest a → K a) → if Region.wanted o (yielded ops a.tmps) then (∃ v, (∀ s : { s : Nat // s ≤ n }, o.quietAt P a (fun w' => w' = Ws s.1) (Ws s.1) v) ∧ K (a.put o.dst v)) else K (a.put o.dst undef)) : wpStg P ops es his Ws Q k (o :: rest) a := by
  have := h _ (fun _ h => h)
  simp only [Bool.and_eq_true, beq_iff_eq, Bool.not_eq_true'] at hk
  obtain ⟨hk, rfl⟩ := hk
  have hk' : ¬ k ∈ es := by simpa using hk
  unfold wpStg YieldsT
  simp only [if_neg hk']
  split at this
  · rename_i hw
    obtain ⟨v, h1, h2⟩ := this
    exact ⟨v, .inl ⟨hw, fun s hs => h1 ⟨s, hs⟩⟩, h2⟩
  · rename_i hw
    exact ⟨_, .inr ⟨by simpa using hw, rfl⟩, this⟩
theorem stg_eff {Q : Act → Prop} {k : Nat} {a : Act} {o : Oper} {rest : List Oper} (i : Nat) (v : Value) (hk : ((List.range es.length).all fun j => (es.getD j 0 == k) == (j == i)) = true) (hi : i < es.length) (hg : o.guard = none)
    (h : effUpon (Ws (i + 1)) v ((execOp a.eval o).run P (Ws i))) (h' : wpStg P ops es his Ws Q (k + 1) rest (a.put o.dst v)) : wpStg P ops es his Ws Q k (o :: rest) a := by
  simp only [List.all_eq_true, List.mem_range, beq_iff_eq] at hk
  have hki : es.getD i 0 = k := by
    have := hk i hi
    simpa using this
  have hk' : k ∈ es := by rw [← hki, ld hi]; exact List.getElem_mem _
  unfold wpStg YieldsT
  simp only [if_pos hk']
  refine ⟨v, ⟨by unfold Region.wanted; rw [hg], fun j hj hjk => ?_⟩, h'⟩
  have := hk j hj
  rw [hjk] at this
  have : j = i := by simpa using this
  subst this
  exact h
instance stNonempty (n : Nat) : Nonempty { s : Nat // s ≤ n } := ⟨⟨0, Nat.zero_le _⟩⟩

/-- An append whose run is known, as an effect. -/
theorem eff_append {a : Act} {o : Oper} {W w1 : World} {v v2 v' : Value} {ts : TypeId} (s x : Operand) (ho : o.op = .call { callee := .builtin .append, args := #[s, x], argTypes := #[ts, ts] }) (hs : a.eval s = v) (hx : a.eval x = v2)
    (hr : (Builtin.append_ #[ts, ts] o.type #[v, v2]).run P W = .ok v' w1) : effUpon w1 v' ((execOp a.eval o).run P W) := by
  unfold execOp
  simp only [ho, resolve, invoke, builtin, Sem.run_bind, Sem.run_pure, Result.andThen_ok, List.map_toArray, List.map_cons, List.map_nil, hs, hx, hr]
  exact ⟨rfl, rfl⟩
end
end Go.Proofs.Ythipnbiilobjeaa
