/- Regions that draw their order and hold a chain of effects (each behind the one ahead of it in whatever order), and operations that only read: one walk, in the order of the text. The trie: build, walked. The trie: build of a branch. The trie: build; the trie of pairs. -/
import Derived.Test.YtefmlbckbhlgdaaTg4
import Derived.Test.YtefmlbckbhlgdaaTg8
namespace Go.Proofs.Ytefmlbckbhlgdaa
open Go.RowKit
section
variable {P : Program} {ops : Array Oper} {md : Region.Mode}
def depM (md : Region.Mode) (o : Oper) (m : Nat) : Nat := o.after.toList.foldl (fun m e => if Region.binds md e = true then m ||| (1 <<< e.on) else m) m
/-- What must have come up ahead of the marked ones. -/
def closeD (md : Region.Mode) (ops : Array Oper) : Nat → Nat → Nat
  | 0, m => m
  | n + 1, m => closeD md ops n (match ops[n]? with
    | some o => if m.testBit n = true then depM md o m else m
    | none => m)
def needsB (md : Region.Mode) (ops : Array Oper) (k k' : Nat) : Bool := match ops[k]? with
  | some o => (closeD md ops ops.size (depM md o 0)).testBit k'
  | none => false

theorem depM_ok {L : Nat → Prop} {o : Oper} (h : ∀ e ∈ o.after, Region.binds md e = true → L e.on) : ∀ {m : Nat}, (∀ b, m.testBit b = true → L b) → ∀ b, (depM md o m).testBit b = true → L b := by
  unfold depM
  replace h : ∀ e ∈ o.after.toList, Region.binds md e = true → L e.on := fun e he => h e (Array.mem_toList_iff.1 he)
  generalize o.after.toList = l at h
  induction l with
  | nil => intro m hm b hb; exact hm b hb
  | cons e l ih =>
    intro m hm b hb
    rw [List.foldl_cons] at hb
    refine ih (fun e' he' => h e' (by simp [he'])) (m := if Region.binds md e = true then m ||| (1 <<< e.on) else m) (fun b hb => ?_) b hb
    split at hb
    · rename_i hbi
      rw [Nat.testBit_or, Bool.or_eq_true, Nat.one_shiftLeft, Nat.testBit_two_pow] at hb
      rcases hb with hb | hb
      · exact hm b hb
      · have : e.on = b := by simpa using hb
        rw [← this]
        exact h e (by simp) hbi
    · exact hm b hb
theorem closeD_ok {listed : Array Bool} (inv : HeadInv md ops ops.size listed) : ∀ (n m : Nat), (∀ b, m.testBit b = true → listed.getD b false = true) → ∀ b, (closeD md ops n m).testBit b = true → listed.getD b false = true
  | 0, m, h, b, hb => h b hb
  | n + 1, m, h, b, hb => by
    rw [closeD] at hb
    refine closeD_ok inv n _ (fun b hb => ?_) b hb
    split at hb
    · rename_i o ho
      split at hb
      · rename_i hbit
        exact depM_ok (L := fun b => listed.getD b false = true) (fun e he hbi => inv.closed n o ho (h n hbit) e he hbi) h b hb
      · exact h b hb
    · exact h b hb
theorem needs_listed {listed : Array Bool} (inv : HeadInv md ops ops.size listed) {k k' : Nat} (h : needsB md ops k k' = true) (hk : ∀ o, ops[k]? = some o → ∀ e ∈ o.after, Region.binds md e = true → listed.getD e.on false = true) : listed.getD k' false = true := by
  unfold needsB at h
  split at h
  · rename_i o ho
    exact closeD_ok inv _ _ (fun b hb => depM_ok (L := fun b => listed.getD b false = true) (m := 0) (fun e he hbi => hk o ho e he hbi) (fun b hb => by simp at hb) b hb) _ h
  · cases h

theorem ld {es : List Nat} {i : Nat} (h : i < es.length) : es.getD i 0 = es[i] := by simp [List.getD, h]
theorem getD_tf {listed : Array Bool} {i : Nat} (hi : i < listed.size) (h : listed.getD i true = true) : listed.getD i false = true := by
  simp [hi] at h ⊢; exact h
def chainsB (md : Region.Mode) (ops : Array Oper) (es : List Nat) (his : Nat → Nat) : Bool :=
  (List.range es.length).all (fun i => (List.range i).all fun j => needsB md ops (es.getD i 0) (es.getD j 0) && decide (es.getD j 0 < es.getD i 0)) && es.all (fun e => decide (e < ops.size)) &&
    (List.range ops.size).all (fun k => es.contains k || decide (es.length ≤ his k) || needsB md ops (es.getD (his k) 0) k)

structure Stg (es : List Nat) (listed : Array Bool) (st : Nat) : Prop where
  le : st ≤ es.length
  iff : ∀ i, i < es.length → (listed.getD (es.getD i 0) true = true ↔ i < st)

theorem getD_false_of {listed : Array Bool} {i : Nat} (h : listed.getD i false = true) : listed.getD i true = true := by
  rcases Nat.lt_or_ge i listed.size with h' | h'
  · simp [h'] at h ⊢; exact h
  · simp [Array.getElem?_eq_none h'] at h

def effUpon (w1 : World) (v : Value) : Result Next → Prop
  | .ok (.value u) w => w = w1 ∧ u = v
  | .ok .skip w => w = w1 ∧ v = undef
  | _ => False

/-- What operation 'k' leaves: an effect from its stage to the next one; anything else the same at all stages at which it can come up. -/
def YieldsT (P : Program) (ops : Array Oper) (es : List Nat) (his : Nat → Nat) (Ws : Nat → World) (k : Nat) (o : Oper) (v : Value) (a : Act) : Prop :=
  if k ∈ es then Region.wanted o (yielded ops a.tmps) = true ∧ ∀ i, i < es.length → es.getD i 0 = k → effUpon (Ws (i + 1)) v ((execOp a.eval o).run P (Ws i))
  else (Region.wanted o (yielded ops a.tmps) = true ∧ ∀ s, s ≤ his k → o.quietAt P a (fun w' => w' = Ws s) (Ws s) v) ∨ (Region.wanted o (yielded ops a.tmps) = false ∧ v = undef)

variable {es : List Nat} {his : Nat → Nat} {Ws : Nat → World}
def wpStg (P : Program) (ops : Array Oper) (es : List Nat) (his : Nat → Nat) (Ws : Nat → World) (Q : Act → Prop) : Nat → List Oper → Act → Prop
  | _, [], a => Q a
  | k, o :: rest, a => ∃ v, YieldsT P ops es his Ws k o v a ∧ wpStg P ops es his Ws Q (k + 1) rest (a.put o.dst v)
def tOp (P : Program) (ops : Array Oper) (es : List Nat) (his : Nat → Nat) (Ws : Nat → World) (k : Nat) (K : Act → Prop) (a : Act) : Prop :=
  match ops[k]? with
  | none => K a
  | some o => ∃ v, YieldsT P ops es his Ws k o v a ∧ K (a.put o.dst v)
theorem tOp_mono {i : Nat} {a : Act} {K K' : Act → Prop} (h : ∀ a, K a → K' a) (hh : tOp P ops es his Ws i K a) : tOp P ops es his Ws i K' a := by
  unfold tOp at *
  split at hh
  · exact h _ hh
  · obtain ⟨v, h1, h2⟩ := hh
    exact ⟨v, h1, h _ h2⟩
def allE (es : List Nat) (listed : Array Bool) : Prop := ∀ i, i < es.length → listed.getD (es.getD i 0) true = true
def wpAnyT (P : Program) (md : Region.Mode) (ops : Array Oper) (es : List Nat) (his : Nat → Nat) (Ws : Nat → World) (Q : Act → Prop) : Nat → Array Bool → Act → Prop
  | 0, listed, a => Region.ready md ops listed = [] ∧ allE es listed ∧ Q a
  | fuel + 1, listed, a =>
    (Region.ready md ops listed = [] → allE es listed ∧ Q a) ∧
    ∀ i ∈ Region.ready md ops listed, tOp P ops es his Ws i (wpAnyT P md ops es his Ws Q fuel (listed.setIfInBounds i true)) a

theorem ready_lt {listed : Array Bool} {i : Nat} (hi : i ∈ Region.ready md ops listed) : i < ops.size := by
  obtain ⟨_, o, ho, _⟩ := mem_ready.1 hi
  exact (Array.getElem?_eq_some_iff.1 ho).1

theorem wpOp_of_tOp (hB : chainsB md ops es his = true) {k st : Nat} {listed : Array Bool} {a : Act} {K : Act → Prop} {K' : Act → World → Prop} {Q' : Exit → Act → World → Prop} (inv : HeadInv md ops ops.size listed) (hs : Stg es listed st) (hr : k ∈ Region.ready md ops listed)
    (h : ∀ a st', Stg es (listed.setIfInBounds k true) st' → K a → K' a (Ws st')) (hh : tOp P ops es his Ws k K a) : wpOp P ops Q' k K' a (Ws st) := by
  obtain ⟨hun, o, ho, hdep⟩ := mem_ready.1 hr
  simp only [chainsB, Bool.and_eq_true, List.all_eq_true, List.mem_range, Bool.or_eq_true, decide_eq_true_eq] at hB
  obtain ⟨⟨hch, hlt⟩, hhi⟩ := hB
  unfold tOp at hh
  unfold wpOp
  simp only [ho] at hh ⊢
  obtain ⟨v, hy, hK⟩ := hh
  unfold YieldsT at hy
  have hdep' : ∀ o', ops[k]? = some o' → ∀ e ∈ o'.after, Region.binds md e = true → listed.getD e.on false = true := fun o' ho' => by
    have : o' = o := Option.some.inj (ho'.symm.trans ho)
    subst this
    exact hdep
  by_cases hke : k ∈ es
  · rw [if_pos hke] at hy
    obtain ⟨hw, hrun⟩ := hy
    simp only [hw, if_true]
    obtain ⟨i, hil, hie⟩ := List.getElem_of_mem hke
    have hig : es.getD i 0 = k := by rw [ld hil]; exact hie
    have hnot : ¬ i < st := fun hlt' => by
      have := (hs.iff i hil).2 hlt'
      rw [hig, hun] at this
      cases this
    have hst : st = i := by
      rcases Nat.lt_or_ge st i with hlt' | hge
      · have hc := (hch i hil st hlt').1
        rw [hig] at hc
        have := getD_false_of (needs_listed inv hc hdep')
        exact absurd ((hs.iff st (by omega)).1 this) (by omega)
      · omega
    subst hst
    have h3 := hrun st hil hig
    have hs' : Stg es (listed.setIfInBounds k true) (st + 1) := by
      refine ⟨hil, fun j hj => ?_⟩
      by_cases hjs : j = st
      · subst hjs
        rw [hig, getD_set_same]
        simp
      · have hne : k ≠ es.getD j 0 := fun e => by
          rw [← hig] at e
          rcases Nat.lt_or_ge j st with h1 | h1
          · have := (hch st hil j h1).2; omega
          · have := (hch j hj st (by omega)).2; omega
        rw [getD_set_ne true hne, hs.iff j hj]
        omega
    refine .inl ?_
    unfold Oper.wp
    generalize (execOp a.eval o).run P (Ws st) = r at *
    cases r with
    | ok n w' =>
      cases n <;> simp only [effUpon] at h3 <;> simp only [Oper.upon]
      case value u =>
        obtain ⟨e1, e2⟩ := h3
        rw [e1, e2]
        exact h _ _ hs' hK
      case skip =>
        obtain ⟨e1, e2⟩ := h3
        rw [e1, ← e2]
        exact h _ _ hs' hK
    | halt x w' => simp only [effUpon] at h3
  · rw [if_neg hke] at hy
    have hle : st ≤ his k := by
      rcases hhi k (ready_lt hr) with (h1 | h1) | h1
      · exact absurd (by simpa using h1) hke
      · have := hs.le; omega
      · rcases Nat.lt_or_ge (his k) st with h2 | h2
        · have hl := hs.le
          have hon := (hs.iff (his k) (by omega)).2 h2
          have hb : listed.getD (es.getD (his k) 0) false = true := by
            have hsz : es.getD (his k) 0 < listed.size := by
              rw [inv.size]
              have := hlt (es.getD (his k) 0) (by rw [ld (by omega)]; exact List.getElem_mem _)
              exact this
            exact getD_tf hsz hon
          have hoE : ∃ oE, ops[es.getD (his k) 0]? = some oE := by
            have := hlt (es.getD (his k) 0) (by rw [ld (by omega)]; exact List.getElem_mem _)
            exact ⟨_, Array.getElem?_eq_getElem this⟩
          have hk := getD_false_of (needs_listed inv h1 (fun o' ho' => inv.closed _ o' ho' hb))
          rw [hun] at hk
          cases hk
        · exact h2
    have hs' : Stg es (listed.setIfInBounds k true) st := by
      refine ⟨hs.le, fun j hj => ?_⟩
      have hne : k ≠ es.getD j 0 := fun e => hke (by rw [e, ld hj]; exact List.getElem_mem _)
      rw [getD_set_ne true hne, hs.iff j hj]
    rcases hy with ⟨hw, hq⟩ | ⟨hw, rfl⟩
    · simp only [hw, if_true]
      refine .inl ?_
      refine Oper.wp_of_quiet (C := fun w' => w' = Ws st) rfl (fun a w' hw' hk => by rw [hw']; exact h a st hs' hk) (o := o) (K := K) ⟨v, fun w2 hw2 => ?_, hK⟩
      rw [hw2]
      exact hq st hle
    · simp only [hw, Bool.false_eq_true, if_false]
      exact h _ _ hs' hK

theorem wpAny_of_stg (hB : chainsB md ops es his = true) {Q : Act → Prop} {Q' : Exit → Act → World → Prop} (hQ : ∀ a, Q a → Q' .normal a (Ws es.length)) : ∀ (fuel : Nat) (listed : Array Bool) (a : Act) (st : Nat), HeadInv md ops ops.size listed → Stg es listed st →
    wpAnyT P md ops es his Ws Q fuel listed a → wpAny P md ops Q' fuel listed a (Ws st)
  | 0, listed, a, st, inv, hs, h => ⟨h.1, by
    have : st = es.length := by
      have := hs.le
      rcases Nat.lt_or_ge st es.length with h1 | h1
      · exact absurd ((hs.iff st h1).1 (h.2.1 st h1)) (by omega)
      · omega
    rw [this]; exact hQ _ h.2.2⟩
  | fuel + 1, listed, a, st, inv, hs, h => ⟨fun h0 => by
    have : st = es.length := by
      have := hs.le
      rcases Nat.lt_or_ge st es.length with h1 | h1
      · exact absurd ((hs.iff st h1).1 ((h.1 h0).1 st h1)) (by omega)
      · omega
    rw [this]; exact hQ _ (h.1 h0).2, fun i hi => wpOp_of_tOp (md := md) hB inv hs hi (fun a' st' hs' hk => wpAny_of_stg hB hQ fuel _ a' st' (inv.set hi (ready_lt hi)) hs' hk) (h.2 i hi)⟩

theorem YieldsT.of_same {i : Nat} {o : Oper} {v : Value} {a a' : Act} (hy : YieldsT P ops es his Ws i o v a) (he : execOp a'.eval o = execOp a.eval o)
    (hw : Region.wanted o (yielded ops a'.tmps) = Region.wanted o (yielded ops a.tmps)) : YieldsT P ops es his Ws i o v a' := by
  unfold YieldsT Oper.quietAt at *
  rw [he, hw]
  exact hy
theorem tOp_put {i j : Nat} {oi oj : Oper} {v : Value} (hj : ops[j]? = some oj) (hap : oi.apart ops oj = true)
    (hsi : ∀ cs b, oi.op ≠ .select cs b) (hsj : ∀ cs b, oj.op ≠ .select cs b) {K : Act → Prop} {a : Act}
    (hy : YieldsT P ops es his Ws i oi v a) (h : tOp P ops es his Ws j K (a.put oi.dst v)) :
    tOp P ops es his Ws j (fun a' => YieldsT P ops es his Ws i oi v a' ∧ K (a'.put oi.dst v)) a := by
  obtain ⟨h1, h2, h3⟩ := Oper.apart_spec hap
  unfold tOp at *
  simp only [hj] at *
  obtain ⟨u, hu, hn⟩ := h
  exact ⟨u, hu.of_same (execOp_put oj hsj a oi.dst v h1).symm (wanted_put oj a oi.dst v h1).symm, hy.of_same (execOp_put oi hsi a oj.dst u h3) (wanted_put oi a oj.dst u h3), by rw [← Act.put_comm a v u h2]; exact hn⟩
theorem YieldsT.tOp {i : Nat} {o : Oper} {v : Value} {a : Act} (hi : ops[i]? = some o) (hy : YieldsT P ops es his Ws i o v a) {K : Act → Prop} (h : K (a.put o.dst v)) : tOp P ops es his Ws i K a := by
  unfold Go.Proofs.Ytefmlbckbhlgdaa.tOp
  simp only [hi]
  exact ⟨v, hy, h⟩

theorem wpAnyT_first {Q : Act → Prop} {i : Nat} {oi : Oper} {v : Value} (hi : ops[i]? = some oi) (hsel : ∀ (j : Nat) (o : Oper) cs b, ops[j]? = some o → o.op ≠ .select cs b) :
    ∀ (fuel : Nat) (listed : Array Bool) (a : Act),
      (∀ j oj, ops[j]? = some oj → j ≠ i → listed.getD j true = false → (∀ e ∈ oj.after, Region.binds md e = true → e.on ≠ i) → oi.apart ops oj = true) →
      i ∈ Region.ready md ops listed → YieldsT P ops es his Ws i oi v a →
      wpAnyT P md ops es his Ws Q fuel (listed.setIfInBounds i true) (a.put oi.dst v) → wpAnyT P md ops es his Ws Q (fuel + 1) listed a := by
  intro fuel
  induction fuel with
  | zero =>
    intro listed a _ hr hy H
    refine ⟨fun h => (by rw [h] at hr; cases hr), fun j hj => ?_⟩
    by_cases hji : j = i
    · subst hji; exact hy.tOp hi H
    · have := ready_mono hj hji
      rw [H.1] at this
      cases this
  | succ fuel ih =>
    intro listed a hfree hr hy H
    refine ⟨fun h => (by rw [h] at hr; cases hr), fun j hj => ?_⟩
    by_cases hji : j = i
    · subst hji; exact hy.tOp hi H
    · have h1 := H.2 j (ready_mono hj hji)
      obtain ⟨hjun, oj, hoj, hall⟩ := mem_ready.1 hj
      have hnot : ∀ e ∈ oj.after, Region.binds md e = true → e.on ≠ i := fun e he hb heq => by
        have h1 := hall e he hb
        have h0 := (mem_ready.1 hr).1
        rw [heq] at h1
        rcases Nat.lt_or_ge i listed.size with h' | h'
        · simp [h'] at h0 h1; rw [h0] at h1; cases h1
        · simp [Array.getElem?_eq_none h'] at h1
      have h2 := tOp_put hoj (hfree j oj hoj hji hjun hnot) (fun cs b => hsel i oi cs b hi) (fun cs b => hsel j oj cs b hoj) hy h1
      have hfree' : ∀ k ok, ops[k]? = some ok → k ≠ i → (listed.setIfInBounds j true).getD k true = false →
          (∀ e ∈ ok.after, Region.binds md e = true → e.on ≠ i) → oi.apart ops ok = true := fun k ok hk hki hun hno => by
        refine hfree k ok hk hki ?_ hno
        by_cases hjk : j = k
        · subst hjk; exact hjun
        · rw [getD_set_ne true hjk] at hun; exact hun
      refine tOp_mono (fun a' h3 => ih (listed.setIfInBounds j true) a' hfree' (ready_mono hr (Ne.symm hji)) h3.1 ?_) h2
      rw [Array.setIfInBounds_comm _ _ hji]
      exact h3.2

theorem wpAnyT_lex {Q : Act → Prop} (hsel : Region.noSelect ops = true) (hes : ∀ i, i < es.length → es.getD i 0 < ops.size) : ∀ (l : List Oper) (k : Nat) (listed : Array Bool) (a : Act), (∀ j, l[j]? = ops[k + j]?) → (∀ j, j < k → listed.getD j true = true) →
    Region.lexFrom md ops l.length k listed = true → wpStg P ops es his Ws Q k l a → wpAnyT P md ops es his Ws Q l.length listed a
  | [], k, listed, _, hl, hd, hB, h => ⟨by simpa [Region.lexFrom] using hB, fun i hi => hd _ (by
      have hsz := hes i hi
      rcases Nat.lt_or_ge (es.getD i 0) k with h' | h'
      · exact h'
      · have := hl (es.getD i 0 - k)
        rw [show k + (es.getD i 0 - k) = es.getD i 0 by omega, Array.getElem?_eq_getElem hsz] at this
        simp at this), h⟩
  | o :: l, k, listed, a, hl, hd, hB, h => by
    have h0 : ops[k]? = some o := by simpa using (hl 0).symm
    simp only [List.length_cons, Region.lexFrom, Bool.and_eq_true] at hB
    obtain ⟨⟨hr, hf⟩, hB'⟩ := hB
    obtain ⟨v, hy, hK⟩ := h
    exact wpAnyT_first h0 (Region.noSelect_spec hsel) l.length listed a (Region.free_spec h0 hf) (by simpa using hr) hy
      (wpAnyT_lex hsel hes l (k + 1) _ _ (fun j => by have := hl (j + 1); simpa [Nat.add_assoc, Nat.add_comm 1 j] using this) (fun j hj => by
        by_cases e : k = j
        · subst e; exact getD_set_same _ _
        · rw [getD_set_ne true e]; exact hd j (by omega)) hB' hK)

/-- One walk, in the order of the text: the effects 'es' (places in the region), from world to world; what else there is only reads, the same at all stages up to 'his' of its place. -/
theorem region_stages {id : Nat} {Q : Exit → Act → World → Prop} {a : Act} {w : World} {l : List Oper} (es : List Nat) (his : Nat → Nat) (Ws : Nat → World) (hm : P.follows .mixedOrders = true) (hB : (Region.lexB .any l.toArray && chainsB .any l.toArray es his) = true) (h0 : Ws 0 = w.drew)
    (h : wpStg P l.toArray es his Ws (fun a' => Q .normal a' (Ws es.length)) 0 l a) : (Code.region id l.toArray true).wp P Q a w := by
  simp only [Region.lexB, Bool.and_eq_true] at hB
  obtain ⟨⟨hsel, hlex⟩, hch⟩ := hB
  have hes : ∀ i, i < es.length → es.getD i 0 < l.toArray.size := fun i hi => by
    simp only [chainsB, Bool.and_eq_true, List.all_eq_true, decide_eq_true_eq] at hch
    exact hch.1.2 _ (by rw [ld hi]; exact List.getElem_mem _)
  have inv0 : HeadInv .any l.toArray l.toArray.size (Array.replicate l.toArray.size false) :=
    ⟨by simp, fun j oj _ hl => (by rw [getD_replicate_false] at hl; cases hl), fun t ht ht' => by omega⟩
  have hs0 : Stg es (Array.replicate l.toArray.size false) 0 := ⟨Nat.zero_le _, fun i hi => by
    rw [show (Array.replicate l.toArray.size false).getD (es.getD i 0) true = false from getD_in (by simpa using hes i hi) (getD_replicate_false _ _)]
    simp⟩
  refine wp_region_any hm ?_
  have := wpAny_of_stg (Q' := Q) hch (Q := fun a' => Q .normal a' (Ws es.length)) (fun a' h => h) l.toArray.size (Array.replicate l.toArray.size false) a 0 inv0 hs0 (by
    have := wpAnyT_lex (md := .any) (P := P) (es := es) (his := his) (Ws := Ws) (Q := fun a' => Q .normal a' (Ws es.length)) hsel hes l 0 (Array.replicate l.toArray.size false) a (fun j => by simp) (fun j hj => absurd hj (Nat.not_lt_zero _)) (by simpa using hlex) h
    simpa using this)
  rw [h0] at this
  exact this

/-! ### The steps -/
theorem stg_nil {Q : Act → Prop} {k : Nat} {a : Act} (h : Q a) : wpStg P ops es his Ws Q k [] a := h
theorem stg_step {Q : Act → Prop} {k : Nat} {a : Act} {o : Oper} {rest : List Oper} (n : Nat) (hk : (!es.contains k && his k == n) = true)
    (h : ∀ K : Act → Prop, (∀ a, wpStg P ops es his Ws Q (k + 1) rest a → K a) → if Region.wanted o (yielded ops a.tmps) then (∃ v, (∀ s : { s : Nat // s ≤ n }, o.quietAt P a (fun w' => w' = Ws s.1) (Ws s.1) v) ∧ K (a.put o.dst v)) else K (a.put o.dst undef)) : wpStg P ops es his Ws Q k (o :: rest) a := by
  have := h _ (fun _ h => h)
  simp only [Bool.and_eq_true, beq_iff_eq, Bool.not_eq_true'] at hk
  obtain ⟨hk, rfl⟩ := hk
  have hk' : ¬ k ∈ es := by simpa using hk
  unfold wpStg YieldsT
  simp only [if_neg hk']
  split at this
  · rename_i hw
    obtain ⟨v, h1, h2⟩ := this
    exact ⟨v, .inl ⟨hw, fun s hs => h1 ⟨s, hs⟩⟩, h2⟩
  · rename_i hw
    exact ⟨_, .inr ⟨by simpa using hw, rfl⟩, this⟩
theorem stg_eff {Q : Act → Prop} {k : Nat} {a : Act} {o : Oper} {rest : List Oper} (i : Nat) (v : Value) (hk : ((List.range es.length).all fun j => (es.getD j 0 == k) == (j == i)) = true) (hi : i < es.length) (hg : o.guard = none)
    (h : effUpon (Ws (i + 1)) v ((execOp a.eval o).run P (Ws i))) (h' : wpStg P ops es his Ws Q (k + 1) rest (a.put o.dst v)) : wpStg P ops es his Ws Q k (o :: rest) a := by
  simp only [List.all_eq_true, List.mem_range, beq_iff_eq] at hk
  have hki : es.getD i 0 = k := by
    have := hk i hi
    simpa using this
  have hk' : k ∈ es := by rw [← hki, ld hi]; exact List.getElem_mem _
  unfold wpStg YieldsT
  simp only [if_pos hk']
  refine ⟨v, ⟨by unfold Region.wanted; rw [hg], fun j hj hjk => ?_⟩, h'⟩
  have := hk j hj
  rw [hjk] at this
  have : j = i := by simpa using this
  subst this
  exact h
instance stNonempty (n : Nat) : Nonempty { s : Nat // s ≤ n } := ⟨⟨0, Nat.zero_le _⟩⟩

end
end Go.Proofs.Ytefmlbckbhlgdaa
namespace Go.Proofs.Ytefmlbckbhlgdaa
open Go.RowKit Go.Shelf
set_option maxRecDepth 100000
theorem AS.row {w : World} {ka : Nat} {sv : Value} {ns : List Nd} (h : AS w ka sv ns) : RowAt w ka #[sv] 132 := h.1
theorem AS.on {w : World} {ka : Nat} {sv : Value} {ns : List Nd} (h : AS w ka sv ns) : ON w (ka + 1) sv ns := h.2
/-- Behind a call of the arena's lay. -/
theorem BuildAns.of {w W w' : World} {ka : Nat} {sv sv' : Value} {ns : List Nd} {ix : Int} (hb : AK ka sv.ownBlock w W) (hk : AK ka sv.ownBlock W w') (hf : Fr W sv sv') (ha : AS w' ka sv' ns) : BuildAns ka sv (ns, ix) w (.returned (.int .i64 ix)) w' :=
  ⟨sv', rfl, ha, hb.same hk, fun g e => (hf g e).imp id (fun h => Nat.le_trans hb.size h)⟩
theorem build_nil (ns : List Nd) (ka : Nat) (sv v : Value) (w : World) (ha : AS w ka sv ns) (hr : AR w ka ka sv v []) : Calls Try.prog 78 #[.pointer (some ⟨ka, 0, none⟩), v] w (BuildAns ka sv (ns, -1) w) := by
  obtain ⟨p, c, rfl, z1, z2⟩ := RowE.shape encP hr.1
  simp only [List.length_nil] at *
  have HA := Lib.hid (ha.below ((Below.refl w.heap.size w).alloc (Nat.le_refl _) (.cells #[.pointer (some ⟨ka, 0, none⟩)] 130)))
  have HK := Lib.hid (AK.ofBelow (ka := ka) (r := sv.ownBlock) ((Below.refl w.heap.size w).alloc (Nat.le_refl _) (.cells #[.pointer (some ⟨ka, 0, none⟩)] 130)))
  clear ha hr
  go_enter Try.func78, Try.ntmps78
  go_wp2
  go_ret
  exact ⟨sv, rfl, HA.out, HK.out, Fr.refl _ _⟩

set_option maxHeartbeats 8000000 in
theorem build_leaf (p0 : Pr) (ns : List Nd) (ka : Nat) (sv v : Value) (w : World) (hn : ns.length ≤ 600000) (ha : AS w ka sv ns) (hr : AR w ka ka sv v [p0]) : Calls Try.prog 78 #[.pointer (some ⟨ka, 0, none⟩), v] w (BuildAns ka sv (ns ++ [leafN p0], (ns.length : Int)) w) := by
  obtain ⟨pv, cv, rfl, z1, z2⟩ := RowE.shape encP hr.1
  simp only [List.length_singleton] at *
  have HKX := Lib.hid (RowAt.new w #[.pointer (some ⟨ka, 0, none⟩)] 130)
  have HB := Lib.hid ((Below.refl w.heap.size w).alloc (Nat.le_refl _) (.cells #[.pointer (some ⟨ka, 0, none⟩)] 130))
  have HA := Lib.hid ha
  have HR := Lib.hid hr
  clear ha hr
  go_enter Try.func78, Try.ntmps78
  go_upto_region 6 with (first
    | (go_at_call 126; (with_reducible refine (fresh_any 1 _).mono ?_); rintro e w2 ⟨rfl, hb⟩; (replace HKX := Lib.hid (HKX.out.belowS hb); replace HB := Lib.hid (HB.out.trans (hb.mono HB.out.size)); clear hb))
    | (refine wpList_store_nd rfl _ _ rfl w2.heap.size (frN 1) rfl rfl _ (RowAt.new w2 _ _) rfl ?_; intro w3 hr3 hb3 ho3 hs3; have R := Lib.hid hr3; replace HB := Lib.hid (hb3 _ _ (HB.out.alloc HB.out.size _) HB.out.size); have HKN := Lib.hid HKX.out.lt; have HWN := Lib.hid (show w.heap.size < w2.heap.size from HKX.out.lt); replace HKX := Lib.hid (show RowAt w3 w.heap.size _ _ from (ho3 _ (Nat.ne_of_lt HKX.out.lt)).trans (HKX.out.alloc _)); clear hr3 hb3 ho3 hs3))
  generalize w2.heap.size = kn at *
  obtain ⟨a, rfl, d0, d1⟩ := RP.at (RP.below HR.out.1 HB.out (Nat.le_refl _)) (i := 0) rfl
  rw [Nat.zero_mul, Addr.add_zero'] at d0 d1
  have hab := Lib.hid (HR.out.1.blk (by simp) a.block rfl)
  obtain ⟨Ws, g0, g1, g2⟩ : ∃ Ws : Nat → World, Ws 0 = w3.drew ∧ Ws 1 = w3.drew.setCell ⟨kn, 1, none⟩ (.string (mkS p0.1)) ∧ Ws 2 = (w3.drew.setCell ⟨kn, 1, none⟩ (.string (mkS p0.1))).setCell ⟨kn, 2, none⟩ (.string (mkS p0.2)) :=
    ⟨fun s => match s with | 0 => w3.drew | 1 => w3.drew.setCell ⟨kn, 1, none⟩ (.string (mkS p0.1)) | _ => (w3.drew.setCell ⟨kn, 1, none⟩ (.string (mkS p0.1))).setCell ⟨kn, 2, none⟩ (.string (mkS p0.2)), rfl, rfl, rfl⟩
  have hW : ∀ s, s ≤ 2 → ∀ k, k ≠ kn → (Ws s).heap[k]? = w3.heap[k]? := fun s hs k hk => by
    match s, hs with
    | 0, _ => rw [g0]; rfl
    | 1, _ => rw [g1, heap_setCell_other _ ⟨kn, 1, none⟩ _ _ hk]; rfl
    | 2, _ => rw [g2, heap_setCell_other _ ⟨kn, 2, none⟩ _ _ hk, heap_setCell_other _ ⟨kn, 1, none⟩ _ _ hk]; rfl
  have key : ∀ {a : Addr} {v : Value}, a.block ≠ kn → w3.cell? a = some v → ∀ s : { s : Nat // s ≤ 2 }, (Ws s.1).cell? a = some v := fun {a v} hne h ⟨s, hs⟩ => by
    rw [World.cell?_of_block (w := w3) (hW s hs a.block hne)]; exact h
  replace d0 := key (by have := hab.out; have := HWN.out; omega) d0
  replace d1 := key (by have := hab.out; have := HWN.out; show a.block ≠ kn; omega) d1
  have G0 := Lib.hid g0
  have G1 := Lib.hid g1
  have G2 := Lib.hid g2
  obtain ⟨-, c1, -, -, f1, -⟩ := R.out.nd
  obtain ⟨-, -, c2, -, -, f2⟩ := (R.out.ndPart p0.1).nd
  clear key hW g0 g1 g2
  (refine region_stages [9, 11] (fun k => 2) Ws mix ?hB G0.out ?_; case hB => kernel_rfl); ((with_reducible refine stg_step 2 ?hkk ?_); (case hkk => rfl); intro K hK; go_simp; (with_reducible refine hK _ ?_; clear hK K)); ((with_reducible refine stg_step 2 ?hkk ?_); (case hkk => rfl); intro K hK; go_simp; (with_reducible refine hK _ ?_; clear hK K)); ((with_reducible refine stg_step 2 ?hkk ?_); (case hkk => rfl); intro K hK; go_simp; (with_reducible refine hK _ ?_; clear hK K)); ((with_reducible refine stg_step 2 ?hkk ?_); (case hkk => rfl); intro K hK; go_simp; (with_reducible refine hK _ ?_; clear hK K)); ((with_reducible refine stg_step 2 ?hkk ?_); (case hkk => rfl); intro K hK; go_simp; (with_reducible refine hK _ ?_; clear hK K)); ((with_reducible refine stg_step 2 ?hkk ?_); (case hkk => rfl); intro K hK; go_simp; (with_reducible refine hK _ ?_; clear hK K)); ((with_reducible refine stg_step 2 ?hkk ?_); (case hkk => rfl); intro K hK; go_simp; (with_reducible refine hK _ ?_; clear hK K)); ((with_reducible refine stg_step 2 ?hkk ?_); (case hkk => rfl); intro K hK; go_simp; (with_reducible refine hK _ ?_; clear hK K)); ((with_reducible refine stg_step 2 ?hkk ?_); (case hkk => rfl); intro K hK; go_simp; (with_reducible refine hK _ ?_; clear hK K)); (refine stg_eff 0 (undef) rfl (by decide) rfl ?he ?_; case he => (show effUpon (Ws 1) _ (Sem.run _ _ (Ws 0)); (rw [G1.out, G0.out]; unfold effUpon; go_simp))); go_simp; ((with_reducible refine stg_step 2 ?hkk ?_); (case hkk => rfl); intro K hK; go_simp; (with_reducible refine hK _ ?_; clear hK K)); (refine stg_eff 1 (undef) rfl (by decide) rfl ?he ?_; case he => (show effUpon (Ws 2) _ (Sem.run _ _ (Ws 1)); (rw [G2.out, G1.out]; unfold effUpon; go_simp))); go_simp; (with_reducible refine stg_nil ?_)
  have HR2 := Lib.hid (show RowAt (Ws 2) kn (ndc (leafN p0)) 88 from by rw [G2.out]; exact (R.out.drew.ndPart p0.1).ndValue p0.2)
  have HB2 := Lib.hid (show Below w.heap.size w (Ws 2) from by rw [G2.out]; exact (HB.out.drew.setCell (p := ⟨kn, 1, none⟩) (Nat.le_of_lt HWN.out) _).setCell (p := ⟨kn, 2, none⟩) (Nat.le_of_lt HWN.out) _)
  have HX2 := Lib.hid (show RowAt (Ws 2) w.heap.size _ _ from by rw [G2.out]; exact (HKX.out.drew.other ⟨kn, 1, none⟩ (.string (mkS p0.1)) (Nat.ne_of_lt HWN.out)).other ⟨kn, 2, none⟩ (.string (mkS p0.2)) (Nat.ne_of_lt HWN.out))
  clear G0 G1 G2 c1 c2 f1 f2 d0 d1 R HB HKX
  generalize Ws 2 = W2 at *
  clear Ws
  have HKX := HX2
  have R := HR2
  have HAX := Lib.hid (HA.out.below HB2.out)
  clear HX2 HR2
  have cx : W2.cell? ⟨w.heap.size, 0, none⟩ = some (.pointer (some ⟨ka, 0, none⟩)) := HKX.out.cell 0
  go_wp2_with (first
    | (refine wpList_load_nd rfl _ rfl _ (leafN p0) rfl (NdAt.ofRow R.out) ?_)
    | (go_at_call 127; (with_reducible refine (alay_any (leafN p0) (ns) ka sv W2 (AS.row HAX.out) (AS.on HAX.out) hn).mono ?_); rintro e w9 ⟨sv9, rfl, hr9, ho9, hk9, hf9⟩))
  go_ret
  exact BuildAns.of (AK.ofBelow HB2.out) hk9 hf9 ⟨hr9, ho9⟩

/-- The first and the last say how much a rising row has in common. -/
theorem common_ends {l : List Pr} {m : Nat} (hs : sortP l) (hl : l.length = m + 1) : ∃ p z, l[0]? = some p ∧ l[m]? = some z ∧ commonL l = shareL p.1 z.1 := by
  match l, hl with
  | [p], hl =>
    obtain rfl : m = 0 := by simpa using hl.symm
    exact ⟨p, p, rfl, rfl, by rw [shareL_self]; rfl⟩
  | p :: q :: r, hl =>
    obtain ⟨r', z, e⟩ : ∃ r' z, q :: r = r' ++ [z] := ⟨(q :: r).dropLast, (q :: r).getLast (by simp), (List.dropLast_concat_getLast (by simp)).symm⟩
    rw [e] at hs hl ⊢
    refine ⟨p, z, rfl, ?_, ?_⟩
    · have : m = r'.length + 1 := by simp at hl; omega
      subst this
      rw [List.getElem?_cons_succ, List.getElem?_append_right (Nat.le_refl _), Nat.sub_self]
      rfl
    · rw [commonL_last hs, shareL_comm]

set_option maxHeartbeats 8000000 in
theorem build_joint (f : Nat) (ih : BuildC f) (p0 : Pr) (t : List Pr) (ns : List Nd) (ka : Nat) (sv v : Value) (w : World) (hs : sortP (p0 :: t)) (hh : halfP (p0 :: t)) (hz : ∀ p ∈ p0 :: t, p.1.length < f + 1) (hf : f ≤ 1000) (ht : 1 ≤ t.length) (hpos : 0 < commonL (p0 :: t)) (hl : (p0 :: t).length ≤ 1000) (hn : ns.length + f * (p0 :: t).length ≤ 500000)
    (ha : AS w ka sv ns) (hr : AR w ka ka sv v (p0 :: t)) : Calls Try.prog 78 #[.pointer (some ⟨ka, 0, none⟩), v] w (BuildAns ka sv ((layF f (cutK (commonL (p0 :: t)) (p0 :: t)) ns).1 ++ [jointN (p0.1.take (commonL (p0 :: t))) (layF f (cutK (commonL (p0 :: t)) (p0 :: t)) ns).2], ((layF f (cutK (commonL (p0 :: t)) (p0 :: t)) ns).1.length : Int)) w) := by
  have hlen : (p0 :: t).length = t.length + 1 := List.length_cons
  obtain ⟨p1, z, hp1, hz1, hcm⟩ := common_ends hs hlen
  obtain rfl : p0 = p1 := by simpa using hp1
  have hk0 : commonL (p0 :: t) ≤ p0.1.length := commonL_le.1
  have hk1 : commonL (p0 :: t) ≤ 1000 := by have := hz p0 List.mem_cons_self; omega
  have hsz := mk_size p0.1
  have htk := mkS_take p0.1 (commonL (p0 :: t))
  have hckl : (cutK (commonL (p0 :: t)) (p0 :: t)).length = (p0 :: t).length := List.length_map _
  have hxl : (layF f (cutK (commonL (p0 :: t)) (p0 :: t)) ns).1.length ≤ 600000 := by
    have := layF_len f (cutK (commonL (p0 :: t)) (p0 :: t)) ns
    rw [hckl] at this
    omega
  have KS := Lib.hid (fun W => share_any (mkS p0.1) (mkS z.1) W (by rw [hsz]; have := hz p0 List.mem_cons_self; omega) (by rw [mk_size]; have := hz z (List.mem_of_getElem? hz1); omega))
  rw [shareB_mk, ← hcm] at KS
  have KL := Lib.hid (fun W (hb : Below w.heap.size w W) => less_any (p0 :: t) (commonL (p0 :: t)) v W (RP.below hr.1 hb (Nat.le_refl _)) (by omega) (fun p hp => (common_take p hp).2) (by omega))
  have KB := Lib.hid (fun v2 W W0 (h2 : RP W v2 (cutK (commonL (p0 :: t)) (p0 :: t))) (hs0 : w.heap.size ≤ W0) (h3 : ∀ g, v2.ownBlock = some g → W0 ≤ g) (hb : Below w.heap.size w W) => ih (cutK (commonL (p0 :: t)) (p0 :: t)) ns ka sv v2 W (sortP_cutK hs (fun p hp q hq => (common_take p hp).1.trans (common_take q hq).1.symm) (fun p hp => (common_take p hp).2)) (halfP_cutK hh) (fun p hp => by
    obtain ⟨q, hq, rfl⟩ := List.mem_map.1 hp
    have h1 := hz q hq
    have h2 := (common_take q hq).2
    show (q.1.drop _).length < f
    rw [List.length_drop]; omega) (by rw [hckl]; exact hl) (by rw [hckl]; exact hn) (ha.below hb) (AR.new h2 (fun g hg => Nat.le_trans hs0 (h3 g hg)) ha.1.lt ha.1.lt (fun g e => (ha.own g e).2)))
  generalize layF f (cutK (commonL (p0 :: t)) (p0 :: t)) ns = r at *
  obtain ⟨ms, ix⟩ := r
  simp only at hxl
  have hx0 : (p0 :: t)[0]? = some p0 := rfl
  have HAL := Lib.hid ha.1.lt
  have HOW := Lib.hid ha.own
  obtain ⟨pv, cv, rfl, z1, z2⟩ := RowE.shape encP hr.1
  have HNE := Lib.hid (show (p0 :: t) ≠ [] by simp)
  generalize (p0 :: t).length = L at *
  subst hlen
  generalize cutK (commonL (p0 :: t)) (p0 :: t) = l2 at *
  generalize commonL (p0 :: t) = k at *
  generalize p0 :: t = l at *
  generalize htl : t.length = m at *
  have hg1 : ¬ ((m : Int) + 1 = 1) := by omega
  have hg2 : ¬ ((m : Int) + 1 = 0) := by omega
  have hml : m + 1 ≤ 1000 := by omega
  have hkp : (0 : Int) < k := by omega
  clear hs hh hz hcm hp1 hckl ih hn hl htl ht
  have HKX := Lib.hid (RowAt.new w #[.pointer (some ⟨ka, 0, none⟩)] 130)
  have HB := Lib.hid ((Below.refl w.heap.size w).alloc (Nat.le_refl _) (.cells #[.pointer (some ⟨ka, 0, none⟩)] 130))
  have HA := Lib.hid ha
  have HR := Lib.hid hr
  clear ha hr
  obtain ⟨a, rfl, d0, -⟩ := RP.at (RP.below HR.out.1 HB.out (Nat.le_refl _)) hx0
  obtain ⟨a', e', d2, -⟩ := RP.at (RP.below HR.out.1 HB.out (Nat.le_refl _)) hz1
  obtain rfl := Option.some.inj e'
  rw [Nat.zero_mul, Addr.add_zero'] at d0
  clear e' hz1
  have D0 := Lib.hid d0
  go_enter Try.func78, Try.ntmps78
  go_upto_region 8 with (fail)
  clear d0
  generalize w.alloc (.cells #[.pointer (some ⟨ka, 0, none⟩)] 130) = w1 at *
  replace d0 := fun u : Later w1 => (u.below.cell (block_lt_of_cell D0.out)).trans D0.out
  replace d2 := fun u : Later w1 => (u.below.cell (block_lt_of_cell d2)).trans d2
  (refine region_later mix ?hB ?_; case hB => kernel_rfl); (repeat (first | go_big_quiet_step ((go_at_call 128; with_reducible exact Later.call (KS.out _))) | quiet_step ((go_at_call 128; with_reducible exact Later.call (KS.out _))))); (refine wpQuiet_nil ?_; rintro _ ⟨u, rfl⟩)
  replace HKX := Lib.hid (HKX.out.belowS u.below)
  replace HB := Lib.hid (HB.out.trans (u.below.mono HB.out.size))
  clear d0 d2 D0 KS
  generalize u.w = wu at *
  go_upto_region 11 with (first
    | (go_at_call 126; (with_reducible refine (fresh_any 2 _).mono ?_); rintro e w2 ⟨rfl, hb⟩; (replace HKX := Lib.hid (HKX.out.belowS hb); replace HB := Lib.hid (HB.out.trans (hb.mono HB.out.size)); clear hb))
    | (refine wpList_store_nd rfl _ _ rfl w2.heap.size (frN 2) rfl rfl _ (RowAt.new w2 _ _) rfl ?_; intro w3 hr3 hb3 ho3 hs3; have R := Lib.hid hr3; replace HB := Lib.hid (hb3 _ _ (HB.out.alloc HB.out.size _) HB.out.size); have HKN := Lib.hid HKX.out.lt; have HWN := Lib.hid (show w.heap.size < w2.heap.size from HKX.out.lt); replace HKX := Lib.hid (show RowAt w3 w.heap.size _ _ from (ho3 _ (Nat.ne_of_lt HKX.out.lt)).trans (HKX.out.alloc _)); clear hr3 hb3 ho3 hs3))
  generalize w2.heap.size = kn at *
  obtain ⟨a', e', d0, -⟩ := RP.at (RP.below HR.out.1 HB.out (Nat.le_refl _)) hx0
  obtain rfl := Option.some.inj e'
  rw [Nat.zero_mul, Addr.add_zero'] at d0
  obtain ⟨-, c1, -, -, f1, -⟩ := R.out.nd
  clear e'
  go_upto_region 12 with (fail)
  replace R := Lib.hid (show RowAt (w3.setCell ⟨kn, 1, none⟩ (.string (mkS (p0.1.take k)))) kn (ndc ⟨2, p0.1.take k, [], noKids⟩) 88 from R.out.ndPart (p0.1.take k))
  replace HB := Lib.hid (HB.out.setCell (p := ⟨kn, 1, none⟩) (Nat.le_of_lt HWN.out) (.string (mkS (p0.1.take k))))
  replace HKX := Lib.hid (HKX.out.other ⟨kn, 1, none⟩ (.string (mkS (p0.1.take k))) (Nat.ne_of_lt HWN.out))
  clear d0 c1 f1
  generalize w3.setCell ⟨kn, 1, none⟩ (.string (mkS (p0.1.take k))) = w4 at *
  have e5 : sv.ownBlock ≠ some w.heap.size := fun e => by have := (HOW.out _ e).2; omega
  have e4 : sv.ownBlock ≠ some kn := fun e => by have := (HOW.out _ e).2; have := HWN.out; omega
  have e2 : w.heap.size ≠ ka := fun e => by have := HAL.out; omega
  have e1 : kn ≠ ka := fun e => by have := HAL.out; have := HWN.out; omega
  have q0 : ∀ u : InC (fun W' => AK ka sv.ownBlock w4.drew W'), u.w.cell? ⟨w.heap.size, 0, none⟩ = some (.pointer (some ⟨ka, 0, none⟩)) := fun u => (RowAt.ak HKX.out.drew u.is e2 e5).cell 0
  haveI : Nonempty (InC (fun W' => AK ka sv.ownBlock w4.drew W')) := ⟨⟨w4.drew, AK.refl _ _ _⟩⟩
  have HBD := Lib.hid HB.out.drew
  (refine region_order [0, 1, 2, 5] [3, 4] 6 (fun W' => AK ka sv.ownBlock w4.drew W') mix ?hB ?hC ?_; case hB => kernel_rfl); (case hC => (exact AK.refl _ _ _)); (iterate 4 ((with_reducible refine xr_step ?_); (refine ⟨_, rfl, ?_⟩); intro K hK; go_simp; (with_reducible refine hK _ ?_); clear hK K)); (with_reducible refine xr_nil ?_); ((with_reducible refine xe_step ?_); (refine ⟨_, rfl, ?_⟩); intro K hK; unfold EX; go_simp; (go_at_call 129; (with_reducible refine (KL.out _ HBD.out).mono ?_); rintro e w5 ⟨v5, rfl, hr5, hn5, hb5⟩; refine ⟨_, rfl, AK.ofBelow hb5, hK _ _ ?_⟩; clear hK K)); ((with_reducible refine xe_step ?_); (refine ⟨_, rfl, ?_⟩); intro K hK; unfold EX; go_simp; (go_at_call 78; (with_reducible refine (KB.out v5 w5 _ hr5 HBD.out.size hn5 (HBD.out.trans (hb5.mono HBD.out.size))).mono ?_); rintro e w6 ⟨sv6, rfl, ha6, hk6, hf6⟩; refine ⟨_, rfl, (AK.ofBelow (ka := ka) (r := sv.ownBlock) hb5).same hk6, hK _ _ ?_⟩; clear hK K)); (with_reducible refine xe_nil ?_); (simp only [List.drop_succ_cons, List.drop_zero])
  have HB5 := HBD.out.trans (hb5.mono HBD.out.size)
  have AKT := (AK.ofBelow (ka := ka) (r := sv.ownBlock) HB5).same hk6
  have HN6 := Lib.hid ((R.out.drew.belowS hb5).ak hk6 e1 e4)
  have HX6 := Lib.hid ((HKX.out.drew.belowS hb5).ak hk6 e2 e5)
  have HF := Lib.hid (show Fr w sv sv6 from fun g hg => (hf6 g hg).imp id (fun h => Nat.le_trans HB5.size h))
  have HE := Lib.hid (show sv6.ownBlock ≠ some kn from fun e => by
    rcases hf6 kn e with h | h
    · exact e4 h
    · have := (R.out.drew.belowS hb5).lt; omega)
  have HA6 := Lib.hid (ha6.other (kn := kn) e1 HE.out 3 (.int .i64 ix))
  have AK6 := Lib.hid (AN.ak AKT ((AN.refl ka kn sv6.ownBlock w6).trans (sv' := sv6) (AN.set (ka := ka) (r := sv6.ownBlock) 3 (.int .i64 ix)) (Fr.refl _ _)) HF.out (Nat.le_of_lt HWN.out))
  replace R := Lib.hid (show RowAt (w6.setCell ⟨kn, 3, none⟩ (.int .i64 ix)) kn (ndc (jointN (p0.1.take k) ix)) 88 from HN6.out.ndKid rfl 0 (by omega) ix)
  replace HKX := Lib.hid (HX6.out.other ⟨kn, 3, none⟩ (.int .i64 ix) (Nat.ne_of_lt HWN.out))
  obtain ⟨c3, f3⟩ : w6.cell? ⟨kn, 3, none⟩ = some (kidV ⟨2, p0.1.take k, [], noKids⟩ 0) ∧ w6.frozen? ⟨kn, 3, none⟩ = false := HN6.out.ndK 0 (by omega)
  clear q0 this HB5 AKT HN6 HX6 ha6 hk6 hf6 hr5 hn5 hb5 KL KB HA HR HB HBD
  go_upto_region 13 with (fail)
  clear c3 f3
  generalize w6.setCell ⟨kn, 3, none⟩ (.int .i64 ix) = W2 at *
  have HAX := HA6
  have cx : W2.cell? ⟨w.heap.size, 0, none⟩ = some (.pointer (some ⟨ka, 0, none⟩)) := HKX.out.cell 0
  go_wp2_with (first
    | (refine wpList_load_nd rfl _ rfl _ (jointN (p0.1.take k) ix) rfl (NdAt.ofRow R.out) ?_)
    | (go_at_call 127; (with_reducible refine (alay_any (jointN (p0.1.take k) ix) (ms) ka sv6 W2 (AS.row HAX.out) (AS.on HAX.out) hxl).mono ?_); rintro e w9 ⟨sv9, rfl, hr9, ho9, hk9, hf9⟩))
  go_ret
  obtain ⟨y1, y2, y3, y4⟩ := BuildAns.of (ns := ms ++ [jointN (p0.1.take k) ix]) (ix := (ms.length : Int)) (AK.refl ka sv6.ownBlock W2) hk9 hf9 ⟨hr9, ho9⟩
  exact ⟨sv9, rfl, ⟨hr9, ho9⟩, AK6.out.transF hk9 HF.out, HF.out.trans hf9 AK6.out.size⟩

theorem valE_none : ∀ {l : List Pr}, (∀ p ∈ l, p.1 ≠ []) → valE l = []
  | [], _ => rfl
  | p :: l, h => by
    rw [valE, if_neg (h p List.mem_cons_self)]
    exact valE_none fun q hq => h q (List.mem_cons_of_mem _ hq)
theorem tail_keys {p : Pr} {t : List Pr} (hs : sortP (p :: t)) : ∀ q ∈ t, 1 ≤ q.1.length := fun q hq => by
  have := (List.pairwise_cons.1 hs).1 q hq
  cases h : q.1 with
  | nil => rw [h] at this; cases p.1 <;> simp [ltL, Op.bytesLess] at this
  | cons x r => simp
theorem kidsF_empty {f : Nat} {p : Pr} {t : List Pr} (h : p.1 = []) (cs : List Nat) (s : List Nd × List Int) : kidsF f (p :: t) cs s = kidsF f t cs s := by
  have hc : ∀ c, cutC c (p :: t) = cutC c t := fun c => by
    unfold cutC
    rw [List.filter_cons_of_neg (by unfold hasC; rw [h]; simp)]
  unfold kidsF
  congr 1
  funext s c
  rw [hc]
theorem padK_full (f : Nat) (l : List Pr) (ns : List Nd) : padK (ksF f l ns 16) 16 = (kidsF f l (List.range 16) (ns, [])).2 := by
  unfold padK ksF
  rw [Nat.sub_self, List.replicate_zero, List.append_nil]
end Go.Proofs.Ytefmlbckbhlgdaa
namespace Go.Proofs.Ytefmlbckbhlgdaa
open Go.RowKit Go.Shelf
set_option maxRecDepth 100000
set_option maxHeartbeats 8000000 in
theorem build_branchA (f : Nat) (ih : BuildC f) (p0 : Pr) (t : List Pr) (ns : List Nd) (ka : Nat) (sv v : Value) (w : World) (hs : sortP (p0 :: t)) (hh : halfP (p0 :: t)) (hz : ∀ p ∈ p0 :: t, p.1.length < f + 1) (hf : f ≤ 1000) (ht : 1 ≤ t.length) (hc0 : commonL (p0 :: t) = 0) (hl : (p0 :: t).length ≤ 1000) (hn : ns.length + f * (p0 :: t).length ≤ 500000) (he : p0.1 = [])
    (ha : AS w ka sv ns) (hr : AR w ka ka sv v (p0 :: t)) : Calls Try.prog 78 #[.pointer (some ⟨ka, 0, none⟩), v] w (BuildAns ka sv (nsF f t ns 16 ++ [branchN p0.2 (padK (ksF f t ns 16) 16)], ((nsF f t ns 16).length : Int)) w) := by
  have hlen : (p0 :: t).length = t.length + 1 := List.length_cons
  obtain ⟨p1, z, hp1, hz1, hcm⟩ := common_ends hs hlen
  obtain rfl : p0 = p1 := by simpa using hp1
  have hsz := mk_size p0.1
  rw [hc0] at hcm
  have KS := Lib.hid (fun W => share_any (mkS p0.1) (mkS z.1) W (by rw [hsz]; have := hz p0 List.mem_cons_self; omega) (by rw [mk_size]; have := hz z (List.mem_of_getElem? hz1); omega))
  rw [shareB_mk, ← hcm] at KS
  have hll : t.length ≤ (p0 :: t).length := by first | exact Nat.le_refl _ | (rw [hlen]; exact Nat.le_succ _)
  have hmt : ∀ q ∈ t, q ∈ p0 :: t := by first | exact fun q hq => hq | exact fun q hq => List.mem_cons_of_mem _ hq
  have hkt : ∀ q ∈ t, 1 ≤ q.1.length := by
    first
    | exact tail_keys hs
    | exact fun q hq => by
        rcases List.mem_cons.1 hq with rfl | hq
        · exact List.length_pos_iff.2 he
        · exact tail_keys hs q hq
  have hst : sortP t := by first | exact hs | exact (List.pairwise_cons.1 hs).2
  have hxl : (nsF f t ns 16).length ≤ 600000 := by
    have h1 := kidsF_len f t ns 16
    have h2 := Nat.mul_le_mul_left f (Nat.le_trans (cutC_sum t 16) hll)
    unfold nsF
    omega
  have KE := Lib.hid (fun (nd : Nd) (kn : Nat) (v2 : Value) (W : World) (k1 : AS W ka sv ns) (k2 : AR W ka kn sv v2 t) (k3 : RowAt W kn (ndc nd) 88) (k4 : nd.kids = noKids) (k5 : RowAt W w.heap.size #[.pointer (some ⟨ka, 0, none⟩)] 130) (e1 : kn ≠ ka) (e2 : w.heap.size ≠ ka) (e3 : w.heap.size ≠ kn) (e4 : sv.ownBlock ≠ some kn) (e5 : sv.ownBlock ≠ some w.heap.size) =>
    each_any f ih t ns nd ka kn w.heap.size sv v2 W hst (fun q hq => hh q (hmt q hq)) hkt (fun q hq => hz q (hmt q hq)) (Nat.le_trans hll hl) (by have := Nat.mul_le_mul_left f hll; omega) hf k1 k2 k3 k4 k5 e1 e2 e3 e4 e5)
  generalize nsF f t ns 16 = ms at *
  generalize padK (ksF f t ns 16) 16 = ks at *
  have hbq : (mkS p0.1).toList.isEmpty = true := by rw [mkS_toList]; first | (rw [he]; rfl) | exact List.isEmpty_eq_false_iff.2 he
  have hx0 : (p0 :: t)[0]? = some p0 := rfl
  have HAL := Lib.hid ha.1.lt
  have HOW := Lib.hid ha.own
  obtain ⟨pv, cv, rfl, z1, z2⟩ := RowE.shape encP hr.1
  have HNE := Lib.hid (show (p0 :: t) ≠ [] by simp)
  have HTL := Lib.hid (show (p0 :: t).drop 1 = t from rfl)
  have HBL := Lib.hid (hr.1.blk (by simp))
  generalize hLL : (p0 :: t).length = L at *
  subst hlen
  replace hLL := Lib.hid hLL
  generalize p0 :: t = l at *
  generalize htl : t.length = m at *
  have hg1 : ¬ ((m : Int) + 1 = 1) := by omega
  have hg2 : ¬ ((m : Int) + 1 = 0) := by omega
  have hml : m + 1 ≤ 1000 := by omega
  have hm1 : 1 ≤ m := by omega
  clear hs hh hz hcm hp1 ih hn hl htl ht hll hmt hkt hst hc0 he
  have HKX := Lib.hid (RowAt.new w #[.pointer (some ⟨ka, 0, none⟩)] 130)
  have HB := Lib.hid ((Below.refl w.heap.size w).alloc (Nat.le_refl _) (.cells #[.pointer (some ⟨ka, 0, none⟩)] 130))
  have HA := Lib.hid ha
  have HR := Lib.hid hr
  clear ha hr
  obtain ⟨a, rfl, d0, d1⟩ := RP.at (RP.below HR.out.1 HB.out (Nat.le_refl _)) hx0
  obtain ⟨a', e', d2, -⟩ := RP.at (RP.below HR.out.1 HB.out (Nat.le_refl _)) hz1
  obtain rfl := Option.some.inj e'
  rw [Nat.zero_mul, Addr.add_zero'] at d0
  clear e' hz1 d1
  have D0 := Lib.hid d0
  go_enter Try.func78, Try.ntmps78
  go_upto_region 8 with (fail)
  clear d0
  generalize w.alloc (.cells #[.pointer (some ⟨ka, 0, none⟩)] 130) = w1 at *
  replace d0 := fun u : Later w1 => (u.below.cell (block_lt_of_cell D0.out)).trans D0.out
  replace d2 := fun u : Later w1 => (u.below.cell (block_lt_of_cell d2)).trans d2
  (refine region_later mix ?hB ?_; case hB => kernel_rfl); (repeat (first | go_big_quiet_step ((go_at_call 128; with_reducible exact Later.call (KS.out _))) | quiet_step ((go_at_call 128; with_reducible exact Later.call (KS.out _))))); (refine wpQuiet_nil ?_; rintro _ ⟨u, rfl⟩)
  replace HKX := Lib.hid (HKX.out.belowS u.below)
  replace HB := Lib.hid (HB.out.trans (u.below.mono HB.out.size))
  clear d0 d2 D0 KS
  generalize u.w = wu at *
  go_upto_region 15 with (first
    | (go_at_call 126; (with_reducible refine (fresh_any 3 _).mono ?_); rintro e w2 ⟨rfl, hb⟩; (replace HKX := Lib.hid (HKX.out.belowS hb); replace HB := Lib.hid (HB.out.trans (hb.mono HB.out.size)); clear hb))
    | (refine wpList_store_nd rfl _ _ rfl w2.heap.size (frN 3) rfl rfl _ (RowAt.new w2 _ _) rfl ?_; intro w3 hr3 hb3 ho3 hs3; have R := Lib.hid hr3; replace HB := Lib.hid (hb3 _ _ (HB.out.alloc HB.out.size _) HB.out.size); have HKN := Lib.hid HKX.out.lt; have HWN := Lib.hid (show w.heap.size < w2.heap.size from HKX.out.lt); replace HKX := Lib.hid (show RowAt w3 w.heap.size _ _ from (ho3 _ (Nat.ne_of_lt HKX.out.lt)).trans (HKX.out.alloc _)); clear hr3 hb3 ho3 hs3))
  generalize w2.heap.size = kn at *
  obtain ⟨a', e', d0, d1⟩ := RP.at (RP.below HR.out.1 HB.out (Nat.le_refl _)) hx0
  obtain rfl := Option.some.inj e'
  rw [Nat.zero_mul, Addr.add_zero'] at d0 d1
  clear e'
  have e5 : sv.ownBlock ≠ some w.heap.size := fun e => by have := (HOW.out _ e).2; omega
  have e4 : sv.ownBlock ≠ some kn := fun e => by have := (HOW.out _ e).2; have := HWN.out; omega
  have e2 : w.heap.size ≠ ka := fun e => by have := HAL.out; omega
  have e1 : kn ≠ ka := fun e => by have := HAL.out; have := HWN.out; omega
  have e3 : w.heap.size ≠ kn := Nat.ne_of_lt HWN.out
  obtain ⟨-, -, c2, -, -, f2⟩ := R.out.nd
  go_upto_region 17 with (fail)
  replace R := Lib.hid (show RowAt (w3.setCell ⟨kn, 2, none⟩ (.string (mkS p0.2))) kn (ndc ⟨3, [], p0.2, noKids⟩) 88 from R.out.ndValue p0.2)
  replace HB := Lib.hid (HB.out.setCell (p := ⟨kn, 2, none⟩) (Nat.le_of_lt HWN.out) (.string (mkS p0.2)))
  replace HKX := Lib.hid (HKX.out.other ⟨kn, 2, none⟩ (.string (mkS p0.2)) (Nat.ne_of_lt HWN.out))
  clear d0 d1 c2 f2
  generalize w3.setCell ⟨kn, 2, none⟩ (.string (mkS p0.2)) = w4 at *
  have hcv : ¬ cv = 1 := by omega
  have HR2 := Lib.hid (show AR w4 ka kn sv (.slice (some ⟨a.block, a.off + 2, none⟩) m (cv - 1)) t from by
    have h := RP.drop (RP.below HR.out.1 HB.out (Nat.le_refl _)) (i := 1) (by rw [hLL.out]; omega)
    rw [HTL.out] at h
    refine ⟨h, ?_⟩
    refine .inr fun b e => ?_
    have hba : b = a.block := by simp only [Value.ownBlock, Option.some.injEq] at e; exact e.symm
    subst hba
    rcases HR.out.2 with h | h
    · exact absurd h HNE.out
    · obtain ⟨h1, h2, h3⟩ := h a.block rfl
      exact ⟨h1, by have := HBL.out a.block rfl; have := HWN.out; omega, h3⟩)
  have HA4 := Lib.hid (HA.out.below HB.out)
  go_upto_region 19 with (go_at_call 130; (with_reducible refine (KE.out _ kn _ w4 HA4.out HR2.out R.out rfl HKX.out e1 e2 e3 e4 e5).mono ?_); rintro e w5 ⟨sv5, rfl, ha5, hn5, hk5, hf5⟩)
  replace HKX := Lib.hid (HKX.out.an hk5 e2 e3 e5)
  replace R := Lib.hid (show RowAt w5 kn (ndc (branchN p0.2 ks)) 88 from hn5)
  have AK5 := Lib.hid (AN.ak (AK.ofBelow (ka := ka) (r := sv.ownBlock) HB.out) hk5 (Fr.refl _ _) (Nat.le_of_lt HWN.out))
  have HF := Lib.hid (show Fr w sv sv5 from fun g hg => (hf5 g hg).imp id (fun h => Nat.le_trans HB.out.size h))
  have HAX := Lib.hid ha5
  clear ha5 hn5 hk5 hf5 HA4 HR2 KE
  have cx : w5.cell? ⟨w.heap.size, 0, none⟩ = some (.pointer (some ⟨ka, 0, none⟩)) := HKX.out.cell 0
  go_wp2_with (first
    | (refine wpList_load_nd rfl _ rfl _ (branchN p0.2 ks) rfl (NdAt.ofRow R.out) ?_)
    | (go_at_call 127; (with_reducible refine (alay_any (branchN p0.2 ks) (ms) ka sv5 w5 (AS.row HAX.out) (AS.on HAX.out) hxl).mono ?_); rintro e w9 ⟨sv9, rfl, hr9, ho9, hk9, hf9⟩))
  go_ret
  exact ⟨sv9, rfl, ⟨hr9, ho9⟩, AK5.out.transF hk9 HF.out, HF.out.trans hf9 AK5.out.size⟩

set_option maxHeartbeats 8000000 in
theorem build_branchB (f : Nat) (ih : BuildC f) (p0 : Pr) (t : List Pr) (ns : List Nd) (ka : Nat) (sv v : Value) (w : World) (hs : sortP (p0 :: t)) (hh : halfP (p0 :: t)) (hz : ∀ p ∈ p0 :: t, p.1.length < f + 1) (hf : f ≤ 1000) (ht : 1 ≤ t.length) (hc0 : commonL (p0 :: t) = 0) (hl : (p0 :: t).length ≤ 1000) (hn : ns.length + f * (p0 :: t).length ≤ 500000) (he : p0.1 ≠ [])
    (ha : AS w ka sv ns) (hr : AR w ka ka sv v (p0 :: t)) : Calls Try.prog 78 #[.pointer (some ⟨ka, 0, none⟩), v] w (BuildAns ka sv (nsF f (p0 :: t) ns 16 ++ [branchN [] (padK (ksF f (p0 :: t) ns 16) 16)], ((nsF f (p0 :: t) ns 16).length : Int)) w) := by
  have hlen : (p0 :: t).length = t.length + 1 := List.length_cons
  obtain ⟨p1, z, hp1, hz1, hcm⟩ := common_ends hs hlen
  obtain rfl : p0 = p1 := by simpa using hp1
  have hsz := mk_size p0.1
  rw [hc0] at hcm
  have KS := Lib.hid (fun W => share_any (mkS p0.1) (mkS z.1) W (by rw [hsz]; have := hz p0 List.mem_cons_self; omega) (by rw [mk_size]; have := hz z (List.mem_of_getElem? hz1); omega))
  rw [shareB_mk, ← hcm] at KS
  have hll : (p0 :: t).length ≤ (p0 :: t).length := by first | exact Nat.le_refl _ | (rw [hlen]; exact Nat.le_succ _)
  have hmt : ∀ q ∈ (p0 :: t), q ∈ p0 :: t := by first | exact fun q hq => hq | exact fun q hq => List.mem_cons_of_mem _ hq
  have hkt : ∀ q ∈ (p0 :: t), 1 ≤ q.1.length := by
    first
    | exact tail_keys hs
    | exact fun q hq => by
        rcases List.mem_cons.1 hq with rfl | hq
        · exact List.length_pos_iff.2 he
        · exact tail_keys hs q hq
  have hst : sortP (p0 :: t) := by first | exact hs | exact (List.pairwise_cons.1 hs).2
  have hxl : (nsF f (p0 :: t) ns 16).length ≤ 600000 := by
    have h1 := kidsF_len f (p0 :: t) ns 16
    have h2 := Nat.mul_le_mul_left f (Nat.le_trans (cutC_sum (p0 :: t) 16) hll)
    unfold nsF
    omega
  have KE := Lib.hid (fun (nd : Nd) (kn : Nat) (v2 : Value) (W : World) (k1 : AS W ka sv ns) (k2 : AR W ka kn sv v2 (p0 :: t)) (k3 : RowAt W kn (ndc nd) 88) (k4 : nd.kids = noKids) (k5 : RowAt W w.heap.size #[.pointer (some ⟨ka, 0, none⟩)] 130) (e1 : kn ≠ ka) (e2 : w.heap.size ≠ ka) (e3 : w.heap.size ≠ kn) (e4 : sv.ownBlock ≠ some kn) (e5 : sv.ownBlock ≠ some w.heap.size) =>
    each_any f ih (p0 :: t) ns nd ka kn w.heap.size sv v2 W hst (fun q hq => hh q (hmt q hq)) hkt (fun q hq => hz q (hmt q hq)) (Nat.le_trans hll hl) (by have := Nat.mul_le_mul_left f hll; omega) hf k1 k2 k3 k4 k5 e1 e2 e3 e4 e5)
  generalize nsF f (p0 :: t) ns 16 = ms at *
  generalize padK (ksF f (p0 :: t) ns 16) 16 = ks at *
  have hbq : (mkS p0.1).toList.isEmpty = false := by rw [mkS_toList]; first | (rw [he]; rfl) | exact List.isEmpty_eq_false_iff.2 he
  have hx0 : (p0 :: t)[0]? = some p0 := rfl
  have HAL := Lib.hid ha.1.lt
  have HOW := Lib.hid ha.own
  obtain ⟨pv, cv, rfl, z1, z2⟩ := RowE.shape encP hr.1
  have HNE := Lib.hid (show (p0 :: t) ≠ [] by simp)
  have HTL := Lib.hid (show (p0 :: t).drop 1 = t from rfl)
  have HBL := Lib.hid (hr.1.blk (by simp))
  generalize hLL : (p0 :: t).length = L at *
  subst hlen
  replace hLL := Lib.hid hLL
  generalize p0 :: t = l at *
  generalize htl : t.length = m at *
  have hg1 : ¬ ((m : Int) + 1 = 1) := by omega
  have hg2 : ¬ ((m : Int) + 1 = 0) := by omega
  have hml : m + 1 ≤ 1000 := by omega
  have hm1 : 1 ≤ m := by omega
  clear hs hh hz hcm hp1 ih hn hl htl ht hll hmt hkt hst hc0 he
  have HKX := Lib.hid (RowAt.new w #[.pointer (some ⟨ka, 0, none⟩)] 130)
  have HB := Lib.hid ((Below.refl w.heap.size w).alloc (Nat.le_refl _) (.cells #[.pointer (some ⟨ka, 0, none⟩)] 130))
  have HA := Lib.hid ha
  have HR := Lib.hid hr
  clear ha hr
  obtain ⟨a, rfl, d0, d1⟩ := RP.at (RP.below HR.out.1 HB.out (Nat.le_refl _)) hx0
  obtain ⟨a', e', d2, -⟩ := RP.at (RP.below HR.out.1 HB.out (Nat.le_refl _)) hz1
  obtain rfl := Option.some.inj e'
  rw [Nat.zero_mul, Addr.add_zero'] at d0
  clear e' hz1 d1
  have D0 := Lib.hid d0
  go_enter Try.func78, Try.ntmps78
  go_upto_region 8 with (fail)
  clear d0
  generalize w.alloc (.cells #[.pointer (some ⟨ka, 0, none⟩)] 130) = w1 at *
  replace d0 := fun u : Later w1 => (u.below.cell (block_lt_of_cell D0.out)).trans D0.out
  replace d2 := fun u : Later w1 => (u.below.cell (block_lt_of_cell d2)).trans d2
  (refine region_later mix ?hB ?_; case hB => kernel_rfl); (repeat (first | go_big_quiet_step ((go_at_call 128; with_reducible exact Later.call (KS.out _))) | quiet_step ((go_at_call 128; with_reducible exact Later.call (KS.out _))))); (refine wpQuiet_nil ?_; rintro _ ⟨u, rfl⟩)
  replace HKX := Lib.hid (HKX.out.belowS u.below)
  replace HB := Lib.hid (HB.out.trans (u.below.mono HB.out.size))
  clear d0 d2 D0 KS
  generalize u.w = wu at *
  go_upto_region 15 with (first
    | (go_at_call 126; (with_reducible refine (fresh_any 3 _).mono ?_); rintro e w2 ⟨rfl, hb⟩; (replace HKX := Lib.hid (HKX.out.belowS hb); replace HB := Lib.hid (HB.out.trans (hb.mono HB.out.size)); clear hb))
    | (refine wpList_store_nd rfl _ _ rfl w2.heap.size (frN 3) rfl rfl _ (RowAt.new w2 _ _) rfl ?_; intro w3 hr3 hb3 ho3 hs3; have R := Lib.hid hr3; replace HB := Lib.hid (hb3 _ _ (HB.out.alloc HB.out.size _) HB.out.size); have HKN := Lib.hid HKX.out.lt; have HWN := Lib.hid (show w.heap.size < w2.heap.size from HKX.out.lt); replace HKX := Lib.hid (show RowAt w3 w.heap.size _ _ from (ho3 _ (Nat.ne_of_lt HKX.out.lt)).trans (HKX.out.alloc _)); clear hr3 hb3 ho3 hs3))
  generalize w2.heap.size = kn at *
  obtain ⟨a', e', d0, d1⟩ := RP.at (RP.below HR.out.1 HB.out (Nat.le_refl _)) hx0
  obtain rfl := Option.some.inj e'
  rw [Nat.zero_mul, Addr.add_zero'] at d0 d1
  clear e'
  have e5 : sv.ownBlock ≠ some w.heap.size := fun e => by have := (HOW.out _ e).2; omega
  have e4 : sv.ownBlock ≠ some kn := fun e => by have := (HOW.out _ e).2; have := HWN.out; omega
  have e2 : w.heap.size ≠ ka := fun e => by have := HAL.out; omega
  have e1 : kn ≠ ka := fun e => by have := HAL.out; have := HWN.out; omega
  have e3 : w.heap.size ≠ kn := Nat.ne_of_lt HWN.out
  clear d1
  go_upto_region 18 with (fail)
  replace R := Lib.hid (show RowAt w3 kn (ndc ⟨3, [], [], noKids⟩) 88 from R.out)
  clear d0
  generalize w3 = w4 at *
  have HR2 := Lib.hid (show AR w4 ka kn sv (.slice (some a) (m + 1) cv) l from by
    refine ⟨RP.below HR.out.1 HB.out (Nat.le_refl _), .inr fun b e => ?_⟩
    rcases HR.out.2 with h | h
    · exact absurd h HNE.out
    · obtain ⟨h1, h2, h3⟩ := h b e
      exact ⟨h1, by have := HBL.out b e; have := HWN.out; omega, h3⟩)
  have HA4 := Lib.hid (HA.out.below HB.out)
  go_upto_region 19 with (go_at_call 130; (with_reducible refine (KE.out _ kn _ w4 HA4.out HR2.out R.out rfl HKX.out e1 e2 e3 e4 e5).mono ?_); rintro e w5 ⟨sv5, rfl, ha5, hn5, hk5, hf5⟩)
  replace HKX := Lib.hid (HKX.out.an hk5 e2 e3 e5)
  replace R := Lib.hid (show RowAt w5 kn (ndc (branchN [] ks)) 88 from hn5)
  have AK5 := Lib.hid (AN.ak (AK.ofBelow (ka := ka) (r := sv.ownBlock) HB.out) hk5 (Fr.refl _ _) (Nat.le_of_lt HWN.out))
  have HF := Lib.hid (show Fr w sv sv5 from fun g hg => (hf5 g hg).imp id (fun h => Nat.le_trans HB.out.size h))
  have HAX := Lib.hid ha5
  clear ha5 hn5 hk5 hf5 HA4 HR2 KE
  have cx : w5.cell? ⟨w.heap.size, 0, none⟩ = some (.pointer (some ⟨ka, 0, none⟩)) := HKX.out.cell 0
  go_wp2_with (first
    | (refine wpList_load_nd rfl _ rfl _ (branchN [] ks) rfl (NdAt.ofRow R.out) ?_)
    | (go_at_call 127; (with_reducible refine (alay_any (branchN [] ks) (ms) ka sv5 w5 (AS.row HAX.out) (AS.on HAX.out) hxl).mono ?_); rintro e w9 ⟨sv9, rfl, hr9, ho9, hk9, hf9⟩))
  go_ret
  exact ⟨sv9, rfl, ⟨hr9, ho9⟩, AK5.out.transF hk9 HF.out, HF.out.trans hf9 AK5.out.size⟩
end Go.Proofs.Ytefmlbckbhlgdaa
namespace Go.Proofs.Ytefmlbckbhlgdaa
open Go.RowKit Go.Shelf
set_option maxRecDepth 100000
theorem valE_first {p : Pr} {t : List Pr} (h : p.1 = []) : valE (p :: t) = p.2 := by rw [valE, if_pos h]
theorem build_all : ∀ f : Nat, f ≤ 1000 → BuildC f
  | 0, _ => fun l ns ka sv v w _ _ hf _ _ ha hr => by
    cases l with
    | nil => exact build_nil ns ka sv v w ha hr
    | cons p l => exact absurd (hf p List.mem_cons_self) (by omega)
  | f + 1, hf1 => fun l ns ka sv v w hs hh hf hl hn ha hr => by
    have ih := build_all f (by omega)
    match l, hs, hh, hf, hl, hn, hr with
    | [], _, _, _, _, _, hr => exact build_nil ns ka sv v w ha hr
    | [p], _, _, _, _, hn, hr =>
      rw [layF_one]
      exact build_leaf p ns ka sv v w (by omega) ha hr
    | p :: q :: r, hs, hh, hf, hl, hn, hr =>
      rw [Nat.add_mul] at hn
      by_cases hc : 0 < commonL (p :: q :: r)
      · rw [layF_joint hc]
        exact build_joint f ih p (q :: r) ns ka sv v w hs hh hf (by omega) (by simp) hc hl (by omega) ha hr
      · rw [layF_branch hc]
        by_cases he : p.1 = []
        · have := build_branchA f ih p (q :: r) ns ka sv v w hs hh hf (by omega) (by simp) (by omega) hl (by omega) he ha hr
          rw [padK_full] at this
          rw [valE_first he, kidsF_empty he]
          exact this
        · have := build_branchB f ih p (q :: r) ns ka sv v w hs hh hf (by omega) (by simp) (by omega) hl (by omega) he ha hr
          rw [padK_full] at this
          rw [valE_none (fun x hx => by
            rcases List.mem_cons.1 hx with rfl | hx
            · exact he
            · have := tail_keys hs x hx; intro e; rw [e] at this; simp at this)]
          exact this
end Go.Proofs.Ytefmlbckbhlgdaa
