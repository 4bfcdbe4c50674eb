/- The reference's forms: where a kind ends, the kinds of a flat form; how many fields there are. The reference's Many: how many fields there are, of few. The reference: does a field fit a kind of one sign? The reference: does a field fit a kind of a star and one sign? The reference: do fields fit a flat form? The reference: do fields fit a form (a flat one)? Regions that draw their order, hold reads and ONE call whose answer hangs on the world, and then its slice, ahead of a tail in one order. The reference: a field as an item, by a kind of one sign. The reference: a field as an item, by a kind of a star and one sign. The reference's Write, by a flat form. Tries in memory: the reference's cut. Nibble: more contracts of the reference; of Key. Tries in memory: the reference's common, parts. -/
import Derived.StillTail
import Derived.Test.YtefmlbckbhlgdaaTg0
import Derived.Test.YtefmlbckbhlgdaaTg2
import Derived.Test.YtefmlbckbhlgdaaTg4
namespace Go.Proofs.Ytefmlbckbhlgdaa
open Go.RowKit Go.Shelf
set_option maxRecDepth 100000
theorem at_byte {s : ByteArray} {i : Nat} {c : UInt8} (h : (bl s)[i]? = some c) : ∃ hi : i < s.size, s[i] = c := by
  have hi : i < s.size := by have := (List.getElem?_eq_some_iff.1 h).1; rwa [bl_length] at this
  refine ⟨hi, ?_⟩
  rw [sget hi] at h
  exact Option.some.inj h

/-- A kind of one level, as it stands in a form. -/
def tokOk (t : List UInt8) : Prop := ∃ c, leafK c = true ∧ (t = [c] ∨ t = [42, c])
def tokK : List UInt8 → Kd
  | [c] => .mk c []
  | [_, c] => .mk 42 [.mk c []]
  | _ => .mk 0 []
theorem tokOk.pos {t : List UInt8} (h : tokOk t) : 0 < t.length := by
  obtain ⟨c, _, rfl | rfl⟩ := h <;> exact Nat.succ_pos _
end Go.Proofs.Ytefmlbckbhlgdaa
namespace Go.Proofs.Ytefmlbckbhlgdaa
open Go.RowKit
/-- What is counted, of few: 'i' are gone through, those behind them stand with all in them, 'rest' are to come. -/
def MInv (N : Nat) (ts : List Fd) (i rest : Nat) : Prop := N ≤ 1000 → i ≤ ts.length ∧ i + counts (ts.drop i) + rest = N
theorem counts_dropF {L : List Fd} {j : Nat} {f : Fd} (h : L[j]? = some f) : counts (L.drop j) = f.count + counts (L.drop (j + 1)) := by
  rw [List.drop_eq_getElem_cons (List.getElem?_eq_some_iff.1 h).1, (List.getElem?_eq_some_iff.1 h).2, counts]
theorem MInv.add {N : Nat} {ts : List Fd} {i j : Nat} {L : List Fd} {f : Fd} (h : MInv N ts i (counts (L.drop j))) (hf : L[j]? = some f) : MInv N (ts ++ [f]) i (counts (L.drop (j + 1))) := fun hN => by
  obtain ⟨h1, h2⟩ := h hN
  rw [counts_dropF hf] at h2
  refine ⟨by rw [List.length_append]; omega, ?_⟩
  rw [List.drop_append_of_le_length h1, counts_append]
  simp only [counts]
  omega
theorem MInv.done {N : Nat} {ts : List Fd} {i : Nat} {L : List Fd} (h : MInv N ts i (counts (L.drop L.length))) : MInv N ts i 0 := by
  rw [List.drop_length] at h
  exact h
theorem MInv.next {N : Nat} {ts : List Fd} {i : Nat} {t : Fd} (h : MInv N ts i 0) (ht : ts[i]? = some t) : MInv N ts (i + 1) (counts (t.kids.drop 0)) := fun hN => by
  obtain ⟨h1, h2⟩ := h hN
  have h3 := (List.getElem?_eq_some_iff.1 ht).1
  rw [counts_dropF ht, ← count_pos] at h2
  refine ⟨by omega, ?_⟩
  rw [List.drop_zero]
  omega
theorem MInv.over {N : Nat} {ts : List Fd} {i : Nat} (h : MInv N ts i 0) (hN : N ≤ 1000) : ts.length ≤ 1000 := by
  obtain ⟨h1, h2⟩ := h hN
  have := counts_len (ts.drop i)
  rw [List.length_drop] at this
  omega
theorem MInv.last {N : Nat} {ts : List Fd} {i : Nat} (h : MInv N ts i 0) (hN : N ≤ 1000) : i ≤ ts.length ∧ (ts.length ≤ i → ts.length = N) := by
  obtain ⟨h1, h2⟩ := h hN
  refine ⟨h1, fun hle => ?_⟩
  rw [List.drop_of_length_le hle] at h2
  simp only [counts] at h2
  omega

end Go.Proofs.Ytefmlbckbhlgdaa
namespace Go.Proofs.Ytefmlbckbhlgdaa
open Go.RowKit
end Go.Proofs.Ytefmlbckbhlgdaa
namespace Go.Proofs.Ytefmlbckbhlgdaa
open Go.RowKit
end Go.Proofs.Ytefmlbckbhlgdaa
namespace Go.Proofs.Ytefmlbckbhlgdaa
open Go.RowKit
end Go.Proofs.Ytefmlbckbhlgdaa
namespace Go.Proofs.Ytefmlbckbhlgdaa
open Go.RowKit
/-- A form of kinds of one level, its fields of few. -/
structure FlatF (s : ByteArray) (toks : List (List UInt8)) : Prop where
  eq : bl s = toks.flatten
  ok : ∀ t ∈ toks, tokOk t
  size : s.size ≤ 40
  few : ∀ l, (rowI (toks.map tokK) l).isSome = true → counts l ≤ 1000

end Go.Proofs.Ytefmlbckbhlgdaa
namespace Go.Proofs.Ytefmlbckbhlgdaa
open Go.RowKit
section
variable {P : Program} {ops : Array Oper} {md : Region.Mode} {W : World} {c : Nat}
/-- A read's value, the same in all later worlds, none of which it turns. -/
def YR (P : Program) (ops : Array Oper) (W : World) (o : Oper) (v : Value) (a : Act) : Prop :=
  (Region.wanted o (yielded ops a.tmps) = true ∧ ∀ u : Later W, o.quietAt P a (fun w' => w' = u.w) u.w v) ∨ (Region.wanted o (yielded ops a.tmps) = false ∧ v = undef)
/-- The call, whatever it answers. -/
def EC (P : Program) (W : World) (o : Oper) (K : Act → World → Prop) (a : Act) (w : World) : Prop :=
  match (execOp a.eval o).run P w with
  | .ok (.enter f args) w' => w' = w ∧ Calls P f args w (fun e w'' => ∃ v, e = .returned v ∧ Below W.heap.size W w'' ∧ K (a.put o.dst v) w'')
  | _ => False
/-- What is made behind it. -/
def EB (P : Program) (o : Oper) (K : Act → World → Prop) (a : Act) (w : World) : Prop :=
  match (execOp a.eval o).run P w with
  | .ok (.value u) w' => (∃ obj, w' = w.alloc obj) ∧ K (a.put o.dst u) w'
  | _ => False
theorem EB.of {o : Oper} {K : Act → World → Prop} {a : Act} {w : World} {u : Value} {obj : Obj} (h1 : (execOp a.eval o).run P w = .ok (.value u) (w.alloc obj)) (h2 : K (a.put o.dst u) (w.alloc obj)) : EB P o K a w := by
  unfold EB
  rw [h1]
  exact ⟨⟨obj, rfl⟩, h2⟩
theorem EC.mono {o : Oper} {K K' : Act → World → Prop} {a : Act} {w : World} (h : ∀ a w, K a w → K' a w) (hh : EC P W o K a w) : EC P W o K' a w := by
  unfold EC at *
  split at hh
  · exact ⟨hh.1, hh.2.mono fun e w'' ⟨v, h1, h2, h3⟩ => ⟨v, h1, h2, h _ _ h3⟩⟩
  · cases hh
theorem YR.of_same {o : Oper} {v : Value} {a a' : Act} (hy : YR P ops W o v a) (he : execOp a'.eval o = execOp a.eval o) (hw : Region.wanted o (yielded ops a'.tmps) = Region.wanted o (yielded ops a.tmps)) : YR P ops W o v a' := by
  unfold YR Oper.quietAt at *
  rw [he, hw]
  exact hy
/-- The reads, in the order of the text. -/
def wpR (P : Program) (ops : Array Oper) (W : World) (Q : Act → Prop) : List Oper → Act → Prop
  | [], a => Q a
  | o :: rest, a => ∃ v, YR P ops W o v a ∧ wpR P ops W Q rest (a.put o.dst v)

/-- All ahead of 'k' are through: what may come is 'k'. -/
theorem only_ready {k n : Nat} {listed : Array Bool} (hs : Region.sinkB md ops n = true) (hc : Region.chainB md ops n = true) (hn : n < ops.size) (hkn : k < n) (inv : HeadInv md ops n listed) (hd : ∀ j, j < k → listed.getD j true = true)
    (hun : listed.getD k true = false) (hlast : ∀ j, k < j → j < n → j ∉ Region.ready md ops listed) : ∀ j ∈ Region.ready md ops listed, j = k := by
  intro j hj
  rcases Nat.lt_or_ge j n with h | h
  · rcases Nat.lt_or_ge j k with h2 | h2
    · have h1 := (mem_ready.1 hj).1
      rw [hd j h2] at h1; cases h1
    · by_cases e : j = k
      · exact e
      · exact absurd hj (hlast j (by omega) h)
  · exact absurd hj (tail_waits hs hc hn inv _ k rfl hkn hun j h)

end
section
variable {P : Program} {ops : Array Oper} {W : World}
theorem cr_nil {Q : Act → Prop} {a : Act} (h : Q a) : wpR P ops W Q [] a := h
theorem cr_step {Q : Act → Prop} {a : Act} {o : Oper} {rest : List Oper}
    (h : ∀ K : Act → Prop, (∀ a, wpR P ops W Q rest a → K a) → if Region.wanted o (yielded ops a.tmps) then (∃ v, (∀ u : Later W, o.quietAt P a (fun w' => w' = u.w) u.w v) ∧ K (a.put o.dst v)) else K (a.put o.dst undef)) : wpR P ops W Q (o :: rest) a := by
  have := h _ (fun _ h => h)
  unfold wpR YR
  split at this
  · rename_i hw
    obtain ⟨v, h1, h2⟩ := this
    exact ⟨v, .inl ⟨hw, h1⟩, h2⟩
  · rename_i hw
    exact ⟨_, .inr ⟨by simpa using hw, rfl⟩, this⟩
end
section
variable {P : Program} {ops : Array Oper} {md : Region.Mode} {W : World} {c : Nat}
/-- A call, whatever it answers; or a value, in the same world or with one block more. -/
def EF (P : Program) (W : World) (o : Oper) (K : Act → World → Prop) (a : Act) (w : World) : Prop :=
  match (execOp a.eval o).run P w with
  | .ok (.enter f args) w' => w' = w ∧ Calls P f args w (fun e w'' => ∃ v, e = .returned v ∧ Below W.heap.size W w'' ∧ K (a.put o.dst v) w'')
  | .ok (.value u) w' => (w' = w ∨ ∃ obj, w' = w.alloc obj) ∧ K (a.put o.dst u) w'
  | _ => False
theorem EF.mono {o : Oper} {K K' : Act → World → Prop} {a : Act} {w : World} (h : ∀ a w, K a w → K' a w) (hh : EF P W o K a w) : EF P W o K' a w := by
  unfold EF at *
  generalize (execOp a.eval o).run P w = r at *
  cases r with
  | ok n w' =>
    cases n <;> simp only at hh ⊢
    case enter f args => exact ⟨hh.1, hh.2.mono fun e w'' ⟨v, h1, h2, h3⟩ => ⟨v, h1, h2, h _ _ h3⟩⟩
    case value u => exact ⟨hh.1, h _ _ hh.2⟩
  | halt x w' => simp only at hh
def eOp (P : Program) (ops : Array Oper) (W : World) (c i : Nat) (K : Act → World → Prop) (a : Act) (w : World) : Prop :=
  match ops[i]? with
  | none => K a w
  | some o => if c ≤ i then Region.wanted o (yielded ops a.tmps) = true ∧ EF P W o K a w
    else ∃ v, YR P ops W o v a ∧ K (a.put o.dst v) w
theorem eOp_mono {i : Nat} {a : Act} {w : World} {K K' : Act → World → Prop} (h : ∀ a w, K a w → K' a w) (hh : eOp P ops W c i K a w) : eOp P ops W c i K' a w := by
  unfold eOp at *
  split
  · rename_i ho
    simp only [ho] at hh
    exact h _ _ hh
  · rename_i o ho
    simp only [ho] at hh
    by_cases e : c ≤ i
    · rw [if_pos e] at hh ⊢
      exact ⟨hh.1, hh.2.mono h⟩
    · rw [if_neg e] at hh ⊢
      obtain ⟨v, h1, h2⟩ := hh
      exact ⟨v, h1, h _ _ h2⟩
theorem eOp_put {j : Nat} {oi oj : Oper} {v : Value} {w : World} (hj : ops[j]? = some oj) (hap : oi.apart ops oj = true)
    (hsi : ∀ cs b, oi.op ≠ .select cs b) (hsj : ∀ cs b, oj.op ≠ .select cs b) {K : Act → World → Prop} {a : Act}
    (hy : YR P ops W oi v a) (h : eOp P ops W c j K (a.put oi.dst v) w) :
    eOp P ops W c j (fun a' w' => YR P ops W oi v a' ∧ K (a'.put oi.dst v) w') a w := by
  obtain ⟨h1, h2, h3⟩ := Oper.apart_spec hap
  have hs : ∀ u, YR P ops W oi v (a.put oj.dst u) := fun u => hy.of_same (execOp_put oi hsi a oj.dst u h3) (wanted_put oi a oj.dst u h3)
  have ee := execOp_put oj hsj a oi.dst v h1
  have ew := wanted_put (ops := ops) oj a oi.dst v h1
  unfold eOp at *
  simp only [hj] at *
  by_cases e : c ≤ j
  · rw [if_pos e] at h ⊢
    refine ⟨by rw [← ew]; exact h.1, ?_⟩
    have h5 := h.2
    unfold EF at *
    rw [ee] at h5
    generalize (execOp a.eval oj).run P w = r at *
    cases r with
    | ok n w' =>
      cases n <;> simp only at h5 ⊢
      case enter f args => exact ⟨h5.1, h5.2.mono fun e w'' ⟨u, k1, k2, k3⟩ => ⟨u, k1, k2, hs u, by rw [← Act.put_comm a v u h2]; exact k3⟩⟩
      case value u => exact ⟨h5.1, hs u, by rw [← Act.put_comm a v u h2]; exact h5.2⟩
    | halt x w' => simp only at h5
  · rw [if_neg e] at h ⊢
    obtain ⟨u, hu, hn⟩ := h
    exact ⟨u, hu.of_same ee.symm ew.symm, hs u, by rw [← Act.put_comm a v u h2]; exact hn⟩

def wpHeadE (P : Program) (md : Region.Mode) (ops : Array Oper) (W : World) (c n : Nat) (L : Array Bool → Act → World → Prop) : Nat → Array Bool → Act → World → Prop
  | 0, listed, a, w => L listed a w
  | f + 1, listed, a, w =>
    Region.ready md ops listed ≠ [] ∧ ∀ i ∈ Region.ready md ops listed, i < n ∧ eOp P ops W c i (wpHeadE P md ops W c n L f (listed.setIfInBounds i true)) a w

theorem wpOp_of_eOp {i : Nat} {a : Act} {K K' : Act → World → Prop} {Q' : Exit → Act → World → Prop} {w : World}
    (hC : Below W.heap.size W w) (h : ∀ a w', Below W.heap.size W w' → K a w' → K' a w') (hh : eOp P ops W c i K a w) : wpOp P ops Q' i K' a w := by
  unfold eOp at hh
  unfold wpOp
  split
  · rename_i ho
    simp only [ho] at hh
    exact h _ _ hC hh
  rename_i o ho
  simp only [ho] at hh
  by_cases e : c ≤ i
  · rw [if_pos e] at hh
    obtain ⟨hw, hc⟩ := hh
    simp only [hw, if_true]
    refine .inl ?_
    unfold Oper.wp
    unfold EF at hc
    generalize (execOp a.eval o).run P w = r at *
    cases r with
    | ok n w' =>
      cases n <;> simp only at hc <;> simp only [Oper.upon]
      case enter f args =>
        obtain ⟨rfl, hcc⟩ := hc
        exact hcc.mono fun e w'' ⟨v, he, hb, hk⟩ => by
          subst he
          exact h _ _ hb hk
      case value u =>
        obtain ⟨hw', hk⟩ := hc
        refine h _ _ ?_ hk
        rcases hw' with rfl | ⟨obj, rfl⟩
        · exact hC
        · exact hC.alloc hC.size obj
    | halt x w' => simp only at hc
  · rw [if_neg e] at hh
    obtain ⟨v, hy, hK⟩ := hh
    rcases hy with ⟨hw, hq⟩ | ⟨hw, rfl⟩
    · simp only [hw, if_true]
      refine .inl ?_
      refine Oper.wp_of_quiet (C := fun w' => w' = w) rfl (fun a w' hw' hk => h a w' (by rw [hw']; exact hC) (by rw [hw']; exact hk)) (o := o) (K := fun a => K a w) ⟨v, fun w2 hw2 => ?_, hK⟩
      rw [hw2]
      exact hq (Later.of hC)
    · simp only [hw, Bool.false_eq_true, if_false]
      exact h _ _ hC hK

theorem wpAny_of_headE {n g : Nat} {L : Array Bool → Act → World → Prop} {Q' : Exit → Act → World → Prop} (hL : ∀ listed a w, L listed a w → wpAny P md ops Q' g listed a w) :
    ∀ (f : Nat) (listed : Array Bool) (a : Act) (w : World), Below W.heap.size W w → wpHeadE P md ops W c n L f listed a w → wpAny P md ops Q' (f + g) listed a w
  | 0, listed, a, w, _, h => by rw [Nat.zero_add]; exact hL _ _ _ h
  | f + 1, listed, a, w, hw, h => by
    rw [show f + 1 + g = (f + g) + 1 by omega]
    exact ⟨fun h0 => absurd h0 h.1, fun i hi => wpOp_of_eOp hw (fun a' w' hw' h' => wpAny_of_headE hL f _ a' w' hw' h') (h.2 i hi).2⟩

theorem YR.eOp {i : Nat} {o : Oper} {v : Value} {a : Act} {w : World} (hi : ops[i]? = some o) (hic : i < c) (hy : YR P ops W o v a) {K : Act → World → Prop} (h : K (a.put o.dst v) w) : eOp P ops W c i K a w := by
  unfold Go.Proofs.Ytefmlbckbhlgdaa.eOp
  simp only [hi, if_neg (show ¬ c ≤ i by omega)]
  exact ⟨v, hy, h⟩

theorem wpHeadE_first {n i : Nat} {oi : Oper} {v : Value} {L : Array Bool → Act → World → Prop} (hi : ops[i]? = some oi) (hic : i < c) (hsel : ∀ (j : Nat) (o : Oper) cs b, ops[j]? = some o → o.op ≠ .select cs b)
    (hs : Region.sinkB md ops n = true) (hc : Region.chainB md ops n = true) (hn : n < ops.size) (hin : i < n)
    (hdone : ∀ listed a w, L listed a w → ∀ j ∈ Region.ready md ops listed, n ≤ j) :
    ∀ (f : Nat) (listed : Array Bool) (a : Act) (w : World), HeadInv md ops n listed →
      (∀ j oj, ops[j]? = some oj → j ≠ i → listed.getD j true = false → (∀ e ∈ oj.after, Region.binds md e = true → e.on ≠ i) → oi.apart ops oj = true) →
      i ∈ Region.ready md ops listed → YR P ops W oi v a →
      wpHeadE P md ops W c n L f (listed.setIfInBounds i true) (a.put oi.dst v) w → wpHeadE P md ops W c n L (f + 1) listed a w := by
  intro f
  induction f with
  | zero =>
    intro listed a w inv _ hr hy H
    have hun := (mem_ready.1 hr).1
    refine ⟨fun h => (by rw [h] at hr; cases hr), fun j hj => ?_⟩
    have hjn : j < n := by
      rcases Nat.lt_or_ge j n with h | h
      · exact h
      · exact absurd hj (tail_waits hs hc hn inv _ i rfl hin hun j h)
    refine ⟨hjn, ?_⟩
    by_cases hji : j = i
    · subst hji; exact hy.eOp hi hic H
    · have := hdone _ _ _ H j (ready_mono hj hji)
      omega
  | succ f ih =>
    intro listed a w inv hfree hr hy H
    have hun := (mem_ready.1 hr).1
    refine ⟨fun h => (by rw [h] at hr; cases hr), fun j hj => ?_⟩
    have hjn : j < n := by
      rcases Nat.lt_or_ge j n with h | h
      · exact h
      · exact absurd hj (tail_waits hs hc hn inv _ i rfl hin hun j h)
    refine ⟨hjn, ?_⟩
    by_cases hji : j = i
    · subst hji; exact hy.eOp hi hic H
    · have h1 := (H.2 j (ready_mono hj hji)).2
      obtain ⟨hjun, oj, hoj, hall⟩ := mem_ready.1 hj
      have hnot : ∀ e ∈ oj.after, Region.binds md e = true → e.on ≠ i := fun e he hb heq => by
        have h1 := hall e he hb
        rw [heq, getD_both hun] at h1
        cases h1
      have h2 := eOp_put hoj (hfree j oj hoj hji hjun hnot) (fun cs b => hsel i oi cs b hi) (fun cs b => hsel j oj cs b hoj) hy h1
      have hfree' : ∀ k ok, ops[k]? = some ok → k ≠ i → (listed.setIfInBounds j true).getD k true = false →
          (∀ e ∈ ok.after, Region.binds md e = true → e.on ≠ i) → oi.apart ops ok = true := fun k ok hk hki hun hno => by
        refine hfree k ok hk hki ?_ hno
        by_cases hjk : j = k
        · subst hjk; exact hjun
        · rw [getD_set_ne true hjk] at hun; exact hun
      refine eOp_mono (fun a' w' h3 => ih (listed.setIfInBounds j true) a' w' (inv.set hj hjn) hfree' (ready_mono hr (Ne.symm hji)) h3.1 ?_) h2
      rw [Array.setIfInBounds_comm _ _ hji]
      exact h3.2

/-- The effects, in their order. -/
def wpE (P : Program) (ops : Array Oper) (W : World) (Q : Act → World → Prop) : List Oper → Act → World → Prop
  | [], a, w => Q a w
  | o :: rest, a, w => Region.wanted o (yielded ops a.tmps) = true ∧ EF P W o (wpE P ops W Q rest) a w
def effB (md : Region.Mode) (ops : Array Oper) (c n : Nat) : Bool := (List.range n).all fun j => decide (j ≤ c) || Region.waitsFor md ops j (j - 1)
theorem chain_listed {n : Nat} {listed : Array Bool} (hE : effB md ops c n = true) (inv : HeadInv md ops n listed) {k : Nat} (hck : c ≤ k) : ∀ (d : Nat), k + d < n → listed.getD (k + d) false = true → listed.getD k false = true
  | 0, _, h => h
  | d + 1, hn, h => by
    have h1 := List.all_eq_true.1 hE (k + (d + 1)) (List.mem_range.2 hn)
    simp only [Bool.or_eq_true, decide_eq_true_eq] at h1
    rcases h1 with h1 | h1
    · omega
    · obtain ⟨o, ho, e, he, hb, hon⟩ := Region.waitsFor_spec h1
      have h2 := inv.closed _ o ho h e he hb
      rw [hon, show k + (d + 1) - 1 = k + d by omega] at h2
      exact chain_listed hE inv hck d (by omega) h2

theorem wpHeadE_eff {n g : Nat} {Lq : Act → World → Prop} (hs : Region.sinkB md ops n = true) (hc : Region.chainB md ops n = true) (hn : n < ops.size) (hE : effB md ops c n = true) :
    ∀ (l : List Oper) (k : Nat) (listed : Array Bool) (a : Act) (w : World), (∀ j, j < l.length → l[j]? = ops[k + j]?) → c ≤ k → k + l.length = n → HeadInv md ops n listed → (∀ j, j < k → listed.getD j true = true) →
    Region.lexHead md ops g l.length k listed = true → wpE P ops W Lq l a w →
    wpHeadE P md ops W c n (fun listed' a' w' => Region.seqB md ops g n listed' = true ∧ Lq a' w') l.length listed a w
  | [], k, listed, a, w, _, _, hk, _, _, hB, h => by
    have : k = n := by simpa using hk
    subst this
    exact ⟨by simpa [Region.lexHead] using hB, h⟩
  | o :: l, k, listed, a, w, hl, hck, hk, inv, hd, hB, h => by
    have h0 : ops[k]? = some o := by simpa using (hl 0 (by simp)).symm
    rw [List.length_cons, Region.lexHead, Bool.and_eq_true, Bool.and_eq_true] at hB
    obtain ⟨⟨hr, -⟩, hB'⟩ := hB
    have hkn : k < n := by simp only [List.length_cons] at hk; omega
    have hr' : k ∈ Region.ready md ops listed := by simpa using hr
    have hun := (mem_ready.1 hr').1
    refine ⟨fun h => (by rw [h] at hr'; cases hr'), fun i hi => ?_⟩
    have hik : i = k := only_ready hs hc hn hkn inv hd hun (fun j h1 h2 hj => by
      obtain ⟨_, oj, hoj, hall⟩ := mem_ready.1 hj
      have h3 := List.all_eq_true.1 hE j (List.mem_range.2 h2)
      simp only [Bool.or_eq_true, decide_eq_true_eq] at h3
      rcases h3 with h3 | h3
      · omega
      · obtain ⟨o', ho', e, he, hb, hon⟩ := Region.waitsFor_spec h3
        obtain rfl : o' = oj := Option.some.inj (ho'.symm.trans hoj)
        have h4 := hall e he hb
        rw [hon] at h4
        have h5 := chain_listed hE inv hck (j - 1 - k) (by omega) (by rw [show k + (j - 1 - k) = j - 1 by omega]; exact h4)
        rw [getD_both hun] at h5
        cases h5) i hi
    subst hik
    refine ⟨hkn, ?_⟩
    unfold eOp
    simp only [h0, if_pos hck]
    refine ⟨h.1, h.2.mono fun a' w' h' => ?_⟩
    exact wpHeadE_eff hs hc hn hE l (i + 1) _ _ _ (fun j hj => by have := hl (j + 1) (by simp; omega); simpa [Nat.add_assoc, Nat.add_comm 1 j] using this) (by omega) (by simp only [List.length_cons] at hk; omega) (inv.set hr' hkn) (fun j hj => by
      by_cases e : i = j
      · subst e; exact getD_set_same _ _
      · rw [getD_set_ne true e]; exact hd j (by omega)) hB' h'

theorem wpHeadE_lex {n g : Nat} {Lq : Act → World → Prop} (le : List Oper) (hle : ∀ j, j < le.length → le[j]? = ops[c + j]?) (hcn : c + le.length = n) (hsel : Region.noSelect ops = true) (hs : Region.sinkB md ops n = true) (hc : Region.chainB md ops n = true) (hn : n < ops.size) (hE : effB md ops c n = true) :
    ∀ (l : List Oper) (k : Nat) (listed : Array Bool) (a : Act) (w : World), (∀ j, j < l.length → l[j]? = ops[k + j]?) → k + l.length = c → HeadInv md ops n listed → (∀ j, j < k → listed.getD j true = true) →
    Region.lexHead md ops g (l.length + le.length) k listed = true → wpR P ops W (fun a => wpE P ops W Lq le a w) l a →
    wpHeadE P md ops W c n (fun listed' a' w' => Region.seqB md ops g n listed' = true ∧ Lq a' w') (l.length + le.length) listed a w
  | [], k, listed, a, w, _, hk, inv, hd, hB, h => by
    have : k = c := by simpa using hk
    subst this
    rw [List.length_nil, Nat.zero_add] at hB ⊢
    exact wpHeadE_eff hs hc hn hE le k listed a w hle (Nat.le_refl _) hcn inv hd hB h
  | o :: l, k, listed, a, w, hl, hk, inv, hd, hB, h => by
    have h0 : ops[k]? = some o := by simpa using (hl 0 (by simp)).symm
    rw [List.length_cons, show l.length + 1 + le.length = (l.length + le.length) + 1 by omega, Region.lexHead, Bool.and_eq_true, Bool.and_eq_true] at hB
    obtain ⟨⟨hr, hf⟩, hB'⟩ := hB
    have hkc : k < c := by simp only [List.length_cons] at hk; omega
    have hr' : k ∈ Region.ready md ops listed := by simpa using hr
    obtain ⟨v, hy, hK⟩ := h
    rw [List.length_cons, show l.length + 1 + le.length = (l.length + le.length) + 1 by omega]
    exact wpHeadE_first h0 hkc (Region.noSelect_spec hsel) hs hc hn (by omega) (fun listed' a' w' hL => seqB_ready hL.1) (l.length + le.length) listed a w inv (Region.free_spec h0 hf) hr' hy
      (wpHeadE_lex le hle hcn hsel hs hc hn hE l (k + 1) _ _ w (fun j hj => by have := hl (j + 1) (by simp; omega); simpa [Nat.add_assoc, Nat.add_comm 1 j] using this) (by simp only [List.length_cons] at hk; omega) (inv.set hr' (by omega)) (fun j hj => by
        by_cases e : k = j
        · subst e; exact getD_set_same _ _
        · rw [getD_set_ne true e]; exact hd j (by omega)) hB' hK)
end
/-- Reads ahead of 'c', effects from 'c' to 'n' (each waits for the one ahead of it), a tail in one order from 'n' on: one walk, in the order of the text. -/
theorem region_chain {P : Program} {id : Nat} {Q : Exit → Act → World → Prop} {a : Act} {w : World} {l : List Oper} (c n : Nat) (hm : P.follows .mixedOrders = true) (hB : (Region.lexTailB .any l.toArray n && (effB .any l.toArray c n && decide (c ≤ n))) = true)
    (h : wpR P l.toArray w (fun a => wpE P l.toArray w (fun a w => wpList P l.toArray Q (l.drop n) a w) ((l.take n).drop c) a { w with drawn := w.drawn + 1 }) (l.take c) a) : (Code.region id l.toArray true).wp P Q a w := by
  simp only [Region.lexTailB, Bool.and_eq_true, decide_eq_true_eq] at hB
  obtain ⟨⟨⟨⟨⟨hsel, hn⟩, hs⟩, hc⟩, hlex⟩, hE, hcn⟩ := hB
  have hn' : n < l.length := by simpa using hn
  have htl : (l.take c).length = c := by simp; omega
  have hel : ((l.take n).drop c).length = n - c := by simp; omega
  have hdl : (l.drop n).length = l.toArray.size - n := by simp
  have inv0 : HeadInv .any l.toArray n (Array.replicate l.toArray.size false) :=
    ⟨by simp, fun j oj _ hl => (by rw [getD_replicate_false] at hl; cases hl), fun t _ ht => getD_in (by simpa using ht) (getD_replicate_false _ _)⟩
  have hsum : (l.take c).length + ((l.take n).drop c).length = n := by rw [htl, hel]; omega
  have H := wpHeadE_lex (md := .any) (g := l.toArray.size - n) (c := c) (n := n) (Lq := fun a' w' => wpList P l.toArray Q (l.drop n) a' w') ((l.take n).drop c) (fun j hj => by
    rw [hel] at hj
    rw [List.getElem?_drop, List.getElem?_take, if_pos (by omega)]
    simp) (by rw [hel]; omega) hsel hs hc hn hE (l.take c) 0 _ a { w with drawn := w.drawn + 1 } (fun j hj => by
    have hj' : j < c := by rw [htl] at hj; exact hj
    simp [hj']) (by simpa using htl) inv0 (fun j hj => absurd hj (Nat.not_lt_zero _)) (by rw [hsum]; exact hlex) h
  refine wp_region_any hm ?_
  have := wpAny_of_headE (Q' := Q) (c := c) (g := l.toArray.size - n) (fun listed a' w' hL => by
    have := wpAny_of_seq (md := .any) (Q' := Q) (l.drop n) n listed a' w' (fun j => by simp [List.getElem?_drop]) (by rw [hdl]; exact hL.1) hL.2
    rwa [hdl] at this) _ _ _ { w with drawn := w.drawn + 1 } (Below.refl w.heap.size w).drew H
  rw [hsum, show n + (l.toArray.size - n) = l.toArray.size by omega] at this
  exact this
section
variable {P : Program} {ops : Array Oper} {W : World}
theorem ef_step {o : Oper} {rest : List Oper} {a : Act} {w : World} {Q : Act → World → Prop} (hg : o.guard = Option.none) (h : ∀ K : Act → World → Prop, (∀ a w, wpE P ops W Q rest a w → K a w) → EF P W o K a w) : wpE P ops W Q (o :: rest) a w :=
  ⟨by simp [Region.wanted, hg], h _ (fun _ _ h => h)⟩
theorem ef_nil {a : Act} {w : World} {Q : Act → World → Prop} (h : Q a w) : wpE P ops W Q [] a w := h
end
end Go.Proofs.Ytefmlbckbhlgdaa
namespace Go.Proofs.Ytefmlbckbhlgdaa
open Go.RowKit
set_option maxRecDepth 100000
/-- The item as it is handed back. -/
def ItemAns (x : It) (w : World) (v : Value) (w' : World) : Prop :=
  ∃ l b p n c ks, v = .agg #[.bool l, .string (mkS b), .slice p n c] ∧ x = .mk l b ks ∧ Below w.heap.size w w' ∧ RowT encIt (fun b => w.heap.size ≤ b) w' (.slice p n c) (itTs ks)
end Go.Proofs.Ytefmlbckbhlgdaa
namespace Go.Proofs.Ytefmlbckbhlgdaa
open Go.RowKit
set_option maxRecDepth 100000
theorem ItemAns.drew {x : It} {w w' : World} {v : Value} (h : ItemAns x { w with drawn := w.drawn + 1 } v w') : ItemAns x w v w' := by
  obtain ⟨l, b, p, n, c, ks, h1, h2, h3, h4⟩ := h
  exact ⟨l, b, p, n, c, ks, h1, h2, (Below.refl w.heap.size w).drew.trans h3, h4⟩
theorem ItemAns.below {x : It} {w w' : World} {v : Value} (h : ItemAns x w v w') : Below w.heap.size w w' := by
  obtain ⟨l, b, p, n, c, ks, h1, h2, h3, h4⟩ := h
  exact h3
end Go.Proofs.Ytefmlbckbhlgdaa
namespace Go.Proofs.Ytefmlbckbhlgdaa
open Go.RowKit
set_option maxRecDepth 100000
end Go.Proofs.Ytefmlbckbhlgdaa
namespace Go.Proofs.Ytefmlbckbhlgdaa
open Go.RowKit
set_option maxRecDepth 100000
theorem mkS_drop (l : List UInt8) (m : Nat) : (mkS l).extract m (mkS l).size = mkS (l.drop m) := by
  apply bl_inj
  rw [bl_extract, bl_mk, bl_mk, mk_size, List.take_length]
theorem mkS_take (l : List UInt8) (m : Nat) : (mkS l).extract 0 m = mkS (l.take m) := by
  apply bl_inj
  rw [bl_extract, bl_mk, bl_mk, List.drop_zero]
def selC (c : Nat) (p : Pr) : Bool := decide (c = 16) || hasC c p
def cutP (c m : Nat) (l : List Pr) : List Pr := cutK m (l.filter (selC c))
theorem selC_all (l : List Pr) : l.filter (selC 16) = l := List.filter_eq_self.2 fun p _ => by simp [selC]
theorem selC_some {c : Nat} (h : c ≠ 16) (l : List Pr) : l.filter (selC c) = l.filter (hasC c) := List.filter_congr fun p _ => by simp [selC, h]

set_option maxHeartbeats 4000000 in
theorem rcut_any (c m : Nat) (v : Value) (l : List Pr) (w : World) (h : RP w v l) (hl : l.length ≤ 100000) (hc : c ≤ 16) (_hm : m ≤ 100000) (hk : ∀ p ∈ l, selC c p = true → m ≤ p.1.length) (hz : ∀ p ∈ l, p.1.length ≤ 100000) :
    Calls Try.prog 81 #[v, .int .i64 c, .int .i64 m] w fun e w' => ∃ v', e = .returned v' ∧ RP w' v' (cutP c m l) ∧ Below w.heap.size w w' := by
  obtain ⟨p, cp, rfl, h1, h2⟩ := RowE.shape encP h
  have HR := Lib.hid h
  have HB0 : Hid (Below w.heap.size w (w.alloc (.cells #[] 41))) := Lib.hid ((Below.refl _ _).alloc (Nat.le_refl _) _)
  have O0 : Hid (OP (w.alloc (.cells #[] 41)) w.heap.size (.slice (some ⟨w.heap.size, 0, none⟩) 0 0) []) := Lib.hid (OwnE.start encP (Nat.le_refl _))
  have HS : Hid (∀ i x, l[i]? = some x → cutP c m (l.drop i) = if selC c x = true then (x.1.drop m, x.2) :: cutP c m (l.drop (i + 1)) else cutP c m (l.drop (i + 1))) := Lib.hid (fun i x hx => by
    obtain ⟨hlt, e⟩ := List.getElem?_eq_some_iff.1 hx
    rw [List.drop_eq_getElem_cons hlt, e]
    unfold cutP
    by_cases hs : selC c x = true
    · rw [List.filter_cons_of_pos hs, if_pos hs]; rfl
    · rw [List.filter_cons_of_neg hs, if_neg hs])
  have H0 : Hid ([] ++ cutP c m (l.drop 0) = cutP c m l) := Lib.hid rfl
  have HE : Hid (cutP c m (l.drop l.length) = []) := Lib.hid (by rw [List.drop_length]; rfl)
  have HK := Lib.hid hk
  have HZ := Lib.hid hz
  generalize cutP c m l = r at *
  clear h hk hz
  unfold maxLen at h2
  go_enter Try.func81, Try.ntmps81
  go_upto_region 3 with (fail)
  go_loopw [7, 13] (fun s7 s wr => ∃ (i : Nat) (out : List Pr), i ≤ l.length ∧ out.length ≤ i ∧ s = .int .i64 i ∧ Hid (OP wr w.heap.size s7 out) ∧ Hid (out ++ cutP c m (l.drop i) = r) ∧ Hid (Below w.heap.size w wr)) (fun _ s _ => l.length - (intOf s).toNat)
  case atStart => exact ⟨0, [], Nat.zero_le _, Nat.zero_le _, rfl, O0, H0, HB0⟩
  case round =>
    clear H0 HB0 O0
    obtain ⟨i, out, hi, hoi, rfl, ho, hr, hb⟩ := hrel
    have O := Lib.hid ho.out
    have HR1 := Lib.hid hr.out
    have HB := Lib.hid hb.out
    clear ho hr hb
    by_cases hlt : i < l.length
    · obtain ⟨x, hx⟩ : ∃ x, l[i]? = some x := ⟨_, List.getElem?_eq_getElem hlt⟩
      obtain ⟨a, rfl, c0, c1⟩ := RP.at (RP.below HR.out HB.out (Nat.le_refl _)) hx
      have hs := HS.out i x hx
      have hkx := HK.out x (List.mem_of_getElem? hx)
      have hzx := HZ.out x (List.mem_of_getElem? hx)
      have HA := prAlloc wr x
      have O1 := Lib.hid (O.out.below HA (Nat.le_refl _))
      have HB1 := Lib.hid (HB.out.trans (HA.mono HB.out.size))
      have R1 := Lib.hid (RowAt.new wr #[.string (mkS x.1), .string (mkS x.2)] 41)
      have HOL : Hid (∀ g, u7.ownBlock = some g → g < wr.heap.size) := Lib.hid (fun g hg => (World.ownsRow.lt O.out g hg).2)
      clear HA hx O HB
      go_upto_region 5 with (fail)
      clear c0 c1
      generalize hw1 : wr.alloc (.cells #[.string (mkS x.1), .string (mkS x.2)] 41) = w1 at *
      clear hw1
      generalize wr.heap.size = k1 at *
      obtain ⟨y0, y1, yf0, yf1⟩ := R1.out.c2
      have hsz : (mkS x.1).size = x.1.length := mk_size _
      by_cases hsel : selC c x = true
      · rw [if_pos hsel] at hs
        have hml := hkx hsel
        have hdr := mkS_drop x.1 m
        rw [hsz] at hdr
        have hv := Lib.hid (show (out ++ [(x.1.drop m, x.2)]) ++ cutP c m (l.drop (i + 1)) = r by rw [List.append_assoc, List.singleton_append, ← hs]; exact HR1.out)
        have HD : Below w1.heap.size w1 w1.drew := (Below.refl _ _).drew
        have R2 := Lib.hid (RowAt.new w1.drew #[.string (mkS (x.1.drop m)), .string (mkS x.2)] 41)
        have HA := HD.trans (prAlloc w1.drew (x.1.drop m, x.2))
        have O2 := Lib.hid ((O1.out.below HA (Nat.le_refl _)))
        have HB2 := Lib.hid (HB1.out.trans (HA.mono HB1.out.size))
        have HL2 := Lib.hid (RowE.lit encP R2.out (x.1.drop m, x.2) rfl)
        have HZ2 := Lib.hid HB2.out.size
        clear HA O1 HB1 hs hkx HR1
        have q0 : (m : Int) ≤ x.1.length := by omega
        obtain ⟨z0, z1⟩ := R1.out.l2
        by_cases e16 : c = 16
        · have hc16 : ((c : Int) == 16) = true := beq_iff_eq.2 (by omega)
          clear hsel e16
          go_upto_region 6 with (fail)
          clear y0 y1 yf0 yf1
          (refine region_chain 8 9 mix ?hB ?_; case hB => kernel_rfl); (simp only [List.take_succ_cons, List.take_zero, List.drop_succ_cons, List.drop_zero]); (iterate 8 (with_reducible refine cr_step ?_; intro K hK; go_simp; (with_reducible refine hK _ ?_); clear hK K)); (with_reducible refine cr_nil ?_); (with_reducible refine ef_step rfl ?_); (intro K hK; unfold EF; go_simp; (first | refine ⟨Or.inr ⟨_, rfl⟩, hK _ _ ?_⟩ | refine hK _ _ ?_); clear hK K); (with_reducible refine ef_nil ?_)
          go_wp2_with (at_builtin; refine wpList_append_rowG encP Try.underlying34 info_pr rfl rfl _ _ rfl w.heap.size _ out rfl O2.out _ [(x.1.drop m, x.2)] rfl HL2.out (by unfold maxLen; simp; omega) (by simp; omega) HZ2.out ?_)
          intro v' w2 ho hgr hbb hz _
          have HO := Lib.hid (show OP w2 w.heap.size v' (out ++ [(x.1.drop m, x.2)]) from ho)
          have HB3 := Lib.hid (hbb _ HB2.out)
          clear ho hgr hbb hz
          go_wp2
          go_roundw
          case rel => exact ⟨i + 1, out ++ [(x.1.drop m, x.2)], by omega, by simp; omega, by simp, HO, hv, HB3⟩
          case measure => simp [intOf]; omega
        · have hc16 : ((c : Int) == 16) = false := beq_eq_false_iff_ne.2 (by omega)
          have hsc : hasC c x = true := by simpa [selC, e16] using hsel
          obtain ⟨y, ys, hxy, hyc⟩ := hasC_some hsc
          obtain ⟨hi0, hg0⟩ := at_byte (s := mkS x.1) (i := 0) (c := y) (by rw [bl_mk, hxy]; rfl)
          have hgc : ((mkS x.1)[0]'hi0).toNat = c := by rw [hg0]; exact hyc
          have hc2 : c < 16 := by omega
          have hwr : IntKind.i64.wrap (c : Int) = (c : Int) := by rw [IntKind.wrap_i64]; omega
          have hi1 : (0 : Int) < ((mkS x.1).size : Int) := by omega
          clear hsc hsel hg0 hyc hxy
          go_upto_region 6 with (fail)
          clear y0 y1 yf0 yf1
          (refine region_chain 8 9 mix ?hB ?_; case hB => kernel_rfl); (simp only [List.take_succ_cons, List.take_zero, List.drop_succ_cons, List.drop_zero]); (iterate 8 (with_reducible refine cr_step ?_; intro K hK; go_simp; (with_reducible refine hK _ ?_); clear hK K)); (with_reducible refine cr_nil ?_); (with_reducible refine ef_step rfl ?_); (intro K hK; unfold EF; go_simp; (first | refine ⟨Or.inr ⟨_, rfl⟩, hK _ _ ?_⟩ | refine hK _ _ ?_); clear hK K); (with_reducible refine ef_nil ?_)
          go_wp2_with (at_builtin; refine wpList_append_rowG encP Try.underlying34 info_pr rfl rfl _ _ rfl w.heap.size _ out rfl O2.out _ [(x.1.drop m, x.2)] rfl HL2.out (by unfold maxLen; simp; omega) (by simp; omega) HZ2.out ?_)
          intro v' w2 ho hgr hbb hz _
          have HO := Lib.hid (show OP w2 w.heap.size v' (out ++ [(x.1.drop m, x.2)]) from ho)
          have HB3 := Lib.hid (hbb _ HB2.out)
          clear ho hgr hbb hz
          go_wp2
          go_roundw
          case rel => exact ⟨i + 1, out ++ [(x.1.drop m, x.2)], by omega, by simp; omega, by simp, HO, hv, HB3⟩
          case measure => simp [intOf]; omega
      · rw [if_neg hsel] at hs
        have hv := Lib.hid (show out ++ cutP c m (l.drop (i + 1)) = r by rw [← hs]; exact HR1.out)
        have hc16 : ((c : Int) == 16) = false := beq_eq_false_iff_ne.2 (fun e => hsel (by
          have : c = 16 := by omega
          simp [selC, this]))
        clear hs hkx HR1
        cases hx1 : x.1 with
        | nil =>
          have hz0 : (mkS x.1).size = 0 := by rw [hsz, hx1]; rfl
          clear hx1 hsel
          go_wp2
          exact ⟨⟨i + 1, out, by omega, by omega, by simp, O1, hv, HB1⟩, by simp [intOf]; omega⟩
        | cons y ys =>
          obtain ⟨hi0, hg0⟩ := at_byte (s := mkS x.1) (i := 0) (c := y) (by rw [bl_mk, hx1]; rfl)
          have hi1 : (0 : Int) < ((mkS x.1).size : Int) := by omega
          have hne : ¬ ((((mkS x.1)[0]'hi0).toNat : Int) = (c : Int)) := fun e => hsel (by
            have : y.toNat = c := by rw [← hg0]; omega
            simp [selC, hasC, hx1, this])
          have hwr : IntKind.i64.wrap (((mkS x.1)[0]'hi0).toNat : Int) = (((mkS x.1)[0]'hi0).toNat : Int) := by
            have := ((mkS x.1)[0]'hi0).toNat_lt
            rw [IntKind.wrap_i64]; omega
          clear hx1 hsel hg0
          generalize hq : ((mkS x.1)[0]'hi0).toNat = q at *
          have hbqc : ((q : Int) == (c : Int)) = false := beq_eq_false_iff_ne.2 hne
          clear hne
          go_wp2
          exact ⟨⟨i + 1, out, by omega, by omega, by simp, O1, hv, HB1⟩, by simp [intOf]; omega⟩
    · obtain rfl : i = l.length := by omega
      have hv := Lib.hid (show out = r by have := HR1.out; rw [HE.out, List.append_nil] at this; exact this)
      go_wp2
      go_ret
      exact ⟨_, rfl, by rw [← hv.out]; exact OwnE.row encP O.out, HB.out⟩
end Go.Proofs.Ytefmlbckbhlgdaa
namespace Go.Proofs.Ytefmlbckbhlgdaa
open Go.RowKit
set_option maxRecDepth 100000
set_option maxHeartbeats 2000000 in
theorem rshare_any (a b : ByteArray) (w : World) (ha : a.size ≤ 9223372036854775807) (_hb : b.size ≤ 9223372036854775807) :
    Calls Try.prog 132 #[.string a, .string b] w fun e w' => e = .returned (.int .i64 (shareB a b)) ∧ Below w.heap.size w w' := by
  have H1 := shareB_le a b
  have HS := Lib.hid (shareB_stop a b)
  generalize hn : shareB a b = n at *
  have HA : Hid (∀ k, k < n → (h1 : k < a.size) → (h2 : k < b.size) → ((a[k].toNat : Int) == (b[k].toNat : Int)) = true) := by subst hn; exact fun k h h1 h2 => shareB_alike a b h h1 h2
  clear hn
  go_enter Try.func132, Try.ntmps132
  go_wp2
  go_loopw [5] (fun i wr => ∃ k : Nat, k ≤ n ∧ i = .int .i64 k ∧ Below w.heap.size w wr) (fun i _ => n - (intOf i).toNat)
  case atStart => exact ⟨0, Nat.zero_le _, rfl, Below.refl _ _⟩
  case round =>
    obtain ⟨k, hk, rfl, hbl⟩ := hrel
    have HB := Lib.hid hbl
    clear hbl
    by_cases hlt : k < n
    · have l1 : k < a.size := by omega
      have l2 : k < b.size := by omega
      have hq := HA.out k hlt l1 l2
      have hq2 : ((a[k].toNat : Int) != (b[k].toNat : Int)) = false := by rw [bne, hq]; rfl
      clear hq
      have hd : decide (b.size ≤ k) = false := by simp; omega
      go_wp2
      (refine region_tail 12 mix ?hB ?_; case hB => kernel_rfl); (simp only [List.take_succ_cons, List.take_zero, List.drop_succ_cons, List.drop_zero]; (iterate 12 (with_reducible refine wpStill_step ?_; intro K hK; go_simp; with_reducible refine hK _ ?_; clear hK K)); with_reducible refine wpStill_nil ?_)
      go_wp2
      go_roundw
      case rel => exact ⟨k + 1, by omega, by go_num, HB.out.drew⟩
      case measure => simp [intOf]; omega
    · obtain rfl : k = n := by omega
      by_cases l1 : k < a.size
      · by_cases l2 : k < b.size
        · have hq := HS.out l1 l2
          have hq2 : ((a[k].toNat : Int) != (b[k].toNat : Int)) = true := by rw [bne, hq]; rfl
          clear hq
          have hd : decide (b.size ≤ k) = false := by simp; omega
          go_wp2
          (refine region_tail 12 mix ?hB ?_; case hB => kernel_rfl); (simp only [List.take_succ_cons, List.take_zero, List.drop_succ_cons, List.drop_zero]; (iterate 12 (with_reducible refine wpStill_step ?_; intro K hK; go_simp; with_reducible refine hK _ ?_; clear hK K)); with_reducible refine wpStill_nil ?_)
          go_wp2
          go_ret
          exact ⟨rfl, HB.out.drew⟩
        · have hd : decide (b.size ≤ k) = true := by simp; omega
          clear l2
          go_wp2
          (refine region_tail 12 mix ?hB ?_; case hB => kernel_rfl); (simp only [List.take_succ_cons, List.take_zero, List.drop_succ_cons, List.drop_zero]; (iterate 12 (with_reducible refine wpStill_step ?_; intro K hK; go_simp; with_reducible refine hK _ ?_; clear hK K)); with_reducible refine wpStill_nil ?_)
          go_wp2
          go_ret
          exact ⟨rfl, HB.out.drew⟩
      · obtain rfl : k = a.size := by omega
        go_wp2
        go_ret
        exact ⟨rfl, HB.out⟩

end Go.Proofs.Ytefmlbckbhlgdaa
namespace Go.Proofs.Ytefmlbckbhlgdaa
open Go.RowKit
set_option maxRecDepth 100000
theorem shareB_mk (a b : List UInt8) : shareB (mkS a) (mkS b) = shareL a b := by
  unfold shareB
  show shareL (bl (mkS a)) (bl (mkS b)) = _
  rw [bl_mk, bl_mk]

set_option maxHeartbeats 2000000 in
theorem rcommon_any (v : Value) (p0 : Pr) (r0 : List Pr) (w : World) (h : RP w v (p0 :: r0)) (hl : (p0 :: r0).length ≤ 100000) (hz : ∀ p ∈ p0 :: r0, p.1.length ≤ 100000) :
    Calls Try.prog 80 #[v] w fun e w' => e = .returned (.int .i64 (commonL (p0 :: r0))) ∧ Below w.heap.size w w' := by
  have KS := Lib.hid (fun (x : Pr) (hx : x.1.length ≤ 100000) (h0 : p0.1.length ≤ 100000) W => rshare_any (mkS x.1) (mkS p0.1) W (by rw [mk_size]; omega) (by rw [mk_size]; omega))
  obtain ⟨p, cp, rfl, h1, h2⟩ := RowE.shape encP h
  have HR := Lib.hid h
  have HB0 := Lib.hid (Below.refl w.heap.size w)
  have HZ := Lib.hid hz
  have hz0 := hz p0 List.mem_cons_self
  obtain ⟨a, rfl, d0, d1⟩ := RP.at h (i := 0) rfl
  have D0 := Lib.hid d0
  have H0 : Hid ((p0 :: r0).foldl (fun n q => min n (shareL q.1 p0.1)) p0.1.length = commonL (p0 :: r0)) := Lib.hid (by
    rw [List.foldl_cons, shareL_self, Nat.min_self]; rfl)
  have hsz : (mkS p0.1).size = p0.1.length := mk_size _
  generalize commonL (p0 :: r0) = res at *
  generalize hll : p0 :: r0 = l at *
  have hpos : 0 < l.length := by rw [← hll]; simp
  have HS : Hid (∀ i x n, l[i]? = some x → (l.drop i).foldl (fun n q => min n (shareL q.1 p0.1)) n = (l.drop (i + 1)).foldl (fun n q => min n (shareL q.1 p0.1)) (min n (shareL x.1 p0.1))) := Lib.hid (fun i x n hx => by
    obtain ⟨hlt, e⟩ := List.getElem?_eq_some_iff.1 hx
    rw [List.drop_eq_getElem_cons hlt, e, List.foldl_cons])
  have HE : Hid (∀ n, (l.drop l.length).foldl (fun n q => min n (shareL q.1 p0.1)) n = n) := Lib.hid (fun n => by rw [List.drop_length]; rfl)
  replace H0 : Hid ((l.drop 0).foldl (fun n q => min n (shareL q.1 p0.1)) p0.1.length = res) := H0
  clear h hz hll d1
  unfold maxLen at h2
  have hadd : a.add 0 = a := Addr.add_zero' a
  rw [Nat.zero_mul, hadd] at d0
  go_enter Try.func80, Try.ntmps80
  go_upto_region 3 with (fail)
  go_loopw [3, 14] (fun s3 s wr => ∃ (i n : Nat), i ≤ l.length ∧ s3 = .int .i64 n ∧ s = .int .i64 i ∧ Hid ((l.drop i).foldl (fun n q => min n (shareL q.1 p0.1)) n = res) ∧ Hid (Below w.heap.size w wr)) (fun _ s _ => l.length - (intOf s).toNat)
  case atStart => exact ⟨0, p0.1.length, Nat.zero_le _, rfl, rfl, H0, HB0⟩
  case round =>
    clear H0 HB0 d0
    obtain ⟨i, n, hi, rfl, rfl, hr, hb⟩ := hrel
    have HR1 := Lib.hid hr.out
    have HB := Lib.hid hb.out
    clear hr hb
    by_cases hlt : i < l.length
    · obtain ⟨x, hx⟩ : ∃ x, l[i]? = some x := ⟨_, List.getElem?_eq_getElem hlt⟩
      obtain ⟨a', e', c0, c1⟩ := RP.at (RP.below HR.out HB.out (Nat.le_refl _)) hx
      obtain rfl := Option.some.inj e'
      clear e'
      have hs := HS.out i x n hx
      have hv := hs.symm.trans HR1.out
      have KC := Lib.hid (KS.out x (HZ.out x (List.mem_of_getElem? hx)) hz0)
      rw [shareB_mk] at KC
      generalize shareL x.1 p0.1 = q at *
      have HA := prAlloc wr x
      have HB1 := Lib.hid (HB.out.trans (HA.mono HB.out.size))
      have R1 := Lib.hid (RowAt.new wr #[.string (mkS x.1), .string (mkS x.2)] 41)
      clear HA hx HB hs HR1
      go_upto_region 5 with (fail)
      clear c0 c1
      generalize wr.alloc (.cells #[.string (mkS x.1), .string (mkS x.2)] 41) = w1 at *
      generalize wr.heap.size = k1 at *
      obtain ⟨z0, z1⟩ := R1.out.l2
      have da : ∀ u : Later w1, u.w.cell? a = some (.string (mkS p0.1)) := fun u => by
        have h0 := D0.out
        rw [Nat.zero_mul, hadd] at h0
        rw [(HB1.out.trans (u.below.mono HB1.out.size)).cell (block_lt_of_cell h0)]
        exact h0
      (refine region_later mix ?hB ?_; case hB => kernel_rfl); (repeat (first | go_big_quiet_step ((go_at_call 132; with_reducible exact Later.call (KC.out _))) | quiet_step ((go_at_call 132; with_reducible exact Later.call (KC.out _))))); (refine wpQuiet_nil ?_; rintro _ ⟨u, rfl⟩)
      have HB2 := Lib.hid (HB1.out.trans (u.below.mono HB1.out.size))
      clear z0 z1 da HB1 KC
      by_cases hq : q < n
      · have hv2 := Lib.hid (show (l.drop (i + 1)).foldl (fun n q => min n (shareL q.1 p0.1)) q = res by rw [← hv]; congr 1; omega)
        have hqi : (q : Int) < n := by omega
        clear hv
        go_wp2
        go_roundw
        case rel => exact ⟨i + 1, q, by omega, rfl, by simp, hv2, HB2⟩
        case measure => simp [intOf]; omega
      · have hv2 := Lib.hid (show (l.drop (i + 1)).foldl (fun n q => min n (shareL q.1 p0.1)) n = res by rw [← hv]; congr 1; omega)
        have hqi : ¬ (q : Int) < n := by omega
        clear hv
        go_wp2
        go_roundw
        case rel => exact ⟨i + 1, n, by omega, rfl, by simp, hv2, HB2⟩
        case measure => simp [intOf]; omega
    · obtain rfl : i = l.length := by omega
      have hv := Lib.hid (show n = res from (HE.out n).symm.trans HR1.out)
      go_wp2
      go_ret
      exact ⟨by rw [← hv.out]; rfl, HB.out⟩
end Go.Proofs.Ytefmlbckbhlgdaa
