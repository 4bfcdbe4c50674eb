/- Vote, the plain side of the laws. -/
import Derived.Test.YtlljpnbajgcidaaVoR
namespace Go.Proofs.Ytlljpnbajgcidaa
open Go.RowKit

/-- How many others have voted so. -/
def hadL (V : List Bal) (b : Bal) : Nat := V.countP fun x => (decide (x.2.1 = b.2.1) && (x.2.2 == b.2.2)) && decide (x.1 ≠ b.1)
theorem had_none {b : Bal} : ∀ {l : List Bal}, (∀ y ∈ l, ¬ keyB y b) → hadL l b = cntL l b := fun {l} h => by
  unfold hadL cntL
  refine List.countP_congr fun y hy => ?_
  have := h y hy
  unfold keyB at this
  by_cases e : y.2.1 = b.2.1
  · have : y.1 ≠ b.1 := fun e2 => this ⟨e, e2⟩
    simp [e, this]
  · simp [e]
theorem had_put {S : List ByteArray} {V V1 : List Bal} {b : Bal} (hs : Pw ltB V) (hst : ∀ x ∈ V, standsL S x = true) (hb : standsL S b = true) (hp : PutIn V b V1) : cntL V1 b = hadL V b + 1 := by
  rcases put_cnt hs hst hb hp with ⟨rfl, hm⟩ | ⟨hn, _, _, h⟩
  · obtain ⟨l, m, rfl⟩ := List.append_of_mem hm
    obtain ⟨q1, q2, q3⟩ := List.pairwise_append.1 hs
    obtain ⟨q4, _⟩ := List.pairwise_cons.1 q2
    have h1 : hadL l b = cntL l b := had_none fun y hy => ltB_nkey (q3 y hy b (List.mem_cons_self ..))
    have h2 : hadL m b = cntL m b := had_none fun y hy k => ltB_nkey (q4 y hy) k.symm
    unfold hadL cntL at *
    simp only [List.countP_append, List.countP_cons, h1, h2]
    simp
    omega
  · rw [h, had_none hn]
theorem cnt_put {S : List ByteArray} {V V1 : List Bal} {b : Bal} (hs : Pw ltB V) (hst : ∀ x ∈ V, standsL S x = true) (hb : standsL S b = true) (hp : PutIn V b V1) : (b ∈ V → cntL V1 b = cntL V b ∧ V1 = V) ∧ (b ∉ V → cntL V1 b = cntL V b + 1) := by
  rcases put_cnt hs hst hb hp with ⟨rfl, hm⟩ | ⟨hn, _, _, h⟩
  · exact ⟨fun _ => ⟨rfl, rfl⟩, fun h => absurd hm h⟩
  · exact ⟨fun h => absurd ⟨rfl, rfl⟩ (hn b h), fun _ => h⟩

theorem setBy_len {S S' : List ByteArray} {b : Bal} (h : SetBy S b S') : (b.2.2 = true ∧ S'.length = S.length + 1) ∨ (b.2.2 = false ∧ S.length = S'.length + 1) := by
  cases hb : b.2.2
  · exact .inr ⟨rfl, (h.2.2 hb).2⟩
  · exact .inl ⟨rfl, (h.2.1 hb).2⟩
theorem setBy_has {S S' : List ByteArray} {b : Bal} (h : SetBy S b S') : hasL S' b.2.1 = b.2.2 := by
  cases hb : b.2.2
  · exact hasL_false fun e => ((((h.2.2 hb).1 _).1 e).2) rfl
  · exact hasL_true (((h.2.1 hb).1 _).2 (.inl rfl))

theorem taken_len {S S' : List ByteArray} {V V' : List Bal} {b : Bal} (h : Taken S V b S' V') : V'.length ≤ V.length + 1 := by
  obtain ⟨hr, hf, V1, hp, h⟩ := h
  have h1 : V1.length ≤ V.length + 1 := by
    rcases put_cnt hr.pw hr.stands (stands_of hf) hp with ⟨rfl, _⟩ | ⟨_, h, _⟩ <;> omega
  rcases h with ⟨_, _, rfl⟩ | ⟨_, _, _, rfl⟩
  · exact h1
  · exact Nat.le_trans (Nat.le_trans (stayL_sub _ _ _).length_le (leftL_sub _ _).length_le) h1

/-- VoteKeeps, of one cast. -/
theorem taken_keeps {S S' : List ByteArray} {V V' : List Bal} {b : Bal} (h : Taken S V b S' V') : 1 ≤ S'.length ∧ S'.length ≤ S.length + 1 ∧ S.length ≤ S'.length + 1 ∧ (S.length ≠ S'.length ↔ S.length < 2 * (hadL V b + 1)) ∧ (S.length ≠ S'.length → hasL S' b.2.1 = b.2.2) := by
  have hr' := h.right
  obtain ⟨hr, hf, V1, hp, h⟩ := h
  have hh := had_put hr.pw hr.stands (stands_of hf) hp
  have h1 := hr'.1.2.2.1
  rcases h with ⟨hw, rfl, _⟩ | ⟨hw, hS, _, _⟩
  · rw [won_iff, hh] at hw
    exact ⟨h1, by omega, by omega, by omega, fun h => absurd rfl h⟩
  · have hw' : S.length < 2 * cntL V1 b := by unfold wonL at hw; simpa using hw
    rw [hh] at hw'
    have := setBy_len hS
    exact ⟨h1, by omega, by omega, by omega, fun _ => setBy_has hS⟩

/-- VoteAgain. -/
theorem taken_again {S S' S2 : List ByteArray} {V V' V2 : List Bal} {b : Bal} {c : Int} (h : Taken S V b S' V') (h2 : CastRel S' V' b S2 V2 c) :
    (S'.length ≠ S.length ∧ c = 44 ∧ S2 = [] ∧ V2 = []) ∨ (S'.length = S.length ∧ c = 0 ∧ S2 = S' ∧ V2 = V' ∧ S' = S ∧ 1 ≤ cntL V' b) := by
  have hr' := h.right
  obtain ⟨hr, hf, V1, hp, h⟩ := h
  have hb := stands_of hf
  rcases h with ⟨hw, rfl, rfl⟩ | ⟨hw, hS, _, _⟩
  · refine .inr ⟨rfl, ?_⟩
    have hin : b ∈ V' := (put_mem hr.stands hb hp b).2 (.inl rfl)
    rcases h2.cases with ⟨h, _⟩ | ⟨_, h, _⟩ | ⟨rfl, _, _, W, hp2, h⟩
    · exact absurd hr' h
    · exact absurd h hf
    · obtain rfl := ((cnt_put hr'.pw hr'.stands hb hp2).1 hin).2
      rcases h with ⟨_, rfl, rfl⟩ | ⟨h, _⟩
      · exact ⟨rfl, rfl, rfl, rfl, by rw [had_put hr.pw hr.stands hb hp]; omega⟩
      · rw [hw] at h; cases h
  · have hl := setBy_len hS
    refine .inl ⟨by omega, ?_⟩
    have hno : Refused S' b := .inl (by
      have := setBy_has hS
      cases e : standsL S' b
      · rfl
      · unfold standsL at e
        simp only [Bool.and_eq_true, beq_iff_eq] at e
        rw [this] at e
        cases hb3 : b.2.2 <;> rw [hb3] at e <;> simp at e)
    rcases h2.cases with ⟨h, _⟩ | ⟨_, _, rfl, rfl, rfl⟩ | ⟨rfl, _, h, _⟩
    · exact absurd hr' h
    · exact ⟨rfl, rfl, rfl⟩
    · exact absurd hno h

/-- VoteOrder. -/
theorem taken_step {S S2 : List ByteArray} {V Va Vb V2 : List Bal} {a b : Bal} {c : Int} (hr : RightOk S V) (hfa : ¬ Refused S a) (hfb : ¬ Refused S b) (hpa : PutIn V a Va) (hpb : PutIn V b Vb) (hwa : wonL S Va a = false) (hwb : wonL S Vb b = false)
    (hab : a.2.1 ≠ b.2.1) (h : CastRel S Va b S2 V2 c) : c = 0 ∧ S2 = S ∧ Pw ltB V2 ∧ ∀ x, x ∈ V2 ↔ x = b ∨ x = a ∨ x ∈ V := by
  have hsa := stands_of hfa
  have hsb := stands_of hfb
  have hra := put_right hr hsa hpa hwa
  rcases h.cases with ⟨h, _⟩ | ⟨_, h, _⟩ | ⟨rfl, _, _, W, hpw, h⟩
  · exact absurd hra h
  · exact absurd h hfb
  · have hk : ¬ kindB b a := fun h => hab h.1.symm
    have h1 : cntL Va b = cntL V b := by
      rcases put_cnt hr.pw hr.stands hsa hpa with ⟨rfl, _⟩ | ⟨_, _, h, _⟩
      · rfl
      · exact h b hk
    have hmem : b ∈ Va ↔ b ∈ V := by
      rw [put_mem hr.stands hsa hpa]
      exact ⟨fun h => by rcases h with e | h; exact absurd (by rw [e]) hab.symm; exact h, .inr⟩
    have hcW : cntL W b = cntL Vb b := by
      by_cases hm : b ∈ V
      · rw [((cnt_put hra.pw hra.stands hsb hpw).1 (hmem.2 hm)).1, ((cnt_put hr.pw hr.stands hsb hpb).1 hm).1, h1]
      · rw [(cnt_put hra.pw hra.stands hsb hpw).2 (fun h => hm (hmem.1 h)), (cnt_put hr.pw hr.stands hsb hpb).2 hm, h1]
    have hwW : wonL S W b = false := by rw [won_iff, hcW, ← won_iff]; exact hwb
    rcases h with ⟨_, rfl, rfl⟩ | ⟨h, _⟩
    · refine ⟨rfl, rfl, put_pw hra.pw hpw, fun x => ?_⟩
      rw [put_mem hra.stands hsb hpw, put_mem hr.stands hsa hpa]
    · rw [hwW] at h; cases h
theorem taken_order {S X Y Sxy Syx : List ByteArray} {V VX VY Vxy Vyx : List Bal} {a b : Bal} {g h : Int} (ha : Taken S V a X VX) (hb : Taken S V b Y VY) (hab : a.2.1 ≠ b.2.1) (hX : X.length = S.length) (hY : Y.length = S.length)
    (hg : CastRel X VX b Sxy Vxy g) (hh : CastRel Y VY a Syx Vyx h) : g = 0 ∧ h = 0 ∧ Sxy = Syx ∧ Vxy = Vyx := by
  obtain ⟨hr, hfa, Va, hpa, ha⟩ := ha
  obtain ⟨_, hfb, Vb, hpb, hb⟩ := hb
  rcases ha with ⟨hwa, rfl, rfl⟩ | ⟨_, hS, _⟩
  · rcases hb with ⟨hwb, rfl, rfl⟩ | ⟨_, hS, _⟩
    · obtain ⟨e1, e2, e3, e4⟩ := taken_step hr hfa hfb hpa hpb hwa hwb hab hg
      obtain ⟨f1, f2, f3, f4⟩ := taken_step hr hfb hfa hpb hpa hwb hwa (Ne.symm hab) hh
      refine ⟨e1, f1, by rw [e2, f2], pw_ext (@ltB_asym) (@ltB_irr) e3 f3 fun x => ?_⟩
      rw [e4, f4]
      exact ⟨fun h => by rcases h with h | h | h <;> simp [h], fun h => by rcases h with h | h | h <;> simp [h]⟩
    · have := setBy_len hS; omega
  · have := setBy_len hS; omega

/-- One validator lets another one in. -/
theorem alive_cast {A B : ByteArray} (hA : A.size = 20) (hB : B.size = 20) (hne : A ≠ B) {S2 : List ByteArray} {V2 : List Bal} {c : Int} (h : CastRel [A] [] (A, B, true) S2 V2 c) : c = 0 ∧ S2.length = 2 ∧ V2 = [] ∧ RightOk S2 V2 := by
  have hr : RightOk [A] [] := by
    refine RightOk.make ⟨fun j x hx => ?_, fun j x y hx hy => ?_, by simp, by simp⟩ (by simp) (by simp) List.Pairwise.nil
    · cases j with
      | zero => simp at hx; subst hx; exact hA
      | succ j => simp at hx
    · simp at hy
  have hs : standsL [A] (A, B, true) = true := stands_iff.2 ⟨by simp, hB, by simp [Ne.symm hne]⟩
  have hf : ¬ Refused [A] (A, B, true) := fun h => by
    rcases h with h | ⟨_, h⟩ | ⟨h, _⟩
    · rw [hs] at h; cases h
    · simp at h
    · cases h
  rcases h.cases with ⟨h, _⟩ | ⟨_, h, _⟩ | ⟨rfl, ht⟩
  · exact absurd hr h
  · exact absurd h hf
  · have hr2 := ht.right
    obtain ⟨_, _, V1, hp, h⟩ := ht
    have hc := (cnt_put hr.pw hr.stands hs hp).2 (by simp)
    have hw : wonL [A] V1 (A, B, true) = true := by unfold wonL; rw [hc]; simp [cntL]
    rcases h with ⟨h, _⟩ | ⟨_, hS, _, hV⟩
    · rw [hw] at h; cases h
    · refine ⟨rfl, (hS.2.1 rfl).2, ?_, hr2⟩
      have : ∀ x, x ∉ V2 := fun x hx => by
        rw [hV] at hx
        obtain ⟨h1, h2, _⟩ := mem_leftL.1 ((stayL_sub _ _ _).mem hx)
        rcases (put_mem hr.stands hs hp x).1 h1 with e | e
        · subst e; exact h2 rfl
        · cases e
      exact List.eq_nil_iff_forall_not_mem.2 this
end Go.Proofs.Ytlljpnbajgcidaa
