/- Vote, the plain side: texts stand in an order, and votes do. -/
import Derived.Test.YthipnbiilobjeaaVo4
namespace Go.Proofs.Ythipnbiilobjeaa
open Go.RowKit

abbrev ltL (a b : List UInt8) : Bool := Op.bytesLess a b
theorem ltL_irr : ∀ a : List UInt8, ltL a a = false
  | [] => rfl
  | x :: l => by
    have := ltL_irr l
    unfold ltL at *
    simp [Op.bytesLess, this]
theorem ltL_trans : ∀ a b c : List UInt8, ltL a b = true → ltL b c = true → ltL a c = true
  | _, _, [], _, h => by cases ‹List UInt8› <;> simp [ltL, Op.bytesLess] at h
  | _, [], _ :: _, h, _ => by unfold ltL Op.bytesLess at h; cases h
  | [], _ :: _, _ :: _, _, _ => rfl
  | x :: a, y :: b, z :: c, h1, h2 => by
    unfold ltL at *
    simp only [Op.bytesLess, Bool.or_eq_true, decide_eq_true_eq, Bool.and_eq_true, beq_iff_eq] at h1 h2 ⊢
    rcases h1 with h1 | ⟨rfl, h1⟩
    · rcases h2 with h2 | ⟨rfl, h2⟩
      · exact .inl (UInt8.lt_trans h1 h2)
      · exact .inl h1
    · rcases h2 with h2 | ⟨rfl, h2⟩
      · exact .inl h2
      · exact .inr ⟨rfl, ltL_trans a b c h1 h2⟩
theorem ltL_tri : ∀ a b : List UInt8, ltL a b = true ∨ a = b ∨ ltL b a = true
  | [], [] => .inr (.inl rfl)
  | [], _ :: _ => .inl rfl
  | _ :: _, [] => .inr (.inr rfl)
  | x :: a, y :: b => by
    unfold ltL
    simp only [Op.bytesLess, Bool.or_eq_true, decide_eq_true_eq, Bool.and_eq_true, beq_iff_eq]
    by_cases h : x < y
    · exact .inl (.inl h)
    · by_cases h' : y < x
      · exact .inr (.inr (.inl h'))
      · have e : x = y := UInt8.le_antisymm (UInt8.not_lt.1 h') (UInt8.not_lt.1 h)
        subst e
        rcases ltL_tri a b with h1 | h1 | h1
        · exact .inl (.inr ⟨rfl, h1⟩)
        · exact .inr (.inl (by rw [h1]))
        · exact .inr (.inr (.inr ⟨rfl, h1⟩))
theorem cmpL_lt : ∀ a b : List UInt8, Lib.compareBytes a b = if ltL a b then -1 else if a = b then 0 else 1
  | [], [] => rfl
  | [], _ :: _ => rfl
  | _ :: _, [] => by simp [Lib.compareBytes, ltL, Op.bytesLess]
  | x :: a, y :: b => by
    have ih := cmpL_lt a b
    unfold Lib.compareBytes
    unfold ltL at *
    simp only [Op.bytesLess]
    by_cases h : x < y
    · simp [h]
    · by_cases h' : y < x
      · have hne : x ≠ y := fun e => by subst e; exact h h'
        simp [h, h', hne]
      · have e : x = y := UInt8.le_antisymm (UInt8.not_lt.1 h') (UInt8.not_lt.1 h)
        subst e
        simp [h, ih]

/-- The model's order of texts. -/
abbrev ltS (a b : ByteArray) : Bool := Op.bytesLess a.toList b.toList
theorem ltS_irr (a : ByteArray) : ltS a a = false := ltL_irr _
theorem ltS_trans {a b c : ByteArray} (h1 : ltS a b = true) (h2 : ltS b c = true) : ltS a c = true := ltL_trans _ _ _ h1 h2
theorem ltS_tri (a b : ByteArray) : ltS a b = true ∨ a = b ∨ ltS b a = true := by
  rcases ltL_tri a.toList b.toList with h | h | h
  · exact .inl h
  · exact .inr (.inl (bl_inj (by rw [← toList_bl, h, toList_bl])))
  · exact .inr (.inr h)
theorem ltS_asym {a b : ByteArray} (h : ltS a b = true) : ltS b a = false := by
  cases e : ltS b a with
  | false => rfl
  | true => have := ltS_trans h e; rw [ltS_irr] at this; cases this
theorem ltS_ne {a b : ByteArray} (h : ltS a b = true) : a ≠ b := fun e => by subst e; rw [ltS_irr] at h; cases h
theorem ltS_not (a b : ByteArray) : (!ltS a b) = (ltS b a || (b.toList == a.toList)) := by
  rw [seq_dec]
  rcases ltS_tri a b with h | h | h
  · simp [h, ltS_asym h, (ltS_ne h).symm]
  · subst h; simp [ltS_irr]
  · simp [h, ltS_asym h]
theorem cmpS_lt (a b : ByteArray) : cmpS a b = if ltS a b then -1 else if a = b then 0 else 1 := by
  unfold cmpS
  have e : ∀ s : ByteArray, s.data.toList = s.toList := fun s => (toList_bl s).symm
  rw [e a, e b, cmpL_lt]
  by_cases h : a = b
  · simp [h, ltS]
  · have : a.toList ≠ b.toList := fun e => h (bl_inj (by rw [← toList_bl, e, toList_bl]))
    simp [h, this, ltS]

/-- One vote stands ahead of another. -/
def ltB (a b : Bal) : Bool := if a.2.1 ≠ b.2.1 then ltS a.2.1 b.2.1 else ltS a.1 b.1
/-- They stand at the same place. -/
def keyB (a b : Bal) : Prop := a.2.1 = b.2.1 ∧ a.1 = b.1
theorem ltB_irr (a : Bal) : ltB a a = false := by simp [ltB, ltS_irr]
theorem ltB_trans {a b c : Bal} (h1 : ltB a b = true) (h2 : ltB b c = true) : ltB a c = true := by
  unfold ltB at *
  by_cases e1 : a.2.1 = b.2.1
  · by_cases e2 : b.2.1 = c.2.1
    · simp only [e1, e2, ne_eq, not_true_eq_false, if_false] at h1 h2 ⊢
      exact ltS_trans h1 h2
    · simp only [e1, e2, ne_eq, not_true_eq_false, if_false, not_false_eq_true, if_true] at h1 h2 ⊢
      exact h2
  · by_cases e2 : b.2.1 = c.2.1
    · simp only [e1, ← e2, ne_eq, not_true_eq_false, if_false, not_false_eq_true, if_true] at h1 h2 ⊢
      exact h1
    · simp only [e1, e2, ne_eq, not_false_eq_true, if_true] at h1 h2
      have h3 := ltS_trans h1 h2
      simp only [ltS_ne h3, ne_eq, not_false_eq_true, if_true]
      exact h3
theorem ltB_tri (a b : Bal) : ltB a b = true ∨ keyB a b ∨ ltB b a = true := by
  unfold ltB keyB
  by_cases e : a.2.1 = b.2.1
  · simp only [e, ne_eq, not_true_eq_false, if_false, true_and]
    exact ltS_tri _ _
  · simp only [e, Ne.symm e, ne_eq, not_false_eq_true, if_true, false_and, false_or]
    rcases ltS_tri a.2.1 b.2.1 with h | h | h
    · exact .inl h
    · exact absurd h e
    · exact .inr h
theorem ltB_asym {a b : Bal} (h : ltB a b = true) : ltB b a = false := by
  cases e : ltB b a with
  | false => rfl
  | true => have := ltB_trans h e; rw [ltB_irr] at this; cases this
theorem ltB_nkey {a b : Bal} (h : ltB a b = true) : ¬ keyB a b := fun ⟨e1, e2⟩ => by
  unfold ltB at h
  simp only [e1, e2, ne_eq, not_true_eq_false, if_false] at h
  rw [ltS_irr] at h
  cases h
theorem ltB_key {a b c : Bal} (h : ltB a b = true) (k : keyB b c) : ltB a c = true := by
  unfold ltB at *
  rw [← k.1, ← k.2]
  exact h
theorem key_ltB {a b c : Bal} (k : keyB a b) (h : ltB b c = true) : ltB a c = true := by
  unfold ltB at *
  rw [k.1, k.2]
  exact h
theorem keyB.symm {a b : Bal} (h : keyB a b) : keyB b a := ⟨h.1.symm, h.2.symm⟩
theorem ordB_lt (a b : Bal) : (ordB a b < 0 ↔ ltB a b = true) ∧ (ordB a b = 0 ↔ keyB a b) := by
  unfold ordB ltB keyB
  rw [cmpS_lt, cmpS_lt]
  by_cases e : a.2.1 = b.2.1
  · by_cases h : ltS a.1 b.1 = true
    · simp [e, ltS_irr, h, ltS_ne h]
    · by_cases e2 : a.1 = b.1
      · simp [e, ltS_irr, e2]
      · simp [e, ltS_irr, h, e2]
  · by_cases h : ltS a.2.1 b.2.1 = true
    · simp [e, h]
    · simp [e, h]
end Go.Proofs.Ythipnbiilobjeaa
