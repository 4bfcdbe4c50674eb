/- Vote: how two texts stand, whether one is among others, and what is made of it. Vote, the plain side: texts stand in an order, and votes do. Vote: whether an address is among others, how many votes are for the same, and whether addresses may be. Vote: how many votes are for the same; whether addresses may be. Vote: whether more than half have voted so, and whether a vote is one of a validator. -/
import Derived.Test.YthipnbiilobjeaaVo1
import Derived.Test.YthipnbiilobjeaaLater
import Derived.Lib.Bytealg
namespace Go.Proofs.Ythipnbiilobjeaa
open Go.RowKit

def cmpS (a b : ByteArray) : Int := Lib.compareBytes a.data.toList b.data.toList
def ordB (a b : Bal) : Int := if cmpS a.2.1 b.2.1 ≠ 0 then cmpS a.2.1 b.2.1 else cmpS a.1 b.1
def hasL (l : List ByteArray) (a : ByteArray) : Bool := l.any fun x => decide (x = a)
theorem hasL_true {l : List ByteArray} {a : ByteArray} (h : a ∈ l) : hasL l a = true := by simp [hasL, h]
theorem hasL_false {l : List ByteArray} {a : ByteArray} (h : a ∉ l) : hasL l a = false := by
  simp only [hasL, List.any_eq_false, decide_eq_true_eq]
  rintro x hx rfl
  exact h hx
theorem hasL_iff (l : List ByteArray) (a : ByteArray) : hasL l a = true ↔ a ∈ l := ⟨fun h => by simpa [hasL] using h, hasL_true⟩

theorem compareBytes_bd : ∀ a b : List UInt8, -1 ≤ Lib.compareBytes a b ∧ Lib.compareBytes a b ≤ 1
  | [], [] => by simp [Lib.compareBytes]
  | [], _ :: _ => by simp [Lib.compareBytes]
  | _ :: _, [] => by simp [Lib.compareBytes]
  | x :: xs, y :: ys => by
    have := compareBytes_bd xs ys
    unfold Lib.compareBytes
    split
    · omega
    · split <;> omega
theorem cmpS_bd (a b : ByteArray) : -1 ≤ cmpS a b ∧ cmpS a b ≤ 1 := compareBytes_bd _ _

set_option maxRecDepth 100000 in
set_option maxHeartbeats 1000000 in
theorem compare0_any (a b : ByteArray) (w : World) : Calls Try.prog 174 #[.string a, .string b] w fun e w' => e = .returned (.int .i64 (cmpS a b)) ∧ w = w' := by
  go_enter Try.func174, Try.ntmps174
  go_wp2
  rw [run_callFunc_extern Try.func185 (by kernel_rfl) (by kernel_rfl) (by kernel_rfl) (e := Extern.BytealgCompare.compare) (by kernel_rfl), Lib.run_compareString]
  simp only [Result.andThen]
  rw [Oper.upon_value]
  go_wp2
  go_ret
  exact ⟨rfl, rfl⟩

set_option maxRecDepth 100000 in
set_option maxHeartbeats 1000000 in
theorem compare_any (a b : ByteArray) (w : World) : Calls Try.prog 146 #[.string a, .string b] w fun e w' => e = .returned (.int .i64 (cmpS a b)) ∧ w = w' := by
  go_enter Try.func146, Try.ntmps146
  go_wp2_with (go_at_call 174; refine (compare0_any _ _ _).mono ?_; rintro e w' ⟨rfl, rfl⟩)
  go_ret
  exact ⟨rfl, rfl⟩

set_option maxRecDepth 100000 in
set_option maxHeartbeats 2000000 in
theorem order_any (a b : Bal) (w : World) : Calls Try.prog 97 #[balV a, balV b] w fun e w' => e = .returned (.int .i64 (ordB a b)) ∧ Below w.heap.size w w' := by
  obtain ⟨a1, a2, a3⟩ := a
  obtain ⟨b1, b2, b3⟩ := b
  go_enter Try.func97, Try.ntmps97
  go_wp2_with (go_at_call 146; refine (compare_any _ _ _).mono ?_; rintro e w' ⟨rfl, rfl⟩)
  · go_ret
    exact ⟨by simp_all [ordB], (((Below.refl _ w).alloc (Nat.le_refl _) _).alloc (by simp) _)⟩
  · go_ret
    exact ⟨by simp_all [ordB], (((Below.refl _ w).alloc (Nat.le_refl _) _).alloc (by simp) _)⟩

set_option maxRecDepth 100000 in
set_option maxHeartbeats 2000000 in
theorem index_any (v : Value) (l : List ByteArray) (a : ByteArray) (w : World) (h : RowE encS w v l) :
    Calls Try.prog 148 #[v, .string a] w fun e w' => (∃ n : Int, e = .returned (.int .i64 n) ∧ decide (n ≥ 0) = hasL l a) ∧ w = w' := by
  obtain ⟨p, cap, rfl, h1, h2⟩ := h.shape
  have H := Lib.hid h.atS.2.2.2
  have hl : l.length ≤ 9223372036854775807 := by unfold maxLen at h2; omega
  clear h
  go_enter Try.func148, Try.ntmps148
  go_wp2
  go_loop [8] (fun c => ∃ k : Nat, k ≤ l.length ∧ c = .int .i64 k ∧ Hid (a ∉ l.take k)) (fun c => l.length - (intOf c).toNat)
  case atStart => exact ⟨0, Nat.zero_le _, rfl, Lib.hid (by simp)⟩
  case round =>
    obtain ⟨k, hk, rfl, hno⟩ := hrel
    by_cases hlt : k < l.length
    · obtain ⟨ad, rfl, hc⟩ := H.out k l[k] (List.getElem?_eq_getElem hlt)
      by_cases he : a = l[k]
      · have e1 := seq_true he
        have hin := hasL_true (show a ∈ l by rw [he]; exact List.getElem_mem hlt)
        go_wp2_with fail
        go_ret
        refine ⟨⟨_, rfl, ?_⟩, rfl⟩
        rw [← he, hin]
        simp
      · have e1 := seq_false he
        go_wp2_with fail
        refine ⟨⟨k + 1, by omega, by simp, Lib.hid ?_⟩, by simp [intOf]; omega⟩
        rw [List.take_add_one, List.getElem?_eq_getElem hlt]
        simp only [Option.toList_some, List.mem_append, List.mem_singleton, not_or]
        exact ⟨hno.out, he⟩
    · obtain rfl : k = l.length := by omega
      have hin : hasL l a = false := by
        have := hno.out
        rw [List.take_length] at this
        exact hasL_false this
      go_wp2_with fail
      go_ret
      exact ⟨⟨_, rfl, by simp⟩, rfl⟩

end Go.Proofs.Ythipnbiilobjeaa

namespace Go.Proofs.Ythipnbiilobjeaa
open Go.RowKit

abbrev ltL (a b : List UInt8) : Bool := Op.bytesLess a b
theorem ltL_irr : ∀ a : List UInt8, ltL a a = false
  | [] => rfl
  | x :: l => by
    have := ltL_irr l
    unfold ltL at *
    simp [Op.bytesLess, this]
theorem ltL_trans : ∀ a b c : List UInt8, ltL a b = true → ltL b c = true → ltL a c = true
  | _, _, [], _, h => by cases ‹List UInt8› <;> simp [ltL, Op.bytesLess] at h
  | _, [], _ :: _, h, _ => by unfold ltL Op.bytesLess at h; cases h
  | [], _ :: _, _ :: _, _, _ => rfl
  | x :: a, y :: b, z :: c, h1, h2 => by
    unfold ltL at *
    simp only [Op.bytesLess, Bool.or_eq_true, decide_eq_true_eq, Bool.and_eq_true, beq_iff_eq] at h1 h2 ⊢
    rcases h1 with h1 | ⟨rfl, h1⟩
    · rcases h2 with h2 | ⟨rfl, h2⟩
      · exact .inl (UInt8.lt_trans h1 h2)
      · exact .inl h1
    · rcases h2 with h2 | ⟨rfl, h2⟩
      · exact .inl h2
      · exact .inr ⟨rfl, ltL_trans a b c h1 h2⟩
theorem ltL_tri : ∀ a b : List UInt8, ltL a b = true ∨ a = b ∨ ltL b a = true
  | [], [] => .inr (.inl rfl)
  | [], _ :: _ => .inl rfl
  | _ :: _, [] => .inr (.inr rfl)
  | x :: a, y :: b => by
    unfold ltL
    simp only [Op.bytesLess, Bool.or_eq_true, decide_eq_true_eq, Bool.and_eq_true, beq_iff_eq]
    by_cases h : x < y
    · exact .inl (.inl h)
    · by_cases h' : y < x
      · exact .inr (.inr (.inl h'))
      · have e : x = y := UInt8.le_antisymm (UInt8.not_lt.1 h') (UInt8.not_lt.1 h)
        subst e
        rcases ltL_tri a b with h1 | h1 | h1
        · exact .inl (.inr ⟨rfl, h1⟩)
        · exact .inr (.inl (by rw [h1]))
        · exact .inr (.inr (.inr ⟨rfl, h1⟩))
theorem cmpL_lt : ∀ a b : List UInt8, Lib.compareBytes a b = if ltL a b then -1 else if a = b then 0 else 1
  | [], [] => rfl
  | [], _ :: _ => rfl
  | _ :: _, [] => by simp [Lib.compareBytes, ltL, Op.bytesLess]
  | x :: a, y :: b => by
    have ih := cmpL_lt a b
    unfold Lib.compareBytes
    unfold ltL at *
    simp only [Op.bytesLess]
    by_cases h : x < y
    · simp [h]
    · by_cases h' : y < x
      · have hne : x ≠ y := fun e => by subst e; exact h h'
        simp [h, h', hne]
      · have e : x = y := UInt8.le_antisymm (UInt8.not_lt.1 h') (UInt8.not_lt.1 h)
        subst e
        simp [h, ih]

/-- The model's order of texts. -/
abbrev ltS (a b : ByteArray) : Bool := Op.bytesLess a.toList b.toList
theorem ltS_irr (a : ByteArray) : ltS a a = false := ltL_irr _
theorem ltS_trans {a b c : ByteArray} (h1 : ltS a b = true) (h2 : ltS b c = true) : ltS a c = true := ltL_trans _ _ _ h1 h2
theorem ltS_tri (a b : ByteArray) : ltS a b = true ∨ a = b ∨ ltS b a = true := by
  rcases ltL_tri a.toList b.toList with h | h | h
  · exact .inl h
  · exact .inr (.inl (bl_inj (by rw [← toList_bl, h, toList_bl])))
  · exact .inr (.inr h)
theorem ltS_asym {a b : ByteArray} (h : ltS a b = true) : ltS b a = false := by
  cases e : ltS b a with
  | false => rfl
  | true => have := ltS_trans h e; rw [ltS_irr] at this; cases this
theorem ltS_ne {a b : ByteArray} (h : ltS a b = true) : a ≠ b := fun e => by subst e; rw [ltS_irr] at h; cases h
theorem ltS_not (a b : ByteArray) : (!ltS a b) = (ltS b a || (b.toList == a.toList)) := by
  rw [seq_dec]
  rcases ltS_tri a b with h | h | h
  · simp [h, ltS_asym h, (ltS_ne h).symm]
  · subst h; simp [ltS_irr]
  · simp [h, ltS_asym h]
theorem cmpS_lt (a b : ByteArray) : cmpS a b = if ltS a b then -1 else if a = b then 0 else 1 := by
  unfold cmpS
  have e : ∀ s : ByteArray, s.data.toList = s.toList := fun s => (toList_bl s).symm
  rw [e a, e b, cmpL_lt]
  by_cases h : a = b
  · simp [h, ltS]
  · have : a.toList ≠ b.toList := fun e => h (bl_inj (by rw [← toList_bl, e, toList_bl]))
    simp [h, this, ltS]

/-- One vote stands ahead of another. -/
def ltB (a b : Bal) : Bool := if a.2.1 ≠ b.2.1 then ltS a.2.1 b.2.1 else ltS a.1 b.1
/-- They stand at the same place. -/
def keyB (a b : Bal) : Prop := a.2.1 = b.2.1 ∧ a.1 = b.1
theorem ltB_irr (a : Bal) : ltB a a = false := by simp [ltB, ltS_irr]
theorem ltB_trans {a b c : Bal} (h1 : ltB a b = true) (h2 : ltB b c = true) : ltB a c = true := by
  unfold ltB at *
  by_cases e1 : a.2.1 = b.2.1
  · by_cases e2 : b.2.1 = c.2.1
    · simp only [e1, e2, ne_eq, not_true_eq_false, if_false] at h1 h2 ⊢
      exact ltS_trans h1 h2
    · simp only [e1, e2, ne_eq, not_true_eq_false, if_false, not_false_eq_true, if_true] at h1 h2 ⊢
      exact h2
  · by_cases e2 : b.2.1 = c.2.1
    · simp only [e1, ← e2, ne_eq, not_true_eq_false, if_false, not_false_eq_true, if_true] at h1 h2 ⊢
      exact h1
    · simp only [e1, e2, ne_eq, not_false_eq_true, if_true] at h1 h2
      have h3 := ltS_trans h1 h2
      simp only [ltS_ne h3, ne_eq, not_false_eq_true, if_true]
      exact h3
theorem ltB_tri (a b : Bal) : ltB a b = true ∨ keyB a b ∨ ltB b a = true := by
  unfold ltB keyB
  by_cases e : a.2.1 = b.2.1
  · simp only [e, ne_eq, not_true_eq_false, if_false, true_and]
    exact ltS_tri _ _
  · simp only [e, Ne.symm e, ne_eq, not_false_eq_true, if_true, false_and, false_or]
    rcases ltS_tri a.2.1 b.2.1 with h | h | h
    · exact .inl h
    · exact absurd h e
    · exact .inr h
theorem ltB_asym {a b : Bal} (h : ltB a b = true) : ltB b a = false := by
  cases e : ltB b a with
  | false => rfl
  | true => have := ltB_trans h e; rw [ltB_irr] at this; cases this
theorem ltB_nkey {a b : Bal} (h : ltB a b = true) : ¬ keyB a b := fun ⟨e1, e2⟩ => by
  unfold ltB at h
  simp only [e1, e2, ne_eq, not_true_eq_false, if_false] at h
  rw [ltS_irr] at h
  cases h
theorem ltB_key {a b c : Bal} (h : ltB a b = true) (k : keyB b c) : ltB a c = true := by
  unfold ltB at *
  rw [← k.1, ← k.2]
  exact h
theorem key_ltB {a b c : Bal} (k : keyB a b) (h : ltB b c = true) : ltB a c = true := by
  unfold ltB at *
  rw [k.1, k.2]
  exact h
theorem keyB.symm {a b : Bal} (h : keyB a b) : keyB b a := ⟨h.1.symm, h.2.symm⟩
theorem ordB_lt (a b : Bal) : (ordB a b < 0 ↔ ltB a b = true) ∧ (ordB a b = 0 ↔ keyB a b) := by
  unfold ordB ltB keyB
  rw [cmpS_lt, cmpS_lt]
  by_cases e : a.2.1 = b.2.1
  · by_cases h : ltS a.1 b.1 = true
    · simp [e, ltS_irr, h, ltS_ne h]
    · by_cases e2 : a.1 = b.1
      · simp [e, ltS_irr, e2]
      · simp [e, ltS_irr, h, e2]
  · by_cases h : ltS a.2.1 b.2.1 = true
    · simp [e, h]
    · simp [e, h]
end Go.Proofs.Ythipnbiilobjeaa

namespace Go.Proofs.Ythipnbiilobjeaa
open Go.RowKit

def cntL (V : List Bal) (b : Bal) : Nat := V.countP fun x => decide (x.2.1 = b.2.1) && (x.2.2 == b.2.2)
theorem cntL_le (V : List Bal) (b : Bal) : cntL V b ≤ V.length := List.countP_le_length

set_option maxRecDepth 100000 in
set_option maxHeartbeats 1000000 in
theorem contains_any (v : Value) (l : List ByteArray) (a : ByteArray) (w : World) (h : RowE encS w v l) :
    Calls Try.prog 99 #[v, .string a] w fun e w' => e = .returned (.bool (hasL l a)) ∧ w = w' := by
  have H := Lib.hid h
  obtain ⟨p, cap, rfl, h1, h2⟩ := h.shape
  clear h
  go_enter Try.func99, Try.ntmps99
  go_wp2_with (go_at_call 148; refine (index_any _ _ _ _ H.out).mono ?_; rintro e w' ⟨⟨n, rfl, hn⟩, rfl⟩)
  all_goals
    go_ret
    simp_all

set_option maxRecDepth 100000 in
set_option maxHeartbeats 1000000 in
theorem has_any (sv vv : Value) (l : List ByteArray) (a : ByteArray) (w : World) (h : RowE encS w sv l) :
    Calls Try.prog 59 #[.agg #[sv, vv], .string a] w fun e w' => e = .returned (.bool (hasL l a)) ∧ Below w.heap.size w w' := by
  have H := Lib.hid (RowE.below encS h ((Below.refl _ w).alloc (Nat.le_refl _) (.cells #[sv, vv] 45)) (Nat.le_refl _))
  obtain ⟨p, cap, rfl, h1, h2⟩ := h.shape
  clear h
  go_enter Try.func59, Try.ntmps59
  go_wp2_with (go_at_call 99; refine (contains_any _ _ _ _ H.out).mono ?_; rintro e w' ⟨rfl, rfl⟩)
  go_ret
  exact ⟨rfl, (Below.refl _ w).alloc (Nat.le_refl _) _⟩

set_option maxRecDepth 100000 in
set_option maxHeartbeats 2000000 in
theorem rhas_any (v : Value) (l : List ByteArray) (a : ByteArray) (w : World) (h : RowE encS w v l) :
    Calls Try.prog 64 #[v, .string a] w fun e w' => e = .returned (.bool (hasL l a)) ∧ Below w.heap.size w w' := by
  obtain ⟨p, cap, rfl, h1, h2⟩ := h.shape
  have H := Lib.hid h.atS.2.2.2
  have hl : l.length ≤ 9223372036854775807 := by unfold maxLen at h2; omega
  clear h
  go_enter Try.func64, Try.ntmps64
  go_wp2
  go_loop [9] (fun c => ∃ k : Nat, k ≤ l.length ∧ c = .int .i64 k ∧ Hid (a ∉ l.take k)) (fun c => l.length - (intOf c).toNat)
  case atStart => exact ⟨0, Nat.zero_le _, rfl, Lib.hid (by simp)⟩
  case round =>
    obtain ⟨k, hk, rfl, hno⟩ := hrel
    by_cases hlt : k < l.length
    · obtain ⟨ad, rfl, hc⟩ := H.out k l[k] (List.getElem?_eq_getElem hlt)
      by_cases he : l[k] = a
      · have e1 := seq_true he
        have hin := hasL_true (show a ∈ l by rw [← he]; exact List.getElem_mem hlt)
        go_wp2_with fail
        go_ret
        exact ⟨rfl, Below.refl _ _⟩
      · have e1 := seq_false he
        go_wp2_with fail
        refine ⟨⟨k + 1, by omega, by simp, Lib.hid ?_⟩, by simp [intOf]; omega⟩
        rw [List.take_add_one, List.getElem?_eq_getElem hlt]
        simp only [Option.toList_some, List.mem_append, List.mem_singleton, not_or]
        exact ⟨hno.out, fun e => he e.symm⟩
    · obtain rfl : k = l.length := by omega
      have hin : hasL l a = false := by
        have := hno.out
        rw [List.take_length] at this
        exact hasL_false this
      go_wp2_with fail
      go_ret
      exact ⟨rfl, Below.refl _ _⟩

theorem cntL_step {V : List Bal} {b : Bal} {k : Nat} (h : k < V.length) : cntL (V.take (k + 1)) b = cntL (V.take k) b + if V[k].2.1 = b.2.1 ∧ V[k].2.2 = b.2.2 then 1 else 0 := by
  rw [List.take_add_one, List.getElem?_eq_getElem h]
  unfold cntL
  rw [List.countP_append]
  simp [List.countP_cons]

set_option maxRecDepth 100000 in
set_option maxHeartbeats 4000000 in
theorem rcount_any (v : Value) (l : List Bal) (b : Bal) (w : World) (h : RowE encB w v l) :
    Calls Try.prog 112 #[v, balV b] w fun e w' => e = .returned (.int .i64 (cntL l b)) ∧ Below w.heap.size w w' := by
  obtain ⟨p, cap, rfl, h1, h2⟩ := h.shape
  have H := Lib.hid h
  have hl : l.length ≤ 9223372036854775807 := by unfold maxLen at h2; omega
  clear h
  obtain ⟨b1, b2, b3⟩ := b
  go_enter Try.func112, Try.ntmps112
  go_wp2
  go_loopw [5, 10] (fun n c wr => ∃ k : Nat, k ≤ l.length ∧ c = .int .i64 k ∧ n = .int .i64 (cntL (l.take k) (b1, b2, b3)) ∧ Hid (RowAt wr w.heap.size #[.string b1, .string b2, .bool b3] 92) ∧ Hid (Below w.heap.size w wr)) (fun _ c _ => l.length - (intOf c).toNat)
  case atStart => exact ⟨0, Nat.zero_le _, rfl, rfl, Lib.hid (heap_alloc_new w _), Lib.hid ((Below.refl _ w).alloc (Nat.le_refl _) _)⟩
  case round =>
    obtain ⟨k, hk, rfl, rfl, hr, hb⟩ := hrel
    by_cases hlt : k < l.length
    · obtain ⟨_, _, _, HA⟩ := (RowE.below encB H.out hb.out (Nat.le_refl _)).atB
      obtain ⟨ad, rfl, c0, c1, c2⟩ := HA k l[k] (List.getElem?_eq_getElem hlt)
      have hst := cntL_step (b := (b1, b2, b3)) hlt
      have hle := cntL_le (l.take k) (b1, b2, b3)
      have htl : (l.take k).length ≤ k := List.length_take_le _ _
      clear HA
      have HR := Lib.hid hr
      have HB := Lib.hid hb
      have hbz : w.heap.size < wr.heap.size := hr.out.lt
      clear hr hb
      generalize hx : l[k] = x at *
      obtain ⟨x1, x2, x3⟩ := x
      have HR := Lib.hid HR.out.out
      obtain ⟨a0, a1, a2, af0, af1, af2⟩ := HR.out.c3
      by_cases e2 : x2 = b2
      · have q2 := seq_true e2
        by_cases e3 : x3 = b3
        · have q3 : (x3 == b3) = true := by simp [e3]
          rw [if_pos ⟨e2, e3⟩] at hst
          go_wp2_with fail
          refine ⟨⟨k + 1, by omega, by simp, by rw [hst]; simp, Lib.hid (HR.out.alloc _), Lib.hid (HB.out.out.alloc (Nat.le_of_lt hbz) _)⟩, by simp [intOf]; omega⟩
        · have q3 : (x3 == b3) = false := by simp [e3]
          rw [if_neg (fun h => e3 h.2)] at hst
          go_wp2_with fail
          refine ⟨⟨k + 1, by omega, by simp, by rw [hst]; simp, Lib.hid (HR.out.alloc _), Lib.hid (HB.out.out.alloc (Nat.le_of_lt hbz) _)⟩, by simp [intOf]; omega⟩
      · have q2 := seq_false e2
        rw [if_neg (fun h => e2 h.1)] at hst
        go_wp2_with fail
        refine ⟨⟨k + 1, by omega, by simp, by rw [hst]; simp, Lib.hid (HR.out.alloc _), Lib.hid (HB.out.out.alloc (Nat.le_of_lt hbz) _)⟩, by simp [intOf]; omega⟩
    · obtain rfl : k = l.length := by omega
      have hcn : cntL (l.take l.length) (b1, b2, b3) = cntL l (b1, b2, b3) := by rw [List.take_length]
      have HB := Lib.hid (Lib.hid hb).out
      clear hb hr
      go_wp2_with fail
      go_ret
      exact ⟨by rw [hcn]; rfl, HB.out.out⟩
end Go.Proofs.Ythipnbiilobjeaa

namespace Go.Proofs.Ythipnbiilobjeaa
open Go.RowKit

set_option maxRecDepth 100000 in
set_option maxHeartbeats 4000000 in
theorem count_any (sv v : Value) (l : List Bal) (b : Bal) (w : World) (h : RowE encB w v l) :
    Calls Try.prog 147 #[.agg #[sv, v], balV b] w fun e w' => e = .returned (.int .i64 (cntL l b)) ∧ Below w.heap.size w w' := by
  obtain ⟨p, cap, rfl, h1, h2⟩ := h.shape
  have H := Lib.hid h
  have hl : l.length ≤ 9223372036854775807 := by unfold maxLen at h2; omega
  clear h
  obtain ⟨b1, b2, b3⟩ := b
  go_enter Try.func147, Try.ntmps147
  go_wp2
  go_loopw [5, 11] (fun n c wr => ∃ k : Nat, k ≤ l.length ∧ c = .int .i64 k ∧ n = .int .i64 (cntL (l.take k) (b1, b2, b3)) ∧ Hid (RowAt wr (w.heap.size + 1) #[.string b1, .string b2, .bool b3] 92) ∧ Hid (Below w.heap.size w wr)) (fun _ c _ => l.length - (intOf c).toNat)
  case atStart => exact ⟨0, Nat.zero_le _, rfl, rfl, Lib.hid (RowAt.new' _ _ _ (by simp)), Lib.hid (((Below.refl _ w).alloc (Nat.le_refl _) _).alloc (by simp) _)⟩
  case round =>
    obtain ⟨k, hk, rfl, rfl, hr, hb⟩ := hrel
    by_cases hlt : k < l.length
    · obtain ⟨_, _, _, HA⟩ := (RowE.below encB H.out hb.out (Nat.le_refl _)).atB
      obtain ⟨ad, rfl, c0, c1, c2⟩ := HA k l[k] (List.getElem?_eq_getElem hlt)
      have hst := cntL_step (b := (b1, b2, b3)) hlt
      have hle := cntL_le (l.take k) (b1, b2, b3)
      have htl : (l.take k).length ≤ k := List.length_take_le _ _
      clear HA
      have HB := Lib.hid hb
      have hbz : w.heap.size + 1 < wr.heap.size := hr.out.lt
      have HR := Lib.hid hr.out
      clear hr hb
      generalize hx : l[k] = x at *
      obtain ⟨x1, x2, x3⟩ := x
      obtain ⟨a0, a1, a2, af0, af1, af2⟩ := HR.out.c3
      by_cases e2 : x2 = b2
      · have q2 := seq_true e2
        by_cases e3 : x3 = b3
        · have q3 : (x3 == b3) = true := by simp [e3]
          rw [if_pos ⟨e2, e3⟩] at hst
          go_wp2_with fail
          refine ⟨⟨k + 1, by omega, by simp, by rw [hst]; simp, Lib.hid (HR.out.alloc _), Lib.hid (HB.out.out.alloc (by omega) _)⟩, by simp [intOf]; omega⟩
        · have q3 : (x3 == b3) = false := by simp [e3]
          rw [if_neg (fun h => e3 h.2)] at hst
          go_wp2_with fail
          refine ⟨⟨k + 1, by omega, by simp, by rw [hst]; simp, Lib.hid (HR.out.alloc _), Lib.hid (HB.out.out.alloc (by omega) _)⟩, by simp [intOf]; omega⟩
      · have q2 := seq_false e2
        rw [if_neg (fun h => e2 h.1)] at hst
        go_wp2_with fail
        refine ⟨⟨k + 1, by omega, by simp, by rw [hst]; simp, Lib.hid (HR.out.alloc _), Lib.hid (HB.out.out.alloc (by omega) _)⟩, by simp [intOf]; omega⟩
    · obtain rfl : k = l.length := by omega
      have hcn : cntL (l.take l.length) (b1, b2, b3) = cntL l (b1, b2, b3) := by rw [List.take_length]
      have HB := Lib.hid (Lib.hid hb).out
      clear hb hr
      go_wp2_with fail
      go_ret
      exact ⟨by rw [hcn]; rfl, HB.out.out⟩

/-- Addresses may be the set of validators. -/
def SetOk (l : List ByteArray) : Prop := (∀ (j : Nat) x, l[j]? = some x → x.size = 20) ∧ (∀ (j : Nat) x y, l[j]? = some x → l[j + 1]? = some y → ltS x y = true) ∧ 1 ≤ l.length ∧ l.length ≤ 16
noncomputable def setL (l : List ByteArray) : Bool := @decide (SetOk l) (Classical.propDecidable _)
theorem setL_true {l : List ByteArray} (h : SetOk l) : setL l = true := by unfold setL; exact @decide_eq_true _ (Classical.propDecidable _) h
theorem setL_false {l : List ByteArray} (h : ¬ SetOk l) : setL l = false := by unfold setL; exact @decide_eq_false _ (Classical.propDecidable _) h
theorem setL_iff (l : List ByteArray) : setL l = true ↔ SetOk l := by unfold setL; exact @decide_eq_true_iff _ (Classical.propDecidable _)

/-- What is gone through may be. -/
def SetTo (l : List ByteArray) (k : Nat) : Prop := (∀ (j : Nat) x, j < k → l[j]? = some x → x.size = 20) ∧ (∀ (j : Nat) x y, j + 1 < k → l[j]? = some x → l[j + 1]? = some y → ltS x y = true)
theorem SetTo.step {l : List ByteArray} {k : Nat} {x : ByteArray} (h : SetTo l k) (hx : l[k]? = some x) (hs : x.size = 20) (hp : ∀ j y, k = j + 1 → l[j]? = some y → ltS y x = true) : SetTo l (k + 1) := by
  refine ⟨fun j y hj hy => ?_, fun j y z hj hy hz => ?_⟩
  · by_cases e : j = k
    · subst e; rw [hx] at hy; injection hy with e; subst e; exact hs
    · exact h.1 j y (by omega) hy
  · by_cases e : j + 1 = k
    · subst e; rw [hx] at hz; injection hz with e; subst e; exact hp j y rfl hy
    · exact h.2 j y z (by omega) hy hz
theorem SetTo.all {l : List ByteArray} (h : SetTo l l.length) (h1 : 1 ≤ l.length) (h2 : l.length ≤ 16) : SetOk l :=
  ⟨fun j x hx => h.1 j x (List.getElem?_eq_some_iff.1 hx).1 hx, fun j x y hx hy => h.2 j x y (List.getElem?_eq_some_iff.1 hy).1 hx hy, h1, h2⟩

set_option maxRecDepth 100000 in
set_option maxHeartbeats 4000000 in
theorem set_any (v : Value) (l : List ByteArray) (w : World) (h : RowE encS w v l) (hl : l.length ≤ 1000000) :
    Calls Try.prog 95 #[v] w fun e w' => e = .returned (.bool (setL l)) ∧ w = w' := by
  obtain ⟨p, cap, rfl, h1, h2⟩ := h.shape
  have H := Lib.hid h.atS.2.2.2
  clear h
  go_enter Try.func95, Try.ntmps95
  go_wp2
  go_loop [7] (fun c => ∃ k : Nat, k ≤ l.length ∧ c = .int .i64 k ∧ Hid (SetTo l k)) (fun c => l.length - (intOf c).toNat)
  case atStart => exact ⟨0, Nat.zero_le _, rfl, Lib.hid ⟨fun _ _ h => by omega, fun _ _ _ h => by omega⟩⟩
  case round =>
    obtain ⟨k, hk, rfl, hto⟩ := hrel
    by_cases hlt : k < l.length
    · have hg := List.getElem?_eq_getElem hlt
      obtain ⟨ad, rfl, hc⟩ := H.out k l[k] hg
      generalize l[k] = x at *
      by_cases hs : x.size = 20
      · have hs' : ((x.size : Int) == 20) = true := by simp; omega
        by_cases hk0 : k = 0
        · have hnx := hto.out.step hg hs (fun j y e => by omega)
          subst hk0
          rw [Addr.add_zero'] at hc
          go_wp2_with fail
          refine ⟨⟨1, by omega, by simp, Lib.hid hnx⟩, by simp [intOf]; omega⟩
        · obtain ⟨i, hi⟩ : ∃ i, k = i + 1 := ⟨k - 1, by omega⟩
          have hg0 := List.getElem?_eq_getElem (show i < l.length by omega)
          obtain ⟨_, e, hc0⟩ := H.out i l[i] hg0
          cases e
          generalize l[i] = y at *
          have hgi : l[i + 1]? = some x := by rw [← hi]; exact hg
          have htn : ((k : Int) - 1).toNat = i := by omega
          have hp : (k : Int) > 0 := by omega
          have hp0 : 0 ≤ (k : Int) - 1 := by omega
          have hp1 : (k : Int) - 1 < l.length := by omega
          by_cases hy : ltS y x = true
          · have hnx := hto.out.step hg hs (fun j z e hz => by
              obtain rfl : j = i := by omega
              rw [hg0] at hz
              injection hz with e
              subst e
              exact hy)
            have hy1 := ltS_asym hy
            have hy2 := seq_false (ltS_ne hy).symm
            clear hi hgi hg hg0
            go_wp2_with fail
            refine ⟨⟨k + 1, by omega, by simp, Lib.hid hnx⟩, by simp [intOf]; omega⟩
          · have hno : setL l = false := setL_false (fun h => hy (h.2.1 i y x hg0 hgi))
            have hy' : ltS y x = false := by simpa using hy
            have hy1 : (ltS x y || (x.toList == y.toList)) = true := by rw [← ltS_not, hy']; rfl
            clear hi hgi hg hg0
            go_wp2_with fail
            go_ret
            exact ⟨rfl, rfl⟩
      · have hno : setL l = false := setL_false (fun h => hs (h.1 k x hg))
        go_wp2_with fail
        go_ret
        exact ⟨rfl, rfl⟩
    · obtain rfl : k = l.length := by omega
      by_cases h16 : 1 ≤ l.length ∧ l.length ≤ 16
      · have hyes : setL l = true := setL_true (hto.out.all h16.1 h16.2)
        have h16' := h16.1
        have h16'' : decide ((l.length : Int) ≤ 16) = true := by simp; omega
        go_wp2_with fail
        go_ret
        exact ⟨rfl, rfl⟩
      · have hno : setL l = false := setL_false (fun h => h16 h.2.2)
        go_wp2_with fail
        · go_ret
          have h16'' : decide ((l.length : Int) ≤ 16) = false := by simp; omega
          exact ⟨by rw [h16'']; rfl, rfl⟩
        · go_ret
          exact ⟨rfl, rfl⟩

set_option maxRecDepth 100000 in
set_option maxHeartbeats 4000000 in
theorem rset_any (v : Value) (l : List ByteArray) (w : World) (h : RowE encS w v l) (hl : l.length ≤ 1000000) :
    Calls Try.prog 50 #[v] w fun e w' => e = .returned (.bool (setL l)) ∧ w = w' := by
  obtain ⟨p, cap, rfl, h1, h2⟩ := h.shape
  have H := Lib.hid h.atS.2.2.2
  clear h
  go_enter Try.func50, Try.ntmps50
  go_wp2
  go_loop [7] (fun c => ∃ k : Nat, k ≤ l.length ∧ c = .int .i64 k ∧ Hid (SetTo l k)) (fun c => l.length - (intOf c).toNat)
  case atStart => exact ⟨0, Nat.zero_le _, rfl, Lib.hid ⟨fun _ _ h => by omega, fun _ _ _ h => by omega⟩⟩
  case round =>
    obtain ⟨k, hk, rfl, hto⟩ := hrel
    by_cases hlt : k < l.length
    · have hg := List.getElem?_eq_getElem hlt
      obtain ⟨ad, rfl, hc⟩ := H.out k l[k] hg
      generalize l[k] = x at *
      by_cases hs : x.size = 20
      · have hs' : ((x.size : Int) == 20) = true := by simp; omega
        by_cases hk0 : k = 0
        · have hnx := hto.out.step hg hs (fun j y e => by omega)
          subst hk0
          rw [Addr.add_zero'] at hc
          go_wp2_with fail
          refine ⟨⟨1, by omega, by simp, Lib.hid hnx⟩, by simp [intOf]; omega⟩
        · obtain ⟨i, hi⟩ : ∃ i, k = i + 1 := ⟨k - 1, by omega⟩
          have hg0 := List.getElem?_eq_getElem (show i < l.length by omega)
          obtain ⟨_, e, hc0⟩ := H.out i l[i] hg0
          cases e
          generalize l[i] = y at *
          have hgi : l[i + 1]? = some x := by rw [← hi]; exact hg
          have htn : ((k : Int) - 1).toNat = i := by omega
          have hp : (k : Int) > 0 := by omega
          have hp0 : 0 ≤ (k : Int) - 1 := by omega
          have hp1 : (k : Int) - 1 < l.length := by omega
          by_cases hy : ltS y x = true
          · have hnx := hto.out.step hg hs (fun j z e hz => by
              obtain rfl : j = i := by omega
              rw [hg0] at hz
              injection hz with e
              subst e
              exact hy)
            have hy1 := ltS_asym hy
            have hy2 := seq_false (ltS_ne hy).symm
            clear hi hgi hg hg0
            go_wp2_with fail
            refine ⟨⟨k + 1, by omega, by simp, Lib.hid hnx⟩, by simp [intOf]; omega⟩
          · have hno : setL l = false := setL_false (fun h => hy (h.2.1 i y x hg0 hgi))
            have hy' : ltS y x = false := by simpa using hy
            have hy1 : (ltS x y || (x.toList == y.toList)) = true := by rw [← ltS_not, hy']; rfl
            clear hi hgi hg hg0
            go_wp2_with fail
            go_ret
            exact ⟨rfl, rfl⟩
      · have hno : setL l = false := setL_false (fun h => hs (h.1 k x hg))
        go_wp2_with fail
        go_ret
        exact ⟨rfl, rfl⟩
    · obtain rfl : k = l.length := by omega
      by_cases h16 : 1 ≤ l.length ∧ l.length ≤ 16
      · have hyes : setL l = true := setL_true (hto.out.all h16.1 h16.2)
        have h16' := h16.1
        have h16'' : decide ((l.length : Int) ≤ 16) = true := by simp; omega
        go_wp2_with fail
        go_ret
        exact ⟨rfl, rfl⟩
      · have hno : setL l = false := setL_false (fun h => h16 h.2.2)
        go_wp2_with fail
        · go_ret
          have h16'' : decide ((l.length : Int) ≤ 16) = false := by simp; omega
          exact ⟨by rw [h16'']; rfl, rfl⟩
        · go_ret
          exact ⟨rfl, rfl⟩
end Go.Proofs.Ythipnbiilobjeaa

namespace Go.Proofs.Ythipnbiilobjeaa
open Go.RowKit

def wonL (S : List ByteArray) (V : List Bal) (b : Bal) : Bool := decide (2 * cntL V b > S.length)
theorem wonL_int (S : List ByteArray) (V : List Bal) (b : Bal) : decide (2 * (cntL V b : Int) > (S.length : Int)) = wonL S V b := by
  unfold wonL
  exact decide_eq_decide.2 (by omega)
def standsL (S : List ByteArray) (b : Bal) : Bool := hasL S b.1 && (b.2.1.size == 20) && (hasL S b.2.1 == !b.2.2)

theorem belowA (w : World) (o : Obj) : Below w.heap.size w (w.alloc o) := (Below.refl _ w).alloc (Nat.le_refl _) o
theorem belowA2 (w : World) (o o' : Obj) : Below w.heap.size w ((w.alloc o).alloc o') := (belowA w o).alloc (by simp) o'

set_option maxRecDepth 100000 in
set_option maxHeartbeats 4000000 in
theorem won_any (sv v : Value) (S : List ByteArray) (l : List Bal) (b : Bal) (w : World) (hS : RowE encS w sv S) (h : RowE encB w v l) (hl : l.length ≤ 1000000) :
    Calls Try.prog 98 #[.agg #[sv, v], balV b] w fun e w' => e = .returned (.bool (wonL S l b)) ∧ Below w.heap.size w w' := by
  obtain ⟨pS, cS, rfl, s1, s2⟩ := hS.shape
  have HL := Lib.hid h
  clear h hS
  have hc := cntL_le l b
  have hw := Lib.hid (wonL_int S l b)
  obtain ⟨b1, b2, b3⟩ := b
  go_enter Try.func98, Try.ntmps98
  go_wp2
  have hb0 := Lib.hid (belowA2 w (.cells #[.slice pS S.length cS, v] 45) (.cells #[.string b1, .string b2, .bool b3] 92))
  have hr1 : RowAt ((w.alloc (.cells #[.slice pS S.length cS, v] 45)).alloc (.cells #[.string b1, .string b2, .bool b3] 92)) w.heap.size #[.slice pS S.length cS, v] 45 := (RowAt.new _ _ _).alloc _
  have hr2 : RowAt ((w.alloc (.cells #[.slice pS S.length cS, v] 45)).alloc (.cells #[.string b1, .string b2, .bool b3] 92)) (w.heap.size + 1) #[.string b1, .string b2, .bool b3] 92 := RowAt.new' _ _ _ (by simp)
  generalize (w.alloc (.cells #[.slice pS S.length cS, v] 45)).alloc (.cells #[.string b1, .string b2, .bool b3] 92) = W at *
  obtain ⟨x0, x1⟩ := hr1.l2
  obtain ⟨y0, y1, y2⟩ := hr2.l3
  have KC := Lib.hid (fun u : Later W => count_any (.slice pS S.length cS) v l (b1, b2, b3) u.w (RowE.below encB (RowE.below encB HL.out hb0.out (Nat.le_refl _)) u.below (Nat.le_refl _)))
  clear hr1 hr2
  generalize hn : cntL l (b1, b2, b3) = n at *
  (refine region_later mix ?hB ?_; case hB => kernel_rfl); (repeat (first | go_big_quiet_step ((go_at_call 147; with_reducible exact Later.call (KC.out _))) | quiet_step ((go_at_call 147; with_reducible exact Later.call (KC.out _))))); (refine wpQuiet_nil ?_; rintro _ ⟨u, rfl⟩)
  go_wp2_with fail
  go_ret
  refine ⟨?_, hb0.out.trans (u.below.mono hb0.out.size)⟩
  show Ending.returned (.bool (decide ((S.length : Int) < 2 * (n : Int)))) = _
  rw [← hw.out]

theorem size20 (s : ByteArray) : ((s.size : Int) == 20) = (s.size == 20) := by
  rw [Bool.eq_iff_iff]
  simp
  omega

set_option maxRecDepth 100000 in
set_option maxHeartbeats 4000000 in
theorem stands_any (sv v : Value) (S : List ByteArray) (b : Bal) (w : World) (hS : RowE encS w sv S) :
    Calls Try.prog 96 #[.agg #[sv, v], balV b] w fun e w' => e = .returned (.bool (standsL S b)) ∧ Below w.heap.size w w' := by
  obtain ⟨pS, cS, rfl, s1, s2⟩ := hS.shape
  have HS := Lib.hid hS
  clear hS
  obtain ⟨b1, b2, b3⟩ := b
  have hz := size20 b2
  unfold standsL
  simp only
  cases e1 : hasL S b1 <;> cases e3 : (b2.size == 20) <;> rw [e3] at hz
  all_goals
    have E1 := Lib.hid e1
    clear e1 e3
    go_enter Try.func96, Try.ntmps96
    go_wp2
    have hb0 := Lib.hid (belowA2 w (.cells #[.slice pS S.length cS, v] 45) (.cells #[.string b1, .string b2, .bool b3] 92))
    have hr1 : RowAt ((w.alloc (.cells #[.slice pS S.length cS, v] 45)).alloc (.cells #[.string b1, .string b2, .bool b3] 92)) w.heap.size #[.slice pS S.length cS, v] 45 := (RowAt.new _ _ _).alloc _
    have hr2 : RowAt ((w.alloc (.cells #[.slice pS S.length cS, v] 45)).alloc (.cells #[.string b1, .string b2, .bool b3] 92)) (w.heap.size + 1) #[.string b1, .string b2, .bool b3] 92 := RowAt.new' _ _ _ (by simp)
    generalize (w.alloc (.cells #[.slice pS S.length cS, v] 45)).alloc (.cells #[.string b1, .string b2, .bool b3] 92) = W at *
    obtain ⟨x0, x1⟩ := hr1.l2
    obtain ⟨y0, y1, y2⟩ := hr2.l3
    have K1 := fun u : Later W => has_any (.slice pS S.length cS) v S b1 u.w (RowE.below encS (RowE.below encS HS.out hb0.out (Nat.le_refl _)) u.below (Nat.le_refl _))
    have K2 := Lib.hid (fun u : Later W => has_any (.slice pS S.length cS) v S b2 u.w (RowE.below encS (RowE.below encS HS.out hb0.out (Nat.le_refl _)) u.below (Nat.le_refl _)))
    clear hr1 hr2
    rw [E1.out] at K1
    have K1 := Lib.hid K1
    (refine region_later mix ?hB ?_; case hB => kernel_rfl); (repeat (first | go_big_quiet_step ((go_at_call 59; with_reducible first | exact Later.call (K1.out _) | exact Later.call (K2.out _))) | quiet_step ((go_at_call 59; with_reducible first | exact Later.call (K1.out _) | exact Later.call (K2.out _))))); (refine wpQuiet_nil ?_; rintro _ ⟨u, rfl⟩)
    go_wp2_with fail
    go_ret
    refine ⟨?_, hb0.out.trans (u.below.mono hb0.out.size)⟩
    first | rfl | (show Ending.returned (.bool (!(hasL S b2 == b3))) = _; cases hasL S b2 <;> cases b3 <;> rfl)

set_option maxRecDepth 100000 in
set_option maxHeartbeats 4000000 in
theorem fits_any (sv : Value) (S : List ByteArray) (b : Bal) (w : World) (hS : RowE encS w sv S) :
    Calls Try.prog 110 #[sv, balV b] w fun e w' => e = .returned (.bool (standsL S b)) ∧ Below w.heap.size w w' := by
  obtain ⟨pS, cS, rfl, s1, s2⟩ := hS.shape
  have HS := Lib.hid hS
  clear hS
  obtain ⟨b1, b2, b3⟩ := b
  have hz := size20 b2
  unfold standsL
  simp only
  cases e1 : hasL S b1 <;> cases e3 : (b2.size == 20) <;> rw [e3] at hz
  all_goals
    have E1 := Lib.hid e1
    clear e1 e3
    go_enter Try.func110, Try.ntmps110
    go_wp2
    have hb0 := Lib.hid (belowA w (.cells #[.string b1, .string b2, .bool b3] 92))
    have hr2 : RowAt (w.alloc (.cells #[.string b1, .string b2, .bool b3] 92)) w.heap.size #[.string b1, .string b2, .bool b3] 92 := RowAt.new _ _ _
    generalize w.alloc (.cells #[.string b1, .string b2, .bool b3] 92) = W at *
    obtain ⟨y0, y1, y2⟩ := hr2.l3
    have K1 := fun u : Later W => rhas_any (.slice pS S.length cS) S b1 u.w (RowE.below encS (RowE.below encS HS.out hb0.out (Nat.le_refl _)) u.below (Nat.le_refl _))
    have K2 := Lib.hid (fun u : Later W => rhas_any (.slice pS S.length cS) S b2 u.w (RowE.below encS (RowE.below encS HS.out hb0.out (Nat.le_refl _)) u.below (Nat.le_refl _)))
    clear hr2
    rw [E1.out] at K1
    have K1 := Lib.hid K1
    (refine region_later mix ?hB ?_; case hB => kernel_rfl); (repeat (first | go_big_quiet_step ((go_at_call 64; with_reducible first | exact Later.call (K1.out _) | exact Later.call (K2.out _))) | quiet_step ((go_at_call 64; with_reducible first | exact Later.call (K1.out _) | exact Later.call (K2.out _))))); (refine wpQuiet_nil ?_; rintro _ ⟨u, rfl⟩)
    go_wp2_with fail
    go_ret
    refine ⟨?_, hb0.out.trans (u.below.mono hb0.out.size)⟩
    first | rfl | (show Ending.returned (.bool (!(hasL S b2 == b3))) = _; cases hasL S b2 <;> cases b3 <;> rfl)
end Go.Proofs.Ythipnbiilobjeaa
