/- Rlp: items, how they are written and read: plain laws. -/
import Derived.Test.YtdeboidelgnffaaLaw
namespace Go.Proofs.Ytdeboidelgnffaa

/-- An item: whether it is a list, its bytes, its kids. -/
inductive It where
  | mk (l : Bool) (b : List UInt8) (k : List It)

mutual
/-- How many items there are in one. -/
def It.size : It → Nat
  | .mk _ _ ks => 1 + sizes ks
def sizes : List It → Nat
  | [] => 0
  | k :: ks => k.size + sizes ks
end

mutual
/-- Each one in it is bytes or a list. -/
def It.pure : It → Prop
  | .mk l b ks => (l = true → b = []) ∧ (l = false → ks = []) ∧ pures ks
def pures : List It → Prop
  | [] => True
  | k :: ks => k.pure ∧ pures ks
end

mutual
/-- How deep lists go. -/
def It.depth : It → Nat
  | .mk l _ ks => depths ks + (if l = true then 1 else 0)
def depths : List It → Nat
  | [] => 0
  | k :: ks => max k.depth (depths ks)
end

/-- A number's bytes, the highest first. -/
def dig (n : Nat) : List UInt8 := if n = 0 then [] else dig (n / 256) ++ [UInt8.ofNat n]
termination_by n
decreasing_by omega

theorem dig_zero : dig 0 = [] := by rw [dig]; rfl
theorem dig_pos {n : Nat} (h : 0 < n) : dig n = dig (n / 256) ++ [UInt8.ofNat n] := by rw [dig, if_neg (by omega)]
theorem dig_one {n : Nat} (h : 0 < n) (h' : n < 256) : dig n = [UInt8.ofNat n] := by
  rw [dig_pos h, show n / 256 = 0 by omega, dig_zero]; rfl
theorem dig_two {n : Nat} (h : 256 ≤ n) (h' : n < 65536) : dig n = [UInt8.ofNat (n / 256), UInt8.ofNat n] := by
  rw [dig_pos (by omega), dig_one (by omega) (by omega)]; rfl

/-- What stands ahead of so many bytes. -/
def headL (fr n : Nat) : List UInt8 := if n ≤ 55 then [UInt8.ofNat (fr + n)] else UInt8.ofNat (fr + 55 + (dig n).length) :: dig n

theorem headL_short {fr n : Nat} (h : n ≤ 55) : headL fr n = [UInt8.ofNat (fr + n)] := by rw [headL, if_pos h]
theorem headL_one {fr n : Nat} (h : 55 < n) (h' : n < 256) : headL fr n = [UInt8.ofNat (fr + 56), UInt8.ofNat n] := by
  rw [headL, if_neg (by omega), dig_one (by omega) h']; rfl
theorem headL_two {fr n : Nat} (h : 256 ≤ n) (h' : n < 65536) : headL fr n = [UInt8.ofNat (fr + 57), UInt8.ofNat (n / 256), UInt8.ofNat n] := by
  rw [headL, if_neg (by omega), dig_two h h']; rfl
theorem headL_length {fr n : Nat} (h : n < 65536) : (headL fr n).length = if n ≤ 55 then 1 else if n < 256 then 2 else 3 := by
  split
  · rw [headL_short (by assumption)]; rfl
  · split
    · rw [headL_one (by omega) (by assumption)]; rfl
    · rw [headL_two (by omega) h]; rfl
theorem headL_pos (fr n : Nat) : 1 ≤ (headL fr n).length := by
  unfold headL; split <;> simp

mutual
/-- What an item is written as. -/
def It.write : It → List UInt8
  | .mk l b ks => if l = true then headL 192 (writes ks).length ++ writes ks else if b.length = 1 ∧ (b.getD 0 0).toNat < 128 then b else headL 128 b.length ++ b
def writes : List It → List UInt8
  | [] => []
  | k :: ks => k.write ++ writes ks
end

/-- A head: whether it is a list's, where what it stands ahead of begins, and ends. -/
def cutL : List UInt8 → Option (Bool × Nat × Nat)
  | [] => none
  | c :: s =>
    if c.toNat < 128 then some (false, 0, 1)
    else
      let fr := if 192 ≤ c.toNat then 192 else 128
      let n := c.toNat - fr
      if n ≤ 55 then some (decide (192 ≤ c.toNat), 1, 1 + n)
      else if n = 56 then (match s with | a :: _ => if a.toNat ≤ 55 then none else some (decide (192 ≤ c.toNat), 2, 2 + a.toNat) | [] => none)
      else if n = 57 then (match s with | a :: b :: _ => if a.toNat = 0 then none else some (decide (192 ≤ c.toNat), 3, 3 + (256 * a.toNat + b.toNat)) | _ => none)
      else none

/-- Where a head counts from. -/
def frOf (is : Bool) : Nat := if is = true then 192 else 128

theorem cut_head (is : Bool) (n : Nat) (h : n < 65536) (t : List UInt8) : cutL (headL (frOf is) n ++ t) = some (is, (headL (frOf is) n).length, (headL (frOf is) n).length + n) := by
  have e1 : ∀ m : Nat, m < 256 → (UInt8.ofNat m).toNat = m := fun m hm => by simp; omega
  obtain ⟨F, hF, hF1, hF2, hF3⟩ : ∃ F, frOf is = F ∧ F ≤ 192 ∧ 128 ≤ F ∧ ∀ c, F ≤ c → c ≤ F + 63 → (if 192 ≤ c then 192 else 128) = F ∧ decide (192 ≤ c) = is := by
    cases is
    · exact ⟨128, rfl, by omega, by omega, fun c h1 h2 => ⟨if_neg (by omega), decide_eq_false (by omega)⟩⟩
    · exact ⟨192, rfl, by omega, by omega, fun c h1 h2 => ⟨if_pos (by omega), decide_eq_true (by omega)⟩⟩
  rw [hF]
  by_cases h1 : n ≤ 55
  · obtain ⟨g1, g2⟩ := hF3 (F + n) (by omega) (by omega)
    rw [headL_short h1]
    simp only [cutL, List.cons_append, List.nil_append, List.length_cons, List.length_nil, e1 (F + n) (by omega), g1, g2, if_neg (show ¬ F + n < 128 by omega), Nat.add_sub_cancel_left, if_pos h1]
  · by_cases h2 : n < 256
    · obtain ⟨g1, g2⟩ := hF3 (F + 56) (by omega) (by omega)
      rw [headL_one (by omega) h2]
      simp only [cutL, List.cons_append, List.nil_append, List.length_cons, List.length_nil, e1 (F + 56) (by omega), e1 n h2, g1, g2, if_neg (show ¬ F + 56 < 128 by omega), Nat.add_sub_cancel_left, if_neg (show ¬ 56 ≤ 55 by omega), if_neg h1, if_true]
    · obtain ⟨g1, g2⟩ := hF3 (F + 57) (by omega) (by omega)
      have e2 : (UInt8.ofNat n).toNat = n % 256 := by simp
      have e3 : 256 * (n / 256) + n % 256 = n := by omega
      rw [headL_two (by omega) h]
      simp only [cutL, List.cons_append, List.nil_append, List.length_cons, List.length_nil, e1 (F + 57) (by omega), e1 (n / 256) (by omega), e2, e3, g1, g2, if_neg (show ¬ F + 57 < 128 by omega), Nat.add_sub_cancel_left, if_neg (show ¬ 57 ≤ 55 by omega), if_neg (show ¬ 57 = 56 by omega), if_true, if_neg (show ¬ n / 256 = 0 by omega)]

theorem cut_inv {s : List UInt8} {is : Bool} {fr to : Nat} (h : cutL s = some (is, fr, to)) :
    (fr = 0 ∧ to = 1 ∧ is = false ∧ ∃ c t, s = c :: t ∧ c.toNat < 128) ∨ ∃ n t, n < 65536 ∧ s = headL (frOf is) n ++ t ∧ fr = (headL (frOf is) n).length ∧ to = fr + n := by
  have hc : ∀ c : UInt8, UInt8.ofNat c.toNat = c := fun c => by simp
  match s, h with
  | [], h => simp [cutL] at h
  | c :: s, h =>
    have hlt := c.toNat_lt
    simp only [cutL] at h
    split at h
    · simp at h; exact .inl ⟨h.2.1.symm, h.2.2.symm, h.1, c, s, rfl, by assumption⟩
    · have hf : (if 192 ≤ c.toNat then 192 else 128) = frOf (decide (192 ≤ c.toNat)) := by unfold frOf; simp
      rw [hf] at h
      have hle : frOf (decide (192 ≤ c.toNat)) ≤ c.toNat := by unfold frOf; split <;> simp_all
      obtain ⟨k, hk⟩ := Nat.le.dest hle
      rw [show c.toNat - frOf (decide (192 ≤ c.toNat)) = k by omega] at h
      split at h
      · simp only [Option.some.injEq, Prod.mk.injEq] at h
        obtain ⟨rfl, rfl, rfl⟩ := h
        refine .inr ⟨k, s, by omega, ?_, ?_, ?_⟩
        · rw [headL_short (by omega), hk, hc]; rfl
        · rw [headL_short (by omega)]; rfl
        · rfl
      · split at h
        · match s, h with
          | a :: s, h =>
            have ha := a.toNat_lt
            simp only at h
            split at h
            · simp at h
            · simp only [Option.some.injEq, Prod.mk.injEq] at h
              obtain ⟨rfl, rfl, rfl⟩ := h
              refine .inr ⟨a.toNat, s, by omega, ?_, ?_, rfl⟩
              · rw [headL_one (by omega) (by omega), show frOf (decide (192 ≤ c.toNat)) + 56 = c.toNat by omega, hc, hc]; rfl
              · rw [headL_one (by omega) (by omega)]; rfl
          | [], h => simp at h
        · split at h
          · match s, h with
            | a :: b :: s, h =>
              have ha := a.toNat_lt
              have hb := b.toNat_lt
              simp only at h
              split at h
              · simp at h
              · simp only [Option.some.injEq, Prod.mk.injEq] at h
                obtain ⟨rfl, rfl, rfl⟩ := h
                have q1 : (256 * a.toNat + b.toNat) / 256 = a.toNat := by omega
                have q2 : UInt8.ofNat (256 * a.toNat + b.toNat) = b := by
                  apply UInt8.toNat.inj
                  simp
                refine .inr ⟨256 * a.toNat + b.toNat, s, by omega, ?_, ?_, rfl⟩
                · rw [headL_two (by omega) (by omega), show frOf (decide (192 ≤ c.toNat)) + 57 = c.toNat by omega, hc, q1, hc, q2]; rfl
                · rw [headL_two (by omega) (by omega)]; rfl
            | [a], h => simp at h
            | [], h => simp at h
          · simp at h
end Go.Proofs.Ytdeboidelgnffaa
