/- Nibble: plain laws of packing. -/
import Derived.Test.YtddeeejfmodgfaaNib3
namespace Go.Proofs.Ytddeeejfmodgfaa

theorem joinL_ofL : ∀ l : List UInt8, joinL (ofL l) = l
  | [] => rfl
  | x :: l => by
    simp only [ofL, joinL, joinL_ofL l]
    congr 1
    apply UInt8.toNat_inj.1
    have := x.toNat_lt
    simp
    omega

theorem ofL_joinL : ∀ l : List UInt8, l.all (· < 16) = true → l.length % 2 = 0 → ofL (joinL l) = l
  | [], _, _ => rfl
  | [x], _, h => by simp at h
  | x :: y :: l, h, h2 => by
    simp only [List.all_cons, Bool.and_eq_true, decide_eq_true_eq] at h
    obtain ⟨hx, hy, hl⟩ := h
    have hx' : x.toNat < 16 := by simpa [UInt8.lt_iff_toNat_lt] using hx
    have hy' : y.toNat < 16 := by simpa [UInt8.lt_iff_toNat_lt] using hy
    simp only [joinL, ofL, ofL_joinL l hl (by simp only [List.length_cons] at h2; omega)]
    congr 1
    · apply UInt8.toNat_inj.1
      simp
      omega
    · congr 1
      apply UInt8.toNat_inj.1
      simp
      omega

theorem ofL_small : ∀ l : List UInt8, (ofL l).all (· < 16) = true
  | [] => rfl
  | x :: l => by
    have := x.toNat_lt
    simp only [ofL, List.all_cons, ofL_small l, Bool.and_true, Bool.and_eq_true, decide_eq_true_eq]
    have h1 : (x / 16).toNat < 16 := by simp; omega
    have h2 : (x % 16).toNat < 16 := by simp; omega
    exact ⟨UInt8.lt_iff_toNat_lt.2 h1, UInt8.lt_iff_toNat_lt.2 h2⟩

theorem joinL_length : ∀ l : List UInt8, (joinL l).length = l.length / 2
  | [] => rfl
  | [_] => by simp [joinL]
  | x :: y :: l => by simp only [joinL, List.length_cons, joinL_length l]; omega

/-- What bytes are, unpacked: a part and whether it ends a key. -/
def unpackL (s : List UInt8) : Option (List UInt8 × Bool) :=
  match ofL s with
  | f :: x :: r =>
    if f = 1 then some (x :: r, false) else if f = 3 then some (x :: r, true)
    else if x = 0 ∧ f = 0 then some (r, false) else if x = 0 ∧ f = 2 then some (r, true) else none
  | _ => none

def packL (part : List UInt8) (ends : Bool) : List UInt8 :=
  joinL ((if part.length % 2 = 0 then [if ends then 2 else 0, 0] else [if ends then 3 else 1]) ++ part)

theorem unpack_pack (part : List UInt8) (ends : Bool) (h : part.all (· < 16) = true) : unpackL (packL part ends) = some (part, ends) := by
  unfold unpackL packL
  by_cases hp : part.length % 2 = 0
  · rw [if_pos hp, ofL_joinL]
    · cases ends <;> simp
    · cases ends <;> simpa using h
    · simp; omega
  · rw [if_neg hp]
    cases part with
    | nil => simp at hp
    | cons x r =>
      rw [ofL_joinL]
      · cases ends <;> simp
      · cases ends <;> simpa using h
      · simp at hp ⊢; omega

theorem pack_unpack (s part : List UInt8) (ends : Bool) (h : unpackL s = some (part, ends)) : packL part ends = s ∧ part.all (· < 16) = true := by
  have hs := joinL_ofL s
  have hsm := ofL_small s
  have hlen := ofL_length s
  unfold unpackL at h
  match ho : ofL s, h with
  | f :: x :: r, h =>
    rw [ho] at hs hsm hlen
    simp only [List.length_cons] at hlen
    simp only [List.all_cons, Bool.and_eq_true] at hsm
    dsimp only at h
    unfold packL
    split at h
    · rename_i hf; subst hf
      simp only [Option.some.injEq, Prod.mk.injEq] at h
      obtain ⟨rfl, rfl⟩ := h
      refine ⟨?_, by simp [hsm]⟩
      rw [if_neg (by simp only [List.length_cons]; omega)]
      exact hs
    · split at h
      · rename_i hf; subst hf
        simp only [Option.some.injEq, Prod.mk.injEq] at h
        obtain ⟨rfl, rfl⟩ := h
        refine ⟨?_, by simp [hsm]⟩
        rw [if_neg (by simp only [List.length_cons]; omega)]
        exact hs
      · split at h
        · rename_i hf; obtain ⟨rfl, rfl⟩ := hf
          simp only [Option.some.injEq, Prod.mk.injEq] at h
          obtain ⟨rfl, rfl⟩ := h
          refine ⟨?_, hsm.2.2⟩
          rw [if_pos (by omega)]
          exact hs
        · split at h
          · rename_i hf; obtain ⟨rfl, rfl⟩ := hf
            simp only [Option.some.injEq, Prod.mk.injEq] at h
            obtain ⟨rfl, rfl⟩ := h
            refine ⟨?_, hsm.2.2⟩
            rw [if_pos (by omega)]
            exact hs
          · cases h
end Go.Proofs.Ytddeeejfmodgfaa
