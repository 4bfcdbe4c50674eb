/- Nibble: plain functions on lists of bytes. -/
import Derived.Test.YtddeeejfmodgfaaRows
namespace Go.Proofs.Ytddeeejfmodgfaa

/-- How many bytes two lists begin with alike. -/
def shareL : List UInt8 → List UInt8 → Nat
  | x :: a, y :: b => if x = y then shareL a b + 1 else 0
  | _, _ => 0

theorem shareL_le : ∀ (a b : List UInt8), shareL a b ≤ a.length ∧ shareL a b ≤ b.length
  | [], _ => by simp [shareL]
  | _ :: _, [] => by simp [shareL]
  | x :: a, y :: b => by
    have := shareL_le a b
    unfold shareL
    split <;> simp <;> omega

theorem shareL_alike : ∀ (a b : List UInt8) (i : Nat), i < shareL a b → a[i]? = b[i]?
  | [], _, i, h => by simp [shareL] at h
  | _ :: _, [], i, h => by simp [shareL] at h
  | x :: a, y :: b, i, h => by
    unfold shareL at h
    split at h
    · rename_i hxy
      cases i with
      | zero => simp [hxy]
      | succ i => simpa using shareL_alike a b i (by omega)
    · omega

theorem shareL_stop : ∀ (a b : List UInt8), shareL a b < a.length → shareL a b < b.length → a[shareL a b]? ≠ b[shareL a b]?
  | [], _, h, _ => by simp at h
  | _ :: _, [], _, h => by simp at h
  | x :: a, y :: b, h1, h2 => by
    unfold shareL at *
    split at h1
    · rename_i hxy
      rw [if_pos hxy] at *
      simpa using shareL_stop a b (by simpa using h1) (by simpa using h2)
    · rename_i hxy
      rw [if_neg hxy] at *
      simpa using hxy

theorem shareL_comm : ∀ (a b : List UInt8), shareL a b = shareL b a
  | [], [] => rfl
  | [], _ :: _ => rfl
  | _ :: _, [] => rfl
  | x :: a, y :: b => by
    unfold shareL
    by_cases h : x = y
    · rw [if_pos h, if_pos h.symm, shareL_comm a b]
    · rw [if_neg h, if_neg (fun e => h e.symm)]

theorem shareL_append : ∀ (c a b : List UInt8), shareL (c ++ a) (c ++ b) = c.length + shareL a b
  | [], a, b => by simp
  | x :: c, a, b => by
    simp only [List.cons_append, shareL, if_true, shareL_append c a b, List.length_cons]
    omega

theorem shareL_self (a : List UInt8) : shareL a a = a.length := by simpa [shareL] using shareL_append a [] []

theorem shareL_take (a b : List UInt8) : a.take (shareL a b) = b.take (shareL a b) := by
  refine List.ext_getElem? fun i => ?_
  rw [List.getElem?_take, List.getElem?_take]
  split
  · exact shareL_alike a b i (by assumption)
  · rfl

theorem shareL_unique (a b : List UInt8) (n : Nat) (h0 : n ≤ a.length) (h1 : n ≤ b.length) (h : ∀ i, i < n → a[i]? = b[i]?) (hs : n < a.length → n < b.length → a[n]? ≠ b[n]?) : n = shareL a b := by
  have hl := shareL_le a b
  rcases Nat.lt_trichotomy n (shareL a b) with hlt | heq | hgt
  · exact absurd (shareL_alike a b n hlt) (hs (by omega) (by omega))
  · exact heq
  · exact absurd (h _ hgt) (shareL_stop a b (by omega) (by omega))
end Go.Proofs.Ytddeeejfmodgfaa
