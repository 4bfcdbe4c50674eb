/- Crc: plain laws of frames and scans. -/
import Derived.Test.YtddeeejfmodgfaaCrcP2
namespace Go.Proofs.Ytddeeejfmodgfaa

/-- So many bytes of a number, the lowest first. -/
def lowL (n many : Nat) : List UInt8 := (List.range many).map fun i => UInt8.ofNat (n / 256 ^ i)

theorem lowL_length (n many : Nat) : (lowL n many).length = many := by simp [lowL]

/-- Bytes as a number, the lowest first. -/
def numL : List UInt8 → Nat
  | [] => 0
  | b :: l => b.toNat + 256 * numL l

theorem numL_lt : ∀ l : List UInt8, numL l < 256 ^ l.length
  | [] => by simp [numL]
  | b :: l => by
    have := numL_lt l
    have hb := b.toNat_lt
    simp only [numL, List.length_cons, Nat.pow_succ]
    omega


theorem lowL_zero (n : Nat) : lowL n 0 = [] := rfl
theorem lowL_succ (n k : Nat) : lowL n (k + 1) = UInt8.ofNat n :: lowL (n / 256) k := by
  unfold lowL
  rw [List.range_succ_eq_map, List.map_cons, List.map_map]
  congr 1
  · simp
  · refine List.map_congr_left fun i _ => ?_
    simp only [Function.comp, Nat.succ_eq_add_one]
    rw [Nat.div_div_eq_div_mul, Nat.pow_succ, Nat.mul_comm (256 ^ i)]

theorem lowL_two (n : Nat) : lowL n 2 = [UInt8.ofNat n, UInt8.ofNat (n / 256)] := by rw [lowL_succ, lowL_succ, lowL_zero]
theorem lowL_four (n : Nat) : lowL n 4 = [UInt8.ofNat n, UInt8.ofNat (n / 256), UInt8.ofNat (n / 65536), UInt8.ofNat (n / 16777216)] := by
  rw [lowL_succ, lowL_succ, lowL_succ, lowL_succ, lowL_zero, Nat.div_div_eq_div_mul, Nat.div_div_eq_div_mul]

theorem lowL_numL : ∀ l : List UInt8, lowL (numL l) l.length = l
  | [] => rfl
  | b :: l => by
    have hb := b.toNat_lt
    rw [List.length_cons, lowL_succ, numL, show (b.toNat + 256 * numL l) / 256 = numL l by omega, lowL_numL l]
    congr 1
    apply UInt8.toNat_inj.1
    simp only [UInt8.toNat_ofNat']
    omega

theorem numL_lowL : ∀ (k n : Nat), n < 256 ^ k → numL (lowL n k) = n
  | 0, n, h => by simp at h; subst h; rfl
  | k + 1, n, h => by
    rw [lowL_succ, numL, numL_lowL k (n / 256) (by rw [Nat.pow_succ] at h; omega)]
    simp only [UInt8.toNat_ofNat']
    omega

/-- A record's frame. -/
def frameL (s : List UInt8) : List UInt8 := lowL s.length 2 ++ s ++ lowL (crcL (lowL s.length 2 ++ s)) 4

theorem frameL_length (s : List UInt8) : (frameL s).length = s.length + 6 := by simp [frameL, lowL_length]; omega

/-- The length of the record whose frame stands first. -/
def oneL (s : List UInt8) : Option Nat :=
  if s.length < 2 then none
  else if numL (s.take 2) < 1 ∨ 4000 < numL (s.take 2) ∨ s.length < numL (s.take 2) + 6 then none
  else if numL ((s.take (numL (s.take 2) + 6)).drop (numL (s.take 2) + 2)) = crcL (s.take (numL (s.take 2) + 2)) then some (numL (s.take 2))
  else none

theorem oneL_some {s : List UInt8} {n : Nat} (h : oneL s = some n) : n = numL (s.take 2) ∧ 1 ≤ n ∧ n ≤ 4000 ∧ n + 6 ≤ s.length ∧ numL ((s.take (n + 6)).drop (n + 2)) = crcL (s.take (n + 2)) := by
  unfold oneL at h
  split at h
  · cases h
  · split at h
    · cases h
    · split at h
      · rename_i h1 h2 h3
        simp only [Option.some.injEq] at h
        subst h
        exact ⟨rfl, by omega, by omega, by omega, h3⟩
      · cases h

theorem frame_parts {s : List UInt8} {n : Nat} (h2 : n + 6 ≤ s.length) : s.take (n + 6) = s.take 2 ++ (s.drop 2).take n ++ (s.take (n + 6)).drop (n + 2) := by
  have e1 : s.take 2 ++ (s.drop 2).take n = s.take (n + 2) := by
    rw [show n + 2 = 2 + n by omega, List.take_add]
  rw [e1]
  have := List.take_append_drop (n + 2) (s.take (n + 6))
  rw [List.take_take, show min (n + 2) (n + 6) = n + 2 by omega] at this
  exact this.symm

theorem take_len2 {s : List UInt8} {n : Nat} (h : n + 6 ≤ s.length) (hn : numL (s.take 2) = n) : lowL n 2 = s.take 2 := by
  have := lowL_numL (s.take 2)
  rw [List.length_take, show min 2 s.length = 2 by omega, hn] at this
  exact this

/-- As the reference tells whether a frame stands first. -/
theorem oneL_frame {s : List UInt8} {n : Nat} (h1 : numL (s.take 2) = n) (h2 : 1 ≤ n) (h3 : n ≤ 4000) (h4 : n + 6 ≤ s.length) :
    oneL s = if frameL ((s.drop 2).take n) = s.take (n + 6) then some n else none := by
  have hl : ((s.drop 2).take n).length = n := by rw [List.length_take, List.length_drop]; omega
  have e2 : s.take 2 ++ (s.drop 2).take n = s.take (n + 2) := by rw [show n + 2 = 2 + n by omega, List.take_add]
  have key : frameL ((s.drop 2).take n) = s.take (n + 6) ↔ numL ((s.take (n + 6)).drop (n + 2)) = crcL (s.take (n + 2)) := by
    unfold frameL
    rw [hl, take_len2 h4 h1, e2]
    conv => lhs; rhs; rw [frame_parts h4, e2]
    rw [List.append_cancel_left_eq]
    have h5 : ((s.take (n + 6)).drop (n + 2)).length = 4 := by rw [List.length_drop, List.length_take]; omega
    constructor
    · intro h
      rw [← h, numL_lowL 4 _ (crcL_lt _)]
    · intro h
      rw [← h, ← h5, lowL_numL]
  unfold oneL
  rw [h1, if_neg (by omega), if_neg (by omega)]
  by_cases hk : frameL ((s.drop 2).take n) = s.take (n + 6)
  · rw [if_pos hk, if_pos (key.1 hk)]
  · rw [if_neg hk, if_neg (fun h => hk (key.2 h))]

theorem oneL_none_short {s : List UInt8} (h : s.length < 7) : oneL s = none := by
  cases ho : oneL s with
  | none => rfl
  | some n => have := oneL_some ho; omega

theorem oneL_none_len {s : List UInt8} {n : Nat} (h1 : numL (s.take 2) = n) (h : n < 1 ∨ 4000 < n ∨ s.length < n + 6) : oneL s = none := by
  cases ho : oneL s with
  | none => rfl
  | some m => obtain ⟨e, h2⟩ := oneL_some ho; omega

/-- A frame that stands first, and anything behind it. -/
theorem oneL_frameL (r t : List UInt8) (h1 : 1 ≤ r.length) (h2 : r.length ≤ 4000) : oneL (frameL r ++ t) = some r.length := by
  have e0 : (frameL r ++ t).take 2 = lowL r.length 2 := by
    unfold frameL
    rw [List.append_assoc, List.append_assoc, List.take_append_of_le_length (by rw [lowL_length]; exact Nat.le_refl _), List.take_of_length_le (by rw [lowL_length]; exact Nat.le_refl _)]
  have e1 : numL ((frameL r ++ t).take 2) = r.length := by rw [e0, numL_lowL 2 _ (by omega)]
  rw [oneL_frame e1 h1 h2 (by rw [List.length_append, frameL_length]; omega), if_pos]
  have e3 : ((frameL r ++ t).drop 2).take r.length = r := by
    unfold frameL
    rw [List.append_assoc, List.append_assoc, List.drop_append_of_le_length (by rw [lowL_length]; exact Nat.le_refl _), List.drop_of_length_le (by rw [lowL_length]; exact Nat.le_refl _), List.nil_append,
      List.take_append_of_le_length (Nat.le_refl _), List.take_of_length_le (Nat.le_refl _)]
  rw [e3, List.take_append_of_le_length (by rw [frameL_length]; exact Nat.le_refl _), List.take_of_length_le (by rw [frameL_length]; exact Nat.le_refl _)]

/-- A beginning of a frame that is not all of it. -/
theorem oneL_part (r : List UInt8) (k : Nat) (h2 : r.length ≤ 4000) (hk : k < r.length + 6) : oneL ((frameL r).take k) = none := by
  by_cases h : k < 2
  · exact oneL_none_short (by rw [List.length_take]; omega)
  · refine oneL_none_len (n := r.length) ?_ (.inr (.inr (by rw [List.length_take]; omega)))
    rw [List.take_take, show min 2 k = 2 by omega]
    have e0 : (frameL r).take 2 = lowL r.length 2 := by
      unfold frameL
      rw [List.append_assoc, List.take_append_of_le_length (by rw [lowL_length]; exact Nat.le_refl _), List.take_of_length_le (by rw [lowL_length]; exact Nat.le_refl _)]
    rw [e0, numL_lowL 2 _ (by omega)]

def scanF : Nat → List UInt8 → List (List UInt8) × Nat
  | 0, _ => ([], 0)
  | f + 1, s => match oneL s with
    | none => ([], 0)
    | some n => ((s.drop 2).take n :: (scanF f (s.drop (n + 6))).1, n + 6 + (scanF f (s.drop (n + 6))).2)

/-- The records that stand in bytes, and how far. -/
def scanL (s : List UInt8) : List (List UInt8) × Nat := scanF s.length s

theorem scanF_fuel : ∀ (f g : Nat) (s : List UInt8), s.length ≤ f → s.length ≤ g → scanF f s = scanF g s
  | 0, 0, _, _, _ => rfl
  | 0, g + 1, s, h, _ => by
    obtain rfl : s = [] := List.eq_nil_of_length_eq_zero (by omega)
    rfl
  | f + 1, 0, s, _, h => by
    obtain rfl : s = [] := List.eq_nil_of_length_eq_zero (by omega)
    rfl
  | f + 1, g + 1, s, h1, h2 => by
    simp only [scanF]
    cases ho : oneL s with
    | none => rfl
    | some n =>
      have := oneL_some ho
      simp only
      rw [scanF_fuel f g (s.drop (n + 6)) (by rw [List.length_drop]; omega) (by rw [List.length_drop]; omega)]

theorem scanL_none {s : List UInt8} (h : oneL s = none) : scanL s = ([], 0) := by
  unfold scanL
  cases hs : s.length with
  | zero => rfl
  | succ f => simp only [scanF, h]

theorem scanL_some {s : List UInt8} {n : Nat} (h : oneL s = some n) : scanL s = ((s.drop 2).take n :: (scanL (s.drop (n + 6))).1, n + 6 + (scanL (s.drop (n + 6))).2) := by
  have h4 := oneL_some h
  unfold scanL
  obtain ⟨f, hf⟩ : ∃ f, s.length = f + 1 := ⟨s.length - 1, by omega⟩
  rw [hf]
  simp only [scanF, h]
  rw [scanF_fuel f _ (s.drop (n + 6)) (by rw [List.length_drop]; omega) (Nat.le_refl _)]

/-- Frames one behind the other. -/
theorem scanL_frames : ∀ (l : List (List UInt8)) (t : List UInt8), (∀ r ∈ l, 1 ≤ r.length ∧ r.length ≤ 4000) → oneL t = none →
    scanL ((l.map frameL).flatten ++ t) = (l, (l.map frameL).flatten.length)
  | [], t, _, ht => by simpa using scanL_none ht
  | r :: l, t, h, ht => by
    have h1 := h r (List.mem_cons_self ..)
    have ih := scanL_frames l t (fun x hx => h x (List.mem_cons_of_mem _ hx)) ht
    have e : ((r :: l).map frameL).flatten ++ t = frameL r ++ ((l.map frameL).flatten ++ t) := by simp
    have e3 : ∀ u, ((frameL r ++ u).drop 2).take r.length = r := by
      intro u
      unfold frameL
      rw [List.append_assoc, List.append_assoc, List.drop_append_of_le_length (by rw [lowL_length]; exact Nat.le_refl _), List.drop_of_length_le (by rw [lowL_length]; exact Nat.le_refl _), List.nil_append,
        List.take_append_of_le_length (Nat.le_refl _), List.take_of_length_le (Nat.le_refl _)]
    have e4 : ∀ u, (frameL r ++ u).drop (r.length + 6) = u := by
      intro u
      rw [← frameL_length r, List.drop_left]
    rw [e, scanL_some (oneL_frameL r _ h1.1 h1.2), e3, e4, ih]
    simp [frameL_length]
end Go.Proofs.Ytddeeejfmodgfaa
