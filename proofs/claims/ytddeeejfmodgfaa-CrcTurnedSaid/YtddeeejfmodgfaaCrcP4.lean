/- Crc: plain laws of frames with bits turned. -/
import Derived.Test.YtddeeejfmodgfaaCrcP3
namespace Go.Proofs.Ytddeeejfmodgfaa

theorem lowL_bit (n k p : Nat) (h : p < 8 * k) : bitAt (lowL n k) p = n.testBit p := by
  unfold bitAt lowL
  have hk : p / 8 < k := by omega
  rw [List.getD, List.getElem?_map, List.getElem?_range hk]
  simp only [Option.map_some, Option.getD_some, UInt8.toNat_ofNat']
  rw [show (256 : Nat) = 2 ^ 8 from rfl, ← Nat.pow_mul, Nat.testBit_mod_two_pow, Nat.testBit_div_two_pow]
  have : p % 8 < 8 := Nat.mod_lt _ (by decide)
  simp [this]
  congr 1
  omega

theorem cfold_residue (R : BitVec 32) : cfold R (lowL (~~~R).toNat 4) = csteps 32 (BitVec.allOnes 32) := by
  rw [cfold_all, lowL_length]
  have h := fb_window R (bitAt (lowL (~~~R).toNat 4)) 0 32 (by decide)
  rw [Nat.zero_add] at h
  rw [show 8 * 4 = 32 from rfl, h]
  congr 1
  apply BitVec.eq_of_getLsbD_eq
  intro i hi
  rw [BitVec.getLsbD_xor, wval_get _ _ _ (by decide) i hi, Nat.zero_add, lowL_bit _ _ _ (by omega)]
  simp only [fb, hi, decide_true, Bool.true_and, BitVec.getLsbD_allOnes]
  have : (~~~R).toNat.testBit i = (~~~R).getLsbD i := rfl
  rw [this, BitVec.getLsbD_not]
  simp [hi]

theorem frame_residue {t : List UInt8} {n : Nat} (h : oneL t = some n) (hl : t.length = n + 6) : cfold creg0 t = csteps 32 (BitVec.allOnes 32) := by
  obtain ⟨_, _, _, _, h4⟩ := oneL_some h
  have h5 : ((t.take (n + 6)).drop (n + 2)).length = 4 := by rw [List.length_drop, List.length_take]; omega
  have h6 := lowL_numL ((t.take (n + 6)).drop (n + 2))
  rw [h5, h4] at h6
  have e : t = t.take (n + 2) ++ (t.take (n + 6)).drop (n + 2) := by
    rw [List.take_of_length_le (by omega : t.length ≤ n + 6), List.take_append_drop]
  rw [e, cfold_append, ← h6]
  exact cfold_residue _

/-- A frame with bits turned within 32, none of its length, is no frame, if it is another text. -/
theorem turned_none (r t : List UInt8) (h1 : 1 ≤ r.length) (h2 : r.length ≤ 4000) (hl : t.length = (frameL r).length) (m : Nat) (hm : 16 ≤ m)
    (hd : ∀ p, p < m ∨ m + 32 ≤ p → bitAt t p = bitAt (frameL r) p) (hne : t ≠ frameL r) : oneL t = none := by
  rw [frameL_length] at hl
  have ha := oneL_frameL r [] h1 h2
  rw [List.append_nil] at ha
  cases ho : oneL t with
  | none => rfl
  | some n =>
    exfalso
    have e2 : t.take 2 = (frameL r).take 2 := by
      refine List.ext_getElem (by rw [List.length_take, List.length_take, frameL_length, hl]) fun k k1 k2 => ?_
      rw [List.length_take] at k1
      rw [List.getElem_take, List.getElem_take]
      apply UInt8.toNat_inj.1
      apply Nat.eq_of_testBit_eq
      intro i
      by_cases hi : i < 8
      · have := hd (8 * k + i) (.inl (by omega))
        unfold bitAt at this
        rw [show (8 * k + i) / 8 = k by omega, show (8 * k + i) % 8 = i by omega] at this
        simpa [List.getD, List.getElem?_eq_getElem (show k < t.length by omega), List.getElem?_eq_getElem (show k < (frameL r).length by rw [frameL_length]; omega)] using this
      · have z : ∀ x : UInt8, x.toNat.testBit i = false := fun x => Nat.testBit_lt_two_pow (Nat.lt_of_lt_of_le x.toNat_lt (Nat.pow_le_pow_right (by decide) (by omega : 8 ≤ i)))
        rw [z, z]
    obtain ⟨n1, _⟩ := oneL_some ho
    obtain ⟨n2, _⟩ := oneL_some ha
    have hn : n = r.length := by rw [n1, n2, e2]
    have c1 := frame_residue ho (by omega)
    have c2 := frame_residue ha (frameL_length r)
    exact hne (cfold_window creg0 t (frameL r) (by rw [hl, frameL_length]) m hd (c1.trans c2.symm))

theorem turned_scan (r t : List UInt8) (h1 : 1 ≤ r.length) (h2 : r.length ≤ 4000) (hl : t.length = (frameL r).length) (m : Nat) (hm : 16 ≤ m)
    (hd : ∀ p, p < m ∨ m + 32 ≤ p → bitAt t p = bitAt (frameL r) p) : (t = frameL r ∧ (scanL t).1.length = 1) ∨ (t ≠ frameL r ∧ (scanL t).1.length = 0) := by
  by_cases h : t = frameL r
  · have := scanL_frames [r] [] (fun x hx => by simp at hx; subst hx; exact ⟨h1, h2⟩) (oneL_none_short (by decide))
    simp at this
    exact .inl ⟨h, by rw [h, this]; rfl⟩
  · exact .inr ⟨h, by rw [scanL_none (turned_none r t h1 h2 hl m hm hd h)]; rfl⟩

/-- One byte with one bit turned. -/
theorem bit_turn (l : List UInt8) (at' : Nat) (v : UInt8) (hq : at' / 8 < l.length) (hv : v.toNat = (l.getD (at' / 8) 0).toNat ^^^ 2 ^ (at' % 8)) (p : Nat) (hp : p ≠ at') : bitAt (l.set (at' / 8) v) p = bitAt l p := by
  unfold bitAt
  by_cases h : p / 8 = at' / 8
  · have e : (l.set (at' / 8) v).getD (p / 8) 0 = v := by rw [h, List.getD, List.getElem?_set_self hq]; rfl
    rw [e, hv, Nat.testBit_xor, Nat.testBit_two_pow, h]
    have : decide (at' % 8 = p % 8) = false := by simp; omega
    rw [this, Bool.xor_false]
  · have e : (l.set (at' / 8) v).getD (p / 8) 0 = l.getD (p / 8) 0 := by rw [List.getD, List.getD, List.getElem?_set_ne (fun e => h e.symm)]
    rw [e]
end Go.Proofs.Ytddeeejfmodgfaa
