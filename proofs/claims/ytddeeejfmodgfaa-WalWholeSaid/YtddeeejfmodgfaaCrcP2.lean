/- Crc: plain laws of sums, bit by bit. -/
import Derived.Test.YtddeeejfmodgfaaCrcP
import Derived.Laws.BitsAllLaws
namespace Go.Proofs.Ytddeeejfmodgfaa

theorem csteps_succ : ∀ (n : Nat) (r : BitVec 32), csteps (n + 1) r = cstep (csteps n r)
  | 0, _ => rfl
  | n + 1, r => by rw [csteps, csteps_succ n]; rfl

theorem cstep_inj {a b : BitVec 32} (h : cstep a = cstep b) : a = b := by
  have := cstep_eq_zero (r := a ^^^ b) (by rw [cstep_xor, h, BitVec.xor_self])
  exact BitVec.xor_eq_zero_iff.1 this

theorem csteps_inj : ∀ (n : Nat) {a b : BitVec 32}, csteps n a = csteps n b → a = b
  | 0, _, _, h => h
  | n + 1, _, _, h => cstep_inj (csteps_inj n h)

def cb (b : UInt8) : BitVec 32 := BitVec.ofNat 32 b.toNat
/-- A byte's step of the register. -/
def cbyte (r : BitVec 32) (b : UInt8) : BitVec 32 := csteps 8 (r ^^^ cb b)
def cfold (r : BitVec 32) (l : List UInt8) : BitVec 32 := l.foldl cbyte r
/-- A text's sum. -/
def creg0 : BitVec 32 := BitVec.allOnes 32
def crcL (l : List UInt8) : Nat := (~~~ (cfold creg0 l)).toNat
/-- A table's entry. -/
def ctab (i : Nat) : BitVec 32 := csteps 8 (BitVec.ofNat 32 i)

theorem crcL_lt (l : List UInt8) : crcL l < 4294967296 := (~~~ (cfold creg0 l)).isLt

theorem cfold_snoc (r : BitVec 32) (l : List UInt8) (b : UInt8) : cfold r (l ++ [b]) = cbyte (cfold r l) b := by simp [cfold]
theorem cfold_append (r : BitVec 32) (l m : List UInt8) : cfold r (l ++ m) = cfold (cfold r l) m := by simp [cfold]

theorem cb_high (b : UInt8) {i : Nat} (h : 8 ≤ i) : (cb b).getLsbD i = false := by
  unfold cb
  rw [BitVec.getLsbD_ofNat]
  have : b.toNat.testBit i = false := Nat.testBit_lt_two_pow (Nat.lt_of_lt_of_le b.toNat_lt (Nat.pow_le_pow_right (by decide) h))
  simp [this]

theorem cb_shift8 (b : UInt8) : cb b >>> 8 = 0#32 := by
  apply BitVec.eq_of_getLsbD_eq
  intro i _
  rw [BitVec.getLsbD_ushiftRight, cb_high b (by omega)]
  simp

theorem and255 (x : BitVec 32) : x &&& 0xff#32 = BitVec.ofNat 32 (x.toNat % 256) := by
  apply BitVec.eq_of_toNat_eq
  rw [BitVec.toNat_and, BitVec.toNat_ofNat, BitVec.toNat_ofNat]
  have : x.toNat &&& 255 = x.toNat % 256 := Nat.and_two_pow_sub_one_eq_mod x.toNat 8
  have h2 : x.toNat % 256 < 2 ^ 32 := by omega
  rw [Nat.mod_eq_of_lt h2, ← this]

theorem cbyte_tab (r : BitVec 32) (b : UInt8) : cbyte r b = (r >>> 8) ^^^ ctab ((r.toNat % 256) ^^^ b.toNat) := by
  unfold cbyte ctab
  rw [csteps_byte]
  have e1 : (r ^^^ cb b) >>> 8 = r >>> 8 := by
    rw [BitVec.ushiftRight_xor_distrib, cb_shift8, BitVec.xor_zero]
  have hb := b.toNat_lt
  have e2 : (r ^^^ cb b) &&& 0xff#32 = BitVec.ofNat 32 ((r.toNat % 256) ^^^ b.toNat) := by
    rw [and255]
    congr 1
    rw [BitVec.toNat_xor]
    have e3 : (cb b).toNat = b.toNat := by unfold cb; rw [BitVec.toNat_ofNat]; omega
    rw [e3]
    have h8 : ∀ x : Nat, x % 256 = x % 2 ^ 8 := fun _ => rfl
    rw [h8, Nat.xor_mod_two_pow, ← h8, ← h8, Nat.mod_eq_of_lt hb]
  rw [e1, e2]

/-- As the program's walk writes a step of the sum. -/
theorem tab_step (r : BitVec 32) (b : UInt8) : Go.bits .xor .u32 ((r.toNat / 256 : Nat) : Int) ((ctab ((r.toNat % 256) ^^^ b.toNat)).toNat : Int) = ((cbyte r b).toNat : Int) := by
  rw [u32_xor_nat _ _ (by have := r.isLt; omega) (ctab _).isLt, cbyte_tab, BitVec.toNat_xor]
  congr 2
  rw [BitVec.toNat_ushiftRight]
  simp [Nat.shiftRight_eq_div_pow]

/-- As a walk writes one bit's step. -/
theorem bit_step1 (r : BitVec 32) (h : r.toNat % 2 = 1) : Go.bits .xor .u32 ((r.toNat / 2 : Nat) : Int) 3988292384 = ((cstep r).toNat : Int) := by
  have e : (3988292384 : Int) = ((3988292384 : Nat) : Int) := rfl
  rw [e, u32_xor_nat _ _ (by have := r.isLt; omega) (by decide)]
  have h0 : r.getLsbD 0 = true := by rw [BitVec.getLsbD, Nat.testBit_zero]; simp [h]
  unfold cstep
  rw [h0, if_pos rfl, BitVec.toNat_xor, BitVec.toNat_ushiftRight]
  simp [Nat.shiftRight_eq_div_pow, cpoly]

theorem bit_step0 (r : BitVec 32) (h : r.toNat % 2 = 0) : ((r.toNat / 2 : Nat) : Int) = ((cstep r).toNat : Int) := by
  have h0 : r.getLsbD 0 = false := by rw [BitVec.getLsbD, Nat.testBit_zero]; simp [h]
  unfold cstep
  rw [h0]
  simp [Nat.shiftRight_eq_div_pow]

/-- The reference's register behind 'k' bits of a byte. -/
def rbit (r : BitVec 32) (b : UInt8) (k : Nat) : BitVec 32 := csteps k (r ^^^ cb b) ^^^ (cb b >>> k)

theorem rbit_zero (r : BitVec 32) (b : UInt8) : rbit r b 0 = r := by
  unfold rbit
  simp only [csteps, BitVec.ushiftRight_zero]
  rw [BitVec.xor_assoc, BitVec.xor_self, BitVec.xor_zero]

theorem rbit_eight (r : BitVec 32) (b : UInt8) : rbit r b 8 = cbyte r b := by
  unfold rbit cbyte
  rw [cb_shift8, BitVec.xor_zero]

theorem cstep_eq (r : BitVec 32) : cstep r = (r >>> 1) ^^^ (if r.getLsbD 0 then cpoly else 0#32) := rfl

theorem rbit_succ (r : BitVec 32) (b : UInt8) (k : Nat) : rbit r b (k + 1) = (rbit r b k >>> 1) ^^^ (if (rbit r b k).getLsbD 0 != b.toNat.testBit k then cpoly else 0#32) := by
  have hb : (cb b >>> k).getLsbD 0 = b.toNat.testBit k := by
    rw [BitVec.getLsbD_ushiftRight, Nat.add_zero]
    unfold cb
    rw [BitVec.getLsbD_ofNat]
    by_cases h : k < 32
    · simp [h]
    · have : b.toNat.testBit k = false := Nat.testBit_lt_two_pow (Nat.lt_of_lt_of_le b.toNat_lt (Nat.pow_le_pow_right (by decide) (by omega : 8 ≤ k)))
      simp [this]
  have hx : ((rbit r b k).getLsbD 0 != b.toNat.testBit k) = (csteps k (r ^^^ cb b)).getLsbD 0 := by
    unfold rbit
    rw [BitVec.getLsbD_xor, hb]
    cases (csteps k (r ^^^ cb b)).getLsbD 0 <;> cases b.toNat.testBit k <;> rfl
  rw [hx]
  unfold rbit
  rw [csteps_succ, cstep_eq (csteps k (r ^^^ cb b)), BitVec.ushiftRight_xor_distrib, BitVec.shiftRight_add]
  rw [BitVec.xor_assoc, BitVec.xor_assoc]
  congr 1
  exact BitVec.xor_comm _ _

theorem lsb_nat (r : BitVec 32) : r.getLsbD 0 = decide (r.toNat % 2 = 1) := by rw [BitVec.getLsbD, Nat.testBit_zero]
theorem tb_nat (b : UInt8) (k : Nat) : b.toNat.testBit k = decide (b.toNat / 2 ^ k % 2 = 1) := by rw [Nat.testBit_eq_decide_div_mod_eq]

theorem rbit_step1 (r : BitVec 32) (b : UInt8) (k : Nat) (h : (rbit r b k).toNat % 2 ≠ b.toNat / 2 ^ k % 2) :
    Go.bits .xor .u32 (((rbit r b k).toNat / 2 : Nat) : Int) 3988292384 = ((rbit r b (k + 1)).toNat : Int) := by
  have e : (3988292384 : Int) = ((3988292384 : Nat) : Int) := rfl
  rw [e, u32_xor_nat _ _ (by have := (rbit r b k).isLt; omega) (by decide), rbit_succ, lsb_nat, tb_nat]
  have : (decide ((rbit r b k).toNat % 2 = 1) != decide (b.toNat / 2 ^ k % 2 = 1)) = true := by
    simp only [bne_iff_ne, ne_eq, decide_eq_decide]
    rcases Nat.mod_two_eq_zero_or_one (b.toNat / 2 ^ k) with h2 | h2 <;> rcases Nat.mod_two_eq_zero_or_one (rbit r b k).toNat with h3 | h3 <;> rw [h2, h3] at h <;> simp_all
  rw [this, if_pos rfl, BitVec.toNat_xor, BitVec.toNat_ushiftRight]
  simp [Nat.shiftRight_eq_div_pow, cpoly]

theorem rbit_step0 (r : BitVec 32) (b : UInt8) (k : Nat) (h : (rbit r b k).toNat % 2 = b.toNat / 2 ^ k % 2) :
    (((rbit r b k).toNat / 2 : Nat) : Int) = ((rbit r b (k + 1)).toNat : Int) := by
  rw [rbit_succ, lsb_nat, tb_nat, h]
  simp [Nat.shiftRight_eq_div_pow]

/-- The register behind the first 'n' bits that 'f' tells. -/
def fb (r : BitVec 32) (f : Nat → Bool) : Nat → BitVec 32
  | 0 => r
  | n + 1 => cstep (fb r f n ^^^ (if f n then 1#32 else 0#32))

theorem fb_congr (r : BitVec 32) (f g : Nat → Bool) : ∀ n, (∀ i, i < n → f i = g i) → fb r f n = fb r g n
  | 0, _ => rfl
  | n + 1, h => by rw [fb, fb, fb_congr r f g n (fun i hi => h i (by omega)), h n (by omega)]

theorem fb_back (r : BitVec 32) (f g : Nat → Bool) (m : Nat) : ∀ n, (∀ i, m ≤ i → i < m + n → f i = g i) → fb r f (m + n) = fb r g (m + n) → fb r f m = fb r g m
  | 0, _, h => h
  | n + 1, hfg, h => by
    refine fb_back r f g m n (fun i h1 h2 => hfg i h1 (by omega)) ?_
    rw [show m + (n + 1) = (m + n) + 1 from rfl, fb, fb] at h
    have := cstep_inj h
    rw [hfg (m + n) (by omega) (by omega)] at this
    exact (BitVec.xor_left_inj _).1 this

/-- The bits of a window as a number. -/
def wval (f : Nat → Bool) (m : Nat) : Nat → BitVec 32
  | 0 => 0#32
  | w + 1 => wval f m w ^^^ (if f (m + w) then BitVec.twoPow 32 w else 0#32)

theorem wval_get (f : Nat → Bool) (m : Nat) : ∀ w, w ≤ 32 → ∀ i, i < 32 → (wval f m w).getLsbD i = (decide (i < w) && f (m + i))
  | 0, _, i, _ => by simp [wval]
  | w + 1, hw, i, hi => by
    rw [wval, BitVec.getLsbD_xor, wval_get f m w (by omega) i hi]
    by_cases h : i = w
    · subst h
      have ht : (BitVec.twoPow 32 i).getLsbD i = true := by rw [BitVec.getLsbD_twoPow]; simp; omega
      cases f (m + i) <;> simp [ht]
    · have ht : (if f (m + w) = true then BitVec.twoPow 32 w else 0#32).getLsbD i = false := by
        split
        · rw [BitVec.getLsbD_twoPow]; simp; omega
        · simp
      rw [ht, Bool.xor_false]
      have : decide (i < w + 1) = decide (i < w) := by simp; omega
      rw [this]

theorem fb_window (r : BitVec 32) (f : Nat → Bool) (m : Nat) : ∀ w, w ≤ 32 → fb r f (m + w) = csteps w (fb r f m ^^^ wval f m w)
  | 0, _ => by simp [wval, csteps]
  | w + 1, hw => by
    rw [show m + (w + 1) = (m + w) + 1 from rfl, fb, fb_window r f m w (by omega), csteps_succ, wval, ← BitVec.xor_assoc, csteps_xor w (fb r f m ^^^ wval f m w)]
    congr 2
    split
    · rw [csteps_high w _ (fun i hi => by rw [BitVec.getLsbD_twoPow]; simp; omega)]
      apply BitVec.eq_of_getLsbD_eq
      intro i hi
      rw [BitVec.getLsbD_ushiftRight, BitVec.getLsbD_twoPow]
      by_cases h0 : i = 0
      · subst h0; simp; omega
      · have : BitVec.getLsbD 1#32 i = false := by
          rw [show (1#32) = BitVec.twoPow 32 0 from rfl, BitVec.getLsbD_twoPow]; simp; omega
        rw [this]; simp; omega
    · have : csteps w 0#32 = 0#32 := by
        have := csteps_xor w 0#32 0#32
        rw [BitVec.xor_self, BitVec.xor_self] at this
        exact this
      rw [this]

/-- Two rows of bits that differ within 32 alone, and leave the same register, are the same. -/
theorem fb_window_inj (r : BitVec 32) (f g : Nat → Bool) (m w n : Nat) (hw : w ≤ 32) (hfg : ∀ i, i < m + w + n → i < m ∨ m + w ≤ i → f i = g i) (h : fb r f (m + w + n) = fb r g (m + w + n)) :
    ∀ i, i < m + w + n → f i = g i := by
  have h1 := fb_back r f g (m + w) n (fun i a b => hfg i b (.inr a)) h
  rw [fb_window r f m w hw, fb_window r g m w hw, fb_congr r f g m (fun i hi => hfg i (by omega) (.inl hi))] at h1
  have h2 := (BitVec.xor_right_inj _).1 (csteps_inj w h1)
  intro i hi
  by_cases h3 : i < m ∨ m + w ≤ i
  · exact hfg i hi h3
  · have h4 := congrArg (fun x : BitVec 32 => x.getLsbD (i - m)) h2
    simp only [wval_get f m w hw (i - m) (by omega), wval_get g m w hw (i - m) (by omega)] at h4
    rw [show m + (i - m) = i by omega] at h4
    have : decide (i - m < w) = true := by simp; omega
    rw [this] at h4
    simpa using h4

/-- A text's bits. -/
def bitAt (l : List UInt8) (p : Nat) : Bool := (l.getD (p / 8) 0).toNat.testBit (p % 8)

theorem cbyte_bits (r : BitVec 32) (b : UInt8) (f : Nat → Bool) (m : Nat) (h : ∀ i, i < 8 → f (m + i) = b.toNat.testBit i) : cbyte (fb r f m) b = fb r f (m + 8) := by
  rw [fb_window r f m 8 (by decide)]
  unfold cbyte
  congr 2
  apply BitVec.eq_of_getLsbD_eq
  intro i hi
  rw [wval_get f m 8 (by decide) i hi]
  by_cases h8 : i < 8
  · rw [h i h8]
    unfold cb
    rw [BitVec.getLsbD_ofNat]
    simp [h8, hi]
  · rw [cb_high b (by omega)]
    simp [h8]

theorem cfold_bits (r : BitVec 32) (l : List UInt8) : ∀ k, k ≤ l.length → cfold r (l.take k) = fb r (bitAt l) (8 * k)
  | 0, _ => by simp [cfold, fb]
  | k + 1, hk => by
    rw [List.take_add_one, List.getElem?_eq_getElem (by omega : k < l.length)]
    simp only [Option.toList_some]
    rw [cfold_snoc, cfold_bits r l k (by omega), show 8 * (k + 1) = 8 * k + 8 by omega]
    refine cbyte_bits r _ _ _ fun i hi => ?_
    unfold bitAt
    rw [show (8 * k + i) / 8 = k by omega, show (8 * k + i) % 8 = i by omega]
    simp [List.getD, List.getElem?_eq_getElem (by omega : k < l.length)]

theorem cfold_all (r : BitVec 32) (l : List UInt8) : cfold r l = fb r (bitAt l) (8 * l.length) := by
  have := cfold_bits r l l.length (Nat.le_refl _)
  rwa [List.take_length] at this

/-- Texts of one length that differ within 32 bits that stand one behind the other and have the same register are the same. -/
theorem cfold_window (r : BitVec 32) (a t : List UInt8) (hl : a.length = t.length) (m : Nat) (hd : ∀ p, p < m ∨ m + 32 ≤ p → bitAt a p = bitAt t p) (h : cfold r a = cfold r t) : a = t := by
  rw [cfold_all, cfold_all, ← hl] at h
  have key : ∀ i, i < 8 * a.length → bitAt a i = bitAt t i := by
    by_cases h1 : m + 32 ≤ 8 * a.length
    · obtain ⟨n, hn⟩ := Nat.le.dest h1
      rw [← hn] at h ⊢
      exact fb_window_inj r _ _ m 32 n (by decide) (fun i _ h => hd i h) h
    · by_cases h2 : m ≤ 8 * a.length
      · obtain ⟨w, hw⟩ := Nat.le.dest h2
        have e : 8 * a.length = m + w + 0 := by omega
        rw [e] at h ⊢
        exact fb_window_inj r _ _ m w 0 (by omega) (fun i hi h => hd i (by omega)) h
      · exact fun i hi => hd i (.inl (by omega))
  refine List.ext_getElem hl fun k h1 h2 => ?_
  apply UInt8.toNat_inj.1
  apply Nat.eq_of_testBit_eq
  intro i
  by_cases hi : i < 8
  · have := key (8 * k + i) (by omega)
    unfold bitAt at this
    rw [show (8 * k + i) / 8 = k by omega, show (8 * k + i) % 8 = i by omega] at this
    simpa [List.getD, List.getElem?_eq_getElem h1, List.getElem?_eq_getElem h2] using this
  · have z : ∀ x : UInt8, x.toNat.testBit i = false := fun x => Nat.testBit_lt_two_pow (Nat.lt_of_lt_of_le x.toNat_lt (Nat.pow_le_pow_right (by decide) (by omega : 8 ≤ i)))
    rw [z, z]
end Go.Proofs.Ytddeeejfmodgfaa
