/- Crc: plain laws of the register. -/
import Derived.Test.YtddeeejfmodgfaaRows
namespace Go.Proofs.Ytddeeejfmodgfaa

def cpoly : BitVec 32 := 0xedb88320#32

/-- One bit's step of the register. -/
def cstep (r : BitVec 32) : BitVec 32 := (r >>> 1) ^^^ (if r.getLsbD 0 then cpoly else 0#32)

theorem cstep_xor (a b : BitVec 32) : cstep (a ^^^ b) = cstep a ^^^ cstep b := by
  unfold cstep
  rw [BitVec.getLsbD_xor]
  have e : (a ^^^ b) >>> 1 = (a >>> 1) ^^^ (b >>> 1) := by
    apply BitVec.eq_of_getLsbD_eq
    intro i hi
    simp
  rw [e]
  cases a.getLsbD 0 <;> cases b.getLsbD 0 <;> simp
  · rw [BitVec.xor_assoc]
  · rw [BitVec.xor_assoc, BitVec.xor_assoc, BitVec.xor_comm (b >>> 1)]
  · rw [BitVec.xor_assoc (a >>> 1), ← BitVec.xor_assoc cpoly, BitVec.xor_comm cpoly, BitVec.xor_assoc (b >>> 1), BitVec.xor_self, BitVec.xor_zero]

theorem cstep_zero : cstep 0#32 = 0#32 := by decide

/-- Only the register 0 is stepped to 0: the polynomial's top bit is set. -/
theorem cstep_eq_zero {r : BitVec 32} (h : cstep r = 0#32) : r = 0#32 := by
  unfold cstep at h
  have h31 := congrArg (fun x : BitVec 32 => x.getLsbD 31) h
  cases h0 : r.getLsbD 0 with
  | true =>
    rw [h0] at h31
    simp [cpoly] at h31
  | false =>
    rw [h0] at h
    simp only [Bool.false_eq_true, if_false, BitVec.xor_zero] at h
    apply BitVec.eq_of_getLsbD_eq
    intro i hi
    cases i with
    | zero => simpa using h0
    | succ i =>
      have := congrArg (fun x : BitVec 32 => x.getLsbD i) h
      simp only [BitVec.getLsbD_ushiftRight] at this
      rw [Nat.add_comm] at this
      simpa using this

def csteps : Nat → BitVec 32 → BitVec 32
  | 0, r => r
  | n + 1, r => csteps n (cstep r)

theorem csteps_xor : ∀ (n : Nat) (a b : BitVec 32), csteps n (a ^^^ b) = csteps n a ^^^ csteps n b
  | 0, _, _ => rfl
  | n + 1, a, b => by simp only [csteps, cstep_xor, csteps_xor n]

theorem csteps_eq_zero : ∀ (n : Nat) {r : BitVec 32}, csteps n r = 0#32 → r = 0#32
  | 0, _, h => h
  | n + 1, _, h => cstep_eq_zero (csteps_eq_zero n h)

theorem csteps_high : ∀ (n : Nat) (r : BitVec 32), (∀ i, i < n → r.getLsbD i = false) → csteps n r = r >>> n
  | 0, r, _ => by simp [csteps]
  | n + 1, r, h => by
    have h0 : cstep r = r >>> 1 := by unfold cstep; rw [h 0 (by omega)]; simp
    simp only [csteps, h0]
    rw [csteps_high n (r >>> 1) (fun i hi => by rw [BitVec.getLsbD_ushiftRight, Nat.add_comm]; exact h (i + 1) (by omega))]
    apply BitVec.eq_of_getLsbD_eq
    intro i _
    simp only [BitVec.getLsbD_ushiftRight]
    congr 1
    omega

theorem split8 (r : BitVec 32) : r = ((r >>> 8) <<< 8) ^^^ (r &&& 0xff#32) := by
  apply BitVec.eq_of_getLsbD_eq
  intro i hi
  simp only [BitVec.getLsbD_xor, BitVec.getLsbD_shiftLeft, BitVec.getLsbD_ushiftRight, BitVec.getLsbD_and]
  by_cases h : i < 8
  · have : (255#32).getLsbD i = true := by
      have : i = 0 ∨ i = 1 ∨ i = 2 ∨ i = 3 ∨ i = 4 ∨ i = 5 ∨ i = 6 ∨ i = 7 := by omega
      rcases this with rfl | rfl | rfl | rfl | rfl | rfl | rfl | rfl <;> decide
    simp [h, this]
  · have : (255#32).getLsbD i = false := by
      rw [BitVec.getLsbD_ofNat]
      have : Nat.testBit 255 i = false := Nat.testBit_lt_two_pow (Nat.lt_of_lt_of_le (by decide : 255 < 2 ^ 8) (Nat.pow_le_pow_right (by decide) (by omega)))
      simp [this]
    rw [this]
    simp [h, hi]
    congr 1
    omega

theorem csteps_byte (r : BitVec 32) : csteps 8 r = (r >>> 8) ^^^ csteps 8 (r &&& 0xff#32) := by
  conv => lhs; rw [split8 r]
  rw [csteps_xor, csteps_high 8 ((r >>> 8) <<< 8) (fun i hi => by simp [BitVec.getLsbD_shiftLeft, hi])]
  congr 1
  apply BitVec.eq_of_getLsbD_eq
  intro i hi
  simp only [BitVec.getLsbD_ushiftRight, BitVec.getLsbD_shiftLeft]
  by_cases h : 8 + i < 32
  · simp [h]
  · have : r.getLsbD (8 + i) = false := BitVec.getLsbD_of_ge _ _ (by omega)
    simp [h, this]
end Go.Proofs.Ytddeeejfmodgfaa
