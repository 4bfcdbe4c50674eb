/- Crc: contracts of the reference: Of, IsRecord, Frame, Same. -/
import Derived.Test.YtddeeejfmodgfaaCrc4
namespace Go.Proofs.Ytddeeejfmodgfaa
open Go.RowKit

theorem cbyte_fold (r : BitVec 32) (s : ByteArray) {k : Nat} (h : k < s.size) : rbit (cfold r ((bl s).take k)) s[k] 8 = cfold r ((bl s).take (k + 1)) := by
  rw [rbit_eight, stake h, cfold_snoc]

set_option maxHeartbeats 1000000 in
theorem rcrcOf_any (s : ByteArray) (w : World) (hs : s.size ≤ 9223372036854775807) :
    Calls Try.prog 20 #[.string s] w fun e w' => e = .returned (.int .u32 (crcL (bl s))) ∧ w = w' := by
  go_enter Try.func20, Try.ntmps20
  go_wp2
  go_loop [3, 4] (fun r c => ∃ k : Nat, k ≤ s.size ∧ c = .int .i64 k ∧ r = .int .u32 ((cfold creg0 ((bl s).take k)).toNat : Int)) (fun _ c => s.size - (intOf c).toNat)
  case atStart => exact ⟨0, Nat.zero_le _, rfl, rfl⟩
  case round =>
    obtain ⟨k, hk, rfl, rfl⟩ := hrel
    by_cases hlt : k < s.size
    · have h8 := cbyte_fold creg0 s hlt
      have h0 := rbit_zero (cfold creg0 ((bl s).take k)) s[k]
      have HF : Hid (rbit (cfold creg0 ((bl s).take k)) s[k] 8 = cfold creg0 ((bl s).take (k + 1))) := Lib.hid h8
      have HZ := Lib.hid h0
      clear h8 h0
      generalize cfold creg0 ((bl s).take k) = R at *
      have hb := s[k].toNat_lt
      go_wp2
      go_loop [3, 5] (fun r c => ∃ (j : Nat), j ≤ 8 ∧ c = .int .i64 j ∧ r = .int .u32 ((rbit R s[k] j).toNat : Int)) (fun _ c => 8 - (intOf c).toNat)
      case atStart => exact ⟨0, Nat.zero_le _, rfl, by rw [HZ.out]⟩
      case round =>
        obtain ⟨j, hj, rfl, rfl⟩ := hrel
        by_cases hjlt : j < 8
        · have s1 := rbit_step1 R s[k] j
          have s0 := rbit_step0 R s[k] j
          have hbd : 0 ≤ ((rbit R s[k] j).toNat : Int) := by omega
          generalize hR2 : rbit R s[k] (j + 1) = R2 at *
          have HR2 := Lib.hid hR2
          generalize rbit R s[k] j = R1 at *
          clear hR2
          by_cases hc : R1.toNat % 2 = s[k].toNat / 2 ^ j % 2
          · have HS := Lib.hid (s0 hc)
            clear s0 s1
            have hq : ((R1.toNat : Int) % 2 != ((s[k].toNat : Int) / 2 ^ j).tmod 2) = false := by
              rw [Int.tmod_eq_emod_of_nonneg (Int.ediv_nonneg (by omega) (Int.pow_nonneg (by decide))), bne_eq_false_iff_eq]
              have : ((R1.toNat % 2 : Nat) : Int) = ((s[k].toNat / 2 ^ j % 2 : Nat) : Int) := by rw [hc]
              simpa using this
            clear hc
            go_wp2
            go_round
            case rel => exact ⟨j + 1, by omega, by go_num, by rw [HR2.out]; exact congrArg _ HS.out⟩
            case measure => simp [intOf]; omega
          · have HS := Lib.hid (s1 hc)
            clear s0 s1
            have hq : ((R1.toNat : Int) % 2 != ((s[k].toNat : Int) / 2 ^ j).tmod 2) = true := by
              rw [Int.tmod_eq_emod_of_nonneg (Int.ediv_nonneg (by omega) (Int.pow_nonneg (by decide))), bne_iff_ne]
              intro h
              apply hc
              have : ((R1.toNat % 2 : Nat) : Int) = ((s[k].toNat / 2 ^ j % 2 : Nat) : Int) := by simpa using h
              exact Int.ofNat_inj.1 this
            clear hc
            go_wp2
            go_round
            case rel => exact ⟨j + 1, by omega, by go_num, by rw [HR2.out]; exact congrArg _ HS.out⟩
            case measure => simp [intOf]; omega
        · obtain rfl : j = 8 := by omega
          go_wp2
          go_round
          case rel => exact ⟨k + 1, by omega, by go_num, by rw [HF.out]⟩
          case measure => simp [intOf]; omega
    · obtain rfl : k = s.size := by omega
      have hfin : (4294967295 : Int) - ((cfold creg0 ((bl s).take s.size)).toNat : Int) = ((crcL (bl s) : Nat) : Int) := by
        rw [stake_all]
        unfold crcL
        rw [BitVec.toNat_not]
        have := (cfold creg0 (bl s)).isLt
        omega
      have hl := (cfold creg0 ((bl s).take s.size)).isLt
      have hl2 : ((cfold creg0 ((bl s).take s.size)).toNat : Int) ≤ 4294967295 := by omega
      have HF := Lib.hid hfin
      clear hfin hl
      generalize cfold creg0 ((bl s).take s.size) = R at *
      go_wp2
      go_ret
      exact ⟨congrArg (fun x => Ending.returned (.int .u32 x)) HF.out, rfl⟩

set_option maxHeartbeats 1000000 in
theorem isRec_any (s : ByteArray) (w : World) (hs : s.size ≤ 9223372036854775807) :
    Calls Try.prog 22 #[.string s] w fun e w' => e = .returned (.bool (decide (1 ≤ s.size ∧ s.size ≤ 4000))) ∧ w = w' := by
  by_cases h1 : 1 ≤ s.size
  · by_cases h2 : s.size ≤ 4000
    · go_enter Try.func22, Try.ntmps22
      go_wp2
      go_ret
      exact ⟨by simp [h1, h2] <;> omega, rfl⟩
    · go_enter Try.func22, Try.ntmps22
      go_wp2
      go_ret
      exact ⟨by simp [h2] <;> omega, rfl⟩
  · go_enter Try.func22, Try.ntmps22
    go_wp2
    go_ret
    exact ⟨by simp [h1] <;> omega, rfl⟩

set_option maxHeartbeats 1000000 in
theorem rcrcFrame_any (s : ByteArray) (w : World) (h1 : s.size ≤ 4000) :
    Calls Try.prog 23 #[.string s] w fun e w' => e = .returned (.string (mkS (frameL (bl s)))) ∧ Below w.heap.size w w' := by
  have c1 := (OwnB.two (w := w) (Nat.le_refl _) (x := (s.size : Int) % 256) (y := (s.size : Int) / 256) (UInt8.ofNat s.size) (UInt8.ofNat (s.size / 256)) (by simp only [UInt8.toNat_ofNat']; omega) (by simp only [UInt8.toNat_ofNat']; omega)).conv
  rw [show (⟨#[UInt8.ofNat s.size, UInt8.ofNat (s.size / 256)]⟩ : ByteArray) = mkS (lowL s.size 2) from by rw [lowL_two]; rfl] at c1
  obtain ⟨A, hA⟩ : ∃ A, mkS (lowL s.size 2) = A := ⟨_, rfl⟩
  rw [hA] at c1
  have zA : A.size ≤ 2 := by rw [← hA, mk_size, lowL_length]; exact Nat.le_refl _
  obtain ⟨n, hn⟩ : ∃ n, crcL (bl (A ++ s)) = n := ⟨_, rfl⟩
  have hnl : n < 4294967296 := hn ▸ crcL_lt _
  have hz : (A ++ s).size ≤ 4002 := by rw [ByteArray.size_append]; omega
  have K : ∀ w, Calls Try.prog 20 #[.string (A ++ s)] w fun e w' => e = .returned (.int .u32 n) ∧ w = w' := fun w => hn ▸ rcrcOf_any (A ++ s) w (by omega)
  have hsz1 : (w.alloc (.cells #[.int .u8 ((s.size : Int) % 256), .int .u8 ((s.size : Int) / 256)] 5)).heap.size = w.heap.size + 1 := by simp
  have c2 := (OwnB.four (w := w.alloc (.cells #[.int .u8 ((s.size : Int) % 256), .int .u8 ((s.size : Int) / 256)] 5)) (Nat.le_refl _) (x := (n : Int) % 256) (y := (n : Int) / 256 % 256) (z := (n : Int) / 65536 % 256) (u := (n : Int) / 16777216) (UInt8.ofNat n) (UInt8.ofNat (n / 256)) (UInt8.ofNat (n / 65536)) (UInt8.ofNat (n / 16777216)) (by simp only [UInt8.toNat_ofNat']; omega) (by simp only [UInt8.toNat_ofNat']; omega) (by simp only [UInt8.toNat_ofNat']; omega) (by simp only [UInt8.toNat_ofNat']; omega)).conv
  have e4 : (⟨#[UInt8.ofNat n, UInt8.ofNat (n / 256), UInt8.ofNat (n / 65536), UInt8.ofNat (n / 16777216)]⟩ : ByteArray) = mkS (lowL n 4) := by rw [lowL_four]; rfl
  rw [e4, hsz1] at c2
  obtain ⟨B, hB⟩ : ∃ B, mkS (lowL n 4) = B := ⟨_, rfl⟩
  rw [hB] at c2
  have zB : B.size ≤ 4 := by rw [← hB, mk_size, lowL_length]; exact Nat.le_refl _
  have HF : Hid (A ++ s ++ B = mkS (frameL (bl s))) := Lib.hid (bl_inj (by
    subst hB hn hA
    simp only [bl_append, bl_mk]
    unfold frameL
    rw [bl_length]))
  have K := Lib.hid K
  have hnl2 : (n : Int) < 4294967296 := by omega
  clear e4 hA hB hn hsz1
  go_enter Try.func23, Try.ntmps23
  go_wp2_with fail
  refine (K.out _).mono ?_
  rintro e w1 ⟨rfl, rfl⟩
  go_wp2_with fail
  go_ret
  exact ⟨congrArg (fun x => Ending.returned (.string x)) HF.out, ((Below.refl _ _).alloc (Nat.le_refl _) _).alloc (by simp) _⟩

set_option maxHeartbeats 1000000 in
theorem alive05 (w : World) : Calls Try.prog 21 #[] w fun e w' => e = .returned (.bool true) ∧ Below w.heap.size w w' := by
  have hd : crcL (bl ⟨#[49, 50, 51, 52, 53, 54, 55, 56, 57]⟩) = 3421780262 := by decide +kernel
  have K := Lib.hid (fun w => hd ▸ crcOf_any ⟨#[49, 50, 51, 52, 53, 54, 55, 56, 57]⟩ w (by decide))
  clear hd
  go_enter Try.func21, Try.ntmps21
  go_wp2_with fail
  refine (K.out _).mono ?_
  rintro e w1 ⟨rfl, hb1⟩
  go_wp2_with fail
  go_ret
  exact ⟨rfl, hb1⟩
end Go.Proofs.Ytddeeejfmodgfaa
