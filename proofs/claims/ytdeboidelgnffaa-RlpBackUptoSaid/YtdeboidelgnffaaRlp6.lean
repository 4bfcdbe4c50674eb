/- Rlp: contracts of the reference: Digits, head; Number, List. -/
import Derived.Test.YtdeboidelgnffaaRlp5
namespace Go.Proofs.Ytdeboidelgnffaa
open Go.RowKit

set_option maxHeartbeats 1000000 in
theorem digits_any (n : Nat) (w : World) (hn : n < 18446744073709551616) :
    Calls Try.prog 29 #[.int .u64 n] w fun e w' => e = .returned (.string (mkS (dig n))) ∧ Below w.heap.size w w' := by
  go_enter Try.func29, Try.ntmps29
  go_wp2
  go_loopw [0, 3] (fun s0 s3 wr => ∃ (k : Nat) (l : List UInt8), s0 = .int .u64 k ∧ s3 = .string (mkS l) ∧ dig n = dig k ++ l ∧ k * 256 ^ l.length ≤ n ∧ Below w.heap.size w wr) (fun s0 _ _ => (intOf s0).toNat)
  case atStart => exact ⟨n, [], rfl, rfl, by simp, by simp, Below.refl _ _⟩
  case round =>
    obtain ⟨k, l, rfl, rfl, hd, hle, hbl⟩ := hrel
    by_cases hk : 0 < k
    · have h8 : l.length ≤ 7 := by
        rcases Nat.lt_or_ge l.length 8 with h | h
        · omega
        · have h1 := Nat.pow_le_pow_right (n := 256) (by decide) h
          have h2 : 256 ^ l.length ≤ k * 256 ^ l.length := Nat.le_mul_of_pos_left _ hk
          omega
      have hkn : k < 18446744073709551616 := by
        have := Nat.le_mul_of_pos_right k (Nat.pow_pos (n := l.length) (show 0 < 256 by decide))
        omega
      have hz : (mkS l).size = l.length := mk_size _
      obtain ⟨c, hc, hx⟩ : ∃ c : UInt8, UInt8.ofNat k = c ∧ (k : Int) % 256 = (c.toNat : Int) := ⟨_, rfl, by simp⟩
      have D : Hid (dig n = dig (k / 256) ++ (c :: l)) := Lib.hid (by rw [hd, dig_pos hk, List.append_assoc, hc]; rfl)
      have E : Hid ((⟨[c].toArray⟩ : ByteArray) ++ mkS l = mkS (c :: l)) := Lib.hid (mk_append [c] l)
      have hcv := (OwnB.one (w := wr) (Nat.le_refl _) c hx).conv
      have HB := Lib.hid (hbl.alloc hbl.size (.cells #[.int .u8 ((k : Int) % 256)] 5))
      have h64 : Hid (k / 256 * 256 ^ (c :: l).length ≤ n) := Lib.hid (by
        rw [List.length_cons, Nat.pow_succ, Nat.mul_comm (256 ^ l.length), ← Nat.mul_assoc]
        exact Nat.le_trans (Nat.mul_le_mul_right _ (Nat.div_mul_le_self k 256)) hle)
      clear hd hc hx hbl hle
      generalize hF : mkS (c :: l) = F at *
      have HF := Lib.hid hF
      clear hF
      go_wp2
      go_roundw
      case rel => exact ⟨k / 256, c :: l, by go_num, by rw [HF.out]; exact congrArg _ E.out, D.out, h64.out, HB.out⟩
      case measure => simp [intOf]; omega
    · obtain rfl : k = 0 := by omega
      rw [dig_zero, List.nil_append] at hd
      have HD := Lib.hid hd
      have HB := Lib.hid hbl
      clear hd hle hbl hk
      go_wp2
      go_ret
      rw [HD.out]
      exact ⟨rfl, HB.out⟩

set_option maxHeartbeats 1000000 in
theorem rhead_any (fr n : Nat) (w : World) (hf : fr = 128 ∨ fr = 192) (hn : n < 4611686018427387904) :
    Calls Try.prog 38 #[.int .i64 fr, .int .i64 n] w fun e w' => e = .returned (.string (mkS (headL fr n))) ∧ Below w.heap.size w w' := by
  have hf2 : fr ≤ 192 := by omega
  by_cases h : n ≤ 55
  · obtain ⟨c, hc, hx⟩ : ∃ c : UInt8, UInt8.ofNat (fr + n) = c ∧ (fr : Int) + n = (c.toNat : Int) := ⟨_, rfl, by simp; omega⟩
    have hcv := (OwnB.one (w := w) (Nat.le_refl _) c hx).conv
    have B1 := Lib.hid ((Below.refl w.heap.size w).alloc (Nat.le_refl _) (.cells #[.int .u8 ((fr : Int) + n)] 5))
    rw [headL_short h, hc]
    have s2 : ((fr : Int) + n) % 256 = (fr : Int) + n := by omega
    clear hf hc hx
    go_enter Try.func38, Try.ntmps38
    go_wp2
    go_ret
    exact ⟨rfl, B1.out⟩
  · have hl := dig_len 8 n (by omega)
    have KP := Lib.hid (fun w => digits_any n w (by omega))
    rw [headL, if_neg h]
    have hl0 : 1 ≤ (dig n).length := by rw [dig_pos (by omega), List.length_append]; simp
    have hz : (mkS (dig n)).size = (dig n).length := mk_size _
    obtain ⟨c, hc, hx⟩ : ∃ c : UInt8, UInt8.ofNat (fr + 55 + (dig n).length) = c ∧ (fr : Int) + 55 + (dig n).length = (c.toNat : Int) := ⟨_, rfl, by simp; omega⟩
    rw [hc]
    have E : Hid ((⟨[c].toArray⟩ : ByteArray) ++ mkS (dig n) = mkS (c :: dig n)) := Lib.hid (mk_append [c] (dig n))
    generalize mkS (c :: dig n) = R at *
    generalize (dig n).length = m at *
    generalize mkS (dig n) = D at *
    have s1 : ((fr : Int) + 55 + m) % 256 = (fr : Int) + 55 + m := by omega
    have HX := Lib.hid hx
    clear hf hc hx
    go_enter Try.func38, Try.ntmps38
    go_wp2_with fail
    refine (KP.out _).mono ?_
    rintro e w1 ⟨rfl, hb⟩
    have hcv := (OwnB.one (w := w1) (Nat.le_refl _) c HX.out).conv
    have B1 := Lib.hid (hb.alloc hb.size (.cells #[.int .u8 ((fr : Int) + 55 + m)] 5))
    clear hb
    go_wp2
    go_ret
    exact ⟨by rw [← E.out]; rfl, B1.out⟩
end Go.Proofs.Ytdeboidelgnffaa
