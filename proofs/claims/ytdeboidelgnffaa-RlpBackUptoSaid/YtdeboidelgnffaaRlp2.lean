/- Rlp: contracts of the program: head. -/
import Derived.Test.YtdeboidelgnffaaRlp1
namespace Go.Proofs.Ytdeboidelgnffaa
open Go.RowKit

theorem dig_len : ∀ (k n : Nat), n < 256 ^ k → (dig n).length ≤ k
  | 0, n, h => by rw [show n = 0 by simpa using h, dig_zero]; exact Nat.le_refl _
  | k + 1, n, h => by
    rcases Nat.eq_zero_or_pos n with rfl | h0
    · rw [dig_zero]; simp
    · rw [dig_pos h0, List.length_append, List.length_singleton]
      have := dig_len k (n / 256) (by rw [Nat.pow_succ] at h; omega)
      omega

set_option maxHeartbeats 1000000 in
theorem head_any (fr n : Nat) (w : World) (hf : fr = 128 ∨ fr = 192) (hn : n < 9223372036854775808) :
    Calls Try.prog 35 #[.int .u8 fr, .int .i64 n] w fun e w' => e = .returned (.string (mkS (headL fr n))) ∧ Below w.heap.size w w' := by
  have hf2 : fr ≤ 192 := by omega
  by_cases h : n ≤ 55
  · obtain ⟨c, hc, hx⟩ : ∃ c : UInt8, UInt8.ofNat (fr + n) = c ∧ (fr : Int) + n = (c.toNat : Int) := ⟨_, rfl, by simp; omega⟩
    have hcv := (OwnB.one (w := w) (Nat.le_refl _) c hx).conv
    have B1 := Lib.hid ((Below.refl w.heap.size w).alloc (Nat.le_refl _) (.cells #[.int .u8 ((fr : Int) + n)] 5))
    rw [headL_short h, hc]
    have s1 : ((n : Int) % 256) = n := by omega
    have s2 : IntKind.u8.wrap ((fr : Int) + n) = (fr : Int) + n := by simp [IntKind.wrap, IntKind.bits, IntKind.signed]; omega
    clear hf hc hx
    go_enter Try.func35, Try.ntmps35
    go_wp2
    go_ret
    exact ⟨rfl, B1.out⟩
  · have hl := dig_len 8 n (by omega)
    have KP := Lib.hid (fun w => plain_any n w (by omega))
    rw [headL, if_neg h]
    have hl0 : 1 ≤ (dig n).length := by rw [dig_pos (by omega), List.length_append]; simp
    have hz : (mkS (dig n)).size = (dig n).length := mk_size _
    obtain ⟨c, hc, hx⟩ : ∃ c : UInt8, UInt8.ofNat (fr + 55 + (dig n).length) = c ∧ (fr : Int) + 55 + (dig n).length = (c.toNat : Int) := ⟨_, rfl, by simp; omega⟩
    rw [hc]
    have E : Hid ((⟨[c].toArray⟩ : ByteArray) ++ mkS (dig n) = mkS (c :: dig n)) := Lib.hid (mk_append [c] (dig n))
    generalize mkS (c :: dig n) = R at *
    generalize (dig n).length = m at *
    generalize mkS (dig n) = D at *
    have s1 : ((m : Int) % 256) = m := by omega
    have HX := Lib.hid hx
    clear hf hc hx
    go_enter Try.func35, Try.ntmps35
    go_wp2_with fail
    refine (KP.out _).mono ?_
    rintro e w1 ⟨rfl, hb⟩
    have hcv := (OwnB.one (w := w1) (Nat.le_refl _) c HX.out).conv
    have B1 := Lib.hid (hb.alloc hb.size (.cells #[.int .u8 ((fr : Int) + 55 + m)] 5))
    clear hb
    go_wp2
    go_ret
    exact ⟨by rw [← E.out]; rfl, B1.out⟩
end Go.Proofs.Ytdeboidelgnffaa
