/- Crc: contracts of the program: Of, low, number. -/
import Derived.Test.YtddeeejfmodgfaaCrc1
import Derived.Test.YtddeeejfmodgfaaCrcP3
namespace Go.Proofs.Ytddeeejfmodgfaa
open Go.RowKit

set_option maxRecDepth 100000 in
set_option maxHeartbeats 1000000 in
theorem crcOf_any (s : ByteArray) (w : World) (hs : s.size ≤ 9223372036854775807) :
    Calls Try.prog 19 #[.string s] w fun e w' => e = .returned (.int .u32 (crcL (bl s))) ∧ Below w.heap.size w w' := by
  go_enter Try.func19, Try.ntmps19
  go_wp2_with (first
    | (go_at_call 55; refine (table_any _).mono ?_; rintro e w1 ⟨rfl, hb1⟩)
    | (refine wpList_store_row rfl 71 _ _ rfl w1.heap.size tabV rfl rfl 71 Try.zeroCells71 (heap_alloc_new _ _) (by unfold tabV; rw [tabA_size]; kernel_rfl) (by unfold tabV; rw [tabA_size, Try.zeroCells71_size]) (tabA_one _) ?_)
    | (go_at_call 56; refine (sum_any _ _ _ hs (hasTab_heap (setRow_heap _ _ _ _ _ _ (heap_alloc_new _ _)))).mono ?_; rintro e w2 ⟨rfl, nd, rfl⟩))
  go_ret
  refine ⟨rfl, ?_⟩
  have h1 := hb1.size
  exact below_drewN (below_setRow (hb1.alloc h1 _) h1 _) nd

set_option maxHeartbeats 1000000 in
theorem low_any (n many : Nat) (w : World) (hn : n < 4294967296) (hm : many ≤ 4) :
    Calls Try.prog 54 #[.int .u32 n, .int .i64 many] w fun e w' => e = .returned (.string (mkS (lowL n many))) ∧ Below w.heap.size w w' := by
  obtain ⟨i0, hi, hz0, hz1, hz2⟩ := info_parts info_u8
  go_enter Try.func54, Try.ntmps54
  go_wp2_with (at_make; (refine wpList_make_full _ rfl _ _ 76 rfl w.heap.size 5 i0 (.int .u8 0) 1 Try.underlying76 hi hz0 hz1 .i64 .i64 _ _ many rfl rfl rfl rfl (by rw [hz2]; omega) (by unfold maxLen; omega) (Nat.le_refl _) ?_); intro w1 hown hg)
  have hbuf := buf_made (fun i => UInt8.ofNat (n / 256 ^ i)) hown
  have HB := Lib.hid hbuf
  have HG := Lib.hid ((Below.refl w.heap.size w).grown hg (Nat.le_refl _) (fun k hk => by cases hk))
  clear hbuf hown hg
  generalize hf : (fun i => UInt8.ofNat (n / 256 ^ i)) = f at HB
  have HF := Lib.hid hf
  clear hf
  go_loopw [11] (fun i wr => ∃ k : Nat, k ≤ many ∧ i = .int .i64 k ∧ Buf wr w.heap.size w.heap.size (fillL f many k) ∧ Below w.heap.size w wr) (fun i _ => many - (intOf i).toNat)
  case atStart => exact ⟨0, Nat.zero_le _, rfl, HB.out, HG.out⟩
  case round =>
    obtain ⟨k, hk, rfl, hbuf, hbl⟩ := hrel
    by_cases hlt : k < many
    · have c1 := hbuf.cell (i := k) (by rw [fillL_length]; exact hlt)
      have c2 := hbuf.frozen k
      have HB := Lib.hid hbuf
      have HL := Lib.hid hbl
      clear hbuf hbl
      go_wp2
      have hv : (n : Int) / 2 ^ (8 * k) % 256 = ((f k).toNat : Int) := by
        have e2 : (2 : Int) ^ (8 * k) = ((256 ^ k : Nat) : Int) := by rw [show (256 : Nat) = 2 ^ 8 from rfl, ← Nat.pow_mul, Int.natCast_pow]; rfl
        rw [← HF.out, e2, ← Int.natCast_ediv]
        simp only [UInt8.toNat_ofNat']
        omega
      go_roundw
      case rel =>
        refine ⟨k + 1, by omega, by go_num, ?_, HL.out.setCell (Nat.le_refl _) _⟩
        rw [← fillL_set]
        exact HB.out.set k (f k) hv
      case measure => simp [intOf]; omega
    · obtain rfl : k = many := by omega
      have hcv := hbuf.conv k (by rw [fillL_length])
      have HB := Lib.hid hbuf
      have HL := Lib.hid hbl
      clear hbuf hbl
      go_wp2
      go_ret
      refine ⟨?_, HL.out⟩
      rw [fillL_full, ← HF.out]
      rfl

theorem or_byte (n b : Nat) (hb : b < 256) (hn : n * 256 < 4294967296) : Go.bits .or .u32 ((n : Int) * 256) (b : Int) = ((b + 256 * n : Nat) : Int) := by
  have e : ((n : Int) * 256) = ((n * 256 : Nat) : Int) := by omega
  rw [e, u32_or_nat _ _ hn (by omega)]
  have := Nat.shiftLeft_add_eq_or_of_lt (i := 8) (b := b) hb n
  rw [Nat.shiftLeft_eq] at this
  rw [show n * 256 = n * 2 ^ 8 from rfl, ← this]
  omega

set_option maxHeartbeats 1000000 in
theorem number_any (s : ByteArray) (w : World) (hs : s.size ≤ 4) :
    Calls Try.prog 69 #[.string s] w fun e w' => e = .returned (.int .u32 (numL (bl s))) ∧ w = w' := by
  go_enter Try.func69, Try.ntmps69
  go_wp2
  go_loop [3, 4] (fun n i => ∃ k : Nat, k ≤ s.size ∧ i = .int .i64 ((k : Int) - 1) ∧ n = .int .u32 (numL ((bl s).drop k))) (fun _ i => ((intOf i) + 1).toNat)
  case atStart => exact ⟨s.size, Nat.le_refl _, rfl, by rw [List.drop_of_length_le (by rw [bl_length]; exact Nat.le_refl _)]; simp [numL]⟩
  case round =>
    obtain ⟨k, hk, rfl, rfl⟩ := hrel
    by_cases hlt : 0 < k
    · obtain ⟨j, rfl⟩ : ∃ j, k = j + 1 := ⟨k - 1, by omega⟩
      have hj : j < s.size := by omega
      have hd : (bl s).drop j = s[j] :: (bl s).drop (j + 1) := by
        rw [List.drop_eq_getElem_cons (by rw [bl_length]; exact hj)]
        rfl
      have hn := numL_lt ((bl s).drop (j + 1))
      rw [List.length_drop, bl_length] at hn
      have hp : 256 ^ (s.size - (j + 1)) ≤ 256 ^ 3 := Nat.pow_le_pow_right (by decide) (by omega)
      have ho := or_byte (numL ((bl s).drop (j + 1))) s[j].toNat s[j].toNat_lt (by omega)
      have he : s[j].toNat + 256 * numL ((bl s).drop (j + 1)) = numL ((bl s).drop j) := by rw [hd]; rfl
      have HO := Lib.hid (ho.trans (congrArg _ he))
      have hn3 : numL ((bl s).drop (j + 1)) < 16777216 := by omega
      generalize numL ((bl s).drop (j + 1)) = N at *
      clear hd ho he hp hn
      go_wp2
      have hm : ((s[j].toNat : Int) % 4294967296) = (s[j].toNat : Int) := by have := s[j].toNat_lt; omega
      go_round
      case rel => exact ⟨j, by omega, rfl, by rw [hm]; exact congrArg _ HO.out⟩
      case measure => simp [intOf]
    · obtain rfl : k = 0 := by omega
      go_wp2
      go_ret
      exact ⟨rfl, rfl⟩
end Go.Proofs.Ytddeeejfmodgfaa
