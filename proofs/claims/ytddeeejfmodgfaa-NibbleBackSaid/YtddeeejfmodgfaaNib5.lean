/- Nibble: contracts of the reference; of Key. -/
import Derived.Test.YtddeeejfmodgfaaNib4
namespace Go.Proofs.Ytddeeejfmodgfaa
open Go.RowKit

set_option maxHeartbeats 1000000 in
theorem rpart_yes (s : ByteArray) (w : World) (hs : s.size ≤ 9223372036854775807) (h : rightB s = true) :
    Calls Try.prog 35 #[.string s] w fun e w' => e = .returned (.bool true) ∧ w = w' := by
  have HR := Lib.hid h
  clear h
  go_enter Try.func35, Try.ntmps35
  go_wp2
  go_loop [3] (fun i => ∃ k : Nat, k ≤ s.size ∧ i = .int .i64 k) (fun i => s.size - (intOf i).toNat)
  case atStart => exact ⟨0, Nat.zero_le _, rfl⟩
  case round =>
    obtain ⟨k, hk, rfl⟩ := hrel
    by_cases hlt : k < s.size
    · have hb : ((s[k].toNat : Int)) ≤ 15 := by have := rightB_at HR.out hlt; omega
      go_wp2
      go_round
      case rel => exact ⟨k + 1, by omega, by go_num⟩
      case measure => simp [intOf]; omega
    · go_wp2
      go_ret
      exact ⟨rfl, rfl⟩

set_option maxHeartbeats 1000000 in
theorem rpart_no (s : ByteArray) (w : World) (hs : s.size ≤ 9223372036854775807) (h : rightB s = false) :
    Calls Try.prog 35 #[.string s] w fun e w' => e = .returned (.bool false) ∧ w = w' := by
  obtain ⟨i, hi, hbad, hgood⟩ := rightB_bad h
  have HG := Lib.hid hgood
  clear hgood h
  go_enter Try.func35, Try.ntmps35
  go_wp2
  go_loop [3] (fun c => ∃ k : Nat, k ≤ i ∧ c = .int .i64 k) (fun c => s.size - (intOf c).toNat)
  case atStart => exact ⟨0, Nat.zero_le _, rfl⟩
  case round =>
    obtain ⟨k, hk, rfl⟩ := hrel
    have hlt' : k < s.size := by omega
    by_cases hlt : k < i
    · have hb : ((s[k].toNat : Int)) ≤ 15 := by have := HG.out k hlt; omega
      go_wp2
      go_round
      case rel => exact ⟨k + 1, by omega, by go_num⟩
      case measure => simp [intOf]; omega
    · obtain rfl : k = i := by omega
      have hb : 15 < ((s[k].toNat : Int)) := by omega
      go_wp2
      go_ret
      exact ⟨rfl, rfl⟩

theorem joinL_snoc : ∀ (l : List UInt8) (x y : UInt8), l.length % 2 = 0 → joinL (l ++ [x, y]) = joinL l ++ [x * 16 + y]
  | [], _, _, _ => rfl
  | [_], _, _, h => by simp at h
  | a :: b :: l, x, y, h => by simp only [List.cons_append, joinL, joinL_snoc l x y (by simp only [List.length_cons] at h; omega)]

theorem joinL_last : ∀ (l : List UInt8) (x : UInt8), l.length % 2 = 0 → joinL (l ++ [x]) = joinL l
  | [], _, _ => rfl
  | [_], _, h => by simp at h
  | a :: b :: l, x, h => by simp only [List.cons_append, joinL, joinL_last l x (by simp only [List.length_cons] at h; omega)]

theorem u8_sixteen (x y : UInt8) : IntKind.u8.wrap (IntKind.u8.wrap (16 * (x.toNat : Int)) + (y.toNat : Int)) = ((x * 16 + y).toNat : Int) := by
  simp only [IntKind.wrap_u8, UInt8.toNat_add, UInt8.toNat_mul]
  simp
  omega

set_option maxHeartbeats 2000000 in
theorem rbytes_any (s : ByteArray) (w : World) (hs : s.size ≤ 1000000) :
    Calls Try.prog 59 #[.string s] w fun e w' => e = .returned (.string (joinB s)) ∧ Below w.heap.size w w' := by
  go_enter Try.func59, Try.ntmps59
  go_wp2
  go_loopw [3, 4] (fun v i wr => ∃ k : Nat, 2 * k ≤ s.size ∧ i = .int .i64 (2 * (k : Int)) ∧ OwnB wr w.heap.size v (joinL (s.data.toList.take (2 * k))) ∧ Below w.heap.size w wr ∧ w.heap.size ≤ wr.heap.size) (fun _ i _ => s.size - (intOf i).toNat)
  case atStart => exact ⟨0, Nat.zero_le _, rfl, OwnB.start (Nat.le_refl _) 0, (Below.refl _ _).alloc (Nat.le_refl _) _, by simp⟩
  case round =>
    obtain ⟨k, hk, rfl, hown, hbl, hsz⟩ := hrel
    have hlen : (joinL (s.data.toList.take (2 * k))).length = k := by rw [joinL_length, List.length_take]; simp; omega
    have HO := Lib.hid hown
    have HL := Lib.hid hbl
    have HN := Lib.hid hlen
    have l0 : 0 ≤ 2 * (k : Int) := by omega
    by_cases hlt : 2 * k + 1 < s.size
    · have l1 : 2 * (k : Int) + 1 < (s.size : Int) := by omega
      have l2 : 2 * (k : Int) < (s.size : Int) := by omega
      have e1 : IntKind.i64.wrap (2 * (k : Int) + 1) = 2 * (k : Int) + 1 := IntWalk.i64_in _ (by omega)
      have e3 : (2 * (k : Int)).toNat = 2 * k := by omega
      have e4 : (2 * (k : Int) + 1).toNat = 2 * k + 1 := by omega
      have l4 : 0 ≤ 2 * (k : Int) + 1 := by omega
      clear hown hbl hlen
      go_wp2
      go_region_law (refine step_append_bytes rfl _ _ rfl w.heap.size _ _ rfl (HO.out.drew.alloc _) ⟨wr.heap.size, 0, none⟩ 1 1 [s[2 * k] * 16 + s[2 * k + 1]] rfl rfl (one_cell_new (w := wr.drew) (u8_sixteen s[2 * k] s[2 * k + 1])) (by rw [HN.out]; omega) (by simp; omega) ?_; intro v' w1 hown1 hb1 hz1)
      all_goals
        go_wp2
        go_roundw
        case rel =>
          refine ⟨k + 1, by omega, by go_num, ?_, hb1 _ (HL.out.drew.alloc hsz _), by simp at hz1; omega⟩
          rw [show 2 * (k + 1) = 2 * k + 1 + 1 by omega, take_snoc hlt, take_snoc (by omega), List.append_assoc]
          rw [show [s[2 * k]] ++ [s[2 * k + 1]] = [s[2 * k], s[2 * k + 1]] from rfl, joinL_snoc _ _ _ (by rw [List.length_take]; simp; omega)]
          exact hown1
        case measure => simp [intOf]; omega
    · have hcv := hown.conv
      have l1 : ¬ 2 * (k : Int) + 1 < (s.size : Int) := by omega
      have hfin : joinL (s.data.toList.take (2 * k)) = joinL s.data.toList := by
        by_cases hz : 2 * k = s.size
        · rw [List.take_of_length_le (by simp; omega)]
        · have hz' : 2 * k < s.size := by omega
          have : s.data.toList = s.data.toList.take (2 * k) ++ [s[2 * k]] := by
            rw [← take_snoc hz', List.take_of_length_le (by simp; omega)]
          conv => rhs; rw [this]
          rw [joinL_last _ _ (by rw [List.length_take]; simp; omega)]
      have HF := Lib.hid hfin
      clear hown hbl hfin hlen
      go_wp2
      go_ret
      refine ⟨?_, HL.out⟩
      unfold joinB
      rw [← HF.out]
      rfl
end Go.Proofs.Ytddeeejfmodgfaa
