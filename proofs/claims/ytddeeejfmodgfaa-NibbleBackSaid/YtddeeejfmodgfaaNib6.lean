/- Nibble: more contracts of the reference; of Key. -/
import Derived.Test.YtddeeejfmodgfaaNib5
import Derived.Test.YtddeeejfmodgfaaNibShared
namespace Go.Proofs.Ytddeeejfmodgfaa
open Go.RowKit

set_option maxHeartbeats 2000000 in
theorem rshare_any (a b : ByteArray) (w : World) (ha : a.size ≤ 9223372036854775807) (hb : b.size ≤ 9223372036854775807) :
    Calls Try.prog 28 #[.string a, .string b] w fun e w' => e = .returned (.int .i64 (shareB a b)) ∧ Below w.heap.size w w' := by
  have H1 := shareB_le a b
  have HS := Lib.hid (shareB_stop a b)
  generalize hn : shareB a b = n at *
  have HA : Hid (∀ k, k < n → (h1 : k < a.size) → (h2 : k < b.size) → ((a[k].toNat : Int) == (b[k].toNat : Int)) = true) := by subst hn; exact fun k h h1 h2 => shareB_alike a b h h1 h2
  clear hn
  go_enter Try.func28, Try.ntmps28
  go_wp2
  go_loopw [5] (fun i wr => ∃ k : Nat, k ≤ n ∧ i = .int .i64 k ∧ Below w.heap.size w wr) (fun i _ => n - (intOf i).toNat)
  case atStart => exact ⟨0, Nat.zero_le _, rfl, Below.refl _ _⟩
  case round =>
    obtain ⟨k, hk, rfl, hbl⟩ := hrel
    have HB := Lib.hid hbl
    clear hbl
    by_cases hlt : k < n
    · have l1 : k < a.size := by omega
      have l2 : k < b.size := by omega
      have hq := HA.out k hlt l1 l2
      have hq2 : ((a[k].toNat : Int) != (b[k].toNat : Int)) = false := by rw [bne, hq]; rfl
      clear hq
      have hd : decide (b.size ≤ k) = false := by simp; omega
      go_wp2
      (refine region_tail 12 mix ?hB ?_; case hB => kernel_rfl); (simp only [List.take_succ_cons, List.take_zero, List.drop_succ_cons, List.drop_zero]; (iterate 12 (with_reducible refine wpStill_step ?_; intro K hK; go_simp; with_reducible refine hK _ ?_; clear hK K)); with_reducible refine wpStill_nil ?_)
      go_wp2
      go_roundw
      case rel => exact ⟨k + 1, by omega, by go_num, HB.out.drew⟩
      case measure => simp [intOf]; omega
    · obtain rfl : k = n := by omega
      by_cases l1 : k < a.size
      · by_cases l2 : k < b.size
        · have hq := HS.out l1 l2
          have hq2 : ((a[k].toNat : Int) != (b[k].toNat : Int)) = true := by rw [bne, hq]; rfl
          clear hq
          have hd : decide (b.size ≤ k) = false := by simp; omega
          go_wp2
          (refine region_tail 12 mix ?hB ?_; case hB => kernel_rfl); (simp only [List.take_succ_cons, List.take_zero, List.drop_succ_cons, List.drop_zero]; (iterate 12 (with_reducible refine wpStill_step ?_; intro K hK; go_simp; with_reducible refine hK _ ?_; clear hK K)); with_reducible refine wpStill_nil ?_)
          go_wp2
          go_ret
          exact ⟨rfl, HB.out.drew⟩
        · have hd : decide (b.size ≤ k) = true := by simp; omega
          clear l2
          go_wp2
          (refine region_tail 12 mix ?hB ?_; case hB => kernel_rfl); (simp only [List.take_succ_cons, List.take_zero, List.drop_succ_cons, List.drop_zero]; (iterate 12 (with_reducible refine wpStill_step ?_; intro K hK; go_simp; with_reducible refine hK _ ?_; clear hK K)); with_reducible refine wpStill_nil ?_)
          go_wp2
          go_ret
          exact ⟨rfl, HB.out.drew⟩
      · obtain rfl : k = a.size := by omega
        go_wp2
        go_ret
        exact ⟨rfl, HB.out⟩

set_option maxHeartbeats 2000000 in
theorem key_yes (s : ByteArray) (w : World) (hs : s.size ≤ 1000000) (h : rightB s = true) (hp : s.size % 2 = 0) :
    Calls Try.prog 24 #[.string s] w fun e w' => e = .returned (.tuple #[.string (joinB s), .int .i64 0]) ∧ Below w.heap.size w w' := by
  have HR := Lib.hid h
  have e1 : ((s.size : Int) % 2) = 0 := by omega
  clear h hp
  go_enter Try.func24, Try.ntmps24
  go_wp2_with (first
    | (go_at_call 57; refine (right_yes _ _ (by omega) HR.out).mono ?_; rintro e w1 ⟨rfl, rfl⟩)
    | (go_at_call 58; refine (join_any _ _ (by omega) (by omega)).mono ?_; rintro e w1 ⟨rfl, hb1⟩))
  go_ret2
  exact ⟨rfl, hb1⟩

set_option maxHeartbeats 2000000 in
theorem key_no (s : ByteArray) (w : World) (hs : s.size ≤ 1000000) (h : rightB s = false ∨ (rightB s = true ∧ s.size % 2 = 1)) :
    Calls Try.prog 24 #[.string s] w fun e w' => e = .returned (.tuple #[.string ⟨#[]⟩, .int .i64 1]) ∧ Below w.heap.size w w' := by
  rcases h with h | ⟨h, hp⟩
  · have HR := Lib.hid h
    clear h
    go_enter Try.func24, Try.ntmps24
    go_wp2_with (first
      | (go_at_call 57; refine (right_no _ _ (by omega) HR.out).mono ?_; rintro e w1 ⟨rfl, rfl⟩))
    go_ret2
    exact ⟨rfl, Below.refl _ _⟩
  · have HR := Lib.hid h
    have e1 : ((s.size : Int) % 2) = 1 := by omega
    clear h hp
    go_enter Try.func24, Try.ntmps24
    go_wp2_with (first
      | (go_at_call 57; refine (right_yes _ _ (by omega) HR.out).mono ?_; rintro e w1 ⟨rfl, rfl⟩))
    go_ret2
    exact ⟨rfl, Below.refl _ _⟩

set_option maxHeartbeats 2000000 in
theorem rkey_yes (s : ByteArray) (w : World) (hs : s.size ≤ 1000000) (h : rightB s = true) (hp : s.size % 2 = 0) :
    Calls Try.prog 25 #[.string s] w fun e w' => e = .returned (.tuple #[.string (joinB s), .int .i64 0]) ∧ Below w.heap.size w w' := by
  have HR := Lib.hid h
  have e1 : ((s.size : Int) % 2) = 0 := by omega
  clear h hp
  go_enter Try.func25, Try.ntmps25
  go_wp2_with (first
    | (go_at_call 35; refine (rpart_yes _ _ (by omega) HR.out).mono ?_; rintro e w1 ⟨rfl, rfl⟩)
    | (go_at_call 59; refine (rbytes_any _ _ hs).mono ?_; rintro e w1 ⟨rfl, hb1⟩))
  go_ret2
  exact ⟨rfl, hb1⟩

set_option maxHeartbeats 2000000 in
theorem rkey_no (s : ByteArray) (w : World) (hs : s.size ≤ 1000000) (h : rightB s = false ∨ (rightB s = true ∧ s.size % 2 = 1)) :
    Calls Try.prog 25 #[.string s] w fun e w' => e = .returned (.tuple #[.string ⟨#[]⟩, .int .i64 1]) ∧ Below w.heap.size w w' := by
  rcases h with h | ⟨h, hp⟩
  · have HR := Lib.hid h
    clear h
    go_enter Try.func25, Try.ntmps25
    go_wp2_with (first
      | (go_at_call 35; refine (rpart_no _ _ (by omega) HR.out).mono ?_; rintro e w1 ⟨rfl, rfl⟩))
    go_ret2
    exact ⟨rfl, Below.refl _ _⟩
  · have HR := Lib.hid h
    have e1 : ((s.size : Int) % 2) = 1 := by omega
    clear h hp
    go_enter Try.func25, Try.ntmps25
    go_wp2_with (first
      | (go_at_call 35; refine (rpart_yes _ _ (by omega) HR.out).mono ?_; rintro e w1 ⟨rfl, rfl⟩))
    go_ret2
    exact ⟨rfl, Below.refl _ _⟩
end Go.Proofs.Ytddeeejfmodgfaa
