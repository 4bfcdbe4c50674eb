/- Wal: contracts of slices.Equal and slices.Clip at strings. -/
import Derived.Test.YtddeeejfmodgfaaStrs
import Derived.Test.YtddeeejfmodgfaaDev3
import Derived.Test.YtddeeejfmodgfaaCrc6
namespace Go.Proofs.Ytddeeejfmodgfaa
open Go.RowKit

/-- Any two rows: what a slice of strings is. -/
theorem strRow_slice {w : World} {v : Value} {l : List ByteArray} (h : StrRow w v l) : ∃ (p : Option Addr) (cap : Nat), v = .slice p l.length cap ∧ l.length ≤ cap ∧ cap ≤ maxLen ∧ (p = none → cap = 0) ∧ ∀ i, i < l.length → ∃ a, p = some a ∧ w.cell? (a.add i) = some (.string (l.getD i ByteArray.empty)) := by
  rcases h with ⟨rfl, rfl⟩ | ⟨a, len, cap, rfl, h1, h2, rfl, hc⟩
  · exact ⟨none, 0, rfl, Nat.le_refl _, Nat.zero_le _, fun _ => rfl, fun i hi => absurd hi (Nat.not_lt_zero i)⟩
  · exact ⟨some a, cap, rfl, h1, h2, fun h => (by cases h), fun i hi => ⟨a, rfl, hc i hi⟩⟩

theorem first_diff : ∀ (l m : List ByteArray), l.length = m.length → l ≠ m → ∃ i, i < l.length ∧ l.getD i ByteArray.empty ≠ m.getD i ByteArray.empty ∧ ∀ j, j < i → l.getD j ByteArray.empty = m.getD j ByteArray.empty
  | [], [], _, h => absurd rfl h
  | [], _ :: _, h, _ => by simp at h
  | _ :: _, [], h, _ => by simp at h
  | x :: l, y :: m, h, hne => by
    by_cases hxy : x = y
    · subst hxy
      obtain ⟨i, h1, h2, h3⟩ := first_diff l m (by simpa using h) (fun e => hne (by rw [e]))
      refine ⟨i + 1, by simpa using h1, by simpa using h2, fun j hj => ?_⟩
      cases j with
      | zero => rfl
      | succ j => simpa using h3 j (by omega)
    · exact ⟨0, by simp, by simpa using hxy, fun j hj => by omega⟩

set_option maxHeartbeats 1000000 in
theorem slEq_yes (u v : Value) (l : List ByteArray) (w : World) (hu : StrRow w u l) (hv : StrRow w v l) :
    Calls Try.prog 65 #[u, v] w fun e w' => e = .returned (.bool true) ∧ Below w.heap.size w w' := by
  obtain ⟨p, cap, rfl, h1, h2, _, hc⟩ := strRow_slice hu
  obtain ⟨q, cap2, rfl, g1, g2, _, hd⟩ := strRow_slice hv
  have HC := Lib.hid hc
  have HD := Lib.hid hd
  unfold maxLen at h2 g2
  generalize l.length = len at *
  clear hc hd hu hv
  go_enter Try.func65, Try.ntmps65
  go_wp2
  go_loopw [13] (fun c wr => ∃ k : Nat, k ≤ len ∧ c = .int .i64 k ∧ Hid (∃ nd, wr = w.drewN nd)) (fun c _ => len - (intOf c).toNat)
  case atStart => exact ⟨0, Nat.zero_le _, rfl, Lib.hid ⟨0, rfl⟩⟩
  case round =>
    obtain ⟨k, hk, rfl, HB⟩ := hrel
    obtain ⟨nd, hnd⟩ := HB.out
    have HN := Lib.hid hnd
    clear hnd HB
    by_cases hlt : k < len
    · obtain ⟨a, rfl, c1⟩ := HC.out k hlt
      obtain ⟨b, rfl, c2⟩ := HD.out k hlt
      have c1 : wr.cell? (a.add k) = some (.string (l.getD k ByteArray.empty)) := by rw [HN.out]; exact c1
      have c2 : wr.cell? (b.add k) = some (.string (l.getD k ByteArray.empty)) := by rw [HN.out]; exact c2
      generalize l.getD k ByteArray.empty = x at *
      go_wp2
      (refine region_tail 8 mix ?hB ?_; case hB => kernel_rfl); (simp only [List.take_succ_cons, List.take_zero, List.drop_succ_cons, List.drop_zero]; (iterate 8 (with_reducible refine wpStill_step ?_; intro K hK; go_simp; with_reducible refine hK _ ?_; clear hK K)); with_reducible refine wpStill_nil ?_)
      go_wp2
      go_roundw
      case rel => exact ⟨k + 1, by omega, by go_num, Lib.hid ⟨nd + 1, by rw [HN.out]; rfl⟩⟩
      case measure => simp [intOf]; omega
    · obtain rfl : k = len := by omega
      go_wp2
      go_ret
      exact ⟨rfl, by rw [HN.out]; exact below_drewN (Below.refl _ _) _⟩

set_option maxHeartbeats 1000000 in
theorem slEq_no (u v : Value) (l m : List ByteArray) (w : World) (hu : StrRow w u l) (hv : StrRow w v m) (hne : l ≠ m) :
    Calls Try.prog 65 #[u, v] w fun e w' => e = .returned (.bool false) ∧ Below w.heap.size w w' := by
  obtain ⟨p, cap, rfl, h1, h2, _, hc⟩ := strRow_slice hu
  obtain ⟨q, cap2, rfl, g1, g2, _, hd⟩ := strRow_slice hv
  unfold maxLen at h2 g2
  clear hu hv
  by_cases hlen : l.length = m.length
  · obtain ⟨i, i1, i2, i3⟩ := first_diff l m hlen hne
    have HC := Lib.hid hc
    have HD := Lib.hid hd
    have HI := Lib.hid i3
    have HF := Lib.hid (seq_false i2)
    rw [← hlen] at HD
    rw [← hlen] at g1
    rw [← hlen]
    generalize l.length = len at *
    clear hc hd hne hlen i2 i3
    go_enter Try.func65, Try.ntmps65
    go_wp2
    go_loopw [13] (fun c wr => ∃ k : Nat, k ≤ i ∧ c = .int .i64 k ∧ Hid (∃ nd, wr = w.drewN nd)) (fun c _ => len - (intOf c).toNat)
    case atStart => exact ⟨0, Nat.zero_le _, rfl, Lib.hid ⟨0, rfl⟩⟩
    case round =>
      obtain ⟨k, hk, rfl, HB⟩ := hrel
      obtain ⟨nd, hnd⟩ := HB.out
      have HN := Lib.hid hnd
      clear hnd HB
      obtain ⟨a, rfl, c1⟩ := HC.out k (by omega)
      obtain ⟨b, rfl, c2⟩ := HD.out k (by omega)
      have c1 : wr.cell? (a.add k) = some (.string (l.getD k ByteArray.empty)) := by rw [HN.out]; exact c1
      have c2 : wr.cell? (b.add k) = some (.string (m.getD k ByteArray.empty)) := by rw [HN.out]; exact c2
      have hl : k < len := by omega
      by_cases hlt : k < i
      · rw [← HI.out k hlt] at c2
        generalize l.getD k ByteArray.empty = x at *
        go_wp2
        (refine region_tail 8 mix ?hB ?_; case hB => kernel_rfl); (simp only [List.take_succ_cons, List.take_zero, List.drop_succ_cons, List.drop_zero]; (iterate 8 (with_reducible refine wpStill_step ?_; intro K hK; go_simp; with_reducible refine hK _ ?_; clear hK K)); with_reducible refine wpStill_nil ?_)
        go_wp2
        go_roundw
        case rel => exact ⟨k + 1, by omega, by go_num, Lib.hid ⟨nd + 1, by rw [HN.out]; rfl⟩⟩
        case measure => simp [intOf]; omega
      · obtain rfl : k = i := by omega
        have hf := HF.out
        generalize l.getD k ByteArray.empty = x at *
        generalize m.getD k ByteArray.empty = y at *
        go_wp2
        (refine region_tail 8 mix ?hB ?_; case hB => kernel_rfl); (simp only [List.take_succ_cons, List.take_zero, List.drop_succ_cons, List.drop_zero]; (iterate 8 (with_reducible refine wpStill_step ?_; intro K hK; go_simp; with_reducible refine hK _ ?_; clear hK K)); with_reducible refine wpStill_nil ?_)
        go_wp2
        go_ret
        exact ⟨rfl, by rw [HN.out]; exact (below_drewN (Below.refl _ _) _).drew⟩
  · clear hc hd hne
    generalize l.length = len at *
    generalize m.length = len2 at *
    have hne : ((len : Int) != (len2 : Int)) = true := by simp; omega
    clear hlen
    go_enter Try.func65, Try.ntmps65
    go_wp2
    go_ret
    exact ⟨rfl, Below.refl _ _⟩

/-- What Clip makes of a slice: no room behind it. -/
theorem clip_any (p : Option Addr) (len cap : Nat) (w : World) (h1 : len ≤ cap) (h2 : cap ≤ 9223372036854775807) (hp : p = none → cap = 0) :
    Calls Try.prog 62 #[.slice p len cap] w fun e w' => e = .returned (.slice p len len) ∧ w = w' := by
  cases p with
  | none =>
    obtain rfl := hp rfl
    obtain rfl : len = 0 := by omega
    go_enter Try.func62, Try.ntmps62
    go_wp2
    go_ret
    exact ⟨rfl, rfl⟩
  | some a =>
    clear hp
    go_enter Try.func62, Try.ntmps62
    go_wp2
    go_ret
    exact ⟨rfl, rfl⟩
end Go.Proofs.Ytddeeejfmodgfaa
