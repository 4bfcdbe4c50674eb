/- Vote: how two texts stand, whether one is among others, and what is made of it. -/
import Derived.Test.YthipnbiilobjeaaVo1
import Derived.Test.YthipnbiilobjeaaLater
import Derived.Lib.Bytealg
namespace Go.Proofs.Ythipnbiilobjeaa
open Go.RowKit

def cmpS (a b : ByteArray) : Int := Lib.compareBytes a.data.toList b.data.toList
def ordB (a b : Bal) : Int := if cmpS a.2.1 b.2.1 ≠ 0 then cmpS a.2.1 b.2.1 else cmpS a.1 b.1
def hasL (l : List ByteArray) (a : ByteArray) : Bool := l.any fun x => decide (x = a)
theorem hasL_true {l : List ByteArray} {a : ByteArray} (h : a ∈ l) : hasL l a = true := by simp [hasL, h]
theorem hasL_false {l : List ByteArray} {a : ByteArray} (h : a ∉ l) : hasL l a = false := by
  simp only [hasL, List.any_eq_false, decide_eq_true_eq]
  rintro x hx rfl
  exact h hx
theorem hasL_iff (l : List ByteArray) (a : ByteArray) : hasL l a = true ↔ a ∈ l := ⟨fun h => by simpa [hasL] using h, hasL_true⟩

theorem compareBytes_bd : ∀ a b : List UInt8, -1 ≤ Lib.compareBytes a b ∧ Lib.compareBytes a b ≤ 1
  | [], [] => by simp [Lib.compareBytes]
  | [], _ :: _ => by simp [Lib.compareBytes]
  | _ :: _, [] => by simp [Lib.compareBytes]
  | x :: xs, y :: ys => by
    have := compareBytes_bd xs ys
    unfold Lib.compareBytes
    split
    · omega
    · split <;> omega
theorem cmpS_bd (a b : ByteArray) : -1 ≤ cmpS a b ∧ cmpS a b ≤ 1 := compareBytes_bd _ _

set_option maxRecDepth 100000 in
set_option maxHeartbeats 1000000 in
theorem compare0_any (a b : ByteArray) (w : World) : Calls Try.prog 174 #[.string a, .string b] w fun e w' => e = .returned (.int .i64 (cmpS a b)) ∧ w = w' := by
  go_enter Try.func174, Try.ntmps174
  go_wp2
  rw [run_callFunc_extern Try.func185 (by kernel_rfl) (by kernel_rfl) (by kernel_rfl) (e := Extern.BytealgCompare.compare) (by kernel_rfl), Lib.run_compareString]
  simp only [Result.andThen]
  rw [Oper.upon_value]
  go_wp2
  go_ret
  exact ⟨rfl, rfl⟩

set_option maxRecDepth 100000 in
set_option maxHeartbeats 1000000 in
theorem compare_any (a b : ByteArray) (w : World) : Calls Try.prog 146 #[.string a, .string b] w fun e w' => e = .returned (.int .i64 (cmpS a b)) ∧ w = w' := by
  go_enter Try.func146, Try.ntmps146
  go_wp2_with (go_at_call 174; refine (compare0_any _ _ _).mono ?_; rintro e w' ⟨rfl, rfl⟩)
  go_ret
  exact ⟨rfl, rfl⟩

set_option maxRecDepth 100000 in
set_option maxHeartbeats 2000000 in
theorem order_any (a b : Bal) (w : World) : Calls Try.prog 97 #[balV a, balV b] w fun e w' => e = .returned (.int .i64 (ordB a b)) ∧ Below w.heap.size w w' := by
  obtain ⟨a1, a2, a3⟩ := a
  obtain ⟨b1, b2, b3⟩ := b
  go_enter Try.func97, Try.ntmps97
  go_wp2_with (go_at_call 146; refine (compare_any _ _ _).mono ?_; rintro e w' ⟨rfl, rfl⟩)
  · go_ret
    exact ⟨by simp_all [ordB], (((Below.refl _ w).alloc (Nat.le_refl _) _).alloc (by simp) _)⟩
  · go_ret
    exact ⟨by simp_all [ordB], (((Below.refl _ w).alloc (Nat.le_refl _) _).alloc (by simp) _)⟩

set_option maxRecDepth 100000 in
set_option maxHeartbeats 2000000 in
theorem index_any (v : Value) (l : List ByteArray) (a : ByteArray) (w : World) (h : RowE encS w v l) :
    Calls Try.prog 148 #[v, .string a] w fun e w' => (∃ n : Int, e = .returned (.int .i64 n) ∧ decide (n ≥ 0) = hasL l a) ∧ w = w' := by
  obtain ⟨p, cap, rfl, h1, h2⟩ := h.shape
  have H := Lib.hid h.atS.2.2.2
  have hl : l.length ≤ 9223372036854775807 := by unfold maxLen at h2; omega
  clear h
  go_enter Try.func148, Try.ntmps148
  go_wp2
  go_loop [8] (fun c => ∃ k : Nat, k ≤ l.length ∧ c = .int .i64 k ∧ Hid (a ∉ l.take k)) (fun c => l.length - (intOf c).toNat)
  case atStart => exact ⟨0, Nat.zero_le _, rfl, Lib.hid (by simp)⟩
  case round =>
    obtain ⟨k, hk, rfl, hno⟩ := hrel
    by_cases hlt : k < l.length
    · obtain ⟨ad, rfl, hc⟩ := H.out k l[k] (List.getElem?_eq_getElem hlt)
      by_cases he : a = l[k]
      · have e1 := seq_true he
        have hin := hasL_true (show a ∈ l by rw [he]; exact List.getElem_mem hlt)
        go_wp2_with fail
        go_ret
        refine ⟨⟨_, rfl, ?_⟩, rfl⟩
        rw [← he, hin]
        simp
      · have e1 := seq_false he
        go_wp2_with fail
        refine ⟨⟨k + 1, by omega, by simp, Lib.hid ?_⟩, by simp [intOf]; omega⟩
        rw [List.take_add_one, List.getElem?_eq_getElem hlt]
        simp only [Option.toList_some, List.mem_append, List.mem_singleton, not_or]
        exact ⟨hno.out, he⟩
    · obtain rfl : k = l.length := by omega
      have hin : hasL l a = false := by
        have := hno.out
        rw [List.take_length] at this
        exact hasL_false this
      go_wp2_with fail
      go_ret
      exact ⟨⟨_, rfl, by simp [hin]⟩, rfl⟩

end Go.Proofs.Ythipnbiilobjeaa
