/- Vote: whether more than half have voted so, and whether a vote is one of a validator. -/
import Derived.Test.YthipnbiilobjeaaVo6
namespace Go.Proofs.Ythipnbiilobjeaa
open Go.RowKit

def wonL (S : List ByteArray) (V : List Bal) (b : Bal) : Bool := decide (2 * cntL V b > S.length)
theorem wonL_int (S : List ByteArray) (V : List Bal) (b : Bal) : decide (2 * (cntL V b : Int) > (S.length : Int)) = wonL S V b := by
  unfold wonL
  exact decide_eq_decide.2 (by omega)
def standsL (S : List ByteArray) (b : Bal) : Bool := hasL S b.1 && (b.2.1.size == 20) && (hasL S b.2.1 == !b.2.2)

theorem belowA (w : World) (o : Obj) : Below w.heap.size w (w.alloc o) := (Below.refl _ w).alloc (Nat.le_refl _) o
theorem belowA2 (w : World) (o o' : Obj) : Below w.heap.size w ((w.alloc o).alloc o') := (belowA w o).alloc (by simp) o'

set_option maxRecDepth 100000 in
set_option maxHeartbeats 4000000 in
theorem won_any (sv v : Value) (S : List ByteArray) (l : List Bal) (b : Bal) (w : World) (hS : RowE encS w sv S) (h : RowE encB w v l) (hl : l.length ≤ 1000000) :
    Calls Try.prog 98 #[.agg #[sv, v], balV b] w fun e w' => e = .returned (.bool (wonL S l b)) ∧ Below w.heap.size w w' := by
  obtain ⟨pS, cS, rfl, s1, s2⟩ := hS.shape
  have HL := Lib.hid h
  clear h hS
  have hc := cntL_le l b
  have hw := Lib.hid (wonL_int S l b)
  obtain ⟨b1, b2, b3⟩ := b
  go_enter Try.func98, Try.ntmps98
  go_wp2
  have hb0 := Lib.hid (belowA2 w (.cells #[.slice pS S.length cS, v] 45) (.cells #[.string b1, .string b2, .bool b3] 92))
  have hr1 : RowAt ((w.alloc (.cells #[.slice pS S.length cS, v] 45)).alloc (.cells #[.string b1, .string b2, .bool b3] 92)) w.heap.size #[.slice pS S.length cS, v] 45 := (RowAt.new _ _ _).alloc _
  have hr2 : RowAt ((w.alloc (.cells #[.slice pS S.length cS, v] 45)).alloc (.cells #[.string b1, .string b2, .bool b3] 92)) (w.heap.size + 1) #[.string b1, .string b2, .bool b3] 92 := RowAt.new' _ _ _ (by simp)
  generalize (w.alloc (.cells #[.slice pS S.length cS, v] 45)).alloc (.cells #[.string b1, .string b2, .bool b3] 92) = W at *
  obtain ⟨x0, x1⟩ := hr1.l2
  obtain ⟨y0, y1, y2⟩ := hr2.l3
  have KC := Lib.hid (fun u : Later W => count_any (.slice pS S.length cS) v l (b1, b2, b3) u.w (RowE.below encB (RowE.below encB HL.out hb0.out (Nat.le_refl _)) u.below (Nat.le_refl _)))
  clear hr1 hr2
  generalize hn : cntL l (b1, b2, b3) = n at *
  (refine region_later mix ?hB ?_; case hB => kernel_rfl); (repeat (first | go_big_quiet_step ((go_at_call 147; with_reducible exact Later.call (KC.out _))) | quiet_step ((go_at_call 147; with_reducible exact Later.call (KC.out _))))); (refine wpQuiet_nil ?_; rintro _ ⟨u, rfl⟩)
  go_wp2_with fail
  go_ret
  refine ⟨?_, hb0.out.trans (u.below.mono hb0.out.size)⟩
  show Ending.returned (.bool (decide ((S.length : Int) < 2 * (n : Int)))) = _
  rw [← hw.out]

theorem size20 (s : ByteArray) : ((s.size : Int) == 20) = (s.size == 20) := by
  rw [Bool.eq_iff_iff]
  simp
  omega

set_option maxRecDepth 100000 in
set_option maxHeartbeats 4000000 in
theorem stands_any (sv v : Value) (S : List ByteArray) (b : Bal) (w : World) (hS : RowE encS w sv S) :
    Calls Try.prog 96 #[.agg #[sv, v], balV b] w fun e w' => e = .returned (.bool (standsL S b)) ∧ Below w.heap.size w w' := by
  obtain ⟨pS, cS, rfl, s1, s2⟩ := hS.shape
  have HS := Lib.hid hS
  clear hS
  obtain ⟨b1, b2, b3⟩ := b
  have hz := size20 b2
  unfold standsL
  simp only
  cases e1 : hasL S b1 <;> cases e3 : (b2.size == 20) <;> rw [e3] at hz
  all_goals
    have E1 := Lib.hid e1
    clear e1 e3
    go_enter Try.func96, Try.ntmps96
    go_wp2
    have hb0 := Lib.hid (belowA2 w (.cells #[.slice pS S.length cS, v] 45) (.cells #[.string b1, .string b2, .bool b3] 92))
    have hr1 : RowAt ((w.alloc (.cells #[.slice pS S.length cS, v] 45)).alloc (.cells #[.string b1, .string b2, .bool b3] 92)) w.heap.size #[.slice pS S.length cS, v] 45 := (RowAt.new _ _ _).alloc _
    have hr2 : RowAt ((w.alloc (.cells #[.slice pS S.length cS, v] 45)).alloc (.cells #[.string b1, .string b2, .bool b3] 92)) (w.heap.size + 1) #[.string b1, .string b2, .bool b3] 92 := RowAt.new' _ _ _ (by simp)
    generalize (w.alloc (.cells #[.slice pS S.length cS, v] 45)).alloc (.cells #[.string b1, .string b2, .bool b3] 92) = W at *
    obtain ⟨x0, x1⟩ := hr1.l2
    obtain ⟨y0, y1, y2⟩ := hr2.l3
    have K1 := fun u : Later W => has_any (.slice pS S.length cS) v S b1 u.w (RowE.below encS (RowE.below encS HS.out hb0.out (Nat.le_refl _)) u.below (Nat.le_refl _))
    have K2 := Lib.hid (fun u : Later W => has_any (.slice pS S.length cS) v S b2 u.w (RowE.below encS (RowE.below encS HS.out hb0.out (Nat.le_refl _)) u.below (Nat.le_refl _)))
    clear hr1 hr2
    rw [E1.out] at K1
    have K1 := Lib.hid K1
    (refine region_later mix ?hB ?_; case hB => kernel_rfl); (repeat (first | go_big_quiet_step ((go_at_call 59; with_reducible first | exact Later.call (K1.out _) | exact Later.call (K2.out _))) | quiet_step ((go_at_call 59; with_reducible first | exact Later.call (K1.out _) | exact Later.call (K2.out _))))); (refine wpQuiet_nil ?_; rintro _ ⟨u, rfl⟩)
    go_wp2_with fail
    go_ret
    refine ⟨?_, hb0.out.trans (u.below.mono hb0.out.size)⟩
    first | rfl | (show Ending.returned (.bool (!(hasL S b2 == b3))) = _; cases hasL S b2 <;> cases b3 <;> rfl)

set_option maxRecDepth 100000 in
set_option maxHeartbeats 4000000 in
theorem fits_any (sv : Value) (S : List ByteArray) (b : Bal) (w : World) (hS : RowE encS w sv S) :
    Calls Try.prog 110 #[sv, balV b] w fun e w' => e = .returned (.bool (standsL S b)) ∧ Below w.heap.size w w' := by
  obtain ⟨pS, cS, rfl, s1, s2⟩ := hS.shape
  have HS := Lib.hid hS
  clear hS
  obtain ⟨b1, b2, b3⟩ := b
  have hz := size20 b2
  unfold standsL
  simp only
  cases e1 : hasL S b1 <;> cases e3 : (b2.size == 20) <;> rw [e3] at hz
  all_goals
    have E1 := Lib.hid e1
    clear e1 e3
    go_enter Try.func110, Try.ntmps110
    go_wp2
    have hb0 := Lib.hid (belowA w (.cells #[.string b1, .string b2, .bool b3] 92))
    have hr2 : RowAt (w.alloc (.cells #[.string b1, .string b2, .bool b3] 92)) w.heap.size #[.string b1, .string b2, .bool b3] 92 := RowAt.new _ _ _
    generalize w.alloc (.cells #[.string b1, .string b2, .bool b3] 92) = W at *
    obtain ⟨y0, y1, y2⟩ := hr2.l3
    have K1 := fun u : Later W => rhas_any (.slice pS S.length cS) S b1 u.w (RowE.below encS (RowE.below encS HS.out hb0.out (Nat.le_refl _)) u.below (Nat.le_refl _))
    have K2 := Lib.hid (fun u : Later W => rhas_any (.slice pS S.length cS) S b2 u.w (RowE.below encS (RowE.below encS HS.out hb0.out (Nat.le_refl _)) u.below (Nat.le_refl _)))
    clear hr2
    rw [E1.out] at K1
    have K1 := Lib.hid K1
    (refine region_later mix ?hB ?_; case hB => kernel_rfl); (repeat (first | go_big_quiet_step ((go_at_call 64; with_reducible first | exact Later.call (K1.out _) | exact Later.call (K2.out _))) | quiet_step ((go_at_call 64; with_reducible first | exact Later.call (K1.out _) | exact Later.call (K2.out _))))); (refine wpQuiet_nil ?_; rintro _ ⟨u, rfl⟩)
    go_wp2_with fail
    go_ret
    refine ⟨?_, hb0.out.trans (u.below.mono hb0.out.size)⟩
    first | rfl | (show Ending.returned (.bool (!(hasL S b2 == b3))) = _; cases hasL S b2 <;> cases b3 <;> rfl)
end Go.Proofs.Ythipnbiilobjeaa
