/- Vote: votes but for some. -/
import Derived.Test.YthipnbiilobjeaaVo14
namespace Go.Proofs.Ythipnbiilobjeaa
open Go.RowKit Go.Shelf

set_option maxRecDepth 100000 in
set_option maxHeartbeats 2000000 in
theorem without_any (g : Nat) (caps : Array Value) (p : Bal → Bool) (eg : ∀ args w, (callFunc g args).run Try.prog w = .ok (.enter g args) w) (v : Value) (l : List Bal) (w : World) (h : RowE encB w v l) (hl : l.length ≤ 1000000) (hp : PredB g caps p w.heap.size w) :
    Calls Try.prog 103 #[v, .func (.func g) #[] caps] w fun e w' => ∃ v', e = .returned v' ∧ OwnE encB 92 w' w.heap.size v' (l.filter fun x => !p x) ∧ Below w.heap.size w w' := by
  have KC := Lib.hid (cloneB_any v l w h hl)
  have HP := Lib.hid hp
  obtain ⟨pp, cap, rfl, h1, h2⟩ := h.shape
  clear h hp
  go_enter Try.func103, Try.ntmps103
  go_wp2_with (first
    | (go_at_call 102; refine KC.out.mono ?_; rintro e w1 ⟨v1, rfl, ho, hb1⟩; have HB1 := Lib.hid hb1; have HO1 := Lib.hid ho; clear hb1 ho)
    | (go_at_call 151; refine (deleteFunc_any g caps p eg _ l _ w.heap.size HB1.out.size HO1.out hl (HP.out.below HB1.out)).mono ?_; rintro e w2 ⟨v2, rfl, ho2, hb2⟩; have HB2 := Lib.hid hb2; have HO2 := Lib.hid ho2; clear hb2 ho2))
  go_ret
  exact ⟨_, rfl, HO2.out, HB1.out.trans HB2.out⟩

/-- A vote about the same, or of the one that goes. -/
def goneL (b : Bal) (x : Bal) : Bool := decide (x.2.1 = b.2.1) || (!b.2.2 && decide (x.1 = b.2.1))

set_option maxRecDepth 100000 in
set_option maxHeartbeats 2000000 in
theorem cast1_any (b x : Bal) (k : Nat) (w : World) (hr : RowAt w k #[.string b.1, .string b.2.1, .bool b.2.2] 92) :
    Calls Try.prog 104 #[balV x, .pointer (some ⟨k, 0, none⟩)] w fun e w' => e = .returned (.bool (goneL b x)) ∧ Below w.heap.size w w' := by
  obtain ⟨b1, b2, b3⟩ := b
  obtain ⟨x1, x2, x3⟩ := x
  have HR := Lib.hid hr
  have hk : k < w.heap.size := hr.lt
  clear hr
  obtain ⟨a0, a1, a2, af0, af1, af2⟩ := HR.out.c3
  cases b3 <;> by_cases e1 : x2 = b2 <;> by_cases e2 : x1 = b2
  all_goals
    first | have q1 := seq_true e1 | have q1 := seq_false e1
    first | have q2 := seq_true e2 | have q2 := seq_false e2
    go_enter Try.func104, Try.ntmps104
    go_wp2
    go_ret
    exact ⟨by simp [goneL, e1, e2], belowA w _⟩

set_option maxRecDepth 100000 in
set_option maxHeartbeats 2000000 in
theorem cast2_any (sv vv : Value) (S : List ByteArray) (V : List Bal) (x : Bal) (k : Nat) (w : World) (hr : RowAt w k #[sv, vv] 45) (hS : RowE encS w sv S) (hV : RowE encB w vv V) (hl : V.length ≤ 1000000) (hl2 : S.length ≤ 1000000) :
    Calls Try.prog 109 #[balV x, .pointer (some ⟨k, 0, none⟩)] w fun e w' => e = .returned (.bool (wonL S V x)) ∧ Below w.heap.size w w' := by
  obtain ⟨x1, x2, x3⟩ := x
  have HR := Lib.hid hr
  have hk : k < w.heap.size := hr.lt
  have KW := Lib.hid (won_any sv vv S V (x1, x2, x3) (w.alloc (.cells #[.string x1, .string x2, .bool x3] 92)) (RowE.below encS hS (belowA w _) (Nat.le_refl _)) (RowE.below encB hV (belowA w _) (Nat.le_refl _)) hl)
  obtain ⟨pS, cS, rfl, _, _⟩ := hS.shape
  obtain ⟨pV, cV, rfl, _, _⟩ := hV.shape
  clear hr hS hV
  obtain ⟨a0, a1, af0, af1⟩ := HR.out.c2
  go_enter Try.func109, Try.ntmps109
  go_wp2_with (go_at_call 98; refine KW.out.mono ?_; rintro e w1 ⟨rfl, hb1⟩)
  go_ret
  exact ⟨rfl, (belowA w _).trans (hb1.mono (by simp))⟩

set_option maxRecDepth 100000 in
set_option maxHeartbeats 2000000 in
theorem close_any (sv vv : Value) (S : List ByteArray) (V : List Bal) (w : World) (hS : RowE encS w sv S) (hV : RowE encB w vv V) (hl : V.length ≤ 1000000) (hl2 : S.length ≤ 1000000) :
    Calls Try.prog 60 #[.agg #[sv, vv]] w fun e w' => e = .returned (.tuple (if rightL S V then #[.agg #[sv, .slice none 0 0], .int .i64 0] else #[.agg #[.slice none 0 0, .slice none 0 0], .int .i64 1])) ∧ Below w.heap.size w w' := by
  have KR := fun W hb => right_any sv vv S V W (RowE.below encS hS hb (Nat.le_refl _)) (RowE.below encB hV hb (Nat.le_refl _)) hl hl2
  obtain ⟨pS, cS, rfl, _, _⟩ := hS.shape
  obtain ⟨pV, cV, rfl, _, _⟩ := hV.shape
  clear hS hV
  cases e : rightL S V
  all_goals
    rw [e] at KR
    have KR := Lib.hid KR
    go_enter Try.func60, Try.ntmps60
    have r1 : RowAt ((w.alloc (.cells #[.slice pS S.length cS, .slice pV V.length cV] 45)).alloc (.cells #[.slice none 0 0, .slice none 0 0] 45)) w.heap.size #[.slice pS S.length cS, .slice pV V.length cV] 45 := (RowAt.new _ _ _).alloc _
    have r2 : RowAt ((w.alloc (.cells #[.slice pS S.length cS, .slice pV V.length cV] 45)).alloc (.cells #[.slice none 0 0, .slice none 0 0] 45)) (w.heap.size + 1) #[.slice none 0 0, .slice none 0 0] 45 := RowAt.new' _ _ _ (by simp)
    have R1 := Lib.hid r1
    have R2 := Lib.hid r2
    clear r1 r2
    go_wp2_with (go_at_call 57; refine (KR.out _ (belowA2 w _ _)).mono ?_; rintro e w1 ⟨rfl, hb1⟩; obtain ⟨y0, y1, f0, f1⟩ := (R1.out.belowS hb1).c2; obtain ⟨z0, z1, g0, g1⟩ := (R2.out.belowS hb1).c2)
    have HB := (belowA2 w (.cells #[.slice pS S.length cS, .slice pV V.length cV] 45) (.cells #[.slice none 0 0, .slice none 0 0] 45)).trans (hb1.mono (belowA2 w _ _).size)
    have R3 := R2.out.belowS hb1
    first
    | (obtain ⟨k0, k1, _, _⟩ := ((R3.set 0 (.slice none 0 0) rfl).set 1 (.slice none 0 0) rfl).c2
       refine bodyPost_ret (v := .tuple #[.agg #[.slice none 0 0, .slice none 0 0], .int .i64 1]) (by simp [results, Try.results60, go_sem, k0, k1]) rfl ?_
       exact ⟨rfl, (HB.setCell (by simp) _).setCell (by simp) _⟩)
    | (obtain ⟨k0, k1, _, _⟩ := ((R3.set 0 (.slice pS S.length cS) rfl).set 1 (.slice none 0 0) rfl).c2
       refine bodyPost_ret (v := .tuple #[.agg #[.slice pS S.length cS, .slice none 0 0], .int .i64 0]) (by simp [results, Try.results60, go_sem, k0, k1]) rfl ?_
       exact ⟨rfl, (HB.setCell (by simp) _).setCell (by simp) _⟩)
end Go.Proofs.Ythipnbiilobjeaa
