/- Vset: Cast in all; two rows are the same; of four three are enough. Vset: the validators and votes behind a header. -/
import Derived.Test.YthipnbiilobjeaaVo18
import Derived.Test.YthipnbiilobjeaaVo24
import Derived.Test.YthipnbiilobjeaaVoT
import Derived.BigRegion
import Derived.Test.YthipnbiilobjeaaHd2
import Derived.Deep.DeepCutAuto
namespace Go.Proofs.Ythipnbiilobjeaa
open Go.RowKit Go.Shelf

theorem cast_any (sv vv : Value) (S : List ByteArray) (V : List Bal) (b : Bal) (w : World) (hS : RowE encS w sv S) (hV : RowE encB w vv V) (hl : V.length ≤ 100000) (hl2 : S.length ≤ 100000) :
    Calls Try.prog 61 #[.agg #[sv, vv], balV b] w (CastPost S V b w) := by
  by_cases hr : RightOk S V
  · by_cases hf : Refused S b
    · exact cast_refused sv vv S V b w hS hV hl hl2 hr hf
    · exact cast_taken sv vv S V b w hS hV hl hl2 hr hf
  · exact cast_wrong sv vv S V b w hS hV hl hl2 hr

/-- What a cast leaves, laid out. -/
theorem CastPost.parts {S : List ByteArray} {V : List Bal} {b : Bal} {w : World} {e : Ending} {w' : World} (h : CastPost S V b w e w') : ∃ pS cS pV cV S' V' c, e = .returned (.tuple #[.agg #[.slice pS S'.length cS, .slice pV V'.length cV], .int .i64 c]) ∧ CastRel S V b S' V' c ∧
    RowE encS w' (.slice pS S'.length cS) S' ∧ RowE encB w' (.slice pV V'.length cV) V' ∧ Below w.heap.size w w' := by
  obtain ⟨sv, vv, S', V', c, rfl, h1, h2, h3, h4⟩ := h
  obtain ⟨pS, cS, rfl, _, _⟩ := RowE.shape encS h2
  obtain ⟨pV, cV, rfl, _, _⟩ := RowE.shape encB h3
  exact ⟨pS, cS, pV, cV, S', V', c, rfl, h1, h2, h3, h4⟩

theorem CastPost.parts2 {S : List ByteArray} {V : List Bal} {b : Bal} {w : World} {e : Ending} {w' : World} (h : CastPost S V b w e w') : ∃ pS cS pV cV S' V' c, e = .returned (.tuple #[.agg #[.slice pS S'.length cS, .slice pV V'.length cV], .int .i64 c]) ∧ Hid (CastRel S V b S' V' c) ∧
    Hid (RS w' (.slice pS S'.length cS) S') ∧ Hid (RB w' (.slice pV V'.length cV) V') ∧ Below w.heap.size w w' := by
  obtain ⟨pS, cS, pV, cV, S', V', c, h0, h1, h2, h3, h4⟩ := h.parts
  exact ⟨pS, cS, pV, cV, S', V', c, h0, Lib.hid h1, Lib.hid h2, Lib.hid h3, h4⟩

theorem castRel_len {S S' : List ByteArray} {V V' : List Bal} {b : Bal} {c : Int} (h : CastRel S V b S' V' c) (h1 : S.length ≤ 20) (h2 : V.length ≤ 99000) : S'.length ≤ 20 ∧ V'.length ≤ V.length + 1 := by
  rcases h.cases with ⟨_, rfl, rfl, _⟩ | ⟨_, _, rfl, rfl, _⟩ | ⟨_, h⟩
  · simp
  · simp
  · have := h.right.1.2.2.2
    exact ⟨by omega, taken_len h⟩

theorem castRel_code {S S' : List ByteArray} {V V' : List Bal} {b : Bal} {c : Int} (h : CastRel S V b S' V' c) : ((c = 1 ∨ c = 44) ∧ S' = [] ∧ V' = []) ∨ (c = 0 ∧ Taken S V b S' V') := by
  rcases h.cases with ⟨_, h1, h2, h⟩ | ⟨_, _, h1, h2, h⟩ | h
  · exact .inl ⟨.inl h, h1, h2⟩
  · exact .inl ⟨.inr h, h1, h2⟩
  · exact .inr h

noncomputable def eqL (S T : List ByteArray) : Bool := @decide (S = T) (Classical.propDecidable _)
theorem eqL_true {S T : List ByteArray} (h : S = T) : eqL S T = true := @decide_eq_true _ (Classical.propDecidable _) h
theorem eqL_false {S T : List ByteArray} (h : ¬ S = T) : eqL S T = false := @decide_eq_false _ (Classical.propDecidable _) h

set_option maxRecDepth 100000 in
set_option maxHeartbeats 2000000 in
theorem equal_any (sa sb : Value) (S T : List ByteArray) (w : World) (hS : RowE encS w sa S) (hT : RowE encS w sb T) :
    Calls Try.prog 58 #[sa, sb] w fun e w' => e = .returned (.bool (eqL S T)) ∧ Below w.heap.size w w' := by
  obtain ⟨pS, cS, rfl, s1, s2⟩ := RowE.shape encS hS
  obtain ⟨pT, cT, rfl, s5, s6⟩ := RowE.shape encS hT
  have HS := Lib.hid hS
  have HT := Lib.hid hT
  clear hS hT
  generalize hn1 : T.length = n1 at *
  unfold maxLen at s2 s6
  by_cases e1 : S.length = n1
  · subst e1
    have N1 := Lib.hid hn1
    have HB := Lib.hid (Below.refl w.heap.size w)
    clear hn1
    go_enter Try.func58, Try.ntmps58
    go_wp2
    go_loopw [5, 13] (fun _ c wr => ∃ k : Nat, k ≤ S.length ∧ c = .int .i64 k ∧ Hid (S.take k = T.take k) ∧ Hid (Below w.heap.size w wr)) (fun _ c _ => S.length - (intOf c).toNat)
    case atStart => exact ⟨0, Nat.zero_le _, rfl, Lib.hid (by simp), HB⟩
    case round =>
      obtain ⟨k, hk, rfl, ht, hb⟩ := hrel
      clear HB
      have HB := Lib.hid hb.out
      have HQ := Lib.hid ht.out
      clear hb ht
      by_cases hlt : k < S.length
      · have hlt2 : k < T.length := by rw [N1.out]; exact hlt
        obtain ⟨-, -, -, HA⟩ := (RowE.below encS HS.out HB.out (Nat.le_refl _)).atS
        obtain ⟨a, rfl, c0⟩ := HA k S[k] (List.getElem?_eq_getElem hlt)
        obtain ⟨-, -, -, HA'⟩ := (RowE.below encS HT.out HB.out (Nat.le_refl _)).atS
        obtain ⟨a', rfl, c0'⟩ := HA' k T[k] (List.getElem?_eq_getElem hlt2)
        clear HA HA'
        by_cases e : S[k] = T[k]
        · have hst := Lib.hid (take_eq_step HQ.out hlt hlt2 e)
          rw [← e] at c0'
          generalize S[k] = z at *
          clear e
          go_wp2
          go_region
          go_wp2
          exact ⟨⟨k + 1, by omega, by simp, hst, Lib.hid HB.out.drew⟩, by simp [intOf]; omega⟩
        · have hno : Hid (eqL S T = false) := Lib.hid (eqL_false fun h => e (by cases h; rfl))
          have q := seq_false e
          generalize S[k] = z at *
          generalize T[k] = z' at *
          clear e
          go_wp2
          go_region
          go_wp2
          go_ret
          exact ⟨by rw [hno.out]; rfl, HB.out.drew⟩
      · obtain rfl : k = S.length := by omega
        have hyes : Hid (eqL S T = true) := Lib.hid (eqL_true (by
          have := HQ.out
          rw [List.take_length] at this
          rw [this, ← N1.out, List.take_length]))
        go_wp2
        go_ret
        exact ⟨by rw [hyes.out]; rfl, HB.out⟩
  · have hno : Hid (eqL S T = false) := Lib.hid (eqL_false fun h => e1 (by rw [← hn1, h]))
    have hq : ¬ (S.length : Int) = (n1 : Int) := by omega
    clear hn1 e1
    go_enter Try.func58, Try.ntmps58
    go_wp2
    go_ret
    exact ⟨by rw [hno.out]; rfl, Below.refl _ _⟩

set_option maxRecDepth 100000 in
set_option maxHeartbeats 2000000 in
theorem alive20_any (w : World) : Calls Try.prog 34 #[] w fun e w' => e = .returned (.bool true) ∧ w = w' := by
  have KQ : ∀ W, Calls Try.prog 66 #[.int .i64 4] W fun e w' => e = .returned (.int .i64 3) ∧ W = w' := fun W => by
    go_enter Try.func66, Try.ntmps66
    go_wp2
    go_ret
    exact ⟨rfl, rfl⟩
  have KF : ∀ W, Calls Try.prog 67 #[.int .i64 4] W fun e w' => e = .returned (.int .i64 1) ∧ W = w' := fun W => by
    go_enter Try.func67, Try.ntmps67
    go_wp2
    go_ret
    exact ⟨rfl, rfl⟩
  have KQ := Lib.hid KQ
  have KF := Lib.hid KF
  go_enter Try.func34, Try.ntmps34
  go_wp2_with (first | (go_at_call 66; refine (KQ.out _).mono ?_; rintro e w1 ⟨rfl, rfl⟩) | (go_at_call 67; refine (KF.out _).mono ?_; rintro e w1 ⟨rfl, rfl⟩))
  go_ret
  exact ⟨rfl, rfl⟩
end Go.Proofs.Ythipnbiilobjeaa

namespace Go.Proofs.Ythipnbiilobjeaa
open Go.RowKit Go.Shelf

def notSlice : Value → Prop
  | .slice .. => False
  | _ => True
theorem flat_prop {α : Type} {E : Enc α} {p : Value → Prop} (h : ∀ x, ∀ u ∈ E.cells x, p u) : ∀ l : List α, ∀ u ∈ flat E l, p u
  | [], u, hu => by cases hu
  | x :: l, u, hu => by
    rw [flat] at hu
    rcases List.mem_append.1 hu with hu | hu
    · exact h x u hu
    · exact flat_prop h l u hu
theorem RowE.setBox {α : Type} {E : Enc α} {w : World} {v : Value} {l : List α} {k : Nat} {p1 p2 : Option Addr} {n1 n2 c1 c2 : Nat} {T : TypeId} (hE : ∀ x, ∀ u ∈ E.cells x, notSlice u) (h : RowE E w v l) (hr : RowAt w k #[.slice p1 n1 c1, .slice p2 n2 c2] T) (i : Nat) (z : Value) : RowE E (w.setCell ⟨k, i, none⟩ z) v l := by
  rcases h with h | ⟨a, cap, hv, h1, h2, hc⟩
  · exact .inl h
  · refine .inr ⟨a, cap, hv, h1, h2, fun j u hj => ?_⟩
    have hu := hc j u hj
    rw [World.cell?_setCell_other]
    · exact hu
    · intro e
      have hns := flat_prop hE l u (List.mem_of_getElem? hj)
      by_cases hi : i < 2
      · rw [← e, hr.cell i] at hu
        match i, hi with
        | 0, _ => simp at hu; subst hu; exact hns
        | 1, _ => simp at hu; subst hu; exact hns
      · rw [← e, hr.cell i] at hu
        rw [Array.getElem?_eq_none (by simp; omega)] at hu
        cases hu
theorem encS_ns : ∀ x, ∀ u ∈ encS.cells x, notSlice u := fun x u h => by simp [encS] at h; subst h; trivial
theorem encB_ns : ∀ x, ∀ u ∈ encB.cells x, notSlice u := fun x u h => by simp [encB] at h; rcases h with rfl | rfl | rfl <;> trivial


open Classical in
noncomputable def castF (S : List ByteArray) (V : List Bal) (b : Bal) : List ByteArray × List Bal × Int :=
  if RightOk S V then if Refused S b then ([], [], 44) else if wonL S (putL V b) b = true then (setToL S b.2.1 b.2.2, stayL (setToL S b.2.1 b.2.2) (leftL (putL V b) b) b, 0) else (S, putL V b, 0) else ([], [], 1)
theorem castF_rel (S : List ByteArray) (V : List Bal) (b : Bal) : RCastRel S V b (castF S V b).1 (castF S V b).2.1 (castF S V b).2.2 := by
  unfold castF
  by_cases h1 : RightOk S V
  · rw [if_pos h1]
    by_cases h2 : Refused S b
    · rw [if_pos h2]; exact .inr (.inl ⟨h1, h2, rfl, rfl, rfl⟩)
    · rw [if_neg h2]
      by_cases h3 : wonL S (putL V b) b = true
      · rw [if_pos h3]; exact .inr (.inr ⟨h1, h2, rfl, .inr ⟨h3, rfl, rfl⟩⟩)
      · rw [if_neg h3]; exact .inr (.inr ⟨h1, h2, rfl, .inl ⟨by simpa using h3, rfl, rfl⟩⟩)
  · rw [if_neg h1]; exact .inl ⟨h1, rfl, rfl, rfl⟩
theorem castF_eq {S S' : List ByteArray} {V V' : List Bal} {b : Bal} {c : Int} (h : CastRel S V b S' V' c) : (S', V', c) = castF S V b := by
  obtain ⟨e1, e2, e3⟩ := cast_same h (castF_rel S V b)
  rw [e1, e2, e3]
open Classical in
noncomputable def nextF (S : List ByteArray) (V : List Bal) (h : Hd) (ep : Int) : List ByteArray × List Bal × Int :=
  if RightOk S V ∧ HdOk h ∧ ep ≠ 0 then if h.val = S then if h.pr ∈ S then if h.vo = ⟨#[]⟩ then (S, (if h.ht % ep = 0 then [] else V), 0) else castF S (if h.ht % ep = 0 then [] else V) (h.pr, h.vo, h.ad) else ([], [], 42) else ([], [], 43) else ([], [], 1)

/-- A call that answers with validators, votes and a code. -/
def SnapPost (r : List ByteArray × List Bal × Int) (n1 n2 : Nat) (w : World) (e : Ending) (w' : World) : Prop :=
  ∃ pS cS pV cV, e = .returned (.tuple #[.agg #[.slice pS r.1.length cS, .slice pV r.2.1.length cV], .int .i64 r.2.2]) ∧ RS w' (.slice pS r.1.length cS) r.1 ∧ RB w' (.slice pV r.2.1.length cV) r.2.1 ∧ Below w.heap.size w w' ∧ r.1.length ≤ n1 ∧ r.2.1.length ≤ n2

/-- What stands between the statements of Next. -/
def NxSt (h : Hd) (hv gv : Value) (w : World) (s : Value) (S : List ByteArray) (v : Value) (V : List Bal) (W : World) : Prop :=
  RowAt W w.heap.size #[s, v] 45 ∧ RowAt W (w.heap.size + 1) (hdc h hv gv) 36 ∧ RowAt W (w.heap.size + 2) #[.slice none 0 0, .slice none 0 0] 45 ∧ RowE encS W s S ∧ RowE encB W v V ∧ HdAt W h hv gv ∧ Below w.heap.size w W
section
variable {h : Hd} {hv gv : Value} {w W W' : World} {S : List ByteArray} {V : List Bal}
theorem NxSt.next {s v : Value} (a : NxSt h hv gv w s S v V W) (hb : Below W.heap.size W W') : NxSt h hv gv w s S v V W' :=
  ⟨a.1.belowS hb, a.2.1.belowS hb, a.2.2.1.belowS hb, a.2.2.2.1.below encS hb (Nat.le_refl _), a.2.2.2.2.1.below encB hb (Nat.le_refl _), a.2.2.2.2.2.1.below hb, a.2.2.2.2.2.2.trans (hb.mono a.2.2.2.2.2.2.size)⟩
theorem NxSt.ans {p q p2 q2 : Option Addr} {n m c d n2 m2 c2 d2 : Nat} {S2 : List ByteArray} {V2 : List Bal} (a : NxSt h hv gv w (.slice p n c) S (.slice q m d) V W) (hs : RowE encS W (.slice p2 n2 c2) S2) (hvv : RowE encB W (.slice q2 m2 d2) V2) :
    RowAt ((W.setCell ⟨w.heap.size + 2, 0, none⟩ (.slice p2 n2 c2)).setCell ⟨w.heap.size + 2, 1, none⟩ (.slice q2 m2 d2)) (w.heap.size + 2) #[.slice p2 n2 c2, .slice q2 m2 d2] 45 ∧
    RS ((W.setCell ⟨w.heap.size + 2, 0, none⟩ (.slice p2 n2 c2)).setCell ⟨w.heap.size + 2, 1, none⟩ (.slice q2 m2 d2)) (.slice p2 n2 c2) S2 ∧ RB ((W.setCell ⟨w.heap.size + 2, 0, none⟩ (.slice p2 n2 c2)).setCell ⟨w.heap.size + 2, 1, none⟩ (.slice q2 m2 d2)) (.slice q2 m2 d2) V2 ∧
    Below w.heap.size w ((W.setCell ⟨w.heap.size + 2, 0, none⟩ (.slice p2 n2 c2)).setCell ⟨w.heap.size + 2, 1, none⟩ (.slice q2 m2 d2)) :=
  ⟨(a.2.2.1.set 0 _ rfl).set 1 _ rfl, RowE.setBox encS_ns (RowE.setBox encS_ns hs a.2.2.1 0 _) (a.2.2.1.set 0 (.slice p2 n2 c2) rfl) 1 _, RowE.setBox encB_ns (RowE.setBox encB_ns hvv a.2.2.1 0 _) (a.2.2.1.set 0 (.slice p2 n2 c2) rfl) 1 _,
    (a.2.2.2.2.2.2.setCell (p := ⟨w.heap.size + 2, 0, none⟩) (Nat.le_add_right _ 2) _).setCell (p := ⟨w.heap.size + 2, 1, none⟩) (Nat.le_add_right _ 2) _⟩
end
end Go.Proofs.Ythipnbiilobjeaa
