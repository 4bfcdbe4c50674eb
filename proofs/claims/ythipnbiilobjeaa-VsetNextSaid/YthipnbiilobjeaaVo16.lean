/- Vote: what casting a vote makes, as a relation on lists, and the refusals. -/
import Derived.Test.YthipnbiilobjeaaVo15
namespace Go.Proofs.Ythipnbiilobjeaa
open Go.RowKit Go.Shelf

/-- A vote is put among votes, in its place. -/
def PutIn (V : List Bal) (b : Bal) (V1 : List Bal) : Prop := ∃ i, CutAt ltB V b i ∧ ((FoundB V b i ∧ V1 = V) ∨ (¬ FoundB V b i ∧ V1 = V.take i ++ b :: V.drop i))
/-- A vote is refused. -/
def Refused (S : List ByteArray) (b : Bal) : Prop := standsL S b = false ∨ (b.2.2 = true ∧ 16 ≤ S.length) ∨ (b.2.2 = false ∧ S.length ≤ 1)
def WonTo (S : List ByteArray) (V1 : List Bal) (b : Bal) (S' : List ByteArray) (V' : List Bal) : Prop := ∃ i, CutAt ltS S b.2.1 i ∧
  ((b.2.2 = true ∧ S' = S.take i ++ b.2.1 :: S.drop i ∧ V' = V1.filter fun x => !goneL b x) ∨
   (b.2.2 = false ∧ S' = S.take i ++ S.drop (i + 1) ∧ V' = (V1.filter fun x => !goneL b x).filter fun x => !wonL S' (V1.filter fun x => !goneL b x) x))
def CastRel (S : List ByteArray) (V : List Bal) (b : Bal) (S' : List ByteArray) (V' : List Bal) (c : Int) : Prop :=
  (¬ RightOk S V ∧ S' = [] ∧ V' = [] ∧ c = 1) ∨ (RightOk S V ∧ Refused S b ∧ S' = [] ∧ V' = [] ∧ c = 44) ∨
  (RightOk S V ∧ ¬ Refused S b ∧ c = 0 ∧ ∃ V1, PutIn V b V1 ∧ ((wonL S V1 b = false ∧ S' = S ∧ V' = V1) ∨ (wonL S V1 b = true ∧ WonTo S V1 b S' V')))

/-- The rows of addresses and of votes, with the size of an element within. -/
def RS (w : World) (v : Value) (l : List ByteArray) : Prop := RowE encS w v l
def RB (w : World) (v : Value) (l : List Bal) : Prop := RowE encB w v l
theorem RS.below {w w' : World} {v : Value} {l : List ByteArray} {B : Nat} (h : RS w v l) (hb : Below B w w') (hB : w.heap.size ≤ B) : RS w' v l := RowE.below encS h hb hB
theorem RB.below {w w' : World} {v : Value} {l : List Bal} {B : Nat} (h : RB w v l) (hb : Below B w w') (hB : w.heap.size ≤ B) : RB w' v l := RowE.below encB h hb hB

/-- What a cast leaves. -/
def CastPost (S : List ByteArray) (V : List Bal) (b : Bal) (w : World) (e : Ending) (w' : World) : Prop :=
  ∃ sv vv S' V' c, e = .returned (.tuple #[.agg #[sv, vv], .int .i64 c]) ∧ CastRel S V b S' V' c ∧ RS w' sv S' ∧ RB w' vv V' ∧ Below w.heap.size w w'

set_option maxRecDepth 100000 in
set_option maxHeartbeats 4000000 in
theorem cast_wrong (sv vv : Value) (S : List ByteArray) (V : List Bal) (b : Bal) (w : World) (hS : RS w sv S) (hV : RB w vv V) (hl : V.length ≤ 100000) (hl2 : S.length ≤ 100000) (hr : ¬ RightOk S V) :
    Calls Try.prog 61 #[.agg #[sv, vv], balV b] w (CastPost S V b w) := by
  have KR := fun W hb => right_any sv vv S V W (RowE.below encS hS hb (Nat.le_refl _)) (RowE.below encB hV hb (Nat.le_refl _)) (by omega) (by omega)
  rw [rightL_false hr] at KR
  have KR := Lib.hid KR
  have HF : Hid (CastRel S V b [] [] 1) := Lib.hid (.inl ⟨hr, rfl, rfl, rfl⟩)
  obtain ⟨pS, cS, rfl, _, _⟩ := RowE.shape encS hS
  obtain ⟨pV, cV, rfl, _, _⟩ := RowE.shape encB hV
  clear hS hV hr
  obtain ⟨b1, b2, b3⟩ := b
  have R4 := Lib.hid (RowAt.new' ((w.alloc (.cells #[.slice pS S.length cS, .slice pV V.length cV] 45)).alloc (.cells #[.string b1, .string b2, .bool b3] 92)) #[.slice none 0 0, .slice none 0 0] 45 (k := w.heap.size + 2) (by simp))
  have HB0 := Lib.hid ((belowA2 w (.cells #[.slice pS S.length cS, .slice pV V.length cV] 45) (.cells #[.string b1, .string b2, .bool b3] 92)).alloc (by simp; omega) (.cells #[.slice none 0 0, .slice none 0 0] 45))
  go_enter Try.func61, Try.ntmps61
  go_wp2_with (go_at_call 57; refine (KR.out _ HB0.out).mono ?_; rintro e w1 ⟨rfl, hb1⟩; obtain ⟨z0, z1, g0, g1⟩ := (R4.out.belowS hb1).c2)
  have HB := HB0.out.trans (hb1.mono HB0.out.size)
  obtain ⟨k0, k1, _, _⟩ := (((R4.out.belowS hb1).set 0 (.slice none 0 0) rfl).set 1 (.slice none 0 0) rfl).c2
  refine bodyPost_ret (v := .tuple #[.agg #[.slice none 0 0, .slice none 0 0], .int .i64 1]) (by simp [results, Try.results61, go_sem, k0, k1]) rfl ?_
  exact ⟨_, _, [], [], 1, rfl, HF.out, .inl ⟨rfl, rfl⟩, .inl ⟨rfl, rfl⟩, (HB.setCell (by simp; omega) _).setCell (by simp; omega) _⟩

set_option maxRecDepth 100000 in
set_option maxHeartbeats 8000000 in
theorem cast_refused (sv vv : Value) (S : List ByteArray) (V : List Bal) (b : Bal) (w : World) (hS : RS w sv S) (hV : RB w vv V) (hl : V.length ≤ 100000) (hl2 : S.length ≤ 100000) (hr : RightOk S V) (hf : Refused S b) :
    Calls Try.prog 61 #[.agg #[sv, vv], balV b] w (CastPost S V b w) := by
  have KR := fun W hb => right_any sv vv S V W (RowE.below encS hS hb (Nat.le_refl _)) (RowE.below encB hV hb (Nat.le_refl _)) (by omega) (by omega)
  rw [rightL_true hr] at KR
  have KR := Lib.hid KR
  have KS := fun W hb => stands_any sv vv S b W (RowE.below encS hS hb (Nat.le_refl _))
  have HF : Hid (CastRel S V b [] [] 44) := Lib.hid (.inr (.inl ⟨hr, hf, rfl, rfl, rfl⟩))
  obtain ⟨pS, cS, rfl, _, _⟩ := RowE.shape encS hS
  obtain ⟨pV, cV, rfl, _, _⟩ := RowE.shape encB hV
  clear hS hV hr
  unfold Refused at hf
  obtain ⟨b1, b2, b3⟩ := b
  have R2 := fun x3 => Lib.hid (((RowAt.new w #[.slice pS S.length cS, .slice pV V.length cV] 45).alloc (.cells #[.string b1, .string b2, .bool x3] 92)).alloc (.cells #[.slice none 0 0, .slice none 0 0] 45))
  have R3 := fun x3 => Lib.hid ((RowAt.new' (w.alloc (.cells #[.slice pS S.length cS, .slice pV V.length cV] 45)) #[.string b1, .string b2, .bool x3] 92 (k := w.heap.size + 1) (by simp)).alloc (.cells #[.slice none 0 0, .slice none 0 0] 45))
  have R4 := fun x3 => Lib.hid (RowAt.new' ((w.alloc (.cells #[.slice pS S.length cS, .slice pV V.length cV] 45)).alloc (.cells #[.string b1, .string b2, .bool x3] 92)) #[.slice none 0 0, .slice none 0 0] 45 (k := w.heap.size + 2) (by simp))
  have HB0 := fun x3 => Lib.hid ((belowA2 w (.cells #[.slice pS S.length cS, .slice pV V.length cV] 45) (.cells #[.string b1, .string b2, .bool x3] 92)).alloc (by simp; omega) (.cells #[.slice none 0 0, .slice none 0 0] 45))
  cases e1 : standsL S (b1, b2, b3)
  · rw [e1] at KS
    have KS := Lib.hid KS
    clear e1 hf
    have R2 := R2 b3
    have R3 := R3 b3
    have R4 := R4 b3
    have HB0 := HB0 b3
    go_enter Try.func61, Try.ntmps61
    go_wp2_with (first
      | (go_at_call 57; refine (KR.out _ HB0.out).mono ?_; rintro e w1 ⟨rfl, hb1⟩; have HB1 := Lib.hid (HB0.out.trans (hb1.mono HB0.out.size)); have R21 := Lib.hid (R2.out.belowS hb1); have R31 := Lib.hid (R3.out.belowS hb1); have R41 := Lib.hid (R4.out.belowS hb1); clear hb1; obtain ⟨x0, x1, xf0, xf1⟩ := R21.out.c2; obtain ⟨y0, y1, y2, yf0, yf1, yf2⟩ := R31.out.c3)
      | (go_at_call 96; refine (KS.out _ HB1.out).mono ?_; rintro e w2 ⟨rfl, hb2⟩; have HB2 := Lib.hid (HB1.out.trans (hb2.mono HB1.out.size)); have R42 := Lib.hid (R41.out.belowS hb2); clear hb2; obtain ⟨z0, z1, g0, g1⟩ := R42.out.c2))
    have HB := HB2.out
    obtain ⟨k0, k1, _, _⟩ := ((R42.out.set 0 (.slice none 0 0) rfl).set 1 (.slice none 0 0) rfl).c2
    refine bodyPost_ret (v := .tuple #[.agg #[.slice none 0 0, .slice none 0 0], .int .i64 44]) (by simp [results, Try.results61, go_sem, k0, k1]) rfl ?_
    exact ⟨_, _, [], [], 44, rfl, HF.out, .inl ⟨rfl, rfl⟩, .inl ⟨rfl, rfl⟩, (HB.setCell (by simp; omega) _).setCell (by simp; omega) _⟩
  · rw [e1] at KS
    have KS := Lib.hid KS
    have hln : (b3 = true → 16 ≤ S.length) ∧ (b3 = false → S.length ≤ 1) := by
      rcases hf with h | ⟨h1, h2⟩ | ⟨h1, h2⟩
      · rw [e1] at h; cases h
      · exact ⟨fun _ => h2, fun h => (by rw [h] at h1; cases h1)⟩
      · exact ⟨fun h => (by rw [h] at h1; cases h1), fun _ => h2⟩
    replace R2 := R2 b3
    replace R3 := R3 b3
    replace R4 := R4 b3
    replace HB0 := HB0 b3
    cases b3
    all_goals
      simp at hln
      clear e1 hf
      go_enter Try.func61, Try.ntmps61
      go_wp2_with (first
        | (go_at_call 57; refine (KR.out _ HB0.out).mono ?_; rintro e w1 ⟨rfl, hb1⟩; have HB1 := Lib.hid (HB0.out.trans (hb1.mono HB0.out.size)); have R21 := Lib.hid (R2.out.belowS hb1); have R31 := Lib.hid (R3.out.belowS hb1); have R41 := Lib.hid (R4.out.belowS hb1); clear hb1; obtain ⟨x0, x1, xf0, xf1⟩ := R21.out.c2; obtain ⟨y0, y1, y2, yf0, yf1, yf2⟩ := R31.out.c3)
        | (go_at_call 96; refine (KS.out _ HB1.out).mono ?_; rintro e w2 ⟨rfl, hb2⟩; have HB2 := Lib.hid (HB1.out.trans (hb2.mono HB1.out.size)); have R42 := Lib.hid (R41.out.belowS hb2); obtain ⟨u0, u1, uf0, uf1⟩ := (R21.out.belowS hb2).c2; obtain ⟨v0, v1, v2, vf0, vf1, vf2⟩ := (R31.out.belowS hb2).c3; clear hb2; obtain ⟨z0, z1, g0, g1⟩ := R42.out.c2))
      have HB := HB2.out
      obtain ⟨k0, k1, _, _⟩ := ((R42.out.set 0 (.slice none 0 0) rfl).set 1 (.slice none 0 0) rfl).c2
      refine bodyPost_ret (v := .tuple #[.agg #[.slice none 0 0, .slice none 0 0], .int .i64 44]) (by simp [results, Try.results61, go_sem, k0, k1]) rfl ?_
      exact ⟨_, _, [], [], 44, rfl, HF.out, .inl ⟨rfl, rfl⟩, .inl ⟨rfl, rfl⟩, (HB.setCell (by simp; omega) _).setCell (by simp; omega) _⟩
end Go.Proofs.Ythipnbiilobjeaa
