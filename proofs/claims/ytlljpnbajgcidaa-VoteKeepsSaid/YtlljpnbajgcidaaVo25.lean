/- Vote: Cast in all; the laws' small functions. -/
import Derived.Test.YtlljpnbajgcidaaVo18
import Derived.Test.YtlljpnbajgcidaaVo24
import Derived.Test.YtlljpnbajgcidaaVoT
import Derived.BigRegion
namespace Go.Proofs.Ytlljpnbajgcidaa
open Go.RowKit Go.Shelf

theorem cast_any (sv vv : Value) (S : List ByteArray) (V : List Bal) (b : Bal) (w : World) (hS : RowE encS w sv S) (hV : RowE encB w vv V) (hl : V.length ≤ 100000) (hl2 : S.length ≤ 100000) :
    Calls Try.prog 10 #[.agg #[sv, vv], balV b] w (CastPost S V b w) := by
  by_cases hr : RightOk S V
  · by_cases hf : Refused S b
    · exact cast_refused sv vv S V b w hS hV hl hl2 hr hf
    · exact cast_taken sv vv S V b w hS hV hl hl2 hr hf
  · exact cast_wrong sv vv S V b w hS hV hl hl2 hr

set_option maxRecDepth 100000 in
set_option maxHeartbeats 2000000 in
theorem few_any (pS pV : Option Addr) (cS cV : Nat) (S : List ByteArray) (V : List Bal) (w : World) (h1 : S.length ≤ cS) (h2 : cS ≤ maxLen) (h3 : V.length ≤ cV) (h4 : cV ≤ maxLen) (m1 m2 : Nat) (hm1 : MinIs 20 S.length m1) (hm2 : MinIs 60 V.length m2) :
    Calls Try.prog 12 #[.agg #[.slice pS S.length cS, .slice pV V.length cV]] w fun e w' => e = .returned (.agg #[.slice pS m1 cS, .slice pV m2 cV]) ∧ Below w.heap.size w w' := by
  obtain ⟨h11, h12, h13⟩ := hm1
  obtain ⟨h21, h22, h23⟩ := hm2
  unfold maxLen at h2 h4
  have R := Lib.hid ((RowAt.new w #[.slice pS S.length cS, .slice pV V.length cV] 25).alloc (.cells #[.slice none 0 0, .slice none 0 0] 25))
  have Z := Lib.hid (RowAt.new' (w.alloc (.cells #[.slice pS S.length cS, .slice pV V.length cV] 25)) #[.slice none 0 0, .slice none 0 0] 25 (k := w.heap.size + 1) (by simp))
  have B := Lib.hid (belowA2 w (.cells #[.slice pS S.length cS, .slice pV V.length cV] 25) (.cells #[.slice none 0 0, .slice none 0 0] 25))
  go_enter Try.func12, Try.ntmps12
  obtain ⟨a0, a1, af0, af1⟩ := R.out.c2
  obtain ⟨d0, d1, df0, df1⟩ := Z.out.c2
  go_wp2
  go_region
  go_wp2
  obtain ⟨k0, k1, _, _⟩ := ((Z.out.drew.set 0 (.slice pS m1 cS) rfl).set 1 (.slice pV m2 cV) rfl).c2
  refine bodyPost_ret (v := .agg #[.slice pS m1 cS, .slice pV m2 cV]) (by simp [results, Try.results12, go_sem, k0, k1]) rfl ?_
  exact ⟨rfl, (belowA2 w _ _).drew⟩

/-- What a cast leaves, laid out. -/
theorem CastPost.parts {S : List ByteArray} {V : List Bal} {b : Bal} {w : World} {e : Ending} {w' : World} (h : CastPost S V b w e w') : ∃ pS cS pV cV S' V' c, e = .returned (.tuple #[.agg #[.slice pS S'.length cS, .slice pV V'.length cV], .int .i64 c]) ∧ CastRel S V b S' V' c ∧
    RowE encS w' (.slice pS S'.length cS) S' ∧ RowE encB w' (.slice pV V'.length cV) V' ∧ Below w.heap.size w w' := by
  obtain ⟨sv, vv, S', V', c, rfl, h1, h2, h3, h4⟩ := h
  obtain ⟨pS, cS, rfl, _, _⟩ := RowE.shape encS h2
  obtain ⟨pV, cV, rfl, _, _⟩ := RowE.shape encB h3
  exact ⟨pS, cS, pV, cV, S', V', c, rfl, h1, h2, h3, h4⟩

abbrev adA : ByteArray := ⟨#[97, 97, 97, 97, 97, 97, 97, 97, 97, 97, 97, 97, 97, 97, 97, 97, 97, 97, 97, 97]⟩
abbrev adB : ByteArray := ⟨#[98, 98, 98, 98, 98, 98, 98, 98, 98, 98, 98, 98, 98, 98, 98, 98, 98, 98, 98, 98]⟩

set_option maxRecDepth 100000 in
set_option maxHeartbeats 2000000 in
theorem alive_any (w : World) : Calls Try.prog 8 #[] w fun e w' => e = .returned (.bool true) ∧ Below w.heap.size w w' := by
  have hS : RowE encS (w.alloc (.cells #[.string adA] 9)) (.slice (some ⟨w.heap.size, 0, none⟩) 1 1) [adA] := OwnE.row encS (OwnE.lit encS (T := 9) (Nat.le_refl w.heap.size) adA #[.string adA] rfl)
  have KC := cast_any (.slice (some ⟨w.heap.size, 0, none⟩) 1 1) (.slice none 0 0) [adA] [] (adA, adB, true) _ hS (.inl ⟨rfl, rfl⟩) (by simp) (by simp)
  have HB := Lib.hid (belowA w (.cells #[.string adA] 9))
  have KC := Lib.hid KC
  clear hS
  go_enter Try.func8, Try.ntmps8
  go_upto_region 2 with (fail)
  refine KC.out.mono ?_
  intro e w2 hp
  obtain ⟨pS, cS, pV, cV, S', V', c, rfl, h1, h2, h3, h4⟩ := hp.parts
  obtain ⟨rfl, hl, rfl, hr⟩ := alive_cast (by decide) (by decide) (by decide) h1
  have HR := Lib.hid hr
  have HB2 := Lib.hid (HB.out.trans (h4.mono HB.out.size))
  have hv0 : (RowE encB w2 (.slice pV 0 cV) []) := h3
  have hA := belowA w2 (.cells #[.slice pS S'.length cS, .slice pV 0 cV] 25)
  have KR := right_any (.slice pS S'.length cS) (.slice pV 0 cV) S' [] _ (RowE.below encS h2 hA (Nat.le_refl _)) (RowE.below encB hv0 hA (Nat.le_refl _)) (by simp) (by omega)
  rw [rightL_true hr] at KR
  have KR := Lib.hid KR
  have R := Lib.hid (RowAt.new w2 #[.slice pS S'.length cS, .slice pV 0 cV] 25)
  have HB3 := Lib.hid (HB2.out.alloc HB2.out.size (.cells #[.slice pS S'.length cS, .slice pV 0 cV] 25))
  have hlq : ((S'.length : Int) == 2) = true := by simp [hl]
  simp only [List.length_nil]
  have HL := Lib.hid hl
  clear hp h1 h2 h3 h4 hl KC hv0 hA HB HB2 HR
  go_upto_region 2 with (fail)
  obtain ⟨a0, a1, af0, af1⟩ := R.out.c2
  go_wp2_with (go_at_call 9; refine KR.out.mono ?_; rintro e w5 ⟨rfl, hb5⟩; have HB5 := Lib.hid (HB3.out.trans (hb5.mono HB3.out.size)); clear hb5)
  go_ret
  trace_state
  exact ⟨rfl, HB5.out⟩
end Go.Proofs.Ytlljpnbajgcidaa
