/- Vote: a few validators and votes, as the laws take them. -/
import Derived.Test.YtlljpnbajgcidaaVo25
import Derived.Test.YtlljpnbajgcidaaVoRep
namespace Go.Proofs.Ytlljpnbajgcidaa
open Go.RowKit Go.Shelf

theorem few_use {w : World} {v : Value} {x : List ByteArray × List Bal} (hx : SnapRep w v x) : ∃ (pS pV : Option Addr) (cS cV n1 n2 : Nat) (S : List ByteArray) (V : List Bal), v = .agg #[.slice pS n1 cS, .slice pV n2 cV] ∧ S.length ≤ 20 ∧ V.length ≤ 60 ∧ RS w (.slice pS S.length cS) S ∧ RB w (.slice pV V.length cV) V ∧
    ∀ W : World, Calls Try.prog 12 #[.agg #[.slice pS n1 cS, .slice pV n2 cV]] W fun e w' => e = .returned (.agg #[.slice pS S.length cS, .slice pV V.length cV]) ∧ Below W.heap.size W w' := by
  obtain ⟨sv, vv, rfl, hS, hV⟩ := hx
  obtain ⟨pS, cS, rfl, s1, s2⟩ := RowE.shape encS hS
  obtain ⟨pV, cV, rfl, s3, s4⟩ := RowE.shape encB hV
  obtain ⟨m1, h1⟩ := minIs_ex 20 (by omega) x.1.length
  obtain ⟨m2, h2⟩ := minIs_ex 60 (by omega) x.2.length
  have e1 : (x.1.take m1).length = m1 := by have := h1.2.1; simp; omega
  have e2 : (x.2.take m2).length = m2 := by have := h2.2.1; simp; omega
  refine ⟨pS, pV, cS, cV, _, _, x.1.take m1, x.2.take m2, rfl, by have := h1.2.2; omega, by have := h2.2.2; omega, ?_, ?_, fun W => ?_⟩
  · rw [e1]; exact RowE.take encS hS h1.2.1
  · rw [e2]; exact RowE.take encB hV h2.2.1
  · rw [e1, e2]; exact few_any pS pV cS cV x.1 x.2 W s1 s2 s3 s4 m1 m2 h1 h2

theorem CastPost.parts2 {S : List ByteArray} {V : List Bal} {b : Bal} {w : World} {e : Ending} {w' : World} (h : CastPost S V b w e w') : ∃ pS cS pV cV S' V' c, e = .returned (.tuple #[.agg #[.slice pS S'.length cS, .slice pV V'.length cV], .int .i64 c]) ∧ Hid (CastRel S V b S' V' c) ∧
    Hid (RS w' (.slice pS S'.length cS) S') ∧ Hid (RB w' (.slice pV V'.length cV) V') ∧ Below w.heap.size w w' := by
  obtain ⟨pS, cS, pV, cV, S', V', c, h0, h1, h2, h3, h4⟩ := h.parts
  exact ⟨pS, cS, pV, cV, S', V', c, h0, Lib.hid h1, Lib.hid h2, Lib.hid h3, h4⟩

theorem castRel_len {S S' : List ByteArray} {V V' : List Bal} {b : Bal} {c : Int} (h : CastRel S V b S' V' c) (h1 : S.length ≤ 20) (h2 : V.length ≤ 99000) : S'.length ≤ 20 ∧ V'.length ≤ V.length + 1 := by
  rcases h.cases with ⟨_, rfl, rfl, _⟩ | ⟨_, _, rfl, rfl, _⟩ | ⟨_, h⟩
  · simp
  · simp
  · have := h.right.1.2.2.2
    exact ⟨by omega, taken_len h⟩
end Go.Proofs.Ytlljpnbajgcidaa
