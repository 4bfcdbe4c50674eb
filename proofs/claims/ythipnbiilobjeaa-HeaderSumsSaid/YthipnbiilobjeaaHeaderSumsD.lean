/- HeaderSums: for every input the law returns true, and each argument reads as it did. No condition. -/
import Derived.Test.YthipnbiilobjeaaHuSums
import Derived.Test.YthipnbiilobjeaaLaw
namespace Go.Proofs.Ythipnbiilobjeaa
open Go.ChangeShapes Go.WideShapes Go.ChangeAt Go.RowKit
open Go.ChangeMaps (open_string)

set_option maxRecDepth 100000 in
theorem headerSums_calls (H : Type) (enc : TypeId × Value → H) (W : World) (args : Array Value) (ds : List (DataW H)) (p : List MemPlace)
    (T : Told enc Try.prog Try.f6.params.toList W args.toList ds p) :
    Calls Try.prog 6 args W fun e W' => e = .returned (.bool true) ∧ Below W.heap.size W W' := by
  obtain ⟨hA, ⟨base, hval⟩, hlt, hsmall⟩ := T
  rw [Try.params6] at hA hval hsmall
  obtain ⟨v0, vs0, d0, ds0, p0, q0, hargs, rfl, rfl, h0, r0⟩ := trodAll_cons hA
  obtain ⟨v1, vs1, d1, ds1, p1, q1, rfl, rfl, rfl, h1, r1⟩ := trodAll_cons r0
  obtain ⟨v2, vs2, d2, ds2, p2, q2, rfl, rfl, rfl, h2, r2⟩ := trodAll_cons r1
  obtain ⟨rfl, rfl, rfl⟩ := trodAll_nil r2
  rw [hargs] at hval
  obtain rfl : args = #[v0, v1, v2] := by cases args; simp_all
  obtain ⟨a0, w0⟩ : ∃ x, HdRep W v0 x := hdr_open (hval 0 36 v0 rfl rfl) h0 (fun x hx => hlt x (by simp [hx]))
  obtain ⟨a1, rfl, rfl, rfl, w1⟩ := open_int Try.underlying32 (hval 1 32 v1 rfl rfl) h1
  obtain ⟨a2, w2⟩ : ∃ x, SigsRep W v2 x := sgs_open (hval 2 34 v2 rfl rfl) h2 (fun x hx => hlt x (by simp [hx]))
  exact headerSums_walk W v0 a0 w0 a1 ⟨(u64_bd w1).1, by have := (u64_bd w1).2; omega⟩ v2 a2 w2

set_option maxRecDepth 100000 in
theorem headerSums_lifted (os : Os) (started : os.Started) (H : Type) (enc : TypeId × Value → H) :
    ReturnsInHanded {} Try.checked os 6 .any (Rows.headerSumsSpec.pre6 enc Try.prog Try.f6 Rows.headerSumsRow.domain false) (Rows.headerSumsSpec.post enc Try.prog Try.f6 false true false false) :=
  law_lifted (C := Try.checked) os started Try.own (by kernel_rfl) Try.func6
    (ChangeSpec.witness6 (enc := enc) (C := Try.checked) false ⟨#[], #[.agg #[.string ⟨#[]⟩, .int .u64 0, .string ⟨#[]⟩, .string ⟨#[]⟩, .string ⟨#[]⟩, .string ⟨#[]⟩, .slice none 0 0, .string ⟨#[]⟩, .bool false, .int .u64 0, .slice none 0 0], .int .u64 0, .slice none 0 0], []⟩ 20 (by kernel_rfl) (by kernel_rfl) (by kernel_rfl) (by kernel_rfl))
    Try.laidOut (by kernel_rfl) rfl Try.underlying4 rfl
    (fun ds h => by match ds, h with | [_, _, _], _ => rfl)
    (fun W args ds p T => headerSums_calls H enc W args ds p T)

/-- For every input the law returns true. -/
theorem headerSums_holds : Rows.HeaderSumsSaid :=
  OpenClaim.holds_of_wide 6 Try.f6 rfl rfl rfl rfl rfl rfl rfl ⟨rfl, rfl, rfl, rfl, rfl⟩ rfl rfl rfl rfl rfl (by kernel_rfl) Try.func6 (by kernel_rfl)
    (of_decide_eq_true (by kernel_rfl)) (by unfold Func.isWrapper; first | (rw [if_pos (by decide +kernel)]; kernel_rfl) | (rw [if_neg (by decide +kernel)]; exact ⟨rfl, rfl⟩))
    (fun os started H enc _ => headerSums_lifted os started H enc)
#print axioms headerSums_holds
end Go.Proofs.Ythipnbiilobjeaa
