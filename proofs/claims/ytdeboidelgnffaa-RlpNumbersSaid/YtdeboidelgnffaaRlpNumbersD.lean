/- RlpNumbers: for every input the law returns true, and each argument reads as it did. No condition. -/
import Derived.Test.YtdeboidelgnffaaRlpNumbers
namespace Go.Proofs.Ytdeboidelgnffaa
open Go.ChangeShapes Go.WideShapes Go.ChangeAt Go.RowKit
open Go.ChangeMaps (open_string)

theorem rlpNumbers_calls (H : Type) (enc : TypeId × Value → H) (W : World) (args : Array Value) (ds : List (DataW H)) (p : List MemPlace)
    (T : Told enc Try.prog Try.f7.params.toList W args.toList ds p) :
    Calls Try.prog 7 args W fun e W' => e = .returned (.bool true) ∧ Below W.heap.size W W' := by
  obtain ⟨hA, ⟨base, hval⟩, hlt, hsmall⟩ := T
  rw [Try.params7] at hA hval hsmall
  obtain ⟨v0, vs0, d0, ds0, p0, q0, hargs, rfl, rfl, h0, r0⟩ := trodAll_cons hA
  obtain ⟨v1, vs1, d1, ds1, p1, q1, rfl, rfl, rfl, h1, r1⟩ := trodAll_cons r0
  obtain ⟨rfl, rfl, rfl⟩ := trodAll_nil r1
  rw [hargs] at hval
  obtain rfl : args = #[v0, v1] := by cases args; simp_all
  obtain ⟨a0, rfl, rfl, rfl, w0⟩ := open_int Try.underlying35 (hval 0 35 v0 rfl rfl) h0
  obtain ⟨a1, w1⟩ : ∃ x, ItemV W v1 x := item_openS (hval 1 24 v1 rfl rfl) h1 (fun x hx => hlt x (by simp [hx]))
  exact rlpNumbers_walk W a0 w0 v1 a1 w1

set_option maxRecDepth 100000 in
theorem rlpNumbers_lifted (os : Os) (started : os.Started) (H : Type) (enc : TypeId × Value → H) :
    ReturnsInHanded {} Try.checked os 7 .any (Rows.rlpNumbersSpec.pre6 enc Try.prog Try.f7 Rows.rlpNumbersRow.domain false) (Rows.rlpNumbersSpec.post enc Try.prog Try.f7 false true false false) :=
  law_lifted (C := Try.checked) os started Try.own (by kernel_rfl) Try.func7
    (ChangeSpec.witness6 (enc := enc) (C := Try.checked) false ⟨#[], #[.int .u64 0, .agg #[.bool false, .string ⟨#[]⟩, .slice none 0 0]], []⟩ 20 (by kernel_rfl) (by kernel_rfl) (by kernel_rfl) (by kernel_rfl))
    Try.laidOut (by kernel_rfl) rfl Try.underlying4 rfl
    (fun ds h => by match ds, h with | [_, _], _ => rfl)
    (fun W args ds p T => rlpNumbers_calls H enc W args ds p T)

/-- For every input the law returns true. -/
theorem rlpNumbers_holds : Rows.RlpNumbersSaid :=
  OpenClaim.holds_of_wide 7 Try.f7 rfl rfl rfl rfl rfl rfl rfl ⟨rfl, rfl, rfl, rfl, rfl⟩ rfl rfl rfl rfl rfl (by kernel_rfl) Try.func7 (by kernel_rfl)
    (of_decide_eq_true (by kernel_rfl)) (by unfold Func.isWrapper; first | (rw [if_pos (by decide +kernel)]; kernel_rfl) | (rw [if_neg (by decide +kernel)]; exact ⟨rfl, rfl⟩))
    (fun os started H enc _ => rlpNumbers_lifted os started H enc)
#print axioms rlpNumbers_holds
end Go.Proofs.Ytdeboidelgnffaa
