/- HeaderBytes: for every input the law returns true, and each argument reads as it did. No condition. -/
import Derived.Test.YthipnbiilobjeaaHBytes
namespace Go.Proofs.Ythipnbiilobjeaa
open Go.ChangeShapes Go.WideShapes Go.ChangeAt Go.RowKit
open Go.ChangeMaps (open_string)

set_option maxRecDepth 100000 in
theorem headerBytes_calls (H : Type) (enc : TypeId × Value → H) (W : World) (args : Array Value) (ds : List (DataW H)) (p : List MemPlace)
    (T : Told enc Try.prog Try.f5.params.toList W args.toList ds p) :
    Calls Try.prog 5 args W fun e W' => e = .returned (.bool true) ∧ Below W.heap.size W W' := by
  obtain ⟨hA, ⟨base, hval⟩, hlt, hsmall⟩ := T
  rw [Try.params5] at hA hval hsmall
  obtain ⟨v0, vs0, d0, ds0, p0, q0, hargs, rfl, rfl, h0, r0⟩ := trodAll_cons hA
  obtain ⟨rfl, rfl, rfl⟩ := trodAll_nil r0
  rw [hargs] at hval
  obtain rfl : args = #[v0] := by cases args; simp_all
  obtain ⟨a0, w0⟩ : ∃ x, HdRep W v0 x := hdr_open (hval 0 36 v0 rfl rfl) h0 (fun x hx => hlt x (by simp [hx]))
  exact headerBytes_walk W v0 a0 w0

set_option maxRecDepth 100000 in
theorem headerBytes_lifted (os : Os) (started : os.Started) (H : Type) (enc : TypeId × Value → H) :
    ReturnsInHanded {} Try.checked os 5 .any (Rows.headerBytesSpec.pre6 enc Try.prog Try.f5 Rows.headerBytesRow.domain false) (Rows.headerBytesSpec.post enc Try.prog Try.f5 false true false false) :=
  law_lifted (C := Try.checked) os started Try.own (by kernel_rfl) Try.func5
    (ChangeSpec.witness6 (enc := enc) (C := Try.checked) false ⟨#[], #[.agg #[.string ⟨#[]⟩, .int .u64 0, .string ⟨#[]⟩, .string ⟨#[]⟩, .string ⟨#[]⟩, .string ⟨#[]⟩, .slice none 0 0, .string ⟨#[]⟩, .bool false, .int .u64 0, .slice none 0 0]], []⟩ 20 (by kernel_rfl) (by kernel_rfl) (by kernel_rfl) (by kernel_rfl))
    Try.laidOut (by kernel_rfl) rfl Try.underlying4 rfl
    (fun ds h => by match ds, h with | [_], _ => rfl)
    (fun W args ds p T => headerBytes_calls H enc W args ds p T)

/-- For every input the law returns true. -/
theorem headerBytes_holds : Rows.HeaderBytesSaid :=
  OpenClaim.holds_of_wide 5 Try.f5 rfl rfl rfl rfl rfl rfl rfl ⟨rfl, rfl, rfl, rfl, rfl⟩ rfl rfl rfl rfl rfl (by kernel_rfl) Try.func5 (by kernel_rfl)
    (of_decide_eq_true (by kernel_rfl)) (by unfold Func.isWrapper; first | (rw [if_pos (by decide +kernel)]; kernel_rfl) | (rw [if_neg (by decide +kernel)]; exact ⟨rfl, rfl⟩))
    (fun os started H enc _ => headerBytes_lifted os started H enc)
#print axioms headerBytes_holds
end Go.Proofs.Ythipnbiilobjeaa
