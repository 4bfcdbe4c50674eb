/- RlpLists: for every input of bulk at most the given bound the law returns true, and each argument reads as it did. Condition: what comes in holds together at most 1048576 values and letters. -/
import Derived.Test.YtdeboidelgnffaaRlpLists
import Derived.Test.YtdeboidelgnffaaLawU
namespace Go.Proofs.Ytdeboidelgnffaa
open Go.ChangeShapes Go.WideShapes Go.ChangeAt Go.RowKit
open Go.ChangeMaps (open_string)

theorem rlpLists_calls (H : Type) (enc : TypeId × Value → H) (W : World) (args : Array Value) (ds : List (DataW H)) (p : List MemPlace)
    (T : ToldUpto enc Try.prog Try.f6.params.toList W args.toList ds p) :
    Calls Try.prog 6 args W fun e W' => e = .returned (.bool true) ∧ Below W.heap.size W W' := by
  obtain ⟨hA, ⟨base, hval⟩, hlt, hsmall⟩ := T
  rw [Try.params6] at hA hval
  obtain ⟨v0, vs0, d0, ds0, p0, q0, hargs, rfl, rfl, h0, r0⟩ := trodAll_cons hA
  obtain ⟨rfl, rfl, rfl⟩ := trodAll_nil r0
  rw [hargs] at hval
  obtain rfl : args = #[v0] := by cases args; simp_all
  have hbulk := of_decide_eq_true hsmall
  simp only [Rows.uptoBulkAll] at hbulk
  obtain ⟨a0, w0, b0⟩ := kids_open (hval 0 22 v0 rfl rfl) h0 (fun x hx => hlt x (by simp [hx]))
  exact rlpLists_walk W v0 a0 w0 (by omega)

set_option maxRecDepth 100000 in
theorem rlpLists_lifted (os : Os) (started : os.Started) (H : Type) (enc : TypeId × Value → H) (F : Stop.Interp) :
    ReturnsInHanded {} Try.checked os 6 .any ((Rows.OpenSpec.upto Rows.rlpListsSpec).pre6 enc Try.prog Try.f6 Rows.rlpListsUptoRow.domain false) (((Rows.OpenSpec.upto Rows.rlpListsSpec).at F).post enc Try.prog Try.f6 false true false false) :=
  law_lifted_upto (C := Try.checked) os started F Try.own (by kernel_rfl) Try.func6
    (OpenSpec.witness (enc := enc) (C := Try.checked) (s := Rows.OpenSpec.upto Rows.rlpListsSpec) (k := Rows.uptoSmall) rfl false ⟨#[], #[.slice none 0 0], []⟩ 20 (by kernel_rfl) (by kernel_rfl) (by kernel_rfl)
      (x := ([.nil], [], [])) (by kernel_rfl) rfl (by kernel_rfl))
    Try.laidOut (by kernel_rfl) rfl Try.underlying4 rfl
    (fun ds h => by match ds, h with | [_], _ => rfl)
    (fun W args ds p T => rlpLists_calls H enc W args ds p T)

/-- For every input of bulk at most the bound the law returns true. -/
theorem rlpLists_holds : Rows.RlpListsUptoSaid :=
  OpenClaim.holds_of_cond 6 Try.f6 rfl rfl rfl rfl rfl rfl rfl ⟨rfl, rfl, rfl, rfl, rfl⟩ rfl rfl rfl rfl rfl (by kernel_rfl) Try.func6 (by kernel_rfl)
    (of_decide_eq_true (by kernel_rfl)) (by unfold Func.isWrapper; first | (rw [if_pos (by decide +kernel)]; kernel_rfl) | (rw [if_neg (by decide +kernel)]; exact ⟨rfl, rfl⟩))
    (fun os started H enc _ F => rlpLists_lifted os started H enc F)
#print axioms rlpLists_holds
end Go.Proofs.Ytdeboidelgnffaa
