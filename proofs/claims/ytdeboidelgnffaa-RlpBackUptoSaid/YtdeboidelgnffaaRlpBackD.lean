/- RlpBack: for every input of bulk at most the given bound the law returns true, and each argument reads as it did. Condition: what comes in holds together at most 1048576 values and letters. -/
import Derived.Test.YtdeboidelgnffaaRlpBack
import Derived.Test.YtdeboidelgnffaaLawU
namespace Go.Proofs.Ytdeboidelgnffaa
open Go.ChangeShapes Go.WideShapes Go.ChangeAt Go.RowKit
open Go.ChangeMaps (open_string)

theorem rlpBack_calls (H : Type) (enc : TypeId × Value → H) (W : World) (args : Array Value) (ds : List (DataW H)) (p : List MemPlace)
    (T : ToldUpto enc Try.prog Try.f9.params.toList W args.toList ds p) :
    Calls Try.prog 9 args W fun e W' => e = .returned (.bool true) ∧ Below W.heap.size W W' := by
  obtain ⟨hA, ⟨base, hval⟩, hlt, hsmall⟩ := T
  rw [Try.params9] at hA hval
  obtain ⟨v0, vs0, d0, ds0, p0, q0, hargs, rfl, rfl, h0, r0⟩ := trodAll_cons hA
  obtain ⟨v1, vs1, d1, ds1, p1, q1, rfl, rfl, rfl, h1, r1⟩ := trodAll_cons r0
  obtain ⟨rfl, rfl, rfl⟩ := trodAll_nil r1
  rw [hargs] at hval
  obtain rfl : args = #[v0, v1] := by cases args; simp_all
  have hbulk := of_decide_eq_true hsmall
  simp only [Rows.uptoBulkAll] at hbulk
  obtain ⟨a0, w0, b0⟩ := item_open (hval 0 24 v0 rfl rfl) h0 (fun x hx => hlt x (by simp [hx]))
  obtain ⟨a1, rfl, rfl, rfl, w1⟩ := open_string Try.underlying9 (hval 1 9 v1 rfl rfl) h1
  exact rlpBack_walk W v0 a0 w0 (by have := write_le a0 (by omega); omega) a1 w1

set_option maxRecDepth 100000 in
theorem rlpBack_lifted (os : Os) (started : os.Started) (H : Type) (enc : TypeId × Value → H) (F : Stop.Interp) :
    ReturnsInHanded {} Try.checked os 9 .any ((Rows.OpenSpec.upto Rows.rlpBackSpec).pre6 enc Try.prog Try.f9 Rows.rlpBackUptoRow.domain false) (((Rows.OpenSpec.upto Rows.rlpBackSpec).at F).post enc Try.prog Try.f9 false true false false) :=
  law_lifted_upto (C := Try.checked) os started F Try.own (by kernel_rfl) Try.func9
    (OpenSpec.witness (enc := enc) (C := Try.checked) (s := Rows.OpenSpec.upto Rows.rlpBackSpec) (k := Rows.uptoSmall) rfl false ⟨#[], #[.agg #[.bool false, .string ⟨#[]⟩, .slice none 0 0], .string ⟨#[]⟩], []⟩ 20 (by kernel_rfl) (by kernel_rfl) (by kernel_rfl)
      (x := ([.agg [.lit (.bool false), .lit (.string []), .nil], .lit (.string [])], [], [])) (by kernel_rfl) rfl (by kernel_rfl))
    Try.laidOut (by kernel_rfl) rfl Try.underlying4 rfl
    (fun ds h => by match ds, h with | [_, _], _ => rfl)
    (fun W args ds p T => rlpBack_calls H enc W args ds p T)

/-- For every input of bulk at most the bound the law returns true. -/
theorem rlpBack_holds : Rows.RlpBackUptoSaid :=
  OpenClaim.holds_of_cond 9 Try.f9 rfl rfl rfl rfl rfl rfl rfl ⟨rfl, rfl, rfl, rfl, rfl⟩ rfl rfl rfl rfl rfl (by kernel_rfl) Try.func9 (by kernel_rfl)
    (of_decide_eq_true (by kernel_rfl)) (by unfold Func.isWrapper; first | (rw [if_pos (by decide +kernel)]; kernel_rfl) | (rw [if_neg (by decide +kernel)]; exact ⟨rfl, rfl⟩))
    (fun os started H enc _ F => rlpBack_lifted os started H enc F)
#print axioms rlpBack_holds
end Go.Proofs.Ytdeboidelgnffaa
