/-
  No cell of these rows narrows 'for every input' (looked for: loops, veiled, ifaces, maps, wideKeys, modest, calm, conditions, laid).
  DERIVED. THE GIVEN ROWS OF THIS SEAT. 4 by the template 'for every input the law returns true; each argument reads behind the call as it read before'; 0 by the template 'total and deterministic' (their statements: YtlljpnbajgcidaaTotals.lean).
  GIVEN WITH THE SEED: the statements are not yours to turn. If you find one false, say at which input.
  Laid BY PROGRAM, IN A SANDBOX (cutbox-rows.mjs): the forced cells as the released guide's own fill.sh prints them over the translation e4dc30c42d1f0d24… (all of the seat's roots in one cut). By AI agents, Wed Nov 11 2026. No macro, syntax, notation, axiom, sorry.
-/
import Derived.Test.YtlljpnbajgcidaaChecked
import GoSem.Claim
import GoSem.ClaimJoined
import GoSem.ClaimMapViews
import Derived.JoinedTies
import Derived.KernelRfl
namespace Go.Proofs.Ytlljpnbajgcidaa
/- THE CELL 'sum', in the pinned program and in every row, IS THE sha256 OF THE DUMP (.gsa) THAT YtlljpnbajgcidaaProg.lean LOADS. Nothing in Lean hashes anything: it is a label: what it is worth is what the hold of that sum in a sandbox is worth. -/
noncomputable def Try.pinned : Pinned := { name := "ytlljpnbajgcidaa", sum := "e4dc30c42d1f0d24365575451a35faf23e1f2441ca4da31ae3e9486dbd42f124", checked := Try.checked }
namespace Rows
def none {H : Type} : Left H := { results := [], args := [] }

/-- 'ecclesialaw19.VoteKeeps': WHATEVER THE INPUT: true; the input reads as it did. -/
def voteKeepsSpec : ChangeSpec := { name := "voteKeeps", fn := fun _ => fun
  | [d1, d2] => { results := [.lit (.bool true)], args := [d1, d2] }
  | _ => none }
def voteKeepsRow : OpenClaim := { program := "ytlljpnbajgcidaa", sum := "e4dc30c42d1f0d24365575451a35faf23e1f2441ca4da31ae3e9486dbd42f124", func := "ecclesia/ecclesialaw19.VoteKeeps", spec := "voteKeeps", inPlace := ["internal/bytealg.abigen_runtime_cmpstring", "slices.overlaps[ecclesia/api.Ballot]", "slices.overlaps[string]"], unfollowed := true, recurses := true, apart := false }
def VoteKeepsSaid : Prop := voteKeepsRow.holds Try.pinned (OpenSpec.ofChange voteKeepsSpec)

/-- ITS FALSE NEIGHBOUR: 'it returns false'. Refute it at one input. -/
def voteKeepsWrong : ChangeSpec := { name := "voteKeeps", fn := fun _ => fun
  | [d1, d2] => { results := [.lit (.bool false)], args := [d1, d2] }
  | _ => none }
def VoteKeepsWrongFalsely : Prop := voteKeepsRow.holds Try.pinned (OpenSpec.ofChange voteKeepsWrong)

/-- 'ecclesialaw19.VoteOrder': WHATEVER THE INPUT: true; the input reads as it did. -/
def voteOrderSpec : ChangeSpec := { name := "voteOrder", fn := fun _ => fun
  | [d1, d2, d3] => { results := [.lit (.bool true)], args := [d1, d2, d3] }
  | _ => none }
def voteOrderRow : OpenClaim := { program := "ytlljpnbajgcidaa", sum := "e4dc30c42d1f0d24365575451a35faf23e1f2441ca4da31ae3e9486dbd42f124", func := "ecclesia/ecclesialaw19.VoteOrder", spec := "voteOrder", inPlace := ["internal/bytealg.abigen_runtime_cmpstring", "slices.overlaps[ecclesia/api.Ballot]", "slices.overlaps[string]"], unfollowed := true, recurses := true, apart := false }
def VoteOrderSaid : Prop := voteOrderRow.holds Try.pinned (OpenSpec.ofChange voteOrderSpec)

/-- ITS FALSE NEIGHBOUR: 'it returns false'. Refute it at one input. -/
def voteOrderWrong : ChangeSpec := { name := "voteOrder", fn := fun _ => fun
  | [d1, d2, d3] => { results := [.lit (.bool false)], args := [d1, d2, d3] }
  | _ => none }
def VoteOrderWrongFalsely : Prop := voteOrderRow.holds Try.pinned (OpenSpec.ofChange voteOrderWrong)

/-- 'ecclesialaw19.VoteCalls': WHATEVER THE INPUT: true; the input reads as it did. -/
def voteCallsSpec : ChangeSpec := { name := "voteCalls", fn := fun _ => fun
  | [d1, d2] => { results := [.lit (.bool true)], args := [d1, d2] }
  | _ => none }
def voteCallsRow : OpenClaim := { program := "ytlljpnbajgcidaa", sum := "e4dc30c42d1f0d24365575451a35faf23e1f2441ca4da31ae3e9486dbd42f124", func := "ecclesia/ecclesialaw19.VoteCalls", spec := "voteCalls", inPlace := ["internal/bytealg.abigen_runtime_cmpstring", "slices.overlaps[ecclesia/api.Ballot]", "slices.overlaps[string]"], unfollowed := true, recurses := true, apart := false }
def VoteCallsSaid : Prop := voteCallsRow.holds Try.pinned (OpenSpec.ofChange voteCallsSpec)

/-- ITS FALSE NEIGHBOUR: 'it returns false'. Refute it at one input. -/
def voteCallsWrong : ChangeSpec := { name := "voteCalls", fn := fun _ => fun
  | [d1, d2] => { results := [.lit (.bool false)], args := [d1, d2] }
  | _ => none }
def VoteCallsWrongFalsely : Prop := voteCallsRow.holds Try.pinned (OpenSpec.ofChange voteCallsWrong)

/-- 'ecclesialaw19.VoteAgain': WHATEVER THE INPUT: true; the input reads as it did. -/
def voteAgainSpec : ChangeSpec := { name := "voteAgain", fn := fun _ => fun
  | [d1, d2] => { results := [.lit (.bool true)], args := [d1, d2] }
  | _ => none }
def voteAgainRow : OpenClaim := { program := "ytlljpnbajgcidaa", sum := "e4dc30c42d1f0d24365575451a35faf23e1f2441ca4da31ae3e9486dbd42f124", func := "ecclesia/ecclesialaw19.VoteAgain", spec := "voteAgain", inPlace := ["internal/bytealg.abigen_runtime_cmpstring", "slices.overlaps[ecclesia/api.Ballot]", "slices.overlaps[string]"], unfollowed := true, recurses := true, apart := false }
def VoteAgainSaid : Prop := voteAgainRow.holds Try.pinned (OpenSpec.ofChange voteAgainSpec)

/-- ITS FALSE NEIGHBOUR: 'it returns false'. Refute it at one input. -/
def voteAgainWrong : ChangeSpec := { name := "voteAgain", fn := fun _ => fun
  | [d1, d2] => { results := [.lit (.bool false)], args := [d1, d2] }
  | _ => none }
def VoteAgainWrongFalsely : Prop := voteAgainRow.holds Try.pinned (OpenSpec.ofChange voteAgainWrong)

/- THE SECOND FORM. 'bulk': how many values and letters a reading holds, each counted each time it is reached (what is shared counts as often as it is met; a slice's spare places count too). A statement '..UptoSaid' is the law's where the arguments, and the package variables that the reading takes, are together of bulk at most 1048576: NARROWER than '..Said'. Prove '..Said' where nothing that the law and all that it calls make is longer than what came in: it says more and counts as full. Else prove '..UptoSaid'. A law counts once. -/
mutual
def uptoBulk {H : Type} : DataW H → Nat
  | .lit (.string bytes) => bytes.length + 1
  | .lit _ => 1
  | .nil => 1
  | .ptr d => uptoBulk d + 1
  | .slice elems spare => uptoBulkAll elems + uptoBulkAll spare + 1
  | .agg parts => uptoBulkAll parts + 1
  | .iface _ d => uptoBulk d + 1
  | .map entries => uptoBulkEntries entries + 1
  | .held _ => 1
def uptoBulkAll {H : Type} : List (DataW H) → Nat
  | [] => 0
  | d :: r => uptoBulk d + uptoBulkAll r
def uptoBulkEntries {H : Type} : List (Lit × DataW H) → Nat
  | [] => 0
  | x :: r => uptoBulkEntry x + uptoBulkEntries r
def uptoBulkEntry {H : Type} : Lit × DataW H → Nat
  | (.string bytes, d) => bytes.length + uptoBulk d + 1
  | (_, d) => uptoBulk d + 1
 end
def uptoSmall : (H : Type) → List (DataW H) → Bool := fun _ ds => decide (uptoBulkAll ds ≤ 1048576)
def OpenSpec.upto (s : _root_.Go.ChangeSpec) : _root_.Go.OpenSpec := { _root_.Go.OpenSpec.ofChange s with cond := some uptoSmall }

/-- 'ecclesialaw19.VoteKeeps', WHERE WHAT IT READS IS OF BULK AT MOST 1048576: true; the input reads as it did. -/
def voteKeepsUptoRow : OpenClaim := { program := "ytlljpnbajgcidaa", sum := "e4dc30c42d1f0d24365575451a35faf23e1f2441ca4da31ae3e9486dbd42f124", func := "ecclesia/ecclesialaw19.VoteKeeps", spec := "voteKeeps", inPlace := ["internal/bytealg.abigen_runtime_cmpstring", "slices.overlaps[ecclesia/api.Ballot]", "slices.overlaps[string]"], unfollowed := true, recurses := true, apart := false, narrowed := true }
def VoteKeepsUptoSaid : Prop := voteKeepsUptoRow.holds Try.pinned (OpenSpec.upto voteKeepsSpec)

/-- 'ecclesialaw19.VoteOrder', WHERE WHAT IT READS IS OF BULK AT MOST 1048576: true; the input reads as it did. -/
def voteOrderUptoRow : OpenClaim := { program := "ytlljpnbajgcidaa", sum := "e4dc30c42d1f0d24365575451a35faf23e1f2441ca4da31ae3e9486dbd42f124", func := "ecclesia/ecclesialaw19.VoteOrder", spec := "voteOrder", inPlace := ["internal/bytealg.abigen_runtime_cmpstring", "slices.overlaps[ecclesia/api.Ballot]", "slices.overlaps[string]"], unfollowed := true, recurses := true, apart := false, narrowed := true }
def VoteOrderUptoSaid : Prop := voteOrderUptoRow.holds Try.pinned (OpenSpec.upto voteOrderSpec)

/-- 'ecclesialaw19.VoteCalls', WHERE WHAT IT READS IS OF BULK AT MOST 1048576: true; the input reads as it did. -/
def voteCallsUptoRow : OpenClaim := { program := "ytlljpnbajgcidaa", sum := "e4dc30c42d1f0d24365575451a35faf23e1f2441ca4da31ae3e9486dbd42f124", func := "ecclesia/ecclesialaw19.VoteCalls", spec := "voteCalls", inPlace := ["internal/bytealg.abigen_runtime_cmpstring", "slices.overlaps[ecclesia/api.Ballot]", "slices.overlaps[string]"], unfollowed := true, recurses := true, apart := false, narrowed := true }
def VoteCallsUptoSaid : Prop := voteCallsUptoRow.holds Try.pinned (OpenSpec.upto voteCallsSpec)

/-- 'ecclesialaw19.VoteAgain', WHERE WHAT IT READS IS OF BULK AT MOST 1048576: true; the input reads as it did. -/
def voteAgainUptoRow : OpenClaim := { program := "ytlljpnbajgcidaa", sum := "e4dc30c42d1f0d24365575451a35faf23e1f2441ca4da31ae3e9486dbd42f124", func := "ecclesia/ecclesialaw19.VoteAgain", spec := "voteAgain", inPlace := ["internal/bytealg.abigen_runtime_cmpstring", "slices.overlaps[ecclesia/api.Ballot]", "slices.overlaps[string]"], unfollowed := true, recurses := true, apart := false, narrowed := true }
def VoteAgainUptoSaid : Prop := voteAgainUptoRow.holds Try.pinned (OpenSpec.upto voteAgainSpec)

end Rows
end Go.Proofs.Ytlljpnbajgcidaa
