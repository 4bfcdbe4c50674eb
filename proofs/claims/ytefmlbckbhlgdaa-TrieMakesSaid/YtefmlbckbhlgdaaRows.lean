/-
  No cell of these rows narrows 'for every input' (looked for: loops, veiled, ifaces, maps, wideKeys, modest, calm, conditions, laid).
  DERIVED. THE GIVEN ROWS OF THIS SEAT. 4 by the template 'for every input the law returns true; each argument reads behind the call as it read before'; 0 by the template 'total and deterministic' (their statements: YtefmlbckbhlgdaaTotals.lean).
  GIVEN WITH THE SEED: the statements are not yours to turn. If you find one false, say at which input.
  Laid BY PROGRAM, IN A SANDBOX (cutbox-rows.mjs): the forced cells as the released guide's own fill.sh prints them over the translation fe3788b9098f2417… (all of the seat's roots in one cut). By AI agents, Wed Nov 11 2026. No macro, syntax, notation, axiom, sorry.
-/
import Derived.Test.YtefmlbckbhlgdaaChecked
import GoSem.Claim
import GoSem.ClaimJoined
import GoSem.ClaimMapViews
import Derived.JoinedTies
import Derived.KernelRfl
namespace Go.Proofs.Ytefmlbckbhlgdaa
/- THE CELL 'sum', in the pinned program and in every row, IS THE sha256 OF THE DUMP (.gsa) THAT YtefmlbckbhlgdaaProg.lean LOADS. Nothing in Lean hashes anything: it is a label: what it is worth is what the hold of that sum in a sandbox is worth. -/
noncomputable def Try.pinned : Pinned := { name := "ytefmlbckbhlgdaa", sum := "fe3788b9098f2417500ae57e1029bad6d9dfe912f5eeea615763a3dfe68ffc5d", checked := Try.checked }
namespace Rows
def none {H : Type} : Left H := { results := [], args := [] }

/-- 'ecclesialaw17.HeaderReads': WHATEVER THE INPUT: true; the input reads as it did. -/
def headerReadsSpec : ChangeSpec := { name := "headerReads", fn := fun _ => fun
  | [d] => { results := [.lit (.bool true)], args := [d] }
  | _ => none }
def headerReadsRow : OpenClaim := { program := "ytefmlbckbhlgdaa", sum := "fe3788b9098f2417500ae57e1029bad6d9dfe912f5eeea615763a3dfe68ffc5d", func := "ecclesia/ecclesialaw17.HeaderReads", spec := "headerReads", inPlace := ["internal/abi.NoEscape", "math/bits.Sub64", "math/bits.Add64"], unfollowed := true, recurses := true, apart := false }
def HeaderReadsSaid : Prop := headerReadsRow.holds Try.pinned (OpenSpec.ofChange headerReadsSpec)

/-- ITS FALSE NEIGHBOUR: 'it returns false'. Refute it at one input. -/
def headerReadsWrong : ChangeSpec := { name := "headerReads", fn := fun _ => fun
  | [d] => { results := [.lit (.bool false)], args := [d] }
  | _ => none }
def HeaderReadsWrongFalsely : Prop := headerReadsRow.holds Try.pinned (OpenSpec.ofChange headerReadsWrong)

/-- 'ecclesialaw10.TrieGets': WHATEVER THE INPUT: true; the input reads as it did. -/
def trieGetsSpec : ChangeSpec := { name := "trieGets", fn := fun _ => fun
  | [d1, d2, d3] => { results := [.lit (.bool true)], args := [d1, d2, d3] }
  | _ => none }
def trieGetsRow : OpenClaim := { program := "ytefmlbckbhlgdaa", sum := "fe3788b9098f2417500ae57e1029bad6d9dfe912f5eeea615763a3dfe68ffc5d", func := "ecclesia/ecclesialaw10.TrieGets", spec := "trieGets", inPlace := ["internal/bytealg.abigen_runtime_cmpstring", "slices.overlaps[ecclesia/api.Pair]", "internal/abi.NoEscape"], unfollowed := true, recurses := true, apart := false }
def TrieGetsSaid : Prop := trieGetsRow.holds Try.pinned (OpenSpec.ofChange trieGetsSpec)

/-- ITS FALSE NEIGHBOUR: 'it returns false'. Refute it at one input. -/
def trieGetsWrong : ChangeSpec := { name := "trieGets", fn := fun _ => fun
  | [d1, d2, d3] => { results := [.lit (.bool false)], args := [d1, d2, d3] }
  | _ => none }
def TrieGetsWrongFalsely : Prop := trieGetsRow.holds Try.pinned (OpenSpec.ofChange trieGetsWrong)

/-- 'ecclesialaw10.TrieMakes': WHATEVER THE INPUT: true; the input reads as it did. -/
def trieMakesSpec : ChangeSpec := { name := "trieMakes", fn := fun _ => fun
  | [d] => { results := [.lit (.bool true)], args := [d] }
  | _ => none }
def trieMakesRow : OpenClaim := { program := "ytefmlbckbhlgdaa", sum := "fe3788b9098f2417500ae57e1029bad6d9dfe912f5eeea615763a3dfe68ffc5d", func := "ecclesia/ecclesialaw10.TrieMakes", spec := "trieMakes", inPlace := ["internal/bytealg.abigen_runtime_cmpstring", "slices.overlaps[ecclesia/api.Pair]", "internal/abi.NoEscape"], unfollowed := true, recurses := true, apart := false }
def TrieMakesSaid : Prop := trieMakesRow.holds Try.pinned (OpenSpec.ofChange trieMakesSpec)

/-- ITS FALSE NEIGHBOUR: 'it returns false'. Refute it at one input. -/
def trieMakesWrong : ChangeSpec := { name := "trieMakes", fn := fun _ => fun
  | [d] => { results := [.lit (.bool false)], args := [d] }
  | _ => none }
def TrieMakesWrongFalsely : Prop := trieMakesRow.holds Try.pinned (OpenSpec.ofChange trieMakesWrong)

/-- 'ecclesialaw10.TrieWild': WHATEVER THE INPUT: true; the input reads as it did. -/
def trieWildSpec : ChangeSpec := { name := "trieWild", fn := fun _ => fun
  | [d1, d2, d3] => { results := [.lit (.bool true)], args := [d1, d2, d3] }
  | _ => none }
def trieWildRow : OpenClaim := { program := "ytefmlbckbhlgdaa", sum := "fe3788b9098f2417500ae57e1029bad6d9dfe912f5eeea615763a3dfe68ffc5d", func := "ecclesia/ecclesialaw10.TrieWild", spec := "trieWild", inPlace := ["internal/bytealg.abigen_runtime_cmpstring", "slices.overlaps[ecclesia/api.Pair]", "internal/abi.NoEscape"], unfollowed := true, recurses := true, apart := false }
def TrieWildSaid : Prop := trieWildRow.holds Try.pinned (OpenSpec.ofChange trieWildSpec)

/-- ITS FALSE NEIGHBOUR: 'it returns false'. Refute it at one input. -/
def trieWildWrong : ChangeSpec := { name := "trieWild", fn := fun _ => fun
  | [d1, d2, d3] => { results := [.lit (.bool false)], args := [d1, d2, d3] }
  | _ => none }
def TrieWildWrongFalsely : Prop := trieWildRow.holds Try.pinned (OpenSpec.ofChange trieWildWrong)

/- THE SECOND FORM. 'bulk': how many values and letters a reading holds, each counted each time it is reached (what is shared counts as often as it is met; a slice's spare places count too). A statement '..UptoSaid' is the law's where the arguments, and the package variables that the reading takes, are together of bulk at most 1048576: NARROWER than '..Said'. Prove '..Said' where nothing that the law and all that it calls make is longer than what came in: it says more and counts as full. Else prove '..UptoSaid'. A law counts once. -/
mutual
def uptoBulk {H : Type} : DataW H → Nat
  | .lit (.string bytes) => bytes.length + 1
  | .lit _ => 1
  | .nil => 1
  | .ptr d => uptoBulk d + 1
  | .slice elems spare => uptoBulkAll elems + uptoBulkAll spare + 1
  | .agg parts => uptoBulkAll parts + 1
  | .iface _ d => uptoBulk d + 1
  | .map entries => uptoBulkEntries entries + 1
  | .held _ => 1
def uptoBulkAll {H : Type} : List (DataW H) → Nat
  | [] => 0
  | d :: r => uptoBulk d + uptoBulkAll r
def uptoBulkEntries {H : Type} : List (Lit × DataW H) → Nat
  | [] => 0
  | x :: r => uptoBulkEntry x + uptoBulkEntries r
def uptoBulkEntry {H : Type} : Lit × DataW H → Nat
  | (.string bytes, d) => bytes.length + uptoBulk d + 1
  | (_, d) => uptoBulk d + 1
 end
def uptoSmall : (H : Type) → List (DataW H) → Bool := fun _ ds => decide (uptoBulkAll ds ≤ 1048576)
def OpenSpec.upto (s : _root_.Go.ChangeSpec) : _root_.Go.OpenSpec := { _root_.Go.OpenSpec.ofChange s with cond := some uptoSmall }

/-- 'ecclesialaw17.HeaderReads', WHERE WHAT IT READS IS OF BULK AT MOST 1048576: true; the input reads as it did. -/
def headerReadsUptoRow : OpenClaim := { program := "ytefmlbckbhlgdaa", sum := "fe3788b9098f2417500ae57e1029bad6d9dfe912f5eeea615763a3dfe68ffc5d", func := "ecclesia/ecclesialaw17.HeaderReads", spec := "headerReads", inPlace := ["internal/abi.NoEscape", "math/bits.Sub64", "math/bits.Add64"], unfollowed := true, recurses := true, apart := false, narrowed := true }
def HeaderReadsUptoSaid : Prop := headerReadsUptoRow.holds Try.pinned (OpenSpec.upto headerReadsSpec)

/-- 'ecclesialaw10.TrieGets', WHERE WHAT IT READS IS OF BULK AT MOST 1048576: true; the input reads as it did. -/
def trieGetsUptoRow : OpenClaim := { program := "ytefmlbckbhlgdaa", sum := "fe3788b9098f2417500ae57e1029bad6d9dfe912f5eeea615763a3dfe68ffc5d", func := "ecclesia/ecclesialaw10.TrieGets", spec := "trieGets", inPlace := ["internal/bytealg.abigen_runtime_cmpstring", "slices.overlaps[ecclesia/api.Pair]", "internal/abi.NoEscape"], unfollowed := true, recurses := true, apart := false, narrowed := true }
def TrieGetsUptoSaid : Prop := trieGetsUptoRow.holds Try.pinned (OpenSpec.upto trieGetsSpec)

/-- 'ecclesialaw10.TrieMakes', WHERE WHAT IT READS IS OF BULK AT MOST 1048576: true; the input reads as it did. -/
def trieMakesUptoRow : OpenClaim := { program := "ytefmlbckbhlgdaa", sum := "fe3788b9098f2417500ae57e1029bad6d9dfe912f5eeea615763a3dfe68ffc5d", func := "ecclesia/ecclesialaw10.TrieMakes", spec := "trieMakes", inPlace := ["internal/bytealg.abigen_runtime_cmpstring", "slices.overlaps[ecclesia/api.Pair]", "internal/abi.NoEscape"], unfollowed := true, recurses := true, apart := false, narrowed := true }
def TrieMakesUptoSaid : Prop := trieMakesUptoRow.holds Try.pinned (OpenSpec.upto trieMakesSpec)

/-- 'ecclesialaw10.TrieWild', WHERE WHAT IT READS IS OF BULK AT MOST 1048576: true; the input reads as it did. -/
def trieWildUptoRow : OpenClaim := { program := "ytefmlbckbhlgdaa", sum := "fe3788b9098f2417500ae57e1029bad6d9dfe912f5eeea615763a3dfe68ffc5d", func := "ecclesia/ecclesialaw10.TrieWild", spec := "trieWild", inPlace := ["internal/bytealg.abigen_runtime_cmpstring", "slices.overlaps[ecclesia/api.Pair]", "internal/abi.NoEscape"], unfollowed := true, recurses := true, apart := false, narrowed := true }
def TrieWildUptoSaid : Prop := trieWildUptoRow.holds Try.pinned (OpenSpec.upto trieWildSpec)

end Rows
end Go.Proofs.Ytefmlbckbhlgdaa
