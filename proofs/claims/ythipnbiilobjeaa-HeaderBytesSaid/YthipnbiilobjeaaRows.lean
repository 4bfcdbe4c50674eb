/-
  NARROWER THAN 'FOR EVERY INPUT', by the rows' own cells (each row's printed sentence says how): FrameBack: loops.
  DERIVED. THE GIVEN ROWS OF THIS SEAT. 8 by the template 'for every input the law returns true; each argument reads behind the call as it read before'; 0 by the template 'total and deterministic' (their statements: YthipnbiilobjeaaTotals.lean).
  GIVEN WITH THE SEED: the statements are not yours to turn. If you find one false, say at which input.
  Laid BY PROGRAM, IN A SANDBOX (cutbox-rows.mjs): the forced cells as the released guide's own fill.sh prints them over the translation 64799c76cac7c743… (all of the seat's roots in one cut). By AI agents, Wed Nov 11 2026. No macro, syntax, notation, axiom, sorry.
-/
import Derived.Test.YthipnbiilobjeaaChecked
import GoSem.Claim
import GoSem.ClaimJoined
import GoSem.ClaimMapViews
import Derived.JoinedTies
import Derived.KernelRfl
namespace Go.Proofs.Ythipnbiilobjeaa
/- THE CELL 'sum', in the pinned program and in every row, IS THE sha256 OF THE DUMP (.gsa) THAT YthipnbiilobjeaaProg.lean LOADS. Nothing in Lean hashes anything: it is a label: what it is worth is what the hold of that sum in a sandbox is worth. -/
noncomputable def Try.pinned : Pinned := { name := "ythipnbiilobjeaa", sum := "64799c76cac7c743446b3ebff1e6181fb4dcab7b04ed7a3b1f723e0922810059", checked := Try.checked }
namespace Rows
def none {H : Type} : Left H := { results := [], args := [] }

/-- 'ecclesialaw11.FrameBack': WHATEVER THE INPUT: true; the input reads as it did. -/
def frameBackSpec : ChangeSpec := { name := "frameBack", fn := fun _ => fun
  | [d1, d2, d3] => { results := [.lit (.bool true)], args := [d1, d2, d3] }
  | _ => none }
def frameBackRow : OpenClaim := { program := "ythipnbiilobjeaa", sum := "64799c76cac7c743446b3ebff1e6181fb4dcab7b04ed7a3b1f723e0922810059", func := "ecclesia/ecclesialaw11.FrameBack", spec := "frameBack", inPlace := ["internal/abi.NoEscape"], unfollowed := true, recurses := true, loops := true, apart := false }
def FrameBackSaid : Prop := frameBackRow.holds Try.pinned (OpenSpec.ofChange frameBackSpec)

/-- ITS FALSE NEIGHBOUR: 'it returns false'. Refute it at one input. -/
def frameBackWrong : ChangeSpec := { name := "frameBack", fn := fun _ => fun
  | [d1, d2, d3] => { results := [.lit (.bool false)], args := [d1, d2, d3] }
  | _ => none }
def FrameBackWrongFalsely : Prop := frameBackRow.holds Try.pinned (OpenSpec.ofChange frameBackWrong)

/-- 'ecclesialaw17.HeaderOne': WHATEVER THE INPUT: true; the input reads as it did. -/
def headerOneSpec : ChangeSpec := { name := "headerOne", fn := fun _ => fun
  | [d1, d2] => { results := [.lit (.bool true)], args := [d1, d2] }
  | _ => none }
def headerOneRow : OpenClaim := { program := "ythipnbiilobjeaa", sum := "64799c76cac7c743446b3ebff1e6181fb4dcab7b04ed7a3b1f723e0922810059", func := "ecclesia/ecclesialaw17.HeaderOne", spec := "headerOne", inPlace := ["math/bits.Sub64", "math/bits.Add64", "internal/abi.NoEscape"], unfollowed := true, recurses := true, apart := false }
def HeaderOneSaid : Prop := headerOneRow.holds Try.pinned (OpenSpec.ofChange headerOneSpec)

/-- ITS FALSE NEIGHBOUR: 'it returns false'. Refute it at one input. -/
def headerOneWrong : ChangeSpec := { name := "headerOne", fn := fun _ => fun
  | [d1, d2] => { results := [.lit (.bool false)], args := [d1, d2] }
  | _ => none }
def HeaderOneWrongFalsely : Prop := headerOneRow.holds Try.pinned (OpenSpec.ofChange headerOneWrong)

/-- 'ecclesialaw17.HeaderBytes': WHATEVER THE INPUT: true; the input reads as it did. -/
def headerBytesSpec : ChangeSpec := { name := "headerBytes", fn := fun _ => fun
  | [d] => { results := [.lit (.bool true)], args := [d] }
  | _ => none }
def headerBytesRow : OpenClaim := { program := "ythipnbiilobjeaa", sum := "64799c76cac7c743446b3ebff1e6181fb4dcab7b04ed7a3b1f723e0922810059", func := "ecclesia/ecclesialaw17.HeaderBytes", spec := "headerBytes", inPlace := ["math/bits.Sub64", "math/bits.Add64", "internal/abi.NoEscape"], unfollowed := true, recurses := true, apart := false }
def HeaderBytesSaid : Prop := headerBytesRow.holds Try.pinned (OpenSpec.ofChange headerBytesSpec)

/-- ITS FALSE NEIGHBOUR: 'it returns false'. Refute it at one input. -/
def headerBytesWrong : ChangeSpec := { name := "headerBytes", fn := fun _ => fun
  | [d] => { results := [.lit (.bool false)], args := [d] }
  | _ => none }
def HeaderBytesWrongFalsely : Prop := headerBytesRow.holds Try.pinned (OpenSpec.ofChange headerBytesWrong)

/-- 'ecclesialaw17.HeaderSums': WHATEVER THE INPUT: true; the input reads as it did. -/
def headerSumsSpec : ChangeSpec := { name := "headerSums", fn := fun _ => fun
  | [d1, d2, d3] => { results := [.lit (.bool true)], args := [d1, d2, d3] }
  | _ => none }
def headerSumsRow : OpenClaim := { program := "ythipnbiilobjeaa", sum := "64799c76cac7c743446b3ebff1e6181fb4dcab7b04ed7a3b1f723e0922810059", func := "ecclesia/ecclesialaw17.HeaderSums", spec := "headerSums", inPlace := ["math/bits.Sub64", "math/bits.Add64", "internal/abi.NoEscape"], unfollowed := true, recurses := true, apart := false }
def HeaderSumsSaid : Prop := headerSumsRow.holds Try.pinned (OpenSpec.ofChange headerSumsSpec)

/-- ITS FALSE NEIGHBOUR: 'it returns false'. Refute it at one input. -/
def headerSumsWrong : ChangeSpec := { name := "headerSums", fn := fun _ => fun
  | [d1, d2, d3] => { results := [.lit (.bool false)], args := [d1, d2, d3] }
  | _ => none }
def HeaderSumsWrongFalsely : Prop := headerSumsRow.holds Try.pinned (OpenSpec.ofChange headerSumsWrong)

/-- 'ecclesialaw20.VsetNext': WHATEVER THE INPUT: true; the input reads as it did. -/
def vsetNextSpec : ChangeSpec := { name := "vsetNext", fn := fun _ => fun
  | [d1, d2, d3, d4] => { results := [.lit (.bool true)], args := [d1, d2, d3, d4] }
  | _ => none }
def vsetNextRow : OpenClaim := { program := "ythipnbiilobjeaa", sum := "64799c76cac7c743446b3ebff1e6181fb4dcab7b04ed7a3b1f723e0922810059", func := "ecclesia/ecclesialaw20.VsetNext", spec := "vsetNext", inPlace := ["internal/bytealg.abigen_runtime_cmpstring", "math/bits.Sub64", "math/bits.Add64", "slices.overlaps[ecclesia/api.Ballot]", "slices.overlaps[string]"], unfollowed := true, recurses := true, apart := false }
def VsetNextSaid : Prop := vsetNextRow.holds Try.pinned (OpenSpec.ofChange vsetNextSpec)

/-- ITS FALSE NEIGHBOUR: 'it returns false'. Refute it at one input. -/
def vsetNextWrong : ChangeSpec := { name := "vsetNext", fn := fun _ => fun
  | [d1, d2, d3, d4] => { results := [.lit (.bool false)], args := [d1, d2, d3, d4] }
  | _ => none }
def VsetNextWrongFalsely : Prop := vsetNextRow.holds Try.pinned (OpenSpec.ofChange vsetNextWrong)

/-- 'ecclesialaw20.VsetParts': WHATEVER THE INPUT: true; the input reads as it did. -/
def vsetPartsSpec : ChangeSpec := { name := "vsetParts", fn := fun _ => fun
  | [d1, d2, d3, d4] => { results := [.lit (.bool true)], args := [d1, d2, d3, d4] }
  | _ => none }
def vsetPartsRow : OpenClaim := { program := "ythipnbiilobjeaa", sum := "64799c76cac7c743446b3ebff1e6181fb4dcab7b04ed7a3b1f723e0922810059", func := "ecclesia/ecclesialaw20.VsetParts", spec := "vsetParts", inPlace := ["internal/bytealg.abigen_runtime_cmpstring", "math/bits.Sub64", "math/bits.Add64", "slices.overlaps[ecclesia/api.Ballot]", "slices.overlaps[string]"], unfollowed := true, recurses := true, apart := false }
def VsetPartsSaid : Prop := vsetPartsRow.holds Try.pinned (OpenSpec.ofChange vsetPartsSpec)

/-- ITS FALSE NEIGHBOUR: 'it returns false'. Refute it at one input. -/
def vsetPartsWrong : ChangeSpec := { name := "vsetParts", fn := fun _ => fun
  | [d1, d2, d3, d4] => { results := [.lit (.bool false)], args := [d1, d2, d3, d4] }
  | _ => none }
def VsetPartsWrongFalsely : Prop := vsetPartsRow.holds Try.pinned (OpenSpec.ofChange vsetPartsWrong)

/-- 'ecclesialaw17.HeaderReads': WHATEVER THE INPUT: true; the input reads as it did. -/
def headerReadsSpec : ChangeSpec := { name := "headerReads", fn := fun _ => fun
  | [d] => { results := [.lit (.bool true)], args := [d] }
  | _ => none }
def headerReadsRow : OpenClaim := { program := "ythipnbiilobjeaa", sum := "64799c76cac7c743446b3ebff1e6181fb4dcab7b04ed7a3b1f723e0922810059", func := "ecclesia/ecclesialaw17.HeaderReads", spec := "headerReads", inPlace := ["internal/abi.NoEscape", "math/bits.Sub64", "math/bits.Add64"], unfollowed := true, recurses := true, apart := false }
def HeaderReadsSaid : Prop := headerReadsRow.holds Try.pinned (OpenSpec.ofChange headerReadsSpec)

/-- ITS FALSE NEIGHBOUR: 'it returns false'. Refute it at one input. -/
def headerReadsWrong : ChangeSpec := { name := "headerReads", fn := fun _ => fun
  | [d] => { results := [.lit (.bool false)], args := [d] }
  | _ => none }
def HeaderReadsWrongFalsely : Prop := headerReadsRow.holds Try.pinned (OpenSpec.ofChange headerReadsWrong)

/-- 'ecclesialaw17.HeaderBack': WHATEVER THE INPUT: true; the input reads as it did. -/
def headerBackSpec : ChangeSpec := { name := "headerBack", fn := fun _ => fun
  | [d1, d2] => { results := [.lit (.bool true)], args := [d1, d2] }
  | _ => none }
def headerBackRow : OpenClaim := { program := "ythipnbiilobjeaa", sum := "64799c76cac7c743446b3ebff1e6181fb4dcab7b04ed7a3b1f723e0922810059", func := "ecclesia/ecclesialaw17.HeaderBack", spec := "headerBack", inPlace := ["math/bits.Sub64", "math/bits.Add64", "internal/abi.NoEscape"], unfollowed := true, recurses := true, apart := false }
def HeaderBackSaid : Prop := headerBackRow.holds Try.pinned (OpenSpec.ofChange headerBackSpec)

/-- ITS FALSE NEIGHBOUR: 'it returns false'. Refute it at one input. -/
def headerBackWrong : ChangeSpec := { name := "headerBack", fn := fun _ => fun
  | [d1, d2] => { results := [.lit (.bool false)], args := [d1, d2] }
  | _ => none }
def HeaderBackWrongFalsely : Prop := headerBackRow.holds Try.pinned (OpenSpec.ofChange headerBackWrong)

/- THE SECOND FORM. 'bulk': how many values and letters a reading holds, each counted each time it is reached (what is shared counts as often as it is met; a slice's spare places count too). A statement '..UptoSaid' is the law's where the arguments, and the package variables that the reading takes, are together of bulk at most 1048576: NARROWER than '..Said'. Prove '..Said' where nothing that the law and all that it calls make is longer than what came in: it says more and counts as full. Else prove '..UptoSaid'. A law counts once. -/
mutual
def uptoBulk {H : Type} : DataW H → Nat
  | .lit (.string bytes) => bytes.length + 1
  | .lit _ => 1
  | .nil => 1
  | .ptr d => uptoBulk d + 1
  | .slice elems spare => uptoBulkAll elems + uptoBulkAll spare + 1
  | .agg parts => uptoBulkAll parts + 1
  | .iface _ d => uptoBulk d + 1
  | .map entries => uptoBulkEntries entries + 1
  | .held _ => 1
def uptoBulkAll {H : Type} : List (DataW H) → Nat
  | [] => 0
  | d :: r => uptoBulk d + uptoBulkAll r
def uptoBulkEntries {H : Type} : List (Lit × DataW H) → Nat
  | [] => 0
  | x :: r => uptoBulkEntry x + uptoBulkEntries r
def uptoBulkEntry {H : Type} : Lit × DataW H → Nat
  | (.string bytes, d) => bytes.length + uptoBulk d + 1
  | (_, d) => uptoBulk d + 1
 end
def uptoSmall : (H : Type) → List (DataW H) → Bool := fun _ ds => decide (uptoBulkAll ds ≤ 1048576)
def OpenSpec.upto (s : _root_.Go.ChangeSpec) : _root_.Go.OpenSpec := { _root_.Go.OpenSpec.ofChange s with cond := some uptoSmall }

/-- 'ecclesialaw11.FrameBack', WHERE WHAT IT READS IS OF BULK AT MOST 1048576: true; the input reads as it did. -/
def frameBackUptoRow : OpenClaim := { program := "ythipnbiilobjeaa", sum := "64799c76cac7c743446b3ebff1e6181fb4dcab7b04ed7a3b1f723e0922810059", func := "ecclesia/ecclesialaw11.FrameBack", spec := "frameBack", inPlace := ["internal/abi.NoEscape"], unfollowed := true, recurses := true, loops := true, apart := false, narrowed := true }
def FrameBackUptoSaid : Prop := frameBackUptoRow.holds Try.pinned (OpenSpec.upto frameBackSpec)

/-- 'ecclesialaw17.HeaderOne', WHERE WHAT IT READS IS OF BULK AT MOST 1048576: true; the input reads as it did. -/
def headerOneUptoRow : OpenClaim := { program := "ythipnbiilobjeaa", sum := "64799c76cac7c743446b3ebff1e6181fb4dcab7b04ed7a3b1f723e0922810059", func := "ecclesia/ecclesialaw17.HeaderOne", spec := "headerOne", inPlace := ["math/bits.Sub64", "math/bits.Add64", "internal/abi.NoEscape"], unfollowed := true, recurses := true, apart := false, narrowed := true }
def HeaderOneUptoSaid : Prop := headerOneUptoRow.holds Try.pinned (OpenSpec.upto headerOneSpec)

/-- 'ecclesialaw17.HeaderBytes', WHERE WHAT IT READS IS OF BULK AT MOST 1048576: true; the input reads as it did. -/
def headerBytesUptoRow : OpenClaim := { program := "ythipnbiilobjeaa", sum := "64799c76cac7c743446b3ebff1e6181fb4dcab7b04ed7a3b1f723e0922810059", func := "ecclesia/ecclesialaw17.HeaderBytes", spec := "headerBytes", inPlace := ["math/bits.Sub64", "math/bits.Add64", "internal/abi.NoEscape"], unfollowed := true, recurses := true, apart := false, narrowed := true }
def HeaderBytesUptoSaid : Prop := headerBytesUptoRow.holds Try.pinned (OpenSpec.upto headerBytesSpec)

/-- 'ecclesialaw17.HeaderSums', WHERE WHAT IT READS IS OF BULK AT MOST 1048576: true; the input reads as it did. -/
def headerSumsUptoRow : OpenClaim := { program := "ythipnbiilobjeaa", sum := "64799c76cac7c743446b3ebff1e6181fb4dcab7b04ed7a3b1f723e0922810059", func := "ecclesia/ecclesialaw17.HeaderSums", spec := "headerSums", inPlace := ["math/bits.Sub64", "math/bits.Add64", "internal/abi.NoEscape"], unfollowed := true, recurses := true, apart := false, narrowed := true }
def HeaderSumsUptoSaid : Prop := headerSumsUptoRow.holds Try.pinned (OpenSpec.upto headerSumsSpec)

/-- 'ecclesialaw20.VsetNext', WHERE WHAT IT READS IS OF BULK AT MOST 1048576: true; the input reads as it did. -/
def vsetNextUptoRow : OpenClaim := { program := "ythipnbiilobjeaa", sum := "64799c76cac7c743446b3ebff1e6181fb4dcab7b04ed7a3b1f723e0922810059", func := "ecclesia/ecclesialaw20.VsetNext", spec := "vsetNext", inPlace := ["internal/bytealg.abigen_runtime_cmpstring", "math/bits.Sub64", "math/bits.Add64", "slices.overlaps[ecclesia/api.Ballot]", "slices.overlaps[string]"], unfollowed := true, recurses := true, apart := false, narrowed := true }
def VsetNextUptoSaid : Prop := vsetNextUptoRow.holds Try.pinned (OpenSpec.upto vsetNextSpec)

/-- 'ecclesialaw20.VsetParts', WHERE WHAT IT READS IS OF BULK AT MOST 1048576: true; the input reads as it did. -/
def vsetPartsUptoRow : OpenClaim := { program := "ythipnbiilobjeaa", sum := "64799c76cac7c743446b3ebff1e6181fb4dcab7b04ed7a3b1f723e0922810059", func := "ecclesia/ecclesialaw20.VsetParts", spec := "vsetParts", inPlace := ["internal/bytealg.abigen_runtime_cmpstring", "math/bits.Sub64", "math/bits.Add64", "slices.overlaps[ecclesia/api.Ballot]", "slices.overlaps[string]"], unfollowed := true, recurses := true, apart := false, narrowed := true }
def VsetPartsUptoSaid : Prop := vsetPartsUptoRow.holds Try.pinned (OpenSpec.upto vsetPartsSpec)

/-- 'ecclesialaw17.HeaderReads', WHERE WHAT IT READS IS OF BULK AT MOST 1048576: true; the input reads as it did. -/
def headerReadsUptoRow : OpenClaim := { program := "ythipnbiilobjeaa", sum := "64799c76cac7c743446b3ebff1e6181fb4dcab7b04ed7a3b1f723e0922810059", func := "ecclesia/ecclesialaw17.HeaderReads", spec := "headerReads", inPlace := ["internal/abi.NoEscape", "math/bits.Sub64", "math/bits.Add64"], unfollowed := true, recurses := true, apart := false, narrowed := true }
def HeaderReadsUptoSaid : Prop := headerReadsUptoRow.holds Try.pinned (OpenSpec.upto headerReadsSpec)

/-- 'ecclesialaw17.HeaderBack', WHERE WHAT IT READS IS OF BULK AT MOST 1048576: true; the input reads as it did. -/
def headerBackUptoRow : OpenClaim := { program := "ythipnbiilobjeaa", sum := "64799c76cac7c743446b3ebff1e6181fb4dcab7b04ed7a3b1f723e0922810059", func := "ecclesia/ecclesialaw17.HeaderBack", spec := "headerBack", inPlace := ["math/bits.Sub64", "math/bits.Add64", "internal/abi.NoEscape"], unfollowed := true, recurses := true, apart := false, narrowed := true }
def HeaderBackUptoSaid : Prop := headerBackUptoRow.holds Try.pinned (OpenSpec.upto headerBackSpec)

end Rows
end Go.Proofs.Ythipnbiilobjeaa
