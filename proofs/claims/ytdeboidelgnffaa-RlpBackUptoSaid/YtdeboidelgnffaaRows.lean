/-
  NARROWER THAN 'FOR EVERY INPUT', by the rows' own cells (each row's printed sentence says how): RlpWrites: loops · RlpOne: loops · RlpLists: loops · RlpNumbers: loops · RlpBack: loops.
  DERIVED. THE GIVEN ROWS OF THIS SEAT. 7 by the template 'for every input the law returns true; each argument reads behind the call as it read before'; 0 by the template 'total and deterministic' (their statements: YtdeboidelgnffaaTotals.lean).
  GIVEN WITH THE SEED: the statements are not yours to turn. If you find one false, say at which input.
  Laid BY PROGRAM, IN A SANDBOX (cutbox-rows.mjs): the forced cells as the released guide's own fill.sh prints them over the translation 5d90136d46f1a996… (all of the seat's roots in one cut). By AI agents, Wed Nov 11 2026. No macro, syntax, notation, axiom, sorry.
-/
import Derived.Test.YtdeboidelgnffaaChecked
import GoSem.Claim
import GoSem.ClaimJoined
import GoSem.ClaimMapViews
import Derived.JoinedTies
import Derived.KernelRfl
namespace Go.Proofs.Ytdeboidelgnffaa
/- THE CELL 'sum', in the pinned program and in every row, IS THE sha256 OF THE DUMP (.gsa) THAT YtdeboidelgnffaaProg.lean LOADS. Nothing in Lean hashes anything: it is a label: what it is worth is what the hold of that sum in a sandbox is worth. -/
noncomputable def Try.pinned : Pinned := { name := "ytdeboidelgnffaa", sum := "5d90136d46f1a996e813dcd0670ebbdca387adb4950b11bfce38c2222379f2c6", checked := Try.checked }
namespace Rows
def none {H : Type} : Left H := { results := [], args := [] }

/-- 'ecclesialaw08.RlpWrites': WHATEVER THE INPUT: true; the input reads as it did. -/
def rlpWritesSpec : ChangeSpec := { name := "rlpWrites", fn := fun _ => fun
  | [d] => { results := [.lit (.bool true)], args := [d] }
  | _ => none }
def rlpWritesRow : OpenClaim := { program := "ytdeboidelgnffaa", sum := "5d90136d46f1a996e813dcd0670ebbdca387adb4950b11bfce38c2222379f2c6", func := "ecclesia/ecclesialaw08.RlpWrites", spec := "rlpWrites", inPlace := ["internal/abi.NoEscape"], recurses := true, loops := true, apart := false }
def RlpWritesSaid : Prop := rlpWritesRow.holds Try.pinned (OpenSpec.ofChange rlpWritesSpec)

/-- ITS FALSE NEIGHBOUR: 'it returns false'. Refute it at one input. -/
def rlpWritesWrong : ChangeSpec := { name := "rlpWrites", fn := fun _ => fun
  | [d] => { results := [.lit (.bool false)], args := [d] }
  | _ => none }
def RlpWritesWrongFalsely : Prop := rlpWritesRow.holds Try.pinned (OpenSpec.ofChange rlpWritesWrong)

/-- 'ecclesialaw08.RlpOne': WHATEVER THE INPUT: true; the input reads as it did. -/
def rlpOneSpec : ChangeSpec := { name := "rlpOne", fn := fun _ => fun
  | [d1, d2] => { results := [.lit (.bool true)], args := [d1, d2] }
  | _ => none }
def rlpOneRow : OpenClaim := { program := "ytdeboidelgnffaa", sum := "5d90136d46f1a996e813dcd0670ebbdca387adb4950b11bfce38c2222379f2c6", func := "ecclesia/ecclesialaw08.RlpOne", spec := "rlpOne", inPlace := ["internal/abi.NoEscape"], recurses := true, loops := true, apart := false }
def RlpOneSaid : Prop := rlpOneRow.holds Try.pinned (OpenSpec.ofChange rlpOneSpec)

/-- ITS FALSE NEIGHBOUR: 'it returns false'. Refute it at one input. -/
def rlpOneWrong : ChangeSpec := { name := "rlpOne", fn := fun _ => fun
  | [d1, d2] => { results := [.lit (.bool false)], args := [d1, d2] }
  | _ => none }
def RlpOneWrongFalsely : Prop := rlpOneRow.holds Try.pinned (OpenSpec.ofChange rlpOneWrong)

/-- 'ecclesialaw08.RlpHeads': WHATEVER THE INPUT: true; the input reads as it did. -/
def rlpHeadsSpec : ChangeSpec := { name := "rlpHeads", fn := fun _ => fun
  | [d] => { results := [.lit (.bool true)], args := [d] }
  | _ => none }
def rlpHeadsRow : OpenClaim := { program := "ytdeboidelgnffaa", sum := "5d90136d46f1a996e813dcd0670ebbdca387adb4950b11bfce38c2222379f2c6", func := "ecclesia/ecclesialaw08.RlpHeads", spec := "rlpHeads", inPlace := ["internal/abi.NoEscape"], recurses := true, apart := false }
def RlpHeadsSaid : Prop := rlpHeadsRow.holds Try.pinned (OpenSpec.ofChange rlpHeadsSpec)

/-- ITS FALSE NEIGHBOUR: 'it returns false'. Refute it at one input. -/
def rlpHeadsWrong : ChangeSpec := { name := "rlpHeads", fn := fun _ => fun
  | [d] => { results := [.lit (.bool false)], args := [d] }
  | _ => none }
def RlpHeadsWrongFalsely : Prop := rlpHeadsRow.holds Try.pinned (OpenSpec.ofChange rlpHeadsWrong)

/-- 'ecclesialaw08.RlpLists': WHATEVER THE INPUT: true; the input reads as it did. -/
def rlpListsSpec : ChangeSpec := { name := "rlpLists", fn := fun _ => fun
  | [d] => { results := [.lit (.bool true)], args := [d] }
  | _ => none }
def rlpListsRow : OpenClaim := { program := "ytdeboidelgnffaa", sum := "5d90136d46f1a996e813dcd0670ebbdca387adb4950b11bfce38c2222379f2c6", func := "ecclesia/ecclesialaw08.RlpLists", spec := "rlpLists", inPlace := ["internal/abi.NoEscape"], recurses := true, loops := true, apart := false }
def RlpListsSaid : Prop := rlpListsRow.holds Try.pinned (OpenSpec.ofChange rlpListsSpec)

/-- ITS FALSE NEIGHBOUR: 'it returns false'. Refute it at one input. -/
def rlpListsWrong : ChangeSpec := { name := "rlpLists", fn := fun _ => fun
  | [d] => { results := [.lit (.bool false)], args := [d] }
  | _ => none }
def RlpListsWrongFalsely : Prop := rlpListsRow.holds Try.pinned (OpenSpec.ofChange rlpListsWrong)

/-- 'ecclesialaw08.RlpNumbers': WHATEVER THE INPUT: true; the input reads as it did. -/
def rlpNumbersSpec : ChangeSpec := { name := "rlpNumbers", fn := fun _ => fun
  | [d1, d2] => { results := [.lit (.bool true)], args := [d1, d2] }
  | _ => none }
def rlpNumbersRow : OpenClaim := { program := "ytdeboidelgnffaa", sum := "5d90136d46f1a996e813dcd0670ebbdca387adb4950b11bfce38c2222379f2c6", func := "ecclesia/ecclesialaw08.RlpNumbers", spec := "rlpNumbers", inPlace := ["internal/abi.NoEscape"], recurses := true, loops := true, apart := false }
def RlpNumbersSaid : Prop := rlpNumbersRow.holds Try.pinned (OpenSpec.ofChange rlpNumbersSpec)

/-- ITS FALSE NEIGHBOUR: 'it returns false'. Refute it at one input. -/
def rlpNumbersWrong : ChangeSpec := { name := "rlpNumbers", fn := fun _ => fun
  | [d1, d2] => { results := [.lit (.bool false)], args := [d1, d2] }
  | _ => none }
def RlpNumbersWrongFalsely : Prop := rlpNumbersRow.holds Try.pinned (OpenSpec.ofChange rlpNumbersWrong)

/-- 'ecclesialaw08.RlpReads': WHATEVER THE INPUT: true; the input reads as it did. -/
def rlpReadsSpec : ChangeSpec := { name := "rlpReads", fn := fun _ => fun
  | [d] => { results := [.lit (.bool true)], args := [d] }
  | _ => none }
def rlpReadsRow : OpenClaim := { program := "ytdeboidelgnffaa", sum := "5d90136d46f1a996e813dcd0670ebbdca387adb4950b11bfce38c2222379f2c6", func := "ecclesia/ecclesialaw08.RlpReads", spec := "rlpReads", inPlace := ["internal/abi.NoEscape"], unfollowed := true, recurses := true, apart := false }
def RlpReadsSaid : Prop := rlpReadsRow.holds Try.pinned (OpenSpec.ofChange rlpReadsSpec)

/-- ITS FALSE NEIGHBOUR: 'it returns false'. Refute it at one input. -/
def rlpReadsWrong : ChangeSpec := { name := "rlpReads", fn := fun _ => fun
  | [d] => { results := [.lit (.bool false)], args := [d] }
  | _ => none }
def RlpReadsWrongFalsely : Prop := rlpReadsRow.holds Try.pinned (OpenSpec.ofChange rlpReadsWrong)

/-- 'ecclesialaw08.RlpBack': WHATEVER THE INPUT: true; the input reads as it did. -/
def rlpBackSpec : ChangeSpec := { name := "rlpBack", fn := fun _ => fun
  | [d1, d2] => { results := [.lit (.bool true)], args := [d1, d2] }
  | _ => none }
def rlpBackRow : OpenClaim := { program := "ytdeboidelgnffaa", sum := "5d90136d46f1a996e813dcd0670ebbdca387adb4950b11bfce38c2222379f2c6", func := "ecclesia/ecclesialaw08.RlpBack", spec := "rlpBack", inPlace := ["internal/abi.NoEscape"], unfollowed := true, recurses := true, loops := true, apart := false }
def RlpBackSaid : Prop := rlpBackRow.holds Try.pinned (OpenSpec.ofChange rlpBackSpec)

/-- ITS FALSE NEIGHBOUR: 'it returns false'. Refute it at one input. -/
def rlpBackWrong : ChangeSpec := { name := "rlpBack", fn := fun _ => fun
  | [d1, d2] => { results := [.lit (.bool false)], args := [d1, d2] }
  | _ => none }
def RlpBackWrongFalsely : Prop := rlpBackRow.holds Try.pinned (OpenSpec.ofChange rlpBackWrong)

/- THE SECOND FORM. 'bulk': how many values and letters a reading holds, each counted each time it is reached (what is shared counts as often as it is met; a slice's spare places count too). A statement '..UptoSaid' is the law's where the arguments, and the package variables that the reading takes, are together of bulk at most 1048576: NARROWER than '..Said'. Prove '..Said' where nothing that the law and all that it calls make is longer than what came in: it says more and counts as full. Else prove '..UptoSaid'. A law counts once. -/
mutual
def uptoBulk {H : Type} : DataW H → Nat
  | .lit (.string bytes) => bytes.length + 1
  | .lit _ => 1
  | .nil => 1
  | .ptr d => uptoBulk d + 1
  | .slice elems spare => uptoBulkAll elems + uptoBulkAll spare + 1
  | .agg parts => uptoBulkAll parts + 1
  | .iface _ d => uptoBulk d + 1
  | .map entries => uptoBulkEntries entries + 1
  | .held _ => 1
def uptoBulkAll {H : Type} : List (DataW H) → Nat
  | [] => 0
  | d :: r => uptoBulk d + uptoBulkAll r
def uptoBulkEntries {H : Type} : List (Lit × DataW H) → Nat
  | [] => 0
  | x :: r => uptoBulkEntry x + uptoBulkEntries r
def uptoBulkEntry {H : Type} : Lit × DataW H → Nat
  | (.string bytes, d) => bytes.length + uptoBulk d + 1
  | (_, d) => uptoBulk d + 1
 end
def uptoSmall : (H : Type) → List (DataW H) → Bool := fun _ ds => decide (uptoBulkAll ds ≤ 1048576)
def OpenSpec.upto (s : _root_.Go.ChangeSpec) : _root_.Go.OpenSpec := { _root_.Go.OpenSpec.ofChange s with cond := some uptoSmall }

/-- 'ecclesialaw08.RlpWrites', WHERE WHAT IT READS IS OF BULK AT MOST 1048576: true; the input reads as it did. -/
def rlpWritesUptoRow : OpenClaim := { program := "ytdeboidelgnffaa", sum := "5d90136d46f1a996e813dcd0670ebbdca387adb4950b11bfce38c2222379f2c6", func := "ecclesia/ecclesialaw08.RlpWrites", spec := "rlpWrites", inPlace := ["internal/abi.NoEscape"], recurses := true, loops := true, apart := false, narrowed := true }
def RlpWritesUptoSaid : Prop := rlpWritesUptoRow.holds Try.pinned (OpenSpec.upto rlpWritesSpec)

/-- 'ecclesialaw08.RlpOne', WHERE WHAT IT READS IS OF BULK AT MOST 1048576: true; the input reads as it did. -/
def rlpOneUptoRow : OpenClaim := { program := "ytdeboidelgnffaa", sum := "5d90136d46f1a996e813dcd0670ebbdca387adb4950b11bfce38c2222379f2c6", func := "ecclesia/ecclesialaw08.RlpOne", spec := "rlpOne", inPlace := ["internal/abi.NoEscape"], recurses := true, loops := true, apart := false, narrowed := true }
def RlpOneUptoSaid : Prop := rlpOneUptoRow.holds Try.pinned (OpenSpec.upto rlpOneSpec)

/-- 'ecclesialaw08.RlpHeads', WHERE WHAT IT READS IS OF BULK AT MOST 1048576: true; the input reads as it did. -/
def rlpHeadsUptoRow : OpenClaim := { program := "ytdeboidelgnffaa", sum := "5d90136d46f1a996e813dcd0670ebbdca387adb4950b11bfce38c2222379f2c6", func := "ecclesia/ecclesialaw08.RlpHeads", spec := "rlpHeads", inPlace := ["internal/abi.NoEscape"], recurses := true, apart := false, narrowed := true }
def RlpHeadsUptoSaid : Prop := rlpHeadsUptoRow.holds Try.pinned (OpenSpec.upto rlpHeadsSpec)

/-- 'ecclesialaw08.RlpLists', WHERE WHAT IT READS IS OF BULK AT MOST 1048576: true; the input reads as it did. -/
def rlpListsUptoRow : OpenClaim := { program := "ytdeboidelgnffaa", sum := "5d90136d46f1a996e813dcd0670ebbdca387adb4950b11bfce38c2222379f2c6", func := "ecclesia/ecclesialaw08.RlpLists", spec := "rlpLists", inPlace := ["internal/abi.NoEscape"], recurses := true, loops := true, apart := false, narrowed := true }
def RlpListsUptoSaid : Prop := rlpListsUptoRow.holds Try.pinned (OpenSpec.upto rlpListsSpec)

/-- 'ecclesialaw08.RlpNumbers', WHERE WHAT IT READS IS OF BULK AT MOST 1048576: true; the input reads as it did. -/
def rlpNumbersUptoRow : OpenClaim := { program := "ytdeboidelgnffaa", sum := "5d90136d46f1a996e813dcd0670ebbdca387adb4950b11bfce38c2222379f2c6", func := "ecclesia/ecclesialaw08.RlpNumbers", spec := "rlpNumbers", inPlace := ["internal/abi.NoEscape"], recurses := true, loops := true, apart := false, narrowed := true }
def RlpNumbersUptoSaid : Prop := rlpNumbersUptoRow.holds Try.pinned (OpenSpec.upto rlpNumbersSpec)

/-- 'ecclesialaw08.RlpReads', WHERE WHAT IT READS IS OF BULK AT MOST 1048576: true; the input reads as it did. -/
def rlpReadsUptoRow : OpenClaim := { program := "ytdeboidelgnffaa", sum := "5d90136d46f1a996e813dcd0670ebbdca387adb4950b11bfce38c2222379f2c6", func := "ecclesia/ecclesialaw08.RlpReads", spec := "rlpReads", inPlace := ["internal/abi.NoEscape"], unfollowed := true, recurses := true, apart := false, narrowed := true }
def RlpReadsUptoSaid : Prop := rlpReadsUptoRow.holds Try.pinned (OpenSpec.upto rlpReadsSpec)

/-- 'ecclesialaw08.RlpBack', WHERE WHAT IT READS IS OF BULK AT MOST 1048576: true; the input reads as it did. -/
def rlpBackUptoRow : OpenClaim := { program := "ytdeboidelgnffaa", sum := "5d90136d46f1a996e813dcd0670ebbdca387adb4950b11bfce38c2222379f2c6", func := "ecclesia/ecclesialaw08.RlpBack", spec := "rlpBack", inPlace := ["internal/abi.NoEscape"], unfollowed := true, recurses := true, loops := true, apart := false, narrowed := true }
def RlpBackUptoSaid : Prop := rlpBackUptoRow.holds Try.pinned (OpenSpec.upto rlpBackSpec)

end Rows
end Go.Proofs.Ytdeboidelgnffaa
