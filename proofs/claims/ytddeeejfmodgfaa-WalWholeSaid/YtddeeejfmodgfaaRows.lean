/-
  No cell of these rows narrows 'for every input' (looked for: loops, veiled, ifaces, maps, wideKeys, modest, calm, conditions, laid).
  DERIVED. THE GIVEN ROWS OF THIS SEAT. 12 by the template 'for every input the law returns true; each argument reads behind the call as it read before'; 0 by the template 'total and deterministic' (their statements: YtddeeejfmodgfaaTotals.lean).
  GIVEN WITH THE SEED: the statements are not yours to turn. If you find one false, say at which input.
  Laid BY PROGRAM, IN A SANDBOX (cutbox-rows.mjs): the forced cells as the released guide's own fill.sh prints them over the translation d1a4b5a928f1155c… (all of the seat's roots in one cut). By AI agents, Wed Nov 11 2026. No macro, syntax, notation, axiom, sorry.
-/
import Derived.Test.YtddeeejfmodgfaaChecked
import GoSem.Claim
import GoSem.ClaimJoined
import GoSem.ClaimMapViews
import Derived.JoinedTies
import Derived.KernelRfl
namespace Go.Proofs.Ytddeeejfmodgfaa
/- THE CELL 'sum', in the pinned program and in every row, IS THE sha256 OF THE DUMP (.gsa) THAT YtddeeejfmodgfaaProg.lean LOADS. Nothing in Lean hashes anything: it is a label: what it is worth is what the hold of that sum in a sandbox is worth. -/
noncomputable def Try.pinned : Pinned := { name := "ytddeeejfmodgfaa", sum := "d1a4b5a928f1155ccce83c2f630cd531712b6480b258e578f1150c3d53dddf85", checked := Try.checked }
namespace Rows
def none {H : Type} : Left H := { results := [], args := [] }

/-- 'ecclesialaw09.NibbleShared': WHATEVER THE INPUT: true; the input reads as it did. -/
def nibbleSharedSpec : ChangeSpec := { name := "nibbleShared", fn := fun _ => fun
  | [d1, d2, d3] => { results := [.lit (.bool true)], args := [d1, d2, d3] }
  | _ => none }
def nibbleSharedRow : OpenClaim := { program := "ytddeeejfmodgfaa", sum := "d1a4b5a928f1155ccce83c2f630cd531712b6480b258e578f1150c3d53dddf85", func := "ecclesia/ecclesialaw09.NibbleShared", spec := "nibbleShared", apart := false }
def NibbleSharedSaid : Prop := nibbleSharedRow.holds Try.pinned (OpenSpec.ofChange nibbleSharedSpec)

/-- ITS FALSE NEIGHBOUR: 'it returns false'. Refute it at one input. -/
def nibbleSharedWrong : ChangeSpec := { name := "nibbleShared", fn := fun _ => fun
  | [d1, d2, d3] => { results := [.lit (.bool false)], args := [d1, d2, d3] }
  | _ => none }
def NibbleSharedWrongFalsely : Prop := nibbleSharedRow.holds Try.pinned (OpenSpec.ofChange nibbleSharedWrong)

/-- 'ecclesialaw05.CrcFrames': WHATEVER THE INPUT: true; the input reads as it did. -/
def crcFramesSpec : ChangeSpec := { name := "crcFrames", fn := fun _ => fun
  | [d] => { results := [.lit (.bool true)], args := [d] }
  | _ => none }
def crcFramesRow : OpenClaim := { program := "ytddeeejfmodgfaa", sum := "d1a4b5a928f1155ccce83c2f630cd531712b6480b258e578f1150c3d53dddf85", func := "ecclesia/ecclesialaw05.CrcFrames", spec := "crcFrames", apart := false }
def CrcFramesSaid : Prop := crcFramesRow.holds Try.pinned (OpenSpec.ofChange crcFramesSpec)

/-- ITS FALSE NEIGHBOUR: 'it returns false'. Refute it at one input. -/
def crcFramesWrong : ChangeSpec := { name := "crcFrames", fn := fun _ => fun
  | [d] => { results := [.lit (.bool false)], args := [d] }
  | _ => none }
def CrcFramesWrongFalsely : Prop := crcFramesRow.holds Try.pinned (OpenSpec.ofChange crcFramesWrong)

/-- 'ecclesialaw09.NibbleKeys': WHATEVER THE INPUT: true; the input reads as it did. -/
def nibbleKeysSpec : ChangeSpec := { name := "nibbleKeys", fn := fun _ => fun
  | [d1, d2] => { results := [.lit (.bool true)], args := [d1, d2] }
  | _ => none }
def nibbleKeysRow : OpenClaim := { program := "ytddeeejfmodgfaa", sum := "d1a4b5a928f1155ccce83c2f630cd531712b6480b258e578f1150c3d53dddf85", func := "ecclesia/ecclesialaw09.NibbleKeys", spec := "nibbleKeys", apart := false }
def NibbleKeysSaid : Prop := nibbleKeysRow.holds Try.pinned (OpenSpec.ofChange nibbleKeysSpec)

/-- ITS FALSE NEIGHBOUR: 'it returns false'. Refute it at one input. -/
def nibbleKeysWrong : ChangeSpec := { name := "nibbleKeys", fn := fun _ => fun
  | [d1, d2] => { results := [.lit (.bool false)], args := [d1, d2] }
  | _ => none }
def NibbleKeysWrongFalsely : Prop := nibbleKeysRow.holds Try.pinned (OpenSpec.ofChange nibbleKeysWrong)

/-- 'ecclesialaw05.CrcScans': WHATEVER THE INPUT: true; the input reads as it did. -/
def crcScansSpec : ChangeSpec := { name := "crcScans", fn := fun _ => fun
  | [d] => { results := [.lit (.bool true)], args := [d] }
  | _ => none }
def crcScansRow : OpenClaim := { program := "ytddeeejfmodgfaa", sum := "d1a4b5a928f1155ccce83c2f630cd531712b6480b258e578f1150c3d53dddf85", func := "ecclesia/ecclesialaw05.CrcScans", spec := "crcScans", apart := false }
def CrcScansSaid : Prop := crcScansRow.holds Try.pinned (OpenSpec.ofChange crcScansSpec)

/-- ITS FALSE NEIGHBOUR: 'it returns false'. Refute it at one input. -/
def crcScansWrong : ChangeSpec := { name := "crcScans", fn := fun _ => fun
  | [d] => { results := [.lit (.bool false)], args := [d] }
  | _ => none }
def CrcScansWrongFalsely : Prop := crcScansRow.holds Try.pinned (OpenSpec.ofChange crcScansWrong)

/-- 'ecclesialaw09.NibblePacks': WHATEVER THE INPUT: true; the input reads as it did. -/
def nibblePacksSpec : ChangeSpec := { name := "nibblePacks", fn := fun _ => fun
  | [d1, d2, d3] => { results := [.lit (.bool true)], args := [d1, d2, d3] }
  | _ => none }
def nibblePacksRow : OpenClaim := { program := "ytddeeejfmodgfaa", sum := "d1a4b5a928f1155ccce83c2f630cd531712b6480b258e578f1150c3d53dddf85", func := "ecclesia/ecclesialaw09.NibblePacks", spec := "nibblePacks", apart := false }
def NibblePacksSaid : Prop := nibblePacksRow.holds Try.pinned (OpenSpec.ofChange nibblePacksSpec)

/-- ITS FALSE NEIGHBOUR: 'it returns false'. Refute it at one input. -/
def nibblePacksWrong : ChangeSpec := { name := "nibblePacks", fn := fun _ => fun
  | [d1, d2, d3] => { results := [.lit (.bool false)], args := [d1, d2, d3] }
  | _ => none }
def NibblePacksWrongFalsely : Prop := nibblePacksRow.holds Try.pinned (OpenSpec.ofChange nibblePacksWrong)

/-- 'ecclesialaw09.NibbleBack': WHATEVER THE INPUT: true; the input reads as it did. -/
def nibbleBackSpec : ChangeSpec := { name := "nibbleBack", fn := fun _ => fun
  | [d1, d2, d3] => { results := [.lit (.bool true)], args := [d1, d2, d3] }
  | _ => none }
def nibbleBackRow : OpenClaim := { program := "ytddeeejfmodgfaa", sum := "d1a4b5a928f1155ccce83c2f630cd531712b6480b258e578f1150c3d53dddf85", func := "ecclesia/ecclesialaw09.NibbleBack", spec := "nibbleBack", apart := false }
def NibbleBackSaid : Prop := nibbleBackRow.holds Try.pinned (OpenSpec.ofChange nibbleBackSpec)

/-- ITS FALSE NEIGHBOUR: 'it returns false'. Refute it at one input. -/
def nibbleBackWrong : ChangeSpec := { name := "nibbleBack", fn := fun _ => fun
  | [d1, d2, d3] => { results := [.lit (.bool false)], args := [d1, d2, d3] }
  | _ => none }
def NibbleBackWrongFalsely : Prop := nibbleBackRow.holds Try.pinned (OpenSpec.ofChange nibbleBackWrong)

/-- 'ecclesialaw05.CrcBack': WHATEVER THE INPUT: true; the input reads as it did. -/
def crcBackSpec : ChangeSpec := { name := "crcBack", fn := fun _ => fun
  | [d1, d2, d3] => { results := [.lit (.bool true)], args := [d1, d2, d3] }
  | _ => none }
def crcBackRow : OpenClaim := { program := "ytddeeejfmodgfaa", sum := "d1a4b5a928f1155ccce83c2f630cd531712b6480b258e578f1150c3d53dddf85", func := "ecclesia/ecclesialaw05.CrcBack", spec := "crcBack", apart := false }
def CrcBackSaid : Prop := crcBackRow.holds Try.pinned (OpenSpec.ofChange crcBackSpec)

/-- ITS FALSE NEIGHBOUR: 'it returns false'. Refute it at one input. -/
def crcBackWrong : ChangeSpec := { name := "crcBack", fn := fun _ => fun
  | [d1, d2, d3] => { results := [.lit (.bool false)], args := [d1, d2, d3] }
  | _ => none }
def CrcBackWrongFalsely : Prop := crcBackRow.holds Try.pinned (OpenSpec.ofChange crcBackWrong)

/-- 'ecclesialaw05.CrcTurned': WHATEVER THE INPUT: true; the input reads as it did. -/
def crcTurnedSpec : ChangeSpec := { name := "crcTurned", fn := fun _ => fun
  | [d1, d2, d3] => { results := [.lit (.bool true)], args := [d1, d2, d3] }
  | _ => none }
def crcTurnedRow : OpenClaim := { program := "ytddeeejfmodgfaa", sum := "d1a4b5a928f1155ccce83c2f630cd531712b6480b258e578f1150c3d53dddf85", func := "ecclesia/ecclesialaw05.CrcTurned", spec := "crcTurned", apart := false }
def CrcTurnedSaid : Prop := crcTurnedRow.holds Try.pinned (OpenSpec.ofChange crcTurnedSpec)

/-- ITS FALSE NEIGHBOUR: 'it returns false'. Refute it at one input. -/
def crcTurnedWrong : ChangeSpec := { name := "crcTurned", fn := fun _ => fun
  | [d1, d2, d3] => { results := [.lit (.bool false)], args := [d1, d2, d3] }
  | _ => none }
def CrcTurnedWrongFalsely : Prop := crcTurnedRow.holds Try.pinned (OpenSpec.ofChange crcTurnedWrong)

/-- 'ecclesialaw05.CrcSizes': WHATEVER THE INPUT: true; the input reads as it did. -/
def crcSizesSpec : ChangeSpec := { name := "crcSizes", fn := fun _ => fun
  | [d] => { results := [.lit (.bool true)], args := [d] }
  | _ => none }
def crcSizesRow : OpenClaim := { program := "ytddeeejfmodgfaa", sum := "d1a4b5a928f1155ccce83c2f630cd531712b6480b258e578f1150c3d53dddf85", func := "ecclesia/ecclesialaw05.CrcSizes", spec := "crcSizes", apart := false }
def CrcSizesSaid : Prop := crcSizesRow.holds Try.pinned (OpenSpec.ofChange crcSizesSpec)

/-- ITS FALSE NEIGHBOUR: 'it returns false'. Refute it at one input. -/
def crcSizesWrong : ChangeSpec := { name := "crcSizes", fn := fun _ => fun
  | [d] => { results := [.lit (.bool false)], args := [d] }
  | _ => none }
def CrcSizesWrongFalsely : Prop := crcSizesRow.holds Try.pinned (OpenSpec.ofChange crcSizesWrong)

/-- 'ecclesialaw13.WalCalls': WHATEVER THE INPUT: true; the input reads as it did. -/
def walCallsSpec : ChangeSpec := { name := "walCalls", fn := fun _ => fun
  | [d1, d2, d3] => { results := [.lit (.bool true)], args := [d1, d2, d3] }
  | _ => none }
def walCallsRow : OpenClaim := { program := "ytddeeejfmodgfaa", sum := "d1a4b5a928f1155ccce83c2f630cd531712b6480b258e578f1150c3d53dddf85", func := "ecclesia/ecclesialaw13.WalCalls", spec := "walCalls", unfollowed := true, recurses := true, apart := false }
def WalCallsSaid : Prop := walCallsRow.holds Try.pinned (OpenSpec.ofChange walCallsSpec)

/-- ITS FALSE NEIGHBOUR: 'it returns false'. Refute it at one input. -/
def walCallsWrong : ChangeSpec := { name := "walCalls", fn := fun _ => fun
  | [d1, d2, d3] => { results := [.lit (.bool false)], args := [d1, d2, d3] }
  | _ => none }
def WalCallsWrongFalsely : Prop := walCallsRow.holds Try.pinned (OpenSpec.ofChange walCallsWrong)

/-- 'ecclesialaw13.WalSteps': WHATEVER THE INPUT: true; the input reads as it did. -/
def walStepsSpec : ChangeSpec := { name := "walSteps", fn := fun _ => fun
  | [d1, d2] => { results := [.lit (.bool true)], args := [d1, d2] }
  | _ => none }
def walStepsRow : OpenClaim := { program := "ytddeeejfmodgfaa", sum := "d1a4b5a928f1155ccce83c2f630cd531712b6480b258e578f1150c3d53dddf85", func := "ecclesia/ecclesialaw13.WalSteps", spec := "walSteps", unfollowed := true, recurses := true, apart := false }
def WalStepsSaid : Prop := walStepsRow.holds Try.pinned (OpenSpec.ofChange walStepsSpec)

/-- ITS FALSE NEIGHBOUR: 'it returns false'. Refute it at one input. -/
def walStepsWrong : ChangeSpec := { name := "walSteps", fn := fun _ => fun
  | [d1, d2] => { results := [.lit (.bool false)], args := [d1, d2] }
  | _ => none }
def WalStepsWrongFalsely : Prop := walStepsRow.holds Try.pinned (OpenSpec.ofChange walStepsWrong)

/-- 'ecclesialaw13.WalWhole': WHATEVER THE INPUT: true; the input reads as it did. -/
def walWholeSpec : ChangeSpec := { name := "walWhole", fn := fun _ => fun
  | [d1, d2, d3] => { results := [.lit (.bool true)], args := [d1, d2, d3] }
  | _ => none }
def walWholeRow : OpenClaim := { program := "ytddeeejfmodgfaa", sum := "d1a4b5a928f1155ccce83c2f630cd531712b6480b258e578f1150c3d53dddf85", func := "ecclesia/ecclesialaw13.WalWhole", spec := "walWhole", unfollowed := true, recurses := true, apart := false }
def WalWholeSaid : Prop := walWholeRow.holds Try.pinned (OpenSpec.ofChange walWholeSpec)

/-- ITS FALSE NEIGHBOUR: 'it returns false'. Refute it at one input. -/
def walWholeWrong : ChangeSpec := { name := "walWhole", fn := fun _ => fun
  | [d1, d2, d3] => { results := [.lit (.bool false)], args := [d1, d2, d3] }
  | _ => none }
def WalWholeWrongFalsely : Prop := walWholeRow.holds Try.pinned (OpenSpec.ofChange walWholeWrong)

/- THE SECOND FORM. 'bulk': how many values and letters a reading holds, each counted each time it is reached (what is shared counts as often as it is met; a slice's spare places count too). A statement '..UptoSaid' is the law's where the arguments, and the package variables that the reading takes, are together of bulk at most 1048576: NARROWER than '..Said'. Prove '..Said' where nothing that the law and all that it calls make is longer than what came in: it says more and counts as full. Else prove '..UptoSaid'. A law counts once. -/
mutual
def uptoBulk {H : Type} : DataW H → Nat
  | .lit (.string bytes) => bytes.length + 1
  | .lit _ => 1
  | .nil => 1
  | .ptr d => uptoBulk d + 1
  | .slice elems spare => uptoBulkAll elems + uptoBulkAll spare + 1
  | .agg parts => uptoBulkAll parts + 1
  | .iface _ d => uptoBulk d + 1
  | .map entries => uptoBulkEntries entries + 1
  | .held _ => 1
def uptoBulkAll {H : Type} : List (DataW H) → Nat
  | [] => 0
  | d :: r => uptoBulk d + uptoBulkAll r
def uptoBulkEntries {H : Type} : List (Lit × DataW H) → Nat
  | [] => 0
  | x :: r => uptoBulkEntry x + uptoBulkEntries r
def uptoBulkEntry {H : Type} : Lit × DataW H → Nat
  | (.string bytes, d) => bytes.length + uptoBulk d + 1
  | (_, d) => uptoBulk d + 1
 end
def uptoSmall : (H : Type) → List (DataW H) → Bool := fun _ ds => decide (uptoBulkAll ds ≤ 1048576)
def OpenSpec.upto (s : _root_.Go.ChangeSpec) : _root_.Go.OpenSpec := { _root_.Go.OpenSpec.ofChange s with cond := some uptoSmall }

/-- 'ecclesialaw09.NibbleShared', WHERE WHAT IT READS IS OF BULK AT MOST 1048576: true; the input reads as it did. -/
def nibbleSharedUptoRow : OpenClaim := { program := "ytddeeejfmodgfaa", sum := "d1a4b5a928f1155ccce83c2f630cd531712b6480b258e578f1150c3d53dddf85", func := "ecclesia/ecclesialaw09.NibbleShared", spec := "nibbleShared", apart := false, narrowed := true }
def NibbleSharedUptoSaid : Prop := nibbleSharedUptoRow.holds Try.pinned (OpenSpec.upto nibbleSharedSpec)

/-- 'ecclesialaw05.CrcFrames', WHERE WHAT IT READS IS OF BULK AT MOST 1048576: true; the input reads as it did. -/
def crcFramesUptoRow : OpenClaim := { program := "ytddeeejfmodgfaa", sum := "d1a4b5a928f1155ccce83c2f630cd531712b6480b258e578f1150c3d53dddf85", func := "ecclesia/ecclesialaw05.CrcFrames", spec := "crcFrames", apart := false, narrowed := true }
def CrcFramesUptoSaid : Prop := crcFramesUptoRow.holds Try.pinned (OpenSpec.upto crcFramesSpec)

/-- 'ecclesialaw09.NibbleKeys', WHERE WHAT IT READS IS OF BULK AT MOST 1048576: true; the input reads as it did. -/
def nibbleKeysUptoRow : OpenClaim := { program := "ytddeeejfmodgfaa", sum := "d1a4b5a928f1155ccce83c2f630cd531712b6480b258e578f1150c3d53dddf85", func := "ecclesia/ecclesialaw09.NibbleKeys", spec := "nibbleKeys", apart := false, narrowed := true }
def NibbleKeysUptoSaid : Prop := nibbleKeysUptoRow.holds Try.pinned (OpenSpec.upto nibbleKeysSpec)

/-- 'ecclesialaw05.CrcScans', WHERE WHAT IT READS IS OF BULK AT MOST 1048576: true; the input reads as it did. -/
def crcScansUptoRow : OpenClaim := { program := "ytddeeejfmodgfaa", sum := "d1a4b5a928f1155ccce83c2f630cd531712b6480b258e578f1150c3d53dddf85", func := "ecclesia/ecclesialaw05.CrcScans", spec := "crcScans", apart := false, narrowed := true }
def CrcScansUptoSaid : Prop := crcScansUptoRow.holds Try.pinned (OpenSpec.upto crcScansSpec)

/-- 'ecclesialaw09.NibblePacks', WHERE WHAT IT READS IS OF BULK AT MOST 1048576: true; the input reads as it did. -/
def nibblePacksUptoRow : OpenClaim := { program := "ytddeeejfmodgfaa", sum := "d1a4b5a928f1155ccce83c2f630cd531712b6480b258e578f1150c3d53dddf85", func := "ecclesia/ecclesialaw09.NibblePacks", spec := "nibblePacks", apart := false, narrowed := true }
def NibblePacksUptoSaid : Prop := nibblePacksUptoRow.holds Try.pinned (OpenSpec.upto nibblePacksSpec)

/-- 'ecclesialaw09.NibbleBack', WHERE WHAT IT READS IS OF BULK AT MOST 1048576: true; the input reads as it did. -/
def nibbleBackUptoRow : OpenClaim := { program := "ytddeeejfmodgfaa", sum := "d1a4b5a928f1155ccce83c2f630cd531712b6480b258e578f1150c3d53dddf85", func := "ecclesia/ecclesialaw09.NibbleBack", spec := "nibbleBack", apart := false, narrowed := true }
def NibbleBackUptoSaid : Prop := nibbleBackUptoRow.holds Try.pinned (OpenSpec.upto nibbleBackSpec)

/-- 'ecclesialaw05.CrcBack', WHERE WHAT IT READS IS OF BULK AT MOST 1048576: true; the input reads as it did. -/
def crcBackUptoRow : OpenClaim := { program := "ytddeeejfmodgfaa", sum := "d1a4b5a928f1155ccce83c2f630cd531712b6480b258e578f1150c3d53dddf85", func := "ecclesia/ecclesialaw05.CrcBack", spec := "crcBack", apart := false, narrowed := true }
def CrcBackUptoSaid : Prop := crcBackUptoRow.holds Try.pinned (OpenSpec.upto crcBackSpec)

/-- 'ecclesialaw05.CrcTurned', WHERE WHAT IT READS IS OF BULK AT MOST 1048576: true; the input reads as it did. -/
def crcTurnedUptoRow : OpenClaim := { program := "ytddeeejfmodgfaa", sum := "d1a4b5a928f1155ccce83c2f630cd531712b6480b258e578f1150c3d53dddf85", func := "ecclesia/ecclesialaw05.CrcTurned", spec := "crcTurned", apart := false, narrowed := true }
def CrcTurnedUptoSaid : Prop := crcTurnedUptoRow.holds Try.pinned (OpenSpec.upto crcTurnedSpec)

/-- 'ecclesialaw05.CrcSizes', WHERE WHAT IT READS IS OF BULK AT MOST 1048576: true; the input reads as it did. -/
def crcSizesUptoRow : OpenClaim := { program := "ytddeeejfmodgfaa", sum := "d1a4b5a928f1155ccce83c2f630cd531712b6480b258e578f1150c3d53dddf85", func := "ecclesia/ecclesialaw05.CrcSizes", spec := "crcSizes", apart := false, narrowed := true }
def CrcSizesUptoSaid : Prop := crcSizesUptoRow.holds Try.pinned (OpenSpec.upto crcSizesSpec)

/-- 'ecclesialaw13.WalCalls', WHERE WHAT IT READS IS OF BULK AT MOST 1048576: true; the input reads as it did. -/
def walCallsUptoRow : OpenClaim := { program := "ytddeeejfmodgfaa", sum := "d1a4b5a928f1155ccce83c2f630cd531712b6480b258e578f1150c3d53dddf85", func := "ecclesia/ecclesialaw13.WalCalls", spec := "walCalls", unfollowed := true, recurses := true, apart := false, narrowed := true }
def WalCallsUptoSaid : Prop := walCallsUptoRow.holds Try.pinned (OpenSpec.upto walCallsSpec)

/-- 'ecclesialaw13.WalSteps', WHERE WHAT IT READS IS OF BULK AT MOST 1048576: true; the input reads as it did. -/
def walStepsUptoRow : OpenClaim := { program := "ytddeeejfmodgfaa", sum := "d1a4b5a928f1155ccce83c2f630cd531712b6480b258e578f1150c3d53dddf85", func := "ecclesia/ecclesialaw13.WalSteps", spec := "walSteps", unfollowed := true, recurses := true, apart := false, narrowed := true }
def WalStepsUptoSaid : Prop := walStepsUptoRow.holds Try.pinned (OpenSpec.upto walStepsSpec)

/-- 'ecclesialaw13.WalWhole', WHERE WHAT IT READS IS OF BULK AT MOST 1048576: true; the input reads as it did. -/
def walWholeUptoRow : OpenClaim := { program := "ytddeeejfmodgfaa", sum := "d1a4b5a928f1155ccce83c2f630cd531712b6480b258e578f1150c3d53dddf85", func := "ecclesia/ecclesialaw13.WalWhole", spec := "walWhole", unfollowed := true, recurses := true, apart := false, narrowed := true }
def WalWholeUptoSaid : Prop := walWholeUptoRow.holds Try.pinned (OpenSpec.upto walWholeSpec)

end Rows
end Go.Proofs.Ytddeeejfmodgfaa
