/-
  No cell of these rows narrows 'for every input' (looked for: loops, veiled, ifaces, maps, wideKeys, modest, calm, conditions, laid).
  DERIVED. THE GIVEN ROWS OF THIS SEAT. 6 by the template 'for every input the law returns true; each argument reads behind the call as it read before'; 0 by the template 'total and deterministic' (their statements: YtaoegccekmgcmaaTotals.lean).
  GIVEN WITH THE SEED: the statements are not yours to turn. If you find one false, say at which input.
  Laid BY PROGRAM, IN A SANDBOX (cutbox-rows.mjs): the forced cells as the released guide's own fill.sh prints them over the translation fa3efd9a500686fd… (all of the seat's roots in one cut). By AI agents, Wed Nov 11 2026. No macro, syntax, notation, axiom, sorry.
-/
import Derived.Test.YtaoegccekmgcmaaChecked
import GoSem.Claim
import GoSem.ClaimJoined
import GoSem.ClaimMapViews
import Derived.JoinedTies
import Derived.KernelRfl
namespace Go.Proofs.Ytaoegccekmgcmaa
/- THE CELL 'sum', in the pinned program and in every row, IS THE sha256 OF THE DUMP (.gsa) THAT YtaoegccekmgcmaaProg.lean LOADS. Nothing in Lean hashes anything: it is a label: what it is worth is what the hold of that sum in a sandbox is worth. -/
noncomputable def Try.pinned : Pinned := { name := "ytaoegccekmgcmaa", sum := "fa3efd9a500686fd6da25f3707143a33962b7a4302de69732611fcf0fb9013c5", checked := Try.checked }
namespace Rows
def none {H : Type} : Left H := { results := [], args := [] }

/-- 'ecclesialaw20.VsetCounts': WHATEVER THE INPUT: true; the input reads as it did. -/
def vsetCountsSpec : ChangeSpec := { name := "vsetCounts", fn := fun _ => fun
  | [d1, d2, d3, d4] => { results := [.lit (.bool true)], args := [d1, d2, d3, d4] }
  | _ => none }
def vsetCountsRow : OpenClaim := { program := "ytaoegccekmgcmaa", sum := "fa3efd9a500686fd6da25f3707143a33962b7a4302de69732611fcf0fb9013c5", func := "ecclesia/ecclesialaw20.VsetCounts", spec := "vsetCounts", apart := false }
def VsetCountsSaid : Prop := vsetCountsRow.holds Try.pinned (OpenSpec.ofChange vsetCountsSpec)

/-- ITS FALSE NEIGHBOUR: 'it returns false'. Refute it at one input. -/
def vsetCountsWrong : ChangeSpec := { name := "vsetCounts", fn := fun _ => fun
  | [d1, d2, d3, d4] => { results := [.lit (.bool false)], args := [d1, d2, d3, d4] }
  | _ => none }
def VsetCountsWrongFalsely : Prop := vsetCountsRow.holds Try.pinned (OpenSpec.ofChange vsetCountsWrong)

/-- 'ecclesialaw20.VsetQuorums': WHATEVER THE INPUT: true; the input reads as it did. -/
def vsetQuorumsSpec : ChangeSpec := { name := "vsetQuorums", fn := fun _ => fun
  | [d1, d2, d3] => { results := [.lit (.bool true)], args := [d1, d2, d3] }
  | _ => none }
def vsetQuorumsRow : OpenClaim := { program := "ytaoegccekmgcmaa", sum := "fa3efd9a500686fd6da25f3707143a33962b7a4302de69732611fcf0fb9013c5", func := "ecclesia/ecclesialaw20.VsetQuorums", spec := "vsetQuorums", apart := false }
def VsetQuorumsSaid : Prop := vsetQuorumsRow.holds Try.pinned (OpenSpec.ofChange vsetQuorumsSpec)

/-- ITS FALSE NEIGHBOUR: 'it returns false'. Refute it at one input. -/
def vsetQuorumsWrong : ChangeSpec := { name := "vsetQuorums", fn := fun _ => fun
  | [d1, d2, d3] => { results := [.lit (.bool false)], args := [d1, d2, d3] }
  | _ => none }
def VsetQuorumsWrongFalsely : Prop := vsetQuorumsRow.holds Try.pinned (OpenSpec.ofChange vsetQuorumsWrong)

/-- 'ecclesialaw20.VsetTurns': WHATEVER THE INPUT: true; the input reads as it did. -/
def vsetTurnsSpec : ChangeSpec := { name := "vsetTurns", fn := fun _ => fun
  | [d1, d2, d3] => { results := [.lit (.bool true)], args := [d1, d2, d3] }
  | _ => none }
def vsetTurnsRow : OpenClaim := { program := "ytaoegccekmgcmaa", sum := "fa3efd9a500686fd6da25f3707143a33962b7a4302de69732611fcf0fb9013c5", func := "ecclesia/ecclesialaw20.VsetTurns", spec := "vsetTurns", apart := false }
def VsetTurnsSaid : Prop := vsetTurnsRow.holds Try.pinned (OpenSpec.ofChange vsetTurnsSpec)

/-- ITS FALSE NEIGHBOUR: 'it returns false'. Refute it at one input. -/
def vsetTurnsWrong : ChangeSpec := { name := "vsetTurns", fn := fun _ => fun
  | [d1, d2, d3] => { results := [.lit (.bool false)], args := [d1, d2, d3] }
  | _ => none }
def VsetTurnsWrongFalsely : Prop := vsetTurnsRow.holds Try.pinned (OpenSpec.ofChange vsetTurnsWrong)

/-- 'ecclesialaw12.DeviceJoins': WHATEVER THE INPUT: true; the input reads as it did. -/
def deviceJoinsSpec : ChangeSpec := { name := "deviceJoins", fn := fun _ => fun
  | [d1, d2, d3] => { results := [.lit (.bool true)], args := [d1, d2, d3] }
  | _ => none }
def deviceJoinsRow : OpenClaim := { program := "ytaoegccekmgcmaa", sum := "fa3efd9a500686fd6da25f3707143a33962b7a4302de69732611fcf0fb9013c5", func := "ecclesia/ecclesialaw12.DeviceJoins", spec := "deviceJoins", unfollowed := true, recurses := true, apart := false }
def DeviceJoinsSaid : Prop := deviceJoinsRow.holds Try.pinned (OpenSpec.ofChange deviceJoinsSpec)

/-- ITS FALSE NEIGHBOUR: 'it returns false'. Refute it at one input. -/
def deviceJoinsWrong : ChangeSpec := { name := "deviceJoins", fn := fun _ => fun
  | [d1, d2, d3] => { results := [.lit (.bool false)], args := [d1, d2, d3] }
  | _ => none }
def DeviceJoinsWrongFalsely : Prop := deviceJoinsRow.holds Try.pinned (OpenSpec.ofChange deviceJoinsWrong)

/-- 'ecclesialaw12.DeviceSure': WHATEVER THE INPUT: true; the input reads as it did. -/
def deviceSureSpec : ChangeSpec := { name := "deviceSure", fn := fun _ => fun
  | [d1, d2, d3, d4] => { results := [.lit (.bool true)], args := [d1, d2, d3, d4] }
  | _ => none }
def deviceSureRow : OpenClaim := { program := "ytaoegccekmgcmaa", sum := "fa3efd9a500686fd6da25f3707143a33962b7a4302de69732611fcf0fb9013c5", func := "ecclesia/ecclesialaw12.DeviceSure", spec := "deviceSure", unfollowed := true, recurses := true, apart := false }
def DeviceSureSaid : Prop := deviceSureRow.holds Try.pinned (OpenSpec.ofChange deviceSureSpec)

/-- ITS FALSE NEIGHBOUR: 'it returns false'. Refute it at one input. -/
def deviceSureWrong : ChangeSpec := { name := "deviceSure", fn := fun _ => fun
  | [d1, d2, d3, d4] => { results := [.lit (.bool false)], args := [d1, d2, d3, d4] }
  | _ => none }
def DeviceSureWrongFalsely : Prop := deviceSureRow.holds Try.pinned (OpenSpec.ofChange deviceSureWrong)

/-- 'ecclesialaw12.DeviceCalls': WHATEVER THE INPUT: true; the input reads as it did. -/
def deviceCallsSpec : ChangeSpec := { name := "deviceCalls", fn := fun _ => fun
  | [d1, d2, d3] => { results := [.lit (.bool true)], args := [d1, d2, d3] }
  | _ => none }
def deviceCallsRow : OpenClaim := { program := "ytaoegccekmgcmaa", sum := "fa3efd9a500686fd6da25f3707143a33962b7a4302de69732611fcf0fb9013c5", func := "ecclesia/ecclesialaw12.DeviceCalls", spec := "deviceCalls", unfollowed := true, recurses := true, apart := false }
def DeviceCallsSaid : Prop := deviceCallsRow.holds Try.pinned (OpenSpec.ofChange deviceCallsSpec)

/-- ITS FALSE NEIGHBOUR: 'it returns false'. Refute it at one input. -/
def deviceCallsWrong : ChangeSpec := { name := "deviceCalls", fn := fun _ => fun
  | [d1, d2, d3] => { results := [.lit (.bool false)], args := [d1, d2, d3] }
  | _ => none }
def DeviceCallsWrongFalsely : Prop := deviceCallsRow.holds Try.pinned (OpenSpec.ofChange deviceCallsWrong)

/- THE SECOND FORM. 'bulk': how many values and letters a reading holds, each counted each time it is reached (what is shared counts as often as it is met; a slice's spare places count too). A statement '..UptoSaid' is the law's where the arguments, and the package variables that the reading takes, are together of bulk at most 1048576: NARROWER than '..Said'. Prove '..Said' where nothing that the law and all that it calls make is longer than what came in: it says more and counts as full. Else prove '..UptoSaid'. A law counts once. -/
mutual
def uptoBulk {H : Type} : DataW H → Nat
  | .lit (.string bytes) => bytes.length + 1
  | .lit _ => 1
  | .nil => 1
  | .ptr d => uptoBulk d + 1
  | .slice elems spare => uptoBulkAll elems + uptoBulkAll spare + 1
  | .agg parts => uptoBulkAll parts + 1
  | .iface _ d => uptoBulk d + 1
  | .map entries => uptoBulkEntries entries + 1
  | .held _ => 1
def uptoBulkAll {H : Type} : List (DataW H) → Nat
  | [] => 0
  | d :: r => uptoBulk d + uptoBulkAll r
def uptoBulkEntries {H : Type} : List (Lit × DataW H) → Nat
  | [] => 0
  | x :: r => uptoBulkEntry x + uptoBulkEntries r
def uptoBulkEntry {H : Type} : Lit × DataW H → Nat
  | (.string bytes, d) => bytes.length + uptoBulk d + 1
  | (_, d) => uptoBulk d + 1
 end
def uptoSmall : (H : Type) → List (DataW H) → Bool := fun _ ds => decide (uptoBulkAll ds ≤ 1048576)
def OpenSpec.upto (s : _root_.Go.ChangeSpec) : _root_.Go.OpenSpec := { _root_.Go.OpenSpec.ofChange s with cond := some uptoSmall }

/-- 'ecclesialaw20.VsetCounts', WHERE WHAT IT READS IS OF BULK AT MOST 1048576: true; the input reads as it did. -/
def vsetCountsUptoRow : OpenClaim := { program := "ytaoegccekmgcmaa", sum := "fa3efd9a500686fd6da25f3707143a33962b7a4302de69732611fcf0fb9013c5", func := "ecclesia/ecclesialaw20.VsetCounts", spec := "vsetCounts", apart := false, narrowed := true }
def VsetCountsUptoSaid : Prop := vsetCountsUptoRow.holds Try.pinned (OpenSpec.upto vsetCountsSpec)

/-- 'ecclesialaw20.VsetQuorums', WHERE WHAT IT READS IS OF BULK AT MOST 1048576: true; the input reads as it did. -/
def vsetQuorumsUptoRow : OpenClaim := { program := "ytaoegccekmgcmaa", sum := "fa3efd9a500686fd6da25f3707143a33962b7a4302de69732611fcf0fb9013c5", func := "ecclesia/ecclesialaw20.VsetQuorums", spec := "vsetQuorums", apart := false, narrowed := true }
def VsetQuorumsUptoSaid : Prop := vsetQuorumsUptoRow.holds Try.pinned (OpenSpec.upto vsetQuorumsSpec)

/-- 'ecclesialaw20.VsetTurns', WHERE WHAT IT READS IS OF BULK AT MOST 1048576: true; the input reads as it did. -/
def vsetTurnsUptoRow : OpenClaim := { program := "ytaoegccekmgcmaa", sum := "fa3efd9a500686fd6da25f3707143a33962b7a4302de69732611fcf0fb9013c5", func := "ecclesia/ecclesialaw20.VsetTurns", spec := "vsetTurns", apart := false, narrowed := true }
def VsetTurnsUptoSaid : Prop := vsetTurnsUptoRow.holds Try.pinned (OpenSpec.upto vsetTurnsSpec)

/-- 'ecclesialaw12.DeviceJoins', WHERE WHAT IT READS IS OF BULK AT MOST 1048576: true; the input reads as it did. -/
def deviceJoinsUptoRow : OpenClaim := { program := "ytaoegccekmgcmaa", sum := "fa3efd9a500686fd6da25f3707143a33962b7a4302de69732611fcf0fb9013c5", func := "ecclesia/ecclesialaw12.DeviceJoins", spec := "deviceJoins", unfollowed := true, recurses := true, apart := false, narrowed := true }
def DeviceJoinsUptoSaid : Prop := deviceJoinsUptoRow.holds Try.pinned (OpenSpec.upto deviceJoinsSpec)

/-- 'ecclesialaw12.DeviceSure', WHERE WHAT IT READS IS OF BULK AT MOST 1048576: true; the input reads as it did. -/
def deviceSureUptoRow : OpenClaim := { program := "ytaoegccekmgcmaa", sum := "fa3efd9a500686fd6da25f3707143a33962b7a4302de69732611fcf0fb9013c5", func := "ecclesia/ecclesialaw12.DeviceSure", spec := "deviceSure", unfollowed := true, recurses := true, apart := false, narrowed := true }
def DeviceSureUptoSaid : Prop := deviceSureUptoRow.holds Try.pinned (OpenSpec.upto deviceSureSpec)

/-- 'ecclesialaw12.DeviceCalls', WHERE WHAT IT READS IS OF BULK AT MOST 1048576: true; the input reads as it did. -/
def deviceCallsUptoRow : OpenClaim := { program := "ytaoegccekmgcmaa", sum := "fa3efd9a500686fd6da25f3707143a33962b7a4302de69732611fcf0fb9013c5", func := "ecclesia/ecclesialaw12.DeviceCalls", spec := "deviceCalls", unfollowed := true, recurses := true, apart := false, narrowed := true }
def DeviceCallsUptoSaid : Prop := deviceCallsUptoRow.holds Try.pinned (OpenSpec.upto deviceCallsSpec)

end Rows
end Go.Proofs.Ytaoegccekmgcmaa
