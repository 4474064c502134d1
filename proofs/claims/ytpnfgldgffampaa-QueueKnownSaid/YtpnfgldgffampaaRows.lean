/-
  No cell of these rows narrows 'for every input' (looked for: loops, veiled, ifaces, maps, wideKeys, modest, calm, conditions, laid).
  DERIVED. THE GIVEN ROWS OF THIS SEAT. 6 by the template 'for every input the law returns true; each argument reads behind the call as it read before'; 0 by the template 'total and deterministic' (their statements: YtpnfgldgffampaaTotals.lean).
  GIVEN WITH THE SEED: the statements are not yours to turn. If you find one false, say at which input.
  Laid BY PROGRAM, IN A SANDBOX (cutbox-rows.mjs): the forced cells as the released guide's own fill.sh prints them over the translation 5545afa23419fa82… (all of the seat's roots in one cut). By AI agents, Wed Nov 11 2026. No macro, syntax, notation, axiom, sorry.
-/
import Derived.Test.YtpnfgldgffampaaChecked
import GoSem.Claim
import GoSem.ClaimJoined
import GoSem.ClaimMapViews
import Derived.JoinedTies
import Derived.KernelRfl
namespace Go.Proofs.Ytpnfgldgffampaa
/- THE CELL 'sum', in the pinned program and in every row, IS THE sha256 OF THE DUMP (.gsa) THAT YtpnfgldgffampaaProg.lean LOADS. Nothing in Lean hashes anything: it is a label: what it is worth is what the hold of that sum in a sandbox is worth. -/
noncomputable def Try.pinned : Pinned := { name := "ytpnfgldgffampaa", sum := "5545afa23419fa82803bf358ac092b41380be8aeb2a566e37a8c8980390edc69", checked := Try.checked }
namespace Rows
def none {H : Type} : Left H := { results := [], args := [] }

/-- 'tandemlaw20.QueueJudges': WHATEVER THE INPUT: true; the input reads as it did. -/
def queueJudgesSpec : ChangeSpec := { name := "queueJudges", fn := fun _ => fun
  | [d1, d2] => { results := [.lit (.bool true)], args := [d1, d2] }
  | _ => none }
def queueJudgesRow : OpenClaim := { program := "ytpnfgldgffampaa", sum := "5545afa23419fa82803bf358ac092b41380be8aeb2a566e37a8c8980390edc69", func := "tandem/tandemlaw20.QueueJudges", spec := "queueJudges", apart := false }
def QueueJudgesSaid : Prop := queueJudgesRow.holds Try.pinned (OpenSpec.ofChange queueJudgesSpec)

/-- ITS FALSE NEIGHBOUR: 'it returns false'. Refute it at one input. -/
def queueJudgesWrong : ChangeSpec := { name := "queueJudges", fn := fun _ => fun
  | [d1, d2] => { results := [.lit (.bool false)], args := [d1, d2] }
  | _ => none }
def QueueJudgesWrongFalsely : Prop := queueJudgesRow.holds Try.pinned (OpenSpec.ofChange queueJudgesWrong)

/-- 'tandemlaw20.QueueKnown': WHATEVER THE INPUT: true; the input reads as it did. -/
def queueKnownSpec : ChangeSpec := { name := "queueKnown", fn := fun _ => fun
  | [] => { results := [.lit (.bool true)], args := [] }
  | _ => none }
def queueKnownRow : OpenClaim := { program := "ytpnfgldgffampaa", sum := "5545afa23419fa82803bf358ac092b41380be8aeb2a566e37a8c8980390edc69", func := "tandem/tandemlaw20.QueueKnown", spec := "queueKnown", apart := false }
def QueueKnownSaid : Prop := queueKnownRow.holds Try.pinned (OpenSpec.ofChange queueKnownSpec)

/-- ITS FALSE NEIGHBOUR: 'it returns false'. Refute it at one input. -/
def queueKnownWrong : ChangeSpec := { name := "queueKnown", fn := fun _ => fun
  | [] => { results := [.lit (.bool false)], args := [] }
  | _ => none }
def QueueKnownWrongFalsely : Prop := queueKnownRow.holds Try.pinned (OpenSpec.ofChange queueKnownWrong)

/-- 'tandemlaw20.QueueParts': WHATEVER THE INPUT: true; the input reads as it did. -/
def queuePartsSpec : ChangeSpec := { name := "queueParts", fn := fun _ => fun
  | [d1, d2, d3] => { results := [.lit (.bool true)], args := [d1, d2, d3] }
  | _ => none }
def queuePartsRow : OpenClaim := { program := "ytpnfgldgffampaa", sum := "5545afa23419fa82803bf358ac092b41380be8aeb2a566e37a8c8980390edc69", func := "tandem/tandemlaw20.QueueParts", spec := "queueParts", apart := false }
def QueuePartsSaid : Prop := queuePartsRow.holds Try.pinned (OpenSpec.ofChange queuePartsSpec)

/-- ITS FALSE NEIGHBOUR: 'it returns false'. Refute it at one input. -/
def queuePartsWrong : ChangeSpec := { name := "queueParts", fn := fun _ => fun
  | [d1, d2, d3] => { results := [.lit (.bool false)], args := [d1, d2, d3] }
  | _ => none }
def QueuePartsWrongFalsely : Prop := queuePartsRow.holds Try.pinned (OpenSpec.ofChange queuePartsWrong)

/-- 'tandemlaw20.QueueScript': WHATEVER THE INPUT: true; the input reads as it did. -/
def queueScriptSpec : ChangeSpec := { name := "queueScript", fn := fun _ => fun
  | [d1, d2] => { results := [.lit (.bool true)], args := [d1, d2] }
  | _ => none }
def queueScriptRow : OpenClaim := { program := "ytpnfgldgffampaa", sum := "5545afa23419fa82803bf358ac092b41380be8aeb2a566e37a8c8980390edc69", func := "tandem/tandemlaw20.QueueScript", spec := "queueScript", apart := false }
def QueueScriptSaid : Prop := queueScriptRow.holds Try.pinned (OpenSpec.ofChange queueScriptSpec)

/-- ITS FALSE NEIGHBOUR: 'it returns false'. Refute it at one input. -/
def queueScriptWrong : ChangeSpec := { name := "queueScript", fn := fun _ => fun
  | [d1, d2] => { results := [.lit (.bool false)], args := [d1, d2] }
  | _ => none }
def QueueScriptWrongFalsely : Prop := queueScriptRow.holds Try.pinned (OpenSpec.ofChange queueScriptWrong)

/-- 'tandemlaw20.QueueNone': WHATEVER THE INPUT: true; the input reads as it did. -/
def queueNoneSpec : ChangeSpec := { name := "queueNone", fn := fun _ => fun
  | [d] => { results := [.lit (.bool true)], args := [d] }
  | _ => none }
def queueNoneRow : OpenClaim := { program := "ytpnfgldgffampaa", sum := "5545afa23419fa82803bf358ac092b41380be8aeb2a566e37a8c8980390edc69", func := "tandem/tandemlaw20.QueueNone", spec := "queueNone", apart := false }
def QueueNoneSaid : Prop := queueNoneRow.holds Try.pinned (OpenSpec.ofChange queueNoneSpec)

/-- ITS FALSE NEIGHBOUR: 'it returns false'. Refute it at one input. -/
def queueNoneWrong : ChangeSpec := { name := "queueNone", fn := fun _ => fun
  | [d] => { results := [.lit (.bool false)], args := [d] }
  | _ => none }
def QueueNoneWrongFalsely : Prop := queueNoneRow.holds Try.pinned (OpenSpec.ofChange queueNoneWrong)

/-- 'tandemlaw20.QueueOrder': WHATEVER THE INPUT: true; the input reads as it did. -/
def queueOrderSpec : ChangeSpec := { name := "queueOrder", fn := fun _ => fun
  | [d1, d2] => { results := [.lit (.bool true)], args := [d1, d2] }
  | _ => none }
def queueOrderRow : OpenClaim := { program := "ytpnfgldgffampaa", sum := "5545afa23419fa82803bf358ac092b41380be8aeb2a566e37a8c8980390edc69", func := "tandem/tandemlaw20.QueueOrder", spec := "queueOrder", apart := false }
def QueueOrderSaid : Prop := queueOrderRow.holds Try.pinned (OpenSpec.ofChange queueOrderSpec)

/-- ITS FALSE NEIGHBOUR: 'it returns false'. Refute it at one input. -/
def queueOrderWrong : ChangeSpec := { name := "queueOrder", fn := fun _ => fun
  | [d1, d2] => { results := [.lit (.bool false)], args := [d1, d2] }
  | _ => none }
def QueueOrderWrongFalsely : Prop := queueOrderRow.holds Try.pinned (OpenSpec.ofChange queueOrderWrong)

/- THE SECOND FORM. 'bulk': how many values and letters a reading holds, each counted each time it is reached (what is shared counts as often as it is met; a slice's spare places count too). A statement '..UptoSaid' is the law's where the arguments, and the package variables that the reading takes, are together of bulk at most 1048576: NARROWER than '..Said'. Prove '..Said' where nothing that the law and all that it calls make is longer than what came in: it says more and counts as full. Else prove '..UptoSaid'. A law counts once. -/
mutual
def uptoBulk {H : Type} : DataW H → Nat
  | .lit (.string bytes) => bytes.length + 1
  | .lit _ => 1
  | .nil => 1
  | .ptr d => uptoBulk d + 1
  | .slice elems spare => uptoBulkAll elems + uptoBulkAll spare + 1
  | .agg parts => uptoBulkAll parts + 1
  | .iface _ d => uptoBulk d + 1
  | .map entries => uptoBulkEntries entries + 1
  | .held _ => 1
def uptoBulkAll {H : Type} : List (DataW H) → Nat
  | [] => 0
  | d :: r => uptoBulk d + uptoBulkAll r
def uptoBulkEntries {H : Type} : List (Lit × DataW H) → Nat
  | [] => 0
  | x :: r => uptoBulkEntry x + uptoBulkEntries r
def uptoBulkEntry {H : Type} : Lit × DataW H → Nat
  | (.string bytes, d) => bytes.length + uptoBulk d + 1
  | (_, d) => uptoBulk d + 1
 end
def uptoSmall : (H : Type) → List (DataW H) → Bool := fun _ ds => decide (uptoBulkAll ds ≤ 1048576)
def OpenSpec.upto (s : _root_.Go.ChangeSpec) : _root_.Go.OpenSpec := { _root_.Go.OpenSpec.ofChange s with cond := some uptoSmall }

/-- 'tandemlaw20.QueueJudges', WHERE WHAT IT READS IS OF BULK AT MOST 1048576: true; the input reads as it did. -/
def queueJudgesUptoRow : OpenClaim := { program := "ytpnfgldgffampaa", sum := "5545afa23419fa82803bf358ac092b41380be8aeb2a566e37a8c8980390edc69", func := "tandem/tandemlaw20.QueueJudges", spec := "queueJudges", apart := false, narrowed := true }
def QueueJudgesUptoSaid : Prop := queueJudgesUptoRow.holds Try.pinned (OpenSpec.upto queueJudgesSpec)

/-- 'tandemlaw20.QueueKnown', WHERE WHAT IT READS IS OF BULK AT MOST 1048576: true; the input reads as it did. -/
def queueKnownUptoRow : OpenClaim := { program := "ytpnfgldgffampaa", sum := "5545afa23419fa82803bf358ac092b41380be8aeb2a566e37a8c8980390edc69", func := "tandem/tandemlaw20.QueueKnown", spec := "queueKnown", apart := false, narrowed := true }
def QueueKnownUptoSaid : Prop := queueKnownUptoRow.holds Try.pinned (OpenSpec.upto queueKnownSpec)

/-- 'tandemlaw20.QueueParts', WHERE WHAT IT READS IS OF BULK AT MOST 1048576: true; the input reads as it did. -/
def queuePartsUptoRow : OpenClaim := { program := "ytpnfgldgffampaa", sum := "5545afa23419fa82803bf358ac092b41380be8aeb2a566e37a8c8980390edc69", func := "tandem/tandemlaw20.QueueParts", spec := "queueParts", apart := false, narrowed := true }
def QueuePartsUptoSaid : Prop := queuePartsUptoRow.holds Try.pinned (OpenSpec.upto queuePartsSpec)

/-- 'tandemlaw20.QueueScript', WHERE WHAT IT READS IS OF BULK AT MOST 1048576: true; the input reads as it did. -/
def queueScriptUptoRow : OpenClaim := { program := "ytpnfgldgffampaa", sum := "5545afa23419fa82803bf358ac092b41380be8aeb2a566e37a8c8980390edc69", func := "tandem/tandemlaw20.QueueScript", spec := "queueScript", apart := false, narrowed := true }
def QueueScriptUptoSaid : Prop := queueScriptUptoRow.holds Try.pinned (OpenSpec.upto queueScriptSpec)

/-- 'tandemlaw20.QueueNone', WHERE WHAT IT READS IS OF BULK AT MOST 1048576: true; the input reads as it did. -/
def queueNoneUptoRow : OpenClaim := { program := "ytpnfgldgffampaa", sum := "5545afa23419fa82803bf358ac092b41380be8aeb2a566e37a8c8980390edc69", func := "tandem/tandemlaw20.QueueNone", spec := "queueNone", apart := false, narrowed := true }
def QueueNoneUptoSaid : Prop := queueNoneUptoRow.holds Try.pinned (OpenSpec.upto queueNoneSpec)

/-- 'tandemlaw20.QueueOrder', WHERE WHAT IT READS IS OF BULK AT MOST 1048576: true; the input reads as it did. -/
def queueOrderUptoRow : OpenClaim := { program := "ytpnfgldgffampaa", sum := "5545afa23419fa82803bf358ac092b41380be8aeb2a566e37a8c8980390edc69", func := "tandem/tandemlaw20.QueueOrder", spec := "queueOrder", apart := false, narrowed := true }
def QueueOrderUptoSaid : Prop := queueOrderUptoRow.holds Try.pinned (OpenSpec.upto queueOrderSpec)

end Rows
end Go.Proofs.Ytpnfgldgffampaa
