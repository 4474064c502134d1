/-
  No cell of these rows narrows 'for every input' (looked for: loops, veiled, ifaces, maps, wideKeys, modest, calm, conditions, laid).
  DERIVED. THE GIVEN ROWS OF THIS SEAT. 5 by the template 'for every input the law returns true; each argument reads behind the call as it read before'; 0 by the template 'total and deterministic' (their statements: YtmdkhdfckdkceaaTotals.lean).
  GIVEN WITH THE SEED: the statements are not yours to turn. If you find one false, say at which input.
  Laid BY PROGRAM, IN A SANDBOX (cutbox-rows.mjs): the forced cells as the released guide's own fill.sh prints them over the translation 11f8314226f5d59b… (all of the seat's roots in one cut). By AI agents, Wed Nov 11 2026. No macro, syntax, notation, axiom, sorry.
-/
import Derived.Test.YtmdkhdfckdkceaaChecked
import GoSem.Claim
import GoSem.ClaimJoined
import GoSem.ClaimMapViews
import Derived.JoinedTies
import Derived.KernelRfl
namespace Go.Proofs.Ytmdkhdfckdkceaa
/- THE CELL 'sum', in the pinned program and in every row, IS THE sha256 OF THE DUMP (.gsa) THAT YtmdkhdfckdkceaaProg.lean LOADS. Nothing in Lean hashes anything: it is a label: what it is worth is what the hold of that sum in a sandbox is worth. -/
noncomputable def Try.pinned : Pinned := { name := "ytmdkhdfckdkceaa", sum := "11f8314226f5d59b8ae4335c9f2b9b28259f2ee2903ec07712bfa85c2d64acae", checked := Try.checked }
namespace Rows
def none {H : Type} : Left H := { results := [], args := [] }

/-- 'tandemlaw03.FixedPuts': WHATEVER THE INPUT: true; the input reads as it did. -/
def fixedPutsSpec : ChangeSpec := { name := "fixedPuts", fn := fun _ => fun
  | [d1, d2, d3] => { results := [.lit (.bool true)], args := [d1, d2, d3] }
  | _ => none }
def fixedPutsRow : OpenClaim := { program := "ytmdkhdfckdkceaa", sum := "11f8314226f5d59b8ae4335c9f2b9b28259f2ee2903ec07712bfa85c2d64acae", func := "tandem/tandemlaw03.FixedPuts", spec := "fixedPuts", apart := false }
def FixedPutsSaid : Prop := fixedPutsRow.holds Try.pinned (OpenSpec.ofChange fixedPutsSpec)

/-- ITS FALSE NEIGHBOUR: 'it returns false'. Refute it at one input. -/
def fixedPutsWrong : ChangeSpec := { name := "fixedPuts", fn := fun _ => fun
  | [d1, d2, d3] => { results := [.lit (.bool false)], args := [d1, d2, d3] }
  | _ => none }
def FixedPutsWrongFalsely : Prop := fixedPutsRow.holds Try.pinned (OpenSpec.ofChange fixedPutsWrong)

/-- 'tandemlaw03.FixedGets': WHATEVER THE INPUT: true; the input reads as it did. -/
def fixedGetsSpec : ChangeSpec := { name := "fixedGets", fn := fun _ => fun
  | [d1, d2, d3] => { results := [.lit (.bool true)], args := [d1, d2, d3] }
  | _ => none }
def fixedGetsRow : OpenClaim := { program := "ytmdkhdfckdkceaa", sum := "11f8314226f5d59b8ae4335c9f2b9b28259f2ee2903ec07712bfa85c2d64acae", func := "tandem/tandemlaw03.FixedGets", spec := "fixedGets", apart := false }
def FixedGetsSaid : Prop := fixedGetsRow.holds Try.pinned (OpenSpec.ofChange fixedGetsSpec)

/-- ITS FALSE NEIGHBOUR: 'it returns false'. Refute it at one input. -/
def fixedGetsWrong : ChangeSpec := { name := "fixedGets", fn := fun _ => fun
  | [d1, d2, d3] => { results := [.lit (.bool false)], args := [d1, d2, d3] }
  | _ => none }
def FixedGetsWrongFalsely : Prop := fixedGetsRow.holds Try.pinned (OpenSpec.ofChange fixedGetsWrong)

/-- 'tandemlaw03.FixedHalves': WHATEVER THE INPUT: true; the input reads as it did. -/
def fixedHalvesSpec : ChangeSpec := { name := "fixedHalves", fn := fun _ => fun
  | [d1, d2, d3, d4] => { results := [.lit (.bool true)], args := [d1, d2, d3, d4] }
  | _ => none }
def fixedHalvesRow : OpenClaim := { program := "ytmdkhdfckdkceaa", sum := "11f8314226f5d59b8ae4335c9f2b9b28259f2ee2903ec07712bfa85c2d64acae", func := "tandem/tandemlaw03.FixedHalves", spec := "fixedHalves", apart := false }
def FixedHalvesSaid : Prop := fixedHalvesRow.holds Try.pinned (OpenSpec.ofChange fixedHalvesSpec)

/-- ITS FALSE NEIGHBOUR: 'it returns false'. Refute it at one input. -/
def fixedHalvesWrong : ChangeSpec := { name := "fixedHalves", fn := fun _ => fun
  | [d1, d2, d3, d4] => { results := [.lit (.bool false)], args := [d1, d2, d3, d4] }
  | _ => none }
def FixedHalvesWrongFalsely : Prop := fixedHalvesRow.holds Try.pinned (OpenSpec.ofChange fixedHalvesWrong)

/-- 'tandemlaw03.FixedBack': WHATEVER THE INPUT: true; the input reads as it did. -/
def fixedBackSpec : ChangeSpec := { name := "fixedBack", fn := fun _ => fun
  | [d1, d2, d3, d4, d5] => { results := [.lit (.bool true)], args := [d1, d2, d3, d4, d5] }
  | _ => none }
def fixedBackRow : OpenClaim := { program := "ytmdkhdfckdkceaa", sum := "11f8314226f5d59b8ae4335c9f2b9b28259f2ee2903ec07712bfa85c2d64acae", func := "tandem/tandemlaw03.FixedBack", spec := "fixedBack", apart := false }
def FixedBackSaid : Prop := fixedBackRow.holds Try.pinned (OpenSpec.ofChange fixedBackSpec)

/-- ITS FALSE NEIGHBOUR: 'it returns false'. Refute it at one input. -/
def fixedBackWrong : ChangeSpec := { name := "fixedBack", fn := fun _ => fun
  | [d1, d2, d3, d4, d5] => { results := [.lit (.bool false)], args := [d1, d2, d3, d4, d5] }
  | _ => none }
def FixedBackWrongFalsely : Prop := fixedBackRow.holds Try.pinned (OpenSpec.ofChange fixedBackWrong)

/-- 'tandemlaw03.FixedKnown': WHATEVER THE INPUT: true; the input reads as it did. -/
def fixedKnownSpec : ChangeSpec := { name := "fixedKnown", fn := fun _ => fun
  | [] => { results := [.lit (.bool true)], args := [] }
  | _ => none }
def fixedKnownRow : OpenClaim := { program := "ytmdkhdfckdkceaa", sum := "11f8314226f5d59b8ae4335c9f2b9b28259f2ee2903ec07712bfa85c2d64acae", func := "tandem/tandemlaw03.FixedKnown", spec := "fixedKnown", apart := false }
def FixedKnownSaid : Prop := fixedKnownRow.holds Try.pinned (OpenSpec.ofChange fixedKnownSpec)

/-- ITS FALSE NEIGHBOUR: 'it returns false'. Refute it at one input. -/
def fixedKnownWrong : ChangeSpec := { name := "fixedKnown", fn := fun _ => fun
  | [] => { results := [.lit (.bool false)], args := [] }
  | _ => none }
def FixedKnownWrongFalsely : Prop := fixedKnownRow.holds Try.pinned (OpenSpec.ofChange fixedKnownWrong)

/- THE SECOND FORM. 'bulk': how many values and letters a reading holds, each counted each time it is reached (what is shared counts as often as it is met; a slice's spare places count too). A statement '..UptoSaid' is the law's where the arguments, and the package variables that the reading takes, are together of bulk at most 1048576: NARROWER than '..Said'. Prove '..Said' where nothing that the law and all that it calls make is longer than what came in: it says more and counts as full. Else prove '..UptoSaid'. A law counts once. -/
mutual
def uptoBulk {H : Type} : DataW H → Nat
  | .lit (.string bytes) => bytes.length + 1
  | .lit _ => 1
  | .nil => 1
  | .ptr d => uptoBulk d + 1
  | .slice elems spare => uptoBulkAll elems + uptoBulkAll spare + 1
  | .agg parts => uptoBulkAll parts + 1
  | .iface _ d => uptoBulk d + 1
  | .map entries => uptoBulkEntries entries + 1
  | .held _ => 1
def uptoBulkAll {H : Type} : List (DataW H) → Nat
  | [] => 0
  | d :: r => uptoBulk d + uptoBulkAll r
def uptoBulkEntries {H : Type} : List (Lit × DataW H) → Nat
  | [] => 0
  | x :: r => uptoBulkEntry x + uptoBulkEntries r
def uptoBulkEntry {H : Type} : Lit × DataW H → Nat
  | (.string bytes, d) => bytes.length + uptoBulk d + 1
  | (_, d) => uptoBulk d + 1
 end
def uptoSmall : (H : Type) → List (DataW H) → Bool := fun _ ds => decide (uptoBulkAll ds ≤ 1048576)
def OpenSpec.upto (s : _root_.Go.ChangeSpec) : _root_.Go.OpenSpec := { _root_.Go.OpenSpec.ofChange s with cond := some uptoSmall }

/-- 'tandemlaw03.FixedPuts', WHERE WHAT IT READS IS OF BULK AT MOST 1048576: true; the input reads as it did. -/
def fixedPutsUptoRow : OpenClaim := { program := "ytmdkhdfckdkceaa", sum := "11f8314226f5d59b8ae4335c9f2b9b28259f2ee2903ec07712bfa85c2d64acae", func := "tandem/tandemlaw03.FixedPuts", spec := "fixedPuts", apart := false, narrowed := true }
def FixedPutsUptoSaid : Prop := fixedPutsUptoRow.holds Try.pinned (OpenSpec.upto fixedPutsSpec)

/-- 'tandemlaw03.FixedGets', WHERE WHAT IT READS IS OF BULK AT MOST 1048576: true; the input reads as it did. -/
def fixedGetsUptoRow : OpenClaim := { program := "ytmdkhdfckdkceaa", sum := "11f8314226f5d59b8ae4335c9f2b9b28259f2ee2903ec07712bfa85c2d64acae", func := "tandem/tandemlaw03.FixedGets", spec := "fixedGets", apart := false, narrowed := true }
def FixedGetsUptoSaid : Prop := fixedGetsUptoRow.holds Try.pinned (OpenSpec.upto fixedGetsSpec)

/-- 'tandemlaw03.FixedHalves', WHERE WHAT IT READS IS OF BULK AT MOST 1048576: true; the input reads as it did. -/
def fixedHalvesUptoRow : OpenClaim := { program := "ytmdkhdfckdkceaa", sum := "11f8314226f5d59b8ae4335c9f2b9b28259f2ee2903ec07712bfa85c2d64acae", func := "tandem/tandemlaw03.FixedHalves", spec := "fixedHalves", apart := false, narrowed := true }
def FixedHalvesUptoSaid : Prop := fixedHalvesUptoRow.holds Try.pinned (OpenSpec.upto fixedHalvesSpec)

/-- 'tandemlaw03.FixedBack', WHERE WHAT IT READS IS OF BULK AT MOST 1048576: true; the input reads as it did. -/
def fixedBackUptoRow : OpenClaim := { program := "ytmdkhdfckdkceaa", sum := "11f8314226f5d59b8ae4335c9f2b9b28259f2ee2903ec07712bfa85c2d64acae", func := "tandem/tandemlaw03.FixedBack", spec := "fixedBack", apart := false, narrowed := true }
def FixedBackUptoSaid : Prop := fixedBackUptoRow.holds Try.pinned (OpenSpec.upto fixedBackSpec)

/-- 'tandemlaw03.FixedKnown', WHERE WHAT IT READS IS OF BULK AT MOST 1048576: true; the input reads as it did. -/
def fixedKnownUptoRow : OpenClaim := { program := "ytmdkhdfckdkceaa", sum := "11f8314226f5d59b8ae4335c9f2b9b28259f2ee2903ec07712bfa85c2d64acae", func := "tandem/tandemlaw03.FixedKnown", spec := "fixedKnown", apart := false, narrowed := true }
def FixedKnownUptoSaid : Prop := fixedKnownUptoRow.holds Try.pinned (OpenSpec.upto fixedKnownSpec)

end Rows
end Go.Proofs.Ytmdkhdfckdkceaa
