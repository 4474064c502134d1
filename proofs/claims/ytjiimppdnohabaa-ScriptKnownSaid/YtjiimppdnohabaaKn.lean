/- The walk of ScriptKnown: the abstract machine runs it to its end. -/
import Derived.Test.YtjiimppdnohabaaBase
namespace Go.Proofs.Ytjiimppdnohabaa.scriptKnown
open Go Go.RowKit Go.Proofs.Ytjiimppdnohabaa.TdAm
set_option maxRecDepth 100000 in
theorem ran : ranTrue (callA CC noSpec 4000 none 7 [] []) = true := by kernel_rfl
theorem walk (w : World) : Calls Try.prog 7 #[] w fun e w' => e = .returned (.bool true) ∧ Below w.heap.size w w' :=
  let ⟨_, h⟩ := ranTrue_sound (noSpec_ok CC) ccMix ran
  law_of_spec (C := CC) h (ccGlob w) rfl fun j hj => absurd hj (by simp)
end Go.Proofs.Ytjiimppdnohabaa.scriptKnown
