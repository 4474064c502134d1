/- The walk of CrcKnown: the abstract machine runs it to its end. -/
import Derived.Test.YtklcnffiplnifaaDoorBase
namespace Go.Proofs.YtklcnffiplnifaaDoor.crcKnown
open Go Go.RowKit Go.Proofs.YtklcnffiplnifaaDoor.TdAm
set_option maxRecDepth 100000 in
theorem ran : ranTrue (callA CC noSpec 4000 none 8 [] []) = true := by kernel_rfl
theorem walk (w : World) (hL : laidMetH Tryd.prog laidD w) : Calls Tryd.prog 8 #[] w fun e w' => e = .returned (.bool true) ∧ Below w.heap.size w w' :=
  let ⟨_, h⟩ := ranTrue_sound (noSpec_ok CC) ccMix ran
  law_of_spec (C := CC) h (ccGlob hL) rfl fun j hj => absurd hj (by simp)
end Go.Proofs.YtklcnffiplnifaaDoor.crcKnown
