/- The walk of ClockKnown: the abstract machine runs it to its end. -/
import Derived.Test.YtdpeplminpdlmaaBase
namespace Go.Proofs.Ytdpeplminpdlmaa.clockKnown
open Go Go.RowKit Go.Proofs.Ytdpeplminpdlmaa.TdAm
set_option maxRecDepth 100000 in
theorem ran : ranTrue (callA CC noSpec 4000 none 7 [] []) = true := by kernel_rfl
theorem walk (w : World) : Calls Try.prog 7 #[] w fun e w' => e = .returned (.bool true) ∧ Below w.heap.size w w' :=
  let ⟨_, h⟩ := ranTrue_sound (noSpec_ok CC) ccMix ran
  law_of_spec (C := CC) h (ccGlob w) rfl fun j hj => absurd hj (by simp)
end Go.Proofs.Ytdpeplminpdlmaa.clockKnown
