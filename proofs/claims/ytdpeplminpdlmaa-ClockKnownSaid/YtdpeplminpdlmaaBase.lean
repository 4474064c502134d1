/- What the abstract machine is told of the program of this seat. -/
import Derived.Test.YtdpeplminpdlmaaAm23
import Derived.Test.YtdpeplminpdlmaaProg
namespace Go.Proofs.Ytdpeplminpdlmaa.TdAm
open Go Go.RowKit
noncomputable def CC : Cx := ⟨Try.prog, fun _ => none⟩
theorem ccMix : CC.P.follows .mixedOrders = true := by kernel_rfl
theorem ccGlob (w : World) : GlobR CC w := fun g x h => by cases h
end Go.Proofs.Ytdpeplminpdlmaa.TdAm
