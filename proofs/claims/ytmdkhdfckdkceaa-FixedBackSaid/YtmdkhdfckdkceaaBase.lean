/- What the abstract machine is told of the program of this seat. -/
import Derived.Test.YtmdkhdfckdkceaaAm30
import Derived.Test.YtmdkhdfckdkceaaRows
namespace Go.Proofs.Ytmdkhdfckdkceaa.TdAm
open Go Go.RowKit
noncomputable def CC : Cx := ⟨Try.prog, fun _ => none⟩
theorem ccMix : CC.P.follows .mixedOrders = true := by kernel_rfl
theorem ccGlob (w : World) : GlobR CC w := fun g x hx => by cases hx
end Go.Proofs.Ytmdkhdfckdkceaa.TdAm
