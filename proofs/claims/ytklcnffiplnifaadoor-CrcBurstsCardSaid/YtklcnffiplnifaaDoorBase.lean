/- What the abstract machine is told of the program of this seat: the program, and the table that the program's text lays. -/
import Derived.Test.YtklcnffiplnifaaDoorCrcM
import Derived.Test.YtklcnffiplnifaaDoorRows
import Derived.Lib.LaidTab
import Derived.LaidMore
import Derived.Stop.Joined
namespace Go.Proofs.YtklcnffiplnifaaDoor.TdAm
open Go Go.RowKit
def laidD : List (String × DataW Unit) := [("tandem/crc.halves", Rows.laid_tandem_crc_halves)]
noncomputable def CC : Cx := ⟨Tryd.prog, fun g => match g with | 0 => some (.ints .u32 tab0 false) | _ => none⟩
theorem ccMix : CC.P.follows .mixedOrders = true := by kernel_rfl
theorem gTab : Tryd.prog.globalNamed "tandem/crc.halves" = some 0 := by kernel_rfl
theorem ccGlob {w : World} (h : laidMetH Tryd.prog laidD w) : GlobR CC w := by
  rw [MakeChecks.laidMetH_plain _ _ _ (by kernel_rfl)] at h
  have ht : Lib.TabIs Tryd.prog w "tandem/crc.halves" .u32 tab0 := Lib.tabIs_of_head (rest := []) (zs := tab0) (k := .u32) gTab (t := 36) (by kernel_rfl) (e := 25) (n := 16) (by kernel_rfl) (by kernel_rfl) (by kernel_rfl) (by kernel_rfl) h
  intro g x hx i hi
  cases g with
  | zero =>
    cases hx
    exact ⟨_, ht.cell gTab i hi, fun φ => .int _ _⟩
  | succ g => cases hx
end Go.Proofs.YtklcnffiplnifaaDoor.TdAm
