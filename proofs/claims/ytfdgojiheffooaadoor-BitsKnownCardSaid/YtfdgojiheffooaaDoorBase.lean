/- What the abstract machine is told of the program of this seat: the program, and the table that the program's text lays. -/
import Derived.Test.YtfdgojiheffooaaDoorAm23
import Derived.Test.YtfdgojiheffooaaDoorRows
import Derived.Lib.LaidTab
import Derived.LaidMore
import Derived.Stop.Joined
namespace Go.Proofs.YtfdgojiheffooaaDoor.TdAm
open Go Go.RowKit
def laidD : List (String × DataW Unit) := [("math/bits.deBruijn64tab", Rows.laid_math_bits_deBruijn64tab)]
def tab0 : List Int := [0, 1, 56, 2, 57, 49, 28, 3, 61, 58, 42, 50, 38, 29, 17, 4, 62, 47, 59, 36, 45, 43, 51, 22, 53, 39, 33, 30, 24, 18, 12, 5, 63, 55, 48, 27, 60, 41, 37, 16, 46, 35, 44, 21, 52, 32, 23, 11, 54, 26, 40, 15, 34, 20, 31, 10, 25, 14, 19, 9, 13, 8, 7, 6]
noncomputable def CC : Cx := ⟨Tryd.prog, fun g => match g with | 0 => some (.ints .u8 tab0 false) | _ => none⟩
theorem ccMix : CC.P.follows .mixedOrders = true := by kernel_rfl
theorem gTab : Tryd.prog.globalNamed "math/bits.deBruijn64tab" = some 0 := by kernel_rfl
theorem ccGlob {w : World} (h : laidMetH Tryd.prog laidD w) : GlobR CC w := by
  rw [MakeChecks.laidMetH_plain _ _ _ (by kernel_rfl)] at h
  have ht : Lib.TabIs Tryd.prog w "math/bits.deBruijn64tab" .u8 tab0 := Lib.tabIs_of_head (rest := []) (zs := tab0) (k := .u8) gTab (t := 40) (by kernel_rfl) (e := 5) (n := 64) (by kernel_rfl) (by kernel_rfl) (by kernel_rfl) (by kernel_rfl) h
  intro g x hx i hi
  cases g with
  | zero =>
    cases hx
    exact ⟨_, ht.cell gTab i hi, fun φ => .int _ _⟩
  | succ g => cases hx
end Go.Proofs.YtfdgojiheffooaaDoor.TdAm
