/- The abstract machine, part 23: a call, run. -/
import Derived.Test.YtmdkhdfckdkceaaAm22
namespace Go.Proofs.Ytmdkhdfckdkceaa.TdAm
open Go Go.RowKit
set_option linter.unusedVariables false
set_option linter.unusedSimpArgs false

def noSpec : Spec := fun _ _ _ => none
theorem noSpec_ok (C : Cx) : SOk C noSpec := fun f args H v L wr cs h => by simp [noSpec] at h

/-- A call, run. -/
def callA (C : Cx) (S : Spec) (n : Nat) (p : Path) (f : FuncId) (args : List AV) (H : Hp) : CRes := callK C S (exec C S n) p f args H

theorem callA_sound {C : Cx} {S : Spec} (hS : SOk C S) (hmix : C.P.follows .mixedOrders = true) {n : Nat} {p p1 : Path} {f : FuncId} {args : List AV} {H : Hp} {v : AV} {L : Hp} {wr : List Nat} {cs : List Chk} (h : callA C S n p f args H = some (v, L, wr, cs, p1)) (hc : oks cs) : FSpec C f args H v L :=
  (callK_ok hS (fun p c s o s' cs p' h hc => exec_sound hS hmix n p c s o s' cs p' h hc) p f args H v L wr cs p1 h hc).1

def ranTrue (r : CRes) : Bool := match r with
  | some (.bool b, _, _, cs, _) => b && tests cs
  | _ => false

theorem ranTrue_sound {C : Cx} {S : Spec} (hS : SOk C S) (hmix : C.P.follows .mixedOrders = true) {n : Nat} {p : Path} {f : FuncId} {args : List AV} {H : Hp} (h : ranTrue (callA C S n p f args H) = true) : ∃ L, FSpec C f args H (.bool true) L := by
  generalize hr : callA C S n p f args H = r at h
  unfold ranTrue at h
  split at h
  · simp only [Bool.and_eq_true] at h
    obtain ⟨rfl, h2⟩ := h
    exact ⟨_, callA_sound hS hmix hr (oks_of_tests h2)⟩
  · cases h

/-- Nothing is owned yet. -/
theorem relH_none (w : World) : RelH (fun _ => none) [] w w :=
  ⟨Below.refl _ _, fun b x h => by simp [look] at h, fun k h => by obtain ⟨b, x, p, h, _⟩ := h; simp [look] at h, fun b b' x x' p p' h => by simp [look] at h, fun b _ => rfl⟩

/-- A law that answers true, and leaves what was there. -/
theorem law_of_spec {C : Cx} {f : FuncId} {args : List AV} {us : Array Value} {L : Hp} {w : World} (h : FSpec C f args [] (.bool true) L) (hG : GlobR C w) (hu : us.size = args.length) (hv : ∀ j, j < args.length → RV (fun _ => none) w (args.getD j .nilp) (us.getD j undef)) :
    Calls C.P f us w fun e w' => e = .returned (.bool true) ∧ Below w.heap.size w w' := by
  refine Calls.mono (h.2 _ w w us hG (relH_none w) hu hv) ?_
  rintro e w' ⟨u, ψ, rfl, hr, _, hv⟩
  cases hv
  exact ⟨rfl, hr.below⟩

end Go.Proofs.Ytmdkhdfckdkceaa.TdAm
