/- The abstract machine, part 25: what the kernel is asked: a run's answer, its plain side conditions tested, the others told. -/
import Derived.Test.YtmdkhdfckdkceaaAm24
namespace Go.Proofs.Ytmdkhdfckdkceaa.TdAm
open Go Go.RowKit
set_option linter.unusedVariables false
set_option linter.unusedSimpArgs false

/-- The side conditions that are left: where the mask says true, the condition is tested. -/
def sift : List Bool → List Chk → Option (List Chk)
  | _, [] => some []
  | [], _ :: _ => none
  | true :: m, c :: r => match c.test with
    | true => sift m r
    | false => none
  | false :: m, c :: r => match sift m r with
    | some l => some (c :: l)
    | none => none

theorem sift_sound : ∀ {m : List Bool} {cs l : List Chk}, sift m cs = some l → oks l → oks cs
  | _, [], l, _, _ => trivial
  | [], _ :: _, l, h, _ => by simp [sift] at h
  | true :: m, c :: r, l, h, ho => by
    simp only [sift] at h
    split at h
    · rename_i hc; exact ⟨Chk.ok_of_test hc, sift_sound h ho⟩
    · cases h
  | false :: m, c :: r, l, h, ho => by
    simp only [sift] at h
    split at h
    · rename_i l' hl; cases h; exact ⟨ho.1, sift_sound hl ho.2⟩
    · cases h

/-- A law's run: its answer, and what is left to show. -/
def outB (m : List Bool) (r : CRes) : Option (Bool × List Chk) := match r with
  | some (.bool b, _, _, cs, _) => match sift m cs with
    | some l => some (b, l)
    | none => none
  | _ => none

theorem outB_sound {C : Cx} {S : Spec} (hS : SOk C S) (hmix : C.P.follows .mixedOrders = true) {n : Nat} {p : Path} {f : FuncId} {args : List AV} {H : Hp} {m : List Bool} {b : Bool} {l : List Chk} (h : outB m (callA C S n p f args H) = some (b, l)) (hb : b = true) (hl : oks l) : ∃ L, FSpec C f args H (.bool true) L := by
  generalize hr : callA C S n p f args H = r at h
  unfold outB at h
  split at h
  · split at h
    · rename_i hs
      cases h
      subst hb
      exact ⟨_, callA_sound hS hmix hr (sift_sound hs hl)⟩
    · cases h
  · cases h

/-- A function's run. -/
def outV (m : List Bool) (r : CRes) : Option (AV × Hp × List Chk) := match r with
  | some (v, L, _, cs, _) => match sift m cs with
    | some l => some (v, L, l)
    | none => none
  | none => none

theorem outV_sound {C : Cx} {S : Spec} (hS : SOk C S) (hmix : C.P.follows .mixedOrders = true) {n : Nat} {p : Path} {f : FuncId} {args : List AV} {H L : Hp} {v : AV} {m : List Bool} {l : List Chk} (h : outV m (callA C S n p f args H) = some (v, L, l)) (hl : oks l) : FSpec C f args H v L := by
  generalize hr : callA C S n p f args H = r at h
  unfold outV at h
  split at h
  · split at h
    · rename_i hs
      cases h
      exact callA_sound hS hmix hr (sift_sound hs hl)
    · cases h
  · cases h

/-- A piece of code: where it leaves to, and the state cut down. -/
def outX (k : Nat) (σ : List Nat) (keep : List Tmp) (m : List Bool) (r : Option (Out × St × List Chk × Path)) : Option (Out × St × List Chk) := match r with
  | some (o, s, cs, _) => match cutS k σ keep s, sift m cs with
    | some s1, some l => some (o, s1, l)
    | _, _ => none
  | none => none

theorem outX_sound {C : Cx} {S : Spec} (hS : SOk C S) (hmix : C.P.follows .mixedOrders = true) {n k : Nat} {σ : List Nat} {keep : List Tmp} {p : Path} {c : Code} {s s1 : St} {o : Out} {m : List Bool} {l : List Chk} (hk : k ≤ s.H.length) (h : outX k σ keep m (exec C S n p c s) = some (o, s1, l)) (hl : oks l) :
    Tri C k c s fun o' s' => o' = o ∧ Sub k s' s1 := by
  generalize hr : exec C S n p c s = r at h
  unfold outX at h
  split at h
  · split at h
    · rename_i hcut hs
      cases h
      exact Tri.run hS hmix hr (sift_sound hs hl) hk ⟨rfl, cutS_sub hcut⟩
    · cases h
  · cases h

/-- A slice of integers that came in: nil, or a row of cells. -/
def IsRow (k : IntKind) (w : World) (a : Option Addr) (len cap : Nat) (zs : List Int) : Prop :=
  (a = none ∧ len = 0 ∧ cap = 0 ∧ zs = []) ∨
  ∃ x, a = some x ∧ len ≤ cap ∧ cap ≤ maxLen ∧ zs.length = cap ∧ (∀ i, i < zs.length → w.cell? (x.add i) = some (.int k (zs.getD i 0))) ∧ ∀ n ∈ zs, (Lit.int k n).wf = true

theorem IsRow.roi {k : IntKind} {w : World} {a : Option Addr} {len cap : Nat} {zs : List Int} (h : IsRow k w a len cap zs) : (zs.take len).length = len ∧ RV (fun _ => none) w (.roi k (zs.take len)) (.slice a len cap) := by
  rcases h with ⟨rfl, rfl, rfl, rfl⟩ | ⟨x, rfl, hl, hm, hz, hc, hw⟩
  · exact ⟨rfl, .roi k [] none 0 (Nat.le_refl _) fun i hi => by simp at hi⟩
  · have e : (zs.take len).length = len := by simp; omega
    refine ⟨e, ?_⟩
    have : RV (fun _ => none) w (.roi k (zs.take len)) (.slice (some x) (zs.take len).length cap) := .roi k _ _ _ (by omega) fun i hi => ⟨x, rfl, by
      rw [hc i (by omega)]
      have hi' : i < len := by omega
      simp [List.getD_eq_getElem?_getD, List.getElem?_take, hi']⟩
    rwa [e] at this

end Go.Proofs.Ytmdkhdfckdkceaa.TdAm
