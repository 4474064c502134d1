/- The abstract machine, part 29: contracts of functions that only read what they are handed. -/
import Derived.Test.YtmdkhdfckdkceaaAm28
namespace Go.Proofs.Ytmdkhdfckdkceaa.TdAm
open Go Go.RowKit
set_option linter.unusedVariables false
set_option linter.unusedSimpArgs false

theorem RV.nils_roi {φ : Phi} {w0 : World} (k : IntKind) {u : Value} (h : RV φ w0 .nils u) : RV φ w0 (.roi k []) u := by
  cases h; exact .roi k [] none 0 (Nat.le_refl _) fun i hi => by simp at hi
/-- Read-only integers: a slice of them, or nil. -/
def roL (k : IntKind) : AV → Option (List Int)
  | .roi k' l => match decide (k = k') with
    | true => some l
    | false => none
  | .nils => some []
  | _ => none
theorem roL_sound {k : IntKind} {v : AV} {l : List Int} (h : roL k v = some l) {φ : Phi} {w0 : World} {u : Value} (hv : RV φ w0 v u) : RV φ w0 (.roi k l) u := by
  unfold roL at h
  split at h
  · split at h
    · rename_i hk; cases h; have := of_decide_eq_true hk; subst this; exact hv
    · cases h
  · cases h; exact hv.nils_roi k
  · cases h

theorem FSpec.weak {C : Cx} {f : FuncId} {args args1 : List AV} {H L : Hp} {v : AV} (h : FSpec C f args1 H v L) (hl : args.length = args1.length) (hw : ∀ φ w0 j u, j < args.length → RV φ w0 (args.getD j .nilp) u → RV φ w0 (args1.getD j .nilp) u) : FSpec C f args H v L :=
  ⟨h.1, fun φ w0 w us hG rel hu hv => h.2 φ w0 w us hG rel (by omega) fun j hj => hw _ _ j _ (by omega) (hv j (by omega))⟩

/-- A contract over what is lent. -/
def roS (g : List AV → Option (AV × Hp × List Chk)) (args : List AV) (H : Hp) : Option (Post → Prop) := match thawL H args with
  | some (args1, cs) => match g args1 with
    | some (v, L, c2) => match ren 4 (up H.length) v, upH H.length L with
      | some v1, some K => match v.free 4, freeH L with
        | true, true => some fun k => rqs cs (rqs c2 (k v1 (H ++ K) []))
        | _, _ => none
      | _, _ => none
    | none => none
  | none => none
theorem roS_sound {C : Cx} {f : FuncId} {g : List AV → Option (AV × Hp × List Chk)} (hg : ∀ args v L cs, g args = some (v, L, cs) → oks cs → FSpec C f args [] v L) {args : List AV} {H : Hp} {t : Post → Prop} {k : Post} (h : roS g args H = some t) (ht : t k) :
    ∃ v L wr, GoodCall C f args H v L wr ∧ k v L wr := by
  unfold roS at h
  split at h
  · rename_i args1 cs ha
    split at h
    · rename_i v L c2 hgv
      split at h
      · rename_i v1 K hv hK
        split at h
        · rename_i hf hfL
          cases h
          obtain ⟨h1, h2⟩ := rqs_iff.1 ht
          obtain ⟨h3, h4⟩ := rqs_iff.1 h2
          exact ⟨v1, H ++ K, [], lend (hg _ _ _ _ hgv h3) ha h1 hf hfL hv hK, h4⟩
        · cases h
      · cases h
    · cases h
  · cases h

/-- One contract more. -/
def addS (S : SpecW) (f : FuncId) (g : List AV → Hp → Option (Post → Prop)) : SpecW := fun f' args H => match Nat.beq f' f with
  | true => g args H
  | false => S f' args H
theorem addS_ok {C : Cx} {S : SpecW} {f : FuncId} {g : List AV → Hp → Option (Post → Prop)} (hS : SWok C S) (hg : ∀ args H t k, g args H = some t → t k → ∃ v L wr, GoodCall C f args H v L wr ∧ k v L wr) : SWok C (addS S f g) := by
  intro f' args H t k h ht
  unfold addS at h
  split at h
  · rename_i e
    have := Nat.eq_of_beq_eq_true e
    subst this
    exact hg args H t k h ht
  · exact hS f' args H t k h ht
/-- A list of contracts, ahead of others. -/
abbrev GS := List AV → Hp → Option (Post → Prop)
def listS (S : SpecW) : List (FuncId × GS) → SpecW
  | [] => S
  | (f, g) :: r => addS (listS S r) f g
def okG (C : Cx) : List (FuncId × GS) → Prop
  | [] => True
  | (f, g) :: r => (∀ args H t k, g args H = some t → t k → ∃ v L wr, GoodCall C f args H v L wr ∧ k v L wr) ∧ okG C r
theorem listS_ok {C : Cx} {S : SpecW} (hS : SWok C S) : ∀ {l : List (FuncId × GS)}, okG C l → SWok C (listS S l)
  | [], _ => hS
  | (f, g) :: r, h => addS_ok (listS_ok hS h.2) h.1
theorem roS_ok {C : Cx} {f : FuncId} {g : List AV → Option (AV × Hp × List Chk)} (hg : ∀ args v L cs, g args = some (v, L, cs) → oks cs → FSpec C f args [] v L) : ∀ args H t k, roS g args H = some t → t k → ∃ v L wr, GoodCall C f args H v L wr ∧ k v L wr :=
  fun _ _ _ _ h ht => roS_sound hg h ht
def noS : SpecW := fun _ _ _ => none
theorem noS_ok (C : Cx) : SWok C noS := fun f args H t k h => by cases h

def blkAt (id : Nat) (c : Code) : Code := match (blks c).find? fun p => Nat.beq p.1 id with
  | some p => p.2
  | none => .skip
def unloop : Code → Code
  | .loop a => a
  | c => c
/-- The body of a function's loop. -/
def loopAt (C : Cx) (f id : Nat) : Code := unloop (blkAt id (codeOf C f))
/-- Blocks of these names, in order, without what is inside. -/
def blksOf (ids : List Nat) (c : Code) : List (Nat × Code) := (blks c).filter fun p => hasN ids p.1
theorem LSOk_of {C : Cx} {k : Nat} {L : LSpec} {c : Code} (ids : List Nat) {l : List (Nat × Code)} (hl : blksOf ids c = l) (h0 : ∀ id s, hasN ids id = false → L id s = none) (h : ∀ p, p ∈ l → ∀ s t q, L p.1 s = some t → t q → Run C k (.block p.1 p.2) s q) : LSOk C k L c := by
  intro id a hm s t q ht hk
  by_cases hid : hasN ids id = true
  · exact h (id, a) (hl ▸ List.mem_filter.2 ⟨hm, hid⟩) s t q ht hk
  · rw [h0 id s (by simpa using hid)] at ht; cases ht
/-- One loop alone bears a contract. -/
theorem LSOk_one {C : Cx} {k : Nat} {L : LSpec} {c a : Code} (id : Nat) (hl : blksOf [id] c = [(id, .loop a)]) (h0 : ∀ i s, Nat.beq i id = false → L i s = none) (h : ∀ s t q, L id s = some t → t q → Run C k (.block id (.loop a)) s q) : LSOk C k L c :=
  LSOk_of [id] hl (fun i s hi => h0 i s (by
    cases e : Nat.beq i id with
    | false => rfl
    | true => have := Nat.eq_of_beq_eq_true e; subst this; simp [hasN] at hi)) fun p hp => by
    have : p = (id, .loop a) := by simpa using hp
    subst this
    exact h

/-- A function's contract, from what its body asks. -/
theorem spec_of {C : Cx} {S : SpecW} (hS : SWok C S) (hmix : C.P.follows .mixedOrders = true) {n : Nat} {L : LSpec} {f : FuncId} {args : List AV} {H K : Hp} (hL : LSOk C H.length L (codeOf C f)) {v : AV} (h : funW C S n L f args H fun v' K' _ => v' = v ∧ K' = K) : FSpec C f args H v K := by
  obtain ⟨v', K', wr, hg, rfl, rfl⟩ := funW_sound hS hmix hL h
  exact hg.1
theorem spec0 {C : Cx} {S : SpecW} (hS : SWok C S) (hmix : C.P.follows .mixedOrders = true) {n : Nat} {L : LSpec} {f : FuncId} {args : List AV} {K : Hp} {v : AV} (hL : LSOk C 0 L (codeOf C f)) (h : funW C S n L f args [] fun v' K' _ => v' = v ∧ K' = K) : FSpec C f args [] v K :=
  spec_of (H := []) hS hmix hL h
theorem good_of {C : Cx} {S : SpecW} (hS : SWok C S) (hmix : C.P.follows .mixedOrders = true) {n : Nat} {L : LSpec} {f : FuncId} {args : List AV} {H K : Hp} (hL : LSOk C H.length L (codeOf C f)) {v : AV} {wr : List Nat} (h : funW C S n L f args H fun v' K' wr' => v' = v ∧ K' = K ∧ wr' = wr) : GoodCall C f args H v K wr := by
  obtain ⟨v', K', wr', hg, rfl, rfl, rfl⟩ := funW_sound hS hmix hL h
  exact hg
/-- A law's walk. -/
theorem law_of {C : Cx} {S : SpecW} (hS : SWok C S) (hmix : C.P.follows .mixedOrders = true) {n : Nat} {L : LSpec} {f : FuncId} (hL : LSOk C 0 L (codeOf C f)) {args : List AV} {us : Array Value} {w : World} (hG : GlobR C w) (hu : us.size = args.length)
    (hv : ∀ j, j < args.length → RV (fun _ => none) w (args.getD j .nilp) (us.getD j undef)) (h : funW C S n L f args [] fun v _ _ => v = .bool true) : Calls C.P f us w fun e w' => e = .returned (.bool true) ∧ Below w.heap.size w w' := by
  obtain ⟨v', K', wr, hg, rfl⟩ := funW_sound (H := []) hS hmix hL h
  exact law_of_spec hg.1 hG hu hv

/-- A law's body answers true; shut, so that nobody runs it by chance. -/
structure LawOk (C : Cx) (S : SpecW) (n : Nat) (L : LSpec) (f : FuncId) (args : List AV) : Prop where
  ok : funW C S n L f args [] fun v _ _ => v = .bool true
theorem law_ok {C : Cx} {S : SpecW} {n : Nat} {L : LSpec} {f : FuncId} {args : List AV} (h : LawOk C S n L f args) (hS : SWok C S) (hmix : C.P.follows .mixedOrders = true) (hL : LSOk C 0 L (codeOf C f)) {us : Array Value} {w : World} (hG : GlobR C w) (hu : us.size = args.length)
    (hv : ∀ j, j < args.length → RV (fun _ => none) w (args.getD j .nilp) (us.getD j undef)) : Calls C.P f us w fun e w' => e = .returned (.bool true) ∧ Below w.heap.size w w' :=
  law_of hS hmix hL hG hu hv h.ok

end Go.Proofs.Ytmdkhdfckdkceaa.TdAm
