/- The abstract machine, part 15: names of blocks; what a call leaves alone. -/
import Derived.Test.YtmdkhdfckdkceaaAm14
namespace Go.Proofs.Ytmdkhdfckdkceaa.TdAm
open Go Go.RowKit
set_option linter.unusedVariables false
set_option linter.unusedSimpArgs false

theorem renL_spec {f : AV → Option AV} : ∀ {l m : List AV}, renL f l = some m → m.length = l.length ∧ ∀ j, j < l.length → f (l.getD j .nilp) = some (m.getD j .nilp)
  | [], m, h => by simp [renL] at h; subst h; exact ⟨rfl, fun j hj => by simp at hj⟩
  | v :: r, m, h => by
    simp only [renL] at h
    split at h
    · rename_i x y hx hy
      cases h
      obtain ⟨h1, h2⟩ := renL_spec hy
      refine ⟨by simp [h1], fun j hj => ?_⟩
      cases j with
      | zero => simpa using hx
      | succ j => simpa using h2 j (by simpa using hj)
    · cases h

theorem ren_shut (d : Nat) (ρ : Nat → Option Nat) {v : AV} (h : v.shut = true) : ren d ρ v = some v := by
  cases v <;> first | (simp [AV.shut] at h; done) | (cases d <;> rfl)

theorem ren_fwd {φ ψ : Phi} {w0 : World} {ρ : Nat → Option Nat} (hm : ∀ b i p, ρ b = some i → φ b = some p → ψ i = some p) :
    ∀ (d : Nat) {v v1 : AV} {u : Value}, RV φ w0 v u → ren d ρ v = some v1 → RV ψ w0 v1 u := by
  intro d
  induction d with
  | zero =>
    intro v v1 u hv h
    by_cases hs : v.shut = true
    · rw [ren_shut 0 ρ hs] at h; cases h; exact hv.shut hs
    · cases hv with
      | ptr b o p g => simp only [ren] at h; split at h <;> cases h; rename_i c hc; exact .ptr c o p (hm _ _ _ hc g)
      | sl b o n c z p A c' g h0 h1 h2 h3 h4 => simp only [ren] at h; split at h <;> cases h; rename_i e he; exact .sl e o n c z p A c' (hm _ _ _ he g) h0 h1 h2 h3 h4
      | mp b p g => simp only [ren] at h; split at h <;> cases h; rename_i c hc; exact .mp c p (hm _ _ _ hc g)
      | fn f caps us g g2 => simp [ren] at h
      | agg cs us g g2 => simp [ren] at h
      | tup cs us g g2 => simp [ren] at h
      | _ => simp [AV.shut] at hs
  | succ d ih =>
    intro v v1 u hv h
    by_cases hs : v.shut = true
    · rw [ren_shut _ ρ hs] at h; cases h; exact hv.shut hs
    · cases hv with
      | ptr b o p g => simp only [ren] at h; split at h <;> cases h; rename_i c hc; exact .ptr c o p (hm _ _ _ hc g)
      | sl b o n c z p A c' g h0 h1 h2 h3 h4 => simp only [ren] at h; split at h <;> cases h; rename_i e he; exact .sl e o n c z p A c' (hm _ _ _ he g) h0 h1 h2 h3 h4
      | mp b p g => simp only [ren] at h; split at h <;> cases h; rename_i c hc; exact .mp c p (hm _ _ _ hc g)
      | fn f caps us g g2 =>
        simp only [ren] at h; split at h <;> cases h
        rename_i l hl
        obtain ⟨e1, e2⟩ := renL_spec hl
        exact .fn f l us (by omega) fun j hj => ih (g2 j (by omega)) (e2 j (by omega))
      | agg cs us g g2 =>
        simp only [ren] at h; split at h <;> cases h
        rename_i l hl
        obtain ⟨e1, e2⟩ := renL_spec hl
        exact .agg l us (by omega) fun j hj => ih (g2 j (by omega)) (e2 j (by omega))
      | tup cs us g g2 =>
        simp only [ren] at h; split at h <;> cases h
        rename_i l hl
        obtain ⟨e1, e2⟩ := renL_spec hl
        exact .tup l us (by omega) fun j hj => ih (g2 j (by omega)) (e2 j (by omega))
      | _ => simp [AV.shut] at hs

theorem ren_bwd {φ ψ : Phi} {w0 : World} {ρ : Nat → Option Nat} (hm : ∀ b i p, ρ b = some i → ψ i = some p → φ b = some p) :
    ∀ (d : Nat) {v v1 : AV} {u : Value}, RV ψ w0 v1 u → ren d ρ v = some v1 → RV φ w0 v u := by
  intro d
  induction d with
  | zero =>
    intro v v1 u hv h
    by_cases hs : v.shut = true
    · rw [ren_shut 0 ρ hs] at h; cases h; exact hv.shut hs
    · cases v with
      | ptr b o => simp only [ren] at h; split at h <;> cases h; rename_i c hc; cases hv with | ptr _ _ p g => exact .ptr b o p (hm _ _ _ hc g)
      | sl b o n c z => simp only [ren] at h; split at h <;> cases h; rename_i e he; cases hv with | sl _ _ _ _ _ p A c' g h0 h1 h2 h3 h4 => exact .sl b o n c z p A c' (hm _ _ _ he g) h0 h1 h2 h3 h4
      | mp b => simp only [ren] at h; split at h <;> cases h; rename_i c hc; cases hv with | mp _ p g => exact .mp b p (hm _ _ _ hc g)
      | fn f caps => simp [ren] at h
      | agg cs => simp [ren] at h
      | tup cs => simp [ren] at h
      | _ => simp [AV.shut] at hs
  | succ d ih =>
    intro v v1 u hv h
    by_cases hs : v.shut = true
    · rw [ren_shut _ ρ hs] at h; cases h; exact hv.shut hs
    · cases v with
      | ptr b o => simp only [ren] at h; split at h <;> cases h; rename_i c hc; cases hv with | ptr _ _ p g => exact .ptr b o p (hm _ _ _ hc g)
      | sl b o n c z => simp only [ren] at h; split at h <;> cases h; rename_i e he; cases hv with | sl _ _ _ _ _ p A c' g h0 h1 h2 h3 h4 => exact .sl b o n c z p A c' (hm _ _ _ he g) h0 h1 h2 h3 h4
      | mp b => simp only [ren] at h; split at h <;> cases h; rename_i c hc; cases hv with | mp _ p g => exact .mp b p (hm _ _ _ hc g)
      | fn f caps =>
        simp only [ren] at h; split at h <;> cases h
        rename_i l hl
        obtain ⟨e1, e2⟩ := renL_spec hl
        cases hv with | fn _ _ us g g2 => exact .fn f caps us (by omega) fun j hj => ih (g2 j (by omega)) (e2 j (by omega))
      | agg cs =>
        simp only [ren] at h; split at h <;> cases h
        rename_i l hl
        obtain ⟨e1, e2⟩ := renL_spec hl
        cases hv with | agg _ us g g2 => exact .agg cs us (by omega) fun j hj => ih (g2 j (by omega)) (e2 j (by omega))
      | tup cs =>
        simp only [ren] at h; split at h <;> cases h
        rename_i l hl
        obtain ⟨e1, e2⟩ := renL_spec hl
        cases hv with | tup _ us g g2 => exact .tup cs us (by omega) fun j hj => ih (g2 j (by omega)) (e2 j (by omega))
      | _ => simp [AV.shut] at hs

theorem CellsR.vals {φ ψ : Phi} {w0 w : World} {p : Pl} {o : Bool} {n m : Nat} {f g : Nat → AV} (hn : m = n) (hv : ∀ i u, i < n → RV φ w0 (f i) u → RV ψ w0 (g i) u) (h : CellsR φ w0 w p o n f) : CellsR ψ w0 w p o m g := by
  subst hn
  obtain ⟨h0, h⟩ := h
  refine ⟨h0, h.imp id ?_⟩
  rintro ⟨cc, e, lo, hi, h1, h2, h3, h4, h5⟩
  exact ⟨cc, e, lo, hi, h1, h2, h3, h4, fun i hi' => hv _ _ hi' (h5 i hi')⟩

theorem renE_spec {f : AV → Option AV} : ∀ {l m : List (AV × AV)}, renE f l = some m → m.length = l.length ∧ ∀ j, j < l.length → f (l.getD j (.nilp, .nilp)).1 = some (m.getD j (.nilp, .nilp)).1 ∧ f (l.getD j (.nilp, .nilp)).2 = some (m.getD j (.nilp, .nilp)).2
  | [], m, h => by simp [renE] at h; subst h; exact ⟨rfl, fun j hj => by simp at hj⟩
  | (k, v) :: r, m, h => by
    simp only [renE] at h
    split at h
    · rename_i x y z hx hy hz
      cases h
      obtain ⟨h1, h2⟩ := renE_spec hz
      refine ⟨by simp [h1], fun j hj => ?_⟩
      cases j with
      | zero => exact ⟨by simpa using hx, by simpa using hy⟩
      | succ j => simpa using h2 j (by simpa using hj)
    · cases h

theorem mem_getD_shut {l : List AV} (h : ∀ v, v ∈ l → v.shut = true) {i : Nat} (hi : i < l.length) : (l.getD i .nilp).shut = true := by
  apply h
  rw [List.getD_eq_getElem?_getD, List.getElem?_eq_getElem hi]
  exact List.getElem_mem hi

theorem renBlk_fwd {φ ψ : Phi} {w0 w : World} {ρ : Nat → Option Nat} {p : Pl} {x y : Blk} (hm : ∀ b i p, ρ b = some i → φ b = some p → ψ i = some p) (h : renBlk ρ x = some y) (hx : BlkR φ w0 w p x) : BlkR ψ w0 w p y := by
  cases x with
  | dead => simp [renBlk] at h; subst h; trivial
  | ints k l o => simp [renBlk] at h; subst h; exact CellsR.vals rfl (fun i u _ h => h.shut rfl) hx
  | vals l o pu =>
    cases pu with
    | true => simp [renBlk] at h; subst h; exact ⟨CellsR.vals rfl (fun i u hi h => h.shut (mem_getD_shut (hx.2 rfl) hi)) hx.1, hx.2⟩
    | false =>
      simp only [renBlk] at h
      split at h
      · rename_i m hr
        cases h
        obtain ⟨e1, e2⟩ := renL_spec hr
        exact ⟨CellsR.vals e1 (fun i u hi h => ren_fwd hm 4 h (e2 i hi)) hx.1, fun h => by cases h⟩
      · cases h
  | map es =>
    simp only [renBlk] at h
    split at h
    · rename_i fs hf
      cases h
      obtain ⟨e1, e2⟩ := renE_spec hf
      obtain ⟨h0, ents, clock, h1, h2, h3, h4⟩ := hx
      exact ⟨h0, ents, clock, h1, by omega, fun i hi => ⟨ren_fwd hm 4 (h3 i (by omega)).1 (e2 i (by omega)).1, ren_fwd hm 4 (h3 i (by omega)).2 (e2 i (by omega)).2⟩, h4⟩
    · cases h

theorem renBlk_bwd {φ ψ : Phi} {w0 w w1 : World} {ρ : Nat → Option Nat} {p q : Pl} {x y : Blk} (hm : ∀ b i p, ρ b = some i → ψ i = some p → φ b = some p) (h : renBlk ρ x = some y) (hy : BlkR ψ w0 w p y) (hx : BlkR φ w0 w1 q x) : BlkR φ w0 w p x := by
  cases x with
  | dead => trivial
  | ints k l o => simp [renBlk] at h; subst h; exact CellsR.vals rfl (fun i u _ h => h.shut rfl) hy
  | vals l o pu =>
    cases pu with
    | true => simp [renBlk] at h; subst h; exact ⟨CellsR.vals rfl (fun i u hi h => h.shut (mem_getD_shut (hx.2 rfl) hi)) hy.1, hx.2⟩
    | false =>
      simp only [renBlk] at h
      split at h
      · rename_i m hr
        cases h
        obtain ⟨e1, e2⟩ := renL_spec hr
        exact ⟨CellsR.vals e1.symm (fun i u hi h => ren_bwd hm 4 h (e2 i (by omega))) hy.1, fun h => by cases h⟩
      · cases h
  | map es =>
    simp only [renBlk] at h
    split at h
    · rename_i fs hf
      cases h
      obtain ⟨e1, e2⟩ := renE_spec hf
      obtain ⟨h0, ents, clock, h1, h2, h3, h4⟩ := hy
      exact ⟨h0, ents, clock, h1, by omega, fun i hi => ⟨ren_bwd hm 4 (h3 i (by omega)).1 (e2 i (by omega)).1, ren_bwd hm 4 (h3 i (by omega)).2 (e2 i (by omega)).2⟩, h4⟩
    · cases h

theorem renBlk_live {ρ : Nat → Option Nat} {x y : Blk} (h : renBlk ρ x = some y) : y.live ↔ x.live := by
  cases x with
  | dead => simp [renBlk] at h; subst h; exact Iff.rfl
  | ints k l o => simp [renBlk] at h; subst h; exact Iff.rfl
  | vals l o pu =>
    cases pu with
    | true => simp [renBlk] at h; subst h; exact Iff.rfl
    | false =>
      simp only [renBlk] at h
      split at h
      · cases h; exact Iff.rfl
      · cases h
  | map es =>
    simp only [renBlk] at h
    split at h
    · cases h; exact Iff.rfl
    · cases h

/-- What a part of the work leaves alone; the first k blocks keep their places. -/
structure Fr (k : Nat) (φ : Phi) (H : Hp) (w : World) (ψ : Phi) (K : Hp) (w' : World) : Prop where
  pin : ∀ b p, b < k → φ b = some p → ψ b = some p
  size : w.heap.size ≤ w'.heap.size
  keep : ∀ j, j < w.heap.size → ¬ owns φ H j → w'.heap[j]? = w.heap[j]?
  own : ∀ j, owns ψ K j → owns φ H j ∨ w.heap.size ≤ j

theorem Fr.refl (k : Nat) (φ : Phi) (H : Hp) (w : World) : Fr k φ H w φ H w := ⟨fun _ _ _ h => h, Nat.le_refl _, fun _ _ _ => rfl, fun _ h => .inl h⟩
theorem Fr.le {k k' : Nat} {φ ψ : Phi} {H K : Hp} {w w' : World} (hk : k' ≤ k) (h : Fr k φ H w ψ K w') : Fr k' φ H w ψ K w' :=
  ⟨fun b p hb => h.pin b p (by omega), h.size, h.keep, h.own⟩
theorem Fr.trans {k : Nat} {φ ψ χ : Phi} {H K L : Hp} {w w1 w2 : World} (h : Fr k φ H w ψ K w1) (g : Fr k ψ K w1 χ L w2) : Fr k φ H w χ L w2 where
  pin b p hb hp := g.pin b p hb (h.pin b p hb hp)
  size := Nat.le_trans h.size g.size
  keep j hj ho := (g.keep j (Nat.lt_of_lt_of_le hj h.size) (fun e => (h.own j e).elim ho (by omega))).trans (h.keep j hj ho)
  own j hj := (g.own j hj).elim (fun e => h.own j e) (fun e => .inr (Nat.le_trans h.size e))
theorem Ext.fr {φ ψ : Phi} {H K : Hp} {w w' : World} (h : Ext φ H w ψ K w') (k : Nat) : Fr k φ H w ψ K w' :=
  ⟨fun b p _ => h.le b p, h.size, h.keep, fun j hj => by
    by_cases hlt : j < w.heap.size
    · exact .inl (h.owns_old hlt hj)
    · exact .inr (by omega)⟩

/-- A function's answer. -/
def FSpec (C : Cx) (f : FuncId) (args : List AV) (H : Hp) (v : AV) (K : Hp) : Prop :=
  (∃ fn c, C.P.funcs[f]? = some fn ∧ fn.body = some c ∧ (fn.name == "runtime.NumGoroutine") = false) ∧
  ∀ (φ : Phi) (w0 w : World) (us : Array Value), GlobR C w0 → RelH φ H w0 w → us.size = args.length → (∀ j, j < args.length → RV φ w0 (args.getD j .nilp) (us.getD j undef)) →
    Calls C.P f us w fun e w' => ∃ u ψ, e = .returned u ∧ RelH ψ K w0 w' ∧ Fr H.length φ H w ψ K w' ∧ RV ψ w0 v u

def KOk (C : Cx) (K : CallF) : Prop := ∀ p f args H v L wr cs p1, K p f args H = some (v, L, wr, cs, p1) → oks cs →
  FSpec C f args H v L ∧ H.length ≤ L.length ∧ ∀ b, b < H.length → hasN wr b = false → look L b = look H b

end Go.Proofs.Ytmdkhdfckdkceaa.TdAm
