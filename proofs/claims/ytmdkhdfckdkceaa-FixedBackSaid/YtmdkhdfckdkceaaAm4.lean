/- The abstract machine, part 4: what operations come to, in the world. -/
import Derived.Test.YtmdkhdfckdkceaaAm3
import Derived.Laws.Cells
import Derived.Laws.Slices
import Derived.Laws.Rows
import Derived.Laws.Small
import Derived.Laws.Strings
namespace Go.Proofs.Ytmdkhdfckdkceaa.TdAm
open Go Go.RowKit
set_option linter.unusedVariables false
set_option linter.unusedSimpArgs false

/-- An operation that comes to a value, from a state on. -/
def Good (φ : Phi) (H : Hp) (w0 w : World) (v : AV) (K : Hp) (r : Result Next) : Prop :=
  ∃ ψ u w', (r = .ok (.value u) w' ∨ (r = .ok .skip w' ∧ u = undef)) ∧ RV ψ w0 v u ∧ RelH ψ K w0 w' ∧ Ext φ H w ψ K w'

theorem good_val {φ : Phi} {H : Hp} {w0 w : World} {v : AV} {r : Result Next} {u : Value} (rel : RelH φ H w0 w) (hr : r = .ok (.value u) w) (hv : RV φ w0 v u) : Good φ H w0 w v H r :=
  ⟨φ, u, w, .inl hr, hv, rel, Ext.refl rfl⟩

theorem undef_vundef (φ : Phi) (w0 : World) : RV φ w0 vundef undef := .tup [] #[] rfl (fun j hj => absurd hj (by simp))

/-! ### types -/
section
variable {P : Program} {w : World} {t : TypeId}
theorem run_sizeOf_of {z : Nat} (h : tsize P t = some z) : (sizeOf t).run P w = .ok z w := by
  unfold tsize at h
  cases hi : P.info? t with
  | none => rw [hi] at h; cases h
  | some i => rw [hi] at h; cases h; simp [sizeOf, typeInfo, hi]
theorem run_typeInfo_of {i : TypeInfo} (h : P.info? t = some i) : (typeInfo t).run P w = .ok i w := by simp [typeInfo, h]
theorem run_isAgg_of {b : Bool} (h : tagg P t = some b) : (isAgg t).run P w = .ok b w := by
  unfold tagg at h
  cases hd : P.underlying t with
  | none => rw [hd] at h; cases h
  | some d =>
    rw [hd] at h
    simp only [isAgg, Sem.run_bind, run_underlying hd, Result.andThen_ok]
    cases d <;> cases h <;> rfl
theorem run_zero_of {v : Value} (h : (P.info? t).bind (·.zero) = some v) : (zeroValue t).run P w = .ok v w := by
  cases hi : P.info? t with
  | none => rw [hi] at h; cases h
  | some i => rw [hi] at h; simp at h; simp [zeroValue, typeInfo, hi, h]
end

/-! ### constants -/
theorem ofVs_spec {φ : Phi} {w0 : World} {f : Value → Option AV} (hf : ∀ v x, f v = some x → RV φ w0 x v) : ∀ (l : List Value) (xs : List AV), ofVs f l = some xs → xs.length = l.length ∧ ∀ j, j < xs.length → RV φ w0 (xs.getD j .nilp) (l.getD j undef)
  | [], xs, h => by cases h; exact ⟨rfl, fun j hj => absurd hj (by simp)⟩
  | v :: r, xs, h => by
    simp only [ofVs] at h
    split at h
    · rename_i x y hx hy
      cases h
      obtain ⟨h1, h2⟩ := ofVs_spec hf r y hy
      refine ⟨by simp [h1], fun j hj => ?_⟩
      cases j with
      | zero => exact hf v x hx
      | succ j => simpa using h2 j (by simpa using hj)
    · cases h

theorem ofV_spec (φ : Phi) (w0 : World) : ∀ (d : Nat) (v : Value) (x : AV), ofV d v = some x → RV φ w0 x v := by
  intro d
  induction d with
  | zero =>
    intro v x h
    unfold ofV at h
    split at h <;> first | (cases h; done) | (cases h; first | exact .int _ _ | exact .bool _ | exact .str _ | exact .nilp | exact .nils | exact .nilm | exact .nilf) | (rename_i he; simp at he)
  | succ d ih =>
    intro v x h
    unfold ofV at h
    split at h <;> try (first | (cases h; first | exact .int _ _ | exact .bool _ | exact .str _ | exact .nilp | exact .nils | exact .nilm | exact .nilf) | cases h; done)
    · rename_i d' us he
      cases he
      cases hx : ofVs (ofV d) us.toList with
      | none => rw [hx] at h; cases h
      | some xs =>
        rw [hx] at h; cases h
        obtain ⟨h1, h2⟩ := ofVs_spec ih us.toList xs hx
        exact .agg xs us (by simpa using h1.symm) fun j hj => by simpa [List.getD_eq_getElem?_getD] using h2 j hj

/-! ### cells -/
theorem RV.cells {φ : Phi} {w0 : World} {v : AV} {u : Value} (h : RV φ w0 v u) : u.cells.size = v.cells.length ∧ ∀ j, j < v.cells.length → RV φ w0 (v.cells.getD j .nilp) (u.cells.getD j undef) := by
  have one : ∀ (x : AV) (y : Value), RV φ w0 x y → x.cells = [x] → y.cells = #[y] → y.cells.size = x.cells.length ∧ ∀ j, j < x.cells.length → RV φ w0 (x.cells.getD j .nilp) (y.cells.getD j undef) := by
    intro x y hxy hx hy
    rw [hx, hy]
    refine ⟨rfl, fun j hj => ?_⟩
    have : j = 0 := by simpa using hj
    subst this; simpa using hxy
  cases h with
  | agg cs us h h2 => exact ⟨by simpa [Value.cells, AV.cells] using h, fun j hj => by simpa [Value.cells, AV.cells] using h2 j hj⟩
  | int k n => exact one _ _ (.int k n) rfl rfl
  | bool b => exact one _ _ (.bool b) rfl rfl
  | str s => exact one _ _ (.str s) rfl rfl
  | nilp => exact one _ _ .nilp rfl rfl
  | ptr b o p h => exact one _ _ (.ptr b o p h) rfl rfl
  | gptr g o => exact one _ _ (.gptr g o) rfl rfl
  | roc cells a us h h2 => exact one _ _ (.roc cells a us h h2) rfl rfl
  | nils => exact one _ _ .nils rfl rfl
  | sl b o n c z p A c' h h0 h1 h2 h3 h4 => exact one _ _ (.sl b o n c z p A c' h h0 h1 h2 h3 h4) rfl rfl
  | roi k l A c h h2 => exact one _ _ (.roi k l A c h h2) rfl rfl
  | ros z n f A c us h hz h2 h3 h4 => exact one _ _ (.ros z n f A c us h hz h2 h3 h4) rfl rfl
  | nilm => exact one _ _ .nilm rfl rfl
  | mp b p h => exact one _ _ (.mp b p h) rfl rfl
  | fn f caps us h h2 => exact one _ _ (.fn f caps us h h2) rfl rfl
  | nilf => exact one _ _ .nilf rfl rfl
  | tup vs us h h2 => exact one _ _ (.tup vs us h h2) rfl rfl

theorem intsOf_spec {k : IntKind} : ∀ {l : List AV} {ns : List Int}, intsOf k l = some ns → ns.length = l.length ∧ ∀ j, j < l.length → l.getD j .nilp = .int k (ns.getD j 0)
  | [], ns, h => by cases h; exact ⟨rfl, fun j hj => absurd hj (by simp)⟩
  | x :: r, ns, h => by
    cases x with
    | int k' n =>
      simp only [intsOf] at h
      split at h
      · rename_i l hk hl
        cases h
        have hk' : k = k' := of_decide_eq_true hk
        subst hk'
        obtain ⟨h1, h2⟩ := intsOf_spec hl
        refine ⟨by simp [h1], fun j hj => ?_⟩
        cases j with
        | zero => rfl
        | succ j => simpa using h2 j (by simpa using hj)
      · cases h
    | _ => cases h

/-- A fresh row of cells, as a block. -/
theorem mkBlk_cells {φ : Phi} {w0 w : World} {p : Pl} {cs : List AV} {o : Bool} (h : CellsR φ w0 w p o cs.length fun i => cs.getD i .nilp) : BlkR φ w0 w p (mkBlk cs o) := by
  unfold mkBlk
  split
  · rename_i k n r
    split
    · rename_i l hl
      obtain ⟨h1, h2⟩ := intsOf_spec hl
      obtain ⟨e, hh⟩ := h
      refine ⟨e, ?_⟩
      simp only [List.length_cons, h1] at hh ⊢
      refine hh.imp id ?_
      rintro ⟨cc, e, lo, hi, g1, g2, g3, g4, g5⟩
      refine ⟨cc, e, lo, hi, g1, g2, g3, g4, fun i hi' => ?_⟩
      have := g5 i hi'
      cases i with
      | zero => simpa using this
      | succ i =>
        have hx := h2 i (by omega)
        simp only [List.getD_cons_succ] at this ⊢
        rw [hx] at this; exact this
    · exact ⟨h, ShutL.of_all _⟩
  · exact ⟨h, ShutL.of_all _⟩

/-! ### memory -/
theorem cell_of_cells {w : World} {b : Nat} {cc : Array Value} {e : TypeId} {lo hi : Nat} (h : w.heap[b]? = some (.cells cc e (lo, hi))) {i : Nat} (hi' : i < cc.size) : w.cell? ⟨b, i, none⟩ = some (cc.getD i undef) := by
  rw [cell_of_row w b i cc e (lo, hi) h]
  simp [Array.getD, hi']
theorem frozen_of_cells {w : World} {b : Nat} {cc : Array Value} {e : TypeId} {lo hi : Nat} (h : w.heap[b]? = some (.cells cc e (lo, hi))) {i : Nat} (hn : ¬ (lo ≤ i ∧ i < hi)) : w.frozen? ⟨b, i, none⟩ = false := by
  simp only [World.frozen?, h]
  simpa using hn

theorem BlkR.cell {φ : Phi} {w0 w : World} {p : Pl} {x : Blk} (h : BlkR φ w0 w p x) {i : Nat} (hi : i < x.len) :
    0 < p.size ∧ ∃ u, w.cell? ⟨p.blk, p.off + i, none⟩ = some u ∧ RV φ w0 (x.cell i) u ∧ w.frozen? ⟨p.blk, p.off + i, none⟩ = false := by
  have key : ∀ (o : Bool) (n : Nat) (f : Nat → AV), i < n → CellsR φ w0 w p o n f → 0 < p.size ∧ ∃ u, w.cell? ⟨p.blk, p.off + i, none⟩ = some u ∧ RV φ w0 (f i) u ∧ w.frozen? ⟨p.blk, p.off + i, none⟩ = false := by
    rintro o n f hn ⟨_, h⟩
    rcases h with h | ⟨cc, e, lo, hi, g1, g2, g3, g4, g5⟩
    · omega
    · exact ⟨by omega, cc.getD (p.off + i) undef, cell_of_cells g1 (by omega), g5 i hn, frozen_of_cells g1 (by omega)⟩
  cases x with
  | dead => simp [Blk.len] at hi
  | map es => simp [Blk.len] at hi
  | ints k l o => exact key o l.length _ hi h
  | vals l o pu => exact key o l.length _ hi h.1

theorem BlkR.fits {φ : Phi} {w0 w : World} {p : Pl} {x : Blk} (h : BlkR φ w0 w p x) (hl : 0 < x.len) : p.off + x.len ≤ p.size := by
  cases x with
  | dead => simp [Blk.len] at hl
  | map es => simp [Blk.len] at hl
  | ints k l o =>
    rcases h.2 with h | ⟨cc, e, lo, hi, g1, g2, g3, g4, g5⟩
    · simp [Blk.len] at hl; omega
    · simp [Blk.len]; omega
  | vals l o pu =>
    rcases h.1.2 with h | ⟨cc, e, lo, hi, g1, g2, g3, g4, g5⟩
    · simp [Blk.len] at hl; omega
    · simp [Blk.len]; omega

theorem add_plain' (b o n : Nat) : (⟨b, o, none⟩ : Addr).add n = ⟨b, o + n, none⟩ := by
  unfold Addr.add; split
  · rename_i h; subst h; rfl
  · rfl

/-- A load of what lies there, cell by cell. -/
theorem run_loadVar_of {P : Program} {w : World} {t : TypeId} {a : Addr} {g : Bool} {z : Nat} {us : Nat → Value} (hg : tagg P t = some g) (hz : tsize P t = some z) (h : ∀ j, j < (if g then z else 1) → w.cell? (a.add j) = some (us j)) :
    (loadVar t a).run P w = .ok (if g then .agg ((List.range z).map us).toArray else us 0) w := by
  simp only [loadVar, Sem.run_bind, run_isAgg_of hg, Result.andThen_ok]
  cases g with
  | true =>
    simp only [if_true, Sem.run_bind, run_sizeOf_of hz, Result.andThen_ok]
    rw [run_loadCells w a z us (by simpa using h)]
    rfl
  | false =>
    simp only [Bool.false_eq_true, if_false, run_load]
    have := h 0 (by simp)
    rw [Go.Addr.add_zero'] at this
    rw [this]

theorem getD_range_map {α : Type} (z : Nat) (f : Nat → α) (d : α) {j : Nat} (hj : j < z) : ((List.range z).map f).getD j d = f j := by
  simp [List.getD_eq_getElem?_getD, hj]
theorem getD_arr_range_map {α : Type} (z : Nat) (f : Nat → α) (d : α) {j : Nat} (hj : j < z) : (((List.range z).map f).toArray).getD j d = f j := by
  simp [Array.getD, hj]

theorem aload_sound {P : Program} {φ : Phi} {w0 w : World} {t : TypeId} {x : Blk} {o : Nat} {a : Addr} {r : Res} {cs : List Chk}
    (hx : ∀ j, o + j < x.len → ∃ u, w.cell? (a.add j) = some u ∧ RV φ w0 (x.cell (o + j)) u) (h : aload P t x o = some (r, cs)) (hc : oks cs) :
    ∃ v u, r = .val v ∧ (loadVar t a).run P w = .ok u w ∧ RV φ w0 v u := by
  have hx' : ∀ j, ∃ u, o + j < x.len → w.cell? (a.add j) = some u ∧ RV φ w0 (x.cell (o + j)) u := by
    intro j
    by_cases hj : o + j < x.len
    · obtain ⟨u, h1⟩ := hx j hj; exact ⟨u, fun _ => h1⟩
    · exact ⟨undef, fun e => absurd e hj⟩
  obtain ⟨us, hus⟩ := Classical.axiomOfChoice hx'
  unfold aload at h
  split at h
  · rename_i z hg hz
    cases h
    have hb : o + z ≤ x.len := hc.1
    refine ⟨_, _, rfl, run_loadVar_of hg hz (us := us) (fun j hj => (hus j (by simp at hj; omega)).1), ?_⟩
    simp only [if_true]
    refine .agg _ _ (by simp [Blk.read]) fun j hj => ?_
    have hj' : j < z := by simpa [Blk.read] using hj
    rw [Blk.read, getD_range_map z _ _ hj', getD_arr_range_map z us undef hj']
    exact (hus j (by omega)).2
  · rename_i z hg hz
    cases h
    have hb : o < x.len := hc.1
    refine ⟨_, _, rfl, run_loadVar_of hg hz (us := us) (fun j hj => by
      simp at hj; subst hj; exact (hus 0 (by omega)).1), ?_⟩
    simpa using (hus 0 (by omega)).2
  · cases h

end Go.Proofs.Ytmdkhdfckdkceaa.TdAm
