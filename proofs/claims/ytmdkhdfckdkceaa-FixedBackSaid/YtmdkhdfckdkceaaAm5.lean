/- The abstract machine, part 5: operations on memory. -/
import Derived.Test.YtmdkhdfckdkceaaAm4
namespace Go.Proofs.Ytmdkhdfckdkceaa.TdAm
open Go Go.RowKit
set_option linter.unusedVariables false
set_option linter.unusedSimpArgs false

theorem setFrom_length {α : Type} : ∀ (vs : List α) (l : List α) (o : Nat), (setFrom l o vs).length = l.length
  | [], l, o => rfl
  | v :: r, l, o => by simp [setFrom, setFrom_length r]
theorem setFrom_getD {α : Type} (d : α) : ∀ (vs : List α) (l : List α) (o j : Nat), o + vs.length ≤ l.length → (setFrom l o vs).getD j d = if o ≤ j ∧ j < o + vs.length then vs.getD (j - o) d else l.getD j d
  | [], l, o, j, h => by simp [setFrom]; intro h1 h2; omega
  | v :: r, l, o, j, h => by
    have h' : o + 1 + r.length ≤ (l.set o v).length := by simp at h ⊢; omega
    rw [setFrom, setFrom_getD d r (l.set o v) (o + 1) j h']
    by_cases hj : j = o
    · subst hj
      have hlt : j < l.length := by simp at h; omega
      rw [if_neg (by omega), if_pos (by simp)]
      simp [List.getD_eq_getElem?_getD, List.getElem?_set, hlt]
    · by_cases h1 : o + 1 ≤ j ∧ j < o + 1 + r.length
      · rw [if_pos h1, if_pos (by simp; omega)]
        obtain ⟨k, rfl⟩ : ∃ k, j = o + 1 + k := ⟨j - (o + 1), by omega⟩
        rw [show o + 1 + k - (o + 1) = k by omega, show o + 1 + k - o = k + 1 by omega]
        simp
      · rw [if_neg h1, if_neg (by simp; omega)]
        simp only [List.getD_eq_getElem?_getD, List.getElem?_set]
        rw [if_neg (fun e => hj e.symm)]

def setFromA (cc : Array Value) (o : Nat) : List Value → Array Value
  | [] => cc
  | v :: r => setFromA (cc.setIfInBounds o v) (o + 1) r
theorem setFromA_toList : ∀ (vs : List Value) (cc : Array Value) (o : Nat), (setFromA cc o vs).toList = setFrom cc.toList o vs
  | [], cc, o => rfl
  | v :: r, cc, o => by simp [setFromA, setFrom, setFromA_toList r]
theorem setFromA_size (vs : List Value) (cc : Array Value) (o : Nat) : (setFromA cc o vs).size = cc.size := by
  have := congrArg List.length (setFromA_toList vs cc o)
  simpa [setFrom_length] using this
theorem arr_getD_toList (cc : Array Value) (j : Nat) (d : Value) : cc.getD j d = cc.toList.getD j d := by
  simp [List.getD_eq_getElem?_getD]
theorem setFromA_getD (vs : List Value) (cc : Array Value) (o j : Nat) (h : o + vs.length ≤ cc.size) : (setFromA cc o vs).getD j undef = if o ≤ j ∧ j < o + vs.length then vs.getD (j - o) undef else cc.getD j undef := by
  rw [arr_getD_toList, setFromA_toList, setFrom_getD undef vs cc.toList o j (by simpa using h), arr_getD_toList]

/-- A run of stores into one block. -/
theorem run_storeCells_of {P : Program} {b : Nat} {e : TypeId} {lo hi : Nat} : ∀ (vs : List Value) (off i : Nat) (w : World) (cc : Array Value), w.heap[b]? = some (.cells cc e (lo, hi)) → (∀ i, i < cc.size → ¬ (lo ≤ i ∧ i < hi)) →
    off + i + vs.length ≤ cc.size → (∀ v ∈ vs, v.oneCell' = true) →
    ∃ w', (storeCells ⟨b, off, none⟩ vs i).run P w = .ok () w' ∧ Wrote b w w' ∧ w'.heap[b]? = some (.cells (setFromA cc (off + i) vs) e (lo, hi))
  | [], off, i, w, cc, h, hf, hl, h1 => ⟨w, rfl, Wrote.refl _ _, h⟩
  | v :: r, off, i, w, cc, h, hf, hl, h1 => by
    have hlt : off + i < cc.size := by simp at hl; omega
    have hcell := cell_of_cells h hlt
    have hfr := frozen_of_cells h (hf _ hlt)
    have hset : (w.setCell ⟨b, off + i, none⟩ v).heap[b]? = some (.cells (cc.setIfInBounds (off + i) v) e (lo, hi)) := by
      simp only [World.setCell, Array.getElem?_modify, h]
      simp
    obtain ⟨w', g1, g2, g3⟩ := run_storeCells_of r off (i + 1) (w.setCell ⟨b, off + i, none⟩ v) (cc.setIfInBounds (off + i) v) hset (by simpa using hf) (by simp at hl ⊢; omega) (fun v hv => h1 v (List.mem_cons_of_mem _ hv))
    refine ⟨w', ?_, ?_, by rw [g3, setFromA, show off + i + 1 = off + (i + 1) by omega]⟩
    · rw [storeCells, Sem.run_bind, run_store P w _ v .plain (h1 v (List.mem_cons_self ..)), add_plain']
      simp only [hcell, hfr, Bool.false_eq_true, if_false, Result.andThen_ok]
      exact g1
    · exact (Wrote.setCell w ⟨b, off + i, none⟩ v).trans g2

theorem AV.one_value {φ : Phi} {w0 : World} {v : AV} {u : Value} (h : RV φ w0 v u) (ho : v.one = true) : u.oneCell' = true := by
  cases h <;> first | rfl | (simp [AV.one] at ho)
theorem allOne_get {l : List AV} (h : allOne l = true) : ∀ j, j < l.length → (l.getD j .nilp).one = true := by
  induction l with
  | nil => intro j hj; simp at hj
  | cons v r ih =>
    simp [allOne] at h
    intro j hj
    cases j with
    | zero => simpa using h.1
    | succ j => simpa using ih h.2 j (by simpa using hj)

theorem setFrom_mem {α : Type} : ∀ (vs l : List α) (o : Nat) (v : α), v ∈ setFrom l o vs → v ∈ l ∨ v ∈ vs
  | [], l, o, v, h => .inl h
  | n :: r, l, o, v, h => by
    rcases setFrom_mem r (l.set o n) (o + 1) v h with e | e
    · rcases List.mem_or_eq_of_mem_set e with e | e
      · exact .inl e
      · exact .inr (by simp [e])
    · exact .inr (List.mem_cons_of_mem _ e)

/-- What is put lies there. -/
theorem put_blkR {φ : Phi} {w0 w w' : World} {p : Pl} {x y : Blk} {o : Nat} {vs : List AV} {us : List Value} (hx : BlkR φ w0 w p x) (hy : x.put o vs = some y) (hl : o + vs.length ≤ x.len) (hu : us.length = vs.length)
    (hv : ∀ j, j < vs.length → RV φ w0 (vs.getD j .nilp) (us.getD j undef)) (hw : ∀ cc e lo hi, w.heap[p.blk]? = some (.cells cc e (lo, hi)) → w'.heap[p.blk]? = some (.cells (setFromA cc (p.off + o) us) e (lo, hi))) : BlkR φ w0 w' p y := by
  have key : ∀ (q : Bool) (n : Nat) (f g : Nat → AV), CellsR φ w0 w p q n f → o + vs.length ≤ n → (∀ j, j < n → g j = if o ≤ j ∧ j < o + vs.length then vs.getD (j - o) .nilp else f j) → CellsR φ w0 w' p q n g := by
    rintro q n f g ⟨e0, h⟩ hn hg
    refine ⟨e0, h.imp id ?_⟩
    rintro ⟨cc, e, lo, hi, g1, g2, g3, g4, g5⟩
    refine ⟨_, e, lo, hi, hw cc e lo hi g1, by rw [setFromA_size]; exact g2, by rw [setFromA_size]; exact g3, by rw [setFromA_size]; exact g4, fun j hj => ?_⟩
    rw [setFromA_getD us cc (p.off + o) (p.off + j) (by omega), hg j hj]
    by_cases hc : o ≤ j ∧ j < o + vs.length
    · rw [if_pos hc, if_pos (by omega), show p.off + j - (p.off + o) = j - o by omega]
      exact hv _ (by omega)
    · rw [if_neg hc, if_neg (by omega)]
      exact g5 j hj
  cases x with
  | dead => simp [Blk.put] at hy
  | map es => simp [Blk.put] at hy
  | vals l q pu =>
    simp [Blk.put] at hy; subst hy
    refine ⟨?_, fun hs v hm => ?_⟩
    case refine_2 =>
      simp only [Bool.and_eq_true] at hs
      rcases setFrom_mem vs l o v hm with e | e
      · exact hx.2 hs.1 v e
      · exact allShut_mem hs.2 v e
    have := key q l.length (fun i => l.getD i .nilp) (fun i => (setFrom l o vs).getD i .nilp) hx.1 hl (fun j hj => setFrom_getD .nilp vs l o j hl)
    show CellsR φ w0 w' p q (setFrom l o vs).length _
    rw [setFrom_length]; exact this
  | ints k l q =>
    simp only [Blk.put] at hy
    split at hy
    · rename_i ns hns
      cases hy
      obtain ⟨h1, h2⟩ := intsOf_spec hns
      have := key q l.length (fun i => .int k (l.getD i 0)) (fun i => .int k ((setFrom l o ns).getD i 0)) hx hl (fun j hj => by
        rw [setFrom_getD 0 ns l o j (by rw [h1]; exact hl), h1]
        by_cases hc : o ≤ j ∧ j < o + vs.length
        · rw [if_pos hc, if_pos hc, h2 _ (by omega)]
        · rw [if_neg hc, if_neg hc])
      show CellsR φ w0 w' p q (setFrom l o ns).length _
      rw [setFrom_length]; exact this
    · cases hy

def GlobR (C : Cx) (w0 : World) : Prop := ∀ g x, C.glob g = some x → ∀ i, i < x.len → ∃ u, w0.cell? ⟨g, i, none⟩ = some u ∧ ∀ φ, RV φ w0 (x.cell i) u

section
variable {C : Cx} {φ : Phi} {H : Hp} {w0 w : World} {ev : Operand → Option AV} {ρ : Operand → Value} {id : Nat} {o : Oper} {r : Res} {cs : List Chk}

theorem load_sound (rel : RelH φ H w0 w) (hG : GlobR C w0) (hev : ∀ x v, ev x = some v → RV φ w0 v (ρ x)) {t : TypeId} {a : Operand} (ho : o.op = .load t a)
    (h : aop C (look H) ev id o = some (r, cs)) (hc : oks cs) : ∃ v u, r = .val v ∧ (execOp ρ o).run C.P w = .ok (.value u) w ∧ RV φ w0 v u := by
  have fin : ∀ (ad : Addr), ρ a = .pointer (some ad) → ∀ v u, (loadVar t ad).run C.P w = .ok u w → RV φ w0 v u → ∃ u, (execOp ρ o).run C.P w = .ok (.value u) w ∧ RV φ w0 v u := by
    intro ad hp v u hr hv
    refine ⟨u, ?_, hv⟩
    simp [execOp, ho, Instr.loadAt, Instr.sureAddr, hp, hr]
  unfold aop at h
  simp only [ho] at h
  split at h
  · rename_i b i hb
    have hva := hev _ _ hb
    split at h
    · rename_i x hx
      obtain ⟨q, hq, hB⟩ := rel.blk b x hx
      generalize hrho : ρ a = ra at hva
      cases hva with
      | ptr _ _ p hp =>
        rw [hq] at hp; cases hp
        obtain ⟨v, u, rfl, h1, h2⟩ := aload_sound (w := w) (φ := φ) (w0 := w0) (a := ⟨q.blk, q.off + i, none⟩) (fun j hj => by
          obtain ⟨_, u, g1, g2, _⟩ := hB.cell (i := i + j) hj
          rw [add_plain', Nat.add_assoc]; exact ⟨u, g1, g2⟩) h hc
        obtain ⟨u, g1, g2⟩ := fin _ hrho v u h1 h2
        exact ⟨v, u, rfl, g1, g2⟩
    · cases h
  · rename_i g i hb
    have hva := hev _ _ hb
    split at h
    · rename_i x hx
      generalize hrho : ρ a = ra at hva
      cases hva with
      | gptr _ _ =>
        obtain ⟨v, u, rfl, h1, h2⟩ := aload_sound (w := w) (φ := φ) (w0 := w0) (a := ⟨g, i, none⟩) (fun j hj => by
          obtain ⟨u, g1, g2⟩ := hG g x hx (i + j) hj
          rw [add_plain']
          exact ⟨u, (rel.below.cell (World.block_lt_of_cell? w0 _ g1)).trans g1, g2 φ⟩) h hc
        obtain ⟨u, g1, g2⟩ := fin _ hrho v u h1 h2
        exact ⟨v, u, rfl, g1, g2⟩
    · cases h
  · rename_i cells hb
    have hva := hev _ _ hb
    generalize hrho : ρ a = ra at hva
    cases hva with
    | roc _ ad us g1 g2' =>
      have g2 : ∀ j (hj : j < cells.length), RV φ w0 (cells.getD j .nilp) (us j) := fun j hj => (g2' j hj).mono (PhiLe.bot φ)
      have g1' : ∀ j, j < cells.length → w.cell? (ad.add j) = some (us j) := fun j hj => (rel.below.cell (World.block_lt_of_cell? w0 _ (g1 j hj))).trans (g1 j hj)
      split at h
      · rename_i z hg hz
        split at h
        · rename_i hle
          cases h
          have hle' : z ≤ cells.length := by simpa using hle
          have hl := run_loadVar_of hg hz (us := us) (a := ad) (fun j hj => g1' j (by simp at hj; omega))
          obtain ⟨u, k1, k2⟩ := fin _ hrho (.agg (cells.take z)) _ hl (by
            simp only [if_true]
            refine .agg _ _ (by simp; omega) fun j hj => ?_
            have hj' : j < z := by simp at hj; omega
            rw [getD_arr_range_map z us undef hj']
            have := g2 j (by omega)
            simpa [List.getD_eq_getElem?_getD, List.getElem?_take, hj'] using this)
          exact ⟨_, u, rfl, k1, k2⟩
        · cases h
      · rename_i z hg hz
        split at h
        · rename_i hle
          cases h
          have hle' : 1 ≤ cells.length := by simpa using hle
          have hl := run_loadVar_of hg hz (us := us) (a := ad) (fun j hj => g1' j (by simp at hj; omega))
          obtain ⟨u, k1, k2⟩ := fin _ hrho (cells.getD 0 .nilp) _ hl (by simpa using g2 0 (by omega))
          exact ⟨_, u, rfl, k1, k2⟩
        · cases h
      · cases h
  · cases h

theorem store_sound (rel : RelH φ H w0 w) (hev : ∀ x v, ev x = some v → RV φ w0 v (ρ x)) {t : TypeId} {a x : Operand} (ho : o.op = .store t a x)
    (h : aop C (look H) ev id o = some (r, cs)) (hc : oks cs) : ∃ b y, r = .write b y vundef ∧ Good φ H w0 w vundef (H.set b (some y)) ((execOp ρ o).run C.P w) := by
  unfold aop at h
  simp only [ho] at h
  split at h
  · rename_i b i v hb hv
    have hva := hev _ _ hb
    have hvx := hev _ _ hv
    split at h
    · rename_i y z hy hz
      split at h
      · rename_i y' hsz hone hput
        cases h
        have hsz' : v.cells.length = z := by simpa using hsz
        have hle : i + z ≤ y.len := hc.1
        generalize hrho : ρ a = ra at hva
        cases hva with
        | ptr _ _ p hp =>
          obtain ⟨q, hq, hB⟩ := rel.blk b y hy
          rw [hp] at hq; cases hq
          obtain ⟨c1, c2⟩ := hvx.cells
          have hlive : y.live := by
            cases y <;> first | trivial | (simp [Blk.put] at hput)
          refine ⟨b, y', rfl, ?_⟩
          have h1 : ∀ u ∈ (ρ x).cells.toList, u.oneCell' = true := by
            intro u hu
            obtain ⟨j, hj, rfl⟩ := List.getElem_of_mem hu
            have hj' : j < v.cells.length := by simpa [c1] using hj
            have := c2 j hj'
            have e : (ρ x).cells.getD j undef = (ρ x).cells.toList[j] := by
              simp at hj; simp [Array.getD, hj]
            rw [← e]
            exact AV.one_value this (allOne_get hone j hj')
          by_cases hz0 : z = 0
          · -- nothing is stored
            have hnil : (ρ x).cells.toList = [] := by
              apply List.eq_nil_of_length_eq_zero; simp [c1, hsz', hz0]
            have hw : (execOp ρ o).run C.P w = .ok .skip w := by
              simp [execOp, ho, Instr.storeAt, Instr.sureAddr, hrho, storeVar, run_sizeOf_of hz, c1, hsz', hz0, hnil, storeCells]
            obtain ⟨k1, k2⟩ := rel.write hy hlive hp (Wrote.refl _ w) y' (put_blkR (us := (ρ x).cells.toList) hB hput (by omega) (by simp [c1]) (fun j hj => by omega) (fun cc e lo hi hh => by rw [hnil]; exact hh)) (.inr rfl)
            exact ⟨φ, undef, w, .inr ⟨hw, rfl⟩, undef_vundef φ w0, k1, k2⟩
          · have hcells : ∃ cc e lo hi, w.heap[p.blk]? = some (.cells cc e (lo, hi)) ∧ cc.size = p.size ∧ (lo = hi ∨ cc.size ≤ lo) ∧ p.off + y.len ≤ cc.size := by
              cases y with
              | dead => exact hlive.elim
              | map es => simp [Blk.put] at hput
              | ints k l o =>
                rcases hB.2 with hh | ⟨cc, e, lo, hi, g1, g2, g3, g4, g5⟩
                · simp [Blk.len] at hle; omega
                · exact ⟨cc, e, lo, hi, g1, g2, g3, g4⟩
              | vals l o pu =>
                rcases hB.1.2 with hh | ⟨cc, e, lo, hi, g1, g2, g3, g4, g5⟩
                · simp [Blk.len] at hle; omega
                · exact ⟨cc, e, lo, hi, g1, g2, g3, g4⟩
            obtain ⟨cc, e, lo, hi, g1, g2, g3, g4⟩ := hcells
            obtain ⟨w', s1, s2, s3⟩ := run_storeCells_of (P := C.P) (ρ x).cells.toList (p.off + i) 0 w cc g1 (fun i hi => by omega) (by simp [c1]; omega) h1
            have hw : (execOp ρ o).run C.P w = .ok .skip w' := by
              simp [execOp, ho, Instr.storeAt, Instr.sureAddr, hrho, storeVar, run_sizeOf_of hz, c1, hsz', s1]
            have hps : 0 < p.size := by omega
            obtain ⟨k1, k2⟩ := rel.write hy hlive hp s2 y' (put_blkR (us := (ρ x).cells.toList) hB hput (by omega) (by simp [c1]) (fun j hj => by
              have := c2 j hj; rwa [arr_getD_toList] at this) (fun cc' e' lo' hi' hh => by
                rw [g1] at hh; cases hh; simpa using s3)) (.inl hps)
            exact ⟨φ, undef, w', .inr ⟨hw, rfl⟩, undef_vundef φ w0, k1, k2⟩
      · cases h
    · cases h
  · cases h

/-- A row of cells is made. -/
theorem new_row (rel : RelH φ H w0 w) (hid : look H id = none) (hl : id < H.length) (us : Array Value) (e : TypeId) (opn : Bool) (vs : List AV) (hlen : us.size = vs.length)
    (hv : ∀ j, j < vs.length → RV φ w0 (vs.getD j .nilp) (us.getD j undef)) :
    RelH (φ.with id ⟨w.heap.size, 0, us.size, opn⟩) (H.set id (some (mkBlk vs opn))) w0 (w.alloc (.cells us e)) ∧ Ext φ H w (φ.with id ⟨w.heap.size, 0, us.size, opn⟩) (H.set id (some (mkBlk vs opn))) (w.alloc (.cells us e)) := by
  have hle : PhiLe φ (φ.with id ⟨w.heap.size, 0, us.size, opn⟩) := PhiLe.with _ (rel.fresh id hid)
  refine rel.grow ((Below.refl _ _).alloc (Nat.le_refl _) _) hid hl _ _ (fun _ => Nat.le_refl _) (mkBlk_cells ⟨rfl, .inr ⟨us, e, 0, 0, heap_alloc_new w _, rfl, (.inl rfl), by simp [hlen], fun i hi => ?_⟩⟩)
  simpa using (hv i hi).mono hle

end
end Go.Proofs.Ytmdkhdfckdkceaa.TdAm
