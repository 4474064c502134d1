/- The abstract machine, part 7: operations that make values and rows, slices and indexes. -/
import Derived.Test.YtmdkhdfckdkceaaAm6
import Derived.Laws.Tables
import Derived.Laws.IdiomElems
namespace Go.Proofs.Ytmdkhdfckdkceaa.TdAm
open Go Go.RowKit
set_option linter.unusedVariables false
set_option linter.unusedSimpArgs false

theorem fill_setFrom (cells : Array Value) (off : Nat) (vs : Array Value) : vs.zipIdx.foldl (fun cs (q : Value × Nat) => cs.setIfInBounds (off + q.2) q.1) cells = setFromA cells off vs.toList := by
  rw [← Array.foldl_toList]
  have h : ∀ (l : List Value) (k : Nat) (cs : Array Value), (l.zipIdx k).foldl (fun cs (q : Value × Nat) => cs.setIfInBounds (off + q.2) q.1) cs = setFromA cs (off + k) l := by
    intro l
    induction l with
    | nil => intro k cs; rfl
    | cons v r ih => intro k cs; simp only [List.zipIdx_cons, List.foldl_cons, setFromA]; rw [ih]; rfl
  simpa using h vs.toList 0 cells

theorem fillA_spec {φ : Phi} {w0 : World} {ev : Operand → Option AV} {ρ : Operand → Value} (hev : ∀ x v, ev x = some v → RV φ w0 v (ρ x)) {place : Nat → Option (Nat × Nat)} :
    ∀ (ps : List (Nat × Operand)) (cells cs : List AV) (us : Array Value), fillA place ev cells ps = some cs → us.size = cells.length → (∀ j, j < cells.length → RV φ w0 (cells.getD j .nilp) (us.getD j undef)) →
      ∃ vs, Instr.fill place us (ps.map fun q => (q.1, ρ q.2)) = some vs ∧ vs.size = cs.length ∧ ∀ j, j < cs.length → RV φ w0 (cs.getD j .nilp) (vs.getD j undef)
  | [], cells, cs, us, h, hs, hr => by cases h; exact ⟨us, rfl, hs, hr⟩
  | (i, x) :: r, cells, cs, us, h, hs, hr => by
    simp only [fillA] at h
    split at h
    · rename_i off z v hp hv
      split at h
      · rename_i h1 h2
        have h1' : v.cells.length = z := by simpa using h1
        have h2' : off + z ≤ cells.length := by simpa using h2
        obtain ⟨c1, c2⟩ := (hev x v hv).cells
        obtain ⟨vs, g1, g2⟩ := fillA_spec hev r (setFrom cells off v.cells) cs (setFromA us off (ρ x).cells.toList) h (by rw [setFromA_size, setFrom_length]; exact hs) (by
          intro j hj
          rw [setFrom_length] at hj
          rw [setFrom_getD .nilp v.cells cells off j (by omega), setFromA_getD _ us off j (by simp [c1]; omega)]
          by_cases hc : off ≤ j ∧ j < off + v.cells.length
          · rw [if_pos hc, if_pos (by simpa [c1] using hc)]
            have := c2 (j - off) (by omega)
            rwa [arr_getD_toList] at this
          · rw [if_neg hc, if_neg (by simpa [c1] using hc)]
            exact hr j hj)
        refine ⟨vs, ?_, g2⟩
        simp only [List.map_cons, Instr.fill, hp]
        rw [if_neg (by simp [c1, h1', hs]; omega)]
        have := fill_setFrom us off (ρ x).cells
        rw [← g1, ← this]
      · cases h
    · cases h

theorem tzero_spec {P : Program} {t : TypeId} {z : AV} (h : tzero P t = some z) (φ : Phi) (w0 : World) : ∃ v, (P.info? t).bind (·.zero) = some v ∧ RV φ w0 z v := by
  unfold tzero at h
  split at h
  · rename_i v hv; exact ⟨v, hv, ofV_spec φ w0 6 v z h⟩
  · cases h

section
variable {C : Cx} {φ : Phi} {H : Hp} {w0 w : World} {ev : Operand → Option AV} {ρ : Operand → Value} {id : Nat} {o : Oper} {r : Res} {cs : List Chk}

theorem binOp_sound (hev : ∀ x v, ev x = some v → RV φ w0 v (ρ x)) {op : BinOp} {t yt : TypeId} {x y : Operand} (ho : o.op = .binOp op t x y yt)
    (h : aop C (look H) ev id o = some (r, cs)) (hc : oks cs) : ∃ v u, r = .val v ∧ (execOp ρ o).run C.P w = .ok (.value u) w ∧ RV φ w0 v u := by
  unfold aop at h
  simp only [ho] at h
  split at h
  · rename_i a b ha hb
    split at h
    · rename_i v c hv
      cases h
      obtain ⟨u, h1, h2⟩ := abin_sound (w := w) (X := x) (Y := y) (hev _ _ ha) (hev _ _ hb) hv hc
      refine ⟨v, u, rfl, ?_, h2⟩
      simp only [execOp, ho]
      rw [Sem.run_bind, h1]
      rfl
    · cases h
  · cases h

theorem build_sound (hev : ∀ x v, ev x = some v → RV φ w0 v (ρ x)) {t : TypeId} {ps : Array (Nat × Operand)} (ho : o.op = .build t ps)
    (h : aop C (look H) ev id o = some (r, cs)) : ∃ v u, r = .val v ∧ (execOp ρ o).run C.P w = .ok (.value u) w ∧ RV φ w0 v u := by
  have fin : ∀ (cells : Array Value) (vs : List AV), C.P.built t (ps.map fun (i, x) => (i, ρ x)).toList = some cells → cells.size = vs.length → (∀ j, j < vs.length → RV φ w0 (vs.getD j .nilp) (cells.getD j undef)) →
      ∃ u, (execOp ρ o).run C.P w = .ok (.value u) w ∧ RV φ w0 (.agg vs) u := by
    intro cells vs hb h1 h2
    refine ⟨.agg cells, ?_, .agg vs cells h1 h2⟩
    simp only [execOp, ho, Sem.run_bind, run_build w t _ cells hb, Result.andThen_ok]
    rfl
  unfold aop at h
  simp only [ho] at h
  split at h
  · rename_i it fs z hit hu hz
    obtain ⟨v, hv, hr⟩ := tzero_spec hz φ w0
    rw [hit] at hv
    have hv' : it.zero = some v := hv
    obtain ⟨c1, c2⟩ := hr.cells
    split at h
    · rename_i places hpl
      split at h
      · rename_i vs hvs
        cases h
        obtain ⟨us, g1, g2, g3⟩ := fillA_spec hev ps.toList z.cells vs v.cells hvs c1 c2
        obtain ⟨u, k1, k2⟩ := fin us vs (by simp only [Program.built, hit, hu, hv', hpl]; simpa using g1) g2 g3
        exact ⟨_, u, rfl, k1, k2⟩
      · cases h
    · cases h
  · rename_i it n e z hit hu hz
    obtain ⟨v, hv, hr⟩ := tzero_spec hz φ w0
    rw [hit] at hv
    have hv' : it.zero = some v := hv
    obtain ⟨c1, c2⟩ := hr.cells
    split at h
    · rename_i ze hze
      unfold tsize at hze
      cases hie : C.P.info? e with
      | none => rw [hie] at hze; cases hze
      | some ie =>
        rw [hie] at hze; cases hze
        split at h
        · rename_i vs hvs
          cases h
          obtain ⟨us, g1, g2, g3⟩ := fillA_spec hev ps.toList z.cells vs v.cells hvs c1 c2
          obtain ⟨u, k1, k2⟩ := fin us vs (by simp only [Program.built, hit, hu, hv', hie]; simpa using g1) g2 g3
          exact ⟨_, u, rfl, k1, k2⟩
        · cases h
    · cases h
  · cases h

theorem box_sound (rel : RelH φ H w0 w) (hid : look H id = none) (hl : id < H.length) (hev : ∀ x v, ev x = some v → RV φ w0 v (ρ x)) {e : TypeId} {x : Operand} (ho : o.op = .box e x)
    (h : aop C (look H) ev id o = some (r, cs)) : ∃ v y, r = .new v y ∧ Good φ H w0 w v (H.set id (some y)) ((execOp ρ o).run C.P w) := by
  unfold aop at h
  simp only [ho] at h
  split at h
  · rename_i v hv
    cases h
    obtain ⟨c1, c2⟩ := (hev _ _ hv).cells
    obtain ⟨k1, k2⟩ := new_row rel hid hl (ρ x).cells e false v.cells c1 c2
    refine ⟨_, _, rfl, _, .pointer (some ⟨w.heap.size, 0, none⟩), _, .inl ?_, .ptr id 0 _ (Phi.with_same _ _ _), k1, k2⟩
    simp [execOp, ho, Instr.box, newVar, newRow]
  · cases h

theorem alloc_sound (rel : RelH φ H w0 w) (hid : look H id = none) (hl : id < H.length) {e : TypeId} (ho : o.op = .alloc e)
    (h : aop C (look H) ev id o = some (r, cs)) : ∃ v y, r = .new v y ∧ Good φ H w0 w v (H.set id (some y)) ((execOp ρ o).run C.P w) := by
  unfold aop at h
  simp only [ho] at h
  split at h
  · rename_i z hz
    cases h
    obtain ⟨v, hv, hr⟩ := tzero_spec hz φ w0
    obtain ⟨c1, c2⟩ := hr.cells
    obtain ⟨k1, k2⟩ := new_row rel hid hl v.cells e false z.cells c1 c2
    refine ⟨_, _, rfl, _, .pointer (some ⟨w.heap.size, 0, none⟩), _, .inl ?_, .ptr id 0 _ (Phi.with_same _ _ _), k1, k2⟩
    simp [execOp, ho, Instr.alloc, newVar, newRow, run_zero_of hv]
  · cases h

theorem repl_length (cs : List AV) : ∀ n, (repl n cs).length = n * cs.length
  | 0 => by simp [repl]
  | n + 1 => by simp [repl, repl_length cs n, Nat.succ_mul, Nat.add_comm]
theorem repl_getD (cs : List AV) (hc : 0 < cs.length) : ∀ n j, j < n * cs.length → (repl n cs).getD j .nilp = cs.getD (j % cs.length) .nilp
  | 0, j, h => by simp at h
  | n + 1, j, h => by
    have h' : j < n * cs.length + cs.length := by rw [← Nat.succ_mul]; exact h
    by_cases hj : j < cs.length
    · simp only [repl, List.getD_eq_getElem?_getD]
      rw [List.getElem?_append_left hj, Nat.mod_eq_of_lt hj]
    · have ih := repl_getD cs hc n (j - cs.length) (by omega)
      have e : j % cs.length = (j - cs.length) % cs.length := Nat.mod_eq_sub_mod (by omega)
      rw [e, ← ih]
      simp only [repl, List.getD_eq_getElem?_getD]
      rw [List.getElem?_append_right (by omega)]

theorem buildSlice_sound (rel : RelH φ H w0 w) (hid : look H id = none) (hl : id < H.length) (hev : ∀ x v, ev x = some v → RV φ w0 v (ρ x)) {t : TypeId} {n : Nat} {ps : Array (Nat × Operand)} (ho : o.op = .buildSlice t n ps)
    (h : aop C (look H) ev id o = some (r, cs)) : ∃ v y, r = .new v y ∧ Good φ H w0 w v (H.set id (some y)) ((execOp ρ o).run C.P w) := by
  unfold aop at h
  simp only [ho] at h
  split at h
  · rename_i e hu
    split at h
    · rename_i ze z hze hz
      split at h
      · rename_i vs h1 h2 h3 hvs
        cases h
        have h1' : 0 < ze := by simpa [Nat.blt_eq] using h1
        have h2' : z.cells.length = ze := by simpa using h2
        have h3' : n * ze ≤ 65536 := by simpa using h3
        obtain ⟨v, hv, hr⟩ := tzero_spec hz φ w0
        obtain ⟨c1, c2⟩ := hr.cells
        have hvsz : v.cells.size = ze := by omega
        have hlen : ∀ (us : Array Value), (Array.range (n * ze)).map (fun i => v.cells[i % v.cells.size]!) = us → us.size = (repl n z.cells).length ∧ ∀ j, j < (repl n z.cells).length → RV φ w0 ((repl n z.cells).getD j .nilp) (us.getD j undef) := by
          rintro us rfl
          rw [repl_length, h2']
          refine ⟨by simp, fun j hj => ?_⟩
          rw [repl_getD z.cells (by omega) n j (by rw [h2']; exact hj), h2']
          have hm : j % ze < ze := Nat.mod_lt _ h1'
          have := c2 (j % ze) (by omega)
          have e1 : ((Array.range (n * ze)).map (fun i => v.cells[i % v.cells.size]!)).getD j undef = v.cells.getD (j % ze) undef := by
            have hm' : j % ze < v.cells.size := by omega
            simp [Array.getD, hj, hvsz, hm, getElem!_pos, hm']
          rw [e1]; exact this
        obtain ⟨l1, l2⟩ := hlen _ rfl
        obtain ⟨us, g1, g2, g3⟩ := fillA_spec hev ps.toList (repl n z.cells) vs _ hvs l1 l2
        have hvl : vs.length = n * ze := by
          have : us.size = ((Array.range (n * ze)).map (fun i => v.cells[i % v.cells.size]!)).size := by
            have key : ∀ (pl : Nat → Option (Nat × Nat)) (l : List (Nat × Value)) (a b : Array Value), Instr.fill pl a l = some b → b.size = a.size := by
              intro pl l
              induction l with
              | nil => intro a b hh; cases hh; rfl
              | cons q l ih =>
                intro a b hh
                simp only [Instr.fill] at hh
                split at hh
                · cases hh
                · split at hh
                  · cases hh
                  · have := ih _ _ hh
                    rw [this, fill_setFrom a _ q.2.cells, setFromA_size]
            exact key _ _ _ _ g1
          rw [← g2, this]; simp
        obtain ⟨k1, k2⟩ := new_row rel hid hl us e false vs g2 g3
        have hle := PhiLe.with (⟨w.heap.size, 0, us.size, false⟩ : Pl) (rel.fresh id hid)
        refine ⟨_, _, rfl, _, .slice (some ⟨w.heap.size, 0, none⟩) n n, _, .inl ?_, ?_, k1, k2⟩
        · have hn24 : ¬ (n * ze > 2 ^ 24) := by omega
          by_cases hn0 : n * ze = 0
          · have hn00 : n = 0 := by
              rcases Nat.mul_eq_zero.1 hn0 with h | h
              · exact h
              · omega
            subst hn00
            have gnil : Instr.fill (fun i => some (i * ze, ze)) #[] ((ps.toList.map fun q => (q.1, ρ q.2))) = some us := by
              have hr0 : Array.range 0 = #[] := rfl
              simpa [hr0] using g1
            have hr0 : Array.range 0 = #[] := rfl
            simp [execOp, ho, Instr.buildSlice, run_underlying hu, run_sizeOf_of hze, newRow, hr0, gnil]
          · have gg : Instr.fill (fun i => some (i * ze, ze)) ((Array.range (n * ze)).map (fun i => v.cells[i % v.cells.size]!)) ((ps.toList.map fun q => (q.1, ρ q.2))) = some us := g1
            simp [execOp, ho, Instr.buildSlice, run_underlying hu, run_sizeOf_of hze, newRow, run_zero_of hv, hn24, hn0, gg]
        · exact .sl id 0 n n ze _ _ n (Phi.with_same _ _ _) (Nat.le_refl _) (Nat.le_refl _) (fun _ => rfl) (.inr rfl) (fun _ => by simp [g2, hvl])
      · cases h
    · cases h
  · cases h

theorem evAll_spec (hev : ∀ x v, ev x = some v → RV φ w0 v (ρ x)) : ∀ {l : List Operand} {vs : List AV}, evAll ev l = some vs → vs.length = l.length ∧ ∀ j, j < vs.length → RV φ w0 (vs.getD j .nilp) ((l.map ρ).getD j undef)
  | [], vs, h => by cases h; exact ⟨rfl, fun j hj => absurd hj (by simp)⟩
  | x :: r, vs, h => by
    simp only [evAll] at h
    split at h
    · rename_i v l hv hl
      cases h
      obtain ⟨h1, h2⟩ := evAll_spec hev hl
      refine ⟨by simp [h1], fun j hj => ?_⟩
      cases j with
      | zero => exact hev x v hv
      | succ j => simpa using h2 j (by simpa using hj)
    · cases h

theorem makeFunc_sound (hev : ∀ x v, ev x = some v → RV φ w0 v (ρ x)) {fn : Fn} {first captured : Array Operand} (ho : o.op = .makeFunc fn first captured)
    (h : aop C (look H) ev id o = some (r, cs)) : ∃ v u, r = .val v ∧ (execOp ρ o).run C.P w = .ok (.value u) w ∧ RV φ w0 v u := by
  unfold aop at h
  cases fn with
  | func f =>
    simp only [ho] at h
    split at h
    · rename_i vs hf hvs
      cases h
      have hf' : first = #[] := by
        apply Array.eq_empty_of_size_eq_zero; simpa using hf
      obtain ⟨h1, h2⟩ := evAll_spec hev hvs
      refine ⟨_, .func (.func f) #[] (captured.map ρ), rfl, by simp [execOp, ho, Instr.makeFunc, hf'], .fn f vs _ (by simp [h1]) fun j hj => ?_⟩
      have := h2 j hj
      rw [arr_getD_toList]; simpa using this
    · cases h
  | _ => simp only [ho] at h; cases h

end
end Go.Proofs.Ytmdkhdfckdkceaa.TdAm
