/- The abstract machine, part 11: copy and append. -/
import Derived.Test.YtmdkhdfckdkceaaAm10
namespace Go.Proofs.Ytmdkhdfckdkceaa.TdAm
open Go Go.RowKit
set_option linter.unusedVariables false
set_option linter.unusedSimpArgs false

/-- The cells of a live block of cells. -/
def Blk.cellsR (φ : Phi) (w0 w : World) (p : Pl) (x : Blk) : Prop := CellsR φ w0 w p x.opn x.len x.cell
theorem BlkR.cells {φ : Phi} {w0 w : World} {p : Pl} {x : Blk} (h : BlkR φ w0 w p x) (hx : ∀ es, x ≠ .map es) (hd : x ≠ .dead) : CellsR φ w0 w p x.opn x.len x.cell := by
  cases x with
  | dead => exact absurd rfl hd
  | map es => exact absurd rfl (hx es)
  | ints k l o => exact h
  | vals l o pu => exact h.1

theorem joinB_spec {x y : Src} {b : Blk} (h : joinB x y = some b) (ox : x.okS) (oy : y.okS) {φ : Phi} {w0 w : World} {p : Pl} (hc : CellsR φ w0 w p true (x.len + y.len) (fun j => if j < x.len then x.cell j else y.cell (j - x.len))) : BlkR φ w0 w p b := by
  unfold joinB at h
  split at h
  · rename_i k' m
    split at h
    · rename_i k l
      split at h
      · rename_i hk; have := of_decide_eq_true hk; subst this; cases h
        show CellsR φ w0 w p true (l ++ m).length _
        rw [List.length_append]
        obtain ⟨e0, hh⟩ := hc
        refine ⟨e0, hh.imp id ?_⟩
        rintro ⟨cc, e, lo, hi, g1, g2, g3, g4, g5⟩
        refine ⟨cc, e, lo, hi, g1, g2, g3, g4, fun i hi => ?_⟩
        have := g5 i hi
        by_cases hj : i < l.length
        · replace this : RV φ w0 (if i < (Src.ints k l).len then _ else _) _ := this
          rw [if_pos (show i < (Src.ints k l).len from hj)] at this
          simpa [Src.cell, Src.len, List.getD_eq_getElem?_getD, List.getElem?_append_left hj] using this
        · replace this : RV φ w0 (if i < (Src.ints k l).len then _ else _) _ := this
          rw [if_neg (show ¬ i < (Src.ints k l).len from hj)] at this
          simpa [Src.cell, Src.len, List.getD_eq_getElem?_getD, List.getElem?_append_right (Nat.le_of_not_lt hj)] using this
      · cases h
    · rename_i l pu
      split at h
      · cases h
        obtain ⟨e0, hh⟩ := hc
        simp only [Src.len, List.length_nil, Nat.zero_add, Nat.not_lt_zero, if_false, Nat.sub_zero] at hh
        exact ⟨e0, hh⟩
      · cases h
  · rename_i m pu'
    split at h
    · rename_i k l
      split at h
      · rename_i ns hns
        cases h
        obtain ⟨h1, h2⟩ := intsOf_spec hns
        show CellsR φ w0 w p true (l ++ ns).length _
        rw [List.length_append, h1]
        obtain ⟨e0, hh⟩ := hc
        refine ⟨e0, hh.imp id ?_⟩
        rintro ⟨cc, e, lo, hi, g1, g2, g3, g4, g5⟩
        refine ⟨cc, e, lo, hi, g1, g2, g3, g4, fun i hi => ?_⟩
        have := g5 i hi
        by_cases hj : i < l.length
        · replace this : RV φ w0 (if i < (Src.ints k l).len then _ else _) _ := this
          rw [if_pos (show i < (Src.ints k l).len from hj)] at this
          simpa [Src.cell, Src.len, List.getD_eq_getElem?_getD, List.getElem?_append_left hj] using this
        · replace this : RV φ w0 (if i < (Src.ints k l).len then _ else _) _ := this
          rw [if_neg (show ¬ i < (Src.ints k l).len from hj)] at this
          replace this : RV φ w0 (m.getD (i - l.length) .nilp) _ := this
          rw [h2 _ (by omega)] at this
          simpa [List.getD_eq_getElem?_getD, List.getElem?_append_right (Nat.le_of_not_lt hj)] using this
      · cases h
    · rename_i l pu
      cases h
      refine ⟨?_, fun hs v hv => ?_⟩
      case refine_2 =>
        simp only [Bool.and_eq_true] at hs
        rcases List.mem_append.1 hv with e | e
        · exact ox hs.1 v e
        · exact oy hs.2 v e
      rw [List.length_append]
      obtain ⟨e0, hh⟩ := hc
      refine ⟨e0, hh.imp id ?_⟩
      rintro ⟨cc, e, lo, hi, g1, g2, g3, g4, g5⟩
      refine ⟨cc, e, lo, hi, g1, g2, g3, g4, fun i hi => ?_⟩
      have := g5 i hi
      by_cases hj : i < l.length
      · replace this : RV φ w0 (if i < (Src.vals l pu).len then _ else _) _ := this
        rw [if_pos (show i < (Src.vals l pu).len from hj)] at this
        simpa [Src.cell, Src.len, List.getD_eq_getElem?_getD, List.getElem?_append_left hj] using this
      · replace this : RV φ w0 (if i < (Src.vals l pu).len then _ else _) _ := this
        rw [if_neg (show ¬ i < (Src.vals l pu).len from hj)] at this
        simpa [Src.cell, Src.len, List.getD_eq_getElem?_getD, List.getElem?_append_right (Nat.le_of_not_lt hj)] using this

theorem splice_getD {α : Type} (d : α) (l m : List α) (o j : Nat) (h : o + m.length ≤ l.length) : (l.take o ++ m ++ l.drop (o + m.length)).getD j d = if o ≤ j ∧ j < o + m.length then m.getD (j - o) d else l.getD j d := by
  simp only [List.getD_eq_getElem?_getD]
  by_cases h1 : j < o
  · rw [if_neg (by omega), List.append_assoc, List.getElem?_append_left (by simp; omega), List.getElem?_take, if_pos h1]
  · by_cases h2 : j < o + m.length
    · rw [if_pos (by omega), List.getElem?_append_left (by simp; omega), List.getElem?_append_right (by simp; omega)]
      congr 2; simp; omega
    · rw [if_neg (by omega), List.getElem?_append_right (by simp; omega), List.getElem?_drop]
      congr 2; simp; omega
theorem splice_length {α : Type} (l m : List α) (o : Nat) (h : o + m.length ≤ l.length) : (l.take o ++ m ++ l.drop (o + m.length)).length = l.length := by
  simp; omega

/-- A source's first cells, copied over a block's. -/
theorem copyB_spec {φ : Phi} {w0 w w' : World} {p : Pl} {x y : Blk} {s : Src} {o k : Nat} {us : List Value} (hx : BlkR φ w0 w p x) (h : copyB x o s k = some y) (os : s.okS) (hk : k ≤ s.len) (hl : o + k ≤ x.len) (hu : us.length = k)
    (hv : ∀ j, j < k → RV φ w0 (s.cell j) (us.getD j undef)) (hw : ∀ cc e lo hi, w.heap[p.blk]? = some (.cells cc e (lo, hi)) → w'.heap[p.blk]? = some (.cells (setFromA cc (p.off + o) us) e (lo, hi))) : BlkR φ w0 w' p y := by
  have key : ∀ (q : Bool) (n : Nat) (f g : Nat → AV), CellsR φ w0 w p q n f → o + k ≤ n → (∀ j, j < n → g j = if o ≤ j ∧ j < o + k then s.cell (j - o) else f j) → CellsR φ w0 w' p q n g := by
    rintro q n f g ⟨e0, h⟩ hn hg
    refine ⟨e0, h.imp id ?_⟩
    rintro ⟨cc, e, lo, hi, g1, g2, g3, g4, g5⟩
    refine ⟨_, e, lo, hi, hw cc e lo hi g1, by rw [setFromA_size]; exact g2, by rw [setFromA_size]; exact g3, by rw [setFromA_size]; exact g4, fun j hj => ?_⟩
    rw [setFromA_getD us cc (p.off + o) (p.off + j) (by omega), hg j hj]
    by_cases hc : o ≤ j ∧ j < o + k
    · rw [if_pos hc, if_pos (by omega), show p.off + j - (p.off + o) = j - o by omega]
      exact hv _ (by omega)
    · rw [if_neg hc, if_neg (by omega)]
      exact g5 j hj
  unfold copyB at h
  split at h
  · rename_i kk l q k' m
    split at h
    · rename_i hk'; have := of_decide_eq_true hk'; subst this; cases h
      have hm : (m.take k).length = k := by simp [Src.len] at hk ⊢; omega
      have hl' : o + (m.take k).length ≤ l.length := by rw [hm]; exact hl
      have e1 := splice_length l (m.take k) o hl'
      have e2 := fun j => splice_getD 0 l (m.take k) o j hl'
      rw [hm] at e1 e2
      show CellsR φ w0 w' p q _ _
      rw [e1]
      refine key q l.length (fun i => .int kk (l.getD i 0)) _ hx hl (fun j hj => ?_)
      simp only [e2 j]
      by_cases hc : o ≤ j ∧ j < o + k
      · have hjk : j - o < k := by omega
        simp [if_pos hc, Src.cell, List.getD_eq_getElem?_getD, List.getElem?_take, hjk]
      · simp [if_neg hc]
    · cases h
  · rename_i kk l q m pm
    split at h
    · rename_i ns hns
      cases h
      obtain ⟨h1, h2⟩ := intsOf_spec hns
      have hm : ns.length = k := by rw [h1]; simp [Src.len] at hk ⊢; omega
      have hl' : o + ns.length ≤ l.length := by rw [hm]; exact hl
      have e1 := splice_length l ns o hl'
      have e2 := fun j => splice_getD 0 l ns o j hl'
      rw [hm] at e1 e2
      show CellsR φ w0 w' p q _ _
      rw [e1]
      refine key q l.length (fun i => .int kk (l.getD i 0)) _ hx hl (fun j hj => ?_)
      simp only [e2 j]
      by_cases hc : o ≤ j ∧ j < o + k
      · have hjk : j - o < k := by omega
        have := h2 (j - o) (by omega)
        rw [if_pos hc, if_pos hc]
        simp only [Src.cell]
        rw [← this]
        simp [List.getD_eq_getElem?_getD, List.getElem?_take, hjk]
      · simp [if_neg hc]
    · cases h
  · rename_i l q pu m pu'
    cases h
    refine ⟨?_, fun hs v hv => ?_⟩
    case refine_2 =>
      simp only [Bool.and_eq_true] at hs
      rcases List.mem_append.1 hv with e | e
      · rcases List.mem_append.1 e with e | e
        · exact hx.2 hs.1 v (List.mem_of_mem_take e)
        · exact os hs.2 v (List.mem_of_mem_take e)
      · exact hx.2 hs.1 v (List.mem_of_mem_drop e)
    have hm : (m.take k).length = k := by simp [Src.len] at hk ⊢; omega
    have hl' : o + (m.take k).length ≤ l.length := by rw [hm]; exact hl
    have e1 := splice_length l (m.take k) o hl'
    have e2 := fun j => splice_getD AV.nilp l (m.take k) o j hl'
    rw [hm] at e1 e2
    show CellsR φ w0 w' p q _ _
    rw [e1]
    refine key q l.length (fun i => l.getD i .nilp) _ hx.1 hl (fun j hj => ?_)
    simp only [e2 j]
    by_cases hc : o ≤ j ∧ j < o + k
    · have hjk : j - o < k := by omega
      simp [if_pos hc, Src.cell, List.getD_eq_getElem?_getD, List.getElem?_take, hjk]
    · simp [if_neg hc]
  · rename_i l q pu k' m
    cases h
    refine ⟨?_, fun hs v hv => ?_⟩
    case refine_2 =>
      rcases List.mem_append.1 hv with e | e
      · rcases List.mem_append.1 e with e | e
        · exact hx.2 hs v (List.mem_of_mem_take e)
        · obtain ⟨n, _, rfl⟩ := List.mem_map.1 e; rfl
      · exact hx.2 hs v (List.mem_of_mem_drop e)
    have hm : ((m.take k).map (AV.int k')).length = k := by simp [Src.len] at hk ⊢; omega
    have hl' : o + ((m.take k).map (AV.int k')).length ≤ l.length := by rw [hm]; exact hl
    have e1 := splice_length l ((m.take k).map (AV.int k')) o hl'
    have e2 := fun j => splice_getD AV.nilp l ((m.take k).map (AV.int k')) o j hl'
    rw [hm] at e1 e2
    show CellsR φ w0 w' p q _ _
    rw [e1]
    refine key q l.length (fun i => l.getD i .nilp) _ hx.1 hl (fun j hj => ?_)
    simp only [e2 j]
    by_cases hc : o ≤ j ∧ j < o + k
    · have hjk : j - o < k := by omega
      have hjm : j - o < m.length := by simp [Src.len] at hk; omega
      simp [if_pos hc, Src.cell, List.getD_eq_getElem?_getD, List.getElem?_take, hjk, hjm]
    · simp [if_neg hc]
  · cases h

theorem copyB_live {x y : Blk} {s : Src} {o k : Nat} (h : copyB x o s k = some y) : x.live := by
  unfold copyB at h
  split at h <;> first | (cases h; done) | trivial
theorem copyB_cells {x y : Blk} {s : Src} {o k : Nat} (h : copyB x o s k = some y) : (∀ es, x ≠ .map es) ∧ x ≠ .dead := by
  unfold copyB at h
  split at h <;> first | (cases h; done) | exact ⟨by simp, by simp⟩

/-- A source's cell is one cell. -/
theorem src_one {get : Nat → Option Blk} {z : Nat} {v : AV} {s : Src} {n : Nat} {c : List Chk} (h : srcOf get z v = some (s, n, c)) (hc : oks c) : ∀ j, j < s.len → (s.cell j).one = true := by
  unfold srcOf at h
  split at h
  · cases h; intro j hj; simp [Src.len] at hj
  · split at h
    · cases h; intro j hj; rfl
    · cases h
  · split at h
    · cases h; intro j hj; rfl
    · cases h
  · split at h
    · cases h; intro j hj; rfl
    · cases h
      have : allOne _ = true := hc.2.1
      intro j hj
      exact allOne_get this j hj
    · cases h
  · cases h


section
variable {C : Cx} {φ : Phi} {H : Hp} {w0 w : World} {id : Nat} {cs : List Chk}

/-- Where a slice's own memory lies. -/
theorem sl_place (rel : RelH φ H w0 w) {b o n c z : Nat} {u : Value} (hv : RV φ w0 (.sl b o n c z) u) {y : Blk} (hy : look H b = some y) : ∃ p A c', u = .slice A n c' ∧ φ b = some p ∧ n ≤ c ∧ c ≤ c' ∧ (0 < c' → A = some ⟨p.blk, p.off + o, none⟩) ∧ (0 < c' → p.off + o + c' * z ≤ p.size) ∧ BlkR φ w0 w p y := by
  obtain ⟨q, hq, hB⟩ := rel.blk b y hy
  cases hv with
  | sl _ _ _ _ _ p A c' g g0 g1 g2 g3 g4 =>
    rw [hq] at g; cases g
    exact ⟨q, A, c', rfl, hq, g0, g1, g2, g4, hB⟩

theorem copy_sound {P : Program} (rel : RelH φ H w0 w) {t e : TypeId} {ts : Array TypeId} {ty : TypeId} {b o n c z nx : Nat} {x : AV} {ud ux : Value} {y y' : Blk} {sx : Src} {cx : List Chk} (ht : ts[0]? = some t) (hu : P.underlying t = some (.slice e)) (hz : tsize P e = some z)
    (hd : RV φ w0 (.sl b o n c z) ud) (hx : RV φ w0 x ux) (hy : look H b = some y) (hs : srcOf (look H) z x = some (sx, nx, cx)) (hcp : copyB y o sx (Nat.min nx n * z) = some y') (hle : o + n * z ≤ y.len) (hc : oks cx) :
    ∃ w', (Builtin.copy_ ts ty #[ud, ux]).run P w = .ok (.int .i64 (Nat.min nx n : Nat)) w' ∧ RelH φ (H.set b (some y')) w0 w' ∧ Ext φ H w φ (H.set b (some y')) w' := by
  obtain ⟨p, A, c', rfl, hp, g0, g1, g2, g4, hB⟩ := sl_place rel hd hy
  obtain ⟨k1, k2, k3⟩ := srcOf_sound (P := P) rel hx hs hc
  obtain ⟨us, k4, k5⟩ := k3 (Nat.min nx n) (Nat.min_le_left ..)
  have hone := src_one hs hc
  have hok := src_okS rel hs
  have hmn : Nat.min nx n * z ≤ n * z := Nat.mul_le_mul_right z (Nat.min_le_right ..)
  have hmx : Nat.min nx n * z ≤ nx * z := Nat.mul_le_mul_right z (Nat.min_le_left ..)
  by_cases h0 : Nat.min nx n * z = 0
  · have hw : (Builtin.copy_ ts ty #[.slice A n c', ux]).run P w = .ok (.int .i64 (Nat.min nx n : Nat)) w := by
      rw [h0] at k4
      cases A with
      | none => simp [Builtin.copy_, ht, run_underlying hu, k1, run_sizeOf_of hz, k4, goInt]
      | some a => simp [Builtin.copy_, ht, run_underlying hu, k1, run_sizeOf_of hz, k4, goInt, storeCells]
    obtain ⟨r1, r2⟩ := rel.write hy (copyB_live hcp) hp (Wrote.refl _ w) y' (copyB_spec (us := []) hB hcp hok (by omega) (by omega) (by simp [h0]) (fun j hj => by omega) (fun cc e lo hi hh => hh)) (.inr rfl)
    exact ⟨w, hw, r1, r2⟩
  · have hpos : 0 < Nat.min nx n * z := Nat.pos_of_ne_zero h0
    have hn0 : 0 < n := Nat.pos_of_ne_zero fun e => by subst e; simp at hpos
    have hA := g2 (by omega)
    subst hA
    obtain ⟨hnm, hnd⟩ := copyB_cells hcp
    obtain ⟨_, hcells⟩ := hB.cells hnm hnd
    rcases hcells with hcells | ⟨cc, ee, lo, hi, e1, e2, e3, e4, e5⟩
    · omega
    · have hul : (((List.range (Nat.min nx n * z)).map us)).length = Nat.min nx n * z := by simp
      obtain ⟨w', s1, s2, s3⟩ := run_storeCells_of (P := P) ((List.range (Nat.min nx n * z)).map us) (p.off + o) 0 w cc e1 (fun i hi => by omega) (by rw [hul]; omega) (by
        intro v hv
        obtain ⟨j, hj, rfl⟩ := List.mem_map.1 hv
        have hj' : j < Nat.min nx n * z := by simpa using hj
        exact AV.one_value (k5 j hj') (hone j (by omega)))
      have hw : (Builtin.copy_ ts ty #[.slice (some ⟨p.blk, p.off + o, none⟩) n c', ux]).run P w = .ok (.int .i64 (Nat.min nx n : Nat)) w' := by
        simp [Builtin.copy_, ht, run_underlying hu, k1, run_sizeOf_of hz, k4, goInt, s1]
      obtain ⟨r1, r2⟩ := rel.write hy (copyB_live hcp) hp s2 y' (copyB_spec (us := (List.range (Nat.min nx n * z)).map us) hB hcp hok (by omega) (by omega) hul (fun j hj => by
        rw [getD_range_map _ us undef hj]; exact k5 j hj) (fun cc' e' lo' hi' hh => by
        rw [e1] at hh; cases hh; simpa using s3)) (.inl (by omega))
      exact ⟨w', hw, r1, r2⟩

theorem growBy_le (n : Nat) : ∀ (r c : Nat), c ≤ n → Builtin.growBy n r c ≤ n + (n + 768) / 4
  | 0, c, h => by simp [Builtin.growBy]; omega
  | r + 1, c, h => by
    simp only [Builtin.growBy]
    split
    · omega
    · rename_i h1
      by_cases h2 : c + (c + 768) / 4 ≤ n
      · exact growBy_le n r _ h2
      · cases r with
        | zero => simp only [Builtin.growBy]; omega
        | succ r =>
          simp only [Builtin.growBy]
          rw [if_pos (by omega)]; omega

theorem nextcap_le {need cap bytes : Nat} (h : cap < need) (hb : need * bytes ≤ 35184372088832) : Builtin.nextslicecap need cap * bytes ≤ 2 ^ 48 := by
  unfold Builtin.nextslicecap
  split
  · omega
  · split
    · have : 2 * cap * bytes ≤ 2 * (need * bytes) := by
        rw [Nat.mul_assoc]; exact Nat.mul_le_mul_left 2 (Nat.mul_le_mul_right bytes (by omega))
      omega
    · have h1 := growBy_le need 4 cap (by omega)
      have h2 : need + (need + 768) / 4 ≤ 3 * need := by omega
      have h3 : Builtin.growBy need 4 cap * bytes ≤ 3 * need * bytes := Nat.mul_le_mul_right bytes (by omega)
      have h4 : 3 * need * bytes = 3 * (need * bytes) := Nat.mul_assoc 3 need bytes
      omega

end
end Go.Proofs.Ytmdkhdfckdkceaa.TdAm
