/- The abstract machine, part 9: indexes, conversions, copies, appends, built-in functions. -/
import Derived.Test.YtmdkhdfckdkceaaAm8
namespace Go.Proofs.Ytmdkhdfckdkceaa.TdAm
open Go Go.RowKit
set_option linter.unusedVariables false
set_option linter.unusedSimpArgs false

theorem ba_get (s : ByteArray) (j : Nat) (hlt : j < s.size) : s[j]? = some (s.data.toList.getD j 0) := by
  rw [getElem?_pos s j hlt]
  have hlt' : j < s.data.size := hlt
  have : s[j] = s.data[j] := rfl
  rw [this]
  have e : s.data[j]? = some s.data[j] := getElem?_pos s.data j hlt'
  rw [List.getD_eq_getElem?_getD, Array.getElem?_toList, e]; rfl

theorem ba_cells (s : ByteArray) (m : Nat) (hm : m ≤ s.size) : ((s.extract 0 m).data.map fun b => Value.int .u8 b.toNat) = ((List.range (m * 1)).map fun j => Value.int .u8 ((s.data.toList.getD j 0).toNat : Nat)).toArray := by
  apply Array.ext
  · simp [ByteArray.data_extract]; have : m ≤ s.data.size := hm; omega
  · intro j h1 h2
    have hj : j < m := by simpa using h2
    have hs : j < s.data.size := Nat.lt_of_lt_of_le hj hm
    have e : s.data[j]? = some s.data[j] := getElem?_pos s.data j hs
    have e2 : s.data.toList.getD j 0 = s.data[j] := by rw [List.getD_eq_getElem?_getD, Array.getElem?_toList, e]; rfl
    simp only [List.getElem_toArray, List.getElem_map, List.getElem_range, e2, Array.getElem_map]
    simp [ByteArray.data_extract]

theorem ba_list (s : ByteArray) (j : Nat) (hj : j < s.size) : (s.data.toList.map fun b => (b.toNat : Int)).getD j 0 = (s.data.toList.getD j 0).toNat := by
  have hs : j < s.data.size := hj
  have e : s.data[j]? = some s.data[j] := getElem?_pos s.data j hs
  rw [List.getD_eq_getElem?_getD, List.getD_eq_getElem?_getD, List.getElem?_map, Array.getElem?_toList, e]; rfl

section
variable {C : Cx} {φ : Phi} {H : Hp} {w0 w : World} {ev : Operand → Option AV} {ρ : Operand → Value} {id : Nat} {o : Oper} {r : Res} {cs : List Chk}

theorem indexAddr_sound (rel : RelH φ H w0 w) (hev : ∀ x v, ev x = some v → RV φ w0 v (ρ x)) {t : TypeId} {x i : Operand} (ho : o.op = .indexAddr t x i)
    (h : aop C (look H) ev id o = some (r, cs)) (hc : oks cs) : ∃ v u, r = .val v ∧ (execOp ρ o).run C.P w = .ok (.value u) w ∧ RV φ w0 v u := by
  unfold aop at h
  simp only [ho] at h
  split at h
  · rename_i v k j hv hj
    have hvj := hev _ _ hj
    have hva := hev _ _ hv
    have hi : ρ i = .int k j := by generalize ρ i = u at hvj; cases hvj; rfl
    have runS : ∀ (e : TypeId) (a : Addr) (n c z : Nat), C.P.underlying t = some (.slice e) → tsize C.P e = some z → ρ x = .slice (some a) n c → 0 ≤ j → j < n → (execOp ρ o).run C.P w = .ok (.value (.pointer (some (a.add (j.toNat * z))))) w := by
      intro e a n c z hu hz hx h0 h1
      simp [execOp, ho, hi, hx, Instr.indexAt, asIntOf, run_underlying hu, run_sizeOf_of hz, h0, h1]
    have runA : ∀ (e : TypeId) (a : Addr) (n z : Nat), C.P.underlying t = some (.array n e) → tsize C.P e = some z → ρ x = .pointer (some a) → 0 ≤ j → j < n → (execOp ρ o).run C.P w = .ok (.value (.pointer (some (a.add (j.toNat * z))))) w := by
      intro e a n z hu hz hx h0 h1
      simp [execOp, ho, hi, hx, Instr.indexAt, asIntOf, run_underlying hu, run_sizeOf_of hz, h0, h1, Instr.sureAddr]
    split at h
    · rename_i e b o' n c z hu
      split at h
      · rename_i ze hze
        split at h
        · rename_i hz; have := of_decide_eq_true hz; subst this; cases h
          obtain ⟨h0, h1, _⟩ := hc
          generalize hx : ρ x = u at hva
          cases hva with
          | sl _ _ _ _ _ p A c' g g0 g1 g2 g3 g4 =>
            have h1' : j < n := h1
            have h0' : 0 ≤ j := h0
            have hA := g2 (by omega)
            subst hA
            refine ⟨_, _, rfl, runS e _ n c' z hu hze hx h0' h1', ?_⟩
            rw [add_plain', Nat.add_assoc]; exact .ptr _ _ p g
        · cases h
      · cases h
    · rename_i e k' l hu
      split at h
      · rename_i hze
        cases h
        obtain ⟨h0, h1, _⟩ := hc
        have h1' : j < l.length := h1
        have h0' : 0 ≤ j := h0
        generalize hx : ρ x = u at hva
        cases hva with
        | roi _ _ A c g g2 =>
          obtain ⟨a, rfl, hcell⟩ := g2 j.toNat (by omega)
          refine ⟨_, _, rfl, runS e a _ c 1 hu hze hx h0' h1', .roc _ _ (fun _ => .int k' (l.getD j.toNat 0)) (fun q hq => ?_) (fun q hq => ?_)⟩
          · have : q = 0 := by simpa using hq
            subst this; rw [add_add', Nat.mul_one]; exact hcell
          · have : q = 0 := by simpa using hq
            subst this; exact .int _ _
      · cases h
    · rename_i e z n f hu
      split at h
      · rename_i ze hze
        split at h
        · rename_i hz; have := of_decide_eq_true hz; subst this; cases h
          obtain ⟨h0, h1, _⟩ := hc
          have h1' : j < n := h1
          have h0' : 0 ≤ j := h0
          generalize hx : ρ x = u at hva
          cases hva with
          | ros _ _ _ A c us g gz g2 g3 g4 =>
            obtain ⟨a, rfl⟩ := g4 (by omega)
            refine ⟨_, _, rfl, runS e a _ c z hu hze hx h0' h1', .roc _ _ (us j.toNat) (fun q hq => ?_) (fun q hq => ?_)⟩
            · rw [gz _ (by omega)] at hq
              obtain ⟨a', ha', hcell⟩ := g2 j.toNat q (by omega) hq
              cases ha'
              rw [add_add']; exact hcell
            · rw [gz _ (by omega)] at hq
              exact g3 j.toNat q (by omega) hq
        · cases h
      · cases h
    · rename_i n e b o' hu
      split at h
      · rename_i z hz
        cases h
        obtain ⟨h0, h1, _⟩ := hc
        have h1' : j < n := h1
        have h0' : 0 ≤ j := h0
        generalize hx : ρ x = u at hva
        cases hva with
        | ptr _ _ p hp =>
          refine ⟨_, _, rfl, runA e _ n z hu hz hx h0' h1', ?_⟩
          rw [add_plain', Nat.add_assoc]; exact .ptr _ _ p hp
      · cases h
    · rename_i n e b o' hu
      split at h
      · rename_i z hz
        cases h
        obtain ⟨h0, h1, _⟩ := hc
        have h1' : j < n := h1
        have h0' : 0 ≤ j := h0
        generalize hx : ρ x = u at hva
        cases hva with
        | gptr _ _ =>
          refine ⟨_, _, rfl, runA e _ n z hu hz hx h0' h1', ?_⟩
          rw [add_plain']; exact .gptr _ _
      · cases h
    · cases h
  · cases h

theorem index_sound (hev : ∀ x v, ev x = some v → RV φ w0 v (ρ x)) {t : TypeId} {x i : Operand} (ho : o.op = .index t x i)
    (h : aop C (look H) ev id o = some (r, cs)) (hc : oks cs) : ∃ v u, r = .val v ∧ (execOp ρ o).run C.P w = .ok (.value u) w ∧ RV φ w0 v u := by
  unfold aop at h
  simp only [ho] at h
  split at h
  · rename_i v k j hv hj
    have hvj := hev _ _ hj
    have hva := hev _ _ hv
    have hi : ρ i = .int k j := by generalize ρ i = u at hvj; cases hvj; rfl
    split at h
    · rename_i n e vs hu
      split at h
      · rename_i z hz
        split at h
        · rename_i r' hz0 hlen hpart
          cases h
          obtain ⟨h0, h1, _⟩ := hc
          have h1' : j < n := h1
          have h0' : 0 ≤ j := h0
          have hz0' : 0 < z := by simpa [Nat.blt_eq] using hz0
          have hlen' : vs.length = n * z := by simpa using hlen
          generalize hx : ρ x = u at hva
          cases hva with
          | agg _ us g1 g2 =>
            have hb : j.toNat * z + z ≤ vs.length := by
              rw [hlen', ← Nat.succ_mul]
              exact Nat.mul_le_mul_right z (by omega)
            obtain ⟨u, k1, k2⟩ := partA_sound (w := w) (P := C.P) g1 g2 hz hb hz0' hpart
            refine ⟨_, u, rfl, ?_, k2⟩
            simp [execOp, ho, hi, hx, Instr.index, asIntOf, run_underlying hu, run_sizeOf_of hz, h0', h1', k1]
        · cases h
      · cases h
    · rename_i s hu
      cases h
      obtain ⟨h0, h1, _⟩ := hc
      have h1' : j < s.size := h1
      have h0' : 0 ≤ j := h0
      generalize hx : ρ x = u at hva
      cases hva with
      | str _ =>
        have hlt : j.toNat < s.size := by omega
        have hget := ba_get s j.toNat hlt
        refine ⟨_, .int .u8 ((s.data.toList.getD j.toNat 0).toNat : Nat), rfl, ?_, .int _ _⟩
        simp [execOp, ho, hi, hx, Instr.index, asIntOf, run_underlying hu, h0', hget]
    · cases h
  · cases h

end

theorem strOf_foldl (l : List Int) : l.foldl (fun r n => r.push (UInt8.ofNat n.toNat)) ByteArray.empty = strOf l := by
  have h : ∀ (l : List Int) (s : ByteArray), l.foldl (fun r n => r.push (UInt8.ofNat n.toNat)) s = ⟨s.data ++ (l.map fun n => UInt8.ofNat n.toNat).toArray⟩ := by
    intro l
    induction l with
    | nil => intro s; simp
    | cons n r ih => intro s; rw [List.foldl_cons, ih]; simp [ByteArray.push]
  rw [h]; simp [strOf, ByteArray.empty, ByteArray.emptyWithCapacity]; try rfl

theorem srcOf_sound {P : Program} {φ : Phi} {H : Hp} {w0 w : World} (rel : RelH φ H w0 w) {z : Nat} {v : AV} {u : Value} {s : Src} {n : Nat} {c : List Chk} (hv : RV φ w0 v u) (h : srcOf (look H) z v = some (s, n, c)) (hc : oks c) :
    (Builtin.lenOf u).run P w = .ok n w ∧ s.len = n * z ∧ ∀ m, m ≤ n → ∃ us : Nat → Value, (Builtin.firstCells z m u).run P w = .ok ((List.range (m * z)).map us).toArray w ∧ ∀ j, j < m * z → RV φ w0 (s.cell j) (us j) := by
  have old : ∀ a u, w0.cell? a = some u → w.cell? a = some u := fun a u h => (rel.below.cell (World.block_lt_of_cell? w0 a h)).trans h
  have own : ∀ (b o n c' : Nat) (y : Blk) (L : Nat) (f : Nat → AV), look H b = some y → y.len = L → (∀ j, j < L → y.cell j = f j) → RV φ w0 (.sl b o n c' z) u → o + n * z ≤ L →
      (Builtin.lenOf u).run P w = .ok n w ∧ ∀ m, m ≤ n → ∃ us : Nat → Value, (Builtin.firstCells z m u).run P w = .ok ((List.range (m * z)).map us).toArray w ∧ ∀ j, j < m * z → RV φ w0 (f (o + j)) (us j) := by
    intro b o n c' y L f hy hL hf hv hle
    obtain ⟨q, hq, hB⟩ := rel.blk b y hy
    cases hv with
    | sl _ _ _ _ _ p A cap g g0 g1 g2 g3 g4 =>
      rw [hq] at g; cases g
      refine ⟨rfl, fun m hm => ?_⟩
      by_cases hmz : m * z = 0
      · refine ⟨fun _ => undef, ?_, fun j hj => by omega⟩
        cases A with
        | none => simp [Builtin.firstCells, hmz]
        | some a => simp [Builtin.firstCells, hmz, loadCells, loadCellsFrom]
      · have hm0 : 0 < m := Nat.pos_of_ne_zero fun e => hmz (by simp [e])
        have hA := g2 (by omega)
        subst hA
        have hmn : m * z ≤ n * z := Nat.mul_le_mul_right z hm
        have hcell : ∀ j, ∃ u, j < m * z → w.cell? ((⟨q.blk, q.off + o, none⟩ : Addr).add j) = some u ∧ RV φ w0 (f (o + j)) u := by
          intro j
          by_cases hj : j < m * z
          · obtain ⟨_, u, e1, e2, _⟩ := hB.cell (i := o + j) (by omega)
            exact ⟨u, fun _ => ⟨by rw [add_plain', Nat.add_assoc]; exact e1, by rw [← hf (o + j) (by omega)]; exact e2⟩⟩
          · exact ⟨undef, fun e => absurd e hj⟩
        obtain ⟨us, hus⟩ := Classical.axiomOfChoice hcell
        exact ⟨us, by simp only [Builtin.firstCells]; exact run_loadCells w _ _ us (fun j hj => (hus j hj).1), fun j hj => (hus j hj).2⟩
  unfold srcOf at h
  split at h
  · cases h; cases hv
    refine ⟨rfl, by simp [Src.len], fun m hm => ⟨fun _ => undef, ?_, fun j hj => ?_⟩⟩
    · have : m = 0 := by omega
      subst this; simp [Builtin.firstCells]
    · have : m = 0 := by omega
      subst this; simp at hj
  · rename_i k l
    split at h
    · rename_i hz
      cases h
      have hz' : z = 1 := by simpa using hz
      subst hz'
      cases hv with
      | roi _ _ A cap g g2 =>
        refine ⟨rfl, by simp [Src.len], fun m hm => ?_⟩
        by_cases hm0 : m = 0
        · subst hm0
          refine ⟨fun _ => undef, ?_, fun j hj => by omega⟩
          cases A with
          | none => simp [Builtin.firstCells]
          | some a => simp [Builtin.firstCells, loadCells, loadCellsFrom]
        · obtain ⟨a, rfl, _⟩ := g2 0 (by omega)
          refine ⟨fun j => .int k (l.getD j 0), ?_, fun j hj => .int _ _⟩
          simp only [Builtin.firstCells]
          refine run_loadCells w _ _ _ (fun j hj => ?_)
          obtain ⟨a', ha', hcell⟩ := g2 j (by omega)
          cases ha'
          exact old _ _ hcell
    · cases h
  · rename_i s
    split at h
    · rename_i hz
      cases h
      have hz' : z = 1 := by simpa using hz
      subst hz'
      cases hv with
      | str _ =>
        refine ⟨rfl, by simp [Src.len], fun m hm => ⟨fun j => .int .u8 (s.data.toList.getD j 0).toNat, ?_, fun j hj => ?_⟩⟩
        · simp only [Builtin.firstCells, Sem.run_pure]
          rw [ba_cells s m hm]
        · simp only [Src.cell]
          have := ba_list s j (by omega)
          rw [this]; exact .int _ _
    · cases h
  · rename_i b o n' c' z'
    split at h
    · rename_i k l p hz hb
      have hz' : z = z' := by simpa using hz
      subst hz'; cases h
      have hle : o + n * z ≤ l.length := hc.1
      obtain ⟨e1, e2⟩ := own b o n c' _ l.length (fun j => .int k (l.getD j 0)) hb rfl (fun j _ => rfl) hv hle
      refine ⟨e1, by simp [Src.len]; omega, fun m hm => ?_⟩
      obtain ⟨us, g1, g2⟩ := e2 m hm
      refine ⟨us, g1, fun j hj => ?_⟩
      have hmn : m * z ≤ n * z := Nat.mul_le_mul_right z hm
      have : ((l.drop o).take (n * z)).getD j 0 = l.getD (o + j) 0 := by
        have : j < n * z := by omega
        simp [List.getD_eq_getElem?_getD, List.getElem?_take, this, List.getElem?_drop]
      simp only [Src.cell, this]; exact g2 j hj
    · rename_i l p pu hz hb
      have hz' : z = z' := by simpa using hz
      subst hz'; cases h
      have hle : o + n * z ≤ l.length := hc.1
      obtain ⟨e1, e2⟩ := own b o n c' _ l.length (fun j => l.getD j .nilp) hb rfl (fun j _ => rfl) hv hle
      refine ⟨e1, by simp [Src.len]; omega, fun m hm => ?_⟩
      obtain ⟨us, g1, g2⟩ := e2 m hm
      refine ⟨us, g1, fun j hj => ?_⟩
      have hmn : m * z ≤ n * z := Nat.mul_le_mul_right z hm
      have : ((l.drop o).take (n * z)).getD j .nilp = l.getD (o + j) .nilp := by
        have : j < n * z := by omega
        simp [List.getD_eq_getElem?_getD, List.getElem?_take, this, List.getElem?_drop]
      simp only [Src.cell, this]; exact g2 j hj
    · cases h
  · cases h

/-- A source marked as shut is shut. -/
theorem src_okS {φ : Phi} {H : Hp} {w0 w : World} (rel : RelH φ H w0 w) {z : Nat} {v : AV} {s : Src} {n : Nat} {c : List Chk} (h : srcOf (look H) z v = some (s, n, c)) : s.okS := by
  unfold srcOf at h
  split at h
  · cases h; intro _ v hv; simp at hv
  · split at h
    · cases h; trivial
    · cases h
  · split at h
    · cases h; trivial
    · cases h
  · split at h
    · cases h; trivial
    · rename_i hb
      cases h
      obtain ⟨p, _, hB⟩ := rel.blk _ _ hb
      exact fun hs v hv => hB.2 hs v (List.mem_of_mem_drop (List.mem_of_mem_take hv))
    · cases h
  · cases h

end Go.Proofs.Ytmdkhdfckdkceaa.TdAm
