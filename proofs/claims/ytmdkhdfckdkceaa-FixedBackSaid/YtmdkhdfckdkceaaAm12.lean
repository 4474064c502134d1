/- The abstract machine, part 12: append. -/
import Derived.Test.YtmdkhdfckdkceaaAm11
namespace Go.Proofs.Ytmdkhdfckdkceaa.TdAm
open Go Go.RowKit
set_option linter.unusedVariables false
set_option linter.unusedSimpArgs false

theorem RelH.drew {φ : Phi} {H : Hp} {w0 w : World} (rel : RelH φ H w0 w) : RelH φ H w0 w.drew := ⟨rel.below.drew, rel.blk, rel.base, rel.inj, rel.fresh⟩
theorem Ext.drew {φ : Phi} {H : Hp} {w w' : World} {ψ : Phi} {K : Hp} (h : Ext φ H w.drew ψ K w') : Ext φ H w ψ K w' := ⟨h.le, h.size, h.keep, h.new, h.live⟩

section
variable {φ : Phi} {H : Hp} {w0 w : World} {id : Nat}

theorem zeroCells_size (z : Array Value) (n : Nat) : (Builtin.zeroCells z n).size = n * z.size := by simp [Builtin.zeroCells]

/-- An append that moves to a new row. -/
theorem append_grow {P : Program} (rel : RelH φ H w0 w) (hid : look H id = none) (hl : id < H.length) {t t1 e : TypeId} {ty : TypeId} {ie : TypeInfo} {zv : Value} {z n nx cap : Nat} {A : Option Addr} {ux : Value} {ss sx : Src} {y : Blk}
    (hu : P.underlying t = some (.slice e)) (hu1 : (∃ f, P.underlying t1 = some (.slice f)) ∨ P.underlying t1 = some .string) (hie : P.info? e = some ie) (hz : ie.size = z) (hzv : ie.zero = some zv) (hzc : zv.cells.size = z)
    (hb0 : 0 < ie.bytes) (hneed : cap < n + nx) (hb : (n + nx) * ie.bytes ≤ 35184372088832)
    (l1 : (Builtin.lenOf ux).run P w = .ok nx w)
    {uo un : Nat → Value} (f1 : (Builtin.firstCells z n (.slice A n cap)).run P w.drew = .ok ((List.range (n * z)).map uo).toArray w.drew) (f2 : (Builtin.firstCells z nx ux).run P w.drew = .ok ((List.range (nx * z)).map un).toArray w.drew)
    (r1 : ∀ j, j < n * z → RV φ w0 (ss.cell j) (uo j)) (r2 : ∀ j, j < nx * z → RV φ w0 (sx.cell j) (un j)) (hss : ss.len = n * z) (hsx : sx.len = nx * z) (os : ss.okS) (ox : sx.okS) (hj : joinB ss sx = some y) :
    ∃ ψ u w', (Builtin.append_ #[t, t1] ty #[.slice A n cap, ux]).run P w = .ok u w' ∧ RV ψ w0 (.sl id 0 (n + nx) (n + nx) z) u ∧ RelH ψ (H.set id (some y)) w0 w' ∧ Ext φ H w ψ (H.set id (some y)) w' := by
  have hgc : n + nx ≤ grownCap w (n + nx) cap e := by simp [grownCap, Question.cut]
  have hrow : ∃ row, row = ((List.range (n * z)).map uo).toArray ++ ((List.range (nx * z)).map un).toArray ++ Builtin.zeroCells zv.cells (grownCap w (n + nx) cap e - (n + nx)) := ⟨_, rfl⟩
  obtain ⟨row, hrow⟩ := hrow
  have hrs : row.size = grownCap w (n + nx) cap e * z := by
    rw [hrow]
    simp only [Array.size_append, zeroCells_size, hzc, List.size_toArray, List.length_map, List.length_range]
    rw [← Nat.add_mul, ← Nat.add_mul]
    congr 1; omega
  have hrun : (Builtin.append_ #[t, t1] ty #[.slice A n cap, ux]).run P w = .ok (.slice (some ⟨w.heap.size, 0, none⟩) (n + nx) (grownCap w (n + nx) cap e)) (w.drew.alloc (.cells row e)) := by
    subst hz
    have hn : ¬ (n + nx ≤ cap) := by omega
    have hmb : n + nx ≤ (n + nx) * ie.bytes := Nat.le_mul_of_pos_right _ hb0
    have h63' : ¬ (9223372036854775807 < ((n : Int) + (nx : Int))) := by omega
    have h48' : ¬ (281474976710656 < Builtin.nextslicecap (n + nx) cap * ie.bytes) := by
      have := nextcap_le hneed hb; omega
    rcases hu1 with ⟨f, hf⟩ | hf <;>
    · simp [Builtin.append_, run_underlying hu, run_underlying hf, sizeOf, typeInfo, zeroValue, hie, hzv, l1, hn, h63', h48', Question.forced, f1, f2, newRow, grownCap, hrow]
      congr 2
      apply Array.ext'
      simp [List.append_assoc]
  have row_old : ∀ i, i < n * z → row.getD i undef = uo i := by
    intro i h1
    rw [hrow, arr_getD_toList, List.getD_eq_getElem?_getD]
    simp only [Array.toList_append]
    rw [List.append_assoc, List.getElem?_append_left (by simpa using h1)]
    simp [h1]
  have row_new : ∀ i, i < nx * z → row.getD (n * z + i) undef = un i := by
    intro i h1
    rw [hrow, arr_getD_toList, List.getD_eq_getElem?_getD]
    simp only [Array.toList_append]
    rw [List.append_assoc, List.getElem?_append_right (by simp), List.getElem?_append_left (by simpa using h1)]
    simp [h1]
  have hle := PhiLe.with (⟨w.heap.size, 0, row.size, true⟩ : Pl) (rel.fresh id hid)
  obtain ⟨k1, k2⟩ := rel.drew.grow (w' := w.drew.alloc (.cells row e)) ((Below.refl _ _).alloc (Nat.le_refl _) _) hid hl ⟨w.heap.size, 0, row.size, true⟩ y (fun _ => Nat.le_refl _) (joinB_spec hj os ox ⟨rfl, .inr ⟨row, e, 0, 0, heap_alloc_new w.drew _, rfl, (.inl rfl), by
      rw [hss, hsx, hrs, ← Nat.add_mul, Nat.zero_add]; exact Nat.mul_le_mul_right z hgc, fun i hi => by
      rw [hss, hsx] at hi
      rw [Nat.zero_add, hss]
      show RV _ _ (if i < n * z then ss.cell i else sx.cell (i - n * z)) _
      by_cases h1 : i < n * z
      · rw [if_pos h1, row_old i h1]
        exact (r1 i h1).mono hle
      · have h2 : i - n * z < nx * z := by omega
        have := row_new (i - n * z) h2
        rw [show n * z + (i - n * z) = i by omega] at this
        rw [if_neg h1, this]
        exact (r2 (i - n * z) h2).mono hle⟩⟩)
  refine ⟨_, _, _, hrun, ?_, k1, k2.drew⟩
  exact .sl id 0 _ _ z _ _ _ (Phi.with_same _ _ _) (Nat.le_refl _) hgc (fun _ => rfl) (.inl rfl) (fun _ => by simp [hrs])

/-- An append in place. -/
theorem append_room {P : Program} {t t1 e : TypeId} {ty : TypeId} {z n nx cap : Nat} {A : Option Addr} {ux : Value} {un : Nat → Value}
    (hu : P.underlying t = some (.slice e)) (hu1 : (∃ f, P.underlying t1 = some (.slice f)) ∨ P.underlying t1 = some .string) (hz : tsize P e = some z) (hneed : n + nx ≤ cap)
    (l1 : (Builtin.lenOf ux).run P w = .ok nx w) (f2 : (Builtin.firstCells z nx ux).run P w = .ok ((List.range (nx * z)).map un).toArray w) {w' : World}
    (hst : ∀ a, A = some a → (storeCells (a.add (n * z)) ((List.range (nx * z)).map un)).run P w = .ok () w') (hno : A = none → w' = w) :
    (Builtin.append_ #[t, t1] ty #[.slice A n cap, ux]).run P w = .ok (.slice A (n + nx) cap) w' := by
  have hzz := run_sizeOf_of (w := w) hz
  cases A with
  | none =>
    have := hno rfl
    subst this
    rcases hu1 with ⟨f, hf⟩ | hf <;>
    simp [Builtin.append_, run_underlying hu, run_underlying hf, hzz, l1, hneed, f2]
  | some a =>
    have := hst a rfl
    rcases hu1 with ⟨f, hf⟩ | hf <;>
    simp [Builtin.append_, run_underlying hu, run_underlying hf, hzz, l1, hneed, f2, this]


theorem joinB_live {x y : Src} {b : Blk} (h : joinB x y = some b) : b.live := by
  unfold joinB at h
  split at h
  · split at h
    · split at h
      · cases h; trivial
      · cases h
    · split at h
      · cases h; trivial
      · cases h
  · split at h
    · split at h
      · cases h; trivial
      · cases h
    · cases h; trivial

theorem srcOf_sl_inv {get : Nat → Option Blk} {zz b o n c z n' : Nat} {ss : Src} {cs : List Chk} (h : srcOf get zz (.sl b o n c z) = some (ss, n', cs)) (hc : oks cs) :
    zz = z ∧ n' = n ∧ ∃ y0, get b = some y0 ∧ y0.live ∧ (∀ es, y0 ≠ .map es) ∧ y0 ≠ .dead ∧ o + n * z ≤ y0.len ∧ ∀ j, j < n * z → ss.cell j = y0.cell (o + j) := by
  simp only [srcOf] at h
  split at h
  · rename_i k l p hz hb
    have hz' : zz = z := by simpa using hz
    subst hz'
    cases h
    refine ⟨rfl, rfl, _, hb, trivial, by simp, by simp, hc.1, fun j hj => ?_⟩
    simp [Src.cell, Blk.cell, List.getD_eq_getElem?_getD, List.getElem?_take, hj, List.getElem?_drop]
  · rename_i l p pu hz hb
    have hz' : zz = z := by simpa using hz
    subst hz'
    cases h
    refine ⟨rfl, rfl, _, hb, trivial, by simp, by simp, hc.1, fun j hj => ?_⟩
    simp [Src.cell, Blk.cell, List.getD_eq_getElem?_getD, List.getElem?_take, hj, List.getElem?_drop]
  · cases h

/-- In place. -/
theorem append_here {P : Program} (rel : RelH φ H w0 w) (hid : look H id = none) (hl : id < H.length) {t t1 e : TypeId} {ty : TypeId} {x : AV} {ux : Value} {b o n nx c z c' : Nat} {A : Option Addr} {ss sx : Src} {cx : List Chk} {y0 y : Blk} {p : Pl}
    (hu : P.underlying t = some (.slice e)) (hu1 : (∃ f, P.underlying t1 = some (.slice f)) ∨ P.underlying t1 = some .string) (hsz : tsize P e = some z) (hz0 : 0 < z)
    (hx : RV φ w0 x ux) (hsx : srcOf (look H) z x = some (sx, nx, cx)) (hcx : oks cx) (hy0 : look H b = some y0) (hlv0 : y0.live) (hm0 : ∀ es, y0 ≠ .map es) (hd0 : y0 ≠ .dead) (hle0 : o + n * z ≤ y0.len) (hcell0 : ∀ j, j < n * z → ss.cell j = y0.cell (o + j))
    (hss : ss.len = n * z) (hp : φ b = some p) (g0 : n ≤ c) (g1 : c ≤ c') (g2 : 0 < c' → A = some ⟨p.blk, p.off + o, none⟩) (g4 : 0 < c' → p.off + o + c' * z ≤ p.size) (hB : BlkR φ w0 w p y0) (os : ss.okS) (ox : sx.okS) (hy : joinB ss sx = some y) (hroom : n + nx ≤ c') :
    ∃ ψ u w', (Builtin.append_ #[t, t1] ty #[.slice A n c', ux]).run P w = .ok u w' ∧ RV ψ w0 (.sl id 0 (n + nx) (n + nx) z) u ∧ RelH ψ ((H.set b (some .dead)).set id (some y)) w0 w' ∧ Ext φ H w ψ ((H.set b (some .dead)).set id (some y)) w' := by
  obtain ⟨k1, k2, k3⟩ := srcOf_sound (P := P) rel hx hsx hcx
  obtain ⟨un, f1, f2⟩ := k3 nx (Nat.le_refl _)
  by_cases hc0 : c' = 0
  · have hn0 : n = 0 := by omega
    have hx0 : nx = 0 := by omega
    subst hn0; subst hx0; subst hc0
    have hrun := append_room (P := P) (ty := ty) (A := A) (n := 0) (cap := 0) hu hu1 hsz hroom k1 f1 (w' := w) (fun a _ => by simp [storeCells]) (fun _ => rfl)
    obtain ⟨r1, r2⟩ := rel.reuse hy0 hlv0 hp hid hl (Wrote.refl _ w) (.inr rfl) ⟨p.blk, p.off + o, 0, true⟩ rfl (fun h => by simp at h) y (joinB_spec hy os ox ⟨rfl, .inl ⟨by simp at hss k2; omega, rfl⟩⟩)
    exact ⟨_, _, _, hrun, .sl id 0 0 0 _ _ _ 0 (Phi.with_same _ _ _) (Nat.le_refl _) (Nat.le_refl _) (fun h => by omega) (.inr rfl) (fun h => by omega), r1, r2⟩
  · have hA := g2 (by omega)
    subst hA
    have hcells := (hB.cells hm0 hd0).2
    have hg4 := g4 (by omega)
    have hpos : 0 < c' * z := Nat.mul_pos (by omega) hz0
    have hps : 0 < p.size := by omega
    rcases hcells with hcells | ⟨cc, ee, lo, hi, e1, e2, e3, e4, e5⟩
    · omega
    · have hfit : p.off + o + c' * z ≤ cc.size := by rw [e2]; exact hg4
      have hmul : (n + nx) * z ≤ c' * z := Nat.mul_le_mul_right _ hroom
      rw [Nat.add_mul] at hmul
      have hul : ((List.range (nx * z)).map un).length = nx * z := by simp
      obtain ⟨w', t1', t2', t3'⟩ := run_storeCells_of (P := P) ((List.range (nx * z)).map un) (p.off + o + n * z) 0 w cc e1 (fun i hi => by omega) (by rw [hul]; omega) (by
        intro v hv
        obtain ⟨j, hj, rfl⟩ := List.mem_map.1 hv
        have hj' : j < nx * z := by simpa using hj
        exact AV.one_value (f2 j hj') (src_one hsx hcx j (by omega)))
      have hrun := append_room (P := P) (ty := ty) (A := some ⟨p.blk, p.off + o, none⟩) hu hu1 hsz hroom k1 f1 (w' := w') (fun a ha => by cases ha; rw [add_plain']; exact t1') (fun h => by cases h)
      have hle := PhiLe.with (⟨p.blk, p.off + o, p.size, true⟩ : Pl) (rel.fresh id hid)
      have hcr : CellsR (φ.with id ⟨p.blk, p.off + o, p.size, true⟩) w0 w' ⟨p.blk, p.off + o, p.size, true⟩ true (ss.len + sx.len) (fun j => if j < ss.len then ss.cell j else sx.cell (j - ss.len)) := by
        refine ⟨rfl, .inr ⟨_, ee, lo, hi, t3', by rw [setFromA_size]; exact e2, by rw [setFromA_size]; exact e3, ?_, fun i hi => ?_⟩⟩
        · rw [setFromA_size, hss, k2]; show p.off + o + _ ≤ _; omega
        · rw [hss, k2] at hi
          rw [hss, setFromA_getD _ cc _ _ (by rw [hul]; omega), hul]
          show RV _ _ (if i < n * z then ss.cell i else sx.cell (i - n * z)) (if p.off + o + n * z + 0 ≤ p.off + o + i ∧ p.off + o + i < p.off + o + n * z + 0 + nx * z then _ else _)
          by_cases h1 : i < n * z
          · rw [if_pos h1, if_neg (by omega), hcell0 i h1]
            have := e5 (o + i) (by omega)
            rw [← Nat.add_assoc] at this
            exact this.mono hle
          · rw [if_neg h1, if_pos (by omega)]
            show RV _ _ _ (((List.range (nx * z)).map un).getD (p.off + o + i - (p.off + o + n * z + 0)) undef)
            rw [show p.off + o + i - (p.off + o + n * z + 0) = i - n * z by omega, getD_range_map _ un undef (by omega)]
            exact (f2 _ (by omega)).mono hle
      obtain ⟨r1, r2⟩ := rel.reuse hy0 hlv0 hp hid hl t2' (.inl hps) ⟨p.blk, p.off + o, p.size, true⟩ rfl (fun h => h) y (joinB_spec hy os ox hcr)
      exact ⟨_, _, _, hrun, .sl id 0 _ _ _ _ _ _ (Phi.with_same _ _ _) (Nat.le_refl _) hroom (fun _ => rfl) (.inl rfl) (fun _ => hg4), r1, r2⟩

/-- Any append of the abstract machine. -/
theorem aappend_sound {P : Program} (rel : RelH φ H w0 w) (hid : look H id = none) (hl : id < H.length) {t t1 e : TypeId} {ty : TypeId} {s x : AV} {us ux : Value} {r : Res} {cs : List Chk}
    (hu : P.underlying t = some (.slice e)) (hu1 : (∃ f, P.underlying t1 = some (.slice f)) ∨ P.underlying t1 = some .string) (hs : RV φ w0 s us) (hx : RV φ w0 x ux) (h : aappend P (look H) id e s x = some (r, cs)) (hc : oks cs) :
    (∃ v y, r = .new v y ∧ ∃ ψ u w', (Builtin.append_ #[t, t1] ty #[us, ux]).run P w = .ok u w' ∧ RV ψ w0 v u ∧ RelH ψ (H.set id (some y)) w0 w' ∧ Ext φ H w ψ (H.set id (some y)) w') ∨
    (∃ b v y, r = .amb b y v ∧ ∃ ψ u w', (Builtin.append_ #[t, t1] ty #[us, ux]).run P w = .ok u w' ∧ RV ψ w0 v u ∧ RelH ψ ((H.set b (some .dead)).set id (some y)) w0 w' ∧ Ext φ H w ψ ((H.set b (some .dead)).set id (some y)) w') := by
  unfold aappend at h
  split at h
  · rename_i ie ze sx nx cx hie hze hsx
    split at h
    · rename_i q1 q2 q3
      have q1' : ze.cells.length = ie.size := by simpa using q1
      have q2' : 0 < ie.size := by simpa [Nat.blt_eq] using q2
      have q3' : 0 < ie.bytes := by simpa [Nat.blt_eq] using q3
      obtain ⟨zv, hzv, hzr⟩ := tzero_spec hze φ w0
      rw [hie] at hzv
      have hzv' : ie.zero = some zv := hzv
      have hzc : zv.cells.size = ie.size := by rw [hzr.cells.1, q1']
      have hsz : tsize P e = some ie.size := by simp [tsize, hie]
      rw [hie] at hsx
      replace hsx : srcOf (look H) ie.size x = some (sx, nx, cx) := hsx
      split at h
      · split at h
        · rename_i y hy
          cases h
          obtain ⟨hbb, hcx⟩ := hc
          have hbb' : nx * ie.bytes ≤ 35184372088832 := hbb
          cases hs
          obtain ⟨k1, k2, k3⟩ := srcOf_sound (P := P) rel hx hsx hcx
          left
          by_cases h0 : nx = 0
          · -- nothing is appended
            subst h0
            obtain ⟨un, f1, f2⟩ := k3 0 (Nat.le_refl _)
            have hrun := append_room (P := P) (ty := ty) (n := 0) (cap := 0) (A := none) hu hu1 hsz (by omega) k1 f1 (w' := w) (fun a ha => by cases ha) (fun _ => rfl)
            obtain ⟨g1, g2⟩ := rel.grow (Below.refl _ w) hid hl ⟨w.heap.size, 0, 0, true⟩ y (fun h => (Nat.lt_irrefl 0 h).elim) (joinB_spec hy (fun _ v hv => by simp at hv) (src_okS rel hsx) ⟨rfl, .inl ⟨by simp [Src.len] at k2 ⊢; simp [k2, Src.len], rfl⟩⟩)
            exact ⟨_, y, rfl, _, _, _, hrun, .sl id 0 0 0 _ _ _ 0 (Phi.with_same _ _ _) (Nat.le_refl _) (Nat.le_refl _) (fun h => by omega) (.inr rfl) (fun h => by omega), g1, g2⟩
          · obtain ⟨k1', k2', k3'⟩ := srcOf_sound (P := P) rel.drew hx hsx hcx
            obtain ⟨un, f1, f2⟩ := k3' nx (Nat.le_refl _)
            obtain ⟨ψ, u, w', g1, g2, g3, g4⟩ := append_grow (P := P) (ty := ty) (n := 0) (cap := 0) (A := none) (ss := .vals [] true) rel hid hl hu hu1 hie rfl hzv' hzc q3' (by omega) (by rw [Nat.zero_add]; exact hbb') k1 (uo := fun _ => undef) (by simp [Builtin.firstCells]) f1 (fun j hj => by simp at hj) f2 (by simp [Src.len]) k2 (fun _ v hv => by simp at hv) (src_okS rel hsx) hy
            rw [Nat.zero_add] at g2
            exact ⟨_, y, rfl, ψ, u, w', g1, g2, g3, g4⟩
        · cases h
      · rename_i b o n c z
        split at h
        · rename_i ss n' cs' hss
          split at h
          · rename_i y hy
            cases h
            obtain ⟨hbb, hcc⟩ := hc
            have hbb' : (n + nx) * ie.bytes ≤ 35184372088832 := hbb
            obtain ⟨hcs, hcx⟩ := oks_append.1 hcc
            obtain ⟨k1, k2, k3⟩ := srcOf_sound (P := P) rel hx hsx hcx
            obtain ⟨s1, s2, s3⟩ := srcOf_sound (P := P) rel hs hss hcs
            obtain ⟨hz1, hn1, y0, hy0, hlv0, hm0, hd0, hle0, hcell0⟩ := srcOf_sl_inv hss hcs
            subst hn1
            rw [hz1] at hsx k2 s2 hsz
            obtain ⟨p, A, c', rfl, hp, g0, g1, g2, g4, hB⟩ := sl_place rel hs hy0
            right
            refine ⟨b, _, y, rfl, ?_⟩
            rw [hz1]
            by_cases hroom : n' + nx ≤ c'
            · exact append_here rel hid hl hu hu1 hsz (by omega) hx hsx hcx hy0 hlv0 hm0 hd0 hle0 hcell0 s2 hp g0 g1 g2 g4 hB (src_okS rel hss) (src_okS rel hsx) hy hroom
            · -- in a new row
              obtain ⟨dr1, dr2⟩ := rel.drop hy0
              have hidb : id ≠ b := fun e => by rw [e, hy0] at hid; cases hid
              obtain ⟨k1', k2', k3'⟩ := srcOf_sound (P := P) rel.drew hx hsx hcx
              obtain ⟨un, f1, f2⟩ := k3' nx (Nat.le_refl _)
              rw [hz1] at hss
              obtain ⟨s1', s2', s3'⟩ := srcOf_sound (P := P) rel.drew hs hss hcs
              obtain ⟨uo, f3, f4⟩ := s3' n' (Nat.le_refl _)
              obtain ⟨ψ, u, w', m1, m2, m3, m4⟩ := append_grow (P := P) (ty := ty) dr1 (by rw [look_set_ne hidb]; exact hid) (by simpa using hl) hu hu1 hie hz1 hzv' (by rw [hzc, hz1]) q3' (by omega) hbb' k1 f3 f1 f4 f2 s2 k2 (src_okS rel hss) (src_okS rel hsx) hy
              exact ⟨ψ, u, w', m1, m2, m3, dr2.trans m4⟩
          · cases h
        · cases h
      · cases h
    · cases h
  · cases h

end
end Go.Proofs.Ytmdkhdfckdkceaa.TdAm
