/- The abstract machine, part 10: conversions, made rows, copies, appends; any operation. -/
import Derived.Test.YtmdkhdfckdkceaaAm9
namespace Go.Proofs.Ytmdkhdfckdkceaa.TdAm
open Go Go.RowKit
set_option linter.unusedVariables false
set_option linter.unusedSimpArgs false

/-- What an operation's result says of its run. -/
def ResGood (C : Cx) (φ : Phi) (H : Hp) (w0 w : World) (id : Nat) (run : Result Next) : Res → Prop
  | .val v => ∃ u, run = .ok (.value u) w ∧ RV φ w0 v u
  | .new v y => Good φ H w0 w v (H.set id (some y)) run
  | .write b y v => Good φ H w0 w v (H.set b (some y)) run
  | .amb b y v => Good φ H w0 w v ((H.set b (some .dead)).set id (some y)) run
  | .call f args => ∃ us : Array Value, us.size = args.length ∧ (∀ j, j < args.length → RV φ w0 (args.getD j .nilp) (us.getD j undef)) ∧
      ∀ fn c, C.P.funcs[f]? = some fn → fn.body = some c → (fn.name == "runtime.NumGoroutine") = false → run = .ok (.enter f us) w

theorem repl_mem {cs : List AV} {n : Nat} {v : AV} (h : v ∈ repl n cs) : v ∈ cs := by
  induction n with
  | zero => simp [repl] at h
  | succ n ih =>
    simp only [repl, List.mem_append] at h
    exact h.elim id ih

theorem fillBlk_spec {φ : Phi} {w0 w : World} {p : Pl} {z : AV} {n : Nat} (hz : 0 < z.cells.length) (h : CellsR φ w0 w p false (n * z.cells.length) (fun i => z.cells.getD (i % z.cells.length) .nilp)) : BlkR φ w0 w p (fillBlk z n) := by
  obtain ⟨e0, hh⟩ := h
  have gen : BlkR φ w0 w p (.vals (repl n z.cells) false (allShut z.cells)) := by
    refine ⟨?_, fun hs v hm => allShut_mem hs v (repl_mem hm)⟩
    show CellsR φ w0 w p false (repl n z.cells).length _
    rw [repl_length]
    refine ⟨e0, hh.imp id ?_⟩
    rintro ⟨cc, e, lo, hi, g1, g2, g3, g4, g5⟩
    refine ⟨cc, e, lo, hi, g1, g2, g3, g4, fun i hi => ?_⟩
    have := g5 i hi
    show RV φ w0 ((repl n z.cells).getD i .nilp) _
    rw [repl_getD z.cells hz _ i hi]
    exact this
  cases z with
  | int k zn =>
    show CellsR φ w0 w p false (List.replicate n zn).length _
    rw [List.length_replicate]
    simp only [AV.cells, List.length_singleton, Nat.mul_one, Nat.mod_one] at hh
    refine ⟨e0, hh.imp id ?_⟩
    rintro ⟨cc, e, lo, hi, g1, g2, g3, g4, g5⟩
    refine ⟨cc, e, lo, hi, g1, g2, g3, g4, fun i hi => ?_⟩
    have := g5 i hi
    simpa [List.getD_eq_getElem?_getD, List.getElem?_replicate, hi] using this
  | _ => exact gen

theorem wrap_i64_of {n : Int} (h0 : 0 ≤ n) (h1 : n < 9223372036854775808) : IntKind.i64.wrap n = n := by
  rw [IntKind.wrap_i64]; omega

section
variable {C : Cx} {φ : Phi} {H : Hp} {w0 w : World} {ev : Operand → Option AV} {ρ : Operand → Value} {id : Nat} {o : Oper} {r : Res} {cs : List Chk}

theorem run_makeSlice_of {P : Program} {t e : TypeId} {ie : TypeInfo} {z : Value} {k k' : IntKind} {n m : Int} (hu : P.underlying t = some (.slice e)) (hi : P.info? e = some ie) (hz : ie.zero = some z) (hs : 0 < ie.size) (hb : 0 < ie.bytes)
    (h0 : 0 ≤ n) (h1 : n ≤ m) (h2 : m * ie.bytes ≤ 140737488355328) :
    (Instr.makeSlice t (.int k n) (.int k' m)).run P w = .ok (.slice (some ⟨w.heap.size, 0, none⟩) n.toNat m.toNat) (w.alloc (.cells ((Array.range (m.toNat * ie.size)).map fun i => z.cells[i % z.cells.size]!) e)) := by
  have hm : m ≤ 140737488355328 := by
    have hb' : (1 : Int) ≤ ie.bytes := by omega
    have : m * 1 ≤ m * ie.bytes := Int.mul_le_mul_of_nonneg_left hb' (by omega)
    omega
  have e1 := wrap_i64_of (n := n) h0 (by omega)
  have e2 := wrap_i64_of (n := m) (by omega) (by omega)
  have h2' : (ie.bytes : Int) * m ≤ 140737488355328 := by rw [Int.mul_comm]; exact h2
  have c1 : ¬ (m < 0) := by omega
  have c2 : ¬ ((ie.bytes : Int) * m > 281474976710656) := by omega
  have c3 : ¬ (n < 0) := by omega
  have c4 : ¬ (n > m) := by omega
  by_cases hz0 : m.toNat * ie.size = 0
  · have hm0 : m.toNat = 0 := by
      rcases Nat.mul_eq_zero.1 hz0 with h | h
      · exact h
      · omega
    have hr0 : Array.range 0 = #[] := rfl
    simp [Instr.makeSlice, run_underlying hu, asInt, asIntOf, run_typeInfo_of hi, e1, e2, c1, c2, c3, c4, sizeOf, hz0, newRow, hm0, hr0]
  · simp [Instr.makeSlice, run_underlying hu, asInt, asIntOf, run_typeInfo_of hi, e1, e2, c1, c2, c3, c4, sizeOf, hz0, newRow, zeroValue, hz]

theorem makeSlice_sound (rel : RelH φ H w0 w) (hid : look H id = none) (hl : id < H.length) (hev : ∀ x v, ev x = some v → RV φ w0 v (ρ x)) {t : TypeId} {l c : Operand} (ho : o.op = .makeSlice t l c)
    (h : aop C (look H) ev id o = some (r, cs)) (hc : oks cs) : ResGood C φ H w0 w id ((execOp ρ o).run C.P w) r := by
  unfold aop at h
  simp only [ho] at h
  split at h
  · rename_i e k n k' m hu hn hm
    have vn := hev _ _ hn
    have vm := hev _ _ hm
    have rn : ρ l = .int k n := by generalize ρ l = u at vn; cases vn; rfl
    have rm : ρ c = .int k' m := by generalize ρ c = u at vm; cases vm; rfl
    split at h
    · rename_i ie z hie hz
      obtain ⟨zv, hzv, hzr⟩ := tzero_spec hz φ w0
      rw [hie] at hzv
      have hzv' : ie.zero = some zv := hzv
      obtain ⟨c1, c2⟩ := hzr.cells
      have fin : ∀ (y : Blk), 0 < ie.size → 0 < ie.bytes → 0 ≤ n → n ≤ m → m * ie.bytes ≤ 140737488355328 → z.cells.length = ie.size →
          (∀ (ψ : Phi) (w' : World) (p : Pl), PhiLe φ ψ → CellsR ψ w0 w' p false (m.toNat * ie.size) (fun i => z.cells.getD (i % ie.size) .nilp) → BlkR ψ w0 w' p y) →
          Good φ H w0 w (.sl id 0 n.toNat m.toNat ie.size) (H.set id (some y)) ((execOp ρ o).run C.P w) := by
        intro y hs hb h0 h1 h2 hlen hy
        have hle := PhiLe.with (⟨w.heap.size, 0, m.toNat * ie.size, false⟩ : Pl) (rel.fresh id hid)
        have hvsz : zv.cells.size = ie.size := by omega
        obtain ⟨k1, k2⟩ := rel.grow (w' := w.alloc (.cells ((Array.range (m.toNat * ie.size)).map fun i => zv.cells[i % zv.cells.size]!) e)) ((Below.refl _ _).alloc (Nat.le_refl _) _) hid hl ⟨w.heap.size, 0, m.toNat * ie.size, false⟩ y (fun _ => Nat.le_refl _) (hy _ _ _ hle ⟨rfl, .inr ⟨_, e, 0, 0, heap_alloc_new w _, by simp, (.inl rfl), by simp, fun i hi => by
          have hm' : i % ie.size < ie.size := Nat.mod_lt _ hs
          have := c2 (i % ie.size) (by omega)
          have e1 : ((Array.range (m.toNat * ie.size)).map fun i => zv.cells[i % zv.cells.size]!).getD (0 + i) undef = zv.cells.getD (i % ie.size) undef := by
            have hm2 : i % ie.size < zv.cells.size := by omega
            simp [Array.getD, hi, hvsz, getElem!_pos, hm2, hm']
          rw [e1]; exact this.mono hle⟩⟩)
        refine ⟨_, .slice (some ⟨w.heap.size, 0, none⟩) n.toNat m.toNat, _, .inl ?_, ?_, k1, k2⟩
        · simp only [execOp, ho, Sem.run_bind, rn, rm, run_makeSlice_of hu hie hzv' hs hb h0 h1 h2, Result.andThen_ok]
          rfl
        · exact .sl id 0 _ _ _ _ _ _ (Phi.with_same _ _ _) (by omega) (Nat.le_refl _) (fun _ => rfl) (.inr rfl) (fun _ => by simp)
      split at h
      · rename_i hs hb hlen
        cases h
        obtain ⟨q0, q1, q2, _⟩ := hc
        have hlen' : z.cells.length = ie.size := by simpa using hlen
        have hs' : 0 < ie.size := by simpa [Nat.blt_eq] using hs
        exact fin (fillBlk z m.toNat) hs' (by simpa [Nat.blt_eq] using hb) q0 q1 q2 hlen' (fun ψ w' p _ hcell => fillBlk_spec (by omega) (by rw [hlen']; exact hcell))
      · cases h
    · cases h
  · cases h

theorem freeze_wrote (w : World) (a : Addr) (n : Nat) : Wrote a.block w (w.freeze a n) := by
  unfold World.freeze
  split
  · exact Wrote.refl _ _
  · refine ⟨rfl, rfl, rfl, by simp, fun i hi => ?_⟩
    simp only [Array.getElem?_modify]
    rw [if_neg (fun e => hi e.symm)]

/-- The place behind a row's last is marked; the row is as it was. -/
theorem BlkR.marked {φ : Phi} {w0 w : World} {p : Pl} {x : Blk} (h : BlkR φ w0 w p x) (hl : 0 < x.len) : ∃ (e : TypeId) (n : Nat), w.shape? p.blk = some (e, n) ∧ 0 < p.size ∧ BlkR φ w0 (w.freeze ⟨p.blk, n, none⟩ 1) p x := by
  have key : ∀ (o : Bool) (m : Nat) (f : Nat → AV), 0 < m → CellsR φ w0 w p o m f → ∃ (e : TypeId) (n : Nat), w.shape? p.blk = some (e, n) ∧ 0 < p.size ∧ CellsR φ w0 (w.freeze ⟨p.blk, n, none⟩ 1) p o m f := by
    rintro o m f hm ⟨h0, h⟩
    rcases h with h | ⟨cc, e, lo, hi, h1, h2, h3, h4, h5⟩
    · omega
    · refine ⟨e, cc.size, by simp [World.shape?, h1], by omega, h0, .inr ?_⟩
      have hb : (w.freeze ⟨p.blk, cc.size, none⟩ 1).heap[p.blk]? = some (.cells cc e (if lo == hi then (cc.size, cc.size + 1) else (min lo cc.size, max hi (cc.size + 1)))) := by
        simp [World.freeze, Array.getElem?_modify, h1]
      by_cases hlh : lo = hi
      · exact ⟨cc, e, cc.size, cc.size + 1, by rw [hb]; simp [hlh], h2, .inr (Nat.le_refl _), h4, h5⟩
      · exact ⟨cc, e, min lo cc.size, max hi (cc.size + 1), by rw [hb]; simp [hlh], h2, .inr (by omega), h4, h5⟩
  cases x with
  | dead => simp [Blk.len] at hl
  | map es => simp [Blk.len] at hl
  | ints k l o => exact key o l.length _ hl h
  | vals l o pu =>
    obtain ⟨e, n, h1, h2, h3⟩ := key o l.length _ hl h.1
    exact ⟨e, n, h1, h2, h3, h.2⟩

theorem convert_sound (rel : RelH φ H w0 w) (hid : look H id = none) (hl : id < H.length) (hev : ∀ x v, ev x = some v → RV φ w0 v (ρ x)) {s d : TypeId} {x : Operand} (ho : o.op = .convert s d x)
    (h : aop C (look H) ev id o = some (r, cs)) (hc : oks cs) : ResGood C φ H w0 w id ((execOp ρ o).run C.P w) r := by
  unfold aop at h
  simp only [ho] at h
  split at h
  · rename_i k0 k k1 n hs hd hx
    cases h
    have hv := hev _ _ hx
    generalize hrx : ρ x = u at hv
    cases hv
    exact ⟨_, by simp [execOp, ho, hrx, convert, run_underlying hs, run_underlying hd, Conv.intToInt], .int _ _⟩
  · rename_i b hs hd hx
    cases h
    have hv := hev _ _ hx
    generalize hrx : ρ x = u at hv
    cases hv
    exact ⟨_, by simp [execOp, ho, hrx, convert, run_underlying hs, run_underlying hd], .str _⟩
  · rename_i e b hs hd hx
    have hv := hev _ _ hx
    generalize hrx : ρ x = u at hv
    cases hv
    split at h
    · rename_i ie he hie
      split at h
      · rename_i h1 h2
        cases h
        have hle := PhiLe.with (⟨w.heap.size, 0, (Lib.bytesCells w e b).size, true⟩ : Pl) (rel.fresh id hid)
        have hcap : b.size ≤ grownCap w b.size 0 e := by simp [grownCap, Question.cut]
        have hsz : (Lib.bytesCells w e b).size = grownCap w b.size 0 e := by
          have : b.data.size = b.size := rfl
          simp [Lib.bytesCells]; omega
        obtain ⟨k1, k2⟩ := rel.grow (w' := Lib.bytesWorld w e b) ⟨rfl, rfl, rfl, by rw [Lib.bytesWorld_size]; omega, fun k hk => Lib.bytesWorld_at_old w e b k hk⟩ hid hl ⟨w.heap.size, 0, (Lib.bytesCells w e b).size, true⟩
          (.ints .u8 (b.data.toList.map fun c => (c.toNat : Int)) true) (fun _ => Nat.le_refl _) ⟨rfl, .inr ⟨_, e, _, _, Lib.bytesWorld_at_new w e b, rfl, .inr (Nat.le_refl _), by
            have : b.data.size = b.size := rfl
            simp [hsz, this]; exact hcap, fun i hi => by
            have hi' : i < b.size := by simpa using hi
            have hd' : i < b.data.size := hi'
            have e1 := ba_list b i hi'
            have e2 : (Lib.bytesCells w e b).getD (0 + i) undef = .int .u8 ((b.data.toList.getD i 0).toNat : Nat) := by
              have e3 : b.data[i]? = some b.data[i] := getElem?_pos b.data i hd'
              have e4 : b.data.toList.getD i 0 = b.data[i] := by rw [List.getD_eq_getElem?_getD, Array.getElem?_toList, e3]; rfl
              have e5 : (Lib.bytesCells w e b)[i]? = some (.int .u8 (b.data[i].toNat : Nat)) := by
                rw [Lib.bytesCells, Array.getElem?_append_left (by simpa using hd')]
                simp [e3]
              rw [Nat.zero_add, arr_getD_toList, List.getD_eq_getElem?_getD, Array.getElem?_toList, e5, e4]; rfl
            simp only [e1, e2]; exact .int _ _⟩⟩
        refine ⟨_, .slice (some ⟨w.heap.size, 0, none⟩) b.size (grownCap w b.size 0 e), _, .inl ?_, ?_, k1, k2⟩
        · simp [execOp, ho, hrx, Lib.run_convert_string_bytes w s d e b hs hd he]
        · exact .sl id 0 _ _ 1 _ _ _ (Phi.with_same _ _ _) (Nat.le_refl _) hcap (fun _ => rfl) (.inl rfl) (fun _ => by simp [hsz])
      · cases h
    · cases h
  · rename_i e0 e b o' n c z hs hd hx
    have hv := hev _ _ hx
    split at h
    · rename_i y he hsd hy
      cases h
      obtain ⟨hc0, hc1, _⟩ := hc
      have hsd' : s = d := of_decide_eq_true hsd
      subst hsd'
      have hee : e0 = e := by rw [hs] at hd; cases hd; rfl
      subst hee
      obtain ⟨q, hq, hB⟩ := rel.blk b y hy
      have hlen : 0 < y.len := hc1
      have hcc : 0 < c := hc0
      obtain ⟨e1, m, hsh, hps, hB'⟩ := hB.marked hlen
      have hlive : y.live := by cases y <;> first | trivial | (simp [Blk.len] at hlen)
      generalize hrx : ρ x = u at hv
      cases hv with
      | sl _ _ _ _ _ p A c' g h0 h1 h2 h3 h4 =>
        rw [hq] at g; cases g
        have hA := h2 (by omega)
        subst hA
        obtain ⟨k1, k2⟩ := rel.write hy hlive hq (freeze_wrote w ⟨q.blk, m, none⟩ 1) y hB' (.inl hps)
        refine ⟨φ, _, _, .inl ?_, .sl b o' n c z q _ c' hq h0 h1 (fun _ => rfl) h3 h4, k1, k2⟩
        simp [execOp, ho, hrx, convert, run_underlying hs, run_underlying he, markStringish, hsh]
    · cases h
  · rename_i e v hs hd hx
    have hv := hev _ _ hx
    have fin : ∀ (l : List Int) (src : Src) (n' : Nat) (c' : List Chk), C.P.underlying e = some (.int .u8) → v.isSlice = true → srcOf (look H) 1 v = some (src, n', c') → oks c' → src.len = l.length → (∀ j, j < l.length → src.cell j = .int .u8 (l.getD j 0)) →
        (execOp ρ o).run C.P w = .ok (.value (.string (strOf l))) w := by
      intro l src n' c' he hsl hsrc hc hlen hcell
      obtain ⟨g1, g2, g3⟩ := srcOf_sound (P := C.P) rel hv hsrc hc
      obtain ⟨us, g4, g5⟩ := g3 n' (Nat.le_refl _)
      rw [Nat.mul_one] at g4 g5
      have hlen' : l.length = n' := by omega
      have hcs : ((List.range n').map us).toArray = (l.map (Value.int .u8)).toArray := by
        congr 1
        apply List.ext_getElem
        · simp [hlen']
        · intro j h1 h2
          have hj : j < n' := by simpa using h1
          have := g5 j hj
          simp only [List.getElem_map, List.getElem_range]
          have hjl : j < l.length := by omega
          have e1 : l.getD j 0 = l[j] := by simp [List.getD_eq_getElem?_getD, hjl]
          rw [hcell j hjl, e1] at this
          generalize us j = q at this
          cases this; rfl
      rw [hcs] at g4
      have hA : ∃ A n cap, ρ x = .slice A n cap := by
        cases v <;> first | (simp [AV.isSlice] at hsl; done) | (generalize ρ x = u at hv; cases hv; exact ⟨_, _, _, rfl⟩)
      obtain ⟨A, n, cap, hA⟩ := hA
      rw [hA] at g1 g4
      have hn : n = n' := by simpa [Builtin.lenOf] using g1
      subst hn
      cases A with
      | none =>
        have hl0 : l = [] := by
          have : (Builtin.firstCells 1 n (.slice none n cap)).run C.P w = .ok #[] w := rfl
          rw [this] at g4
          have e := (Result.ok.inj g4).1
          have : (l.map (Value.int .u8)).toArray.size = 0 := by rw [← e]; rfl
          simpa using this
        subst hl0
        have hbs : strOf [] = ByteArray.empty := rfl
        simp [execOp, ho, hA, run_convert_bytes_string w s d e none n cap hs he hd, Conv.bytesToString, hbs]
      | some a =>
        have g4' : (loadCells a n).run C.P w = .ok (l.map (Value.int .u8)).toArray w := by
          have : (Builtin.firstCells 1 n (.slice (some a) n cap)) = loadCells a (n * 1) := rfl
          rw [this, Nat.mul_one] at g4; exact g4
        have := run_bytesToString w a n cap l g4'
        rw [strOf_foldl] at this
        simp [execOp, ho, hA, run_convert_bytes_string w s d e (some a) n cap hs he hd, this]
    split at h
    · rename_i l n' c' he hsl hsrc
      cases h
      exact ⟨_, fin l _ n' _ he hsl hsrc hc rfl (fun _ _ => rfl), .str _⟩
    · rename_i n' c' he hsl hsrc
      cases h
      exact ⟨_, fin [] _ n' _ he hsl hsrc hc rfl (fun j hj => absurd hj (by simp)), .str _⟩
    · cases h
  · cases h

end
end Go.Proofs.Ytmdkhdfckdkceaa.TdAm
