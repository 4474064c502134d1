/- The abstract machine, part 6: operations that only read or reckon. -/
import Derived.Test.YtmdkhdfckdkceaaAm5
import Derived.Laws.StructEq
namespace Go.Proofs.Ytmdkhdfckdkceaa.TdAm
open Go Go.RowKit
set_option linter.unusedVariables false
set_option linter.unusedSimpArgs false

/-- A part of a value's cells. -/
theorem partA_sound {φ : Phi} {w0 w : World} {P : Program} {t : TypeId} {vs : List AV} {us : Array Value} {off z : Nat} {v : AV} (h1 : us.size = vs.length) (h2 : ∀ j, j < vs.length → RV φ w0 (vs.getD j .nilp) (us.getD j undef))
    (hz : tsize P t = some z) (hl : off + z ≤ vs.length) (hz0 : 0 < z) (h : partA P t vs off = some v) : ∃ u, (part t us off).run P w = .ok u w ∧ RV φ w0 v u := by
  unfold partA at h
  split at h
  · rename_i z' hg hz'
    rw [hz] at hz'; cases hz'
    cases h
    refine ⟨.agg (us.extract off (off + z)), by simp [part, run_isAgg_of hg, run_sizeOf_of hz], .agg _ _ (by simp; omega) fun j hj => ?_⟩
    have hj' : j < z := by simp at hj; omega
    have := h2 (off + j) (by omega)
    have e1 : (us.extract off (off + z)).getD j undef = us.getD (off + j) undef := by
      have e2 : off + j < us.size := by omega
      have e3 : j < (us.extract off (off + z)).size := by simp; omega
      have e5 : (us.extract off (off + z))[j]'e3 = us[off + j]'e2 := Array.getElem_extract ..
      simp only [Array.getD, e2, e3, dif_pos]
      exact e5
    rw [e1]
    have e4 : (List.take z (List.drop off vs)).getD j .nilp = vs.getD (off + j) .nilp := by
      simp [List.getD_eq_getElem?_getD, List.getElem?_take, hj', List.getElem?_drop]
    rw [e4]; exact this
  · rename_i z' hg hz'
    cases h
    have e2 : off < us.size := by omega
    refine ⟨us.getD off undef, ?_, h2 off (by omega)⟩
    simp [part, run_isAgg_of hg, e2, Array.getD]
  · cases h


theorem partC_sound {φ : Phi} {w0 w : World} {P : Program} {t : TypeId} {vs : List AV} {us : Array Value} {off : Nat} {v : AV} (h1 : us.size = vs.length) (h2 : ∀ j, j < vs.length → RV φ w0 (vs.getD j .nilp) (us.getD j undef))
    (h : partC P t vs off = some v) : ∃ u, (part t us off).run P w = .ok u w ∧ RV φ w0 v u := by
  unfold partC at h
  split at h
  · rename_i z hz
    split at h
    · rename_i hle hz0
      exact partA_sound h1 h2 hz (by simpa using hle) (by simpa [Nat.blt_eq] using hz0) h
    · cases h
  · cases h

/-- '==' of arrays, element by element. -/
def eqElems (d : Nat) (e : TypeId) (z : Nat) (xs ys : Array Value) : List Nat → Sem Bool
  | [] => pure true
  | i :: r => do
    let a ← part e xs (i * z)
    let b ← part e ys (i * z)
    let q ← Op.equalIn d e a b
    if (!q) = true then pure false else eqElems d e z xs ys r

theorem run_equalIn_array {P : Program} (w : World) (d : Nat) (t e : TypeId) (n z : Nat) (xs ys : Array Value) (ht : P.underlying t = some (.array n e)) (hz : tsize P e = some z) :
    (Op.equalIn (d + 1) t (.agg xs) (.agg ys)).run P w = (eqElems d e z xs ys (List.range n)).run P w := by
  simp only [Op.equalIn, Sem.run_bind, run_underlying ht, Result.andThen_ok, run_sizeOf_of hz]
  rw [Std.Legacy.Range.forIn_eq_forIn_range']
  have hr : List.range' 0 (Std.Legacy.Range.size ⟨0, n, 1, by decide⟩) 1 = List.range n := by
    simp [Std.Legacy.Range.size, List.range_eq_range']
  simp only [hr]
  generalize List.range n = is
  clear ht
  induction is generalizing w with
  | nil => simp [eqElems]
  | cons i is ih =>
    simp only [List.forIn_cons, eqElems, Sem.run_bind, Sem.run_ite]
    generalize (part e xs (i * z)).run P w = r1
    cases r1 with
    | ok a w1 =>
      simp only [Result.andThen_ok]
      generalize (part e ys (i * z)).run P w1 = r2
      cases r2 with
      | ok b w2 =>
        simp only [Result.andThen_ok]
        generalize (Op.equalIn d e a b).run P w2 = r3
        cases r3 with
        | ok r w3 =>
          cases r
          · simp only [Result.andThen_ok, Bool.not_false, if_true, Sem.run_pure]
          · simp only [Result.andThen_ok, Bool.not_true, Bool.false_eq_true, if_false, Sem.run_pure]
            exact ih w3
        | halt x w3 => simp [Result.andThen]
      | halt x w2 => simp [Result.andThen]
    | halt x w1 => simp [Result.andThen]

theorem eqA_sound {P : Program} {φ : Phi} {w0 w : World} : ∀ (d : Nat) (t : TypeId) (x y : AV) (a b : Value) (r : Bool), eqA P d t x y = some r → RV φ w0 x a → RV φ w0 y b → ∀ m, d ≤ m → (Op.equalIn m t a b).run P w = .ok r w := by
  intro d
  induction d with
  | zero => intro t x y a b r h; cases h
  | succ d ih =>
    intro t x y a b r h ha hb m hm
    obtain ⟨m, rfl⟩ : ∃ k, m = k + 1 := ⟨m - 1, by omega⟩
    unfold eqA at h
    split at h
    · rename_i k0 k a' k' b' hu
      split at h
      · rename_i hk; have hk' := of_decide_eq_true hk; subst hk'; cases h
        cases ha; cases hb
        rw [run_equalIn_int w m t k k0 a' b' hu]; rfl
      · cases h
    · rename_i a' b' hu; cases h; cases ha; cases hb
      rw [run_equalIn_bool' w m t a' b' hu]
    · rename_i a' b' hu; cases h; cases ha; cases hb
      rw [run_equalIn_string w m t a' b' hu]
    · rename_i e hu; cases h; cases ha; cases hb; simp [Op.equalIn, run_underlying hu]
    · rename_i e _ _ hu; cases h; cases ha; cases hb; simp [Op.equalIn, run_underlying hu]
    · rename_i e _ _ hu; cases h; cases ha; cases hb; simp [Op.equalIn, run_underlying hu]
    · rename_i e _ _ hu; cases h; cases ha; cases hb; simp [Op.equalIn, run_underlying hu]
    · rename_i e _ hu; cases h; cases ha; cases hb; simp [Op.equalIn, run_underlying hu]
    · rename_i e hu; cases h; cases ha; cases hb; simp [Op.equalIn, run_underlying hu]
    · rename_i e _ hu; cases h; cases ha; cases hb; simp [Op.equalIn, run_underlying hu]
    · rename_i e _ _ hu; cases h; cases ha; cases hb; simp [Op.equalIn, run_underlying hu]
    · rename_i e _ _ hu; cases h; cases ha; cases hb; simp [Op.equalIn, run_underlying hu]
    · rename_i e _ _ hu; cases h; cases ha; cases hb; simp [Op.equalIn, run_underlying hu]
    · rename_i e _ _ _ _ hu; cases h; cases ha; cases hb; simp [Op.equalIn, run_underlying hu]
    · rename_i e _ _ _ _ hu; cases h; cases ha; cases hb; simp [Op.equalIn, run_underlying hu]
    · rename_i fs xs ys hu
      split at h
      · rename_i hst
        cases ha with
        | agg _ us h1 h2 =>
          cases hb with
          | agg _ vs g1 g2 =>
            have hf : P.fieldsOf t = fs := by simp [Program.fieldsOf, hu]
            rw [run_equalIn_struct (P := P) w m t us vs (by rw [hf]; exact hu) hst, hf]
            clear hf hu
            generalize fs.toList = l at h
            induction l generalizing r with
            | nil => cases h; simp [Op.eqFields]
            | cons f l ihl =>
              simp only [eqFs] at h
              split at h
              · rename_i hn
                have hn' : f.name ≠ "_" := by simpa using hn
                split at h
                · rename_i p q hp hq
                  split at h
                  · rename_i r1 s hr1 hs
                    cases h
                    obtain ⟨u1, k1, k2⟩ := partC_sound (w := w) h1 h2 hp
                    obtain ⟨u2, k3, k4⟩ := partC_sound (w := w) g1 g2 hq
                    have := ih f.type p q u1 u2 r1 hr1 k2 k4 m (by omega)
                    simp only [Op.eqFields, if_pos hn', Sem.run_bind, k1, k3, this, Result.andThen_ok]
                    cases r1
                    · simp
                    · simpa using ihl s hs
                  · cases h
                · cases h
              · rename_i hn
                have hn' : ¬ (f.name ≠ "_") := by simpa using hn
                rw [Op.eqFields, if_neg hn']
                exact ihl r h
      · cases h
    · rename_i n e xs ys hu
      split at h
      · rename_i z hz
        cases ha with
        | agg _ us h1 h2 =>
          cases hb with
          | agg _ vs g1 g2 =>
            rw [run_equalIn_array w m t e n z us vs hu hz, List.range_eq_range']
            clear hu
            generalize 0 = i at h
            induction n generalizing r i with
            | zero => cases h; simp [eqElems]
            | succ n ihn =>
              simp only [eqEs] at h
              split at h
              · rename_i p q hp hq
                split at h
                · rename_i r1 s hr1 hs
                  cases h
                  obtain ⟨u1, k1, k2⟩ := partC_sound (w := w) h1 h2 hp
                  obtain ⟨u2, k3, k4⟩ := partC_sound (w := w) g1 g2 hq
                  have := ih e p q u1 u2 r1 hr1 k2 k4 m (by omega)
                  rw [List.range'_succ]
                  simp only [eqElems, Sem.run_bind, k1, k3, this, Result.andThen_ok]
                  cases r1
                  · simp
                  · simpa using ihn s (i + 1) hs
                · cases h
              · cases h
      · cases h
    · cases h

theorem eqGuard_plain {P : Program} {φ : Phi} {w0 w : World} {op : BinOp} {t : TypeId} {X Y : Operand} {x : AV} {a b : Value} (hx : RV φ w0 x a) (hn : ∀ cs, x ≠ .agg cs) : (eqGuard op t X Y a b).run P w = .ok () w := by
  cases hx with
  | agg cs _ _ _ => exact absurd rfl (hn cs)
  | _ => simp [eqGuard_at_int, eqGuard_at_bool, eqGuard_at_string, eqGuard_at_pointer, eqGuard_at_slice, eqGuard_at_map, eqGuard_at_func, eqGuard_at_nilFunc, eqGuard_at_tuple]

theorem binOp_plain {P : Program} {φ : Phi} {w0 : World} {t : TypeId} {x y : AV} {a b : Value} {r : Bool} (h : eqA P 8 t x y = some r) (hx : RV φ w0 x a) (hy : RV φ w0 y b)
    (h1 : ∀ k m l n, ¬ (x = .int k m ∧ y = .int l n)) (h2 : ∀ s1 s2, ¬ (x = .str s1 ∧ y = .str s2)) (h3 : ∀ xs ys, ¬ (x = .agg xs ∧ y = .agg ys)) :
    binOp .eql t a b = (do pure (.bool (← Op.equal t a b))) ∧ binOp .neq t a b = (do pure (.bool (!(← Op.equal t a b)))) ∧ ∀ cs, x ≠ .agg cs := by
  unfold eqA at h
  split at h
  · exact absurd ⟨rfl, rfl⟩ (h1 _ _ _ _)
  · cases hx; cases hy; exact ⟨rfl, rfl, by simp⟩
  · exact absurd ⟨rfl, rfl⟩ (h2 _ _)
  · cases hx; cases hy; exact ⟨rfl, rfl, by simp⟩
  · cases hx; cases hy; exact ⟨rfl, rfl, by simp⟩
  · cases hx; cases hy; exact ⟨rfl, rfl, by simp⟩
  · cases hx; cases hy; exact ⟨rfl, rfl, by simp⟩
  · cases hx; cases hy; exact ⟨rfl, rfl, by simp⟩
  · cases hx; cases hy; exact ⟨rfl, rfl, by simp⟩
  · cases hx; cases hy; exact ⟨rfl, rfl, by simp⟩
  · cases hx; cases hy; exact ⟨rfl, rfl, by simp⟩
  · cases hx; cases hy; exact ⟨rfl, rfl, by simp⟩
  · cases hx; cases hy; exact ⟨rfl, rfl, by simp⟩
  · cases hx; cases hy; exact ⟨rfl, rfl, by simp⟩
  · cases hx; cases hy; exact ⟨rfl, rfl, by simp⟩
  · exact absurd ⟨rfl, rfl⟩ (h3 _ _)
  · exact absurd ⟨rfl, rfl⟩ (h3 _ _)
  · cases h

theorem abin_sound {P : Program} {φ : Phi} {w0 w : World} {op : BinOp} {t : TypeId} {X Y : Operand} {x y v : AV} {a b : Value} {cs : List Chk} (hx : RV φ w0 x a) (hy : RV φ w0 y b) (h : abin P t op x y = some (v, cs)) (hc : oks cs) :
    ∃ u, (do eqGuard op t X Y a b; binOp op t a b : Sem Value).run P w = .ok u w ∧ RV φ w0 v u := by
  unfold abin at h
  split at h
  · rename_i k a' k2 b'; cases h; cases hx; cases hy
    have h0 : 0 ≤ b' := hc.1
    have hn : ¬ b' < 0 := by omega
    exact ⟨_, by simp [eqGuard_at_int, binOp_shl, Op.shift, hn], .int _ _⟩
  · rename_i k a' k2 b'; cases h; cases hx; cases hy
    have h0 : 0 ≤ b' := hc.1
    have hn : ¬ b' < 0 := by omega
    exact ⟨_, by simp [eqGuard_at_int, binOp_shr, Op.shift, hn], .int _ _⟩
  · rename_i op k a' k' b' _ _
    cases hx; cases hy
    split at h
    · rename_i hk
      have hk' := of_decide_eq_true hk
      subst hk'
      unfold aint at h
      split at h <;> try (cases h; done)
      all_goals cases h
      · exact ⟨_, by simp [eqGuard_at_int, binOp_add, Op.intArith], .int _ _⟩
      · exact ⟨_, by simp [eqGuard_at_int, binOp_sub, Op.intArith], .int _ _⟩
      · exact ⟨_, by simp [eqGuard_at_int, binOp_mul, Op.intArith], .int _ _⟩
      · have h0 : b' ≠ 0 := hc.1
        exact ⟨_, by simp [eqGuard_at_int, binOp_quo, Op.intDiv, h0], .int _ _⟩
      · have h0 : b' ≠ 0 := hc.1
        exact ⟨_, by simp [eqGuard_at_int, binOp_rem, Op.intDiv, h0], .int _ _⟩
      · exact ⟨_, by simp [eqGuard_at_int, binOp_and, intBits_and], .int _ _⟩
      · exact ⟨_, by simp [eqGuard_at_int, binOp_or, intBits_or], .int _ _⟩
      · exact ⟨_, by simp [eqGuard_at_int, binOp_xor, intBits_xor], .int _ _⟩
      · exact ⟨_, by simp [eqGuard_at_int, binOp_andNot, intBits_andNot], .int _ _⟩
      · exact ⟨.bool (a' == b'), by simp [eqGuard_at_int, binOp_eql], .bool _⟩
      · exact ⟨.bool (a' != b'), by simp [eqGuard_at_int, binOp_neq], .bool _⟩
      · exact ⟨_, by simp [eqGuard_at_int, binOp_lss], .bool _⟩
      · exact ⟨_, by simp [eqGuard_at_int, binOp_leq], .bool _⟩
      · exact ⟨_, by simp [eqGuard_at_int, binOp_gtr], .bool _⟩
      · exact ⟨_, by simp [eqGuard_at_int, binOp_geq], .bool _⟩
    · cases h
  · rename_i a' b'; cases h; cases hx; cases hy
    have h0 : a'.size + b'.size ≤ 9223372036854775807 := hc.1
    have hn : ¬ ((a'.size : Int) + (b'.size : Int) > 9223372036854775807) := by omega
    exact ⟨.string (a' ++ b'), by simp [eqGuard_at_string, binOp, Op.stringOp, hn], .str _⟩
  · rename_i a' b'; cases h; cases hx; cases hy
    exact ⟨_, by simp [eqGuard_at_string, binOp, Op.stringOp], .bool _⟩
  · rename_i a' b'; cases h; cases hx; cases hy
    exact ⟨_, by simp [eqGuard_at_string, binOp, Op.stringOp], .bool _⟩
  · rename_i xs ys
    split at h
    · rename_i r hg he
      cases h
      have := eqA_sound (w := w) 8 t _ _ a b r he hx hy 10000 (by omega)
      cases hx with
      | agg _ us h1 h2 =>
        cases hy with
        | agg _ vs g1 g2 =>
          exact ⟨.bool r, by simp [run_eqGuard_agg w .eql t X Y us vs hg, run_eql_struct, this], .bool _⟩
    · cases h
  · rename_i xs ys
    split at h
    · rename_i r hg he
      cases h
      have := eqA_sound (w := w) 8 t _ _ a b r he hx hy 10000 (by omega)
      cases hx with
      | agg _ us h1 h2 =>
        cases hy with
        | agg _ vs g1 g2 =>
          exact ⟨.bool (!r), by simp [run_eqGuard_agg w .neq t X Y us vs hg, run_neq_struct, this], .bool _⟩
    · cases h
  · rename_i hn0 hn1 hn2
    split at h
    · rename_i r he
      cases h
      have key := eqA_sound (w := w) 8 t _ _ a b r he hx hy 10000 (by omega)
      have hb := binOp_plain he hx hy (fun k m l n e => hn0 k m l n e.1 e.2) (fun s1 s2 e => hn1 s1 s2 e.1 e.2) (fun xs ys e => hn2 xs ys e.1 e.2)
      exact ⟨.bool r, by rw [Sem.run_bind, eqGuard_plain hx hb.2.2]; simp [hb.1, Op.equal, Op.maxDepth, key], .bool _⟩
    · cases h
  · rename_i hn0 hn1 hn2
    split at h
    · rename_i r he
      cases h
      have key := eqA_sound (w := w) 8 t _ _ a b r he hx hy 10000 (by omega)
      have hb := binOp_plain he hx hy (fun k m l n e => hn0 k m l n e.1 e.2) (fun s1 s2 e => hn1 s1 s2 e.1 e.2) (fun xs ys e => hn2 xs ys e.1 e.2)
      exact ⟨.bool (!r), by rw [Sem.run_bind, eqGuard_plain hx hb.2.2]; simp [hb.2.1, Op.equal, Op.maxDepth, key], .bool _⟩
    · cases h
  · cases h

section
variable {C : Cx} {φ : Phi} {H : Hp} {w0 w : World} {ev : Operand → Option AV} {ρ : Operand → Value} {id : Nat} {o : Oper} {r : Res} {cs : List Chk}

theorem move_sound (hev : ∀ x v, ev x = some v → RV φ w0 v (ρ x)) {x : Operand} (ho : o.op = .move x ∨ o.op = .assign x)
    (h : aop C (look H) ev id o = some (r, cs)) : ∃ v u, r = .val v ∧ (execOp ρ o).run C.P w = .ok (.value u) w ∧ RV φ w0 v u := by
  have hr : (execOp ρ o).run C.P w = .ok (.value (ρ x)) w := by rcases ho with ho | ho <;> simp [execOp, ho]
  unfold aop at h
  rcases ho with ho | ho <;>
  · simp only [ho] at h
    split at h
    · rename_i v hv; cases h; exact ⟨v, _, rfl, hr, hev _ _ hv⟩
    · cases h

theorem nilCheck_sound (hev : ∀ x v, ev x = some v → RV φ w0 v (ρ x)) {x : Operand} (ho : o.op = .nilCheck x)
    (h : aop C (look H) ev id o = some (r, cs)) : ∃ v u, r = .val v ∧ (execOp ρ o).run C.P w = .ok (.value u) w ∧ RV φ w0 v u := by
  unfold aop at h
  simp only [ho] at h
  split at h
  · rename_i b i hb
    cases h
    have hv := hev _ _ hb
    generalize hrho : ρ x = rx at hv
    cases hv with
    | ptr _ _ p hp => exact ⟨_, _, rfl, by simp [execOp, ho, hrho], .ptr _ _ p hp⟩
  · rename_i b i hb
    cases h
    have hv := hev _ _ hb
    generalize hrho : ρ x = rx at hv
    cases hv with
    | gptr _ _ => exact ⟨_, _, rfl, by simp [execOp, ho, hrho], .gptr _ _⟩
  · rename_i b hb
    cases h
    have hv := hev _ _ hb
    generalize hrho : ρ x = rx at hv
    cases hv with
    | roc _ a us h1 h2 => exact ⟨_, _, rfl, by simp [execOp, ho, hrho], .roc _ a us h1 h2⟩
  · rename_i f cs' hb
    cases h
    have hv := hev _ _ hb
    generalize hrho : ρ x = rx at hv
    cases hv with
    | fn _ _ us h1 h2 => exact ⟨_, _, rfl, by simp [execOp, ho, hrho], .fn _ _ us h1 h2⟩
  · cases h

theorem unOp_sound (hev : ∀ x v, ev x = some v → RV φ w0 v (ρ x)) {op : UnOp} {t : TypeId} {x : Operand} (ho : o.op = .unOp op t x)
    (h : aop C (look H) ev id o = some (r, cs)) : ∃ v u, r = .val v ∧ (execOp ρ o).run C.P w = .ok (.value u) w ∧ RV φ w0 v u := by
  unfold aop at h
  simp only [ho] at h
  split at h
  · rename_i k n hb
    cases h
    have hv := hev _ _ hb
    generalize hrho : ρ x = rx at hv
    cases hv with
    | int _ _ => exact ⟨_, _, rfl, by simp [execOp, ho, hrho, Op.unary, Op.intArith], .int _ _⟩
  · rename_i k n hb
    cases h
    have hv := hev _ _ hb
    generalize hrho : ρ x = rx at hv
    cases hv with
    | int _ _ => exact ⟨_, _, rfl, by simp [execOp, ho, hrho, Op.unary, intBits_xor], .int _ _⟩
  · rename_i b hb
    cases h
    have hv := hev _ _ hb
    generalize hrho : ρ x = rx at hv
    cases hv with
    | bool _ => exact ⟨_, _, rfl, by simp [execOp, ho, hrho, Op.unary], .bool _⟩
  · cases h

theorem fieldAddr_sound (hev : ∀ x v, ev x = some v → RV φ w0 v (ρ x)) {s : TypeId} {f : Nat} {x : Operand} (ho : o.op = .fieldAddr s x f)
    (h : aop C (look H) ev id o = some (r, cs)) : ∃ v u, r = .val v ∧ (execOp ρ o).run C.P w = .ok (.value u) w ∧ RV φ w0 v u := by
  unfold aop at h
  simp only [ho] at h
  split at h
  · rename_i v fd hb hfd
    have hv := hev _ _ hb
    have hfs : ∃ fs, C.P.underlying s = some (.struct fs) ∧ fs[f]? = some fd := by
      unfold fieldAt at hfd
      split at hfd
      · rename_i fs hfs; exact ⟨fs, hfs, hfd⟩
      · cases hfd
    obtain ⟨fs, hfs, hfd'⟩ := hfs
    split at h
    · rename_i z hz
      have run : ∀ a : Addr, ρ x = .pointer (some a) → 0 < z → (execOp ρ o).run C.P w = .ok (.value (.pointer (some (a.add fd.offset)))) w := by
        intro a ha hz0
        have hne : ¬ (z = 0) := by omega
        simp [execOp, ho, ha, Instr.fieldAt, Instr.sureAddr, run_underlying hfs, hfd', fieldPlace, run_sizeOf_of hz, hne]
      split at h
      · rename_i b i hz0
        cases h
        have hz0' : 0 < z := by simpa [Nat.blt_eq] using hz0
        generalize hrho : ρ x = rx at hv
        cases hv with
        | ptr _ _ p hp => exact ⟨_, _, rfl, run _ hrho hz0', by rw [add_plain', Nat.add_assoc]; exact .ptr _ _ p hp⟩
      · rename_i g i hz0
        cases h
        have hz0' : 0 < z := by simpa [Nat.blt_eq] using hz0
        generalize hrho : ρ x = rx at hv
        cases hv with
        | gptr _ _ => exact ⟨_, _, rfl, run _ hrho hz0', by rw [add_plain']; exact .gptr _ _⟩
      · rename_i cells hz0
        cases h
        have hz0' : 0 < z := by simpa [Nat.blt_eq] using hz0
        generalize hrho : ρ x = rx at hv
        cases hv with
        | roc _ a us h1 h2 =>
          refine ⟨_, _, rfl, run _ hrho hz0', .roc _ _ (fun j => us (fd.offset + j)) (fun j hj => ?_) (fun j hj => ?_)⟩
          · have := h1 (fd.offset + j) (by simp at hj; omega)
            rw [← this]; congr 1
            unfold Addr.add
            by_cases e1 : fd.offset = 0
            · simp [e1]
            · by_cases e2 : j = 0
              · simp [e1, e2]
              · simp [e1, e2, Nat.add_assoc]
          · have := h2 (fd.offset + j) (by simp at hj; omega)
            simpa [List.getD_eq_getElem?_getD, List.getElem?_drop] using this
      · cases h
    · cases h
  · cases h

theorem extract_sound (hev : ∀ x v, ev x = some v → RV φ w0 v (ρ x)) {i : Nat} {x : Operand} (ho : o.op = .extract x i)
    (h : aop C (look H) ev id o = some (r, cs)) : ∃ v u, r = .val v ∧ (execOp ρ o).run C.P w = .ok (.value u) w ∧ RV φ w0 v u := by
  unfold aop at h
  simp only [ho] at h
  split at h
  · rename_i vs hb
    split at h
    · rename_i hi
      cases h
      have hi' : i < vs.length := by simpa [Nat.blt_eq] using hi
      have hv := hev _ _ hb
      generalize hrho : ρ x = rx at hv
      cases hv with
      | tup _ us h1 h2 =>
        have hlt : i < us.size := by omega
        refine ⟨_, us.getD i undef, rfl, ?_, h2 i hi'⟩
        simp [execOp, ho, hrho, Instr.extract, hlt, Array.getD]
    · cases h
  · cases h

theorem field_sound (hev : ∀ x v, ev x = some v → RV φ w0 v (ρ x)) {t : TypeId} {f : Nat} {x : Operand} (ho : o.op = .field t x f)
    (h : aop C (look H) ev id o = some (r, cs)) : ∃ v u, r = .val v ∧ (execOp ρ o).run C.P w = .ok (.value u) w ∧ RV φ w0 v u := by
  unfold aop at h
  simp only [ho] at h
  split at h
  · rename_i vs fd hb hfd
    have hfs : ∃ fs, C.P.underlying t = some (.struct fs) ∧ fs[f]? = some fd := by
      unfold fieldAt at hfd
      split at hfd
      · rename_i fs hfs; exact ⟨fs, hfs, hfd⟩
      · cases hfd
    obtain ⟨fs, hfs, hfd'⟩ := hfs
    have hv := hev _ _ hb
    split at h
    · rename_i v hpart
      cases h
      generalize hrho : ρ x = rx at hv
      cases hv with
      | agg _ us h1 h2 =>
        obtain ⟨u, g1, g2⟩ := partC_sound (w := w) h1 h2 hpart
        exact ⟨v, u, rfl, by simp [execOp, ho, hrho, Instr.field, run_underlying hfs, hfd', asAgg, g1], g2⟩
    · cases h
  · cases h

end
end Go.Proofs.Ytmdkhdfckdkceaa.TdAm
