/- The abstract machine, part 8: slices, indexes, copies, appends. -/
import Derived.Test.YtmdkhdfckdkceaaAm7
import Derived.Lib.ConvBytes
import Derived.Laws.BytesString
namespace Go.Proofs.Ytmdkhdfckdkceaa.TdAm
open Go Go.RowKit
set_option linter.unusedVariables false
set_option linter.unusedSimpArgs false

theorem add_add' (a : Addr) (i j : Nat) : (a.add i).add j = a.add (i + j) := by
  unfold Addr.add
  by_cases h1 : i = 0
  · simp [h1]
  · by_cases h2 : j = 0
    · simp [h1, h2]
    · simp [h1, h2, Nat.add_assoc]

/-- A slice, cut. -/
theorem aslice_val {φ : Phi} {w0 : World} {v r : AV} {lo hi : Option Int} {z : Nat} {cs : List Chk} {A : Option Addr} {n c : Nat} (hv : RV φ w0 v (.slice A n c)) (h : aslice v lo hi z = some (r, cs)) (hc : oks cs) :
    0 ≤ lo.getD 0 ∧ lo.getD 0 ≤ hi.getD n ∧ hi.getD n ≤ c ∧ RV φ w0 r (sliced A (lo.getD 0).toNat (hi.getD n).toNat c z) := by
  have sl : ∀ (b o m : Nat) (l h : Int), RV φ w0 (.sl b o n m z) (.slice A n c) → 0 ≤ l → l ≤ h → h ≤ m → h ≤ c ∧ RV φ w0 (.sl b (o + l.toNat * z) (h.toNat - l.toNat) (m - l.toNat) z) (sliced A l.toNat h.toNat c z) := by
    intro b o m l h hv h0 h1 h2
    cases hv with
    | sl _ _ _ _ _ p _ _ g g0 g1 g2 g3 g4 =>
      refine ⟨by omega, .sl b _ _ _ z p _ _ g (by omega) (by omega) (fun hp => ?_) (g3.imp id (fun e => by rw [e])) (fun hp => ?_)⟩
      · have hne : ¬ c = l.toNat := by omega
        rw [if_neg hne, g2 (by omega)]
        simp only [Option.map_some, add_plain', Nat.add_assoc]
      · have := g4 (by omega)
        obtain ⟨d, rfl⟩ : ∃ d, c = l.toNat + d := ⟨c - l.toNat, by omega⟩
        rw [Nat.add_mul] at this
        rw [show l.toNat + d - l.toNat = d by omega]
        omega
  have ro : ∀ (k : IntKind) (l : List Int) (a hh : Int), z = 1 → RV φ w0 (.roi k l) (.slice A n c) → 0 ≤ a → a ≤ hh → hh ≤ l.length → hh ≤ c ∧ RV φ w0 (.roi k ((l.take hh.toNat).drop a.toNat)) (sliced A a.toNat hh.toNat c z) := by
    intro k l a hh hz hv h0 h1 h2
    subst hz
    cases hv with
    | roi _ _ _ _ g g2 =>
      refine ⟨by omega, ?_⟩
      have hl : ((l.take hh.toNat).drop a.toNat).length = hh.toNat - a.toNat := by simp; omega
      unfold sliced
      rw [← hl]
      refine .roi k _ _ _ (by omega) fun i hi => ?_
      have hi' : i < hh.toNat - a.toNat := by omega
      obtain ⟨ad, e1, e2⟩ := g2 (a.toNat + i) (by omega)
      have hne : ¬ c = a.toNat := by omega
      refine ⟨ad.add (a.toNat * 1), by rw [if_neg hne, e1]; rfl, ?_⟩
      rw [Nat.mul_one, add_add', e2]
      have : ((l.take hh.toNat).drop a.toNat).getD i 0 = l.getD (a.toNat + i) 0 := by
        have e3 : a.toNat + i < hh.toNat := by omega
        simp [List.getD_eq_getElem?_getD, List.getElem?_drop, List.getElem?_take, e3]
      rw [this]
  unfold aslice at h
  split at h
  · rename_i b o n' c' z'
    have hn : n = n' := by cases hv; rfl
    split at h
    · rename_i l hh hz; have := of_decide_eq_true hz; subst this; cases h
      obtain ⟨k1, k2, k3, _⟩ := hc
      subst hn
      obtain ⟨m1, m2⟩ := sl b o c' l hh hv k1 k2 k3
      exact ⟨k1, k2, m1, m2⟩
    · rename_i hh hz; have := of_decide_eq_true hz; subst this; cases h
      obtain ⟨k1, k2, _⟩ := hc
      subst hn
      obtain ⟨m1, m2⟩ := sl b o c' 0 hh hv (by omega) k1 k2
      exact ⟨Int.le_refl 0, k1, m1, by simpa using m2⟩
    · rename_i l hz; have := of_decide_eq_true hz; subst this; cases h
      obtain ⟨k1, k2, _⟩ := hc
      subst hn
      have hle : n ≤ c' := by cases hv; assumption
      obtain ⟨m1, m2⟩ := sl b o c' l n hv k1 k2 (by omega)
      exact ⟨k1, k2, m1, by simpa using m2⟩
    · rename_i hz; have := of_decide_eq_true hz; subst this; cases h
      subst hn
      have hle : n ≤ c' := by cases hv; assumption
      obtain ⟨m1, m2⟩ := sl b o c' 0 n hv (by omega) (by omega) (by omega)
      exact ⟨by simp, by simp, m1, by simpa using m2⟩
    · cases h
  · rename_i k l
    have hn : n = l.length := by cases hv; rfl
    split at h
    · rename_i a hh hz; cases h
      obtain ⟨k1, k2, k3, _⟩ := hc
      obtain ⟨m1, m2⟩ := ro k l a hh (by simpa using hz) hv k1 k2 k3
      exact ⟨k1, k2, m1, m2⟩
    · rename_i hh hz; cases h
      obtain ⟨k1, k2, _⟩ := hc
      obtain ⟨m1, m2⟩ := ro k l 0 hh (by simpa using hz) hv (by omega) k1 k2
      exact ⟨Int.le_refl 0, k1, m1, by simpa using m2⟩
    · rename_i a hz; cases h
      obtain ⟨k1, k2, _⟩ := hc
      obtain ⟨m1, m2⟩ := ro k l a l.length (by simpa using hz) hv k1 k2 (Int.le_refl _)
      refine ⟨k1, by rw [hn]; exact k2, by rw [hn]; exact m1, ?_⟩
      rw [hn]; simpa using m2
    · rename_i hz; cases h
      obtain ⟨m1, m2⟩ := ro k l 0 l.length (by simpa using hz) hv (by omega) (by omega) (Int.le_refl _)
      refine ⟨by simp, by simp, by rw [hn]; exact m1, ?_⟩
      rw [hn]; simpa using m2
    · cases h
  · cases h

theorem boundOf_spec {φ : Phi} {w0 : World} {ev : Operand → Option AV} {ρ : Operand → Value} (hev : ∀ x v, ev x = some v → RV φ w0 v (ρ x)) {b : Option Operand} {l : Option Int} (h : boundOf ev b = some l) :
    (b = none ∧ l = none) ∨ ∃ x k n, b = some x ∧ l = some n ∧ ρ x = .int k n := by
  unfold boundOf at h
  split at h
  · cases h; exact .inl ⟨rfl, rfl⟩
  · rename_i x
    split at h
    · rename_i k n hx
      cases h
      have hv := hev _ _ hx
      generalize hr : ρ x = u at hv
      cases hv
      exact .inr ⟨x, k, n, rfl, rfl, hr⟩
    · cases h

theorem sliceBounds_run {P : Program} {w : World} (s : Bool) (n c : Nat) (lo hi : Option Value) (l h : Option Int) (hl : (lo = none ∧ l = none) ∨ ∃ k m, lo = some (.int k m) ∧ l = some m) (hh : (hi = none ∧ h = none) ∨ ∃ k m, hi = some (.int k m) ∧ h = some m)
    (h0 : 0 ≤ l.getD 0) (h1 : l.getD 0 ≤ h.getD n) (h2 : h.getD n ≤ c) : (Instr.sliceBounds s n c lo hi none).run P w = .ok ((l.getD 0).toNat, (h.getD n).toNat, c) w := by
  have eh : ∀ m : Int, 0 ≤ m → ((m.toNat : Nat) : Int) = m := fun m hm => Int.toNat_of_nonneg hm
  rcases hl with ⟨rfl, rfl⟩ | ⟨kl, ml, rfl, rfl⟩ <;> rcases hh with ⟨rfl, rfl⟩ | ⟨kh, mh, rfl, rfl⟩ <;> simp at h0 h1 h2
  · simp [Instr.sliceBounds]
  · simp [Instr.sliceBounds, run_sliceBound _ kh mh c _ h1 h2]
  · simp [Instr.sliceBounds, run_sliceBound _ kl ml n _ h0 h1]
  · have := run_sliceBound (P := P) w kl ml mh.toNat .sliceB h0 (by rw [eh mh (by omega)]; exact h1)
    simp [Instr.sliceBounds, run_sliceBound _ kh mh c _ (by omega) h2, this]

section
variable {C : Cx} {φ : Phi} {H : Hp} {w0 w : World} {ev : Operand → Option AV} {ρ : Operand → Value} {id : Nat} {o : Oper} {r : Res} {cs : List Chk}

theorem slice_sound (rel : RelH φ H w0 w) (hev : ∀ x v, ev x = some v → RV φ w0 v (ρ x)) {t : TypeId} {x : Operand} {lo hi : Option Operand} (ho : o.op = .slice t x lo hi none)
    (h : aop C (look H) ev id o = some (r, cs)) (hc : oks cs) : ∃ v u, r = .val v ∧ (execOp ρ o).run C.P w = .ok (.value u) w ∧ RV φ w0 v u := by
  unfold aop at h
  simp only [ho] at h
  split at h
  · rename_i v l hh hv hl hhi
    have hva := hev _ _ hv
    have bl : (lo.map ρ = none ∧ l = none) ∨ ∃ k m, lo.map ρ = some (.int k m) ∧ l = some m := by
      rcases boundOf_spec hev hl with ⟨e1, e2⟩ | ⟨y, k, n, e1, e2, e3⟩
      · exact .inl ⟨by rw [e1]; rfl, e2⟩
      · exact .inr ⟨k, n, by rw [e1]; simp [e3], e2⟩
    have bh : (hi.map ρ = none ∧ hh = none) ∨ ∃ k m, hi.map ρ = some (.int k m) ∧ hh = some m := by
      rcases boundOf_spec hev hhi with ⟨e1, e2⟩ | ⟨y, k, n, e1, e2, e3⟩
      · exact .inl ⟨by rw [e1]; rfl, e2⟩
      · exact .inr ⟨k, n, by rw [e1]; simp [e3], e2⟩
    split at h
    · rename_i e v hu
      split at h
      · rename_i z hz
        split at h
        · rename_i r' c' hr
          cases h
          have hsl : ∃ A n c, ρ x = .slice A n c := by
            unfold aslice at hr
            split at hr
            · generalize ρ x = u at hva; cases hva; exact ⟨_, _, _, rfl⟩
            · generalize ρ x = u at hva; cases hva; exact ⟨_, _, _, rfl⟩
            · cases hr
          obtain ⟨A, n, c, hx⟩ := hsl
          rw [hx] at hva
          obtain ⟨k1, k2, k3, k4⟩ := aslice_val hva hr hc
          have hb := sliceBounds_run (P := C.P) (w := w) true n c _ _ l hh bl bh k1 k2 k3
          refine ⟨_, _, rfl, ?_, k4⟩
          simp [execOp, ho, Instr.sliceAt, run_underlying hu, Instr.slice, hx, hb, run_sizeOf_of hz, sliced]
        · cases h
      · cases h
    · rename_i n e b i hu
      split at h
      · rename_i z blk hz hblk
        split at h
        · rename_i r' c' hz0 hr
          cases h
          obtain ⟨hchk, hc'⟩ := hc
          have hchk' : i + n * z ≤ blk.len := hchk
          generalize hx : ρ x = u at hva
          cases hva with
          | ptr _ _ p hp =>
            obtain ⟨q, hq, hB⟩ := rel.blk b blk hblk
            rw [hp] at hq; cases hq
            have hsz : 0 < n → p.off + i + n * z ≤ p.size := by
              intro hn
              have hz0' : 0 < z := by simpa [Nat.blt_eq] using hz0
              have hpos : 0 < n * z := Nat.mul_pos hn hz0'
              have := hB.fits (by omega)
              omega
            have hval : RV φ w0 (.sl b i n n z) (.slice (some ⟨p.blk, p.off + i, none⟩) n n) := .sl b i n n z p _ n hp (Nat.le_refl _) (Nat.le_refl _) (fun _ => rfl) (.inr rfl) hsz
            obtain ⟨k1, k2, k3, k4⟩ := aslice_val hval hr hc'
            have hb := sliceBounds_run (P := C.P) (w := w) false n n _ _ l hh bl bh k1 k2 k3
            refine ⟨_, _, rfl, ?_, k4⟩
            simp [execOp, ho, Instr.sliceAt, run_underlying hu, Instr.sureAddr, hx, hb, run_sizeOf_of hz, sliced]
            split <;> rfl
        · cases h
      · cases h
    · cases h
  · cases h

end

end Go.Proofs.Ytmdkhdfckdkceaa.TdAm
