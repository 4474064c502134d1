/- The abstract machine, part 16: calls. -/
import Derived.Test.YtmdkhdfckdkceaaAm15
namespace Go.Proofs.Ytmdkhdfckdkceaa.TdAm
open Go Go.RowKit
set_option linter.unusedVariables false
set_option linter.unusedSimpArgs false

theorem hasN_iff {l : List Nat} {b : Nat} : hasN l b = true ↔ b ∈ l := by
  induction l with
  | nil => simp [hasN]
  | cons a r ih =>
    simp only [hasN, Bool.or_eq_true, Nat.beq_eq, List.mem_cons, ih]
    exact ⟨fun h => h.imp Eq.symm id, fun h => h.imp Eq.symm id⟩

theorem idx_spec : ∀ {σ : List Nat} {b k i : Nat}, idx σ b k = some i → k ≤ i ∧ i - k < σ.length ∧ σ.getD (i - k) 0 = b
  | [], b, k, i, h => by simp [idx] at h
  | a :: r, b, k, i, h => by
    simp only [idx] at h
    split at h
    · rename_i hab
      cases h
      have : a = b := by simpa using hab
      subst this
      exact ⟨Nat.le_refl _, by simp, by simp⟩
    · obtain ⟨h1, h2, h3⟩ := idx_spec h
      refine ⟨by omega, by simp; omega, ?_⟩
      have e : i - k = (i - (k + 1)) + 1 := by omega
      rw [e, List.getD_cons_succ]; exact h3

theorem foot_spec {get : Nat → Option Blk} : ∀ (n : Nat) {p acc σ : List Nat}, foot n get p acc = some σ → acc.Nodup → (∀ b, b ∈ acc → ∃ x, get b = some x) → σ.Nodup ∧ (∀ b, b ∈ σ → ∃ x, get b = some x) ∧ (∀ b, b ∈ acc → b ∈ σ) ∧ ∀ get' : Nat → Option Blk, (∀ b, b ∈ σ → get' b = get b) → foot n get' p acc = some σ := by
  intro n
  induction n with
  | zero =>
    intro p acc σ h h1 h2
    cases p with
    | nil => simp [foot] at h; subst h; exact ⟨h1, h2, fun _ h => h, fun _ _ => by simp [foot]⟩
    | cons b r => simp [foot] at h
  | succ n ih =>
    intro p acc σ h h1 h2
    cases p with
    | nil => simp [foot] at h; subst h; exact ⟨h1, h2, fun _ h => h, fun _ _ => by simp [foot]⟩
    | cons b r =>
      simp only [foot] at h
      split at h
      · rename_i hb
        obtain ⟨g1, g2, g3, g4⟩ := ih h h1 h2
        refine ⟨g1, g2, g3, fun get' hg => ?_⟩
        simp only [foot, hb]; exact g4 get' hg
      · rename_i hb
        split at h
        · rename_i x hx
          have hb' : b ∉ acc := fun e => by rw [← hasN_iff, hb] at e; cases e
          obtain ⟨g1, g2, g3, g4⟩ := ih h (by
            rw [List.nodup_append]
            refine ⟨h1, by simp, fun a ha c hc => ?_⟩
            have : c = b := by simpa using hc
            subst this
            exact fun e => hb' (e ▸ ha)) (fun c hc => by
            rcases List.mem_append.1 hc with e | e
            · exact h2 c e
            · have : c = b := by simpa using e
              subst this; exact ⟨x, hx⟩)
          have hbσ : b ∈ σ := g3 b (by simp)
          refine ⟨g1, g2, fun c hc => g3 c (by simp [hc]), fun get' hg => ?_⟩
          simp only [foot, hb]
          rw [hg b hbσ, hx]
          exact g4 get' hg
        · cases h

theorem pickH_spec {get : Nat → Option Blk} {ρ : Nat → Option Nat} : ∀ {l : List Nat} {H1 : Hp}, pickH get ρ l = some H1 → H1.length = l.length ∧ ∀ i, i < l.length → ∃ x y, get (l.getD i 0) = some x ∧ renBlk ρ x = some y ∧ look H1 i = some y
  | [], H1, h => by simp [pickH] at h; subst h; exact ⟨rfl, fun i hi => by simp at hi⟩
  | b :: r, H1, h => by
    simp only [pickH] at h
    split at h
    · rename_i x hx
      split at h
      · rename_i y l hy hl
        cases h
        obtain ⟨h1, h2⟩ := pickH_spec hl
        refine ⟨by simp [h1], fun i hi => ?_⟩
        cases i with
        | zero => exact ⟨x, y, by simpa using hx, hy, by simp [look]⟩
        | succ i =>
          obtain ⟨x', y', e1, e2, e3⟩ := h2 i (by simpa using hi)
          exact ⟨x', y', by simpa using e1, e2, by simpa [look] using e3⟩
      · cases h
    · cases h

theorem pickH_congr {get get' : Nat → Option Blk} {ρ : Nat → Option Nat} : ∀ {l : List Nat}, (∀ b, b ∈ l → get' b = get b) → pickH get' ρ l = pickH get ρ l
  | [], _ => rfl
  | b :: r, h => by
    simp only [pickH]
    rw [h b (by simp), pickH_congr fun c hc => h c (by simp [hc])]

/-- A call hangs on the blocks it reaches alone. -/
theorem acall_congr {K : CallF} {get get' : Nat → Option Blk} {id : Nat} {p : Path} {f : FuncId} {args : List AV} {e : Eff} (h : acall K get id p f args = some e) (hg : ∀ b, b ∈ e.rd → get' b = get b) : acall K get' id p f args = some e := by
  unfold acall at h ⊢
  cases hf : foot 100 get (flatR (refs 4) args) [] with
  | none => rw [hf] at h; cases h
  | some σ =>
    have hrd : e.rd = σ := by
      rw [hf] at h
      dsimp only at h
      split at h
      · split at h
        · cases h
        · split at h
          · cases h; rfl
          · cases h
      · cases h
    rw [hrd] at hg
    obtain ⟨_, _, _, g4⟩ := foot_spec 100 hf (by simp) (by simp)
    rw [g4 get' hg]
    rw [hf] at h
    dsimp only at h ⊢
    rw [pickH_congr hg]
    exact h

theorem look_setX : ∀ (H : Hp) (b : Nat) (x : Option Blk) (c : Nat), look (setX H b x) c = if c = b then x else look H c
  | [], 0, x, c => by
    cases c with
    | zero => simp [setX, look]
    | succ c => simp [setX, look]
  | [], b + 1, x, c => by
    cases c with
    | zero => simp [setX, look]
    | succ c =>
      have := look_setX [] b x c
      simp only [look] at this
      simp only [setX, look, List.getD_cons_succ, this]
      by_cases h : c = b <;> simp [h]
  | a :: r, 0, x, c => by
    cases c with
    | zero => simp [setX, look]
    | succ c => simp [setX, look]
  | a :: r, b + 1, x, c => by
    cases c with
    | zero => simp [setX, look]
    | succ c =>
      have := look_setX r b x c
      simp only [look] at this
      simp only [setX, look, List.getD_cons_succ, this]
      by_cases h : c = b <;> simp [h]

theorem backW_look {σ : List Nat} {id : Nat} {K : Hp} : ∀ {L : List Nat} {ws : List (Nat × Blk)}, backW σ id K L = some ws → ∀ (H : Hp) (b : Nat),
    (∃ i x y, i ∈ L ∧ K.getD i none = some x ∧ back σ id i = some b ∧ renBlk (back σ id) x = some y ∧ look (putW H ws) b = some y) ∨
    ((∀ i, i ∈ L → back σ id i = some b → K.getD i none = none) ∧ look (putW H ws) b = look H b)
  | [], ws, h, H, b => by simp [backW] at h; subst h; exact .inr ⟨fun i hi => by simp at hi, rfl⟩
  | i :: r, ws, h, H, b => by
    simp only [backW] at h
    split at h
    · rename_i hk
      rcases backW_look h H b with ⟨j, x, y, h1, h2⟩ | ⟨h1, h2⟩
      · exact .inl ⟨j, x, y, List.mem_cons_of_mem _ h1, h2⟩
      · refine .inr ⟨fun j hj hbj => ?_, h2⟩
        rcases List.mem_cons.1 hj with e | e
        · subst e; exact hk
        · exact h1 j e hbj
    · rename_i x hk
      split at h
      · rename_i b0 y l hb0 hy hl
        cases h
        rcases backW_look hl (setX H b0 (some y)) b with ⟨j, x', y', h1, h2⟩ | ⟨h1, h2⟩
        · exact .inl ⟨j, x', y', List.mem_cons_of_mem _ h1, h2⟩
        · by_cases e : b = b0
          · subst e
            refine .inl ⟨i, x, y, by simp, hk, hb0, hy, ?_⟩
            show look (putW (setX H b (some y)) l) b = _
            rw [h2, look_setX, if_pos rfl]
          · refine .inr ⟨fun j hj hbj => ?_, ?_⟩
            · rcases List.mem_cons.1 hj with e' | e'
              · subst e'; rw [hb0] at hbj; cases hbj; exact absurd rfl e
              · exact h1 j e' hbj
            · show look (putW (setX H b0 (some y)) l) b = _
              rw [h2, look_setX, if_neg e]
      · cases h

theorem below_mem {k : Nat} : ∀ {l : List Nat} {i : Nat}, i ∈ below k l ↔ i ∈ l ∧ i < k
  | [], i => by simp [below]
  | a :: r, i => by
    simp only [below]
    split
    · rename_i h
      simp only [Bool.and_eq_true, Nat.blt_eq, Bool.not_eq_true'] at h
      rw [List.mem_cons, below_mem, List.mem_cons]
      constructor
      · rintro (e | ⟨e1, e2⟩)
        · subst e; exact ⟨.inl rfl, h.1⟩
        · exact ⟨.inr e1, e2⟩
      · rintro ⟨e | e, e2⟩
        · exact .inl e
        · exact .inr ⟨e, e2⟩
    · rename_i h
      rw [below_mem, List.mem_cons]
      constructor
      · rintro ⟨e1, e2⟩; exact ⟨.inr e1, e2⟩
      · rintro ⟨e | e, e2⟩
        · subst e
          have hb : Nat.blt i k = true := by rw [Nat.blt_eq]; exact e2
          refine ⟨hasN_iff.1 ?_, e2⟩
          cases hh : hasN r i
          · rw [hb, hh] at h; cases h
          · rfl
        · exact ⟨e, e2⟩

theorem back_lt {σ : List Nat} {id i : Nat} (h : i < σ.length) : back σ id i = some (σ.getD i 0) := by
  have : Nat.blt i σ.length = true := by simpa [Nat.blt_eq] using h
  simp [back, this]
theorem back_ge {σ : List Nat} {id i : Nat} (h : σ.length ≤ i) : back σ id i = some (id + (i - σ.length)) := by
  have : Nat.blt i σ.length = false := by
    cases e : Nat.blt i σ.length
    · rfl
    · rw [Nat.blt_eq] at e; omega
  simp [back, this]

theorem nodup_getD {σ : List Nat} (h : σ.Nodup) {i j : Nat} (hi : i < σ.length) (hj : j < σ.length) (e : σ.getD i 0 = σ.getD j 0) : i = j := by
  rw [List.getD_eq_getElem?_getD, List.getD_eq_getElem?_getD, List.getElem?_eq_getElem hi, List.getElem?_eq_getElem hj] at e
  exact (List.getElem_inj h).1 e

theorem getD_mem {σ : List Nat} {i : Nat} (hi : i < σ.length) : σ.getD i 0 ∈ σ := by
  rw [List.getD_eq_getElem?_getD, List.getElem?_eq_getElem hi]; exact List.getElem_mem hi

/-- A call, seen from the caller. -/
theorem acall_sound {C : Cx} {K : CallF} {φ : Phi} {H : Hp} {w0 w : World} {id : Nat} {p : Path} {f : FuncId} {args : List AV} {us : Array Value} {e : Eff} (hK : KOk C K) (hG : GlobR C w0) (rel : RelH φ H w0 w)
    (hid : ∀ j, j < e.cnt → look H (id + j) = none) (hu : us.size = args.length) (hv : ∀ j, j < args.length → RV φ w0 (args.getD j .nilp) (us.getD j undef))
    (h : acall K (look H) id p f args = some e) (hc : oks e.cs) :
    (∃ fn c, C.P.funcs[f]? = some fn ∧ fn.body = some c ∧ (fn.name == "runtime.NumGoroutine") = false) ∧ Calls C.P f us w fun en w' => ∃ u ψ, en = .returned u ∧ RelH ψ (putW H e.ws) w0 w' ∧ Fr H.length φ H w ψ (putW H e.ws) w' ∧ RV ψ w0 e.v u := by
  unfold acall at h
  split at h
  · cases h
  rename_i σ hσ
  split at h
  rotate_left
  · cases h
  rename_i args1 H1 ha hH
  split at h
  · cases h
  rename_i v1 K1 wr cs p1 hKr
  split at h
  rotate_left
  · cases h
  rename_i v ws hv1 hws
  cases h
  try dsimp only at *
  obtain ⟨nd, hσx, _, _⟩ := foot_spec 100 hσ (by simp) (by simp)
  obtain ⟨hl1, hp1⟩ := pickH_spec hH
  obtain ⟨ea1, ea2⟩ := renL_spec ha
  obtain ⟨hF, hlK, hun⟩ := hK _ _ _ _ _ _ _ _ _ hKr hc
  have hidx : ∀ {b i : Nat}, idx σ b 0 = some i → i < σ.length ∧ σ.getD i 0 = b := fun h => by
    obtain ⟨_, h2, h3⟩ := idx_spec h; exact ⟨by simpa using h2, by simpa using h3⟩
  -- the callee's places
  let φ1 : Phi := fun i => if i < σ.length then φ (σ.getD i 0) else none
  have hφ1 : ∀ {i : Nat}, i < σ.length → φ1 i = φ (σ.getD i 0) := fun h => if_pos h
  have hfw : ∀ b i p, idx σ b 0 = some i → φ b = some p → φ1 i = some p := fun b i p hi hp => by
    obtain ⟨h1, h2⟩ := hidx hi
    rw [hφ1 h1, h2]; exact hp
  have hbw : ∀ b i p, idx σ b 0 = some i → φ1 i = some p → φ b = some p := fun b i p hi hp => by
    obtain ⟨h1, h2⟩ := hidx hi
    rwa [hφ1 h1, h2] at hp
  have hlook1 : ∀ i, i < σ.length → ∃ x y, look H (σ.getD i 0) = some x ∧ renBlk (fun b => idx σ b 0) x = some y ∧ look H1 i = some y := hp1
  have hlt1 : ∀ {i x}, look H1 i = some x → i < σ.length := fun h => hl1 ▸ look_lt h
  have own1 : ∀ k, owns φ1 H1 k → ∃ i x p, i < σ.length ∧ look H (σ.getD i 0) = some x ∧ x.live ∧ φ (σ.getD i 0) = some p ∧ 0 < p.size ∧ p.blk = k := by
    rintro k ⟨i, y, p, hy, hl, hp, hs, hk⟩
    have hi := hlt1 hy
    obtain ⟨x, y', e1, e2, e3⟩ := hlook1 i hi
    rw [hy] at e3; cases e3
    rw [hφ1 hi] at hp
    exact ⟨i, x, p, hi, e1, (renBlk_live e2).1 hl, hp, hs, hk⟩
  have own1' : ∀ k, owns φ1 H1 k → owns φ H k := fun k h => by
    obtain ⟨i, x, p, _, e1, e2, e3, e4, e5⟩ := own1 k h; exact ⟨_, x, p, e1, e2, e3, e4, e5⟩
  have rel1 : RelH φ1 H1 w0 w := by
    refine ⟨rel.below, fun i y hy => ?_, fun k hk => rel.base k (own1' k hk), ?_, fun i hi => ?_⟩
    · have hi := hlt1 hy
      obtain ⟨x, y', e1, e2, e3⟩ := hlook1 i hi
      rw [hy] at e3; cases e3
      obtain ⟨p, hp, hB⟩ := rel.blk _ x e1
      exact ⟨p, by rw [hφ1 hi]; exact hp, renBlk_fwd hfw e2 hB⟩
    · intro b b' y y' p p' hy hy' hl hl' hp hp' hs hs' hk
      have hi := hlt1 hy
      have hi' := hlt1 hy'
      obtain ⟨x, z, e1, e2, e3⟩ := hlook1 b hi
      rw [hy] at e3; cases e3
      obtain ⟨x', z', e1', e2', e3'⟩ := hlook1 b' hi'
      rw [hy'] at e3'; cases e3'
      rw [hφ1 hi] at hp
      rw [hφ1 hi'] at hp'
      exact nodup_getD nd hi hi' (rel.inj _ _ x x' p p' e1 e1' ((renBlk_live e2).1 hl) ((renBlk_live e2').1 hl') hp hp' hs hs' hk)
    · by_cases h : i < σ.length
      · obtain ⟨x, y, e1, e2, e3⟩ := hlook1 i h
        rw [hi] at e3; cases e3
      · exact if_neg h
  refine ⟨hF.1, Calls.mono (hF.2 φ1 w0 w us hG rel1 (by omega) fun j hj => ren_fwd hfw 4 (hv j (by omega)) (ea2 j (by omega))) ?_⟩
  rintro en w' ⟨u, ψ1, rfl, relK, fr, hvu⟩
  have hH1 : H1.length = σ.length := hl1
  rw [hH1] at fr hlK hun
  -- the caller's places
  let ψ : Phi := fun b => match φ b with
    | some p => some p
    | none => if id ≤ b ∧ b < id + (K1.length - σ.length) then ψ1 (σ.length + (b - id)) else none
  have hψold : ∀ {b p}, φ b = some p → ψ b = some p := fun {b p} h => by show (match φ b with | some p => some p | none => _) = _; rw [h]
  have hψnew : ∀ {b}, φ b = none → ψ b = if id ≤ b ∧ b < id + (K1.length - σ.length) then ψ1 (σ.length + (b - id)) else none := fun {b} h => by show (match φ b with | some p => some p | none => _) = _; rw [h]
  have hσφ : ∀ i, i < σ.length → ∃ x p, look H (σ.getD i 0) = some x ∧ φ (σ.getD i 0) = some p ∧ ψ1 i = some p := fun i hi => by
    obtain ⟨x, y, e1, e2, e3⟩ := hlook1 i hi
    obtain ⟨p, hp, _⟩ := rel.blk _ x e1
    exact ⟨x, p, e1, hp, fr.pin i p hi (by rw [hφ1 hi]; exact hp)⟩
  have hlookK : ∀ {i x}, look K1 i = some x → i < K1.length := fun h => look_lt h
  have hbk : ∀ i b p, back σ id i = some b → ψ1 i = some p → ψ b = some p := fun i b p hb hp => by
    by_cases hi : i < σ.length
    · rw [back_lt hi] at hb; cases hb
      obtain ⟨x, p', e1, e2, e3⟩ := hσφ i hi
      rw [hp] at e3; cases e3
      exact hψold e2
    · rw [back_ge (by omega)] at hb; cases hb
      have hiK : i < K1.length := by
        rcases Nat.lt_or_ge i K1.length with h | h
        · exact h
        · rw [relK.fresh i (by simp [look, List.getD_eq_getElem?_getD, List.getElem?_eq_none h])] at hp; cases hp
      have hnone := hid (i - σ.length) (by omega)
      rw [hψnew (rel.fresh _ hnone), if_pos (by omega), show σ.length + (id + (i - σ.length) - id) = i by omega]
      exact hp
  have hbkφ : ∀ i b p, back σ id i = some b → ψ b = some p → i < K1.length → ψ1 i = some p := fun i b p hb hp hi => by
    by_cases his : i < σ.length
    · rw [back_lt his] at hb; cases hb
      obtain ⟨x, p', e1, e2, e3⟩ := hσφ i his
      rw [hψold e2] at hp; cases hp
      exact e3
    · rw [back_ge (by omega)] at hb; cases hb
      have hnone := hid (i - σ.length) (by omega)
      rw [hψnew (rel.fresh _ hnone), if_pos (by omega), show σ.length + (id + (i - σ.length) - id) = i by omega] at hp
      exact hp
  have hinj : ∀ i j b, back σ id i = some b → back σ id j = some b → i < K1.length → j < K1.length → i = j := fun i j b hi hj hik hjk => by
    by_cases h1 : i < σ.length
    · rw [back_lt h1] at hi; cases hi
      by_cases h2 : j < σ.length
      · rw [back_lt h2] at hj
        exact nodup_getD nd h1 h2 (Option.some.inj hj).symm
      · rw [back_ge (by omega)] at hj
        obtain ⟨x, p', e1, _⟩ := hσφ i h1
        have hnone := hid (j - σ.length) (by omega)
        have e := Option.some.inj hj
        rw [e, e1] at hnone; cases hnone
    · rw [back_ge (by omega)] at hi; cases hi
      by_cases h2 : j < σ.length
      · rw [back_lt h2] at hj
        obtain ⟨x, p', e1, _⟩ := hσφ j h2
        have hnone := hid (i - σ.length) (by omega)
        have e := Option.some.inj hj
        rw [← e, e1] at hnone; cases hnone
      · rw [back_ge (by omega)] at hj
        have e := Option.some.inj hj
        omega
  -- what lies where
  have key : ∀ b y, look (putW H ws) b = some y →
      (∃ i x, i < K1.length ∧ back σ id i = some b ∧ look K1 i = some x ∧ (y.live ↔ x.live) ∧ ∀ p, ψ1 i = some p → BlkR ψ1 w0 w' p x → BlkR ψ w0 w' p y) ∨
      ((∀ i, i < K1.length → back σ id i = some b → False) ∧ look H b = some y) := by
    intro b y hy
    rcases backW_look hws H b with ⟨i, x, y', h1, h2, h3, h4, h5⟩ | ⟨h1, h2⟩
    · rw [hy] at h5; cases h5
      exact .inl ⟨i, x, look_lt h2, h3, h2, renBlk_live h4, fun p hp hB => renBlk_fwd hbk h4 hB⟩
    · rw [hy] at h2
      by_cases him : ∃ i, i < K1.length ∧ back σ id i = some b
      · obtain ⟨i, hi, hb⟩ := him
        by_cases his : i < σ.length
        · -- an old block, not written
          have hb' := hb
          rw [back_lt his] at hb'; cases hb'
          obtain ⟨x, z, e1, e2, e3⟩ := hlook1 i his
          rw [e1] at h2; cases h2
          have hz : look K1 i = some z ∧ True := by
            by_cases hw : hasN wr i = true
            · exfalso
              have hmem : i ∈ below σ.length wr ++ (List.range (K1.length - σ.length)).map fun j => σ.length + j := List.mem_append_left _ (below_mem.2 ⟨hasN_iff.1 hw, his⟩)
              have hnone := h1 i hmem hb
              obtain ⟨_, p, _, _, e6⟩ := hσφ i his
              rw [relK.fresh i hnone] at e6; cases e6
            · exact ⟨by rw [hun i his (by simpa using hw), e3], trivial⟩
          refine .inl ⟨i, z, hi, hb, hz.1, ?_, fun p hp hB => ?_⟩
          · exact (renBlk_live e2).symm
          · obtain ⟨q, hq, hB0⟩ := rel.blk _ _ e1
            refine renBlk_bwd (ρ := fun b => idx σ b 0) (ψ := ψ1) (q := q) (w1 := w) (fun c j q hc hq => ?_) e2 hB (hB0.mono fun _ _ h => hψold h)
            obtain ⟨g1, g2⟩ := hidx hc
            obtain ⟨_, q', _, k2, k3⟩ := hσφ j g1
            rw [hq] at k3; cases k3
            rw [g2] at k2; exact hψold k2
        · exfalso
          have hmem : i ∈ below σ.length wr ++ (List.range (K1.length - σ.length)).map fun j => σ.length + j := List.mem_append_right _ (List.mem_map.2 ⟨i - σ.length, by simp; omega, by omega⟩)
          have hb' := hb
          rw [back_ge (by omega)] at hb'; cases hb'
          have := hid (i - σ.length) (by omega)
          rw [this] at h2; cases h2
      · exact .inr ⟨fun i hi hb => him ⟨i, hi, hb⟩, h2.symm⟩
  -- blocks that the callee does not know stay
  have hout : ∀ b y q, (∀ i, i < K1.length → back σ id i = some b → False) → look H b = some y → y.live → φ b = some q → 0 < q.size → ¬ owns φ1 H1 q.blk := by
    rintro b y q hno hy hl hq hs ho
    obtain ⟨i, x, p, hi, e1, e2, e3, e4, e5⟩ := own1 _ ho
    have := rel.inj b _ y x q p hy e1 hl e2 hq e3 hs e4 e5.symm
    exact hno i (by omega) (by rw [back_lt hi, this])
  have ltw : ∀ b y q, look H b = some y → y.live → φ b = some q → 0 < q.size → q.blk < w.heap.size := fun b y q hy hl hq hs => by
    obtain ⟨q', hq', hB⟩ := rel.blk b y hy
    rw [hq] at hq'; cases hq'
    exact hB.lt hl hs
  have hown : ∀ k, owns ψ (putW H ws) k → (owns ψ1 K1 k) ∨ (owns φ H k ∧ k < w.heap.size ∧ ¬ owns φ1 H1 k) := by
    rintro k ⟨b, y, p, hy, hl, hp, hs, rfl⟩
    rcases key b y hy with ⟨i, x, hi, hb, hx, hlx, _⟩ | ⟨hno, hyH⟩
    · exact .inl ⟨i, x, p, hx, hlx.1 hl, hbkφ i b p hb hp hi, hs, rfl⟩
    · obtain ⟨q, hq, _⟩ := rel.blk b y hyH
      rw [hψold hq] at hp; cases hp
      exact .inr ⟨⟨b, y, p, hyH, hl, hq, hs, rfl⟩, ltw b y p hyH hl hq hs, hout b y p hno hyH hl hq hs⟩
  refine ⟨u, ψ, rfl, ⟨relK.below, ?_, ?_, ?_, ?_⟩, ⟨fun b p _ hp => hψold hp, fr.size, fun j hj ho => fr.keep j hj fun e => ho (own1' j e), fun j hj => ?_⟩, ren_fwd hbk 4 hvu hv1⟩
  · intro b y hy
    rcases key b y hy with ⟨i, x, hi, hb, hx, hlx, hB⟩ | ⟨hno, hyH⟩
    · obtain ⟨p, hp, hBx⟩ := relK.blk i x hx
      exact ⟨p, hbk i b p hb hp, hB p hp hBx⟩
    · obtain ⟨q, hq, hBq⟩ := rel.blk b y hyH
      refine ⟨q, hψold hq, ?_⟩
      by_cases hd : y.live
      · exact (hBq.mono fun _ _ h => hψold h).world fun hs => fr.keep _ (ltw b y q hyH hd hq hs) (hout b y q hno hyH hd hq hs)
      · cases y with
        | dead => trivial
        | _ => exact absurd trivial hd
  · intro k hk
    rcases hown k hk with h | ⟨h, _⟩
    · exact relK.base k h
    · exact rel.base k h
  · intro b b' y y' p p' hy hy' hl hl' hp hp' hs hs' hk
    rcases key b y hy with ⟨i, x, hi, hb, hx, hlx, _⟩ | ⟨hno, hyH⟩
    · have hp1 := hbkφ i b p hb hp hi
      rcases key b' y' hy' with ⟨i', x', hi', hb', hx', hlx', _⟩ | ⟨hno', hyH'⟩
      · have hp1' := hbkφ i' b' p' hb' hp' hi'
        have := relK.inj i i' x x' p p' hx hx' (hlx.1 hl) (hlx'.1 hl') hp1 hp1' hs hs' hk
        subst this
        rw [hb] at hb'; exact Option.some.inj hb'
      · exfalso
        obtain ⟨q, hq, _⟩ := rel.blk b' y' hyH'
        rw [hψold hq] at hp'; cases hp'
        have h1 := hout b' y' p' hno' hyH' hl' hq hs'
        have h2 := ltw b' y' p' hyH' hl' hq hs'
        rcases fr.own p.blk ⟨i, x, p, hx, hlx.1 hl, hp1, hs, rfl⟩ with h | h
        · exact h1 (hk ▸ h)
        · omega
    · obtain ⟨q, hq, _⟩ := rel.blk b y hyH
      rw [hψold hq] at hp; cases hp
      rcases key b' y' hy' with ⟨i', x', hi', hb', hx', hlx', _⟩ | ⟨hno', hyH'⟩
      · exfalso
        have hp1' := hbkφ i' b' p' hb' hp' hi'
        have h1 := hout b y p hno hyH hl hq hs
        have h2 := ltw b y p hyH hl hq hs
        rcases fr.own p'.blk ⟨i', x', p', hx', hlx'.1 hl', hp1', hs', rfl⟩ with h | h
        · exact h1 (hk ▸ h)
        · omega
      · obtain ⟨q', hq', _⟩ := rel.blk b' y' hyH'
        rw [hψold hq'] at hp'; cases hp'
        exact rel.inj b b' y y' p p' hyH hyH' hl hl' hq hq' hs hs' hk
  · intro b hb
    rcases backW_look hws H b with ⟨i, x, y', h1, h2, h3, h4, h5⟩ | ⟨h1, h2⟩
    · rw [hb] at h5; cases h5
    · rw [hb] at h2
      rw [hψnew (rel.fresh b h2.symm)]
      split
      · rename_i hr
        have hmem : σ.length + (b - id) ∈ below σ.length wr ++ (List.range (K1.length - σ.length)).map fun j => σ.length + j := List.mem_append_right _ (List.mem_map.2 ⟨b - id, by simp; omega, rfl⟩)
        refine relK.fresh _ (h1 _ hmem ?_)
        rw [back_ge (by omega), show id + (σ.length + (b - id) - σ.length) = b by omega]
      · rfl
  · rcases hown j hj with h | ⟨h, _⟩
    · exact (fr.own j h).imp (own1' j) (fun h => h)
    · exact .inl h

end Go.Proofs.Ytmdkhdfckdkceaa.TdAm
