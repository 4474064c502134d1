/- The abstract machine, part 24: what holds behind a piece of code, said of abstract states; loops. -/
import Derived.Test.YtmdkhdfckdkceaaAm23
namespace Go.Proofs.Ytmdkhdfckdkceaa.TdAm
open Go Go.RowKit
set_option linter.unusedVariables false
set_option linter.unusedSimpArgs false

/-- From this state the code comes to a state of which Q holds; the first k blocks keep their places. -/
def Tri (C : Cx) (k : Nat) (c : Code) (s : St) (Q : Out → St → Prop) : Prop :=
  ∀ (φ : Phi) (w0 w : World) (a : Act), GlobR C w0 → StR φ s w0 w a →
    c.wp C.P (fun e a' w' => ∃ o s' ψ, e = o.exitOf ∧ Q o s' ∧ StR ψ s' w0 w' a' ∧ Fr k φ s.H w ψ s'.H w') a w

theorem Tri.mono {C : Cx} {k : Nat} {c : Code} {s : St} {Q Q' : Out → St → Prop} (h : Tri C k c s Q) (hq : ∀ o s', Q o s' → Q' o s') : Tri C k c s Q' :=
  fun φ w0 w a hG r => wp_mono (h φ w0 w a hG r) fun e a' w' ⟨o, s', ψ, h1, h2, h3⟩ => ⟨o, s', ψ, h1, hq o s' h2, h3⟩

/-- A run of the machine. -/
theorem Tri.run {C : Cx} {S : Spec} (hS : SOk C S) (hmix : C.P.follows .mixedOrders = true) {n k : Nat} {p p' : Path} {c : Code} {s s' : St} {o : Out} {cs : List Chk} {Q : Out → St → Prop} (h : exec C S n p c s = some (o, s', cs, p')) (hc : oks cs) (hk : k ≤ s.H.length) (hq : Q o s') : Tri C k c s Q := by
  obtain ⟨_, g⟩ := exec_sound hS hmix n p c s o s' cs p' h hc
  exact fun φ w0 w a hG r => wpC_wp (g φ w0 w a _ hG r fun ψ a' w' hr hf => ⟨o, s', ψ, rfl, hq, hr, hf.le hk⟩)

theorem Tri.seq {C : Cx} {k : Nat} {x y : Code} {s : St} {Q : Out → St → Prop} (h : Tri C k x s fun o s' => match o with | .normal => Tri C k y s' Q | o => Q o s') : Tri C k (.seq x y) s Q := by
  intro φ w0 w a hG r
  refine wp_seq (wp_mono (h φ w0 w a hG r) ?_)
  rintro e a' w' ⟨o, s', ψ, rfl, hq, hr, hf⟩
  cases o with
  | normal =>
    refine wp_mono (hq ψ w0 w' a' hG hr) ?_
    rintro e a2 w2 ⟨o2, s2, χ, rfl, hq2, hr2, hf2⟩
    exact ⟨o2, s2, χ, rfl, hq2, hr2, hf.trans hf2⟩
  | exit id => exact ⟨.exit id, s', ψ, rfl, hq, hr, hf⟩
  | ret => exact ⟨.ret, s', ψ, rfl, hq, hr, hf⟩

theorem Tri.cond {C : Cx} {k : Nat} {x : Operand} {y z : Code} {s : St} {b : Bool} {Q : Out → St → Prop} (hx : aev s.t x = some (.bool b)) (h : Tri C k (match b with | true => y | false => z) s Q) : Tri C k (.cond x y z) s Q := by
  intro φ w0 w a hG r
  have hv := aev_sound r hx
  have he : a.eval x = .bool b := by generalize a.eval x = u at hv; cases hv; rfl
  cases b with
  | true => exact wp_cond_true he (h φ w0 w a hG r)
  | false => exact wp_cond_false he (h φ w0 w a hG r)

theorem Tri.block {C : Cx} {k id : Nat} {x : Code} {s : St} {Q : Out → St → Prop} (h : Tri C k x s fun o s' => match o with | .exit id' => if id' = id then Q .normal s' else Q (.exit id') s' | o => Q o s') : Tri C k (.block id x) s Q := by
  intro φ w0 w a hG r
  refine wp_block (wp_mono (h φ w0 w a hG r) ?_)
  rintro e a' w' ⟨o, s', ψ, rfl, hq, hr, hf⟩
  cases o with
  | normal => exact ⟨.normal, s', ψ, rfl, hq, hr, hf⟩
  | ret => exact ⟨.ret, s', ψ, rfl, hq, hr, hf⟩
  | exit id' =>
    show (if id' = id then _ else _)
    by_cases e : id' = id
    · rw [if_pos e]
      have hq' : Q .normal s' := by
        have := hq; dsimp only at this; rwa [if_pos e] at this
      exact ⟨.normal, s', ψ, rfl, hq', hr, hf⟩
    · rw [if_neg e]
      have hq' : Q (.exit id') s' := by
        have := hq; dsimp only at this; rwa [if_neg e] at this
      exact ⟨.exit id', s', ψ, rfl, hq', hr, hf⟩

/-- A state as good as another: what holds from it holds from the other. -/
def Sub (k : Nat) (s s' : St) : Prop := ∀ (φ : Phi) (w0 w : World) (a : Act), StR φ s w0 w a → ∃ ψ, StR ψ s' w0 w a ∧ Fr k φ s.H w ψ s'.H w

theorem Sub.refl (k : Nat) (s : St) : Sub k s s := fun φ w0 w a r => ⟨φ, r, Fr.refl ..⟩
theorem Tri.sub {C : Cx} {k : Nat} {c : Code} {s s' : St} {Q : Out → St → Prop} (h : Sub k s s') (t : Tri C k c s' Q) : Tri C k c s Q := by
  intro φ w0 w a hG r
  obtain ⟨ψ, r', f⟩ := h φ w0 w a r
  refine wp_mono (t ψ w0 w a hG r') ?_
  rintro e a2 w2 ⟨o2, s2, χ, rfl, hq2, hr2, hf2⟩
  exact ⟨o2, s2, χ, rfl, hq2, hr2, f.trans hf2⟩

/-- A loop: a state for each X, each round leads on to a state that is as good as the next X's, and X comes lower. -/
theorem Tri.loop {C : Cx} {k : Nat} {x : Code} {Q : Out → St → Prop} {X : Type} (μ : X → Nat) (I : X → Prop) (st : X → St)
    (round : ∀ i, I i → Tri C k x (st i) fun o s' => match o with | .normal => ∃ j, I j ∧ μ j < μ i ∧ Sub k s' (st j) | o => Q o s') : ∀ i, I i → Tri C k (.loop x) (st i) Q := by
  intro i₀ hi₀ φ w0 w a hG r
  have key : ∀ (n : Nat) (i : X), μ i = n → I i → ∀ (φ' : Phi) (w' : World) (a' : Act), StR φ' (st i) w0 w' a' → ∀ (f : Fr k φ (st i₀).H w φ' (st i).H w'), wpL C.P x (fun e a2 w2 => ∃ o s2 χ, e = o.exitOf ∧ Q o s2 ∧ StR χ s2 w0 w2 a2 ∧ Fr k φ (st i₀).H w χ s2.H w2) a' w' := by
    intro n
    induction n using Nat.strongRecOn with
    | _ n ih =>
      intro i hn hi φ' w' a' r' f
      refine wpL_next (wp_mono (round i hi φ' w0 w' a' hG r') ?_)
      rintro e a2 w2 ⟨o, s2, χ, rfl, hq, hr, hf⟩
      cases o with
      | normal =>
        obtain ⟨j, hj, hlt, hsub⟩ := hq
        obtain ⟨ψ, r2, f2⟩ := hsub χ w0 w2 a2 hr
        exact ih (μ j) (hn ▸ hlt) j rfl hj ψ w2 a2 r2 (f.trans (hf.trans f2))
      | exit id => exact ⟨.exit id, s2, χ, rfl, hq, hr, f.trans hf⟩
      | ret => exact ⟨.ret, s2, χ, rfl, hq, hr, f.trans hf⟩
  exact wpL_wp (key (μ i₀) i₀ rfl hi₀ φ w a r (Fr.refl ..))

/-! ### states cut down to what is wanted -/
def nodupB : List Nat → Bool
  | [] => true
  | a :: r => !hasN r a && nodupB r
theorem nodupB_spec : ∀ {l : List Nat}, nodupB l = true → l.Nodup
  | [], _ => List.nodup_nil
  | a :: r, h => by
    simp only [nodupB, Bool.and_eq_true, Bool.not_eq_true'] at h
    refine List.nodup_cons.2 ⟨fun e => ?_, nodupB_spec h.2⟩
    rw [hasN_iff.2 e] at h; cases h.1

def phiOf (φ : Phi) (σ : List Nat) : Phi := fun i => if i < σ.length then φ (σ.getD i 0) else none

theorem RelH.pick {φ : Phi} {H H1 : Hp} {w0 w : World} {σ : List Nat} (rel : RelH φ H w0 w) (nd : σ.Nodup) (hH : pickH (look H) (fun b => idx σ b 0) σ = some H1) :
    RelH (phiOf φ σ) H1 w0 w ∧ (∀ k, owns (phiOf φ σ) H1 k → owns φ H k) ∧ (∀ b i p, idx σ b 0 = some i → φ b = some p → phiOf φ σ i = some p) := by
  obtain ⟨hl1, hlook1⟩ := pickH_spec hH
  have hφ1 : ∀ {i : Nat}, i < σ.length → phiOf φ σ i = φ (σ.getD i 0) := fun h => if_pos h
  have hfw : ∀ b i p, idx σ b 0 = some i → φ b = some p → phiOf φ σ i = some p := fun b i p hi hp => by
    obtain ⟨_, h1, h2⟩ := idx_spec hi
    simp only [Nat.sub_zero] at h1 h2
    rw [hφ1 h1, h2]; exact hp
  have hlt1 : ∀ {i x}, look H1 i = some x → i < σ.length := fun h => hl1 ▸ look_lt h
  have own1 : ∀ k, owns (phiOf φ σ) H1 k → owns φ H k := by
    rintro k ⟨i, y, p, hy, hl, hp, hs, hk⟩
    have hi := hlt1 hy
    obtain ⟨x, y', e1, e2, e3⟩ := hlook1 i hi
    rw [hy] at e3; cases e3
    rw [hφ1 hi] at hp
    exact ⟨_, x, p, e1, (renBlk_live e2).1 hl, hp, hs, hk⟩
  refine ⟨⟨rel.below, fun i y hy => ?_, fun k hk => rel.base k (own1 k hk), ?_, fun i hi => ?_⟩, own1, hfw⟩
  · have hi := hlt1 hy
    obtain ⟨x, y', e1, e2, e3⟩ := hlook1 i hi
    rw [hy] at e3; cases e3
    obtain ⟨p, hp, hB⟩ := rel.blk _ x e1
    exact ⟨p, by rw [hφ1 hi]; exact hp, renBlk_fwd hfw e2 hB⟩
  · intro b b' y y' p p' hy hy' hl hl' hp hp' hs hs' hk
    have hi := hlt1 hy
    have hi' := hlt1 hy'
    obtain ⟨x, z, e1, e2, e3⟩ := hlook1 b hi
    rw [hy] at e3; cases e3
    obtain ⟨x', z', e1', e2', e3'⟩ := hlook1 b' hi'
    rw [hy'] at e3'; cases e3'
    rw [hφ1 hi] at hp
    rw [hφ1 hi'] at hp'
    exact nodup_getD nd hi hi' (rel.inj _ _ x x' p p' e1 e1' ((renBlk_live e2).1 hl) ((renBlk_live e2').1 hl') hp hp' hs hs' hk)
  · by_cases h : i < σ.length
    · obtain ⟨x, y, e1, e2, e3⟩ := hlook1 i h
      rw [hi] at e3; cases e3
    · exact if_neg h

/-- Slots that are kept, under new names; the others are forgotten. -/
def cutT (ρ : Nat → Option Nat) (keep : List Tmp) : Nat → List (Option AV) → List (Option AV)
  | _, [] => []
  | i, v :: r => (match hasN keep i with
    | true => match v with
      | some x => ren 4 ρ x
      | none => none
    | false => none) :: cutT ρ keep (i + 1) r

theorem cutT_length {ρ : Nat → Option Nat} {keep : List Tmp} : ∀ (i : Nat) (t : List (Option AV)), (cutT ρ keep i t).length = t.length
  | _, [] => rfl
  | i, v :: r => by simp [cutT, cutT_length (i + 1) r]
theorem cutT_getD {ρ : Nat → Option Nat} {keep : List Tmp} : ∀ (i : Nat) (t : List (Option AV)) (j : Nat) (v : AV), (cutT ρ keep i t).getD j none = some v → ∃ x, t.getD j none = some x ∧ ren 4 ρ x = some v
  | _, [], j, v, h => by simp [cutT] at h
  | i, u :: r, 0, v, h => by
    simp only [cutT, List.getD_cons_zero] at h ⊢
    split at h
    · cases u with
      | some x => exact ⟨x, rfl, h⟩
      | none => cases h
    · cases h
  | i, u :: r, j + 1, v, h => by
    simp only [cutT, List.getD_cons_succ] at h ⊢
    exact cutT_getD (i + 1) r j v h

/-- The first k of σ are 0, 1, .. -/
def headsB (k : Nat) (σ : List Nat) : Bool := Nat.ble k σ.length && (List.range k).all fun i => Nat.beq (σ.getD i 0) i

/-- A state cut down: the blocks σ, in this order, and the slots told. -/
def cutS (k : Nat) (σ : List Nat) (keep : List Tmp) (s : St) : Option St := match nodupB σ, headsB k σ with
  | true, true => match pickH (look s.H) (fun b => idx σ b 0) σ with
    | some H1 => some ⟨cutT (fun b => idx σ b 0) keep 0 s.t, H1, []⟩
    | none => none
  | _, _ => none

theorem cutS_sub {k : Nat} {σ : List Nat} {keep : List Tmp} {s s' : St} (h : cutS k σ keep s = some s') : Sub k s s' := by
  intro φ w0 w a r
  unfold cutS at h
  split at h
  · rename_i h1 h2
    split at h
    · rename_i H1 hH
      cases h
      obtain ⟨rel, ho, hf⟩ := r.rel.pick (nodupB_spec h1) hH
      refine ⟨phiOf φ σ, ⟨rel, fun i v hv => ?_, ?_, r.defs⟩, ⟨fun b p hb hp => ?_, Nat.le_refl _, fun _ _ _ => rfl, fun j hj => .inl (ho j hj)⟩⟩
      · obtain ⟨x, hx, hr⟩ := cutT_getD 0 s.t i v hv
        exact ren_fwd hf 4 (r.slots i x hx) hr
      · show (cutT _ _ 0 s.t).length = _
        rw [cutT_length]; exact r.len
      · simp only [headsB, Bool.and_eq_true, List.all_eq_true, List.mem_range] at h2
        have hk : k ≤ σ.length := Nat.le_of_ble_eq_true h2.1
        have := Nat.eq_of_beq_eq_true (h2.2 b hb)
        show (if b < σ.length then φ (σ.getD b 0) else none) = some p
        rw [if_pos (by omega), this]; exact hp
    · cases h
  · cases h

/-- A function, from the triple of its body. -/
theorem FSpec.of_tri {C : Cx} {f : FuncId} {fn : Func} {c : Code} {args : List AV} {H L : Hp} {v : AV} (hf : C.P.funcs[f]? = some fn) (hb : fn.body = some c) (hn : (fn.name == "runtime.NumGoroutine") = false)
    (h : Tri C H.length c ⟨startA fn args, H, []⟩ fun o s' => (o = .normal ∨ o = .ret) ∧ s'.H = L ∧ ∃ cs, retA C s' fn.results.toList = some (v, cs) ∧ oks cs) : FSpec C f args H v L := by
  refine ⟨⟨fn, c, hf, hb, hn⟩, fun φ w0 w us hG rel hu hv => calls_of_wp hf hb (wp_mono (h φ w0 w _ hG ⟨rel, fun i x hx => ?_, ?_, rfl⟩) ?_)⟩
  · obtain ⟨h1, h2⟩ := startA_getD hx
    have := hv i h1
    rw [← h2] at this
    simpa [Array.getD, show i < us.size by omega, Array.getElem_append_left, Nat.lt_add_right] using this
  · simp [startA, hu]
  · rintro e a' w' ⟨o, s', ψ, rfl, ⟨ho, hH, cs, hr, hc⟩, hst, hfr⟩
    obtain ⟨u, e1, e2⟩ := retA_sound hst hr hc
    rcases ho with rfl | rfl
    · exact ⟨hst.defs, u, e1, u, ψ, rfl, hH ▸ hst.rel, hH ▸ hfr, e2⟩
    · exact ⟨hst.defs, u, e1, u, ψ, rfl, hH ▸ hst.rel, hH ▸ hfr, e2⟩

end Go.Proofs.Ytmdkhdfckdkceaa.TdAm
