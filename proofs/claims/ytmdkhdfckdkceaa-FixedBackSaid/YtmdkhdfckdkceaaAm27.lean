/- The abstract machine, part 27: loops told by what holds at their heads; states seen through some slots. -/
import Derived.Test.YtmdkhdfckdkceaaAm26
namespace Go.Proofs.Ytmdkhdfckdkceaa.TdAm
open Go Go.RowKit
set_option linter.unusedVariables false
set_option linter.unusedSimpArgs false

/-- What is seen of a state: how many slots, some of them, the blocks, what was written. -/
structure View where
  n : Nat
  vs : List (Option AV)
  H : Hp
  wr : List Nat
def obs (ids : List Nat) (s : St) : View := ⟨s.t.length, ids.map fun i => s.t.getD i none, s.H, s.wr⟩
def mkT (n : Nat) : List Nat → List (Option AV) → List (Option AV)
  | i :: is, v :: vs => (mkT n is vs).set i v
  | _, _ => List.replicate n none
/-- The state that is just what is seen. -/
def stV (ids : List Nat) (x : View) : St := ⟨mkT x.n ids x.vs, x.H, x.wr⟩

theorem mkT_length {n : Nat} : ∀ (ids : List Nat) (vs : List (Option AV)), (mkT n ids vs).length = n
  | [], _ => by simp [mkT]
  | _ :: _, [] => by simp [mkT]
  | i :: is, v :: vs => by simp [mkT, mkT_length is vs]
theorem mkT_getD {n : Nat} {t : List (Option AV)} : ∀ (ids : List Nat) (i : Nat) (v : AV), (mkT n ids (ids.map fun i => t.getD i none)).getD i none = some v → t.getD i none = some v
  | [], i, v, h => by
    simp only [mkT, List.map_nil, List.getD_eq_getElem?_getD, List.getElem?_replicate] at h
    split at h <;> simp at h
  | j :: is, i, v, h => by
    simp only [mkT, List.map_cons] at h
    by_cases e : j = i
    · subst e
      rw [List.getD_eq_getElem?_getD, List.getElem?_set_self'] at h
      cases hh : (mkT n is (is.map fun i => t.getD i none))[j]? with
      | none => rw [hh] at h; simp at h
      | some z => rw [hh] at h; simpa using h
    · rw [List.getD_eq_getElem?_getD, List.getElem?_set_ne e, ← List.getD_eq_getElem?_getD] at h
      exact mkT_getD is i v h

/-- A state is as good as what is seen of it. -/
theorem sub_obs {k : Nat} {ids : List Nat} {s : St} {x : View} (h1 : x.n = s.t.length) (h2 : x.vs = (obs ids s).vs) (h3 : x.H = s.H) : Sub k s (stV ids x) := by
  intro φ w0 w a r
  refine ⟨φ, ⟨?_, fun i v hv => r.slots i v ?_, ?_, r.defs⟩, ?_⟩
  · show RelH φ x.H w0 w; rw [h3]; exact r.rel
  · have hv' : (mkT x.n ids x.vs).getD i none = some v := hv
    rw [h2] at hv'
    exact mkT_getD ids i v hv'
  · show (mkT x.n ids x.vs).length = _
    rw [mkT_length, h1]; exact r.len
  · show Fr k φ s.H w φ x.H w
    rw [h3]; exact Fr.refl ..

theorem Sub.trans {k : Nat} {s s1 s2 : St} (h : Sub k s s1) (g : Sub k s1 s2) : Sub k s s2 := by
  intro φ w0 w a r
  obtain ⟨ψ, r1, f1⟩ := h φ w0 w a r
  obtain ⟨χ, r2, f2⟩ := g ψ w0 w a r1
  exact ⟨χ, r2, f1.trans f2⟩
theorem GoodK.weak {C : Cx} {k : Nat} {c : Code} {s s1 s2 : St} {o : Out} (h : GoodK C k c s o s1) (hs : Sub k s1 s2) (hk : KeptK k s1 s2) : GoodK C k c s o s2 := by
  obtain ⟨h1, g⟩ := h
  refine ⟨h1.trans hk, fun φ w0 w a Q hG r k => g φ w0 w a Q hG r fun ψ a' w' hr hf => ?_⟩
  obtain ⟨χ, hr2, hf2⟩ := hs ψ w0 w' a' hr
  exact k χ a' w' hr2 (hf.trans hf2)
/-- From a state that is as good. -/
theorem GoodK.from {C : Cx} {k : Nat} {c : Code} {s0 s s1 : St} {o : Out} (hs : Sub k s0 s) (hk : KeptK k s0 s) (h : GoodK C k c s o s1) : GoodK C k c s0 o s1 := by
  obtain ⟨h1, g⟩ := h
  refine ⟨hk.trans h1, fun φ w0 w a Q hG r k => ?_⟩
  obtain ⟨χ, hr2, hf2⟩ := hs φ w0 w a r
  exact g χ w0 w a Q hG hr2 fun ψ a' w' hr hf => k ψ a' w' hr (hf2.trans hf)

/-- What is seen leads on to another view, without a step: names changed, things forgotten. -/
def Leads (k : Nat) (ids : List Nat) (v v' : View) : Prop := ∀ s, obs ids s = v → k ≤ s.H.length → Sub k s (stV ids v') ∧ KeptK k s (stV ids v')
theorem Leads.refl (k : Nat) (ids : List Nat) (v : View) : Leads k ids v v := by
  rintro s rfl hk
  exact ⟨sub_obs rfl rfl rfl, ⟨hk, fun b _ h => ⟨h, rfl⟩⟩⟩
theorem Leads.of_eq {k : Nat} {ids : List Nat} {v v' : View} (h : v = v') : Leads k ids v v' := h ▸ Leads.refl k ids v
/-- More may have been written. -/
theorem Leads.wr {k : Nat} {ids : List Nat} {n : Nat} {vs : List (Option AV)} {H : Hp} {wr wr' : List Nat} (h : ∀ b, b < k → hasN wr' b = false → hasN wr b = false) : Leads k ids ⟨n, vs, H, wr⟩ ⟨n, vs, H, wr'⟩ := by
  intro s hs hk
  have h1 : (obs ids s).n = n := by rw [hs]
  have h2 : (obs ids s).vs = vs := by rw [hs]
  have h3 : (obs ids s).H = H := by rw [hs]
  have h4 : (obs ids s).wr = wr := by rw [hs]
  refine ⟨sub_obs h1.symm h2.symm h3.symm, ⟨?_, fun b hb hw => ⟨?_, ?_⟩⟩⟩
  · show k ≤ H.length; rw [← h3]; exact hk
  · show hasN s.wr b = false
    have h4' : s.wr = wr := h4
    rw [h4']; exact h b hb hw
  · show look H b = look s.H b
    rw [← h3]; rfl
/-- The same, whatever was written. -/
theorem Leads.like {k : Nat} {ids : List Nat} {v v' : View} (h : (⟨v.n, v.vs, v.H, []⟩ : View) = ⟨v'.n, v'.vs, v'.H, []⟩) (hw : ∀ b, b < k → hasN v'.wr b = false → hasN v.wr b = false) : Leads k ids v v' := by
  obtain ⟨n, vs, H, wr⟩ := v
  obtain ⟨n', vs', H', wr'⟩ := v'
  cases h
  exact Leads.wr hw
theorem stV_obs {ids : List Nat} (hn : nodupB ids = true) {v : View} (hl : v.vs.length = ids.length) (hm : ∀ i, i ∈ ids → i < v.n) : obs ids (stV ids v) = v := by
  obtain ⟨n, vs, H, wr⟩ := v
  have key : ∀ (ids : List Nat) (vs : List (Option AV)), nodupB ids = true → vs.length = ids.length → (∀ i, i ∈ ids → i < n) → ids.map (fun i => (mkT n ids vs).getD i none) = vs := by
    intro ids
    induction ids with
    | nil => intro vs _ h _; simp at h; subst h; rfl
    | cons i is ih =>
      intro vs hn h hm
      cases vs with
      | nil => simp at h
      | cons v vs =>
        simp only [nodupB, Bool.and_eq_true, Bool.not_eq_true'] at hn
        have hi : i < n := hm i (by simp)
        have hlen : (mkT n is vs).length = n := mkT_length is vs
        simp only [List.map_cons, mkT]
        congr 1
        · simp [List.getD_eq_getElem?_getD, List.getElem?_set, hlen, hi]
        · rw [← ih vs hn.2 (by simpa using h) (fun j hj => hm j (by simp [hj]))]
          have hvs : is.map (fun i => (mkT n is vs).getD i none) = vs := ih vs hn.2 (by simpa using h) (fun j hj => hm j (by simp [hj]))
          apply List.map_congr_left
          intro j hj
          have hne : i ≠ j := fun e => by
            subst e
            rw [hasN_iff.2 hj] at hn; cases hn.1
          rw [hvs]
          simp [List.getD_eq_getElem?_getD, List.getElem?_set, hne]
  unfold obs stV
  simp only [mkT_length]
  congr 1
  exact key ids vs hn hl hm
theorem Leads.trans {k : Nat} {ids : List Nat} {v v1 v2 : View} (ho : obs ids (stV ids v1) = v1) (h : Leads k ids v v1) (g : Leads k ids v1 v2) : Leads k ids v v2 := by
  intro s hs hk
  obtain ⟨a, b⟩ := h s hs hk
  obtain ⟨c, d⟩ := g _ ho b.len
  exact ⟨a.trans c, b.trans d⟩

/-- Slots under new names of blocks. -/
def renO (ρ : Nat → Option Nat) : List (Option AV) → List (Option AV)
  | [] => []
  | none :: r => none :: renO ρ r
  | some v :: r => ren 4 ρ v :: renO ρ r
theorem renO_map {ρ : Nat → Option Nat} (g : Nat → Option AV) : ∀ (l : List Nat), renO ρ (l.map g) = l.map fun i => (g i).bind (ren 4 ρ)
  | [] => rfl
  | i :: r => by
    simp only [List.map_cons]
    cases h : g i with
    | none => simp [renO, renO_map g r]
    | some v => simp [renO, renO_map g r]
/-- Only the blocks σ are kept, in that order; the first k are the first k. -/
def cutV (k : Nat) (σ : List Nat) (v : View) : Option View := match nodupB σ, headsB k σ with
  | true, true => match pickH (look v.H) (fun b => idx σ b 0) σ with
    | some H1 => some ⟨v.n, renO (fun b => idx σ b 0) v.vs, H1, v.wr⟩
    | none => none
  | _, _ => none
theorem mkT_bind {n : Nat} {t : List (Option AV)} {ρ : Nat → Option Nat} : ∀ (ids : List Nat) (i : Nat) (v : AV), (mkT n ids (ids.map fun i => (t.getD i none).bind (ren 4 ρ))).getD i none = some v → ∃ x, t.getD i none = some x ∧ ren 4 ρ x = some v
  | [], i, v, h => by
    simp only [mkT, List.map_nil, List.getD_eq_getElem?_getD, List.getElem?_replicate] at h
    split at h <;> simp at h
  | j :: is, i, v, h => by
    simp only [mkT, List.map_cons] at h
    by_cases e : j = i
    · subst e
      rw [List.getD_eq_getElem?_getD, List.getElem?_set_self'] at h
      cases hh : (mkT n is (is.map fun i => (t.getD i none).bind (ren 4 ρ)))[j]? with
      | none => rw [hh] at h; simp at h
      | some z =>
        rw [hh] at h
        replace h : (t.getD j none).bind (ren 4 ρ) = some v := h
        cases ht : t.getD j none with
        | none => rw [ht] at h; simp at h
        | some x => rw [ht] at h; exact ⟨x, rfl, h⟩
    · rw [List.getD_eq_getElem?_getD, List.getElem?_set_ne e, ← List.getD_eq_getElem?_getD] at h
      exact mkT_bind is i v h
/-- Blocks that nobody asks for any more are let go; the others get new names, but for the first k. -/
theorem Leads.cut {k : Nat} {ids : List Nat} (σ : List Nat) {v v' : View} (h : cutV k σ v = some v') (hold : ∀ b, b < k → hasN v.wr b = false → look v'.H b = look v.H b) : Leads k ids v v' := by
  rintro s rfl hk
  unfold cutV at h
  split at h
  · rename_i h1 h2
    split at h
    · rename_i H1 hH
      cases h
      have hH' : pickH (look s.H) (fun b => idx σ b 0) σ = some H1 := hH
      simp only [headsB, Bool.and_eq_true, List.all_eq_true, List.mem_range] at h2
      have hkσ : k ≤ σ.length := Nat.le_of_ble_eq_true h2.1
      have hat : ∀ b, b < k → σ.getD b 0 = b := fun b hb => Nat.eq_of_beq_eq_true (h2.2 b hb)
      obtain ⟨hl1, hlook⟩ := pickH_spec hH'
      refine ⟨fun φ w0 w a r => ?_, ⟨by show k ≤ H1.length; omega, fun b hb hw => ⟨hw, hold b hb hw⟩⟩⟩
      obtain ⟨rel, ho, hf⟩ := r.rel.pick (nodupB_spec h1) hH'
      refine ⟨phiOf φ σ, ⟨rel, fun i v hv => ?_, ?_, r.defs⟩, ⟨fun b p hb hp => ?_, Nat.le_refl _, fun _ _ _ => rfl, fun j hj => .inl (ho j hj)⟩⟩
      · have hv' : (mkT s.t.length ids (renO (fun b => idx σ b 0) (ids.map fun i => s.t.getD i none))).getD i none = some v := hv
        rw [renO_map] at hv'
        obtain ⟨x, hx, hr⟩ := mkT_bind ids i v hv'
        exact ren_fwd hf 4 (r.slots i x hx) hr
      · show (mkT s.t.length ids _).length = _
        rw [mkT_length]; exact r.len
      · show (if b < σ.length then φ (σ.getD b 0) else none) = some p
        rw [if_pos (by omega), hat b hb]; exact hp
    · cases h
  · cases h
/-- What a round leads to. -/
def roundK {X : Type} (k : Nat) (ids : List Nat) (hd : X → View) (I : X → Prop) (μ : X → Nat) (id : Nat) (P : Out → View → Prop) (x : X) (o : Out) (v : View) : Prop := match o with
  | .normal => ∃ y, I y ∧ μ y < μ x ∧ Leads k ids v (hd y)
  | .exit id' => match Nat.beq id' id with
    | true => P .normal v
    | false => P (.exit id') v
  | .ret => P .ret v

/-- A block that is a loop: of each head of which I tells, the round leads to another one, which is lower, or out. -/
theorem loop_block {C : Cx} {S : SpecW} (hS : SWok C S) (hmix : C.P.follows .mixedOrders = true) {k fuel : Nat} {ids : List Nat} {id : Nat} {body : Code} {X : Type} (hd : X → View) (I : X → Prop) (μ : X → Nat) (L : X → LSpec)
    (hL : ∀ x, I x → LSOk C k (L x) body) {P : Out → View → Prop} (round : ∀ x, I x → wpA C S fuel (L x) body (stV ids (hd x)) fun o s => roundK k ids hd I μ id P x o (obs ids s))
    {s : St} {v0 : View} (hs : obs ids s = v0) {x : X} (hx : I x) (h0 : Leads k ids v0 (hd x)) {q : Out → St → Prop} (hq : ∀ o v, P o v → q o (stV ids v)) :
    Run C k (.block id (.loop body)) s q := by
  let P' : Out → View → Prop := fun o v => match o with
    | .exit id' => match Nat.beq id' id with
      | true => P .normal v
      | false => P (.exit id') v
    | .ret => P .ret v
    | .normal => False
  have key : ∀ (n : Nat) (x : X), μ x = n → I x → k ≤ (hd x).H.length → ∃ o s', GoodK C k (.loop body) (stV ids (hd x)) o s' ∧ P' o (obs ids s') := by
    intro n
    induction n using Nat.strongRecOn with
    | _ n ih =>
      intro x hn hx hk
      obtain ⟨o, s1, g, e⟩ := wpA_sound hS hmix fuel (L x) body _ _ (hL x hx) (round x hx) hk
      have unroll : ∀ (a : Act) (w : World) (Q : Exit → Act → World → Prop), body.wp C.P (Exit.then (wpC C.P (.loop body) Q) Q) a w → wpC C.P (.loop body) Q a w := fun a w Q h => wpL_next h
      cases o with
      | normal =>
        obtain ⟨y, hy, hlt, hl⟩ := e
        obtain ⟨hsub, hkept⟩ := hl s1 rfl g.1.len
        obtain ⟨o2, s2, g2, hk2⟩ := ih (μ y) (hn ▸ hlt) y rfl hy hkept.len
        exact ⟨o2, s2, (g.weak hsub hkept).seq g2 unroll, hk2⟩
      | exit id => exact ⟨_, s1, g.stop (fun h => by cases h) (fun Q => wpC C.P (.loop body) Q) unroll, e⟩
      | ret => exact ⟨_, s1, g.stop (fun h => by cases h) (fun Q => wpC C.P (.loop body) Q) unroll, e⟩
  have r : Run C k (.loop body) s fun o s' => ∃ v, s' = stV ids v ∧ P' o v := by
    intro hk
    obtain ⟨hsub, hkept⟩ := h0 s hs hk
    obtain ⟨o, s1, g, hP⟩ := key _ x rfl hx hkept.len
    have hw := Leads.refl k ids (obs ids s1) s1 rfl g.1.len
    exact ⟨o, _, (GoodK.from hsub hkept g).weak hw.1 hw.2, obs ids s1, rfl, hP⟩
  refine Run.block (r.mono fun o s' h => ?_)
  obtain ⟨v, rfl, h⟩ := h
  cases o with
  | normal => exact h.elim
  | ret => exact hq _ _ h
  | exit id' =>
    have h2 : (match Nat.beq id' id with | true => P .normal v | false => P (.exit id') v) := h
    dsimp only
    split at h2
    · rename_i e; rw [e]; exact hq _ _ h2
    · rename_i e; rw [e]; exact hq _ _ h2

/-- nil, taken as a row of none. -/
def nilV (i : Nat) (ids : List Nat) (k : IntKind) (z : Nat) (v : View) : View := ⟨v.n, (ids.zip v.vs).map fun p => match Nat.beq p.1 i with
  | true => some (.sl v.H.length 0 0 0 z)
  | false => p.2, v.H ++ [some (.ints k [] true)], v.wr⟩

theorem mkT_at {n : Nat} : ∀ (ids : List Nat) (vs : List (Option AV)) (j : Nat) (x : AV), (mkT n ids vs).getD j none = some x → ∃ m : Nat, ids[m]? = some j ∧ vs[m]? = some (some x)
  | [], vs, j, x, h => by
    simp only [mkT, List.getD_eq_getElem?_getD, List.getElem?_replicate] at h
    split at h <;> simp at h
  | _ :: _, [], j, x, h => by
    simp only [mkT, List.getD_eq_getElem?_getD, List.getElem?_replicate] at h
    split at h <;> simp at h
  | i :: is, v :: vs, j, x, h => by
    simp only [mkT] at h
    by_cases e : i = j
    · subst e
      rw [List.getD_eq_getElem?_getD, List.getElem?_set_self'] at h
      cases hh : (mkT n is vs)[i]? with
      | none => rw [hh] at h; simp at h
      | some z => rw [hh] at h; exact ⟨0, rfl, by simpa using h⟩
    · rw [List.getD_eq_getElem?_getD, List.getElem?_set_ne e, ← List.getD_eq_getElem?_getD] at h
      obtain ⟨m, h1, h2⟩ := mkT_at is vs j x h
      exact ⟨m + 1, by simpa using h1, by simpa using h2⟩
theorem Leads.nil {k : Nat} {ids : List Nat} (i : Nat) (kd : IntKind) (z : Nat) {v v' : View} (h : nilV i ids kd z v = v') (hi : (ids.zip v.vs).all (fun p => !Nat.beq p.1 i || (match p.2 with | some .nils => true | _ => false)) = true) : Leads k ids v v' := by
  subst h
  rintro s rfl hk
  refine ⟨fun φ w0 w a r => ?_, ⟨by show k ≤ (s.H ++ _).length; simp; omega, fun b hb hw => ⟨hw, ?_⟩⟩⟩
  · let ψ : Phi := fun b => if b = s.H.length then some ⟨0, 0, 0, true⟩ else φ b
    have hψ : ∀ b, b ≠ s.H.length → ψ b = φ b := fun b hb => if_neg hb
    have hψ0 : ψ s.H.length = some ⟨0, 0, 0, true⟩ := if_pos rfl
    have hlook : ∀ b, b < s.H.length → look (s.H ++ [some (.ints kd [] true)]) b = look s.H b := fun b hb => by
      simp [look, List.getD_eq_getElem?_getD, List.getElem?_append_left hb]
    have hlook0 : look (s.H ++ [some (.ints kd [] true)]) s.H.length = some (.ints kd [] true) := by simp [look]
    have hlook1 : ∀ b, s.H.length < b → look (s.H ++ [some (.ints kd [] true)]) b = none := fun b hb => by
      simp only [look, List.getD_eq_getElem?_getD]
      rw [List.getElem?_eq_none (by simp; omega)]; rfl
    have hout : ∀ b, s.H.length ≤ b → φ b = none := fun b hb => r.rel.fresh b (by simp [look, List.getD_eq_getElem?_getD, List.getElem?_eq_none hb])
    have hle : PhiLe φ ψ := fun b p hp => by
      by_cases e : b = s.H.length
      · rw [hout b (by omega)] at hp; cases hp
      · rw [hψ b e]; exact hp
    have own : ∀ j, owns ψ (s.H ++ [some (.ints kd [] true)]) j → owns φ s.H j := by
      rintro j ⟨b, x, p, hb, hl, hp, hs, hj⟩
      by_cases e : b = s.H.length
      · subst e; rw [hψ0] at hp; cases hp; simp at hs
      · rw [hψ b e] at hp
        have hlt : b < s.H.length := by
          rcases Nat.lt_trichotomy b s.H.length with g | g | g
          · exact g
          · exact absurd g e
          · rw [hlook1 b g] at hb; cases hb
        rw [hlook b hlt] at hb
        exact ⟨b, x, p, hb, hl, hp, hs, hj⟩
    refine ⟨ψ, ⟨⟨r.rel.below, fun b x hb => ?_, fun j hj => r.rel.base j (own j hj), ?_, fun b hb => ?_⟩, fun j x hx => ?_, ?_, r.defs⟩, ⟨fun b p hb hp => hle b p hp, Nat.le_refl _, fun _ _ _ => rfl, fun j hj => .inl (own j hj)⟩⟩
    · replace hb : look (s.H ++ [some (.ints kd [] true)]) b = some x := hb
      rcases Nat.lt_trichotomy b s.H.length with g | g | g
      · rw [hlook b g] at hb
        obtain ⟨p, hp, hB⟩ := r.rel.blk b x hb
        exact ⟨p, hle b p hp, hB.mono hle⟩
      · subst g
        rw [hlook0] at hb; cases hb
        exact ⟨_, hψ0, rfl, .inl ⟨rfl, rfl⟩⟩
      · rw [hlook1 b g] at hb; cases hb
    · intro b b' x x' p p' hb hb' hl hl' hp hp' hs hs' he
      replace hb : look (s.H ++ [some (.ints kd [] true)]) b = some x := hb
      replace hb' : look (s.H ++ [some (.ints kd [] true)]) b' = some x' := hb'
      by_cases e : b = s.H.length
      · subst e; rw [hψ0] at hp; cases hp; simp at hs
      by_cases e' : b' = s.H.length
      · subst e'; rw [hψ0] at hp'; cases hp'; simp at hs'
      rw [hψ b e] at hp; rw [hψ b' e'] at hp'
      have hlt : b < s.H.length := by
        rcases Nat.lt_trichotomy b s.H.length with g | g | g
        · exact g
        · exact absurd g e
        · rw [hlook1 b g] at hb; cases hb
      have hlt' : b' < s.H.length := by
        rcases Nat.lt_trichotomy b' s.H.length with g | g | g
        · exact g
        · exact absurd g e'
        · rw [hlook1 b' g] at hb'; cases hb'
      rw [hlook b hlt] at hb; rw [hlook b' hlt'] at hb'
      exact r.rel.inj b b' x x' p p' hb hb' hl hl' hp hp' hs hs' he
    · replace hb : look (s.H ++ [some (.ints kd [] true)]) b = none := hb
      rcases Nat.lt_trichotomy b s.H.length with g | g | g
      · rw [hlook b g] at hb; rw [hψ b (by omega)]; exact r.rel.fresh b hb
      · subst g; rw [hlook0] at hb; cases hb
      · rw [hψ b (by omega)]; exact hout b (by omega)
    · replace hx : (mkT s.t.length ids ((ids.zip (ids.map fun i => s.t.getD i none)).map fun p => match Nat.beq p.1 i with | true => some (.sl s.H.length 0 0 0 z) | false => p.2)).getD j none = some x := hx
      obtain ⟨m, h1, h2⟩ := mkT_at ids _ j x hx
      have hm : m < ids.length := by
        rcases Nat.lt_or_ge m ids.length with g | g
        · exact g
        · rw [List.getElem?_eq_none g] at h1; cases h1
      have hz : (ids.zip (ids.map fun i => s.t.getD i none))[m]? = some (j, s.t.getD j none) := by
        rw [List.getElem?_zip_eq_some]
        exact ⟨h1, by rw [List.getElem?_map, h1]; rfl⟩
      rw [List.getElem?_map, hz] at h2
      simp only [Option.map_some, Option.some.injEq] at h2
      split at h2
      · rename_i hj
        have hjk : j = i := Nat.eq_of_beq_eq_true hj
        have hall := List.all_eq_true.1 hi (j, s.t.getD j none) (List.mem_of_getElem? hz)
        simp only [hj, Bool.not_true, Bool.false_or] at hall
        split at hall
        · rename_i hnil
          have hv := r.slots j .nils hnil
          cases h2
          generalize a.tmps.getD j undef = u at hv
          cases hv
          exact .sl s.H.length 0 0 0 z ⟨0, 0, 0, true⟩ none 0 hψ0 (Nat.le_refl _) (Nat.le_refl _) (fun h => by omega) (.inl rfl) (fun h => by omega)
        · cases hall
      · exact (r.slots j x h2).mono hle
    · show (mkT s.t.length ids _).length = _
      rw [mkT_length]; exact r.len
  · show look (s.H ++ [some (.ints kd [] true)]) b = look s.H b
    simp [look, List.getD_eq_getElem?_getD, List.getElem?_append_left (show b < s.H.length by omega)]

end Go.Proofs.Ytmdkhdfckdkceaa.TdAm
