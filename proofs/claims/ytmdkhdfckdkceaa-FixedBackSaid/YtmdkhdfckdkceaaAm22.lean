/- The abstract machine, part 22: whole bodies. -/
import Derived.Test.YtmdkhdfckdkceaaAm21
import Derived.Scope
namespace Go.Proofs.Ytmdkhdfckdkceaa.TdAm
open Go Go.RowKit
set_option linter.unusedVariables false
set_option linter.unusedSimpArgs false

/-- Contracts that hold. -/
def SOk (C : Cx) (S : Spec) : Prop := ∀ f args H v L wr cs, S f args H = some (v, L, wr, cs) → oks cs →
  FSpec C f args H v L ∧ H.length ≤ L.length ∧ ∀ b, b < H.length → hasN wr b = false → look L b = look H b

/-- What is not written stays. -/
structure Kept (s s' : St) : Prop where
  len : s.H.length ≤ s'.H.length
  old : ∀ b, hasN s'.wr b = false → hasN s.wr b = false ∧ look s'.H b = look s.H b
theorem Kept.refl (s : St) : Kept s s := ⟨Nat.le_refl _, fun b h => ⟨h, rfl⟩⟩
theorem Kept.trans {s s1 s2 : St} (h : Kept s s1) (k : Kept s1 s2) : Kept s s2 :=
  ⟨Nat.le_trans h.len k.len, fun b hb => let ⟨h1, h2⟩ := k.old b hb; let ⟨h3, h4⟩ := h.old b h1; ⟨h3, h2.trans h4⟩⟩

theorem hasN_append {l m : List Nat} {b : Nat} (h : hasN (l ++ m) b = false) : hasN l b = false ∧ hasN m b = false := by
  refine ⟨?_, ?_⟩
  · cases e : hasN l b with
    | false => rfl
    | true => rw [hasN_iff.2 (List.mem_append_left _ (hasN_iff.1 e))] at h; cases h
  · cases e : hasN m b with
    | false => rfl
    | true => rw [hasN_iff.2 (List.mem_append_right _ (hasN_iff.1 e))] at h; cases h

theorem app_kept (x : Info) (s : St) : Kept s (x.app s) := by
  refine ⟨putW_length x.ws s.H, fun b hb => ?_⟩
  obtain ⟨h1, h2⟩ := hasN_append hb
  refine ⟨h1, ?_⟩
  show look (putW s.H x.ws) b = _
  rw [look_putW]
  cases hw : wl x.ws b with
  | none => rfl
  | some y => rw [hasN_iff.2 (wl_mem hw)] at h2; cases h2

theorem runS_kept : ∀ (is : List Info) (sel : Nat → Bool) (k : Nat) (s : St), Kept s (runS is sel k s)
  | [], sel, k, s => Kept.refl s
  | x :: r, sel, k, s => by
    simp only [runS]
    refine Kept.trans ?_ (runS_kept r sel (k + 1) _)
    cases sel k with
    | true => exact app_kept x s
    | false => exact Kept.refl s

theorem regGo_kept {C : Cx} {K : CallF} {ops : Array Oper} : ∀ (l : List Oper) (k : Nat) (s s2 : St) (p p2 : Path) (is : List Info) (cs : List Chk), regGo C K ops l k s p = some (s2, is, cs, p2) → Kept s s2
  | [], k, s, s2, p, p2, is, cs, h => by simp only [regGo] at h; cases h; exact Kept.refl s
  | o :: r, k, s, s2, p, p2, is, cs, h => by
    simp only [regGo] at h
    split at h
    · cases h
    split at h
    · split at h
      · rename_i hgo; cases h; exact (app_kept _ _).trans (regGo_kept r _ _ _ _ _ _ _ hgo)
      · cases h
    · split at h
      · cases h
      · split at h
        · rename_i hgo; cases h; exact (app_kept _ _).trans (regGo_kept r _ _ _ _ _ _ _ hgo)
        · cases h

theorem regionA_kept {C : Cx} {K : CallF} {ops : Array Oper} {draw : Bool} {s s2 : St} {p p2 : Path} {o : Out} {cs : List Chk} (h : regionA C K ops draw s p = some (o, s2, cs, p2)) : Kept s s2 := by
  unfold regionA at h
  split at h
  · cases h
  rename_i hgo
  split at h
  · cases h; exact regGo_kept _ _ _ _ _ _ _ _ hgo
  · split at h
    · cases h; exact regGo_kept _ _ _ _ _ _ _ _ hgo
    · cases h

theorem more_some {cs : List Chk} {r : Option (Out × St × List Chk × Path)} {o : Out} {s : St} {c : List Chk} {p : Path} (h : more cs r = some (o, s, c, p)) : ∃ c', r = some (o, s, c', p) ∧ c = cs ++ c' := by
  unfold more at h
  split at h
  · cases h; exact ⟨_, rfl, rfl⟩
  · cases h

theorem resA_sound {C : Cx} {φ : Phi} {s : St} {w0 w : World} {a : Act} (r : StR φ s w0 w a) : ∀ (rs : List ResultVar) (l : List AV) (cs : List Chk), resA C s rs = some (l, cs) → oks cs →
    ∃ us : List Value, (rs.mapM (fun | .tmp t => pure (a.tmps.getD t undef) | .cell b t => do loadVar t (← asAddr (a.tmps.getD b undef)) : ResultVar → Sem Value)).run C.P w = .ok us w ∧ us.length = l.length ∧ ∀ j, j < l.length → RV φ w0 (l.getD j .nilp) (us.getD j undef)
  | [], l, cs, h, hc => by
    simp only [resA] at h; cases h
    exact ⟨[], by simp, rfl, fun j hj => by simp at hj⟩
  | .tmp i :: rs, l, cs, h, hc => by
    simp only [resA] at h
    split at h
    · rename_i v l' cs' hv hr
      cases h
      obtain ⟨us, h1, h2, h3⟩ := resA_sound r rs _ _ hr hc
      refine ⟨a.tmps.getD i undef :: us, by rw [List.mapM_cons]; simp only [Sem.run_bind, Sem.run_pure, Result.andThen_ok]; rw [h1]; rfl, by simp [h2], fun j hj => ?_⟩
      cases j with
      | zero => simpa using r.slots i v hv
      | succ j => simpa using h3 j (by simpa using hj)
    · cases h
  | .cell i ty :: rs, l, cs, h, hc => by
    simp only [resA] at h
    split at h
    · rename_i b o l' cs' hv hr
      split at h
      · rename_i x hx
        split at h
        · rename_i v c1 hld
          cases h
          obtain ⟨hc1, hc2⟩ := oks_append.1 hc
          obtain ⟨us, h1, h2, h3⟩ := resA_sound r rs l' cs' hr hc2
          have hp := r.slots i _ hv
          obtain ⟨q, hq, hB⟩ := r.rel.blk b x hx
          generalize htm : a.tmps.getD i undef = ut at hp
          cases hp with
          | ptr _ _ p g =>
            rw [hq] at g; cases g
            obtain ⟨v', u, e1, e2, e3⟩ := aload_sound (P := C.P) (w := w) (w0 := w0) (φ := φ) (a := ⟨q.blk, q.off + o, none⟩) (fun j hj => by
              obtain ⟨_, u, k1, k2, _⟩ := hB.cell (i := o + j) hj
              exact ⟨u, by rw [add_plain', Nat.add_assoc]; exact k1, k2⟩) hld hc1
            cases e1
            have hA : (asAddr (a.tmps.getD i undef)).run C.P w = .ok ⟨q.blk, q.off + o, none⟩ w := by rw [htm]; rfl
            refine ⟨u :: us, by rw [List.mapM_cons]; simp only [Sem.run_bind, hA, Result.andThen_ok, e2, Sem.run_pure]; rw [h1]; rfl, by simp [h2], fun j hj => ?_⟩
            cases j with
            | zero => simpa using e3
            | succ j => simpa using h3 j (by simpa using hj)
        · cases h
      · cases h
    · cases h

theorem retA_sound {C : Cx} {φ : Phi} {s : St} {w0 w : World} {a : Act} (r : StR φ s w0 w a) {fn : Func} {v : AV} {cs : List Chk} (h : retA C s fn.results.toList = some (v, cs)) (hc : oks cs) : ∃ u, (results fn a.tmps).run C.P w = .ok u w ∧ RV φ w0 v u := by
  have key : ∀ l cs', resA C s fn.results.toList = some (l, cs') → oks cs' → ∃ us : List Value, us.length = l.length ∧ (∀ j, j < l.length → RV φ w0 (l.getD j .nilp) (us.getD j undef)) ∧ (results fn a.tmps).run C.P w = .ok (if h : us.toArray.size = 1 then us.toArray[0] else .tuple us.toArray) w := by
    intro l cs' hr hc'
    obtain ⟨us, h1, h2, h3⟩ := resA_sound r _ l cs' hr hc'
    refine ⟨us, h2, h3, ?_⟩
    unfold results
    rw [Array.mapM_eq_mapM_toList]
    simp only [Sem.run_bind, Sem.run_map]
    erw [h1]
    rfl
  unfold retA at h
  split at h
  · rename_i v' cs' hr
    cases h
    obtain ⟨us, h1, h2, h3⟩ := key _ _ hr hc
    obtain ⟨u, rfl⟩ : ∃ u, us = [u] := List.length_eq_one_iff.1 h1
    refine ⟨u, by simpa using h3, by simpa using h2 0 (by simp)⟩
  · rename_i l cs' hne hr
    cases h
    obtain ⟨us, h1, h2, h3⟩ := key _ _ hr hc
    have hlen : us.length ≠ 1 := fun e => by
      rw [h1] at e
      obtain ⟨v, rfl⟩ := List.length_eq_one_iff.1 e
      exact hne v rfl
    refine ⟨.tuple us.toArray, ?_, .tup l us.toArray (by simp [h1]) fun j hj => ?_⟩
    · rw [h3]; simp [hlen]
    · rw [arr_getD_toList]; exact h2 j hj
  · cases h

/-- A loop at its head, its body ahead. -/
def wpL (P : Program) (x : Code) (Q : Exit → Act → World → Prop) (a : Act) (w : World) : Prop :=
  ∀ (b : Frame) (k : List Item) (cs : List Frame), ∃ e a' w', Q e a' w' ∧ Arrives P (lone (b.at a (.code x :: .inLoop x :: k)) cs w) b k cs e a' w'
def wpC (P : Program) (c : Code) (Q : Exit → Act → World → Prop) (a : Act) (w : World) : Prop := match c with
  | .loop x => wpL P x Q a w
  | c => c.wp P Q a w
theorem wpL_wp {P : Program} {x : Code} {Q : Exit → Act → World → Prop} {a : Act} {w : World} (h : wpL P x Q a w) : (Code.loop x).wp P Q a w := by
  intro b k cs
  obtain ⟨e, a', w', hq, harr⟩ := h b k cs
  exact ⟨e, a', w', hq, .of_steps (.one step_loop) harr⟩
theorem wpC_wp {P : Program} {c : Code} {Q : Exit → Act → World → Prop} {a : Act} {w : World} (h : wpC P c Q a w) : c.wp P Q a w := by
  cases c with
  | loop x => exact wpL_wp h
  | _ => exact h
theorem wpL_next {P : Program} {x : Code} {Q : Exit → Act → World → Prop} {a : Act} {w : World} (h : x.wp P (Exit.then (wpL P x Q) Q) a w) : wpL P x Q a w := by
  intro b k cs
  obtain ⟨e, a1, w1, hq, harr⟩ := h b (.inLoop x :: k) cs
  cases e with
  | normal =>
    obtain ⟨e2, a2, w2, hq2, harr2⟩ := hq b k cs
    exact ⟨e2, a2, w2, hq2, .of_steps (Steps.trans harr (.one step_inLoop)) harr2⟩
  | exit id => exact ⟨_, a1, w1, hq, .pass (x := .inLoop x) rfl (fun _ _ => .inl (by simp)) harr⟩
  | goto l => exact ⟨_, a1, w1, hq, .pass (x := .inLoop x) rfl (fun _ _ => .inl (by simp)) harr⟩
  | ret => exact ⟨_, a1, w1, hq, .pass (x := .inLoop x) rfl (fun _ _ => .inl (by simp)) harr⟩
  | panic ch => exact ⟨_, a1, w1, hq, .pass (x := .inLoop x) rfl (fun _ _ => .inl (by simp)) harr⟩
  | outgrown => exact ⟨_, a1, w1, hq, .pass (x := .inLoop x) rfl (fun _ _ => .inl (by simp)) harr⟩

/-- What a run of the abstract machine says of a body. -/
def Good2 (C : Cx) (c : Code) (s : St) (o : Out) (s' : St) : Prop :=
  Kept s s' ∧ ∀ (φ : Phi) (w0 w : World) (a : Act) (Q : Exit → Act → World → Prop), GlobR C w0 → StR φ s w0 w a → (∀ ψ a' w', StR ψ s' w0 w' a' → Fr s.H.length φ s.H w ψ s'.H w' → Q o.exitOf a' w') → wpC C.P c Q a w

theorem startA_getD {fn : Func} {args : List AV} {i : Nat} {v : AV} (h : (startA fn args).getD i none = some v) : i < args.length ∧ v = args.getD i .nilp := by
  unfold startA at h
  simp only [List.getD_eq_getElem?_getD] at h ⊢
  by_cases hi : i < args.length
  · rw [List.getElem?_append_left (by simpa using hi)] at h
    simp [hi] at h ⊢
    exact h.symm
  · rw [List.getElem?_append_right (by simp; omega), List.getElem?_replicate] at h
    split at h <;> simp at h

theorem callK_ok {C : Cx} {S : Spec} {ex : Path → Code → St → Option (Out × St × List Chk × Path)} (hS : SOk C S)
    (hex : ∀ p c s o s' cs p', ex p c s = some (o, s', cs, p') → oks cs → Good2 C c s o s') : KOk C (callK C S ex) := by
  intro p f args H v L wr cs p1 h hc
  unfold callK at h
  split at h
  · rename_i hs
    cases h
    exact hS _ _ _ _ _ _ _ hs hc
  · split at h
    · cases h
    rename_i fn hfn
    split at h
    · rename_i c hbody hname
      split at h
      · cases h
      rename_i o s1 cs1 p2 hrun
      have main : (o = .normal ∨ o = .ret) → ∀ v' c1, retA C s1 fn.results.toList = some (v', c1) → oks (cs1 ++ c1) → FSpec C f args H v' s1.H ∧ H.length ≤ s1.H.length ∧ ∀ b, b < H.length → hasN s1.wr b = false → look s1.H b = look H b := by
        intro ho v' c1 hret hcs
        obtain ⟨hc1, hc2⟩ := oks_append.1 hcs
        obtain ⟨hk, hg⟩ := hex _ _ _ _ _ _ _ hrun hc1
        refine ⟨⟨⟨fn, c, hfn, hbody, hname⟩, fun φ w0 w us hG rel hu hv => ?_⟩, hk.len, fun b _ hb => (hk.old b hb).2⟩
        refine calls_of_wp hfn hbody ?_
        refine wpC_wp (hg φ w0 w _ _ hG ⟨rel, fun i x hx => ?_, ?_, rfl⟩ fun ψ a' w' hr hf => ?_)
        · obtain ⟨h1, h2⟩ := startA_getD hx
          have := hv i h1
          rw [← h2] at this
          simpa [Array.getD, show i < us.size by omega, Array.getElem_append_left, Nat.lt_add_right] using this
        · simp [startA, hu]
        · obtain ⟨u, e1, e2⟩ := retA_sound hr hret hc2
          rcases ho with rfl | rfl
          · exact ⟨hr.defs, u, e1, u, ψ, rfl, hr.rel, hf, e2⟩
          · exact ⟨hr.defs, u, e1, u, ψ, rfl, hr.rel, hf, e2⟩
      cases o with
      | exit id => cases h
      | normal =>
        dsimp only at h
        split at h
        · rename_i hret; cases h; exact main (.inl rfl) _ _ hret hc
        · cases h
      | ret =>
        dsimp only at h
        split at h
        · rename_i hret; cases h; exact main (.inr rfl) _ _ hret hc
        · cases h
    · cases h

theorem exec_sound {C : Cx} {S : Spec} (hS : SOk C S) (hmix : C.P.follows .mixedOrders = true) : ∀ (n : Nat) (p : Path) (c : Code) (s : St) (o : Out) (s' : St) (cs : List Chk) (p' : Path), exec C S n p c s = some (o, s', cs, p') → oks cs → Good2 C c s o s' := by
  intro n
  induction n with
  | zero => intro p c s o s' cs p' h; simp [exec] at h
  | succ n ih =>
    intro p c s o s' cs p' h hc
    have seqGood : ∀ (x y : Code) (s1 : St) (c1 c' : List Chk) (p1 : Path) (q : Code), exec C S n p x s = some (.normal, s1, c1, p1) → oks c1 → exec C S n p1 y s1 = some (o, s', c', p') → oks c' →
        (∀ (a : Act) (w : World) (Q : Exit → Act → World → Prop), x.wp C.P (Exit.then (wpC C.P y Q) Q) a w → wpC C.P q Q a w) → Good2 C q s o s' := by
      intro x y s1 c1 c' p1 q hx hc1 hy hc2 hq
      obtain ⟨k1, g1⟩ := ih _ _ _ _ _ _ _ hx hc1
      obtain ⟨k2, g2⟩ := ih _ _ _ _ _ _ _ hy hc2
      refine ⟨k1.trans k2, fun φ w0 w a Q hG r k => hq a w Q (wpC_wp ?_)⟩
      refine g1 φ w0 w a _ hG r fun ψ a' w' hr hf => ?_
      show wpC C.P y Q a' w'
      exact g2 ψ w0 w' a' Q hG hr fun χ a2 w2 hr2 hf2 => k χ a2 w2 hr2 (hf.trans (hf2.le k1.len))
    have stop : ∀ (x q : Code) (s1 : St) (c1 : List Chk) (p1 : Path) (o1 : Out), exec C S n p x s = some (o1, s1, c1, p1) → oks c1 → o1 ≠ .normal → ∀ next : (Exit → Act → World → Prop) → Act → World → Prop,
        (∀ (a : Act) (w : World) (Q : Exit → Act → World → Prop), x.wp C.P (Exit.then (next Q) Q) a w → wpC C.P q Q a w) → Good2 C q s o1 s1 := by
      intro x q s1 c1 p1 o1 hx hc1 hne next hq
      obtain ⟨k1, g1⟩ := ih _ _ _ _ _ _ _ hx hc1
      refine ⟨k1, fun φ w0 w a Q hG r k => hq a w Q (wpC_wp ?_)⟩
      refine g1 φ w0 w a _ hG r fun ψ a' w' hr hf => ?_
      have := k ψ a' w' hr hf
      cases o1 with
      | normal => exact absurd rfl hne
      | exit id => exact this
      | ret => exact this
    have seqRule : ∀ (x y : Code) (a : Act) (w : World) (Q : Exit → Act → World → Prop), x.wp C.P (Exit.then (wpC C.P y Q) Q) a w → wpC C.P (.seq x y) Q a w := fun x y a w Q h =>
      wp_seq (wp_mono h fun e a w h => by
        cases e with
        | normal => exact wpC_wp h
        | _ => exact h)
    cases c with
    | skip => simp only [exec] at h; cases h; exact ⟨Kept.refl s, fun φ w0 w a Q hG r k => wp_skip (k φ a w r (Fr.refl ..))⟩
    | label l => simp only [exec] at h; cases h; exact ⟨Kept.refl s, fun φ w0 w a Q hG r k => wp_label (k φ a w r (Fr.refl ..))⟩
    | exit id => simp only [exec] at h; cases h; exact ⟨Kept.refl s, fun φ w0 w a Q hG r k => wp_exit (k φ a w r (Fr.refl ..))⟩
    | ret => simp only [exec] at h; cases h; exact ⟨Kept.refl s, fun φ w0 w a Q hG r k => wp_ret (k φ a w r (Fr.refl ..))⟩
    | seq x y =>
      simp only [exec] at h
      split at h
      · rename_i s1 c1 p1 hx
        obtain ⟨c', hy, rfl⟩ := more_some h
        obtain ⟨hc1, hc2⟩ := oks_append.1 hc
        exact seqGood x y s1 c1 c' p1 _ hx hc1 hy hc2 (seqRule x y)
      · rename_i id s1 c1 p1 hx
        cases h
        exact stop x _ _ _ _ _ hx hc (fun e => by cases e) (fun Q => wpC C.P y Q) (seqRule x y)
      · rename_i s1 c1 p1 hx
        cases h
        exact stop x _ _ _ _ _ hx hc (fun e => by cases e) (fun Q => wpC C.P y Q) (seqRule x y)
      · cases h
    | cond x y z =>
      simp only [exec] at h
      split at h
      · rename_i v hv
        split at h
        · rename_i c0 p1 hch
          obtain ⟨c', hy, rfl⟩ := more_some h
          obtain ⟨hc1, hc2⟩ := oks_append.1 hc
          obtain ⟨k1, g1⟩ := ih _ _ _ _ _ _ _ hy hc2
          refine ⟨k1, fun φ w0 w a Q hG r k => wp_cond_true ?_ (wpC_wp (g1 φ w0 w a Q hG r k))⟩
          have := aev_sound r hv
          rw [← chooseB_spec hch hc1] at this
          generalize a.eval x = u at this
          cases this; rfl
        · rename_i c0 p1 hch
          obtain ⟨c', hy, rfl⟩ := more_some h
          obtain ⟨hc1, hc2⟩ := oks_append.1 hc
          obtain ⟨k1, g1⟩ := ih _ _ _ _ _ _ _ hy hc2
          refine ⟨k1, fun φ w0 w a Q hG r k => wp_cond_false ?_ (wpC_wp (g1 φ w0 w a Q hG r k))⟩
          have := aev_sound r hv
          rw [← chooseB_spec hch hc1] at this
          generalize a.eval x = u at this
          cases this; rfl
        · cases h
      · cases h
    | block id x =>
      simp only [exec] at h
      split at h
      · rename_i id' s1 c1 p1 hx
        split at h
        · rename_i hid
          cases h
          have hid' : id' = id := Nat.eq_of_beq_eq_true hid
          obtain ⟨k1, g1⟩ := ih _ _ _ _ _ _ _ hx hc
          refine ⟨k1, fun φ w0 w a Q hG r k => wp_block (wpC_wp (g1 φ w0 w a _ hG r fun ψ a' w' hr hf => ?_))⟩
          show (if id' = id then Q .normal a' w' else Q (.exit id') a' w')
          rw [if_pos hid']; exact k ψ a' w' hr hf
        · rename_i hid
          cases h
          have hid' : id' ≠ id := fun e => by rw [e, Nat.beq_refl] at hid; cases hid
          obtain ⟨k1, g1⟩ := ih _ _ _ _ _ _ _ hx hc
          refine ⟨k1, fun φ w0 w a Q hG r k => wp_block (wpC_wp (g1 φ w0 w a _ hG r fun ψ a' w' hr hf => ?_))⟩
          show (if id' = id then Q .normal a' w' else Q (.exit id') a' w')
          rw [if_neg hid']; exact k ψ a' w' hr hf
      · rename_i s1 c1 p1 hx
        cases h
        obtain ⟨k1, g1⟩ := ih _ _ _ _ _ _ _ hx hc
        exact ⟨k1, fun φ w0 w a Q hG r k => wp_block (wpC_wp (g1 φ w0 w a _ hG r fun ψ a' w' hr hf => k ψ a' w' hr hf))⟩
      · rename_i s1 c1 p1 hx
        cases h
        obtain ⟨k1, g1⟩ := ih _ _ _ _ _ _ _ hx hc
        exact ⟨k1, fun φ w0 w a Q hG r k => wp_block (wpC_wp (g1 φ w0 w a _ hG r fun ψ a' w' hr hf => k ψ a' w' hr hf))⟩
      · cases h
    | loop x =>
      have unroll : ∀ (a : Act) (w : World) (Q : Exit → Act → World → Prop), x.wp C.P (Exit.then (wpC C.P (.loop x) Q) Q) a w → wpC C.P (.loop x) Q a w := fun a w Q h => wpL_next h
      simp only [exec] at h
      split at h
      · rename_i s1 c1 p1 hx
        obtain ⟨c', hy, rfl⟩ := more_some h
        obtain ⟨hc1, hc2⟩ := oks_append.1 hc
        exact seqGood x (.loop x) s1 c1 c' p1 _ hx hc1 hy hc2 unroll
      · rename_i id s1 c1 p1 hx
        cases h
        exact stop x _ _ _ _ _ hx hc (fun e => by cases e) (fun Q => wpC C.P (.loop x) Q) unroll
      · rename_i s1 c1 p1 hx
        cases h
        exact stop x _ _ _ _ _ hx hc (fun e => by cases e) (fun Q => wpC C.P (.loop x) Q) unroll
      · cases h
    | scope x =>
      simp only [exec] at h
      obtain ⟨k1, g1⟩ := ih _ _ _ _ _ _ _ h hc
      refine ⟨k1, fun φ w0 w a Q hG r k => wp_scope_straight (wpC_wp (g1 φ w0 w a _ hG r fun ψ a' w' hr hf => ?_))⟩
      have := k ψ a' w' hr hf
      cases o with
      | normal => exact this
      | exit id => exact this
      | ret => exact this
    | region rid ops draw =>
      simp only [exec] at h
      exact ⟨regionA_kept h, fun φ w0 w a Q hG r k => regionA_sound (callK_ok hS fun p c s o s' cs p' h hc => ih p c s o s' cs p' h hc) hG hmix h hc r k⟩
    | _ => simp only [exec] at h; cases h

end Go.Proofs.Ytmdkhdfckdkceaa.TdAm
