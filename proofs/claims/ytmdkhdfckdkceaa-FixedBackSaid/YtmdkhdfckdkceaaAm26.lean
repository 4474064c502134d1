/- The abstract machine, part 26: what must hold for a piece of code to lead to a goal, reckoned branch by branch. -/
import Derived.Test.YtmdkhdfckdkceaaAm25
namespace Go.Proofs.Ytmdkhdfckdkceaa.TdAm
open Go Go.RowKit
set_option linter.unusedVariables false
set_option linter.unusedSimpArgs false

/-- A branch; what is asked. -/
def Br (b : Bool) (P Q : Prop) : Prop := match b with
  | true => P
  | false => Q
def Rq (b : Bool) (P : Prop) : Prop := match b with
  | true => P
  | false => False
theorem Br_iff {b : Bool} {P Q : Prop} : Br b P Q ↔ (b = true → P) ∧ (b = false → Q) := by cases b <;> simp [Br]
theorem Rq_iff {b : Bool} {P : Prop} : Rq b P ↔ b = true ∧ P := by cases b <;> simp [Rq]
theorem Br_pos {b : Bool} {P Q : Prop} (hb : b = true) (h : P) : Br b P Q := by subst hb; exact h
theorem Br_neg {b : Bool} {P Q : Prop} (hb : b = false) (h : Q) : Br b P Q := by subst hb; exact h
theorem Br_split {b : Bool} {P Q : Prop} (h : b = true → P) (g : b = false → Q) : Br b P Q := Br_iff.2 ⟨h, g⟩
theorem Rq_mk {b : Bool} {P : Prop} (hb : b = true) (h : P) : Rq b P := Rq_iff.2 ⟨hb, h⟩

def rq (c : Chk) (P : Prop) : Prop := match c with
  | .lt a b => Rq (decide (a < b)) P
  | .le a b => Rq (decide (a ≤ b)) P
  | .nlt a b => Rq (Nat.blt a b) P
  | .nle a b => Rq (Nat.ble a b) P
  | .ne a b => Rq (!decide (a = b)) P
  | .tt b c => Rq (b == c) P
  | .pr p => p ∧ P
def rqs : List Chk → Prop → Prop
  | [], P => P
  | c :: r, P => rq c (rqs r P)
theorem rq_iff {c : Chk} {P : Prop} : rq c P ↔ c.ok ∧ P := by
  cases c <;> simp [rq, Rq_iff, Chk.ok, Nat.blt_eq, Nat.ble_eq]
theorem rqs_iff {P : Prop} : ∀ {cs : List Chk}, rqs cs P ↔ oks cs ∧ P
  | [] => by simp [rqs, oks]
  | c :: r => by simp [rqs, oks, rq_iff, rqs_iff (cs := r), and_assoc]

abbrev Post := AV → Hp → List Nat → Prop
abbrev CallW := FuncId → List AV → Hp → Post → Prop
/-- Contracts: what must hold for a call to lead to a goal. -/
abbrev SpecW := FuncId → List AV → Hp → Option (Post → Prop)
/-- The same of blocks that hold a loop. -/
abbrev LSpec := Nat → St → Option ((Out → St → Prop) → Prop)
def noL : LSpec := fun _ _ => none

def callW (KW : CallW) (get : Nat → Option Blk) (id : Nat) (f : FuncId) (args : List AV) (k : AV → List (Nat × Blk) → Nat → List Nat → Prop) : Prop :=
  match foot 100 get (flatR (refs 4) args) [] with
  | none => False
  | some σ => match renL (ren 4 fun b => idx σ b 0) args, pickH get (fun b => idx σ b 0) σ with
    | some args1, some H1 => KW f args1 H1 fun v1 K1 wr => match ren 4 (back σ id) v1, backW σ id K1 (below σ.length wr ++ (List.range (K1.length - σ.length)).map fun j => σ.length + j) with
      | some v, some ws => k v ws (K1.length - σ.length) σ
      | _, _ => False
    | _, _ => False

def opW1 (C : Cx) (KW : CallW) (get : Nat → Option Blk) (ev : Operand → Option AV) (id : Nat) (o : Oper) (k : AV → List (Nat × Blk) → Nat → List Nat → Prop) : Prop :=
  match aop C (within get (topRefs ev o.op.operands.toList)) ev id o with
  | none => False
  | some (r, cs) => rqs cs (match r with
    | .val v => k v [] 0 (topRefs ev o.op.operands.toList)
    | .new v x => k v [(id, x)] 1 (topRefs ev o.op.operands.toList)
    | .write b x v => k v [(b, x)] 0 (topRefs ev o.op.operands.toList)
    | .amb b x v => k v [(b, .dead), (id, x)] 1 (topRefs ev o.op.operands.toList)
    | .call f args => callW KW get id f args fun v ws cnt rd => k v ws cnt (topRefs ev o.op.operands.toList ++ rd))
def opW (C : Cx) (KW : CallW) (get : Nat → Option Blk) (ev : Operand → Option AV) (id : Nat) (o : Oper) (k : AV → List (Nat × Blk) → Nat → List Nat → Prop) : Prop :=
  match o.op with
  | .pick c x y => match ev c with
    | some (.bool b) => Br b (match ev x with | some v => k v [] 0 [] | none => False) (match ev y with | some v => k v [] 0 [] | none => False)
    | _ => False
  | _ => opW1 C KW get ev id o k
/-- What was found of a slot. -/
def markT (s : St) (d : Tmp) (b : Bool) : St := ⟨s.t.set d (some (.bool b)), s.H, s.wr⟩
def mark (s : St) (x : Operand) (b : Bool) : St := match x with
  | .tmp d => markT s d b
  | _ => s
theorem set_same {t : List (Option AV)} {d : Nat} {v : AV} (h : t.getD d none = some v) : t.set d (some v) = t := by
  apply List.ext_getElem?
  intro i
  rw [List.getElem?_set]
  split
  · rename_i e
    subst e
    rw [List.getD_eq_getElem?_getD] at h
    cases hh : t[d]? with
    | none => rw [hh] at h; simp at h
    | some z =>
      rw [hh] at h
      simp only [Option.getD_some] at h
      have hlt : d < t.length := by
        rcases Nat.lt_or_ge d t.length with hl | hl
        · exact hl
        · rw [List.getElem?_eq_none hl] at hh; cases hh
      rw [if_pos hlt, h]
  · rfl
theorem markT_same {s : St} {d : Tmp} {b : Bool} (h : s.t.getD d none = some (.bool b)) : markT s d b = s := by
  unfold markT; rw [set_same h]
theorem mark_same {s : St} {x : Operand} {b : Bool} (h : aev s.t x = some (.bool b)) : mark s x b = s := by
  cases x with
  | tmp d => exact markT_same h
  | _ => rfl
def guardW (ops : Array Oper) (s : St) (o : Oper) (skip run : St → Prop) : Prop :=
  match o.guard with
  | none => run s
  | some (j, want) => match (ops[j]?).bind (·.dst) with
    | none => skip s
    | some d => match s.t.getD d none with
      | some (.bool b) => Br b (match want with | true => run (markT s d true) | false => skip (markT s d true)) (match want with | true => skip (markT s d false) | false => run (markT s d false))
      | some (.tup []) => skip s
      | _ => False
def regW (C : Cx) (KW : CallW) (ops : Array Oper) : List Oper → Nat → St → (St → List Info → Prop) → Prop
  | [], _, s, k => k s []
  | o :: r, i, s, k => guardW ops s o
      (fun s => regW C KW ops r i (Info.app ⟨o, vundef, [], [], i, i⟩ s) fun s2 is => k s2 (⟨o, vundef, [], [], i, i⟩ :: is))
      (fun s => opW C KW (look s.H) (aevW s.t (o.looksAt ops)) i o fun v ws cnt rd =>
        regW C KW ops r (nextId i cnt (putW s.H ws).length) (Info.app ⟨o, v, ws, rd, i, i + (cnt + 1)⟩ s) fun s2 is => k s2 (⟨o, v, ws, rd, i, i + (cnt + 1)⟩ :: is))
def bodyW (C : Cx) (ex : Code → St → (Out → St → Prop) → Prop) (f : FuncId) (args : List AV) (H : Hp) (k : Post) : Prop := match C.P.funcs[f]? with
  | none => False
  | some fn => match fn.body, (fn.name == "runtime.NumGoroutine") with
    | some c, false => ex c ⟨startA fn args, H, []⟩ fun o s1 => match o with
      | .exit _ => False
      | _ => match retA C s1 fn.results.toList with
        | some (v, cs) => rqs cs (k v s1.H s1.wr)
        | none => False
    | _, _ => False
def callF (C : Cx) (S : SpecW) (ex : Code → St → (Out → St → Prop) → Prop) : CallW := fun f args H k => match S f args H with
  | some t => t k
  | none => bodyW C ex f args H k

def wpA (C : Cx) (S : SpecW) : Nat → LSpec → Code → St → (Out → St → Prop) → Prop
  | 0, _, _, _, _ => False
  | n + 1, L, c, s, k => match c with
    | .skip => k .normal s
    | .label _ => k .normal s
    | .exit id => k (.exit id) s
    | .ret => k .ret s
    | .seq a b => wpA C S n L a s fun o s1 => match o with
      | .normal => wpA C S n L b s1 k
      | .exit id => k (.exit id) s1
      | .ret => k .ret s1
    | .cond x a b => match aev s.t x with
      | some (.bool v) => Br v (wpA C S n L a (mark s x true) k) (wpA C S n L b (mark s x false) k)
      | _ => False
    | .block id a => match L id s with
      | some t => t k
      | none => wpA C S n L a s fun o s1 => match o with
        | .exit id' => match Nat.beq id' id with
          | true => k .normal s1
          | false => k (.exit id') s1
        | .normal => k .normal s1
        | .ret => k .ret s1
    | .loop a => wpA C S n L a s fun o s1 => match o with
      | .normal => wpA C S n L (.loop a) s1 k
      | .exit id => k (.exit id) s1
      | .ret => k .ret s1
    | .scope a => wpA C S n L a s k
    | .region _ ops draw => regW C (callF C S (wpA C S n noL)) ops ops.toList s.H.length s fun s2 is => match draw with
      | false => k .normal s2
      | true => Rq (indep ops (ancs ops.toList []) is) (k .normal s2)
    | _ => False

/-! ### soundness -/
def GoodCall (C : Cx) (f : FuncId) (args : List AV) (H : Hp) (v : AV) (L : Hp) (wr : List Nat) : Prop :=
  FSpec C f args H v L ∧ H.length ≤ L.length ∧ ∀ b, b < H.length → hasN wr b = false → look L b = look H b
def KWok (C : Cx) (KW : CallW) : Prop := ∀ f args H k, KW f args H k → ∃ v L wr, GoodCall C f args H v L wr ∧ k v L wr
/-- Answers that are told on the way. -/
def KO (C : Cx) : CallF := fun p f args H => match p with
  | some (.r v L wr :: q) => some (v, L, wr, [.pr (GoodCall C f args H v L wr)], some q)
  | _ => none
theorem KO_ok (C : Cx) : KOk C (KO C) := by
  intro p f args H v L wr cs p1 h hc
  unfold KO at h
  split at h
  · cases h; exact hc.1
  · cases h

theorem callW_sound {C : Cx} {KW : CallW} (hK : KWok C KW) {get : Nat → Option Blk} {id : Nat} {f : FuncId} {args : List AV} {k : AV → List (Nat × Blk) → Nat → List Nat → Prop} (h : callW KW get id f args k) :
    ∃ p v ws cnt rd cs, (∀ q, acall (KO C) get id (some (p ++ q)) f args = some ⟨v, ws, cnt, rd, cs, some q⟩) ∧ oks cs ∧ k v ws cnt rd := by
  unfold callW at h
  split at h
  · exact h.elim
  rename_i σ hσ
  split at h
  · rename_i args1 H1 ha hH
    obtain ⟨v1, L, wr, hg, hk⟩ := hK _ _ _ _ h
    split at hk
    · rename_i v ws hv hws
      refine ⟨[.r v1 L wr], v, ws, _, σ, [.pr (GoodCall C f args1 H1 v1 L wr)], fun q => ?_, ⟨hg, trivial⟩, hk⟩
      unfold acall
      rw [hσ]; dsimp only; rw [ha, hH]; dsimp only [KO, List.cons_append, List.nil_append]; rw [hv, hws]
    · exact hk.elim
  · exact h.elim

theorem opW1_sound {C : Cx} {KW : CallW} (hK : KWok C KW) {get : Nat → Option Blk} {ev : Operand → Option AV} {id : Nat} {o : Oper} {k : AV → List (Nat × Blk) → Nat → List Nat → Prop} (h : opW1 C KW get ev id o k) :
    ∃ p v ws cnt rd cs, (∀ q, opEff1 C (KO C) get ev id (some (p ++ q)) o = some ⟨v, ws, cnt, rd, cs, some q⟩) ∧ oks cs ∧ k v ws cnt rd := by
  unfold opW1 at h
  split at h
  · exact h.elim
  rename_i r cs hop
  obtain ⟨hc, h⟩ := rqs_iff.1 h
  cases r with
  | val v => exact ⟨[], v, _, _, _, cs, fun q => by unfold opEff1; rw [hop]; rfl, hc, h⟩
  | new v x => exact ⟨[], v, _, _, _, cs, fun q => by unfold opEff1; rw [hop]; rfl, hc, h⟩
  | write b x v => exact ⟨[], v, _, _, _, cs, fun q => by unfold opEff1; rw [hop]; rfl, hc, h⟩
  | amb b x v => exact ⟨[], v, _, _, _, cs, fun q => by unfold opEff1; rw [hop]; rfl, hc, h⟩
  | call f args =>
    obtain ⟨p, v, ws, cnt, rd, cs', h1, h2, h3⟩ := callW_sound hK h
    exact ⟨p, v, ws, cnt, _, cs ++ cs', fun q => by unfold opEff1; rw [hop]; dsimp only; rw [h1 q], oks_append.2 ⟨hc, h2⟩, h3⟩

theorem opEff_pick {C : Cx} {K : CallF} {get : Nat → Option Blk} {ev : Operand → Option AV} {id : Nat} {p : Path} {o : Oper} (h : ∀ c x y, o.op ≠ .pick c x y) : opEff C K get ev id p o = opEff1 C K get ev id p o := by
  unfold opEff
  split
  · rename_i c x y hop; exact absurd hop (h c x y)
  · rfl

theorem opW_sound {C : Cx} {KW : CallW} (hK : KWok C KW) {get : Nat → Option Blk} {ev : Operand → Option AV} {id : Nat} {o : Oper} {k : AV → List (Nat × Blk) → Nat → List Nat → Prop} (h : opW C KW get ev id o k) :
    ∃ p v ws cnt rd cs, (∀ q, opEff C (KO C) get ev id (some (p ++ q)) o = some ⟨v, ws, cnt, rd, cs, some q⟩) ∧ oks cs ∧ k v ws cnt rd := by
  unfold opW at h
  split at h
  · rename_i c x y hop
    split at h
    · rename_i b hb
      cases b with
      | true =>
        simp only [Br] at h
        split at h
        · rename_i v hv
          exact ⟨[.b true], v, _, _, _, [.tt true true], fun q => by unfold opEff; rw [hop]; dsimp only; rw [hb]; dsimp only [chooseB, List.cons_append, List.nil_append]; rw [hv], ⟨rfl, trivial⟩, h⟩
        · exact h.elim
      | false =>
        simp only [Br] at h
        split at h
        · rename_i v hv
          exact ⟨[.b false], v, _, _, _, [.tt false false], fun q => by unfold opEff; rw [hop]; dsimp only; rw [hb]; dsimp only [chooseB, List.cons_append, List.nil_append]; rw [hv], ⟨rfl, trivial⟩, h⟩
        · exact h.elim
    · exact h.elim
  · rename_i hne
    obtain ⟨p, v, ws, cnt, rd, cs, h1, h2, h3⟩ := opW1_sound hK h
    exact ⟨p, v, ws, cnt, rd, cs, fun q => by rw [opEff_pick hne]; exact h1 q, h2, h3⟩

theorem guardW_sound {ops : Array Oper} {s : St} {o : Oper} {skip run : St → Prop} (h : guardW ops s o skip run) :
    ∃ p b cs, (∀ q, guardA ops s.t (some (p ++ q)) o = some (b, cs, some q)) ∧ oks cs ∧ (match b with | true => run s | false => skip s) := by
  unfold guardW at h
  split at h
  · rename_i hg
    exact ⟨[], true, [], fun q => by unfold guardA; rw [hg]; rfl, trivial, h⟩
  · rename_i j want hg
    split at h
    · rename_i hd
      exact ⟨[], false, [], fun q => by unfold guardA; rw [hg]; dsimp only; rw [hd]; rfl, trivial, h⟩
    · rename_i d hd
      split at h
      · rename_i b hb
        refine ⟨[.b b], b == want, [.tt b b], fun q => by unfold guardA; rw [hg]; dsimp only; rw [hd]; dsimp only; rw [hb]; rfl, ⟨rfl, trivial⟩, ?_⟩
        cases b <;> cases want <;> (simp only [Br, markT_same hb] at h; exact h)
      · rename_i hb
        exact ⟨[], false, [], fun q => by unfold guardA; rw [hg]; dsimp only; rw [hd]; dsimp only; rw [hb]; rfl, trivial, h⟩
      · exact h.elim

theorem regW_sound {C : Cx} {KW : CallW} (hK : KWok C KW) {ops : Array Oper} : ∀ (l : List Oper) (i : Nat) (s : St) (k : St → List Info → Prop), regW C KW ops l i s k →
    ∃ p s2 is cs, (∀ q, regGo C (KO C) ops l i s (some (p ++ q)) = some (s2, is, cs, some q)) ∧ oks cs ∧ k s2 is
  | [], i, s, k, h => ⟨[], s, [], [], fun q => rfl, trivial, h⟩
  | o :: r, i, s, k, h => by
    simp only [regW] at h
    obtain ⟨p, b, cs, h1, h2, h3⟩ := guardW_sound h
    cases b with
    | false =>
      dsimp only at h3
      obtain ⟨p2, s2, is, c2, g1, g2, g3⟩ := regW_sound hK r _ _ _ h3
      refine ⟨p ++ p2, s2, _, cs ++ c2, fun q => ?_, oks_append.2 ⟨h2, g2⟩, g3⟩
      simp only [regGo]
      rw [List.append_assoc, h1]; dsimp only; rw [g1]
    | true =>
      dsimp only at h3
      obtain ⟨p1, v, ws, cnt, rd, c1, e1, e2, e3⟩ := opW_sound hK h3
      obtain ⟨p2, s2, is, c2, g1, g2, g3⟩ := regW_sound hK r _ _ _ e3
      refine ⟨p ++ (p1 ++ p2), s2, _, cs ++ (c1 ++ c2), fun q => ?_, oks_append.2 ⟨h2, oks_append.2 ⟨e2, g2⟩⟩, g3⟩
      simp only [regGo]
      rw [List.append_assoc, h1]; dsimp only; rw [List.append_assoc, e1]; dsimp only; rw [g1]

/-! ### runs -/
/-- The first k blocks: what is not written stays. -/
structure KeptK (k : Nat) (s s' : St) : Prop where
  len : k ≤ s'.H.length
  old : ∀ b, b < k → hasN s'.wr b = false → hasN s.wr b = false ∧ look s'.H b = look s.H b
theorem KeptK.refl {k : Nat} {s : St} (h : k ≤ s.H.length) : KeptK k s s := ⟨h, fun b _ h => ⟨h, rfl⟩⟩
theorem KeptK.trans {k : Nat} {s s1 s2 : St} (h : KeptK k s s1) (g : KeptK k s1 s2) : KeptK k s s2 :=
  ⟨g.len, fun b hk hb => let ⟨h1, h2⟩ := g.old b hk hb; let ⟨h3, h4⟩ := h.old b hk h1; ⟨h3, h2.trans h4⟩⟩
/-- The code leads from this state to that one, the first k blocks keeping their names. -/
def GoodK (C : Cx) (k : Nat) (c : Code) (s : St) (o : Out) (s' : St) : Prop :=
  KeptK k s s' ∧ ∀ (φ : Phi) (w0 w : World) (a : Act) (Q : Exit → Act → World → Prop), GlobR C w0 → StR φ s w0 w a → (∀ ψ a' w', StR ψ s' w0 w' a' → Fr k φ s.H w ψ s'.H w' → Q o.exitOf a' w') → wpC C.P c Q a w
theorem GoodK.of {C : Cx} {k : Nat} {c : Code} {s s' : St} {o : Out} (h : Good2 C c s o s') (hk : k ≤ s.H.length) : GoodK C k c s o s' :=
  ⟨⟨Nat.le_trans hk h.1.len, fun b _ hb => h.1.old b hb⟩, fun φ w0 w a Q hG r kk => h.2 φ w0 w a Q hG r fun ψ a' w' hr hf => kk ψ a' w' hr (hf.le hk)⟩
/-- The code leads from this state to one of which P holds. -/
def Run (C : Cx) (k : Nat) (c : Code) (s : St) (P : Out → St → Prop) : Prop := k ≤ s.H.length → ∃ o s', GoodK C k c s o s' ∧ P o s'
theorem Run.mono {C : Cx} {k : Nat} {c : Code} {s : St} {P P' : Out → St → Prop} (h : Run C k c s P) (hP : ∀ o s', P o s' → P' o s') : Run C k c s P' :=
  fun hk => let ⟨o, s', g, e⟩ := h hk; ⟨o, s', g, hP o s' e⟩

theorem GoodK.seq {C : Cx} {k : Nat} {x y : Code} {s s1 s' : St} {o : Out} (h1 : GoodK C k x s .normal s1) (h2 : GoodK C k y s1 o s') {q : Code}
    (hq : ∀ (a : Act) (w : World) (Q : Exit → Act → World → Prop), x.wp C.P (Exit.then (wpC C.P y Q) Q) a w → wpC C.P q Q a w) : GoodK C k q s o s' := by
  obtain ⟨k1, g1⟩ := h1
  obtain ⟨k2, g2⟩ := h2
  refine ⟨k1.trans k2, fun φ w0 w a Q hG r k => hq a w Q (wpC_wp ?_)⟩
  refine g1 φ w0 w a _ hG r fun ψ a' w' hr hf => ?_
  show wpC C.P y Q a' w'
  exact g2 ψ w0 w' a' Q hG hr fun χ a2 w2 hr2 hf2 => k χ a2 w2 hr2 (hf.trans hf2)
theorem GoodK.stop {C : Cx} {k : Nat} {x q : Code} {s s1 : St} {o1 : Out} (h : GoodK C k x s o1 s1) (hne : o1 ≠ .normal) (next : (Exit → Act → World → Prop) → Act → World → Prop)
    (hq : ∀ (a : Act) (w : World) (Q : Exit → Act → World → Prop), x.wp C.P (Exit.then (next Q) Q) a w → wpC C.P q Q a w) : GoodK C k q s o1 s1 := by
  obtain ⟨k1, g1⟩ := h
  refine ⟨k1, fun φ w0 w a Q hG r k => hq a w Q (wpC_wp ?_)⟩
  refine g1 φ w0 w a _ hG r fun ψ a' w' hr hf => ?_
  have := k ψ a' w' hr hf
  cases o1 with
  | normal => exact absurd rfl hne
  | exit id => exact this
  | ret => exact this
theorem seqRule {C : Cx} (x y : Code) (a : Act) (w : World) (Q : Exit → Act → World → Prop) (h : x.wp C.P (Exit.then (wpC C.P y Q) Q) a w) : wpC C.P (.seq x y) Q a w :=
  wp_seq (wp_mono h fun e a w h => by
    cases e with
    | normal => exact wpC_wp h
    | _ => exact h)
theorem Run.seq {C : Cx} {k : Nat} {x y : Code} {s : St} {P : Out → St → Prop} (h : Run C k x s fun o s1 => match o with | .normal => Run C k y s1 P | .exit id => P (.exit id) s1 | .ret => P .ret s1) : Run C k (.seq x y) s P := by
  intro hk
  obtain ⟨o, s1, g, e⟩ := h hk
  cases o with
  | normal => obtain ⟨o2, s2, g2, e2⟩ := e g.1.len; exact ⟨o2, s2, g.seq g2 (seqRule x y), e2⟩
  | exit id => exact ⟨_, s1, g.stop (fun h => by cases h) (fun Q => wpC C.P y Q) (seqRule x y), e⟩
  | ret => exact ⟨_, s1, g.stop (fun h => by cases h) (fun Q => wpC C.P y Q) (seqRule x y), e⟩
theorem Run.loop {C : Cx} {k : Nat} {x : Code} {s : St} {P : Out → St → Prop} (h : Run C k x s fun o s1 => match o with | .normal => Run C k (.loop x) s1 P | .exit id => P (.exit id) s1 | .ret => P .ret s1) : Run C k (.loop x) s P := by
  have unroll : ∀ (a : Act) (w : World) (Q : Exit → Act → World → Prop), x.wp C.P (Exit.then (wpC C.P (.loop x) Q) Q) a w → wpC C.P (.loop x) Q a w := fun a w Q h => wpL_next h
  intro hk
  obtain ⟨o, s1, g, e⟩ := h hk
  cases o with
  | normal => obtain ⟨o2, s2, g2, e2⟩ := e g.1.len; exact ⟨o2, s2, g.seq g2 unroll, e2⟩
  | exit id => exact ⟨_, s1, g.stop (fun h => by cases h) (fun Q => wpC C.P (.loop x) Q) unroll, e⟩
  | ret => exact ⟨_, s1, g.stop (fun h => by cases h) (fun Q => wpC C.P (.loop x) Q) unroll, e⟩
theorem Run.block {C : Cx} {k : Nat} {id : Nat} {x : Code} {s : St} {P : Out → St → Prop} (h : Run C k x s fun o s1 => match o with | .exit id' => (match Nat.beq id' id with | true => P .normal s1 | false => P (.exit id') s1) | .normal => P .normal s1 | .ret => P .ret s1) : Run C k (.block id x) s P := by
  intro hk
  obtain ⟨o, s1, ⟨k1, g1⟩, e⟩ := h hk
  cases o with
  | exit id' =>
    dsimp only at e
    split at e
    · rename_i hid
      have hid' : id' = id := Nat.eq_of_beq_eq_true hid
      refine ⟨.normal, s1, ⟨k1, fun φ w0 w a Q hG r k => wp_block (wpC_wp (g1 φ w0 w a _ hG r fun ψ a' w' hr hf => ?_))⟩, e⟩
      show (if id' = id then Q .normal a' w' else Q (.exit id') a' w')
      rw [if_pos hid']; exact k ψ a' w' hr hf
    · rename_i hid
      have hid' : id' ≠ id := fun e => by rw [e, Nat.beq_refl] at hid; cases hid
      refine ⟨.exit id', s1, ⟨k1, fun φ w0 w a Q hG r k => wp_block (wpC_wp (g1 φ w0 w a _ hG r fun ψ a' w' hr hf => ?_))⟩, e⟩
      show (if id' = id then Q .normal a' w' else Q (.exit id') a' w')
      rw [if_neg hid']; exact k ψ a' w' hr hf
  | normal => exact ⟨_, s1, ⟨k1, fun φ w0 w a Q hG r k => wp_block (wpC_wp (g1 φ w0 w a _ hG r fun ψ a' w' hr hf => k ψ a' w' hr hf))⟩, e⟩
  | ret => exact ⟨_, s1, ⟨k1, fun φ w0 w a Q hG r k => wp_block (wpC_wp (g1 φ w0 w a _ hG r fun ψ a' w' hr hf => k ψ a' w' hr hf))⟩, e⟩
theorem Run.scope {C : Cx} {k : Nat} {x : Code} {s : St} {P : Out → St → Prop} (h : Run C k x s P) : Run C k (.scope x) s P := by
  intro hk
  obtain ⟨o, s1, ⟨k1, g1⟩, e⟩ := h hk
  refine ⟨o, s1, ⟨k1, fun φ w0 w a Q hG r k => wp_scope_straight (wpC_wp (g1 φ w0 w a _ hG r fun ψ a' w' hr hf => ?_))⟩, e⟩
  have := k ψ a' w' hr hf
  cases o with
  | normal => exact this
  | exit id => exact this
  | ret => exact this
theorem Run.cond {C : Cx} {k : Nat} {x : Operand} {y z : Code} {s : St} {b : Bool} {P : Out → St → Prop} (hx : aev s.t x = some (.bool b)) (h : Run C k (match b with | true => y | false => z) s P) : Run C k (.cond x y z) s P := by
  intro hk
  obtain ⟨o, s1, ⟨k1, g1⟩, e⟩ := h hk
  refine ⟨o, s1, ⟨k1, fun φ w0 w a Q hG r k => ?_⟩, e⟩
  have hv := aev_sound r hx
  have he : a.eval x = .bool b := by generalize a.eval x = u at hv; cases hv; rfl
  cases b with
  | true => exact wp_cond_true he (wpC_wp (g1 φ w0 w a Q hG r k))
  | false => exact wp_cond_false he (wpC_wp (g1 φ w0 w a Q hG r k))
theorem Run.region {C : Cx} {kk : Nat} {KW : CallW} (hK : KWok C KW) (hmix : C.P.follows .mixedOrders = true) {rid : Nat} {ops : Array Oper} {draw : Bool} {s : St} {k : Out → St → Prop}
    (h : regW C KW ops ops.toList s.H.length s fun s2 is => match draw with | false => k .normal s2 | true => Rq (indep ops (ancs ops.toList []) is) (k .normal s2)) : Run C kk (.region rid ops draw) s k := by
  intro hkk
  obtain ⟨p, s2, is, cs, h1, h2, h3⟩ := regW_sound hK _ _ _ _ h
  have hgo := h1 []
  have main : ∀ hr : regionA C (KO C) ops draw s (some (p ++ [])) = some (.normal, s2, cs, some []), k .normal s2 → ∃ o s', GoodK C kk (.region rid ops draw) s o s' ∧ k o s' := fun hr hk =>
    ⟨.normal, s2, GoodK.of ⟨regionA_kept hr, fun φ w0 w a Q hG r kk => regionA_sound (KO_ok C) hG hmix hr h2 r kk⟩ hkk, hk⟩
  cases draw with
  | false => exact main (by unfold regionA; rw [hgo]) h3
  | true =>
    obtain ⟨hi, hk⟩ := Rq_iff.1 h3
    exact main (by unfold regionA; rw [hgo]; dsimp only; rw [hi]) hk

/-- The blocks of a piece of code. -/
def blks : Code → List (Nat × Code)
  | .seq a b => blks a ++ blks b
  | .cond _ a b => blks a ++ blks b
  | .block id a => (id, a) :: blks a
  | .loop a => blks a
  | .scope a => blks a
  | _ => []
def LSOk (C : Cx) (kk : Nat) (L : LSpec) (c : Code) : Prop := ∀ id a, (id, a) ∈ blks c → ∀ s t k, L id s = some t → t k → Run C kk (.block id a) s k
theorem noL_ok (C : Cx) (kk : Nat) (c : Code) : LSOk C kk noL c := fun id a _ s t k h => by cases h

def SWok (C : Cx) (S : SpecW) : Prop := ∀ f args H t k, S f args H = some t → t k → ∃ v L wr, GoodCall C f args H v L wr ∧ k v L wr

theorem bodyW_sound {C : Cx} {ex : Code → St → (Out → St → Prop) → Prop} {f : FuncId} {args : List AV} {H : Hp} (hex : ∀ fn c s k, C.P.funcs[f]? = some fn → fn.body = some c → ex c s k → Run C H.length c s k) {k : Post} (h : bodyW C ex f args H k) :
    ∃ v L wr, GoodCall C f args H v L wr ∧ k v L wr := by
  unfold bodyW at h
  split at h
  · exact h.elim
  rename_i fn hfn
  split at h
  · rename_i c hbody hname
    obtain ⟨o, s1, ⟨hk, hg⟩, e⟩ := hex _ _ _ _ hfn hbody h (Nat.le_refl _)
    have main : (o = .normal ∨ o = .ret) → ∀ v' c1, retA C s1 fn.results.toList = some (v', c1) → rqs c1 (k v' s1.H s1.wr) → ∃ v L wr, GoodCall C f args H v L wr ∧ k v L wr := by
      intro ho v' c1 hret hcs
      obtain ⟨hc2, hk'⟩ := rqs_iff.1 hcs
      refine ⟨v', s1.H, s1.wr, ⟨⟨⟨fn, c, hfn, hbody, hname⟩, fun φ w0 w us hG rel hu hv => ?_⟩, hk.len, fun b hb hb2 => (hk.old b hb hb2).2⟩, hk'⟩
      refine calls_of_wp hfn hbody ?_
      refine wpC_wp (hg φ w0 w _ _ hG ⟨rel, fun i x hx => ?_, ?_, rfl⟩ fun ψ a' w' hr hf => ?_)
      · obtain ⟨h1, h2⟩ := startA_getD hx
        have := hv i h1
        rw [← h2] at this
        simpa [Array.getD, show i < us.size by omega, Array.getElem_append_left, Nat.lt_add_right] using this
      · simp [startA, hu]
      · obtain ⟨u, e1, e2⟩ := retA_sound hr hret hc2
        rcases ho with rfl | rfl
        · exact ⟨hr.defs, u, e1, u, ψ, rfl, hr.rel, hf, e2⟩
        · exact ⟨hr.defs, u, e1, u, ψ, rfl, hr.rel, hf, e2⟩
    cases o with
    | exit id => exact e.elim
    | normal =>
      dsimp only at e
      split at e
      · rename_i hret; exact main (.inl rfl) _ _ hret e
      · exact e.elim
    | ret =>
      dsimp only at e
      split at e
      · rename_i hret; exact main (.inr rfl) _ _ hret e
      · exact e.elim
  · exact h.elim

theorem wpA_sound {C : Cx} {S : SpecW} (hS : SWok C S) (hmix : C.P.follows .mixedOrders = true) {kk : Nat} : ∀ (n : Nat) (L : LSpec) (c : Code) (s : St) (k : Out → St → Prop), LSOk C kk L c → wpA C S n L c s k → Run C kk c s k := by
  intro n
  induction n generalizing kk with
  | zero => intro L c s k _ h; exact h.elim
  | succ n ih =>
    intro L c s k hL h
    cases c with
    | skip => exact fun hk => ⟨.normal, s, ⟨KeptK.refl hk, fun φ w0 w a Q hG r k => wp_skip (k φ a w r (Fr.refl ..))⟩, h⟩
    | label l => exact fun hk => ⟨.normal, s, ⟨KeptK.refl hk, fun φ w0 w a Q hG r k => wp_label (k φ a w r (Fr.refl ..))⟩, h⟩
    | exit id => exact fun hk => ⟨.exit id, s, ⟨KeptK.refl hk, fun φ w0 w a Q hG r k => wp_exit (k φ a w r (Fr.refl ..))⟩, h⟩
    | ret => exact fun hk => ⟨.ret, s, ⟨KeptK.refl hk, fun φ w0 w a Q hG r k => wp_ret (k φ a w r (Fr.refl ..))⟩, h⟩
    | seq x y =>
      refine Run.seq ((ih L x s _ (fun id a hm => hL id a (by simp [blks, hm])) h).mono fun o s1 e => ?_)
      cases o with
      | normal => exact ih L y s1 k (fun id a hm => hL id a (by simp [blks, hm])) e
      | exit id => exact e
      | ret => exact e
    | cond x y z =>
      simp only [wpA] at h
      split at h
      · rename_i v hv
        refine Run.cond hv ?_
        cases v with
        | true =>
          simp only [Br, mark_same hv] at h
          exact ih L y s k (fun id a hm => hL id a (by simp [blks, hm])) h
        | false =>
          simp only [Br, mark_same hv] at h
          exact ih L z s k (fun id a hm => hL id a (by simp [blks, hm])) h
      · exact h.elim
    | block id x =>
      simp only [wpA] at h
      split at h
      · rename_i t ht
        exact hL id x (by simp [blks]) s t k ht h
      · refine Run.block ((ih L x s _ (fun id a hm => hL id a (by simp [blks, hm])) h).mono fun o s1 e => ?_)
        cases o with
        | exit id' => exact e
        | normal => exact e
        | ret => exact e
    | loop x =>
      refine Run.loop ((ih L x s _ (fun id a hm => hL id a (by simp [blks, hm])) h).mono fun o s1 e => ?_)
      cases o with
      | normal => exact ih L (.loop x) s1 k hL e
      | exit id => exact e
      | ret => exact e
    | scope x => exact Run.scope (ih L x s k (fun id a hm => hL id a (by simp [blks, hm])) h)
    | region rid ops draw =>
      refine Run.region (KW := callF C S (wpA C S n noL)) (fun f args H k h => ?_) hmix h
      unfold callF at h
      split at h
      · rename_i t ht; exact hS _ _ _ _ _ ht h
      · exact bodyW_sound (fun fn c s k _ _ h => ih noL c s k (noL_ok C _ c) h) h
    | _ => exact h.elim

/-- A call, reckoned from its function's body. -/
def funW (C : Cx) (S : SpecW) (n : Nat) (L : LSpec) (f : FuncId) (args : List AV) (H : Hp) (k : Post) : Prop := bodyW C (wpA C S n L) f args H k
def codeOf (C : Cx) (f : FuncId) : Code := match C.P.funcs[f]? with
  | some fn => match fn.body with
    | some c => c
    | none => .skip
  | none => .skip
theorem funW_sound {C : Cx} {S : SpecW} (hS : SWok C S) (hmix : C.P.follows .mixedOrders = true) {n : Nat} {L : LSpec} {f : FuncId} {args : List AV} {H : Hp} (hL : LSOk C H.length L (codeOf C f)) {k : Post} (h : funW C S n L f args H k) :
    ∃ v L wr, GoodCall C f args H v L wr ∧ k v L wr :=
  bodyW_sound (fun fn c s k hf hb h => wpA_sound hS hmix n L c s k (by
    have : codeOf C f = c := by unfold codeOf; rw [hf]; dsimp only; rw [hb]
    rwa [this] at hL) h) h

end Go.Proofs.Ytmdkhdfckdkceaa.TdAm
