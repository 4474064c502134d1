/- The abstract machine, part 20: regions. -/
import Derived.Test.YtmdkhdfckdkceaaAm19
namespace Go.Proofs.Ytmdkhdfckdkceaa.TdAm
open Go Go.RowKit
set_option linter.unusedVariables false
set_option linter.unusedSimpArgs false

/-- A state of the abstract machine and a frame in a world. -/
structure StR (φ : Phi) (s : St) (w0 w : World) (a : Act) : Prop where
  rel : RelH φ s.H w0 w
  slots : ∀ i v, s.t.getD i none = some v → RV φ w0 v (a.tmps.getD i undef)
  len : s.t.length = a.tmps.size
  defs : a.defers = []

theorem StR.same {φ : Phi} {s s' : St} {w0 w : World} {a : Act} (h : s.same s') (r : StR φ s w0 w a) : StR φ s' w0 w a :=
  ⟨r.rel.congr fun b => (h.H b).symm, fun i v e => r.slots i v ((h.t i).trans e), h.len ▸ r.len, r.defs⟩

theorem aev_sound {φ : Phi} {s : St} {w0 w : World} {a : Act} (r : StR φ s w0 w a) {x : Operand} {v : AV} (h : aev s.t x = some v) : RV φ w0 v (a.eval x) := by
  cases x with
  | tmp i => exact r.slots i v h
  | const c => exact ofV_spec φ w0 6 c v h
  | global g => simp only [aev] at h; cases h; exact .gptr g 0
  | func f => simp only [aev] at h; cases h; exact .fn f [] #[] rfl fun j hj => absurd hj (by simp)

theorem getD_some_lt {t : List (Option AV)} {i : Nat} {v : AV} (h : t.getD i none = some v) : i < t.length := by
  rcases Nat.lt_or_ge i t.length with hl | hl
  · exact hl
  · simp [List.getD_eq_getElem?_getD, List.getElem?_eq_none hl] at h

theorem guardA_sound {φ : Phi} {s : St} {w0 w : World} {a : Act} (r : StR φ s w0 w a) {ops : Array Oper} {p p1 : Path} {o : Oper} {on : Bool} {cs : List Chk} (h : guardA ops s.t p o = some (on, cs, p1)) (hc : oks cs) : Region.wanted o (yielded ops a.tmps) = on := by
  unfold guardA at h
  unfold Region.wanted
  cases hg : o.guard with
  | none => rw [hg] at h; cases h; rfl
  | some jw =>
    obtain ⟨j, want⟩ := jw
    rw [hg] at h
    dsimp only at h ⊢
    unfold yielded
    cases hd : (ops[j]?).bind (·.dst) with
    | none => rw [hd] at h; cases h; rfl
    | some d =>
      rw [hd] at h
      dsimp only at h
      cases ht : s.t.getD d none with
      | none => rw [ht] at h; cases h
      | some v =>
        have hv := r.slots d v ht
        have hlt : d < a.tmps.size := r.len ▸ getD_some_lt ht
        have hget : a.tmps[d]? = some (a.tmps.getD d undef) := by simp [Array.getD, hlt]
        rw [ht] at h
        show ((match (some d : Option Tmp).bind (a.tmps[·]?) with | some (.bool b) => some b | _ => none) == some want) = on
        rw [show (some d : Option Tmp).bind (a.tmps[·]?) = a.tmps[d]? from rfl, hget]
        generalize a.tmps.getD d undef = u at hv
        cases hv with
        | bool b =>
          dsimp only at h
          split at h
          · rename_i c cs' p1' hch
            cases h
            rw [chooseB_spec hch hc]
            rfl
          · cases h
        | tup vs us h1 h2 =>
          cases vs with
          | nil => cases h; rfl
          | cons _ _ => cases h
        | _ => cases h

theorem StR.put {φ ψ : Phi} {s : St} {w0 w w' : World} {a : Act} (r : StR φ s w0 w a) {K : Hp} {wr : List Nat} {v : AV} {u : Value} (d : Option Tmp) (hr : RelH ψ K w0 w') (hle : ∀ b p, b < s.H.length → φ b = some p → ψ b = some p) (hv : RV ψ w0 v u) : StR ψ ⟨putT s.t d v, K, wr⟩ w0 w' (a.put d u) := by
  have hφ : PhiLe φ ψ := fun b p h => hle b p (by
    rcases Nat.lt_or_ge b s.H.length with hl | hl
    · exact hl
    · rw [r.rel.fresh b (by simp [look, List.getD_eq_getElem?_getD, List.getElem?_eq_none hl])] at h; cases h) h
  refine ⟨hr, fun i x hx => ?_, ?_, ?_⟩
  · rw [putT_getD] at hx
    by_cases h : d = some i ∧ i < s.t.length
    · rw [if_pos h] at hx; cases hx
      obtain ⟨rfl, hl⟩ := h
      have hl' : i < a.tmps.size := r.len ▸ hl
      have : ((a.put (some i) u).tmps.getD i undef) = u := by simp [Act.put, Array.getD, hl']
      rw [this]; exact hv
    · rw [if_neg h] at hx
      have hlt := getD_some_lt hx
      have : (a.put d u).tmps.getD i undef = a.tmps.getD i undef := by
        cases d with
        | none => rfl
        | some d =>
          have hne : d ≠ i := fun e => h ⟨by rw [e], hlt⟩
          simp [Act.put, Array.getElem?_setIfInBounds_ne hne]
      rw [this]; exact (r.slots i x hx).mono hφ
  · rw [putT_length, r.len]; cases d <;> simp [Act.put]
  · cases d <;> exact r.defs

/-- What was found at an operation. -/
def StepOk (C : Cx) (K : CallF) (ops : Array Oper) (s : St) (x : Info) : Prop :=
  ∃ k p on c0 p1, s.H.length ≤ k ∧ guardA ops s.t p x.o = some (on, c0, p1) ∧ oks c0 ∧
    match on with
    | true => ∃ e, opEff C K (look s.H) (aevW s.t (x.o.looksAt ops)) k p1 x.o = some e ∧ oks e.cs ∧ x.v = e.v ∧ x.ws = e.ws ∧ x.rd = e.rd ∧ x.lo = k ∧ x.hi = k + (e.cnt + 1)
    | false => x.v = vundef ∧ x.ws = []

theorem guardA_congr {ops : Array Oper} {t t' : List (Option AV)} {p : Path} {o : Oper} (h : ∀ d, d ∈ o.looksAt ops → t'.getD d none = t.getD d none) : guardA ops t' p o = guardA ops t p o := by
  unfold guardA
  cases hg : o.guard with
  | none => rfl
  | some jw =>
    obtain ⟨j, want⟩ := jw
    dsimp only
    cases hd : (ops[j]?).bind (·.dst) with
    | none => rfl
    | some d =>
      dsimp only
      rw [h d (by simp [Oper.looksAt, hg, hd])]

theorem opEff1_congr {C : Cx} {K : CallF} {get get' : Nat → Option Blk} {ev : Operand → Option AV} {id : Nat} {p : Path} {o : Oper} {e : Eff} (h : opEff1 C K get ev id p o = some e) (hg : ∀ b, b ∈ e.rd → get' b = get b) : opEff1 C K get' ev id p o = some e := by
  have hw : ∀ fp : List Nat, (∀ b, b ∈ fp → get' b = get b) → within get' fp = within get fp := fun fp hfp => by
    funext b
    unfold within
    cases hb : hasN fp b with
    | true => exact hfp b (hasN_iff.1 hb)
    | false => rfl
  unfold opEff1 at h ⊢
  have hfp : ∀ b, b ∈ topRefs ev o.op.operands.toList → get' b = get b := by
    intro b hb
    refine hg b ?_
    split at h
    · cases h
    · cases h; exact hb
    · cases h; exact hb
    · cases h; exact hb
    · cases h; exact hb
    · split at h
      · cases h; exact List.mem_append_left _ hb
      · cases h
  rw [hw _ hfp]
  split at h
  · cases h
  · exact h
  · exact h
  · exact h
  · exact h
  · split at h
    · rename_i e' hc
      cases h
      rw [acall_congr hc fun b hb => hg b (List.mem_append_right _ hb)]
    · cases h

theorem opEff_congr {C : Cx} {K : CallF} {get get' : Nat → Option Blk} {ev : Operand → Option AV} {id : Nat} {p : Path} {o : Oper} {e : Eff} (h : opEff C K get ev id p o = some e) (hg : ∀ b, b ∈ e.rd → get' b = get b) : opEff C K get' ev id p o = some e := by
  unfold opEff at h ⊢
  split at h
  · exact h
  · exact opEff1_congr h hg

/-- One operation, in a state that agrees where it looks. -/
theorem step_at {C : Cx} {K : CallF} {ops : Array Oper} {i : Nat} {x : Info} {s T : St} {φ : Phi} {w0 w : World} {a : Act} (hK : KOk C K) (hG : GlobR C w0) (ho : ops[i]? = some x.o) (hs : StepOk C K ops s x)
    (ht : ∀ d, d ∈ x.o.looksAt ops → T.t.getD d none = s.t.getD d none) (hr : ∀ b, b ∈ x.rd → look T.H b = look s.H b) (hn : ∀ b, x.lo ≤ b → b < x.hi → look T.H b = look s.H b)
    (r : StR φ T w0 w a) {Q : Exit → Act → World → Prop} {next : Act → World → Prop} (k : ∀ ψ a' w', StR ψ (x.app T) w0 w' a' → Fr T.H.length φ T.H w ψ (x.app T).H w' → next a' w') : wpOp C.P ops Q i next a w := by
  obtain ⟨kk, p, on, c0, p1, hkk, hg, hc0, hon⟩ := hs
  rw [← guardA_congr ht] at hg
  have hw := guardA_sound r hg hc0
  unfold wpOp
  rw [ho]
  dsimp only
  rw [hw]
  cases on with
  | false =>
    obtain ⟨h1, h2⟩ := hon
    simp only [Bool.false_eq_true, if_false]
    refine k φ _ w ?_ ?_
    · unfold Info.app; rw [h1, h2]
      exact r.put _ r.rel (fun _ _ _ h => h) (undef_vundef φ w0)
    · unfold Info.app; rw [h2]; exact Fr.refl ..
  | true =>
    obtain ⟨e, he, hce, h1, h2, h3, h4, h5⟩ := hon
    simp only [if_true]
    left
    have hnone : ∀ b, kk ≤ b → look s.H b = none := fun b hb => by simp [look, List.getD_eq_getElem?_getD, List.getElem?_eq_none (Nat.le_trans hkk hb)]
    refine opEff_sound (ev := aevW s.t (x.o.looksAt ops)) hK hG r.rel (fun j hj => ?_) (fun y v hv => ?_) (opEff_congr he fun b hb => hr b (h3 ▸ hb)) ?_ hce ?_
    · rw [hn _ (by omega) (by omega)]; exact hnone _ (by omega)
    · cases y with
      | tmp j =>
        simp only [aevW] at hv
        split at hv
        · rename_i hj
          exact aev_sound r (x := .tmp j) ((ht j (hasN_iff.1 hj)).trans hv)
        · cases hv
      | const c => exact aev_sound (x := .const c) r hv
      | global g => exact aev_sound (x := .global g) r hv
      | func f => exact aev_sound (x := .func f) r hv
    · rw [hn _ (by omega) (by omega)]; exact hnone _ (Nat.le_refl _)
    · intro u ψ w' hrel hfr hv
      refine k ψ _ w' ?_ ?_
      · unfold Info.app; rw [h1, h2]
        exact r.put _ hrel hfr.pin hv
      · unfold Info.app; rw [h2]; exact hfr

theorem nextId_le (k cnt len : Nat) : len ≤ nextId k cnt len := by
  unfold nextId
  split
  · rename_i h; exact Nat.le_of_ble_eq_true h
  · exact Nat.le_refl _

/-- What a run through a region found. -/
theorem regGo_infos {C : Cx} {K : CallF} {ops : Array Oper} : ∀ (l : List Oper) (k : Nat) (s s2 : St) (p p2 : Path) (is : List Info) (cs : List Chk), regGo C K ops l k s p = some (s2, is, cs, p2) → oks cs → s.H.length ≤ k →
    is.length = l.length ∧ s2 = runS is (fun _ => true) 0 s ∧ ∀ i o, l[i]? = some o → ∃ x, is[i]? = some x ∧ x.o = o ∧ StepOk C K ops (runS is (fun j => decide (j < i)) 0 s) x
  | [], k, s, s2, p, p2, is, cs, h, hc, hk => by
    simp only [regGo] at h; cases h
    exact ⟨rfl, rfl, fun i o h => by simp at h⟩
  | o :: r, k, s, s2, p, p2, is, cs, h, hc, hk => by
    simp only [regGo] at h
    split at h
    · cases h
    rename_i on c0 p1 hg
    have fin : ∀ (x0 : Info) (k' : Nat) (p' : Path) (is' : List Info) (c2 : List Chk), x0.o = o → regGo C K ops r k' (x0.app s) p' = some (s2, is', c2, p2) → oks c2 → (x0.app s).H.length ≤ k' → StepOk C K ops s x0 →
        (x0 :: is').length = (o :: r).length ∧ s2 = runS (x0 :: is') (fun _ => true) 0 s ∧ ∀ i o', (o :: r)[i]? = some o' → ∃ x, (x0 :: is')[i]? = some x ∧ x.o = o' ∧ StepOk C K ops (runS (x0 :: is') (fun j => decide (j < i)) 0 s) x := by
      intro x0 k' p' is' c2 hx0 hgo hc2 hk' hstep
      obtain ⟨h1, h2, h3⟩ := regGo_infos r k' _ s2 p' p2 is' c2 hgo hc2 hk'
      refine ⟨by simp [h1], ?_, fun i o' ho => ?_⟩
      · simp only [runS, if_true]; rw [runS_shift]; exact h2
      · cases i with
        | zero =>
          have : o = o' := by simpa using ho
          refine ⟨x0, rfl, by rw [hx0, this], ?_⟩
          rw [runS_no _ _ _ _ (fun j _ _ => by simp)]; exact hstep
        | succ i =>
          obtain ⟨x, e1, e2, e3⟩ := h3 i o' (by simpa using ho)
          refine ⟨x, by simpa using e1, e2, ?_⟩
          simp only [runS]
          rw [show (if decide (0 < i + 1) = true then x0.app s else s) = x0.app s by simp, runS_shift]
          simpa using e3
    split at h
    · split at h
      · rename_i s3 is' c2 p3 hgo
        cases h
        obtain ⟨hc0, hc2⟩ := oks_append.1 hc
        exact fin _ _ _ _ _ rfl hgo hc2 hk ⟨k, p, _, c0, p1, hk, hg, hc0, rfl, rfl⟩
      · cases h
    · split at h
      · cases h
      · rename_i e he
        split at h
        · rename_i s3 is' c2 p3 hgo
          cases h
          obtain ⟨hc0, hc1⟩ := oks_append.1 hc
          obtain ⟨hce, hc2⟩ := oks_append.1 hc1
          exact fin _ _ _ _ _ rfl hgo hc2 (nextId_le _ _ _) ⟨k, p, _, c0, p1, hk, hg, hc0, e, he, hce, rfl, rfl, rfl, rfl, rfl⟩
        · cases h

section
variable {C : Cx} {K : CallF} {ops : Array Oper} {s s2 : St} {p p2 : Path} {is : List Info} {cs : List Chk} {w0 : World} {Q : Exit → Act → World → Prop}

theorem step_ins {sel : Nat → Bool} {i : Nat} {x : Info} {φ ψ : Phi} {w1 w w' : World} {a' : Act} (hx : is[i]? = some x)
    (hT : ∀ j y d, i < j → is[j]? = some y → sel j = true → x.o.dst = some d → y.o.dst ≠ some d) (hH : ∀ j y b, i < j → is[j]? = some y → sel j = true → b ∈ x.ws.map (·.1) → b ∉ y.ws.map (·.1))
    {φ0 : Phi} (f0 : Fr s.H.length φ0 s.H w1 φ (runS is sel 0 s).H w) (r : StR ψ (x.app (runS is sel 0 s)) w0 w' a') (f : Fr (runS is sel 0 s).H.length φ (runS is sel 0 s).H w ψ (x.app (runS is sel 0 s)).H w') :
    StR ψ (runS is (ins sel i) 0 s) w0 w' a' ∧ Fr s.H.length φ0 s.H w1 ψ (runS is (ins sel i) 0 s).H w' := by
  have hsame := runS_ins (s := s) hx hT hH
  exact ⟨r.same hsame, f0.trans ((f.congr (fun _ => rfl) fun b => (hsame.H b).symm).le (runS_len is sel 0 s).2)⟩

theorem text_sound (hK : KOk C K) (hG : GlobR C w0) (hgo : regGo C K ops ops.toList s.H.length s p = some (s2, is, cs, p2)) (hc : oks cs) {φ0 : Phi} {w1 : World}
    (k : ∀ ψ a' w', StR ψ s2 w0 w' a' → Fr s.H.length φ0 s.H w1 ψ s2.H w' → Q .normal a' w') :
    ∀ (n i : Nat) (φ : Phi) (w : World) (a : Act), i + n = ops.size → StR φ (runS is (fun j => decide (j < i)) 0 s) w0 w a → Fr s.H.length φ0 s.H w1 φ (runS is (fun j => decide (j < i)) 0 s).H w → wpOps C.P ops Q (List.range' i n) a w := by
  obtain ⟨hl, hs2, hst⟩ := regGo_infos _ _ _ _ _ _ _ _ hgo hc (Nat.le_refl _)
  intro n
  induction n with
  | zero =>
    intro i φ w a hi r f
    have e : runS is (fun j => decide (j < i)) 0 s = s2 := by
      rw [hs2]; exact runS_all _ _ _ _ fun j _ h => by rw [hl] at h; simp at h ⊢; omega
    rw [e] at r f
    simp only [List.range'_zero, wpOps]
    exact k φ a w r f
  | succ n ih =>
    intro i φ w a hi r f
    rw [List.range'_succ, wpOps_cons]
    have hilt : i < ops.size := by omega
    obtain ⟨x, hx, hxo, hstep⟩ := hst i ops[i] (by simp [hilt])
    refine step_at hK hG (by rw [hxo]; simp [hilt]) hstep (fun _ _ => rfl) (fun _ _ => rfl) (fun _ _ _ => rfl) r fun ψ a' w' r' f' => ?_
    obtain ⟨g1, g2⟩ := step_ins hx (fun j y d h _ hj => by simp at hj; omega) (fun j y d h _ hj => by simp at hj; omega) f r' f'
    have e : ins (fun j => decide (j < i)) i = fun j => decide (j < i + 1) := by
      funext j
      unfold ins
      by_cases h : j = i
      · subst h; simp
      · have : Nat.beq j i = false := by
          cases hh : Nat.beq j i
          · rfl
          · exact absurd (Nat.eq_of_beq_eq_true hh) h
        rw [this, Bool.false_or]
        exact decide_eq_decide.2 (by omega)
    rw [e] at g1 g2
    exact ih (i + 1) ψ w' a' (by omega) g1 g2

end
end Go.Proofs.Ytmdkhdfckdkceaa.TdAm
