/- The abstract machine, part 21: regions whose order is drawn. -/
import Derived.Test.YtmdkhdfckdkceaaAm20
namespace Go.Proofs.Ytmdkhdfckdkceaa.TdAm
open Go Go.RowKit
set_option linter.unusedVariables false
set_option linter.unusedSimpArgs false

theorem clear_spec {x y : Info} : ∀ {l : List (Nat × Blk)}, clear x y l = true → ∀ b, b ∈ l.map (·.1) → b ∉ y.rd ∧ b ∉ y.ws.map (·.1) ∧ ¬ (y.lo ≤ b ∧ b < y.hi)
  | [], _, b, hb => by simp at hb
  | (c, z) :: r, h, b, hb => by
    simp only [clear, Bool.and_eq_true, Bool.not_eq_true'] at h
    obtain ⟨⟨⟨h1, h2⟩, h3⟩, h4⟩ := h
    rcases List.mem_cons.1 hb with e | e
    · subst e
      refine ⟨fun e => ?_, fun e => ?_, fun e => ?_⟩
      · rw [hasN_iff.2 e] at h1; cases h1
      · rw [hasN_iff.2 e] at h2; cases h2
      · have e1 : Nat.ble y.lo b = true := Nat.ble_eq_true_of_le e.1
        have e2 : Nat.blt b y.hi = true := by rw [Nat.blt_eq]; exact e.2
        rw [e1, e2] at h3; cases h3
    · exact clear_spec h4 b e

theorem apartI_spec {ops : Array Oper} {x y : Info} (h : apartI ops x y = true) : (∀ d, x.o.dst = some d → d ∉ y.o.looksAt ops) ∧ (∀ d, x.o.dst = some d → y.o.dst ≠ some d) ∧ ∀ b, b ∈ x.ws.map (·.1) → b ∉ y.rd ∧ b ∉ y.ws.map (·.1) ∧ ¬ (y.lo ≤ b ∧ b < y.hi) := by
  simp only [apartI, Bool.and_eq_true, Bool.not_eq_true'] at h
  obtain ⟨⟨h1, h2⟩, h3⟩ := h
  refine ⟨fun d hd e => ?_, fun d hd e => ?_, clear_spec h3⟩
  · rw [hd] at h1
    simp only [hasD] at h1
    rw [hasN_iff.2 e] at h1; cases h1
  · rw [hd, e] at h2
    simp at h2

theorem indep_spec {ops : Array Oper} {anc : List (List Nat)} {is : List Info} (h : indep ops anc is = true) :
    (∀ j y, is[j]? = some y → ∀ e, e ∈ y.o.after → Region.binds .any e = true → e.on < j) ∧
    ∀ i j x y, i < j → is[i]? = some x → is[j]? = some y → i ∈ anc.getD j [] ∨ (apartI ops x y = true ∧ apartI ops y x = true) := by
  have lt : ∀ {j y}, is[j]? = some y → j < is.length := fun h => (List.getElem?_eq_some_iff.1 h).1
  simp only [indep, List.all_eq_true, List.mem_range] at h
  refine ⟨fun j y hy e he hb => ?_, fun i j x y hij hx hy => ?_⟩
  · have := h j (lt hy)
    rw [hy] at this
    simp only [Bool.and_eq_true, List.all_eq_true, Bool.or_eq_true, Bool.not_eq_true'] at this
    have h1 := this.1.1 e (by simpa using he)
    rcases h1 with h1 | h1
    · rw [hb] at h1; cases h1
    · rwa [Nat.blt_eq] at h1
  · have := h j (lt hy)
    rw [hy] at this
    simp only [Bool.and_eq_true, List.all_eq_true, List.mem_range] at this
    have h1 := this.2 i hij
    rw [hx] at h1
    simp only [Bool.or_eq_true, Bool.and_eq_true] at h1
    exact h1.imp hasN_iff.1 id

theorem filter_lt {p q : Nat → Bool} : ∀ (l : List Nat), (∀ a, a ∈ l → q a = true → p a = true) → (∃ a, a ∈ l ∧ p a = true ∧ q a = false) → (l.filter q).length < (l.filter p).length
  | [], _, h => by obtain ⟨a, ha, _⟩ := h; simp at ha
  | b :: r, h, hx => by
    have hle : ∀ (l : List Nat), (∀ a, a ∈ l → q a = true → p a = true) → (l.filter q).length ≤ (l.filter p).length := by
      intro l
      induction l with
      | nil => intro _; simp
      | cons c r ih =>
        intro h
        have := ih fun a ha => h a (List.mem_cons_of_mem _ ha)
        simp only [List.filter_cons]
        cases hq : q c with
        | true => simp [h c (by simp) hq]; exact this
        | false => cases p c <;> simp <;> omega
    simp only [List.filter_cons]
    by_cases hb : p b = true ∧ q b = false
    · simp [hb.1, hb.2]
      have := hle r fun a ha => h a (List.mem_cons_of_mem _ ha)
      omega
    · obtain ⟨a, ha, h1, h2⟩ := hx
      have hne : a ≠ b := fun e => hb (e ▸ ⟨h1, h2⟩)
      have har : a ∈ r := (List.mem_cons.1 ha).resolve_left hne
      have := filter_lt r (fun a ha => h a (List.mem_cons_of_mem _ ha)) ⟨a, har, h1, h2⟩
      cases hq : q b with
      | true => simp [h b (by simp) hq]; exact this
      | false => cases p b <;> simp <;> omega

def unl (n : Nat) (listed : Array Bool) : Nat := ((List.range n).filter fun j => !listed.getD j true).length

section
variable {C : Cx} {K : CallF} {ops : Array Oper} {s s2 : St} {p p2 : Path} {is : List Info} {cs : List Chk} {w0 : World} {Q : Exit → Act → World → Prop}

theorem any_sound (hK : KOk C K) (hG : GlobR C w0) (hgo : regGo C K ops ops.toList s.H.length s p = some (s2, is, cs, p2)) (hc : oks cs) (hind : indep ops (ancs ops.toList []) is = true) {φ0 : Phi} {w1 : World}
    (k : ∀ ψ a' w', StR ψ s2 w0 w' a' → Fr s.H.length φ0 s.H w1 ψ s2.H w' → Q .normal a' w') :
    ∀ (fuel : Nat) (listed : Array Bool) (φ : Phi) (w : World) (a : Act), listed.size = ops.size → unl ops.size listed ≤ fuel → Closed ops (fun j => listed.getD j false) →
      StR φ (runS is (fun j => listed.getD j false) 0 s) w0 w a → Fr s.H.length φ0 s.H w1 φ (runS is (fun j => listed.getD j false) 0 s).H w → wpAny C.P .any ops Q fuel listed a w := by
  obtain ⟨hl, hs2, hst⟩ := regGo_infos _ _ _ _ _ _ _ _ hgo hc (Nat.le_refl _)
  have hl' : is.length = ops.size := by simpa using hl
  obtain ⟨hon, hap⟩ := indep_spec hind
  have hinfo : ∀ i o, ops[i]? = some o → ∃ x, is[i]? = some x ∧ x.o = o ∧ StepOk C K ops (runS is (fun j => decide (j < i)) 0 s) x := fun i o ho => hst i o (by simpa using ho)
  have hlt : ∀ j o, ops[j]? = some o → ∀ e, e ∈ o.after → Region.binds .any e = true → e.on < j := fun j o ho e he hb => by
    obtain ⟨x, h1, h2, _⟩ := hinfo j o ho
    exact hon j x h1 e (h2 ▸ he) hb
  have hdd : ∀ (listed : Array Bool), listed.size = ops.size → ∀ j, j < ops.size → listed.getD j true = listed.getD j false := fun listed hs j hj => by
    simp [Array.getD, show j < listed.size by omega]
  have all_of : ∀ (listed : Array Bool), listed.size = ops.size → Region.ready .any ops listed = [] → ∀ j, j < ops.size → listed.getD j false = true := by
    intro listed hs hr j
    induction j using Nat.strongRecOn with
    | _ j ih =>
      intro hj
      cases hcur : listed.getD j false with
      | true => rfl
      | false =>
        exfalso
        have : j ∈ Region.ready .any ops listed := by
          rw [mem_ready]
          refine ⟨by rw [hdd listed hs j hj]; exact hcur, ops[j], by simp [hj], fun e he hb => ?_⟩
          have := hlt j ops[j] (by simp [hj]) e he hb
          exact ih e.on this (by omega)
        rw [hr] at this; cases this
  have fin : ∀ (listed : Array Bool) (φ : Phi) (w : World) (a : Act), (∀ j, j < ops.size → listed.getD j false = true) → StR φ (runS is (fun j => listed.getD j false) 0 s) w0 w a → Fr s.H.length φ0 s.H w1 φ (runS is (fun j => listed.getD j false) 0 s).H w → Q .normal a w := by
    intro listed φ w a hall r f
    have e : runS is (fun j => listed.getD j false) 0 s = s2 := by
      rw [hs2]; exact runS_all _ _ _ _ fun j _ h => hall j (by omega)
    rw [e] at r f
    exact k φ a w r f
  intro fuel
  induction fuel with
  | zero =>
    intro listed φ w a hs hu hcl r f
    have hnil : (List.range ops.size).filter (fun j => !listed.getD j true) = [] := List.eq_nil_of_length_eq_zero (Nat.le_zero.1 hu)
    have hall : ∀ j, j < ops.size → listed.getD j false = true := fun j hj => by
      cases hcur : listed.getD j false with
      | true => rfl
      | false =>
        have : j ∈ (List.range ops.size).filter (fun j => !listed.getD j true) := List.mem_filter.2 ⟨List.mem_range.2 hj, by rw [hdd listed hs j hj, hcur]; rfl⟩
        rw [hnil] at this; cases this
    refine ⟨?_, fin listed φ w a hall r f⟩
    refine List.eq_nil_iff_forall_not_mem.2 fun j hj => ?_
    obtain ⟨h1, o, ho, _⟩ := mem_ready.1 hj
    have hjs : j < ops.size := (Array.getElem?_eq_some_iff.1 ho).1
    rw [hdd listed hs j hjs, hall j hjs] at h1; cases h1
  | succ fuel ih =>
    intro listed φ w a hs hu hcl r f
    refine ⟨fun hr => fin listed φ w a (all_of listed hs hr) r f, fun i hi => ?_⟩
    obtain ⟨hun, o, ho, hed⟩ := mem_ready.1 hi
    have his : i < ops.size := (Array.getElem?_eq_some_iff.1 ho).1
    have hsi : listed.getD i false = false := by rw [← hdd listed hs i his]; exact hun
    obtain ⟨x, hx, hxo, hstep⟩ := hinfo i o ho
    have hanc : ∀ j o, ops[j]? = some o → (∀ e, e ∈ o.after → Region.binds .any e = true → listed.getD e.on false = true) → ∀ m, m ∈ (ancs ops.toList []).getD j [] → listed.getD m false = true := fun j o hj he m hm =>
      ancs_spec (sel := fun j => listed.getD j false) hcl ops.toList [] (fun j o h => by simpa using h) (fun j o _ h => by simp at h) (fun j o h _ => hlt j o h) j o hj (by
        have := (Array.getElem?_eq_some_iff.1 hj).1; simpa using this) he m hm
    -- whatever differs from the text's order stands apart
    have hdiff : ∀ j y, is[j]? = some y → listed.getD j false ≠ decide (j < i) → apartI ops y x = true ∧ apartI ops x y = true := by
      intro j y hy hne
      have hjs : j < ops.size := by have := (List.getElem?_eq_some_iff.1 hy).1; omega
      rcases Nat.lt_trichotomy j i with h | h | h
      · have hf : listed.getD j false = false := by
          cases hcur : listed.getD j false with
          | false => rfl
          | true => rw [hcur] at hne; simp [h] at hne
        rcases hap j i y x h hy hx with h1 | h1
        · rw [hanc i o ho hed j h1] at hf; cases hf
        · exact ⟨h1.1, h1.2⟩
      · subst h; rw [hsi] at hne; simp at hne
      · have hf : listed.getD j false = true := by
          cases hcur : listed.getD j false with
          | true => rfl
          | false => rw [hcur] at hne; simp [show ¬ j < i by omega] at hne
        rcases hap i j x y h hx hy with h1 | h1
        · have hoj : ops[j]? = some ops[j] := by simp [hjs]
          rw [hanc j ops[j] hoj (fun e he hb => hcl j ops[j] hoj hf e he hb) i h1] at hsi; cases hsi
        · exact ⟨h1.2, h1.1⟩
    refine step_at hK hG (by rw [hxo]; exact ho) hstep (fun d hd => ?_) (fun b hb => ?_) (fun b h1 h2 => ?_) r fun ψ a' w' r' f' => ?_
    · exact runS_agree_t fun j y hy hne e => (apartI_spec (hdiff j y hy hne).1).1 d e hd
    · exact runS_agree_H fun j y hy hne e => ((apartI_spec (hdiff j y hy hne).1).2.2 b e).1 hb
    · exact runS_agree_H fun j y hy hne e => ((apartI_spec (hdiff j y hy hne).1).2.2 b e).2.2 ⟨h1, h2⟩
    · have hafter : ∀ j y, i < j → is[j]? = some y → listed.getD j false = true → apartI ops x y = true := fun j y hij hy hj => (hdiff j y hy (by rw [hj]; simp [show ¬ j < i by omega])).2
      obtain ⟨g1, g2⟩ := step_ins hx (fun j y d hij hy hj hd => (apartI_spec (hafter j y hij hy hj)).2.1 d hd) (fun j y b hij hy hj hb => ((apartI_spec (hafter j y hij hy hj)).2.2 b hb).2.1) f r' f'
      have hsz : i < listed.size := by omega
      have e : ins (fun j => listed.getD j false) i = fun j => (listed.setIfInBounds i true).getD j false := by
        funext j
        unfold ins
        by_cases h : j = i
        · subst h; simp [hsz]
        · have : Nat.beq j i = false := by
            cases hh : Nat.beq j i
            · rfl
            · exact absurd (Nat.eq_of_beq_eq_true hh) h
          rw [this, Bool.false_or]
          exact (getD_set_ne false (fun e => h e.symm)).symm
      rw [e] at g1 g2
      refine ih _ ψ w' a' (by simpa using hs) ?_ ?_ g1 g2
      · have : unl ops.size (listed.setIfInBounds i true) < unl ops.size listed := by
          refine filter_lt _ (fun j hj hq => ?_) ⟨i, List.mem_range.2 his, by simp [hun], by simp [hsz]⟩
          by_cases h : j = i
          · subst h; simp [hun]
          · rw [getD_set_ne true (fun e => h e.symm)] at hq; exact hq
        omega
      · intro j oj hoj hsel e' he hb
        by_cases h : j = i
        · subst h
          rw [ho] at hoj; cases hoj
          exact getD_set_true (hed e' he hb)
        · refine getD_set_true (hcl j oj hoj ?_ e' he hb)
          have : (listed.setIfInBounds i true).getD j false = true := hsel
          rw [getD_set_ne false (fun e => h e.symm)] at this; exact this

end

theorem regionA_sound {C : Cx} {K : CallF} {ops : Array Oper} {draw : Bool} {s s2 : St} {p p2 : Path} {o : Out} {cs : List Chk} {φ : Phi} {w0 w : World} {a : Act} {rid : Nat} (hK : KOk C K) (hG : GlobR C w0) (hmix : C.P.follows .mixedOrders = true)
    (h : regionA C K ops draw s p = some (o, s2, cs, p2)) (hc : oks cs) (r : StR φ s w0 w a) {Q : Exit → Act → World → Prop} (k : ∀ ψ a' w', StR ψ s2 w0 w' a' → Fr s.H.length φ s.H w ψ s2.H w' → Q o.exitOf a' w') :
    (Code.region rid ops draw).wp C.P Q a w := by
  unfold regionA at h
  split at h
  · cases h
  rename_i s3 is c3 p3 hgo
  cases draw with
  | false =>
    cases h
    refine wp_region ?_
    rw [List.range_eq_range']
    refine text_sound hK hG hgo hc k ops.size 0 φ w a (by omega) ?_ ?_
    · rw [runS_no _ _ _ _ fun j _ _ => by simp]; exact r
    · rw [runS_no _ _ _ _ fun j _ _ => by simp]; exact Fr.refl ..
  | true =>
    dsimp only at h
    split at h
    · rename_i hind
      cases h
      refine wp_region_any hmix ?_
      have hsel : ∀ j, (Array.replicate ops.size false).getD j false = false := fun j => by
        simp [Array.getD]
      refine any_sound (φ0 := φ) (w1 := { w with drawn := w.drawn + 1 }) hK hG hgo hc hind (fun ψ a' w' hr hf => k ψ a' w' hr ⟨hf.pin, hf.size, hf.keep, hf.own⟩) ops.size _ φ _ a (by simp) ?_ (fun j o _ hs => by have hs' : (Array.replicate ops.size false).getD j false = true := hs; rw [hsel] at hs'; cases hs') ?_ ?_
      · exact Nat.le_trans (List.length_filter_le _ _) (by simp)
      · rw [runS_no _ _ _ _ fun j _ _ => hsel j]
        exact ⟨r.rel.drew, r.slots, r.len, r.defs⟩
      · rw [runS_no _ _ _ _ fun j _ _ => hsel j]; exact Fr.refl ..
    · cases h

end Go.Proofs.Ytmdkhdfckdkceaa.TdAm
