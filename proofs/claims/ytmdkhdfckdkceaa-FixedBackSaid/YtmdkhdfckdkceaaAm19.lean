/- The abstract machine, part 19: in which order the operations of a region are done. -/
import Derived.Test.YtmdkhdfckdkceaaAm18
namespace Go.Proofs.Ytmdkhdfckdkceaa.TdAm
open Go Go.RowKit
set_option linter.unusedVariables false
set_option linter.unusedSimpArgs false

/-! ### writes to one place -/
def foldSel {V : Type} : List (Option V) → (Nat → Bool) → Nat → V → V
  | [], _, _, v => v
  | u :: r, sel, k, v => foldSel r sel (k + 1) (if sel k then u.getD v else v)

theorem foldSel_agree {V : Type} {sel sel' : Nat → Bool} : ∀ (us : List (Option V)) (k : Nat) (v : V), (∀ j x, us[j]? = some (some x) → sel (k + j) = sel' (k + j)) → foldSel us sel k v = foldSel us sel' k v
  | [], k, v, h => rfl
  | u :: r, k, v, h => by
    simp only [foldSel]
    have e : (if sel k then u.getD v else v) = (if sel' k then u.getD v else v) := by
      cases u with
      | none => simp
      | some x => rw [show sel k = sel' k from h 0 x rfl]
    rw [e]
    exact foldSel_agree r (k + 1) _ fun j x hj => by rw [show k + 1 + j = k + (j + 1) by omega]; exact h (j + 1) x (by simpa using hj)

theorem foldSel_none {V : Type} {sel : Nat → Bool} : ∀ (us : List (Option V)) (k : Nat) (v : V), (∀ j x, us[j]? = some (some x) → sel (k + j) = false) → foldSel us sel k v = v
  | [], k, v, h => rfl
  | u :: r, k, v, h => by
    simp only [foldSel]
    have e : (if sel k then u.getD v else v) = v := by
      cases u with
      | none => simp
      | some x => rw [show sel k = false from h 0 x rfl]; rfl
    rw [e]
    exact foldSel_none r (k + 1) _ fun j x hj => by rw [show k + 1 + j = k + (j + 1) by omega]; exact h (j + 1) x (by simpa using hj)

theorem foldSel_last {V : Type} {sel : Nat → Bool} : ∀ (us : List (Option V)) (k : Nat) (v : V) (i : Nat) (x : V), us[i]? = some (some x) → sel (k + i) = true → (∀ j y, i < j → us[j]? = some (some y) → sel (k + j) = false) → foldSel us sel k v = x
  | [], k, v, i, x, h, _, _ => by simp at h
  | u :: r, k, v, 0, x, h, hs, hl => by
    simp only [foldSel]
    have hu : u = some x := by simpa using h
    subst hu
    rw [show sel k = true from hs]
    exact foldSel_none r (k + 1) _ fun j y hj => by rw [show k + 1 + j = k + (j + 1) by omega]; exact hl (j + 1) y (by omega) (by simpa using hj)
  | u :: r, k, v, i + 1, x, h, hs, hl => by
    simp only [foldSel]
    exact foldSel_last r (k + 1) _ i x (by simpa using h) (by rw [show k + 1 + i = k + (i + 1) by omega]; exact hs) fun j y hj hy => by rw [show k + 1 + j = k + (j + 1) by omega]; exact hl (j + 1) y (by omega) (by simpa using hy)

def ins (sel : Nat → Bool) (i : Nat) (j : Nat) : Bool := Nat.beq j i || sel j

theorem foldSel_ins {V : Type} {sel : Nat → Bool} (us : List (Option V)) (v : V) (i : Nat) (u : Option V) (hu : us[i]? = some u) (hl : ∀ j x y, i < j → u = some x → us[j]? = some (some y) → sel j = false) :
    foldSel us (ins sel i) 0 v = u.getD (foldSel us sel 0 v) := by
  cases u with
  | none =>
    refine foldSel_agree us 0 v fun j x hj => ?_
    by_cases e : j = i
    · subst e; rw [hj] at hu; cases hu
    · have : Nat.beq j i = false := by
        cases h : Nat.beq j i
        · rfl
        · exact absurd (Nat.eq_of_beq_eq_true h) e
      simp [ins, this]
  | some x =>
    refine foldSel_last us 0 v i x hu (by simp [ins]) fun j y hj hy => ?_
    have : Nat.beq j i = false := by
      cases h : Nat.beq j i
      · rfl
      · have := Nat.eq_of_beq_eq_true h; omega
    have := hl j x y hj rfl hy
    simp [ins, *]

/-! ### the state after some of the operations -/
def runS : List Info → (Nat → Bool) → Nat → St → St
  | [], _, _, s => s
  | x :: r, sel, k, s => runS r sel (k + 1) (if sel k then x.app s else s)

def wl : List (Nat × Blk) → Nat → Option Blk
  | [], _ => none
  | (c, x) :: r, b => match wl r b with
    | some y => some y
    | none => if b = c then some x else none

theorem look_putW : ∀ (ws : List (Nat × Blk)) (H : Hp) (b : Nat), look (putW H ws) b = ((wl ws b).map some).getD (look H b)
  | [], H, b => rfl
  | (c, x) :: r, H, b => by
    simp only [putW, wl]
    rw [look_putW r, look_setX]
    cases wl r b with
    | some y => rfl
    | none =>
      by_cases h : b = c
      · rw [if_pos h, if_pos h]; rfl
      · rw [if_neg h, if_neg h]

theorem wl_mem {ws : List (Nat × Blk)} {b : Nat} {y : Blk} (h : wl ws b = some y) : b ∈ ws.map (·.1) := by
  induction ws with
  | nil => simp [wl] at h
  | cons c r ih =>
    obtain ⟨c, x⟩ := c
    simp only [wl] at h
    cases hr : wl r b with
    | some z => exact List.mem_cons_of_mem _ (ih (by rw [hr] at h; exact hr.trans (by rw [← h])))
    | none =>
      rw [hr] at h
      by_cases e : b = c
      · subst e; simp
      · simp [e] at h

theorem putT_length (t : List (Option AV)) (d : Option Tmp) (v : AV) : (putT t d v).length = t.length := by
  cases d <;> simp [putT]
theorem putT_getD (t : List (Option AV)) (d : Option Tmp) (v : AV) (i : Nat) : (putT t d v).getD i none = if d = some i ∧ i < t.length then some v else t.getD i none := by
  cases d with
  | none => simp [putT]
  | some d =>
    simp only [putT, List.getD_eq_getElem?_getD, List.getElem?_set]
    by_cases h : d = i
    · subst h
      by_cases hl : d < t.length
      · simp [hl]
      · simp [hl]
    · simp [h]

theorem setX_length : ∀ (H : Hp) (b : Nat) (x : Option Blk), H.length ≤ (setX H b x).length
  | [], b, x => by simp
  | a :: r, 0, x => by simp [setX]
  | a :: r, b + 1, x => by simp [setX, setX_length r b x]
theorem putW_length : ∀ (ws : List (Nat × Blk)) (H : Hp), H.length ≤ (putW H ws).length
  | [], H => Nat.le_refl _
  | (b, x) :: r, H => Nat.le_trans (setX_length H b (some x)) (putW_length r _)

theorem runS_len : ∀ (is : List Info) (sel : Nat → Bool) (k : Nat) (s : St), (runS is sel k s).t.length = s.t.length ∧ s.H.length ≤ (runS is sel k s).H.length
  | [], sel, k, s => ⟨rfl, Nat.le_refl _⟩
  | x :: r, sel, k, s => by
    simp only [runS]
    obtain ⟨h1, h2⟩ := runS_len r sel (k + 1) (if sel k then x.app s else s)
    rw [h1]
    cases hk : sel k with
    | true =>
      rw [hk] at h2
      exact ⟨putT_length _ _ _, Nat.le_trans (putW_length x.ws s.H) h2⟩
    | false =>
      rw [hk] at h2
      exact ⟨rfl, h2⟩

def updT (n d : Nat) (x : Info) : Option (Option AV) := if x.o.dst = some d ∧ d < n then some (some x.v) else none
def updH (b : Nat) (x : Info) : Option (Option Blk) := (wl x.ws b).map some

theorem runS_t (d : Nat) : ∀ (is : List Info) (sel : Nat → Bool) (k : Nat) (s : St), (runS is sel k s).t.getD d none = foldSel (is.map (updT s.t.length d)) sel k (s.t.getD d none)
  | [], sel, k, s => rfl
  | x :: r, sel, k, s => by
    simp only [runS, List.map_cons, foldSel]
    rw [runS_t d r]
    cases sel k with
    | true =>
      have e : (x.app s).t.length = s.t.length := putT_length _ _ _
      rw [if_pos rfl, if_pos rfl, e]
      congr 1
      show (putT s.t x.o.dst x.v).getD d none = _
      rw [putT_getD]; unfold updT
      by_cases h : x.o.dst = some d ∧ d < s.t.length
      · rw [if_pos h, if_pos h]; rfl
      · rw [if_neg h, if_neg h]; rfl
    | false => simp

theorem runS_H (b : Nat) : ∀ (is : List Info) (sel : Nat → Bool) (k : Nat) (s : St), look (runS is sel k s).H b = foldSel (is.map (updH b)) sel k (look s.H b)
  | [], sel, k, s => rfl
  | x :: r, sel, k, s => by
    simp only [runS, List.map_cons, foldSel]
    rw [runS_H b r]
    cases sel k with
    | true =>
      rw [if_pos rfl, if_pos rfl]
      congr 1
      exact look_putW x.ws s.H b
    | false => simp

theorem runS_shift : ∀ (is : List Info) (sel : Nat → Bool) (k : Nat) (s : St), runS is sel (k + 1) s = runS is (fun j => sel (j + 1)) k s
  | [], sel, k, s => rfl
  | x :: r, sel, k, s => by simp only [runS]; rw [runS_shift r]

/-- Two states that say the same. -/
structure St.same (s s' : St) : Prop where
  t : ∀ i, s.t.getD i none = s'.t.getD i none
  len : s.t.length = s'.t.length
  H : ∀ b, look s.H b = look s'.H b

theorem runS_ins {is : List Info} {sel : Nat → Bool} {s : St} {i : Nat} {x : Info} (hx : is[i]? = some x)
    (hT : ∀ j y d, i < j → is[j]? = some y → sel j = true → x.o.dst = some d → y.o.dst ≠ some d) (hH : ∀ j y b, i < j → is[j]? = some y → sel j = true → b ∈ x.ws.map (·.1) → b ∉ y.ws.map (·.1)) :
    (x.app (runS is sel 0 s)).same (runS is (ins sel i) 0 s) := by
  refine ⟨fun d => ?_, ?_, fun b => ?_⟩
  · rw [runS_t d is (ins sel i), foldSel_ins _ _ i (updT s.t.length d x) (by rw [List.getElem?_map, hx]; rfl), ← runS_t d is sel]
    · show (putT _ x.o.dst x.v).getD d none = _
      rw [putT_getD, (runS_len is sel 0 s).1]; unfold updT
      by_cases h : x.o.dst = some d ∧ d < s.t.length
      · rw [if_pos h, if_pos h]; rfl
      · rw [if_neg h, if_neg h]; rfl
    · intro j u v hj hu hv
      cases hs : sel j with
      | false => rfl
      | true =>
        exfalso
        rw [List.getElem?_map] at hv
        cases hy : is[j]? with
        | none => rw [hy] at hv; cases hv
        | some y =>
          rw [hy] at hv
          have hv' : updT s.t.length d y = some v := by simpa using hv
          unfold updT at hu hv'
          split at hu
          · rename_i h1
            split at hv'
            · rename_i h2; exact hT j y d hj hy hs h1.1 h2.1
            · cases hv'
          · cases hu
  · show (putT _ _ _).length = _
    rw [putT_length, (runS_len is sel 0 s).1, (runS_len is _ 0 s).1]
  · rw [runS_H b is (ins sel i), foldSel_ins _ _ i (updH b x) (by rw [List.getElem?_map, hx]; rfl), ← runS_H b is sel]
    · exact look_putW x.ws _ b
    · intro j u v hj hu hv
      cases hs : sel j with
      | false => rfl
      | true =>
        exfalso
        rw [List.getElem?_map] at hv
        cases hy : is[j]? with
        | none => rw [hy] at hv; cases hv
        | some y =>
          rw [hy] at hv
          have hv' : updH b y = some v := by simpa using hv
          unfold updH at hu hv'
          cases h1 : wl x.ws b with
          | none => rw [h1] at hu; cases hu
          | some z =>
            cases h2 : wl y.ws b with
            | none => rw [h2] at hv'; cases hv'
            | some z' => exact hH j y b hj hy hs (wl_mem h1) (wl_mem h2)

theorem runS_agree_t {is : List Info} {sel sel' : Nat → Bool} {s : St} {d : Nat} (h : ∀ j y, is[j]? = some y → sel j ≠ sel' j → y.o.dst ≠ some d) : (runS is sel 0 s).t.getD d none = (runS is sel' 0 s).t.getD d none := by
  rw [runS_t, runS_t]
  refine foldSel_agree _ 0 _ fun j x hj => ?_
  rw [Nat.zero_add]
  rw [List.getElem?_map] at hj
  cases hy : is[j]? with
  | none => rw [hy] at hj; cases hj
  | some y =>
    rw [hy] at hj
    have hv : updT s.t.length d y = some x := by simpa using hj
    unfold updT at hv
    split at hv
    · rename_i h1
      by_cases e : sel j = sel' j
      · exact e
      · exact absurd h1.1 (h j y hy e)
    · cases hv

theorem runS_agree_H {is : List Info} {sel sel' : Nat → Bool} {s : St} {b : Nat} (h : ∀ j y, is[j]? = some y → sel j ≠ sel' j → b ∉ y.ws.map (·.1)) : look (runS is sel 0 s).H b = look (runS is sel' 0 s).H b := by
  rw [runS_H, runS_H]
  refine foldSel_agree _ 0 _ fun j x hj => ?_
  rw [Nat.zero_add]
  rw [List.getElem?_map] at hj
  cases hy : is[j]? with
  | none => rw [hy] at hj; cases hj
  | some y =>
    rw [hy] at hj
    have hv : updH b y = some x := by simpa using hj
    unfold updH at hv
    cases h1 : wl y.ws b with
    | none => rw [h1] at hv; cases hv
    | some z =>
      by_cases e : sel j = sel' j
      · exact e
      · exact absurd (wl_mem h1) (h j y hy e)

theorem runS_all : ∀ (is : List Info) (sel : Nat → Bool) (k : Nat) (s : St), (∀ j, k ≤ j → j < k + is.length → sel j = true) → runS is sel k s = runS is (fun _ => true) k s
  | [], sel, k, s, h => rfl
  | x :: r, sel, k, s, h => by
    simp only [runS]
    rw [h k (Nat.le_refl _) (by simp)]
    exact runS_all r sel (k + 1) _ fun j h1 h2 => h j (by omega) (by simp; omega)
theorem runS_no : ∀ (is : List Info) (sel : Nat → Bool) (k : Nat) (s : St), (∀ j, k ≤ j → j < k + is.length → sel j = false) → runS is sel k s = s
  | [], sel, k, s, h => rfl
  | x :: r, sel, k, s, h => by
    simp only [runS]
    rw [h k (Nat.le_refl _) (by simp)]
    exact runS_no r sel (k + 1) s fun j h1 h2 => h j (by omega) (by simp; omega)

/-! ### what stands before what -/
theorem ancOf_mem {anc : List (List Nat)} {i : Nat} : ∀ {l : List Edge}, i ∈ ancOf anc l → ∃ e, e ∈ l ∧ Region.binds .any e = true ∧ (i = e.on ∨ i ∈ anc.getD e.on [])
  | [], h => by simp [ancOf] at h
  | e :: r, h => by
    simp only [ancOf] at h
    split at h
    · rename_i hb
      rcases List.mem_cons.1 h with h | h
      · exact ⟨e, by simp, hb, .inl h⟩
      · rcases List.mem_append.1 h with h | h
        · exact ⟨e, by simp, hb, .inr h⟩
        · obtain ⟨e', h1, h2⟩ := ancOf_mem h; exact ⟨e', List.mem_cons_of_mem _ h1, h2⟩
    · obtain ⟨e', h1, h2⟩ := ancOf_mem h; exact ⟨e', List.mem_cons_of_mem _ h1, h2⟩

/-- A set of operations that holds what its members wait for. -/
def Closed (ops : Array Oper) (sel : Nat → Bool) : Prop := ∀ j o, ops[j]? = some o → sel j = true → ∀ e, e ∈ o.after → Region.binds .any e = true → sel e.on = true

theorem ancs_spec {ops : Array Oper} {sel : Nat → Bool} (hcl : Closed ops sel) : ∀ (l : List Oper) (acc : List (List Nat)), (∀ j o, l[j]? = some o → ops[acc.length + j]? = some o) →
    (∀ j o, ops[j]? = some o → j < acc.length → (∀ e, e ∈ o.after → Region.binds .any e = true → sel e.on = true) → ∀ i, i ∈ acc.getD j [] → sel i = true) →
    (∀ j o, ops[j]? = some o → j < acc.length + l.length → ∀ e, e ∈ o.after → Region.binds .any e = true → e.on < j) →
    ∀ j o, ops[j]? = some o → j < acc.length + l.length → (∀ e, e ∈ o.after → Region.binds .any e = true → sel e.on = true) → ∀ i, i ∈ (ancs l acc).getD j [] → sel i = true
  | [], acc, _, h, _, j, o, ho, hj, he, i, hi => h j o ho (by simpa using hj) he i hi
  | o0 :: r, acc, hl, h, hlt, j, o, ho, hj, he, i, hi => by
    simp only [ancs] at hi
    refine ancs_spec hcl r (acc ++ [ancOf acc o0.after.toList]) (fun j o h => ?_) (fun j o ho hj he i hi => ?_) (fun j o ho hj => hlt j o ho (by simp at hj ⊢; omega)) j o ho (by simp at hj ⊢; omega) he i hi
    · have := hl (j + 1) o (by simpa using h)
      rw [show (acc ++ [ancOf acc o0.after.toList]).length + j = acc.length + (j + 1) by simp; omega]
      exact this
    · by_cases hja : j < acc.length
      · rw [List.getD_eq_getElem?_getD, List.getElem?_append_left hja, ← List.getD_eq_getElem?_getD] at hi
        exact h j o ho hja he i hi
      · have hje : j = acc.length := by simp at hj; omega
        subst hje
        have h0 : ops[acc.length]? = some o0 := by simpa using hl 0 o0 rfl
        have he0 : o = o0 := by rw [ho] at h0; exact Option.some.inj h0
        subst he0
        rw [List.getD_eq_getElem?_getD, List.getElem?_append_right (Nat.le_refl _)] at hi
        simp only [Nat.sub_self, List.getElem?_cons_zero, Option.getD_some] at hi
        obtain ⟨e, h1, h2, h3⟩ := ancOf_mem hi
        have h1' : e ∈ o.after := by simpa using h1
        have hon := he e h1' h2
        rcases h3 with rfl | h3
        · exact hon
        · have hlt' := hlt acc.length o ho (by simp) e h1' h2
          cases hoe : ops[e.on]? with
          | none =>
            exfalso
            have := hlt'
            have hsz : acc.length < ops.size := (Array.getElem?_eq_some_iff.1 ho).1
            rw [Array.getElem?_eq_none_iff] at hoe; omega
          | some oe => exact h e.on oe hoe hlt' (fun e' h4 h5 => hcl e.on oe hoe hon e' h4 h5) i h3

end Go.Proofs.Ytmdkhdfckdkceaa.TdAm
