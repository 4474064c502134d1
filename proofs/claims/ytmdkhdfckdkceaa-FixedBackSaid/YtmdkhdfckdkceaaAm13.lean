/- The abstract machine, part 13: any operation. -/
import Derived.Test.YtmdkhdfckdkceaaAm12
namespace Go.Proofs.Ytmdkhdfckdkceaa.TdAm
open Go Go.RowKit
set_option linter.unusedVariables false
set_option linter.unusedSimpArgs false

section
variable {C : Cx} {φ : Phi} {H : Hp} {w0 w : World} {ev : Operand → Option AV} {ρ : Operand → Value} {id : Nat} {o : Oper} {r : Res} {cs : List Chk}

theorem intsOf_vals {φ : Phi} {w0 : World} {k : IntKind} : ∀ {r : List AV} {l : List Int}, intsOf k r = some l → ∀ (us : List Value), us.length = r.length → (∀ j, j < r.length → RV φ w0 (r.getD j .nilp) (us.getD j undef)) → us = l.map (Value.int k)
  | [], l, h, us, hl, _ => by
    simp [intsOf] at h; subst h
    cases us with
    | nil => rfl
    | cons a b => simp at hl
  | v :: r, l, h, us, hl, hr => by
    cases v with
    | int k' n =>
      simp only [intsOf] at h
      split at h
      · rename_i m hk hm
        cases h
        have := of_decide_eq_true hk; subst this
        cases us with
        | nil => simp at hl
        | cons u us =>
          have h0 := hr 0 (by simp)
          simp at h0
          cases h0
          rw [intsOf_vals hm us (by simpa using hl) fun j hj => by have := hr (j + 1) (by simpa using hj); simpa using this]
          rfl
      · cases h
    | _ => simp [intsOf] at h
theorem run_min_ints {P : Program} (w : World) (ts : Array TypeId) (t : TypeId) (k : IntKind) (x : Int) (l : List Int) : (Builtin.min_ ts t (Value.int k x :: l.map (Value.int k)).toArray).run P w = .ok (.int k (l.foldl (fun x y => if y < x then y else x) x)) w := by
  show ((l.map (Value.int k)).foldlM Builtin.min2 (Value.int k x)).run P w = _
  induction l generalizing x with
  | nil => simp
  | cons y r ih =>
    simp only [List.map_cons, List.foldlM_cons, List.foldl_cons, Builtin.min2, pure_bind]
    exact ih _
theorem run_max_ints {P : Program} (w : World) (ts : Array TypeId) (t : TypeId) (k : IntKind) (x : Int) (l : List Int) : (Builtin.max_ ts t (Value.int k x :: l.map (Value.int k)).toArray).run P w = .ok (.int k (l.foldl (fun x y => if y > x then y else x) x)) w := by
  show ((l.map (Value.int k)).foldlM Builtin.max2 (Value.int k x)).run P w = _
  induction l generalizing x with
  | nil => simp
  | cons y r ih =>
    simp only [List.map_cons, List.foldlM_cons, List.foldl_cons, Builtin.max2, pure_bind]
    exact ih _

theorem builtin_sound (rel : RelH φ H w0 w) (hid : look H id = none) (hl : id < H.length) {b : Builtin} {ts : Array TypeId} {ty : TypeId} {consts : Array Bool} {args : List AV} {us : List Value}
    (hlen : us.length = args.length) (hr : ∀ j, j < args.length → RV φ w0 (args.getD j .nilp) (us.getD j undef)) (h : abuiltin C.P (look H) id b ts.toList args = some (r, cs)) (hc : oks cs) :
    ResGood C φ H w0 w id ((builtin b ts ty consts us.toArray).run C.P w) r := by
  have one : ∀ v, args = [v] → ∃ u, us = [u] ∧ RV φ w0 v u := by
    rintro v rfl
    match us, hlen with
    | [u], _ => exact ⟨u, rfl, hr 0 (by simp)⟩
  have two : ∀ v x, args = [v, x] → ∃ u y, us = [u, y] ∧ RV φ w0 v u ∧ RV φ w0 x y := by
    rintro v x rfl
    match us, hlen with
    | [u, y], _ => exact ⟨u, y, rfl, hr 0 (by simp), hr 1 (by simp)⟩
  unfold abuiltin at h
  split at h
  · split at h
    · rename_i t ts' htl
      split at h
      · rename_i e hu
        cases h
        obtain ⟨u, rfl, hv⟩ := one _ rfl
        cases hv
        have h0 : ts[0]? = some t := by rw [← Array.getElem?_toList, htl]; rfl
        exact ⟨_, by simp [builtin, Builtin.len_, h0, run_underlying hu, goInt], .int _ _⟩
      · cases h
    · cases h
  · split at h
    · rename_i t ts' htl
      split at h
      · rename_i e hu
        cases h
        obtain ⟨u, rfl, hv⟩ := one _ rfl
        cases hv
        have h0 : ts[0]? = some t := by rw [← Array.getElem?_toList, htl]; rfl
        exact ⟨_, by simp [builtin, Builtin.len_, h0, run_underlying hu, goInt], .int _ _⟩
      · cases h
    · cases h
  · split at h
    · rename_i t ts' htl
      split at h
      · rename_i e hu
        cases h
        obtain ⟨u, rfl, hv⟩ := one _ rfl
        cases hv
        have h0 : ts[0]? = some t := by rw [← Array.getElem?_toList, htl]; rfl
        exact ⟨_, by simp [builtin, Builtin.len_, h0, run_underlying hu, goInt], .int _ _⟩
      · cases h
    · cases h
  · split at h
    · rename_i t ts' htl
      split at h
      · rename_i e hu
        cases h
        obtain ⟨u, rfl, hv⟩ := one _ rfl
        cases hv
        have h0 : ts[0]? = some t := by rw [← Array.getElem?_toList, htl]; rfl
        exact ⟨_, by simp [builtin, Builtin.len_, h0, run_underlying hu, goInt], .int _ _⟩
      · cases h
    · cases h
  · split at h
    · rename_i t ts' htl
      split at h
      · rename_i hu
        cases h
        obtain ⟨u, rfl, hv⟩ := one _ rfl
        cases hv
        have h0 : ts[0]? = some t := by rw [← Array.getElem?_toList, htl]; rfl
        exact ⟨_, by simp [builtin, Builtin.len_, h0, run_underlying hu, goInt], .int _ _⟩
      · cases h
    · cases h
  · -- the length of an array behind a pointer, or of an array
    split at h
    · rename_i t ts' htl
      split at h
      · rename_i n e hu
        cases h
        obtain ⟨u, rfl, hv⟩ := one _ rfl
        have h0 : ts[0]? = some t := by rw [← Array.getElem?_toList, htl]; rfl
        exact ⟨_, by simp [builtin, Builtin.len_, h0, run_underlying hu, goInt], .int _ _⟩
      · cases h
    · cases h
  · rename_i b' o' n' c z
    split at h
    · rename_i t ts' y htl hy
      split at h
      · rename_i e hu
        split at h
        · rename_i hop
          cases h
          obtain ⟨u, rfl, hv⟩ := one _ rfl
          obtain ⟨p, hp, hB⟩ := rel.blk _ _ hy
          have hpo : 0 < y.len ∨ True := .inr trivial
          have h0 : ts[0]? = some t := by rw [← Array.getElem?_toList, htl]; rfl
          cases hv with
          | sl _ _ _ _ _ q A c' g g0 g1 g2 g3 g4 =>
            rw [hp] at g; cases g
            have hopn : p.opn = false := by
              cases y with
              | dead => simp [Blk.shut] at hop
              | map es => simp [Blk.shut] at hop
              | ints k l oo => exact hB.1.trans (by simpa [Blk.shut] using hop)
              | vals l oo pu => exact hB.1.1.trans (by simpa [Blk.shut] using hop)
            have hcc : c' = c := by
              rcases g3 with g3 | g3
              · rw [hopn] at g3; cases g3
              · exact g3
            subst hcc
            exact ⟨_, by simp [builtin, Builtin.cap_, h0, run_underlying hu, goInt], .int _ _⟩
        · cases h
      · cases h
    · cases h
  · rename_i k x r'
    split at h
    · rename_i l hk
      cases h
      cases us with
      | nil => simp at hlen
      | cons u us =>
        have hu : u = .int k x := by have := hr 0 (by simp); simp at this; cases this; rfl
        subst hu
        have hus := intsOf_vals (φ := φ) (w0 := w0) hk us (by simpa using hlen) fun j hj => by have := hr (j + 1) (by simpa using hj); simpa using this
        subst hus
        exact ⟨_, by simp only [builtin, Sem.run_bind, run_min_ints, Result.andThen_ok, Sem.run_pure], .int _ _⟩
    · cases h
  · rename_i k x r'
    split at h
    · rename_i l hk
      cases h
      cases us with
      | nil => simp at hlen
      | cons u us =>
        have hu : u = .int k x := by have := hr 0 (by simp); simp at this; cases this; rfl
        subst hu
        have hus := intsOf_vals (φ := φ) (w0 := w0) hk us (by simpa using hlen) fun j hj => by have := hr (j + 1) (by simpa using hj); simpa using this
        subst hus
        exact ⟨_, by simp only [builtin, Sem.run_bind, run_max_ints, Result.andThen_ok, Sem.run_pure], .int _ _⟩
    · cases h
  · rename_i s x
    split at h
    · rename_i t t1 htl
      have hts : ts = #[t, t1] := by
        apply Array.ext'; rw [htl]
      subst hts
      obtain ⟨u, y', rfl, hv, hv'⟩ := two _ _ rfl
      have fin : ∀ e, C.P.underlying t = some (.slice e) → ((∃ f, C.P.underlying t1 = some (.slice f)) ∨ C.P.underlying t1 = some .string) → aappend C.P (look H) id e s x = some (r, cs) → ResGood C φ H w0 w id ((builtin .append #[t, t1] ty consts [u, y'].toArray).run C.P w) r := by
        intro e hu hu1 hap
        rcases aappend_sound (ty := ty) rel hid hl hu hu1 hv hv' hap hc with ⟨v, y, rfl, ψ, q, w', g1, g2, g3, g4⟩ | ⟨b, v, y, rfl, ψ, q, w', g1, g2, g3, g4⟩
        · refine ⟨ψ, q, w', .inl ?_, g2, g3, g4⟩
          simp only [builtin, Sem.run_bind]
          rw [show [u, y'].toArray = #[u, y'] from rfl, g1]; rfl
        · refine ⟨ψ, q, w', .inl ?_, g2, g3, g4⟩
          simp only [builtin, Sem.run_bind]
          rw [show [u, y'].toArray = #[u, y'] from rfl, g1]; rfl
      split at h
      · rename_i e f hu hu1
        exact fin e hu (.inl ⟨f, hu1⟩) h
      · rename_i e hu hu1
        exact fin e hu (.inr hu1) h
      · cases h
    · cases h
  · rename_i b' o' n c z x
    split at h
    · rename_i t ts' htl
      have h0 : ts[0]? = some t := by rw [← Array.getElem?_toList, htl]; rfl
      split at h
      · rename_i e hu
        split at h
        · rename_i ze hze
          split at h
          · rename_i y sx nx cx hz hy hsx
            have hz' : z = ze := by simpa using hz
            subst hz'
            split at h
            · rename_i y' hcp
              cases h
              obtain ⟨u, y2, rfl, hv, hv'⟩ := two _ _ rfl
              obtain ⟨hle, hcx⟩ := hc
              obtain ⟨w', g1, g2, g3⟩ := copy_sound (ty := ty) rel h0 hu hze hv hv' hy hsx hcp hle hcx
              refine ⟨φ, _, w', .inl ?_, .int _ _, g2, g3⟩
              simp only [builtin, Sem.run_bind]
              rw [show [u, y2].toArray = #[u, y2] from rfl, g1]; rfl
            · cases h
          · cases h
        · cases h
      · cases h
    · cases h
  · cases h

theorem call_sound (rel : RelH φ H w0 w) (hid : look H id = none) (hl : id < H.length) (hev : ∀ x v, ev x = some v → RV φ w0 v (ρ x)) {c : Call} (ho : o.op = .call c)
    (h : aop C (look H) ev id o = some (r, cs)) (hc : oks cs) : ResGood C φ H w0 w id ((execOp ρ o).run C.P w) r := by
  unfold aop at h
  simp only [ho] at h
  split at h
  · cases h
  · rename_i args hargs
    obtain ⟨e1, e2⟩ := evAll_spec hev hargs
    split at h
    · rename_i b hcal
      have := builtin_sound (C := C) (ty := o.type) (consts := c.args.map fun | .const _ => true | _ => false) rel hid hl (us := c.args.toList.map ρ) (by simp [e1]) e2 h hc
      have hrun : (execOp ρ o).run C.P w = (builtin b c.argTypes o.type (c.args.map fun | .const _ => true | _ => false) (c.args.toList.map ρ).toArray).run C.P w := by
        have : (c.args.toList.map ρ).toArray = c.args.map ρ := by rw [← Array.toList_map]
        rw [this]
        simp only [execOp, ho, resolve, hcal, Sem.run_bind, Sem.run_pure, Result.andThen_ok]
        rfl
      rw [hrun]; exact this
    · rename_i f hcal
      split at h
      · rename_i g caps hf
        cases h
        have hvf := hev _ _ hf
        generalize hrf : ρ f = uf at hvf
        cases hvf with
        | fn _ _ us h1 h2 =>
          refine ⟨(c.args.map ρ) ++ us, by simp [e1, h1], fun j hj => ?_, ?_⟩
          · rw [arr_getD_toList, Array.toList_append]
            simp only [List.getD_eq_getElem?_getD]
            by_cases hja : j < args.length
            · rw [List.getElem?_append_left hja, List.getElem?_append_left (by simpa [e1] using hja)]
              have := e2 j hja
              simpa [List.getD_eq_getElem?_getD] using this
            · have e1' : args.length = c.args.size := by simpa using e1
              rw [List.getElem?_append_right (Nat.le_of_not_lt hja), List.getElem?_append_right (by simp; omega)]
              have hj' : j - args.length < caps.length := by simp at hj; omega
              have := h2 (j - args.length) hj'
              rw [arr_getD_toList] at this
              simpa [List.getD_eq_getElem?_getD, e1] using this
          · intro fn code hfn hbody hname
            have hb : fn.body.isNone = false := by rw [hbody]; rfl
            have hname' : ¬ fn.name = "runtime.NumGoroutine" := by simpa using hname
            have hb' : ¬ fn.body = none := by rw [hbody]; simp
            simp [execOp, ho, resolve, hcal, hrf, Deferred.ofValue, invoke, callFunc, hfn, hname', hb']
      · cases h
    · cases h

theorem val_good {run : Result Next} (h : ∃ v u, r = .val v ∧ run = .ok (.value u) w ∧ RV φ w0 v u) : ResGood C φ H w0 w id run r := by
  obtain ⟨v, u, rfl, h1, h2⟩ := h
  exact ⟨u, h1, h2⟩

theorem prim_sound (rel : RelH φ H w0 w) (hG : GlobR C w0) (hid : look H id = none) (hl : id < H.length) (hev : ∀ x v, ev x = some v → RV φ w0 v (ρ x))
    (h : aop C (look H) ev id o = some (r, cs)) (hc : oks cs) : ResGood C φ H w0 w id ((execOp ρ o).run C.P w) r := by
  cases ho : o.op with
  | move x => exact val_good (move_sound hev (.inl ho) h)
  | assign x => exact val_good (move_sound hev (.inr ho) h)
  | alloc e => obtain ⟨v, y, rfl, g⟩ := alloc_sound (ρ := ρ) rel hid hl ho h; exact g
  | box e x => obtain ⟨v, y, rfl, g⟩ := box_sound rel hid hl hev ho h; exact g
  | build t ps => exact val_good (build_sound hev ho h)
  | buildSlice t n ps => obtain ⟨v, y, rfl, g⟩ := buildSlice_sound rel hid hl hev ho h; exact g
  | load t a => exact val_good (load_sound rel hG hev ho h hc)
  | store t a x => obtain ⟨b, y, rfl, g⟩ := store_sound rel hev ho h hc; exact g
  | nilCheck x => exact val_good (nilCheck_sound hev ho h)
  | binOp op t x y yt => exact val_good (binOp_sound hev ho h hc)
  | unOp op t x => exact val_good (unOp_sound hev ho h)
  | convert s d x => exact convert_sound rel hid hl hev ho h hc
  | makeFunc fn fs cp => exact val_good (makeFunc_sound hev ho h)
  | makeSlice t l c => exact makeSlice_sound rel hid hl hev ho h hc
  | slice t x lo hi mx =>
    cases mx with
    | none => exact val_good (slice_sound rel hev ho h hc)
    | some m => unfold aop at h; simp only [ho] at h; cases h
  | fieldAddr s x f => exact val_good (fieldAddr_sound hev ho h)
  | field t x f => exact val_good (field_sound hev ho h)
  | indexAddr t x i => exact val_good (indexAddr_sound rel hev ho h hc)
  | index t x i => exact val_good (index_sound hev ho h hc)
  | extract x i => exact val_good (extract_sound hev ho h)
  | call c => exact call_sound rel hid hl hev ho h hc
  | _ => unfold aop at h; simp only [ho] at h; cases h

end
end Go.Proofs.Ytmdkhdfckdkceaa.TdAm
