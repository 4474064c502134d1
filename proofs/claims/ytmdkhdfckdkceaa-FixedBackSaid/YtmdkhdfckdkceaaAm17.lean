/- The abstract machine, part 17: who knows more answers the same. -/
import Derived.Test.YtmdkhdfckdkceaaAm16
namespace Go.Proofs.Ytmdkhdfckdkceaa.TdAm
open Go Go.RowKit
set_option linter.unusedVariables false
set_option linter.unusedSimpArgs false

section
variable {C : Cx} {get get' : Nat → Option Blk} {ev ev' : Operand → Option AV}

theorem evAll_mono (E : ∀ x v, ev x = some v → ev' x = some v) : ∀ {l : List Operand} {m : List AV}, evAll ev l = some m → evAll ev' l = some m
  | [], m, h => h
  | x :: r, m, h => by
    simp only [evAll] at h ⊢
    split at h
    · rename_i v l hv hl
      rw [E _ _ hv, evAll_mono E hl]; exact h
    · cases h

theorem boundOf_mono (E : ∀ x v, ev x = some v → ev' x = some v) {x : Option Operand} {r : Option Int} (h : boundOf ev x = some r) : boundOf ev' x = some r := by
  cases x with
  | none => exact h
  | some x =>
    simp only [boundOf] at h ⊢
    split at h
    · rename_i k n hx; rw [E _ _ hx]; exact h
    · cases h

theorem fillA_mono (E : ∀ x v, ev x = some v → ev' x = some v) {place : Nat → Option (Nat × Nat)} : ∀ {l : List (Nat × Operand)} {cells r : List AV}, fillA place ev cells l = some r → fillA place ev' cells l = some r
  | [], cells, r, h => h
  | (i, x) :: l, cells, r, h => by
    simp only [fillA] at h ⊢
    split at h
    · rename_i off z v hp hv
      split at h
      · rename_i h1 h2
        rw [hp, E _ _ hv]
        dsimp only
        rw [h1, h2]
        exact fillA_mono E h
      · cases h
    · cases h

theorem srcOf_mono (G : ∀ b y, get b = some y → get' b = some y) {z : Nat} {v : AV} {r : Src × Nat × List Chk} (h : srcOf get z v = some r) : srcOf get' z v = some r := by
  cases v with
  | sl b o n c z' =>
    simp only [srcOf] at h ⊢
    cases hg : get b with
    | none => rw [hg] at h; split at h <;> simp_all
    | some y => rw [hg] at h; rw [G _ _ hg]; exact h
  | _ => exact h

theorem aappend_mono (G : ∀ b y, get b = some y → get' b = some y) {id : Nat} {e : TypeId} {s x : AV} {r : Res × List Chk} (h : aappend C.P get id e s x = some r) : aappend C.P get' id e s x = some r := by
  unfold aappend at h ⊢
  split at h
  · rename_i ie ze sx nx cx hie hze hsx
    rw [hze, srcOf_mono G hsx]
    rw [hie]
    dsimp only
    rw [hie] at hsx
    split at h
    · cases s with
      | nils => exact h
      | sl b o n c z =>
        dsimp only at h ⊢
        split at h
        · rename_i ss m cs hss
          rw [srcOf_mono G hss]; exact h
        · cases h
      | _ => exact h
    · cases h
  · cases h

theorem abuiltin_mono (G : ∀ b y, get b = some y → get' b = some y) {id : Nat} {b : Builtin} {ts : List TypeId} {args : List AV} {r : Res × List Chk} (h : abuiltin C.P get id b ts args = some r) : abuiltin C.P get' id b ts args = some r := by
  cases b with
  | cap =>
    rcases args with _ | ⟨a, _ | ⟨a2, q⟩⟩
    · exact h
    · cases a with
      | sl b o n c z =>
        simp only [abuiltin] at h ⊢
        cases hg : get b with
        | none => rw [hg] at h; rcases ts with _ | ⟨t, ts⟩ <;> cases h
        | some y => rw [hg] at h; rw [G _ _ hg]; exact h
      | _ => exact h
    · cases a <;> exact h
  | append =>
    rcases args with _ | ⟨a, _ | ⟨a2, _ | ⟨a3, q⟩⟩⟩
    · exact h
    · exact h
    · simp only [abuiltin] at h ⊢
      rcases ts with _ | ⟨t, _ | ⟨t1, _ | ⟨t2, q⟩⟩⟩
      · exact h
      · exact h
      · dsimp only at h ⊢
        split at h
        · exact aappend_mono G h
        · exact aappend_mono G h
        · cases h
      · exact h
    · exact h
  | copy =>
    rcases args with _ | ⟨a, _ | ⟨a2, _ | ⟨a3, q⟩⟩⟩
    · exact h
    · cases a <;> exact h
    · cases a with
      | sl b o n c z =>
        simp only [abuiltin] at h ⊢
        rcases ts with _ | ⟨t, ts⟩
        · exact h
        · dsimp only at h ⊢
          split at h
          · split at h
            · rename_i ze hze
              cases hg : get b with
              | none => rw [hg] at h; split at h <;> simp_all
              | some y =>
                cases hs : srcOf get z a2 with
                | none => rw [hg, hs] at h; split at h <;> simp_all
                | some q => rw [hg, hs] at h; rw [G _ _ hg, srcOf_mono G hs]; exact h
            · cases h
          · cases h
      | _ => exact h
    · cases a <;> exact h
  | len =>
    rcases args with _ | ⟨a, _ | ⟨a2, q⟩⟩
    · exact h
    · cases a <;> exact h
    · cases a <;> exact h
  | min =>
    rcases args with _ | ⟨a, _ | ⟨a2, _ | ⟨a3, q⟩⟩⟩
    · exact h
    · cases a <;> exact h
    · cases a <;> cases a2 <;> exact h
    · cases a <;> cases a2 <;> exact h
  | max =>
    rcases args with _ | ⟨a, _ | ⟨a2, _ | ⟨a3, q⟩⟩⟩
    · exact h
    · cases a <;> exact h
    · cases a <;> cases a2 <;> exact h
    · cases a <;> cases a2 <;> exact h
  | _ => exact h

theorem aop_mono (G : ∀ b y, get b = some y → get' b = some y) (E : ∀ x v, ev x = some v → ev' x = some v) {id : Nat} {o : Oper} {r : Res × List Chk} (h : aop C get ev id o = some r) : aop C get' ev' id o = some r := by
  unfold aop at h ⊢
  cases ho : o.op with
  | move x =>
    simp only [ho] at h ⊢
    cases hx : ev x with
    | none => rw [hx] at h; cases h
    | some v => rw [hx] at h; rw [E _ _ hx]; exact h
  | assign x =>
    simp only [ho] at h ⊢
    cases hx : ev x with
    | none => rw [hx] at h; cases h
    | some v => rw [hx] at h; rw [E _ _ hx]; exact h
  | alloc e => simp only [ho] at h ⊢; exact h
  | box e x =>
    simp only [ho] at h ⊢
    cases hx : ev x with
    | none => rw [hx] at h; cases h
    | some v => rw [hx] at h; rw [E _ _ hx]; exact h
  | build t parts =>
    simp only [ho] at h ⊢
    split at h
    · split at h
      · split at h
        · rename_i hf; rw [fillA_mono E hf]; exact h
        · cases h
      · cases h
    · split at h
      · split at h
        · rename_i hf; rw [fillA_mono E hf]; exact h
        · cases h
      · cases h
    · cases h
  | buildSlice t n parts =>
    simp only [ho] at h ⊢
    split at h
    · split at h
      · split at h
        · rename_i h1 h2 h3 hf; rw [fillA_mono E hf]; simp only [h1, h2, h3]; exact h
        · cases h
      · cases h
    · cases h
  | load t a =>
    simp only [ho] at h ⊢
    cases hx : ev a with
    | none => rw [hx] at h; cases h
    | some v =>
      rw [hx] at h; rw [E _ _ hx]
      cases v with
      | ptr b i =>
        dsimp only at h ⊢
        cases hg : get b with
        | none => rw [hg] at h; cases h
        | some y => rw [hg] at h; rw [G _ _ hg]; exact h
      | _ => exact h
  | store t a x =>
    simp only [ho] at h ⊢
    cases hx : ev a with
    | none => rw [hx] at h; cases h
    | some v =>
      cases hy : ev x with
      | none => rw [hx, hy] at h; cases v <;> cases h
      | some u =>
        rw [hx, hy] at h; rw [E _ _ hx, E _ _ hy]
        cases v with
        | ptr b i =>
          dsimp only at h ⊢
          cases hg : get b with
          | none => rw [hg] at h; cases h
          | some y => rw [hg] at h; rw [G _ _ hg]; exact h
        | _ => exact h
  | nilCheck x =>
    simp only [ho] at h ⊢
    cases hx : ev x with
    | none => rw [hx] at h; cases h
    | some v => rw [hx] at h; rw [E _ _ hx]; exact h
  | binOp op t x y yt =>
    simp only [ho] at h ⊢
    cases hx : ev x with
    | none => rw [hx] at h; cases h
    | some v =>
      cases hy : ev y with
      | none => rw [hx, hy] at h; cases h
      | some u => rw [hx, hy] at h; rw [E _ _ hx, E _ _ hy]; exact h
  | unOp op t x =>
    simp only [ho] at h ⊢
    cases hx : ev x with
    | none => rw [hx] at h; cases op <;> cases h
    | some v => rw [hx] at h; rw [E _ _ hx]; exact h
  | convert s d x =>
    simp only [ho] at h ⊢
    cases hx : ev x with
    | none => rw [hx] at h; split at h <;> simp_all
    | some v =>
      rw [hx] at h; rw [E _ _ hx]
      split at h
      · exact h
      · exact h
      · exact h
      · rename_i e0 e b o' n c z hs hd hv
        cases hv
        cases hg : get b with
        | none => rw [hg] at h; split at h <;> simp_all
        | some y => rw [hg] at h; rw [G _ _ hg]; exact h
      · rename_i e v' hs hd hv
        cases hv
        cases hsr : srcOf get 1 v with
        | none => rw [hsr] at h; split at h <;> simp_all
        | some q => rw [hsr] at h; rw [srcOf_mono G hsr]; exact h
      · cases h
  | makeFunc fn fs cp =>
    simp only [ho] at h ⊢
    cases fn with
    | func f =>
      dsimp only at h ⊢
      cases hx : evAll ev cp.toList with
      | none => rw [hx] at h; split at h <;> simp_all
      | some l => rw [hx] at h; rw [evAll_mono E hx]; exact h
    | _ => exact h
  | makeSlice t l c =>
    simp only [ho] at h ⊢
    cases hx : ev l with
    | none => rw [hx] at h; split at h <;> simp_all
    | some v =>
      cases hy : ev c with
      | none => rw [hx, hy] at h; split at h <;> simp_all
      | some u => rw [hx, hy] at h; rw [E _ _ hx, E _ _ hy]; exact h
  | slice t x lo hi mx =>
    cases mx with
    | some m => simp only [ho] at h; cases h
    | none =>
      simp only [ho] at h ⊢
      split at h
      · rename_i v l q hx hl hq
        rw [E _ _ hx, boundOf_mono E hl, boundOf_mono E hq]
        dsimp only
        split at h
        · rename_i hu; exact h
        · rename_i n e b i hu
          split at h
          · rename_i z blk hz hg
            rw [hz, G _ _ hg]; exact h
          · cases h
        · cases h
      · cases h
  | fieldAddr s x f =>
    simp only [ho] at h ⊢
    cases hx : ev x with
    | none => rw [hx] at h; cases h
    | some v => rw [hx] at h; rw [E _ _ hx]; exact h
  | field s x f =>
    simp only [ho] at h ⊢
    cases hx : ev x with
    | none => rw [hx] at h; cases h
    | some v => rw [hx] at h; rw [E _ _ hx]; exact h
  | indexAddr t x i =>
    simp only [ho] at h ⊢
    cases hx : ev x with
    | none => rw [hx] at h; cases h
    | some v =>
      cases hy : ev i with
      | none => rw [hx, hy] at h; cases h
      | some u => rw [hx, hy] at h; rw [E _ _ hx, E _ _ hy]; exact h
  | index t x i =>
    simp only [ho] at h ⊢
    cases hx : ev x with
    | none => rw [hx] at h; cases h
    | some v =>
      cases hy : ev i with
      | none => rw [hx, hy] at h; cases h
      | some u => rw [hx, hy] at h; rw [E _ _ hx, E _ _ hy]; exact h
  | extract x i =>
    simp only [ho] at h ⊢
    cases hx : ev x with
    | none => rw [hx] at h; cases h
    | some v => rw [hx] at h; rw [E _ _ hx]; exact h
  | call c =>
    simp only [ho] at h ⊢
    cases hx : evAll ev c.args.toList with
    | none => rw [hx] at h; cases h
    | some l =>
      rw [hx] at h; rw [evAll_mono E hx]
      dsimp only at h ⊢
      split at h
      · exact abuiltin_mono G h
      · rename_i f hc
        cases hf : ev f with
        | none => rw [hf] at h; cases h
        | some v => rw [hf] at h; rw [E _ _ hf]; exact h
      · cases h
  | _ => simp only [ho] at h; cases h

end
end Go.Proofs.Ytmdkhdfckdkceaa.TdAm
