/- The abstract machine, part 18: one operation of a region. -/
import Derived.Test.YtmdkhdfckdkceaaAm17
namespace Go.Proofs.Ytmdkhdfckdkceaa.TdAm
open Go Go.RowKit
set_option linter.unusedVariables false
set_option linter.unusedSimpArgs false

theorem owns_congr {φ : Phi} {H K : Hp} (h : ∀ b, look K b = look H b) (k : Nat) : owns φ K k ↔ owns φ H k := by
  simp only [owns, h]
theorem RelH.congr {φ : Phi} {H K : Hp} {w0 w : World} (h : ∀ b, look K b = look H b) (r : RelH φ H w0 w) : RelH φ K w0 w :=
  ⟨r.below, fun b x e => r.blk b x (h b ▸ e), fun k e => r.base k ((owns_congr h k).1 e), fun b b' x x' p p' e e' => r.inj b b' x x' p p' (h b ▸ e) (h b' ▸ e'), fun b e => r.fresh b (h b ▸ e)⟩
theorem Fr.congr {k : Nat} {φ ψ : Phi} {H H' K K' : Hp} {w w' : World} (h : ∀ b, look H' b = look H b) (g : ∀ b, look K' b = look K b) (f : Fr k φ H w ψ K w') : Fr k φ H' w ψ K' w' :=
  ⟨f.pin, f.size, fun j hj ho => f.keep j hj fun e => ho ((owns_congr h j).2 e), fun j hj => (f.own j ((owns_congr g j).1 hj)).imp (owns_congr h j).2 id⟩

theorem look_pad (H : Hp) (n b : Nat) : look (H ++ List.replicate n none) b = look H b := by
  simp only [look, List.getD_eq_getElem?_getD]
  rcases Nat.lt_or_ge b H.length with h | h
  · rw [List.getElem?_append_left h]
  · rw [List.getElem?_append_right h, List.getElem?_eq_none h, List.getElem?_replicate]
    split <;> rfl

theorem within_le {get : Nat → Option Blk} {fp : List Nat} : ∀ b y, within get fp b = some y → get b = some y := by
  intro b y h
  unfold within at h
  split at h
  · exact h
  · cases h

theorem opEff1_sound {C : Cx} {K : CallF} {φ : Phi} {H : Hp} {w0 w : World} {ev : Operand → Option AV} {a : Act} {id : Nat} {p : Path} {o : Oper} {e : Eff} (hK : KOk C K) (hG : GlobR C w0) (rel : RelH φ H w0 w)
    (hid : ∀ j, j < e.cnt → look H (id + j) = none) (hev : ∀ x v, ev x = some v → RV φ w0 v (a.eval x)) (h : opEff1 C K (look H) ev id p o = some e) (hid0 : look H id = none) (hc : oks e.cs)
    {next : Act → World → Prop} {Q : Exit → Act → World → Prop}
    (hn : ∀ u ψ w', RelH ψ (putW H e.ws) w0 w' → Fr H.length φ H w ψ (putW H e.ws) w' → RV ψ w0 e.v u → next (a.put o.dst u) w') : o.wp C.P a w next Q := by
  have prim : ∀ (n : Nat) {r : Res} {cs : List Chk}, id < n → aop C (within (look H) (topRefs ev o.op.operands.toList)) ev id o = some (r, cs) → oks cs → ResGood C φ (H ++ List.replicate n none) w0 w id ((execOp a.eval o).run C.P w) r := by
    intro n r cs hn h hc
    have h' := aop_mono (get' := look H) within_le (fun x v h => h) h
    have e : look (H ++ List.replicate n none) = look H := funext (look_pad H n)
    exact prim_sound (rel.congr (look_pad H n)) hG (by rw [look_pad]; exact hid0) (by simp; omega) hev (by rw [e]; exact h') hc
  have conv : ∀ (n : Nat) (v : AV) (K' : Hp), (∀ c, look K' c = look (putW H e.ws) c) → e.v = v → Good φ (H ++ List.replicate n none) w0 w v K' ((execOp a.eval o).run C.P w) → o.wp C.P a w next Q := by
    rintro n v K' hl hv ⟨ψ, u, w', hrun, hvu, hr, hx⟩
    subst hv
    have hnext := hn u ψ w' (hr.congr fun b => (hl b).symm) ((hx.fr H.length).congr (fun b => (look_pad H n b).symm) fun b => (hl b).symm) hvu
    unfold Oper.wp
    rcases hrun with hrun | ⟨hrun, rfl⟩
    · rw [hrun]; exact hnext
    · rw [hrun]; exact hnext
  unfold opEff1 at h
  split at h
  · cases h
  · rename_i v cs hop
    cases h
    obtain ⟨u, hrun, hvu⟩ := prim (id + 1) (by omega) hop hc
    unfold Oper.wp
    rw [hrun]
    exact hn u φ w rel (Fr.refl ..) hvu
  · rename_i v x cs hop
    cases h
    refine conv (id + 1) v _ (fun c => ?_) rfl (prim (id + 1) (by omega) hop hc)
    show _ = look (setX H id (some x)) c
    rw [look_setX]
    by_cases hcid : c = id
    · subst hcid; rw [look_set_same (by simp; omega), if_pos rfl]
    · rw [look_set_ne hcid, look_pad, if_neg hcid]
  · rename_i b x v cs hop
    cases h
    refine conv (id + b + 1) v _ (fun c => ?_) rfl (prim (id + b + 1) (by omega) hop hc)
    show _ = look (setX H b (some x)) c
    rw [look_setX]
    by_cases hcid : c = b
    · subst hcid; rw [look_set_same (by simp; omega), if_pos rfl]
    · rw [look_set_ne hcid, look_pad, if_neg hcid]
  · rename_i b x v cs hop
    cases h
    refine conv (id + b + 1) v _ (fun c => ?_) rfl (prim (id + b + 1) (by omega) hop hc)
    show _ = look (setX (setX H b (some .dead)) id (some x)) c
    rw [look_setX, look_setX]
    by_cases hcid : c = id
    · subst hcid; rw [look_set_same (by simp; omega), if_pos rfl]
    · rw [look_set_ne hcid, if_neg hcid]
      by_cases hcb : c = b
      · subst hcb; rw [look_set_same (by simp; omega), if_pos rfl]
      · rw [look_set_ne hcb, look_pad, if_neg hcb]
  · rename_i f args cs hop
    split at h
    · rename_i e' hcall
      cases h
      obtain ⟨hc1, hc2⟩ := oks_append.1 hc
      obtain ⟨us, h1, h2, h3⟩ := prim (id + 1) (by omega) hop hc1
      obtain ⟨⟨fn, c, g1, g2, g3⟩, hcalls⟩ := acall_sound (e := e') hK hG rel hid h1 h2 hcall hc2
      have hrun := h3 fn c g1 g2 g3
      unfold Oper.wp
      rw [hrun]
      refine Calls.mono hcalls ?_
      rintro en w' ⟨u, ψ, rfl, k1, k2, k3⟩
      exact hn u ψ w' k1 k2 k3
    · cases h

theorem chooseB_spec {p p1 : Path} {b c : Bool} {cs : List Chk} (h : chooseB p b = some (c, cs, p1)) (hc : oks cs) : c = b := by
  unfold chooseB at h
  split at h
  · cases h; rfl
  · cases h; exact hc.1.symm
  · cases h

theorem opEff_sound {C : Cx} {K : CallF} {φ : Phi} {H : Hp} {w0 w : World} {ev : Operand → Option AV} {a : Act} {id : Nat} {p : Path} {o : Oper} {e : Eff} (hK : KOk C K) (hG : GlobR C w0) (rel : RelH φ H w0 w)
    (hid : ∀ j, j < e.cnt → look H (id + j) = none) (hev : ∀ x v, ev x = some v → RV φ w0 v (a.eval x)) (h : opEff C K (look H) ev id p o = some e) (hid0 : look H id = none) (hc : oks e.cs)
    {next : Act → World → Prop} {Q : Exit → Act → World → Prop}
    (hn : ∀ u ψ w', RelH ψ (putW H e.ws) w0 w' → Fr H.length φ H w ψ (putW H e.ws) w' → RV ψ w0 e.v u → next (a.put o.dst u) w') : o.wp C.P a w next Q := by
  unfold opEff at h
  split at h
  · rename_i c x y hop
    split at h
    · rename_i b hb
      have hvb := hev _ _ hb
      have hcb : a.eval c = .bool b := by generalize a.eval c = u at hvb; cases hvb; rfl
      have hrun : (execOp a.eval o).run C.P w = .ok (.value (if b = true then a.eval x else a.eval y)) w := by
        simp [execOp, hop, hcb, asBool]
      unfold Oper.wp
      rw [hrun]
      split at h
      · rename_i cs p1 hch
        split at h
        · rename_i v hv
          cases h
          have hbt := chooseB_spec hch hc
          subst hbt
          exact hn _ φ w rel (Fr.refl ..) (hev _ _ hv)
        · cases h
      · rename_i cs p1 hch
        split at h
        · rename_i v hv
          cases h
          have hbt := chooseB_spec hch hc
          subst hbt
          exact hn _ φ w rel (Fr.refl ..) (hev _ _ hv)
        · cases h
      · cases h
    · cases h
  · exact opEff1_sound hK hG rel hid hev h hid0 hc hn

end Go.Proofs.Ytmdkhdfckdkceaa.TdAm
