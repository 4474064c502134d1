/- The abstract machine, part 28: what is lent to a function that only reads. -/
import Derived.Test.YtmdkhdfckdkceaaAm27
namespace Go.Proofs.Ytmdkhdfckdkceaa.TdAm
open Go Go.RowKit
set_option linter.unusedVariables false
set_option linter.unusedSimpArgs false

/-- Values that hold nothing of the read-only memory. -/
def allF (f : AV → Bool) : List AV → Bool
  | [] => true
  | v :: r => f v && allF f r
theorem allF_mem {f : AV → Bool} : ∀ {l : List AV}, allF f l = true → ∀ v, v ∈ l → f v = true
  | [], _, v, h => by cases h
  | a :: r, h, v, hv => by
    simp only [allF, Bool.and_eq_true] at h
    rcases List.mem_cons.1 hv with e | e
    · exact e ▸ h.1
    · exact allF_mem h.2 v e
def AV.free : Nat → AV → Bool
  | _, .roc _ => false
  | _, .roi _ _ => false
  | _, .ros _ _ _ => false
  | d + 1, .fn _ cs => allF (AV.free d) cs
  | d + 1, .agg cs => allF (AV.free d) cs
  | d + 1, .tup cs => allF (AV.free d) cs
  | 0, .fn _ _ => false
  | 0, .agg _ => false
  | 0, .tup _ => false
  | _, _ => true
theorem getD_mem' {l : List AV} {i : Nat} (hi : i < l.length) : l.getD i .nilp ∈ l := by
  rw [List.getD_eq_getElem?_getD, List.getElem?_eq_getElem hi]
  exact List.getElem_mem hi
theorem RV.swap {φ : Phi} {w0 w1 : World} : ∀ (d : Nat) {v : AV} {u : Value}, v.free d = true → RV φ w0 v u → RV φ w1 v u := by
  intro d
  induction d with
  | zero =>
    intro v u hf h
    cases h with
    | int k n => exact .int k n
    | bool b => exact .bool b
    | str s => exact .str s
    | nilp => exact .nilp
    | ptr b o p h => exact .ptr b o p h
    | gptr g o => exact .gptr g o
    | nils => exact .nils
    | sl b o n c z p A c' h h0 h1 h2 h3 h4 => exact .sl b o n c z p A c' h h0 h1 h2 h3 h4
    | nilm => exact .nilm
    | mp b p h => exact .mp b p h
    | nilf => exact .nilf
    | _ => simp [AV.free] at hf
  | succ d ih =>
    intro v u hf h
    cases h with
    | int k n => exact .int k n
    | bool b => exact .bool b
    | str s => exact .str s
    | nilp => exact .nilp
    | ptr b o p h => exact .ptr b o p h
    | gptr g o => exact .gptr g o
    | nils => exact .nils
    | sl b o n c z p A c' h h0 h1 h2 h3 h4 => exact .sl b o n c z p A c' h h0 h1 h2 h3 h4
    | nilm => exact .nilm
    | mp b p h => exact .mp b p h
    | nilf => exact .nilf
    | fn f caps us h h2 => exact .fn f caps us h fun j hj => ih (allF_mem hf _ (getD_mem' hj)) (h2 j hj)
    | agg cs us h h2 => exact .agg cs us h fun j hj => ih (allF_mem hf _ (getD_mem' hj)) (h2 j hj)
    | tup vs us h h2 => exact .tup vs us h fun j hj => ih (allF_mem hf _ (getD_mem' hj)) (h2 j hj)
    | _ => simp [AV.free] at hf
def Blk.free : Blk → Bool
  | .ints _ _ _ => true
  | .vals l _ _ => allF (AV.free 4) l
  | .map es => allF (AV.free 4) (es.map (·.1)) && allF (AV.free 4) (es.map (·.2))
  | .dead => true
def freeH : Hp → Bool
  | [] => true
  | none :: r => freeH r
  | some x :: r => x.free && freeH r
theorem freeH_look : ∀ {H : Hp} {b : Nat} {x : Blk}, freeH H = true → look H b = some x → x.free = true
  | [], b, x, _, h => by simp [look] at h
  | none :: r, 0, x, _, h => by simp [look] at h
  | some y :: r, 0, x, hf, h => by
    simp only [freeH, Bool.and_eq_true] at hf
    simp only [look, List.getD_cons_zero, Option.some.injEq] at h
    exact h ▸ hf.1
  | none :: r, b + 1, x, hf, h => freeH_look (H := r) (b := b) (by simpa [freeH] using hf) (by simpa [look] using h)
  | some y :: r, b + 1, x, hf, h => by
    simp only [freeH, Bool.and_eq_true] at hf
    exact freeH_look (H := r) (b := b) hf.2 (by simpa [look] using h)
theorem CellsR.swap {φ : Phi} {w0 w1 w : World} {p : Pl} {o : Bool} {n : Nat} {f : Nat → AV} (hv : ∀ i u, i < n → RV φ w0 (f i) u → RV φ w1 (f i) u) (h : CellsR φ w0 w p o n f) : CellsR φ w1 w p o n f := by
  obtain ⟨h0, h⟩ := h
  refine ⟨h0, h.imp id ?_⟩
  rintro ⟨cc, e, lo, hi, h1, h2, h3, h4, h5⟩
  exact ⟨cc, e, lo, hi, h1, h2, h3, h4, fun i hi' => hv _ _ hi' (h5 i hi')⟩
theorem BlkR.swap {φ : Phi} {w0 w1 w : World} {p : Pl} {x : Blk} (hf : x.free = true) (h : BlkR φ w0 w p x) : BlkR φ w1 w p x := by
  cases x with
  | dead => trivial
  | ints k l o => exact CellsR.swap (fun i u _ h => h.swap 0 rfl) h
  | vals l o pu => exact ⟨CellsR.swap (fun i u hi h => h.swap 4 (allF_mem hf _ (getD_mem' hi))) h.1, h.2⟩
  | map es =>
    simp only [Blk.free, Bool.and_eq_true] at hf
    obtain ⟨h0, ents, clock, h1, h2, h3, h4⟩ := h
    refine ⟨h0, ents, clock, h1, h2, fun i hi => ⟨(h3 i hi).1.swap 4 (allF_mem hf.1 _ ?_), (h3 i hi).2.swap 4 (allF_mem hf.2 _ ?_)⟩, h4⟩
    · rw [List.getD_eq_getElem?_getD, List.getElem?_eq_getElem hi]
      exact List.mem_map.2 ⟨_, List.getElem_mem hi, rfl⟩
    · rw [List.getD_eq_getElem?_getD, List.getElem?_eq_getElem hi]
      exact List.mem_map.2 ⟨_, List.getElem_mem hi, rfl⟩

theorem GlobR.later {C : Cx} {w0 w : World} (hb : Below w0.heap.size w0 w) (h : GlobR C w0) : GlobR C w := by
  intro g x hx i hi
  obtain ⟨u, h1, h2⟩ := h g x hx i hi
  exact ⟨u, (hb.cell (World.block_lt_of_cell? w0 _ h1)).trans h1, fun φ => (h2 φ).later hb⟩

/-- The same values, with what is lent read as read-only memory. -/
def thawV (H : Hp) : AV → Option (AV × List Chk)
  | .sl b o n c z => match look H b with
    | some (.ints k l _) => match Nat.beq z 1 with
      | true => some (.roi k ((l.drop o).take n), [.nle (o + n) l.length])
      | false => none
    | _ => none
  | .ptr _ _ => none
  | .mp _ => none
  | .fn _ _ => none
  | .agg _ => none
  | .tup _ => none
  | v => some (v, [])
def thawL (H : Hp) : List AV → Option (List AV × List Chk)
  | [] => some ([], [])
  | v :: r => match thawV H v, thawL H r with
    | some (x, c), some (y, d) => some (x :: y, c ++ d)
    | _, _ => none
theorem thawV_sound {φ : Phi} {H : Hp} {w0 w : World} (rel : RelH φ H w0 w) {v x : AV} {cs : List Chk} {u : Value} (h : thawV H v = some (x, cs)) (hc : oks cs) (hv : RV φ w0 v u) : RV (fun _ => none) w x u := by
  cases hv with
  | sl b o n c z p A c' g h0 h1 h2 h3 h4 =>
    simp only [thawV] at h
    split at h
    · rename_i k l opn hl
      split at h
      · rename_i hz
        cases h
        have hz1 : z = 1 := Nat.eq_of_beq_eq_true hz
        subst hz1
        obtain ⟨q, hq, hB⟩ := rel.blk b _ hl
        rw [g] at hq; cases hq
        have hle : o + n ≤ l.length := hc.1
        have hlen : ((l.drop o).take n).length = n := by simp; omega
        have key : RV (fun _ => none) w (.roi k ((l.drop o).take n)) (.slice A ((l.drop o).take n).length c') := by
          refine .roi k _ A c' (by omega) fun i hi => ?_
          have hi' : i < n := by omega
          refine ⟨⟨p.blk, p.off + o, none⟩, h2 (by omega), ?_⟩
          obtain ⟨_, u, k1, k2, _⟩ := hB.cell (i := o + i) (by show o + i < l.length; omega)
          rw [add_plain', Nat.add_assoc]
          rw [k1]
          have e : (Blk.ints k l opn).cell (o + i) = .int k (l.getD (o + i) 0) := rfl
          rw [e] at k2
          have : u = .int k (l.getD (o + i) 0) := by cases k2; rfl
          rw [this]
          congr 2
          simp [List.getD_eq_getElem?_getD, List.getElem?_take, List.getElem?_drop, hi']
        rw [hlen] at key
        exact key
      · cases h
    · cases h
  | int k n => cases h; exact .int k n
  | bool b => cases h; exact .bool b
  | str s => cases h; exact .str s
  | nilp => cases h; exact .nilp
  | gptr g o => cases h; exact .gptr g o
  | roc cells a us g1 g2 => cases h; exact (RV.roc (φ := fun _ => none) cells a us g1 g2).later rel.below
  | nils => cases h; exact .nils
  | roi k l A c g1 g2 => cases h; exact (RV.roi (φ := fun _ => none) k l A c g1 g2).later rel.below
  | ros z n f A c us g1 hz g2 g3 g4 => cases h; exact (RV.ros (φ := fun _ => none) z n f A c us g1 hz g2 g3 g4).later rel.below
  | nilm => cases h; exact .nilm
  | nilf => cases h; exact .nilf
  | _ => simp [thawV] at h
theorem thawL_sound {φ : Phi} {H : Hp} {w0 w : World} (rel : RelH φ H w0 w) : ∀ {l m : List AV} {cs : List Chk}, thawL H l = some (m, cs) → oks cs →
    m.length = l.length ∧ ∀ j u, j < l.length → RV φ w0 (l.getD j .nilp) u → RV (fun _ => none) w (m.getD j .nilp) u
  | [], m, cs, h, _ => by simp [thawL] at h; obtain ⟨rfl, rfl⟩ := h; exact ⟨rfl, fun j u hj => by simp at hj⟩
  | v :: r, m, cs, h, hc => by
    simp only [thawL] at h
    split at h
    · rename_i x c y d hx hy
      cases h
      obtain ⟨c1, c2⟩ := oks_append.1 hc
      obtain ⟨h1, h2⟩ := thawL_sound rel hy c2
      refine ⟨by simp [h1], fun j u hj hv => ?_⟩
      cases j with
      | zero => exact thawV_sound rel hx c1 hv
      | succ j => exact h2 j u (by simpa using hj) hv
    · cases h

/-- New names behind those that are there. -/
def up (n : Nat) (b : Nat) : Option Nat := some (n + b)
def upH (n : Nat) : Hp → Option Hp
  | [] => some []
  | none :: r => match upH n r with | some l => some (none :: l) | none => none
  | some x :: r => match renBlk (up n) x, upH n r with | some y, some l => some (some y :: l) | _, _ => none
theorem upH_spec {n : Nat} : ∀ {L K : Hp}, upH n L = some K → K.length = L.length ∧ ∀ b, (look L b = none ∧ look K b = none) ∨ ∃ x y, look L b = some x ∧ renBlk (up n) x = some y ∧ look K b = some y
  | [], K, h => by simp [upH] at h; subst h; exact ⟨rfl, fun b => .inl ⟨by simp [look], by simp [look]⟩⟩
  | none :: r, K, h => by
    simp only [upH] at h
    split at h
    · rename_i l hl
      cases h
      obtain ⟨h1, h2⟩ := upH_spec hl
      refine ⟨by simp [h1], fun b => ?_⟩
      cases b with
      | zero => exact .inl ⟨by simp [look], by simp [look]⟩
      | succ b => simpa [look] using h2 b
    · cases h
  | some x :: r, K, h => by
    simp only [upH] at h
    split at h
    · rename_i y l hy hl
      cases h
      obtain ⟨h1, h2⟩ := upH_spec hl
      refine ⟨by simp [h1], fun b => ?_⟩
      cases b with
      | zero => exact .inr ⟨x, y, by simp [look], hy, by simp [look]⟩
      | succ b => simpa [look] using h2 b
    · cases h

theorem look_append {H K : Hp} {b : Nat} : look (H ++ K) b = if b < H.length then look H b else look K (b - H.length) := by
  simp only [look, List.getD_eq_getElem?_getD]
  by_cases h : b < H.length
  · rw [if_pos h, List.getElem?_append_left h]
  · rw [if_neg h, List.getElem?_append_right (by omega)]

/-- A function that only reads what it is lent, told of read-only memory, serves of owned memory too; what it makes stands behind. -/
theorem lend {C : Cx} {f : FuncId} {args args1 : List AV} {H L K : Hp} {v v1 : AV} {cs : List Chk} (h : FSpec C f args1 [] v L) (ht : thawL H args = some (args1, cs)) (hc : oks cs) (hv : v.free 4 = true) (hL : freeH L = true)
    (hv1 : ren 4 (up H.length) v = some v1) (hK : upH H.length L = some K) : GoodCall C f args H v1 (H ++ K) [] := by
  refine ⟨⟨h.1, fun φ w0 w us hG rel hu hva => ?_⟩, by simp, fun b hb _ => by rw [look_append, if_pos hb]⟩
  obtain ⟨hlen, hth⟩ := thawL_sound rel ht hc
  refine Calls.mono (h.2 (fun _ => none) w w us (hG.later rel.below) (relH_none w) (by omega) fun j hj => hth j _ (by omega) (hva j (by omega))) ?_
  rintro e w' ⟨u, ψ1, rfl, r1, f1, g1⟩
  obtain ⟨hKl, hKs⟩ := upH_spec hK
  have hbel : Below w.heap.size w w' := r1.below
  have hpure : ∀ b, b < H.length → ∀ p, φ b = some p → True := fun _ _ _ _ => trivial
  let ψ : Phi := fun b => if b < H.length then φ b else ψ1 (b - H.length)
  have hψ1 : ∀ b, b < H.length → ψ b = φ b := fun b hb => if_pos hb
  have hψ2 : ∀ b, ψ (H.length + b) = ψ1 b := fun b => by
    show (if H.length + b < H.length then _ else _) = _
    rw [if_neg (by omega)]; congr 1; omega
  have hle : PhiLe φ ψ := fun b p hp => by
    by_cases hb : b < H.length
    · rw [hψ1 b hb]; exact hp
    · have : look H b = none := by simp [look, List.getD_eq_getElem?_getD, List.getElem?_eq_none (by omega : H.length ≤ b)]
      rw [rel.fresh b this] at hp; cases hp
  have hup : ∀ b i p, up H.length b = some i → ψ1 b = some p → ψ i = some p := fun b i p e hp => by
    cases e; rw [hψ2]; exact hp
  have hkeep : ∀ k, k < w.heap.size → w'.heap[k]? = w.heap[k]? := fun k hk => f1.keep k hk (by rintro ⟨b, x, p, hb, _⟩; simp [look] at hb)
  have owL : ∀ k, owns ψ1 L k → w.heap.size ≤ k := fun k hk => r1.base k hk
  have look1 : ∀ b, b < H.length → look (H ++ K) b = look H b := fun b hb => by rw [look_append, if_pos hb]
  have look2 : ∀ b, ¬ b < H.length → look (H ++ K) b = look K (b - H.length) := fun b hb => by rw [look_append, if_neg hb]
  have oldlt : ∀ b x p, b < H.length → look H b = some x → x.live → φ b = some p → 0 < p.size → p.blk < w.heap.size := fun b x p hb hx hl hp hs => by
    obtain ⟨q, hq, hB⟩ := rel.blk b x hx
    rw [hp] at hq; cases hq
    exact hB.lt hl hs
  have newge : ∀ b y p, ¬ b < H.length → look K (b - H.length) = some y → y.live → ψ1 (b - H.length) = some p → 0 < p.size → w.heap.size ≤ p.blk ∧ ∃ x, look L (b - H.length) = some x ∧ x.live := fun b y p hb hy hl hp hs => by
    rcases hKs (b - H.length) with ⟨_, e⟩ | ⟨x, y', e1, e2, e3⟩
    · rw [e] at hy; cases hy
    · rw [hy] at e3; cases e3
      have hxl := (renBlk_live e2).1 hl
      exact ⟨owL _ ⟨_, x, p, e1, hxl, hp, hs, rfl⟩, x, e1, hxl⟩
  have hψn : ∀ b, ¬ b < H.length → ψ b = ψ1 (b - H.length) := fun b hb => if_neg hb
  have own' : ∀ k, owns ψ (H ++ K) k → owns φ H k ∨ w.heap.size ≤ k := by
    rintro k ⟨b, x, p, hb, hl, hp, hs, rfl⟩
    by_cases hlt : b < H.length
    · rw [look1 b hlt] at hb; rw [hψ1 b hlt] at hp
      exact .inl ⟨b, x, p, hb, hl, hp, hs, rfl⟩
    · rw [look2 b hlt] at hb; rw [hψn b hlt] at hp
      exact .inr (newge b x p hlt hb hl hp hs).1
  refine ⟨u, ψ, rfl, ⟨rel.below.trans (hbel.mono rel.below.size), ?_, ?_, ?_, ?_⟩, ⟨?_, hbel.size, ?_, own'⟩, ?_⟩
  · intro b x hb
    by_cases hlt : b < H.length
    · rw [look1 b hlt] at hb
      obtain ⟨p, hp, hB⟩ := rel.blk b x hb
      refine ⟨p, by rw [hψ1 b hlt]; exact hp, ?_⟩
      have hM := BlkR.mono hle hB
      cases x with
      | dead => trivial
      | _ => exact hM.world fun hs => hkeep _ (hB.lt (by trivial) hs)
    · rw [look2 b hlt] at hb
      rcases hKs (b - H.length) with ⟨_, e⟩ | ⟨y, x', e1, e2, e3⟩
      · rw [e] at hb; cases hb
      · rw [hb] at e3; cases e3
        obtain ⟨p, hp, hB⟩ := r1.blk _ y e1
        exact ⟨p, by rw [hψn b hlt]; exact hp, renBlk_fwd hup e2 (hB.swap (freeH_look hL e1))⟩
  · intro k hk
    rcases own' k hk with h | h
    · exact rel.base k h
    · exact Nat.le_trans rel.below.size h
  · intro b b' x x' p p' hb hb' hl hl' hp hp' hs hs' hk
    by_cases h1 : b < H.length <;> by_cases h2 : b' < H.length
    · rw [look1 b h1] at hb; rw [look1 b' h2] at hb'; rw [hψ1 b h1] at hp; rw [hψ1 b' h2] at hp'
      exact rel.inj b b' x x' p p' hb hb' hl hl' hp hp' hs hs' hk
    · rw [look1 b h1] at hb; rw [look2 b' h2] at hb'; rw [hψ1 b h1] at hp; rw [hψn b' h2] at hp'
      have := oldlt b x p h1 hb hl hp hs
      have := (newge b' x' p' h2 hb' hl' hp' hs').1
      omega
    · rw [look2 b h1] at hb; rw [look1 b' h2] at hb'; rw [hψn b h1] at hp; rw [hψ1 b' h2] at hp'
      have := oldlt b' x' p' h2 hb' hl' hp' hs'
      have := (newge b x p h1 hb hl hp hs).1
      omega
    · rw [look2 b h1] at hb; rw [look2 b' h2] at hb'; rw [hψn b h1] at hp; rw [hψn b' h2] at hp'
      obtain ⟨_, y, e1, e2⟩ := newge b x p h1 hb hl hp hs
      obtain ⟨_, y', e1', e2'⟩ := newge b' x' p' h2 hb' hl' hp' hs'
      have := r1.inj _ _ y y' p p' e1 e1' e2 e2' hp hp' hs hs' hk
      omega
  · intro b hb
    by_cases hlt : b < H.length
    · rw [look1 b hlt] at hb; rw [hψ1 b hlt]; exact rel.fresh b hb
    · rw [look2 b hlt] at hb
      rcases hKs (b - H.length) with ⟨e, _⟩ | ⟨y, x', e1, e2, e3⟩
      · rw [hψn b hlt]; exact r1.fresh _ e
      · rw [hb] at e3; cases e3
  · intro b p hb hp; rw [hψ1 b hb]; exact hp
  · intro k hk _; exact hkeep k hk
  · exact ren_fwd hup 4 (g1.swap 4 hv) hv1

/-- An answer under other names; what nobody asks for is let go. -/
def cutR (k : Nat) (σ : List Nat) (v : AV) (L : Hp) : Option (AV × Hp) := match nodupB σ, headsB k σ with
  | true, true => match ren 4 (fun b => idx σ b 0) v, pickH (look L) (fun b => idx σ b 0) σ with
    | some v', some L' => some (v', L')
    | _, _ => none
  | _, _ => none
theorem GoodCall.cut {C : Cx} {f : FuncId} {args : List AV} {H L L' : Hp} {v v' : AV} {wr : List Nat} (σ : List Nat) (h : GoodCall C f args H v L wr) (hc : cutR H.length σ v L = some (v', L')) (hold : ∀ b, b < H.length → hasN wr b = false → look L' b = look L b) : GoodCall C f args H v' L' wr := by
  unfold cutR at hc
  split at hc
  · rename_i h1 h2
    split at hc
    · rename_i x K hv hK
      cases hc
      simp only [headsB, Bool.and_eq_true, List.all_eq_true, List.mem_range] at h2
      have hkσ : H.length ≤ σ.length := Nat.le_of_ble_eq_true h2.1
      have hat : ∀ b, b < H.length → σ.getD b 0 = b := fun b hb => Nat.eq_of_beq_eq_true (h2.2 b hb)
      obtain ⟨hl1, _⟩ := pickH_spec hK
      refine ⟨⟨h.1.1, fun φ w0 w us hG rel hu hva => ?_⟩, by omega, fun b hb hw => (hold b hb hw).trans (h.2.2 b hb hw)⟩
      refine Calls.mono (h.1.2 φ w0 w us hG rel hu hva) ?_
      rintro e w' ⟨u, ψ, rfl, r1, f1, g1⟩
      obtain ⟨rel', ho, hf⟩ := r1.pick (nodupB_spec h1) hK
      refine ⟨u, phiOf ψ σ, rfl, rel', ⟨fun b p hb hp => ?_, f1.size, f1.keep, fun j hj => f1.own j (ho j hj)⟩, ren_fwd hf 4 g1 hv⟩
      show (if b < σ.length then ψ (σ.getD b 0) else none) = some p
      rw [if_pos (by omega), hat b hb]; exact f1.pin b p hb hp
    · cases hc
  · cases hc
theorem FSpec.cut {C : Cx} {f : FuncId} {args : List AV} {L L' : Hp} {v v' : AV} (σ : List Nat) (h : FSpec C f args [] v L) (hc : cutR 0 σ v L = some (v', L')) : FSpec C f args [] v' L' :=
  (GoodCall.cut (wr := []) σ ⟨h, Nat.zero_le _, fun b hb => by simp at hb⟩ hc fun b hb => by simp at hb).1

end Go.Proofs.Ytmdkhdfckdkceaa.TdAm
