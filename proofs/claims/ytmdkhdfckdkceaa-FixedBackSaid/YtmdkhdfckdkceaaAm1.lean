/- The abstract machine, part 1: abstract values, blocks, places, and what they stand for in a world. -/
import Derived.Orders
import Derived.Below
import Derived.KernelRfl
namespace Go.Proofs.Ytmdkhdfckdkceaa.TdAm
open Go Go.RowKit
set_option linter.unusedVariables false
set_option linter.unusedSimpArgs false

/-- Abstract values: owned memory by small numbers, read-only memory by its content. -/
inductive AV where
  | int (k : IntKind) (n : Int)
  | bool (b : Bool)
  | str (s : ByteArray)
  | nilp
  | ptr (b o : Nat)
  | gptr (g o : Nat)
  | roc (cells : List AV)
  | nils
  | sl (b o n c z : Nat)
  | roi (k : IntKind) (l : List Int)
  | ros (z n : Nat) (f : Nat → List AV)
  | nilm
  | mp (b : Nat)
  | fn (f : FuncId) (caps : List AV)
  | nilf
  | agg (cs : List AV)
  | tup (vs : List AV)
  deriving Inhabited

/-- Where a block lies: concrete block, offset, the concrete block's size, and whether there may be room behind what is known. -/
structure Pl where
  blk : Nat
  off : Nat
  size : Nat
  opn : Bool

abbrev Phi := Nat → Option Pl

def PhiLe (φ ψ : Phi) : Prop := ∀ b p, φ b = some p → ψ b = some p
theorem PhiLe.refl (φ : Phi) : PhiLe φ φ := fun _ _ h => h
theorem PhiLe.trans {φ ψ χ : Phi} (h : PhiLe φ ψ) (k : PhiLe ψ χ) : PhiLe φ χ := fun b p e => k b p (h b p e)

inductive RV : Phi → World → AV → Value → Prop
  | int {φ : Phi} {w0 : World} (k : IntKind) (n : Int) : RV φ w0 (.int k n) (.int k n)
  | bool {φ : Phi} {w0 : World} (b : Bool) : RV φ w0 (.bool b) (.bool b)
  | str {φ : Phi} {w0 : World} (s : ByteArray) : RV φ w0 (.str s) (.string s)
  | nilp {φ : Phi} {w0 : World} : RV φ w0 .nilp (.pointer none)
  | ptr {φ : Phi} {w0 : World} (b o : Nat) (p : Pl) (h : φ b = some p) : RV φ w0 (.ptr b o) (.pointer (some ⟨p.blk, p.off + o, none⟩))
  | gptr {φ : Phi} {w0 : World} (g o : Nat) : RV φ w0 (.gptr g o) (.pointer (some ⟨g, o, none⟩))
  | roc {φ : Phi} {w0 : World} (cells : List AV) (a : Addr) (us : Nat → Value) (h : ∀ j, j < cells.length → w0.cell? (a.add j) = some (us j))
      (h2 : ∀ j (hj : j < cells.length), RV (fun _ => none) w0 (cells.getD j .nilp) (us j)) : RV φ w0 (.roc cells) (.pointer (some a))
  | nils {φ : Phi} {w0 : World} : RV φ w0 .nils (.slice none 0 0)
  | sl {φ : Phi} {w0 : World} (b o n c z : Nat) (p : Pl) (A : Option Addr) (c' : Nat) (h : φ b = some p) (h0 : n ≤ c) (h1 : c ≤ c')
      (h2 : 0 < c' → A = some ⟨p.blk, p.off + o, none⟩) (h3 : p.opn = true ∨ c' = c) (h4 : 0 < c' → p.off + o + c' * z ≤ p.size) :
      RV φ w0 (.sl b o n c z) (.slice A n c')
  | roi {φ : Phi} {w0 : World} (k : IntKind) (l : List Int) (A : Option Addr) (c : Nat) (h : l.length ≤ c)
      (h2 : ∀ i, i < l.length → ∃ a, A = some a ∧ w0.cell? (a.add i) = some (.int k (l.getD i 0))) : RV φ w0 (.roi k l) (.slice A l.length c)
  | ros {φ : Phi} {w0 : World} (z n : Nat) (f : Nat → List AV) (A : Option Addr) (c : Nat) (us : Nat → Nat → Value) (h : n ≤ c) (hz : ∀ i, i < n → (f i).length = z)
      (h2 : ∀ i j, i < n → j < z → ∃ a, A = some a ∧ w0.cell? (a.add (i * z + j)) = some (us i j))
      (h3 : ∀ i j (hi : i < n) (hj : j < z), RV (fun _ => none) w0 ((f i).getD j .nilp) (us i j)) (h4 : 0 < n → ∃ a, A = some a) : RV φ w0 (.ros z n f) (.slice A n c)
  | nilm {φ : Phi} {w0 : World} : RV φ w0 .nilm (.map none)
  | mp {φ : Phi} {w0 : World} (b : Nat) (p : Pl) (h : φ b = some p) : RV φ w0 (.mp b) (.map (some p.blk))
  | fn {φ : Phi} {w0 : World} (f : FuncId) (caps : List AV) (us : Array Value) (h : us.size = caps.length)
      (h2 : ∀ j (hj : j < caps.length), RV φ w0 (caps.getD j .nilp) (us.getD j undef)) : RV φ w0 (.fn f caps) (.func (.func f) #[] us)
  | nilf {φ : Phi} {w0 : World} : RV φ w0 .nilf .nilFunc
  | agg {φ : Phi} {w0 : World} (cs : List AV) (us : Array Value) (h : us.size = cs.length)
      (h2 : ∀ j (hj : j < cs.length), RV φ w0 (cs.getD j .nilp) (us.getD j undef)) : RV φ w0 (.agg cs) (.agg us)
  | tup {φ : Phi} {w0 : World} (vs : List AV) (us : Array Value) (h : us.size = vs.length)
      (h2 : ∀ j (hj : j < vs.length), RV φ w0 (vs.getD j .nilp) (us.getD j undef)) : RV φ w0 (.tup vs) (.tuple us)

theorem RV.mono {φ ψ : Phi} {w0 : World} {v : AV} {u : Value} (hp : PhiLe φ ψ) (h : RV φ w0 v u) : RV ψ w0 v u := by
  induction h generalizing ψ with
  | int k n => exact .int k n
  | bool b => exact .bool b
  | str s => exact .str s
  | nilp => exact .nilp
  | ptr b o p h => exact .ptr b o p (hp _ _ h)
  | gptr g o => exact .gptr g o
  | roc cells a us h h2 ih => exact .roc cells a us h h2
  | nils => exact .nils
  | sl b o n c z p A c' h h0 h1 h2 h3 h4 => exact .sl b o n c z p A c' (hp _ _ h) h0 h1 h2 h3 h4
  | roi k l A c h h2 => exact .roi k l A c h h2
  | ros z n f A c us h hz h2 h3 h4 ih => exact .ros z n f A c us h hz h2 h3 h4
  | nilm => exact .nilm
  | mp b p h => exact .mp b p (hp _ _ h)
  | fn f caps us h h2 ih => exact .fn f caps us h fun j hj => ih j hj hp
  | nilf => exact .nilf
  | agg cs us h h2 ih => exact .agg cs us h fun j hj => ih j hj hp
  | tup vs us h h2 ih => exact .tup vs us h fun j hj => ih j hj hp

/-- Values that name no block of the call's own. -/
def AV.shut : AV → Bool
  | .ptr _ _ => false
  | .sl _ _ _ _ _ => false
  | .mp _ => false
  | .fn _ _ => false
  | .agg _ => false
  | .tup _ => false
  | _ => true
theorem RV.shut {φ ψ : Phi} {w0 : World} {v : AV} {u : Value} (hs : v.shut = true) (h : RV φ w0 v u) : RV ψ w0 v u := by
  cases h with
  | int k n => exact .int k n
  | bool b => exact .bool b
  | str s => exact .str s
  | nilp => exact .nilp
  | gptr g o => exact .gptr g o
  | roc cells a us h h2 => exact .roc cells a us h h2
  | nils => exact .nils
  | roi k l A c h h2 => exact .roi k l A c h h2
  | ros z n f A c us h hz h2 h3 h4 => exact .ros z n f A c us h hz h2 h3 h4
  | nilm => exact .nilm
  | nilf => exact .nilf
  | _ => simp [AV.shut] at hs
theorem PhiLe.bot (φ : Phi) : PhiLe (fun _ => none) φ := fun _ _ h => by simp at h
def allShut : List AV → Bool
  | [] => true
  | v :: r => v.shut && allShut r
/-- Cells that name no block of the call's own. -/
def ShutL (pu : Bool) (l : List AV) : Prop := pu = true → ∀ v, v ∈ l → v.shut = true
theorem allShut_mem {l : List AV} (h : allShut l = true) : ∀ v, v ∈ l → v.shut = true := by
  induction l with
  | nil => intro v hv; simp at hv
  | cons a r ih =>
    simp [allShut] at h
    intro v hv
    rcases List.mem_cons.1 hv with e | e
    · exact e ▸ h.1
    · exact ih h.2 v e
theorem ShutL.of_all (l : List AV) : ShutL (allShut l) l := fun h => allShut_mem h

/-- What was read in an older world is read in a younger one. -/
theorem RV.later {φ : Phi} {w0 w1 : World} {v : AV} {u : Value} (hb : Below w0.heap.size w0 w1) (h : RV φ w0 v u) : RV φ w1 v u := by
  have hc : ∀ (a : Addr) (u : Value), w0.cell? a = some u → w1.cell? a = some u := fun a u h => (hb.cell (World.block_lt_of_cell? w0 a h)).trans h
  induction h with
  | int k n => exact .int k n
  | bool b => exact .bool b
  | str s => exact .str s
  | nilp => exact .nilp
  | ptr b o p h => exact .ptr b o p h
  | gptr g o => exact .gptr g o
  | roc cells a us h h2 ih => exact .roc cells a us (fun j hj => hc _ _ (h j hj)) fun j hj => ih j hj hb hc
  | nils => exact .nils
  | sl b o n c z p A c' h h0 h1 h2 h3 h4 => exact .sl b o n c z p A c' h h0 h1 h2 h3 h4
  | roi k l A c h h2 => exact .roi k l A c h (fun i hi => let ⟨a, ha, hh⟩ := h2 i hi; ⟨a, ha, hc _ _ hh⟩)
  | ros z n f A c us h hz h2 h3 h4 ih => exact .ros z n f A c us h hz (fun i j hi hj => let ⟨a, ha, hh⟩ := h2 i j hi hj; ⟨a, ha, hc _ _ hh⟩) (fun i j hi hj => ih i j hi hj hb hc) h4
  | nilm => exact .nilm
  | mp b p h => exact .mp b p h
  | fn f caps us h h2 ih => exact .fn f caps us h fun j hj => ih j hj hb hc
  | nilf => exact .nilf
  | agg cs us h h2 ih => exact .agg cs us h fun j hj => ih j hj hb hc
  | tup vs us h h2 ih => exact .tup vs us h fun j hj => ih j hj hb hc

/-- Blocks of the call's own. -/
inductive Blk where
  | ints (k : IntKind) (l : List Int) (opn : Bool)
  | vals (l : List AV) (opn pu : Bool)
  | map (es : List (AV × AV))
  | dead
  deriving Inhabited

def Blk.cell : Blk → Nat → AV
  | .ints k l _, i => .int k (l.getD i 0)
  | .vals l _ _, i => l.getD i .nilp
  | _, _ => .nilp
def Blk.len : Blk → Nat
  | .ints _ l _ => l.length
  | .vals l _ _ => l.length
  | _ => 0
def Blk.opn : Blk → Bool
  | .ints _ _ o => o
  | .vals _ o _ => o
  | _ => false
def Blk.live : Blk → Prop
  | .dead => False
  | _ => True

/-- Cells in memory. -/
def CellsR (φ : Phi) (w0 w : World) (p : Pl) (opn : Bool) (len : Nat) (f : Nat → AV) : Prop :=
  p.opn = opn ∧ ((len = 0 ∧ p.size = 0) ∨ ∃ (cc : Array Value) (e : TypeId) (lo hi : Nat), w.heap[p.blk]? = some (.cells cc e (lo, hi)) ∧ cc.size = p.size ∧
    (lo = hi ∨ cc.size ≤ lo) ∧ p.off + len ≤ cc.size ∧ ∀ i, i < len → RV φ w0 (f i) (cc.getD (p.off + i) undef))

/-- How a block lies in memory. -/
def BlkR (φ : Phi) (w0 w : World) (p : Pl) : Blk → Prop
  | .dead => True
  | .map es => p.size = 1 ∧ ∃ (ents : Array MapEntry) (clock : Nat), w.heap[p.blk]? = some (.map ents clock) ∧ ents.size = es.length ∧
      (∀ i, i < es.length → RV φ w0 (es.getD i (.nilp, .nilp)).1 (ents.getD i default).key ∧ RV φ w0 (es.getD i (.nilp, .nilp)).2 (ents.getD i default).val) ∧
      ∀ i, i < ents.size → (ents.getD i default).born < clock
  | .ints k l o => CellsR φ w0 w p o l.length fun i => .int k (l.getD i 0)
  | .vals l o pu => CellsR φ w0 w p o l.length (fun i => l.getD i .nilp) ∧ ShutL pu l

theorem CellsR.mono {φ ψ : Phi} {w0 w : World} {p : Pl} {o : Bool} {n : Nat} {f : Nat → AV} (hp : PhiLe φ ψ) (h : CellsR φ w0 w p o n f) : CellsR ψ w0 w p o n f := by
  obtain ⟨h0, h⟩ := h
  refine ⟨h0, h.imp id ?_⟩
  rintro ⟨cc, e, lo, hi, h1, h2, h3, h4, h5⟩
  exact ⟨cc, e, lo, hi, h1, h2, h3, h4, fun i hi' => (h5 i hi').mono hp⟩
theorem BlkR.mono {φ ψ : Phi} {w0 w : World} {p : Pl} {x : Blk} (hp : PhiLe φ ψ) (h : BlkR φ w0 w p x) : BlkR ψ w0 w p x := by
  cases x with
  | dead => trivial
  | ints k l o => exact CellsR.mono hp h
  | vals l o pu => exact ⟨CellsR.mono hp h.1, h.2⟩
  | map es =>
    obtain ⟨h0, ents, clock, h1, h2, h3, h4⟩ := h
    exact ⟨h0, ents, clock, h1, h2, fun i hi => ⟨(h3 i hi).1.mono hp, (h3 i hi).2.mono hp⟩, h4⟩
/-- It hangs on its own block alone. -/
theorem CellsR.world {φ : Phi} {w0 w w' : World} {p : Pl} {o : Bool} {n : Nat} {f : Nat → AV} (hw : 0 < p.size → w'.heap[p.blk]? = w.heap[p.blk]?) (h : CellsR φ w0 w p o n f) : CellsR φ w0 w' p o n f := by
  obtain ⟨h0, h⟩ := h
  refine ⟨h0, ?_⟩
  rcases h with h | ⟨cc, e, lo, hi, h1, h2, h3, h4, h5⟩
  · exact .inl h
  · by_cases hs : 0 < p.size
    · exact .inr ⟨cc, e, lo, hi, (hw hs).trans h1, h2, h3, h4, h5⟩
    · exact .inl ⟨by omega, by omega⟩
theorem BlkR.world {φ : Phi} {w0 w w' : World} {p : Pl} {x : Blk} (hw : 0 < p.size → w'.heap[p.blk]? = w.heap[p.blk]?) (h : BlkR φ w0 w p x) : BlkR φ w0 w' p x := by
  cases x with
  | dead => trivial
  | ints k l o => exact CellsR.world hw h
  | vals l o pu => exact ⟨CellsR.world hw h.1, h.2⟩
  | map es =>
    obtain ⟨h0, ents, clock, h1, h2, h3, h4⟩ := h
    exact ⟨h0, ents, clock, (hw (by omega)).trans h1, h2, h3, h4⟩
theorem BlkR.lt {φ : Phi} {w0 w : World} {p : Pl} {x : Blk} (hl : x.live) (hs : 0 < p.size) (h : BlkR φ w0 w p x) : p.blk < w.heap.size := by
  have key : ∀ o : Obj, w.heap[p.blk]? = some o → p.blk < w.heap.size := fun o e => (Array.getElem?_eq_some_iff.1 e).1
  cases x with
  | dead => exact hl.elim
  | ints k l o => rcases h.2 with h | ⟨cc, e, lo, hi, h1, _⟩; exact absurd h.2 (by omega); exact key _ h1
  | vals l o pu => rcases h.1.2 with h | ⟨cc, e, lo, hi, h1, _⟩; exact absurd h.2 (by omega); exact key _ h1
  | map es => obtain ⟨_, ents, clock, h1, _⟩ := h; exact key _ h1

abbrev Hp := List (Option Blk)
def look (H : Hp) (b : Nat) : Option Blk := H.getD b none

theorem look_set_same {H : Hp} {b : Nat} (h : b < H.length) (x : Option Blk) : look (H.set b x) b = x := by
  simp [look, List.getD_eq_getElem?_getD, List.getElem?_set, h]
theorem look_set_ne {H : Hp} {b c : Nat} (h : c ≠ b) (x : Option Blk) : look (H.set b x) c = look H c := by
  simp only [look, List.getD_eq_getElem?_getD, List.getElem?_set]
  rw [if_neg (fun e => h e.symm)]
theorem look_lt {H : Hp} {b : Nat} {x : Blk} (h : look H b = some x) : b < H.length := by
  rcases Nat.lt_or_ge b H.length with hl | hl
  · exact hl
  · simp [look, List.getD_eq_getElem?_getD, List.getElem?_eq_none hl] at h

def owns (φ : Phi) (H : Hp) (k : Nat) : Prop := ∃ b x p, look H b = some x ∧ x.live ∧ φ b = some p ∧ 0 < p.size ∧ p.blk = k

/-- The heap of the abstract machine in a world. -/
structure RelH (φ : Phi) (H : Hp) (w0 w : World) : Prop where
  below : Below w0.heap.size w0 w
  blk : ∀ b x, look H b = some x → ∃ p, φ b = some p ∧ BlkR φ w0 w p x
  base : ∀ k, owns φ H k → w0.heap.size ≤ k
  inj : ∀ b b' x x' p p', look H b = some x → look H b' = some x' → x.live → x'.live → φ b = some p → φ b' = some p' → 0 < p.size → 0 < p'.size → p.blk = p'.blk → b = b'
  fresh : ∀ b, look H b = none → φ b = none

/-- From one state of the abstract heap to the next. -/
structure Ext (φ : Phi) (H : Hp) (w : World) (ψ : Phi) (K : Hp) (w' : World) : Prop where
  le : PhiLe φ ψ
  size : w.heap.size ≤ w'.heap.size
  keep : ∀ k, k < w.heap.size → ¬ owns φ H k → w'.heap[k]? = w.heap[k]?
  new : ∀ b p, φ b = none → ψ b = some p → 0 < p.size → w.heap.size ≤ p.blk ∨ (owns φ H p.blk ∧ ¬ ∃ b0 x p0, look K b0 = some x ∧ x.live ∧ φ b0 = some p0 ∧ 0 < p0.size ∧ p0.blk = p.blk)
  live : ∀ b x, look K b = some x → x.live → φ b ≠ none → ∃ y, look H b = some y ∧ y.live

theorem Ext.refl {φ : Phi} {H : Hp} {w w' : World} (h : w'.heap = w.heap) : Ext φ H w φ H w' :=
  ⟨PhiLe.refl φ, by rw [h]; exact Nat.le_refl _, fun k _ _ => by rw [h], fun b p e e' => (by rw [e] at e'; exact absurd e' (by simp)), fun b x h hl _ => ⟨x, h, hl⟩⟩

theorem Ext.owns_old {φ : Phi} {H : Hp} {w : World} {ψ : Phi} {K : Hp} {w' : World} (h : Ext φ H w ψ K w') {k : Nat} (hk : k < w.heap.size) (ho : owns ψ K k) : owns φ H k := by
  obtain ⟨b, x, p, hb, hx, hp, hs, rfl⟩ := ho
  cases hφ : φ b with
  | none =>
    rcases h.new b p hφ hp hs with h1 | h1
    · omega
    · exact h1.1
  | some p' =>
    have e : p' = p := by have := h.le _ _ hφ; rw [hp] at this; exact (Option.some.inj this).symm
    subst e
    obtain ⟨y, hy, hl⟩ := h.live b x hb hx (by simp [hφ])
    exact ⟨b, y, p', hy, hl, hφ, hs, rfl⟩

theorem Ext.trans {φ ψ χ : Phi} {H K L : Hp} {w w1 w2 : World} (h : Ext φ H w ψ K w1) (k : Ext ψ K w1 χ L w2) : Ext φ H w χ L w2 where
  le := h.le.trans k.le
  size := Nat.le_trans h.size k.size
  keep i hi ho := (k.keep i (Nat.lt_of_lt_of_le hi h.size) (fun e => ho (h.owns_old hi e))).trans (h.keep i hi ho)
  new b p hb hp hs := by
    have dead : ∀ q, (¬ ∃ b0 x p0, look K b0 = some x ∧ x.live ∧ φ b0 = some p0 ∧ 0 < p0.size ∧ p0.blk = q) → ¬ ∃ b0 x p0, look L b0 = some x ∧ x.live ∧ φ b0 = some p0 ∧ 0 < p0.size ∧ p0.blk = q := by
      rintro q hn ⟨b0, x, p0, h1, h2, h3, h4, h5⟩
      obtain ⟨y, hy, hl⟩ := k.live b0 x h1 h2 (by rw [h.le _ _ h3]; simp)
      exact hn ⟨b0, y, p0, hy, hl, h3, h4, h5⟩
    cases hψ : ψ b with
    | some p' =>
      have e : p' = p := by have := k.le _ _ hψ; rw [hp] at this; exact (Option.some.inj this).symm
      subst e
      rcases h.new b p' hb hψ hs with h1 | ⟨h1, h2⟩
      · exact .inl h1
      · exact .inr ⟨h1, dead _ h2⟩
    | none =>
      rcases k.new b p hψ hp hs with h1 | ⟨h1, h2⟩
      · exact .inl (Nat.le_trans h.size h1)
      · by_cases hlt : p.blk < w.heap.size
        · refine .inr ⟨h.owns_old hlt h1, ?_⟩
          rintro ⟨b0, x, p0, e1, e2, e3, e4, e5⟩
          exact h2 ⟨b0, x, p0, e1, e2, h.le _ _ e3, e4, e5⟩
        · exact .inl (by omega)
  live b x hb hx hφ := by
    have hψ : ψ b ≠ none := by
      cases e : φ b with
      | none => exact absurd e hφ
      | some p => rw [h.le _ _ e]; simp
    obtain ⟨y, hy, hl⟩ := k.live b x hb hx hψ
    exact h.live b y hy hl hφ

end Go.Proofs.Ytmdkhdfckdkceaa.TdAm
