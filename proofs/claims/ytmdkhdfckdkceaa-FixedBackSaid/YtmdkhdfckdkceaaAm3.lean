/- The abstract machine, part 3: how the relation between abstract heap and world is kept. -/
import Derived.Test.YtmdkhdfckdkceaaAm2
import Derived.Laws.World
namespace Go.Proofs.Ytmdkhdfckdkceaa.TdAm
open Go Go.RowKit
set_option linter.unusedVariables false
set_option linter.unusedSimpArgs false

def Phi.with (φ : Phi) (id : Nat) (p : Pl) : Phi := fun b => if b = id then some p else φ b
theorem Phi.with_same (φ : Phi) (id : Nat) (p : Pl) : φ.with id p id = some p := by simp [Phi.with]
theorem Phi.with_ne (φ : Phi) {id b : Nat} (p : Pl) (h : b ≠ id) : φ.with id p b = φ b := by simp [Phi.with, h]
theorem PhiLe.with {φ : Phi} {id : Nat} (p : Pl) (h : φ id = none) : PhiLe φ (φ.with id p) := by
  intro b q hb
  by_cases e : b = id
  · subst e; rw [h] at hb; cases hb
  · rw [Phi.with_ne _ _ e]; exact hb

theorem below_of_grow {w0 w w' : World} (h0 : Below w0.heap.size w0 w) (hb : Below w.heap.size w w') : Below w0.heap.size w0 w' :=
  h0.trans (hb.mono h0.size)

/-- The world grows, and one unused number is given to a new place. -/
theorem RelH.grow {φ : Phi} {H : Hp} {w0 w w' : World} (rel : RelH φ H w0 w) (hb : Below w.heap.size w w') {id : Nat} (hid : look H id = none) (hl : id < H.length)
    (p : Pl) (x : Blk) (hp : 0 < p.size → w.heap.size ≤ p.blk) (hx : BlkR (φ.with id p) w0 w' p x) :
    RelH (φ.with id p) (H.set id (some x)) w0 w' ∧ Ext φ H w (φ.with id p) (H.set id (some x)) w' := by
  have hφ : φ id = none := rel.fresh id hid
  have hle : PhiLe φ (φ.with id p) := PhiLe.with p hφ
  have old : ∀ b y q, b ≠ id → look H b = some y → φ b = some q → y.live → 0 < q.size → q.blk < w.heap.size := by
    intro b y q _ hy hq hlv hs
    obtain ⟨q', hq', hB⟩ := rel.blk b y hy
    rw [hq] at hq'; cases hq'
    exact hB.lt hlv hs
  refine ⟨⟨below_of_grow rel.below hb, ?_, ?_, ?_, ?_⟩, ⟨hle, hb.size, fun k hk _ => hb.block k hk, ?_, ?_⟩⟩
  · intro b y hy
    by_cases e : b = id
    · subst e
      rw [look_set_same hl] at hy; cases hy
      exact ⟨p, Phi.with_same _ _ _, hx⟩
    · rw [look_set_ne e] at hy
      obtain ⟨q, hq, hB⟩ := rel.blk b y hy
      refine ⟨q, hle _ _ hq, ?_⟩
      by_cases hd : y.live ∧ 0 < q.size
      · exact (hB.mono hle).world fun _ => hb.block _ (hB.lt hd.1 hd.2)
      · cases y with
        | dead => trivial
        | ints k l o => exact (hB.mono hle).world fun hs => absurd ⟨trivial, hs⟩ hd
        | vals l o pu => exact (hB.mono hle).world fun hs => absurd ⟨trivial, hs⟩ hd
        | map es => exact (hB.mono hle).world fun hs => absurd ⟨trivial, hs⟩ hd
  · rintro k ⟨b, y, q, hy, hlv, hq, hs, rfl⟩
    by_cases e : b = id
    · subst e
      rw [Phi.with_same] at hq; cases hq
      exact Nat.le_trans rel.below.size (hp hs)
    · rw [look_set_ne e] at hy; rw [Phi.with_ne _ _ e] at hq
      exact rel.base _ ⟨b, y, q, hy, hlv, hq, hs, rfl⟩
  · intro b b' y y' q q' hy hy' hlv hlv' hq hq' hs hs' he
    by_cases e : b = id
    · by_cases e' : b' = id
      · rw [e, e']
      · subst e
        rw [Phi.with_same] at hq; cases hq
        rw [look_set_ne e'] at hy'; rw [Phi.with_ne _ _ e'] at hq'
        have := old b' y' q' e' hy' hq' hlv' hs'
        have := hp hs
        omega
    · rw [look_set_ne e] at hy; rw [Phi.with_ne _ _ e] at hq
      by_cases e' : b' = id
      · subst e'
        rw [Phi.with_same] at hq'; cases hq'
        have := old b y q e hy hq hlv hs
        have := hp hs'
        omega
      · rw [look_set_ne e'] at hy'; rw [Phi.with_ne _ _ e'] at hq'
        exact rel.inj b b' y y' q q' hy hy' hlv hlv' hq hq' hs hs' he
  · intro b hb'
    by_cases e : b = id
    · subst e; rw [look_set_same hl] at hb'; cases hb'
    · rw [look_set_ne e] at hb'; rw [Phi.with_ne _ _ e]; exact rel.fresh b hb'
  · intro b q hb' hq hs
    by_cases e : b = id
    · subst e; rw [Phi.with_same] at hq; cases hq; exact .inl (hp hs)
    · rw [Phi.with_ne _ _ e, hb'] at hq; cases hq
  · intro b y hy hlv hne
    by_cases e : b = id
    · subst e; exact absurd hφ hne
    · rw [look_set_ne e] at hy; exact ⟨y, hy, hlv⟩

/-- A block of the call's own is written. -/
structure Wrote (k : Nat) (w w' : World) : Prop where
  os : w'.os = w.os
  tape : w'.tape = w.tape
  output : w'.output = w.output
  size : w'.heap.size = w.heap.size
  block : ∀ i, i ≠ k → w'.heap[i]? = w.heap[i]?
theorem Wrote.refl (k : Nat) (w : World) : Wrote k w w := ⟨rfl, rfl, rfl, rfl, fun _ _ => rfl⟩
theorem Wrote.trans {k : Nat} {a b c : World} (h : Wrote k a b) (g : Wrote k b c) : Wrote k a c :=
  ⟨g.os.trans h.os, g.tape.trans h.tape, g.output.trans h.output, g.size.trans h.size, fun i hi => (g.block i hi).trans (h.block i hi)⟩
theorem Wrote.setCell (w : World) (a : Addr) (v : Value) : Wrote a.block w (w.setCell a v) :=
  ⟨rfl, rfl, rfl, by simp, fun i hi => Below.heap_setCell w a v i hi⟩

theorem RelH.write {φ : Phi} {H : Hp} {w0 w w' : World} (rel : RelH φ H w0 w) {b : Nat} {y : Blk} {p : Pl} (hy : look H b = some y) (hlv : y.live) (hq : φ b = some p)
    (hw : Wrote p.blk w w') (x : Blk) (hx : BlkR φ w0 w' p x) (hs0 : 0 < p.size ∨ w' = w) :
    RelH φ (H.set b (some x)) w0 w' ∧ Ext φ H w φ (H.set b (some x)) w' := by
  have hl := look_lt hy
  have hbl : ∀ k, k ≠ p.blk ∨ p.size = 0 → w'.heap[k]? = w.heap[k]? := by
    intro k hk
    rcases hk with hk | hk
    · exact hw.block k hk
    · rcases hs0 with h | h
      · omega
      · rw [h]
  have hown : 0 < p.size → owns φ H p.blk := fun hs => ⟨b, y, p, hy, hlv, hq, hs, rfl⟩
  refine ⟨⟨?_, ?_, ?_, ?_, ?_⟩, ⟨PhiLe.refl φ, by rw [hw.size]; exact Nat.le_refl _, ?_, ?_, ?_⟩⟩
  · refine ⟨hw.os.trans rel.below.os, hw.tape.trans rel.below.tape, hw.output.trans rel.below.output, by rw [hw.size]; exact rel.below.size, fun k hk => ?_⟩
    rw [hbl k, rel.below.block k hk]
    by_cases hs : p.size = 0
    · exact .inr hs
    · exact .inl fun e => by have := rel.base _ (hown (by omega)); omega
  · intro c z hz
    by_cases e : c = b
    · subst e; rw [look_set_same hl] at hz; cases hz; exact ⟨p, hq, hx⟩
    · rw [look_set_ne e] at hz
      obtain ⟨q, hq', hB⟩ := rel.blk c z hz
      refine ⟨q, hq', ?_⟩
      have key : z.live → BlkR φ w0 w' q z := fun hlz => hB.world fun hs => hbl _ (by
        by_cases hp0 : p.size = 0
        · exact .inr hp0
        · exact .inl fun e' => e (rel.inj c b z y q p hz hy hlz hlv hq' hq hs (by omega) e'))
      cases z with
      | dead => trivial
      | ints k l o => exact key trivial
      | vals l o pu => exact key trivial
      | map es => exact key trivial
  · rintro k ⟨c, z, q, hz, hlz, hq', hs, rfl⟩
    by_cases e : c = b
    · subst e; rw [hq] at hq'; cases hq'; exact rel.base _ (hown hs)
    · rw [look_set_ne e] at hz; exact rel.base _ ⟨c, z, q, hz, hlz, hq', hs, rfl⟩
  · intro c c' z z' q q' hz hz' hlz hlz' hq1 hq2 hs hs' he
    by_cases e : c = b
    · by_cases e' : c' = b
      · rw [e, e']
      · subst e; rw [hq] at hq1; cases hq1
        rw [look_set_ne e'] at hz'
        exact rel.inj c c' y z' p q' hy hz' hlv hlz' hq hq2 hs hs' he
    · rw [look_set_ne e] at hz
      by_cases e' : c' = b
      · subst e'; rw [hq] at hq2; cases hq2
        exact rel.inj c c' z y q p hz hy hlz hlv hq1 hq hs hs' he
      · rw [look_set_ne e'] at hz'; exact rel.inj c c' z z' q q' hz hz' hlz hlz' hq1 hq2 hs hs' he
  · intro c hc
    by_cases e : c = b
    · subst e; rw [look_set_same hl] at hc; cases hc
    · rw [look_set_ne e] at hc; exact rel.fresh c hc
  · intro k hk ho
    apply hbl
    by_cases hp0 : p.size = 0
    · exact .inr hp0
    · exact .inl fun e => ho (e ▸ hown (by omega))
  · intro c q h1 h2; rw [h1] at h2; cases h2
  · intro c z hz hlz _
    by_cases e : c = b
    · subst e; exact ⟨y, hy, hlv⟩
    · rw [look_set_ne e] at hz; exact ⟨z, hz, hlz⟩

/-- A block is dropped. -/
theorem RelH.drop {φ : Phi} {H : Hp} {w0 w : World} (rel : RelH φ H w0 w) {b : Nat} {y : Blk} (hy : look H b = some y) :
    RelH φ (H.set b (some .dead)) w0 w ∧ Ext φ H w φ (H.set b (some .dead)) w := by
  have hl := look_lt hy
  have back : ∀ c z, look (H.set b (some .dead)) c = some z → z.live → c ≠ b ∧ look H c = some z := by
    intro c z hz hlz
    by_cases e : c = b
    · subst e; rw [look_set_same hl] at hz; cases hz; exact hlz.elim
    · rw [look_set_ne e] at hz; exact ⟨e, hz⟩
  refine ⟨⟨rel.below, ?_, ?_, ?_, ?_⟩, ⟨PhiLe.refl φ, Nat.le_refl _, fun _ _ _ => rfl, ?_, ?_⟩⟩
  · intro c z hz
    by_cases e : c = b
    · subst e; rw [look_set_same hl] at hz; cases hz
      obtain ⟨q, hq, _⟩ := rel.blk c y hy
      exact ⟨q, hq, trivial⟩
    · rw [look_set_ne e] at hz; exact rel.blk c z hz
  · rintro k ⟨c, z, q, hz, hlz, hq', hs, rfl⟩
    exact rel.base _ ⟨c, z, q, (back c z hz hlz).2, hlz, hq', hs, rfl⟩
  · intro c c' z z' q q' hz hz' hlz hlz' hq1 hq2 hs hs' he
    exact rel.inj c c' z z' q q' (back c z hz hlz).2 (back c' z' hz' hlz').2 hlz hlz' hq1 hq2 hs hs' he
  · intro c hc
    by_cases e : c = b
    · subst e; rw [look_set_same hl] at hc; cases hc
    · rw [look_set_ne e] at hc; exact rel.fresh c hc
  · intro c q h1 h2; rw [h1] at h2; cases h2
  · intro c z hz hlz _; exact ⟨z, (back c z hz hlz).2, hlz⟩

/-- A dropped block's place is given to an unused number (an append in place). -/
theorem RelH.reuse {φ : Phi} {H : Hp} {w0 w w' : World} (rel : RelH φ H w0 w) {b id : Nat} {y : Blk} {p : Pl} (hy : look H b = some y) (hlv : y.live) (hq : φ b = some p)
    (hid : look H id = none) (hl : id < H.length) (hw : Wrote p.blk w w') (hs0 : 0 < p.size ∨ w' = w) (q : Pl) (hqb : q.blk = p.blk) (hqs : 0 < q.size → 0 < p.size) (x : Blk)
    (hx : BlkR (φ.with id q) w0 w' q x) :
    RelH (φ.with id q) ((H.set b (some .dead)).set id (some x)) w0 w' ∧ Ext φ H w (φ.with id q) ((H.set b (some .dead)).set id (some x)) w' := by
  have hne : id ≠ b := fun e => by rw [e, hy] at hid; cases hid
  have hφ : φ id = none := rel.fresh id hid
  have hle : PhiLe φ (φ.with id q) := PhiLe.with q hφ
  have hbl : ∀ k, k ≠ p.blk ∨ p.size = 0 → w'.heap[k]? = w.heap[k]? := by
    intro k hk
    rcases hk with hk | hk
    · exact hw.block k hk
    · rcases hs0 with h | h
      · omega
      · rw [h]
  have hown : 0 < p.size → owns φ H p.blk := fun hs => ⟨b, y, p, hy, hlv, hq, hs, rfl⟩
  have hlb := look_lt hy
  have hl' : id < (H.set b (some Blk.dead)).length := by simpa using hl
  have back : ∀ c z, c ≠ id → look ((H.set b (some .dead)).set id (some x)) c = some z → z.live → c ≠ b ∧ look H c = some z := by
    intro c z hc hz hlz
    rw [look_set_ne hc] at hz
    by_cases e : c = b
    · subst e; rw [look_set_same hlb] at hz; cases hz; exact hlz.elim
    · rw [look_set_ne e] at hz; exact ⟨e, hz⟩
  refine ⟨⟨?_, ?_, ?_, ?_, ?_⟩, ⟨hle, by rw [hw.size]; exact Nat.le_refl _, ?_, ?_, ?_⟩⟩
  · refine ⟨hw.os.trans rel.below.os, hw.tape.trans rel.below.tape, hw.output.trans rel.below.output, by rw [hw.size]; exact rel.below.size, fun k hk => ?_⟩
    rw [hbl k, rel.below.block k hk]
    by_cases hs : p.size = 0
    · exact .inr hs
    · exact .inl fun e => by have := rel.base _ (hown (by omega)); omega
  · intro c z hz
    by_cases e : c = id
    · subst e; rw [look_set_same hl'] at hz; cases hz; exact ⟨q, Phi.with_same _ _ _, hx⟩
    · have hz' := hz
      rw [look_set_ne e] at hz
      by_cases e2 : c = b
      · subst e2; rw [look_set_same hlb] at hz; cases hz; exact ⟨p, hle _ _ hq, trivial⟩
      · rw [look_set_ne e2] at hz
        obtain ⟨r, hr, hB⟩ := rel.blk c z hz
        refine ⟨r, hle _ _ hr, ?_⟩
        have key : z.live → BlkR (φ.with id q) w0 w' r z := fun hlz => (hB.mono hle).world fun hs => hbl _ (by
          by_cases hp0 : p.size = 0
          · exact .inr hp0
          · exact .inl fun e' => e2 (rel.inj c b z y r p hz hy hlz hlv hr hq hs (by omega) e'))
        cases z with
        | dead => trivial
        | ints k l o => exact key trivial
        | vals l o pu => exact key trivial
        | map es => exact key trivial
  · rintro k ⟨c, z, r, hz, hlz, hr, hs, rfl⟩
    by_cases e : c = id
    · subst e; rw [Phi.with_same] at hr; cases hr; rw [hqb]; exact rel.base _ (hown (hqs hs))
    · rw [Phi.with_ne _ _ e] at hr; exact rel.base _ ⟨c, z, r, (back c z e hz hlz).2, hlz, hr, hs, rfl⟩
  · intro c c' z z' r r' hz hz' hlz hlz' hr hr' hs hs' he
    by_cases e : c = id
    · by_cases e' : c' = id
      · rw [e, e']
      · subst e; rw [Phi.with_same] at hr; cases hr
        rw [Phi.with_ne _ _ e'] at hr'
        obtain ⟨hnb, hz2⟩ := back c' z' e' hz' hlz'
        exact absurd (rel.inj c' b z' y r' p hz2 hy hlz' hlv hr' hq hs' (hqs hs) (he.symm.trans hqb)) hnb
    · rw [Phi.with_ne _ _ e] at hr
      obtain ⟨hnb, hz2⟩ := back c z e hz hlz
      by_cases e' : c' = id
      · subst e'; rw [Phi.with_same] at hr'; cases hr'
        exact absurd (rel.inj c b z y r p hz2 hy hlz hlv hr hq hs (hqs hs') (he.trans hqb)) hnb
      · rw [Phi.with_ne _ _ e'] at hr'
        exact rel.inj c c' z z' r r' hz2 (back c' z' e' hz' hlz').2 hlz hlz' hr hr' hs hs' he
  · intro c hc
    by_cases e : c = id
    · subst e; rw [look_set_same hl'] at hc; cases hc
    · rw [look_set_ne e] at hc; rw [Phi.with_ne _ _ e]
      by_cases e2 : c = b
      · subst e2; rw [look_set_same hlb] at hc; cases hc
      · rw [look_set_ne e2] at hc; exact rel.fresh c hc
  · intro k hk ho
    apply hbl
    by_cases hp0 : p.size = 0
    · exact .inr hp0
    · exact .inl fun e => ho (e ▸ hown (by omega))
  · intro c r h1 h2 hs
    by_cases e : c = id
    · subst e; rw [Phi.with_same] at h2; cases h2
      refine .inr ⟨hqb ▸ hown (hqs hs), ?_⟩
      rintro ⟨b0, z, p0, e1, e2, e3, e4, e5⟩
      have hne0 : b0 ≠ c := fun e => by rw [e, hφ] at e3; cases e3
      obtain ⟨hnb, hz2⟩ := back b0 z hne0 e1 e2
      exact hnb (rel.inj b0 b z y p0 p hz2 hy e2 hlv e3 hq e4 (hqs hs) (e5.trans hqb))
    · rw [Phi.with_ne _ _ e, h1] at h2; cases h2
  · intro c z hz hlz hne'
    by_cases e : c = id
    · subst e; exact absurd hφ hne'
    · exact ⟨z, (back c z e hz hlz).2, hlz⟩

end Go.Proofs.Ytmdkhdfckdkceaa.TdAm
