/- Texts that are xored; bits that are turned: plain laws of the register. -/
import Derived.Test.YtklcnffiplnifaaDoorCrcM2
namespace Go.Proofs.YtklcnffiplnifaaDoor.TdAm
open Go Go.RowKit
set_option linter.unusedVariables false
set_option linter.unusedSimpArgs false
set_option maxRecDepth 100000

def isB (l : List Int) : Prop := ∀ b ∈ l, 0 ≤ b ∧ b < 256
theorem isB_getD {l : List Int} (h : isB l) (i : Nat) : 0 ≤ l.getD i 0 ∧ l.getD i 0 < 256 := by
  rw [List.getD_eq_getElem?_getD]
  cases hi : l[i]? with
  | none => simp
  | some b => exact h b (List.mem_of_getElem? hi)
theorem ofInt8_32 (b : BitVec 8) : (BitVec.ofInt 32 (b.toNat : Int) : Reg) = b.setWidth 32 := by
  apply BitVec.eq_of_toNat_eq
  rw [BitVec.ofInt_natCast]
  simp
theorem byte8 {c : Int} (h0 : 0 ≤ c) (h1 : c < 256) : c = ((BitVec.ofInt 8 c).toNat : Int) := (toNat_ofInt8 h0 h1).symm
theorem xor8_32 {p q : Int} (hp : 0 ≤ p ∧ p < 256) (hq : 0 ≤ q ∧ q < 256) : (BitVec.ofInt 32 (bits .xor .u8 p q) : Reg) = BitVec.ofInt 32 p ^^^ BitVec.ofInt 32 q := by
  rw [xor_u8, ofInt8_32, BitVec.setWidth_xor]
  congr 1
  · rw [← ofInt8_32, toNat_ofInt8 hp.1 hp.2]
  · rw [← ofInt8_32, toNat_ofInt8 hq.1 hq.2]
theorem xor8_bd (p q : Int) : 0 ≤ bits .xor .u8 p q ∧ bits .xor .u8 p q < 256 := by
  rw [xor_u8]
  have : (BitVec.ofInt 8 p ^^^ BitVec.ofInt 8 q).toNat < 2 ^ 8 := BitVec.isLt _
  omega
def x3 (p q r : Int) : Int := bits .xor .u8 (bits .xor .u8 p q) r
theorem step_x3 (s t u : Reg) {p q r : Int} (hp : 0 ≤ p ∧ p < 256) (hq : 0 ≤ q ∧ q < 256) (hr : 0 ≤ r ∧ r < 256) : step (s ^^^ t ^^^ u) (x3 p q r) = step s p ^^^ step t q ^^^ step u r := by
  unfold step x3
  rw [xor8_32 (xor8_bd p q) hr, xor8_32 hp hq, ← shs_xor, ← shs_xor]
  congr 1
  apply BitVec.eq_of_getLsbD_eq
  intro i hi
  simp only [BitVec.getLsbD_xor]
  cases s.getLsbD i <;> cases t.getLsbD i <;> cases u.getLsbD i <;> cases (BitVec.ofInt 32 p).getLsbD i <;> cases (BitVec.ofInt 32 q).getLsbD i <;> cases (BitVec.ofInt 32 r).getLsbD i <;> rfl
def xs3 (a b c : List Int) (n : Nat) : List Int := (List.range n).map fun i => x3 (a.getD i 0) (b.getD i 0) (c.getD i 0)
theorem xs3_succ (a b c : List Int) (n : Nat) : xs3 a b c (n + 1) = xs3 a b c n ++ [x3 (a.getD n 0) (b.getD n 0) (c.getD n 0)] := by
  simp [xs3, List.range_succ]
theorem xs3_len (a b c : List Int) (n : Nat) : (xs3 a b c n).length = n := by simp [xs3]
theorem take_succ_getD (l : List Int) (n : Nat) (h : n < l.length) : l.take (n + 1) = l.take n ++ [l.getD n 0] := by
  rw [List.take_succ_eq_append_getElem h, List.getD_eq_getElem?_getD, List.getElem?_eq_getElem h]; rfl
theorem run_xs3 (a b c : List Int) (ha : isB a) (hb : isB b) (hc : isB c) : ∀ n : Nat, n ≤ a.length → n ≤ b.length → n ≤ c.length → ∀ s t u : Reg, run (s ^^^ t ^^^ u) (xs3 a b c n) = run s (a.take n) ^^^ run t (b.take n) ^^^ run u (c.take n)
  | 0, _, _, _, s, t, u => by simp [xs3, run]
  | n + 1, h1, h2, h3, s, t, u => by
    rw [xs3_succ, run_append, run_xs3 a b c ha hb hc n (by omega) (by omega) (by omega), take_succ_getD a n (by omega), take_succ_getD b n (by omega), take_succ_getD c n (by omega), run_append, run_append, run_append]
    exact step_x3 _ _ _ (isB_getD ha n) (isB_getD hb n) (isB_getD hc n)
theorem crc_xs3 (a b c : List Int) (ha : isB a) (hb : isB b) (hc : isB c) (n : Nat) (h1 : n ≤ a.length) (h2 : n ≤ b.length) (h3 : n ≤ c.length) :
    crcMore 0 (xs3 a b c n) = bits .xor .u32 (bits .xor .u32 (crcMore 0 (a.take n)) (crcMore 0 (b.take n))) (crcMore 0 (c.take n)) := by
  rw [crc_sum, crc_sum, crc_sum, crc_sum, xor_u32, xor_u32, ofInt_nat, ofInt_nat, ofInt_nat, ofInt_nat]
  congr 2
  have h := run_xs3 a b c ha hb hc n h1 h2 h3 ones ones ones
  have e : ones ^^^ ones ^^^ ones = ones := by decide
  rw [e] at h
  rw [h]
  apply BitVec.eq_of_getLsbD_eq
  intro i hi
  simp only [BitVec.getLsbD_xor]
  cases (run ones (a.take n)).getLsbD i <;> cases (run ones (b.take n)).getLsbD i <;> cases (run ones (c.take n)).getLsbD i <;> cases ones.getLsbD i <;> rfl

/-! ### bit by bit -/
def bit1 (b : Bool) : Reg := if b then 1#32 else 0#32
def bstep (s : Reg) (b : Bool) : Reg := sh (s ^^^ bit1 b)
def rb (s : Reg) (f : Nat → Bool) : Nat → Reg
  | 0 => s
  | m + 1 => bstep (rb s f m) (f m)
def bitOf (c : Int) (k : Nat) : Bool := c.toNat.testBit k
def bitAt (B : List Int) (q : Nat) : Bool := bitOf (B.getD (q / 8) 0) (q % 8)
/-- The lowest k bits. -/
def low (f : Nat → Bool) : Nat → Reg
  | 0 => 0#32
  | k + 1 => low f k ^^^ (bit1 (f k) <<< k)
theorem bit1_shl (b : Bool) (k : Nat) (hk : k ≤ 31) : shs k (bit1 b <<< k) = bit1 b := shs_shl k _ hk fun i hi => by
  cases b with
  | false => simp [bit1]
  | true =>
    have : (1#32).getLsbD i = decide (i = 0) := by
      rw [BitVec.getLsbD_one]
      simp
    simp only [bit1, if_true, this]
    simp; omega
theorem rb_low (s : Reg) (f : Nat → Bool) : ∀ k, k ≤ 32 → rb s f k = shs k (s ^^^ low f k)
  | 0, _ => by simp [rb, low, shs]
  | k + 1, h => by
    rw [rb, rb_low s f k (by omega), bstep, low, ← BitVec.xor_assoc, shs_xor (k + 1), shs_succ, shs_succ, bit1_shl _ k (by omega), ← sh_xor]
theorem low_get (f : Nat → Bool) : ∀ (k i : Nat), i < 32 → k ≤ 32 → (low f k).getLsbD i = (decide (i < k) && f i)
  | 0, i, _, _ => by simp [low]
  | k + 1, i, hi, hk => by
    rw [low, BitVec.getLsbD_xor, low_get f k i hi (by omega), BitVec.getLsbD_shiftLeft]
    have e1 : ∀ j, (bit1 (f k)).getLsbD j = (decide (j = 0) && f k) := fun j => by
      cases f k <;> simp [bit1, BitVec.getLsbD_one]
    rw [e1]
    by_cases h1 : i < k
    · simp [h1, show i < k + 1 by omega]
    · by_cases h2 : i = k
      · subst h2; simp [hi]
      · have : ¬ i < k + 1 := by omega
        have h3 : ¬ i - k = 0 := by omega
        simp [h1, this, h3]
theorem low_byte {c : Int} (h0 : 0 ≤ c) (h1 : c < 256) : low (bitOf c) 8 = BitVec.ofInt 32 c := by
  apply BitVec.eq_of_getLsbD_eq
  intro i hi
  rw [low_get _ 8 i hi (by omega)]
  obtain ⟨m, rfl⟩ : ∃ m : Nat, c = m := ⟨c.toNat, by omega⟩
  rw [BitVec.ofInt_natCast, BitVec.getLsbD_ofNat]
  unfold bitOf
  by_cases h : i < 8
  · simp [h, hi]
  · have : m < 2 ^ i := Nat.lt_of_lt_of_le (by omega : m < 2 ^ 8) (Nat.pow_le_pow_right (by omega) (by omega))
    simp [h, Nat.testBit_lt_two_pow this]
theorem step_bits (s : Reg) {c : Int} (h0 : 0 ≤ c) (h1 : c < 256) : step s c = rb s (bitOf c) 8 := by
  rw [rb_low s _ 8 (by omega), low_byte h0 h1]; rfl
theorem rb_add (s : Reg) (f : Nat → Bool) (m : Nat) : ∀ k, rb s f (m + k) = rb (rb s f m) (fun i => f (m + i)) k
  | 0 => rfl
  | k + 1 => by
    show bstep (rb s f (m + k)) (f (m + k)) = _
    rw [rb_add s f m k]; rfl
theorem rb_congr (s : Reg) {f g : Nat → Bool} : ∀ m, (∀ i, i < m → f i = g i) → rb s f m = rb s g m
  | 0, _ => rfl
  | m + 1, h => by
    show bstep (rb s f m) (f m) = bstep (rb s g m) (g m)
    rw [rb_congr s m fun i hi => h i (by omega), h m (by omega)]
theorem run_bits (B : List Int) (hB : isB B) : ∀ n, n ≤ B.length → ∀ s, run s (B.take n) = rb s (bitAt B) (8 * n)
  | 0, _, s => by simp [run, rb]
  | n + 1, h, s => by
    rw [take_succ_getD B n (by omega), run_append, run_bits B hB n (by omega), show 8 * (n + 1) = 8 * n + 8 by omega, rb_add]
    show step _ (B.getD n 0) = _
    rw [step_bits _ (isB_getD hB n).1 (isB_getD hB n).2]
    refine rb_congr _ 8 fun i hi => ?_
    unfold bitAt
    rw [show (8 * n + i) / 8 = n by omega, show (8 * n + i) % 8 = i by omega]
/-- What differs in the bits differs in the register. -/
theorem rb_diff (s : Reg) (f g : Nat → Bool) : ∀ m, rb s f m ^^^ rb s g m = rb 0#32 (fun i => f i ^^ g i) m
  | 0 => by simp [rb]
  | m + 1 => by
    show bstep (rb s f m) (f m) ^^^ bstep (rb s g m) (g m) = bstep _ _
    rw [← rb_diff s f g m]
    unfold bstep
    rw [← sh_xor]
    congr 1
    have e : bit1 (f m ^^ g m) = bit1 (f m) ^^^ bit1 (g m) := by cases f m <;> cases g m <;> decide
    rw [e]
    apply BitVec.eq_of_getLsbD_eq
    intro i hi
    simp only [BitVec.getLsbD_xor]
    cases (rb s f m).getLsbD i <;> cases (bit1 (f m)).getLsbD i <;> cases (rb s g m).getLsbD i <;> cases (bit1 (g m)).getLsbD i <;> rfl
theorem rb_zero (f : Nat → Bool) : ∀ m, (∀ i, i < m → f i = false) → rb 0#32 f m = 0#32
  | 0, _ => rfl
  | m + 1, h => by
    show bstep (rb 0#32 f m) (f m) = _
    rw [rb_zero f m fun i hi => h i (by omega), h m (by omega)]
    decide
theorem rb_live (f : Nat → Bool) (s : Reg) (hs : s ≠ 0#32) : ∀ m, (∀ i, i < m → f i = false) → rb s f m ≠ 0#32
  | 0, _ => hs
  | m + 1, h => by
    intro e
    have e2 : sh (rb s f m ^^^ bit1 (f m)) = 0#32 := e
    rw [h m (by omega)] at e2
    have := sh_zero e2
    rw [show bit1 false = 0#32 from rfl, BitVec.xor_zero] at this
    exact rb_live f s hs m (fun i hi => h i (by omega)) this
/-- Bits turned within 32 in a row. -/
theorem burst (B B' : List Int) (hB : isB B) (hB' : isB B') (hl : B'.length = B.length) (a : Nat) (ha : a + 32 ≤ 8 * B.length) (mask : Nat → Bool) (hm : ∃ i, i < 32 ∧ mask i = true)
    (hd : ∀ q, q < 8 * B.length → bitAt B' q = (bitAt B q ^^ (decide (a ≤ q) && decide (q < a + 32) && mask (q - a)))) (s : Reg) : run s B' ≠ run s B := by
  intro e
  have e1 := run_bits B hB B.length (Nat.le_refl _) s
  have e2 := run_bits B' hB' B'.length (Nat.le_refl _) s
  rw [List.take_length] at e1 e2
  rw [e1, e2, hl] at e
  have hx : rb s (bitAt B') (8 * B.length) ^^^ rb s (bitAt B) (8 * B.length) = 0#32 := by rw [e, BitVec.xor_self]
  rw [rb_diff] at hx
  have hD : ∀ q, q < 8 * B.length → (bitAt B' q ^^ bitAt B q) = (decide (a ≤ q) && decide (q < a + 32) && mask (q - a)) := fun q hq => by
    rw [hd q hq]
    cases bitAt B q <;> cases (decide (a ≤ q) && decide (q < a + 32) && mask (q - a)) <;> rfl
  obtain ⟨r, hr⟩ : ∃ r, 8 * B.length = a + (32 + r) := ⟨8 * B.length - a - 32, by omega⟩
  rw [hr, rb_add, rb_zero _ a fun i hi => by rw [hD i (by omega)]; simp; omega, rb_add] at hx
  refine rb_live _ _ ?_ r (fun i hi => ?_) hx
  · rw [rb_low _ _ 32 (by omega), BitVec.zero_xor]
    intro h0
    have h1 : low (fun i => bitAt B' (a + i) ^^ bitAt B (a + i)) 32 = 0#32 := shs_inj 32 (h0.trans (show (0#32 : Reg) = shs 32 0#32 by decide))
    obtain ⟨i, hi, hmi⟩ := hm
    have h2 := congrArg (fun b : Reg => b.getLsbD i) h1
    simp only [low_get _ 32 i hi (by omega), BitVec.getLsbD_zero] at h2
    rw [hD (a + i) (by omega)] at h2
    simp [hi, hmi, show a + i - a = i by omega] at h2
  · rw [hD (a + (32 + i)) (by omega)]
    simp; omega
theorem crc_ne {B B' : List Int} (h : run ones B' ≠ run ones B) : crcMore 0 B' ≠ crcMore 0 B := by
  intro e
  rw [crc_sum, crc_sum] at e
  exact h (xor_ones_inj (reg_inj e))
/-- One bit turned. -/
def flip (B : List Int) (q : Nat) : List Int := B.set (q / 8) (bits .xor .u8 (B.getD (q / 8) 0) (2 ^ (q % 8)))
theorem flip_len (B : List Int) (q : Nat) : (flip B q).length = B.length := by simp [flip]
theorem flip_isB {B : List Int} (h : isB B) (q : Nat) : isB (flip B q) := by
  intro b hb
  rcases List.mem_or_eq_of_mem_set hb with h1 | h1
  · exact h b h1
  · rw [h1]; exact xor8_bd _ _
theorem bitOf_xor {c : Int} (h0 : 0 ≤ c) (h1 : c < 256) (k j : Nat) (hk : k < 8) (hj : j < 8) : bitOf (bits .xor .u8 c (2 ^ k)) j = (bitOf c j ^^ decide (j = k)) := by
  rw [xor_u8]
  unfold bitOf
  rw [Int.toNat_natCast, BitVec.toNat_xor, Nat.testBit_xor]
  have e1 : (BitVec.ofInt 8 c).toNat = c.toNat := by have := toNat_ofInt8 h0 h1; omega
  have e2 : (BitVec.ofInt 8 ((2 : Int) ^ k)).toNat = 2 ^ k := by
    have : ∀ k : Fin 8, (BitVec.ofInt 8 ((2 : Int) ^ k.val)).toNat = 2 ^ k.val := by decide
    exact this ⟨k, hk⟩
  rw [e1, e2, Nat.testBit_two_pow]
  congr 1
  simp [eq_comm]
theorem flip_bit {B : List Int} (h : isB B) (p q : Nat) (hp : p < 8 * B.length) (hq : q < 8 * B.length) : bitAt (flip B p) q = (bitAt B q ^^ decide (q = p)) := by
  unfold bitAt flip
  by_cases e : p / 8 = q / 8
  · rw [e]
    have : (B.set (q / 8) (bits .xor .u8 (B.getD (q / 8) 0) (2 ^ (p % 8)))).getD (q / 8) 0 = bits .xor .u8 (B.getD (q / 8) 0) (2 ^ (p % 8)) := by
      rw [List.getD_eq_getElem?_getD, List.getElem?_set_self (by omega)]; rfl
    rw [this, bitOf_xor (isB_getD h _).1 (isB_getD h _).2 _ _ (by omega) (by omega)]
    congr 1
    simp only [decide_eq_decide]
    omega
  · have : (B.set (p / 8) (bits .xor .u8 (B.getD (p / 8) 0) (2 ^ (p % 8)))).getD (q / 8) 0 = B.getD (q / 8) 0 := by
      rw [List.getD_eq_getElem?_getD, List.getElem?_set_ne e, ← List.getD_eq_getElem?_getD]
    rw [this]
    have : ¬ q = p := fun h => e (by rw [h])
    simp [this]
/-- The bits of a mask turned, from one bit on. -/
def flips (B : List Int) (a mask : Nat) : Nat → List Int
  | 0 => B
  | i + 1 => if mask.testBit i then flip (flips B a mask i) (a + i) else flips B a mask i
theorem flips_len (B : List Int) (a mask : Nat) : ∀ i, (flips B a mask i).length = B.length
  | 0 => rfl
  | i + 1 => by
    simp only [flips]; split
    · rw [flip_len, flips_len B a mask i]
    · exact flips_len B a mask i
theorem flips_isB {B : List Int} (h : isB B) (a mask : Nat) : ∀ i, isB (flips B a mask i)
  | 0 => h
  | i + 1 => by
    simp only [flips]; split
    · exact flip_isB (flips_isB h a mask i) _
    · exact flips_isB h a mask i
theorem flips_bit {B : List Int} (h : isB B) (a mask : Nat) : ∀ i, a + i ≤ 8 * B.length → ∀ q, q < 8 * B.length → bitAt (flips B a mask i) q = (bitAt B q ^^ (decide (a ≤ q) && decide (q < a + i) && mask.testBit (q - a)))
  | 0, _, q, _ => by
    have : (decide (a ≤ q) && decide (q < a + 0)) = false := by simp
    rw [this]; simp [flips]
  | i + 1, ha, q, hq => by
    have ih := flips_bit h a mask i (by omega) q hq
    simp only [flips]
    split
    · rename_i hm
      rw [flip_bit (flips_isB h a mask i) _ _ (by rw [flips_len]; omega) (by rw [flips_len]; omega), ih]
      by_cases e : q = a + i
      · subst e
        simp [hm]
      · have : (decide (q < a + (i + 1))) = decide (q < a + i) := by simp only [decide_eq_decide]; omega
        simp [e, this]
    · rename_i hm
      rw [ih]
      by_cases e : q = a + i
      · subst e
        simp [hm]
      · have : (decide (q < a + (i + 1))) = decide (q < a + i) := by simp only [decide_eq_decide]; omega
        rw [this]
theorem crc_flips {B : List Int} (h : isB B) (a mask : Nat) (ha : a + 32 ≤ 8 * B.length) (hm : mask ≠ 0) (hm2 : mask < 2 ^ 32) : crcMore 0 (flips B a mask 32) ≠ crcMore 0 B := by
  refine crc_ne (burst B _ h (flips_isB h a mask 32) (flips_len ..) a ha (fun i => mask.testBit i) ?_ (fun q hq => flips_bit h a mask 32 ha q hq) ones)
  obtain ⟨i, hi⟩ := Nat.exists_testBit_of_ne_zero hm
  refine ⟨i, ?_, hi⟩
  rcases Nat.lt_or_ge i 32 with g | g
  · exact g
  · have := Nat.testBit_lt_two_pow (Nat.lt_of_lt_of_le hm2 (Nat.pow_le_pow_right (by omega) g))
    rw [this] at hi; cases hi
end Go.Proofs.YtklcnffiplnifaaDoor.TdAm
