/- The register of the checksum: plain bits. -/
import Derived.Test.YtklcnffiplnifaaDoorAm30
namespace Go.Proofs.YtklcnffiplnifaaDoor.TdAm
open Go Go.RowKit
set_option linter.unusedVariables false
set_option linter.unusedSimpArgs false
set_option maxRecDepth 100000

def tab0 : List Int := [0, 498536548, 997073096, 651767980, 1994146192, 1802195444, 1303535960, 1342533948, 3988292384, 4027552580, 3604390888, 3412177804, 2607071920, 2262029012, 2685067896, 3183342108]
abbrev Reg := BitVec 32
def poly : Reg := 3988292384#32
/-- One bit. -/
def sh (x : Reg) : Reg := (x >>> 1) ^^^ (if x.getLsbD 0 then poly else 0#32)
theorem sh_xor (a b : Reg) : sh (a ^^^ b) = sh a ^^^ sh b := by
  unfold sh
  rw [BitVec.getLsbD_xor]
  apply BitVec.eq_of_getLsbD_eq
  intro i hi
  cases a.getLsbD 0 <;> cases b.getLsbD 0 <;> simp only [BitVec.getLsbD_xor, BitVec.getLsbD_ushiftRight, Bool.xor_self, Bool.xor_true, Bool.xor_false, Bool.false_xor, Bool.not_true, Bool.not_false, if_true, Bool.false_eq_true, if_false] <;>
    cases a.getLsbD (1 + i) <;> cases b.getLsbD (1 + i) <;> cases poly.getLsbD i <;> simp
theorem sh_shl (z : Reg) (h : z.getLsbD 31 = false) : sh (z <<< 1) = z := by
  unfold sh
  have h0 : (z <<< 1).getLsbD 0 = false := by simp
  rw [h0]
  simp only [Bool.false_eq_true, if_false, BitVec.xor_zero]
  apply BitVec.eq_of_getLsbD_eq
  intro i hi
  rw [BitVec.getLsbD_ushiftRight, BitVec.getLsbD_shiftLeft]
  by_cases h31 : i = 31
  · subst h31
    rw [h]; simp
  · have e1 : 1 + i < 32 := by omega
    have e2 : ¬ 1 + i < 1 := by omega
    have e3 : 1 + i - 1 = i := by omega
    simp [e1, e3]
theorem sh_zero {a : Reg} (h : sh a = 0#32) : a = 0#32 := by
  unfold sh at h
  cases hl : a.getLsbD 0 with
  | true =>
    rw [hl] at h
    have := congrArg (fun b : Reg => b.getLsbD 31) h
    simp [poly] at this
  | false =>
    rw [hl] at h
    simp only [Bool.false_eq_true, if_false, BitVec.xor_zero] at h
    apply BitVec.eq_of_getLsbD_eq
    intro i hi
    cases i with
    | zero => simpa using hl
    | succ i =>
      have := congrArg (fun b : Reg => b.getLsbD i) h
      simp at this
      rw [Nat.add_comm]
      simpa using this
theorem sh_inj {a b : Reg} (h : sh a = sh b) : a = b := by
  have : sh (a ^^^ b) = 0#32 := by rw [sh_xor, h, BitVec.xor_self]
  have := sh_zero this
  have h2 := congrArg (fun c => c ^^^ b) this
  simpa [BitVec.xor_assoc] using h2
def shs : Nat → Reg → Reg
  | 0, x => x
  | n + 1, x => shs n (sh x)
theorem shs_xor : ∀ (n : Nat) (a b : Reg), shs n (a ^^^ b) = shs n a ^^^ shs n b
  | 0, _, _ => rfl
  | n + 1, a, b => by simp only [shs, sh_xor, shs_xor n]
theorem shs_inj : ∀ (n : Nat) {a b : Reg}, shs n a = shs n b → a = b
  | 0, _, _, h => h
  | n + 1, _, _, h => sh_inj (shs_inj n h)
theorem shs_add : ∀ (n m : Nat) (a : Reg), shs (n + m) a = shs m (shs n a)
  | 0, m, a => by simp [shs]
  | n + 1, m, a => by rw [Nat.add_right_comm]; exact shs_add n m (sh a)
theorem shs_shl : ∀ (n : Nat) (z : Reg), n ≤ 31 → (∀ i, 32 - n ≤ i → z.getLsbD i = false) → shs n (z <<< n) = z
  | 0, z, _, _ => by simp [shs]
  | n + 1, z, hn, h => by
    show shs n (sh (z <<< (n + 1))) = z
    rw [BitVec.shiftLeft_add, sh_shl, shs_shl n z (by omega) fun i hi => by
      by_cases e : i < 32
      · exact h i (by omega)
      · exact BitVec.getLsbD_of_ge z i (by omega)]
    rw [BitVec.getLsbD_shiftLeft]
    simp
    intro _
    exact h _ (by omega)

/-! ### half a byte by the table -/
def t4 (y : Int) : Int := bits .xor .u32 (Int.fdiv y 16) (tab0.getD (bits .and .u32 y 15).toNat 0)
def rnd (x c : Int) : Int := t4 (t4 (bits .xor .u32 x (IntKind.wrap .u32 c)))
def crcMore (sum : Int) (l : List Int) : Int := bits .xor .u32 (l.foldl rnd (bits .xor .u32 sum 4294967295)) 4294967295
theorem and15 (y : Int) : 0 ≤ bits .and .u32 y 15 ∧ bits .and .u32 y 15 < 16 := by
  rw [and_u32]
  refine ⟨by omega, ?_⟩
  have : (BitVec.ofInt 32 y &&& BitVec.ofInt 32 15).toNat ≤ 15 := by
    rw [BitVec.toNat_and]
    exact Nat.and_le_right
  omega
theorem tab_sh : ∀ k : Nat, k < 16 → BitVec.ofInt 32 (tab0.getD k 0) = shs 4 (BitVec.ofNat 32 k) := by decide
theorem split4 (b : Reg) : ((b >>> 4) <<< 4) ^^^ (b &&& 15#32) = b := by
  apply BitVec.eq_of_getLsbD_eq
  intro i hi
  have e15 : (15#32).getLsbD i = decide (i < 4) := by
    have : ∀ j : Fin 32, (15#32).getLsbD j.val = decide (j.val < 4) := by decide
    exact this ⟨i, hi⟩
  rw [BitVec.getLsbD_xor, BitVec.getLsbD_shiftLeft, BitVec.getLsbD_ushiftRight, BitVec.getLsbD_and, e15]
  by_cases h4 : i < 4
  · simp [h4]
  · have : 4 + (i - 4) = i := by omega
    simp [h4, hi, this]
theorem t4_nat (b : Reg) : t4 (b.toNat : Int) = ((shs 4 b).toNat : Int) := by
  unfold t4
  rw [xor_u32, and_u32]
  congr 2
  have h1 : BitVec.ofInt 32 ((b.toNat : Int).fdiv 16) = b >>> 4 := by
    apply BitVec.eq_of_toNat_eq
    rw [Int.fdiv_eq_ediv_of_nonneg _ (by omega)]
    have : ((b.toNat : Int) / 16) = ((b.toNat / 16 : Nat) : Int) := by omega
    rw [this, BitVec.ofInt_natCast]
    simp [Nat.shiftRight_eq_div_pow]
    have := b.isLt
    omega
  have h2 : BitVec.ofInt 32 (b.toNat : Int) = b := ofInt_nat b
  have h3 : (BitVec.ofInt 32 15 : Reg) = 15#32 := by decide
  rw [h1, h2, h3]
  have hlt : (b &&& 15#32).toNat < 16 := by
    rw [BitVec.toNat_and]
    have : b.toNat &&& (15#32).toNat ≤ (15#32).toNat := Nat.and_le_right
    have h15 : (15#32).toNat = 15 := rfl
    omega
  simp only [Int.toNat_natCast]
  rw [tab_sh _ hlt]
  have h5 : BitVec.ofNat 32 (b &&& 15#32).toNat = b &&& 15#32 := by simp
  rw [h5]
  have h4 : shs 4 ((b >>> 4) <<< 4) = b >>> 4 := shs_shl 4 _ (by omega) fun i hi => by
    rw [BitVec.getLsbD_ushiftRight]
    exact BitVec.getLsbD_of_ge _ _ (by omega)
  conv => rhs; rw [← split4 b, shs_xor, h4]
def step (s : Reg) (c : Int) : Reg := shs 8 (s ^^^ BitVec.ofInt 32 c)
theorem ofInt_wrap (c : Int) : BitVec.ofInt 32 (IntKind.wrap .u32 c) = BitVec.ofInt 32 c := by
  rw [wrap_u32]
  apply BitVec.eq_of_toNat_eq
  simp only [BitVec.toNat_ofInt]
  congr 1
  have : ((2 ^ 32 : Nat) : Int) = 4294967296 := by decide
  rw [this]
  omega
theorem rnd_nat (s : Reg) (c : Int) : rnd (s.toNat : Int) c = ((step s c).toNat : Int) := by
  unfold rnd step
  rw [xor_u32, ofInt_wrap, ofInt_nat, t4_nat, t4_nat, ← shs_add]
def run (s : Reg) (l : List Int) : Reg := l.foldl step s
theorem foldl_rnd (l : List Int) : ∀ s : Reg, l.foldl rnd (s.toNat : Int) = ((run s l).toNat : Int) := by
  induction l with
  | nil => intro s; rfl
  | cons c r ih => intro s; simp only [List.foldl_cons, rnd_nat, ih]; rfl
def ones : Reg := BitVec.ofInt 32 4294967295
/-- The checksum, by its register. -/
theorem crcMore_run (sum : Int) (l : List Int) : crcMore sum l = ((run (BitVec.ofInt 32 sum ^^^ ones) l ^^^ ones).toNat : Int) := by
  unfold crcMore
  rw [xor_u32 sum, foldl_rnd, xor_u32, ofInt_nat]
  rfl
theorem crcMore_lt (sum : Int) (l : List Int) : 0 ≤ crcMore sum l ∧ crcMore sum l < 4294967296 := by
  rw [crcMore_run]
  generalize run (BitVec.ofInt 32 sum ^^^ ones) l ^^^ ones = r
  have : r.toNat < 2 ^ 32 := r.isLt
  omega
theorem run_append (s : Reg) (a b : List Int) : run s (a ++ b) = run (run s a) b := List.foldl_append
theorem xor_ones (r : Reg) : (r ^^^ ones) ^^^ ones = r := by rw [BitVec.xor_assoc, BitVec.xor_self, BitVec.xor_zero]
/-- Cut anywhere. -/
theorem crcMore_append (sum : Int) (a b : List Int) : crcMore (crcMore sum a) b = crcMore sum (a ++ b) := by
  rw [crcMore_run _ b, crcMore_run _ (a ++ b), run_append, crcMore_run sum a, ofInt_nat, xor_ones]
theorem reg_inj {a b : Reg} (h : (a.toNat : Int) = b.toNat) : a = b := BitVec.eq_of_toNat_eq (by omega)
theorem xor_ones_inj {a b : Reg} (h : a ^^^ ones = b ^^^ ones) : a = b := by rw [← xor_ones a, h, xor_ones]

/-! ### bit by bit -/
def refSh (c : Int) : Int := if Int.tmod c 2 = 1 then bits .xor .u32 (IntKind.wrap .u32 (Int.tdiv c 2)) 3988292384 else IntKind.wrap .u32 (Int.tdiv c 2)
def refShs : Nat → Int → Int
  | 0, c => c
  | n + 1, c => refSh (refShs n c)
theorem shs_succ (n : Nat) (x : Reg) : shs (n + 1) x = sh (shs n x) := by rw [shs_add n 1]; rfl
theorem refSh_nat (b : Reg) : refSh (b.toNat : Int) = ((sh b).toNat : Int) := by
  unfold refSh sh
  have hb : b.toNat < 2 ^ 32 := b.isLt
  have h1 : IntKind.wrap .u32 (Int.tdiv (b.toNat : Int) 2) = (((b >>> 1).toNat : Nat) : Int) := by
    rw [Int.tdiv_eq_ediv_of_nonneg (by omega), wrap_u32]
    simp [Nat.shiftRight_eq_div_pow]
    omega
  have h2 : (Int.tmod (b.toNat : Int) 2 = 1) ↔ b.getLsbD 0 = true := by
    rw [Int.tmod_eq_emod_of_nonneg (by omega)]
    simp [BitVec.getLsbD, Nat.testBit_zero]
    omega
  rw [h1]
  by_cases h : b.getLsbD 0 = true
  · rw [if_pos (h2.2 h), if_pos h, xor_u32, ofInt_nat]
    rfl
  · rw [if_neg (fun e => h (h2.1 e)), if_neg h, BitVec.xor_zero]
theorem refShs_nat : ∀ (n : Nat) (b : Reg), refShs n (b.toNat : Int) = ((shs n b).toNat : Int)
  | 0, b => rfl
  | n + 1, b => by rw [refShs, refShs_nat n, refSh_nat, shs_succ]
def refRnd (x c : Int) : Int := refShs 8 (bits .xor .u32 x (IntKind.wrap .u32 c))
theorem refRnd_nat (s : Reg) (c : Int) : refRnd (s.toNat : Int) c = ((step s c).toNat : Int) := by
  unfold refRnd step
  rw [xor_u32, ofInt_wrap, ofInt_nat, refShs_nat]
theorem foldl_refRnd (l : List Int) : ∀ s : Reg, l.foldl refRnd (s.toNat : Int) = ((run s l).toNat : Int) := by
  induction l with
  | nil => intro s; rfl
  | cons c r ih => intro s; simp only [List.foldl_cons, refRnd_nat, ih]; rfl
theorem refMore_eq (sum : Int) (l : List Int) : bits .xor .u32 (l.foldl refRnd (bits .xor .u32 sum 4294967295)) 4294967295 = crcMore sum l := by
  rw [crcMore_run, xor_u32 sum, foldl_refRnd, xor_u32, ofInt_nat]
  rfl
end Go.Proofs.YtklcnffiplnifaaDoor.TdAm
