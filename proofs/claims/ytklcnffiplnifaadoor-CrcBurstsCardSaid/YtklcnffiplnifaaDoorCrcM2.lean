/- A word behind the bytes; bits turned in the bytes: plain laws of the register. -/
import Derived.Test.YtklcnffiplnifaaDoorCrcM
namespace Go.Proofs.YtklcnffiplnifaaDoor.TdAm
open Go Go.RowKit
set_option linter.unusedVariables false
set_option linter.unusedSimpArgs false
set_option maxRecDepth 100000

/-- The four bytes of a word. -/
def word4 (n : Int) : List Int := [IntKind.wrap .u8 n, IntKind.wrap .u8 (n.fdiv 256), IntKind.wrap .u8 (n.fdiv 65536), IntKind.wrap .u8 (n.fdiv 16777216)]
theorem step_low (s a : Reg) (n : Nat) (hn : n ≤ 24) (c : Reg) (hc : ∀ i, 8 ≤ i → c.getLsbD i = false) : shs (8 + n) (s ^^^ (c <<< n)) = shs 8 (shs n s ^^^ c) := by
  rw [Nat.add_comm, shs_add, shs_xor, shs_shl n c (by omega) fun i hi => hc i (by omega)]
theorem byte_high (c : Int) (h0 : 0 ≤ c) (h1 : c < 256) : ∀ i, 8 ≤ i → (BitVec.ofInt 32 c : Reg).getLsbD i = false := by
  intro i hi
  obtain ⟨m, rfl⟩ : ∃ m : Nat, c = m := ⟨c.toNat, by omega⟩
  rw [BitVec.ofInt_natCast, BitVec.getLsbD_ofNat]
  have : m < 2 ^ i := Nat.lt_of_lt_of_le (by omega : m < 2 ^ 8) (Nat.pow_le_pow_right (by omega) hi)
  simp [Nat.testBit_lt_two_pow this]
theorem run4 (s : Reg) (a b c d : Int) (hb : 0 ≤ b ∧ b < 256) (hc : 0 ≤ c ∧ c < 256) (hd : 0 ≤ d ∧ d < 256) :
    run s [a, b, c, d] = shs 32 (s ^^^ (BitVec.ofInt 32 a ^^^ (BitVec.ofInt 32 b <<< 8) ^^^ (BitVec.ofInt 32 c <<< 16) ^^^ (BitVec.ofInt 32 d <<< 24))) := by
  show shs 8 (shs 8 (shs 8 (shs 8 (s ^^^ _) ^^^ _) ^^^ _) ^^^ _) = _
  rw [← step_low (s ^^^ BitVec.ofInt 32 a) s 8 (by omega) _ (byte_high b hb.1 hb.2)]
  rw [← step_low _ s 16 (by omega) _ (byte_high c hc.1 hc.2)]
  rw [← step_low _ s 24 (by omega) _ (byte_high d hd.1 hd.2)]
  simp only [BitVec.xor_assoc]
theorem byte_of (N : Reg) (k : Nat) (q : Int) (hq : q = ((2 ^ k : Nat) : Int)) : BitVec.ofInt 32 (IntKind.wrap .u8 ((N.toNat : Int) / q)) = (N >>> k) &&& 255#32 := by
  subst hq
  apply BitVec.eq_of_toNat_eq
  rw [wrap_u8]
  have h1 : ((N.toNat : Int) / ((2 ^ k : Nat) : Int)) % 256 = ((N.toNat / 2 ^ k % 256 : Nat) : Int) := by
    simp
  rw [h1, BitVec.ofInt_natCast]
  have h255 : (255#32).toNat = 2 ^ 8 - 1 := rfl
  rw [BitVec.toNat_and, h255, Nat.and_two_pow_sub_one_eq_mod, BitVec.toNat_ushiftRight, Nat.shiftRight_eq_div_pow, BitVec.toNat_ofNat]
  omega
theorem bytes_of (N : Reg) : (N &&& 255#32) ^^^ (((N >>> 8) &&& 255#32) <<< 8) ^^^ (((N >>> 16) &&& 255#32) <<< 16) ^^^ (((N >>> 24) &&& 255#32) <<< 24) = N := by
  apply BitVec.eq_of_getLsbD_eq
  intro i hi
  have e : ∀ j, j < 32 → (255#32).getLsbD j = decide (j < 8) := by
    have : ∀ j : Fin 32, (255#32).getLsbD j.val = decide (j.val < 8) := by decide
    exact fun j hj => this ⟨j, hj⟩
  simp only [BitVec.getLsbD_xor, BitVec.getLsbD_and, BitVec.getLsbD_shiftLeft, BitVec.getLsbD_ushiftRight, e i hi]
  by_cases h1 : i < 8
  · simp [h1, show i < 16 by omega, show i < 24 by omega]
  · by_cases h2 : i < 16
    · rw [e (i - 8) (by omega)]
      simp [h1, h2, hi, show i - 8 < 8 by omega, show i < 24 by omega, show 8 + (i - 8) = i by omega]
    · by_cases h3 : i < 24
      · rw [e (i - 8) (by omega), e (i - 16) (by omega)]
        simp [h1, h2, h3, hi, show ¬ i - 8 < 8 by omega, show i - 16 < 8 by omega, show 16 + (i - 16) = i by omega]
      · rw [e (i - 8) (by omega), e (i - 16) (by omega), e (i - 24) (by omega)]
        simp [h1, h2, h3, hi, show ¬ i - 8 < 8 by omega, show ¬ i - 16 < 8 by omega, show i - 24 < 8 by omega, show 24 + (i - 24) = i by omega]
theorem run_word (s N : Reg) : run s (word4 (N.toNat : Int)) = shs 32 (s ^^^ N) := by
  unfold word4
  have f : ∀ k : Int, 0 ≤ k → (N.toNat : Int).fdiv k = (N.toNat : Int) / k := fun k hk => Int.fdiv_eq_ediv_of_nonneg _ hk
  rw [f 256 (by omega), f 65536 (by omega), f 16777216 (by omega)]
  rw [run4 _ _ _ _ _ (by rw [wrap_u8]; omega) (by rw [wrap_u8]; omega) (by rw [wrap_u8]; omega)]
  have h0 := byte_of N 0 1 rfl
  have h8 := byte_of N 8 256 rfl
  have h16 := byte_of N 16 65536 rfl
  have h24 := byte_of N 24 16777216 rfl
  simp only [Int.ediv_one, BitVec.ushiftRight_zero] at h0
  rw [h0, h8, h16, h24, bytes_of]
theorem ofInt_zero_xor : (BitVec.ofInt 32 0 : Reg) ^^^ ones = ones := by decide
theorem crc_sum (l : List Int) : crcMore 0 l = ((run ones l ^^^ ones).toNat : Int) := by rw [crcMore_run, ofInt_zero_xor]
theorem crc_word (l : List Int) (N : Reg) : crcMore 0 (l ++ word4 (N.toNat : Int)) = ((shs 32 (run ones l ^^^ N) ^^^ ones).toNat : Int) := by
  rw [crc_sum, run_append, run_word]
theorem residue : ((shs 32 ones ^^^ ones).toNat : Int) = 558161692 := by decide
theorem crc_tail (l : List Int) : crcMore 0 (l ++ word4 (crcMore 0 l)) = 558161692 := by
  rw [show word4 (crcMore 0 l) = word4 ((run ones l ^^^ ones).toNat : Int) by rw [crc_sum], crc_word, ← BitVec.xor_assoc, BitVec.xor_self, BitVec.zero_xor, residue]
theorem crc_other (l : List Int) (n : Int) (h0 : 0 ≤ n) (h1 : n < 4294967296) : crcMore 0 (l ++ word4 n) = 558161692 ↔ n = crcMore 0 l := by
  obtain ⟨N, rfl⟩ : ∃ N : Reg, n = (N.toNat : Int) := ⟨BitVec.ofInt 32 n, (toNat_ofInt32 h0 h1).symm⟩
  rw [crc_word, ← residue]
  constructor
  · intro h
    have h2 := shs_inj 32 (xor_ones_inj (reg_inj h))
    have h3 : N = run ones l ^^^ ones := by
      have := congrArg (fun r => run ones l ^^^ r) h2
      simpa [← BitVec.xor_assoc] using this
    rw [crc_sum, ← h3]
  · intro h
    rw [crc_sum] at h
    have := reg_inj h
    rw [this, ← BitVec.xor_assoc, BitVec.xor_self, BitVec.zero_xor]
end Go.Proofs.YtklcnffiplnifaaDoor.TdAm
