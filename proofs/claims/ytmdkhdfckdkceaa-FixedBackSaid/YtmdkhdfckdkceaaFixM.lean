/- Numbers of bytes, plainly. -/
import Derived.Test.YtmdkhdfckdkceaaAm30
namespace Go.Proofs.Ytmdkhdfckdkceaa.TdAm
open Go Go.RowKit
set_option linter.unusedVariables false
set_option linter.unusedSimpArgs false
set_option maxRecDepth 100000

/-- A number's lowest bytes; the number of bytes. -/
def leB : Int → Nat → List Int
  | _, 0 => []
  | n, k + 1 => (n % 256) :: leB (n / 256) k
def leN : List Int → Int
  | [] => 0
  | b :: r => b + 256 * leN r
def bsB (l : List Int) : Bool := l.all fun b => decide (0 ≤ b) && decide (b < 256)
theorem bsB_iff {l : List Int} : bsB l = true ↔ ∀ b ∈ l, 0 ≤ b ∧ b < 256 := by simp [bsB]
theorem bsB_take {l : List Int} (h : bsB l = true) (n : Nat) : bsB (l.take n) = true := bsB_iff.2 fun b hb => bsB_iff.1 h b (List.mem_of_mem_take hb)
theorem bsB_drop {l : List Int} (h : bsB l = true) (n : Nat) : bsB (l.drop n) = true := bsB_iff.2 fun b hb => bsB_iff.1 h b (List.mem_of_mem_drop hb)
theorem bsB_append {l m : List Int} : bsB (l ++ m) = (bsB l && bsB m) := by simp [bsB]
theorem bsB_getD {l : List Int} (h : bsB l = true) (i : Nat) : 0 ≤ l.getD i 0 ∧ l.getD i 0 < 256 := by
  rw [List.getD_eq_getElem?_getD]
  cases hi : l[i]? with
  | none => simp
  | some b => exact bsB_iff.1 h b (List.mem_of_getElem? hi)
theorem leB_length : ∀ (k : Nat) (n : Int), (leB n k).length = k
  | 0, _ => rfl
  | k + 1, n => by simp [leB, leB_length k]
theorem leB_bs : ∀ (k : Nat) (n : Int), bsB (leB n k) = true
  | 0, _ => rfl
  | k + 1, n => by
    have := leB_bs k (n / 256)
    simp only [leB, bsB, List.all_cons, Bool.and_eq_true, decide_eq_true_eq] at this ⊢
    exact ⟨⟨by omega, by omega⟩, this⟩
theorem leB_take : ∀ (k m : Nat) (n : Int), m ≤ k → (leB n k).take m = leB n m
  | _, 0, n, _ => by simp [leB]
  | k + 1, m + 1, n, h => by simp [leB, leB_take k m (n / 256) (by omega)]
theorem ediv_ediv_nn {n a b : Int} (ha : 0 ≤ a) : n / a / b = n / (a * b) := by
  rw [Int.ediv_ediv, if_neg (by omega)]; simp
theorem leB_succ : ∀ (k : Nat) (n : Int), leB n (k + 1) = leB n k ++ [n / 256 ^ k % 256]
  | 0, n => by simp [leB]
  | k + 1, n => by
    rw [show leB n (k + 1 + 1) = (n % 256) :: leB (n / 256) (k + 1) from rfl, leB_succ k (n / 256)]
    have : n / 256 / 256 ^ k = n / 256 ^ (k + 1) := by
      rw [ediv_ediv_nn (by omega), Int.pow_succ, Int.mul_comm]
    rw [this]; rfl
theorem leB8 {n : Int} (h : 0 ≤ n) : [IntKind.wrap .u8 (n.fdiv 1), IntKind.wrap .u8 (n.fdiv 256), IntKind.wrap .u8 (n.fdiv 65536), IntKind.wrap .u8 (n.fdiv 16777216), IntKind.wrap .u8 (n.fdiv 4294967296), IntKind.wrap .u8 (n.fdiv 1099511627776), IntKind.wrap .u8 (n.fdiv 281474976710656), IntKind.wrap .u8 (n.fdiv 72057594037927936)] = leB n 8 := by
  simp only [wrap_u8, leB, Int.fdiv_eq_ediv_of_nonneg n (by decide : (0 : Int) ≤ 1), Int.fdiv_eq_ediv_of_nonneg n (by decide : (0 : Int) ≤ 256), Int.fdiv_eq_ediv_of_nonneg n (by decide : (0 : Int) ≤ 65536), Int.fdiv_eq_ediv_of_nonneg n (by decide : (0 : Int) ≤ 16777216), Int.fdiv_eq_ediv_of_nonneg n (by decide : (0 : Int) ≤ 4294967296), Int.fdiv_eq_ediv_of_nonneg n (by decide : (0 : Int) ≤ 1099511627776), Int.fdiv_eq_ediv_of_nonneg n (by decide : (0 : Int) ≤ 281474976710656), Int.fdiv_eq_ediv_of_nonneg n (by decide : (0 : Int) ≤ 72057594037927936)]
  have e : ∀ a b : Int, 0 ≤ a → n / a / b = n / (a * b) := fun a b ha => ediv_ediv_nn ha
  simp only [Int.ediv_one, e 256 256 (by decide), e (256 * 256) 256 (by decide), e (256 * 256 * 256) 256 (by decide), e (256 * 256 * 256 * 256) 256 (by decide), e (256 * 256 * 256 * 256 * 256) 256 (by decide), e (256 * 256 * 256 * 256 * 256 * 256) 256 (by decide)]
  rfl
theorem leN_take : ∀ (l : List Int) (i : Nat), i < l.length → leN (l.take (i + 1)) = leN (l.take i) + l.getD i 0 * 256 ^ i
  | [], i, h => by simp at h
  | b :: r, 0, h => by simp [leN]
  | b :: r, i + 1, h => by
    have := leN_take r i (by simpa using h)
    rw [show (b :: r).take (i + 1 + 1) = b :: r.take (i + 1) from rfl, show (b :: r).take (i + 1) = b :: r.take i from rfl]
    simp only [leN, this, List.getD_cons_succ]
    rw [Int.mul_add, Int.pow_succ, ← Int.mul_assoc 256, Int.mul_comm 256 (r.getD i 0), Int.mul_assoc, Int.mul_comm 256 (256 ^ i), Int.add_assoc]
theorem leN_bd : ∀ (l : List Int), bsB l = true → 0 ≤ leN l ∧ leN l < 256 ^ l.length
  | [], _ => by simp [leN]
  | b :: r, h => by
    simp only [bsB, List.all_cons, Bool.and_eq_true, decide_eq_true_eq] at h
    have ih := leN_bd r h.2
    simp only [leN, List.length_cons, Int.pow_succ]
    omega
theorem leN_leB : ∀ (k : Nat) (n : Int), 0 ≤ n → n < 256 ^ k → leN (leB n k) = n
  | 0, n, h0, h1 => by simp at h1; simp [leB, leN]; omega
  | k + 1, n, h0, h1 => by
    have : n / 256 < 256 ^ k := by rw [Int.pow_succ] at h1; omega
    simp only [leB, leN, leN_leB k (n / 256) (by omega) this]
    omega
theorem leB_leN : ∀ (l : List Int), bsB l = true → leB (leN l) l.length = l
  | [], _ => rfl
  | b :: r, h => by
    simp only [bsB, List.all_cons, Bool.and_eq_true, decide_eq_true_eq] at h
    have h1 : (b + 256 * leN r) % 256 = b := by omega
    have h2 : (b + 256 * leN r) / 256 = leN r := by omega
    simp only [leN, List.length_cons, leB, h1, h2, leB_leN r h.2]
theorem pow_bd {i : Nat} (hi : i ≤ 7) : (256 : Int) ^ i ≤ 72057594037927936 ∧ 1 ≤ (256 : Int) ^ i := by
  match i, hi with
  | 0, _ => decide
  | 1, _ => decide
  | 2, _ => decide
  | 3, _ => decide
  | 4, _ => decide
  | 5, _ => decide
  | 6, _ => decide
  | 7, _ => decide
theorem or_disj (x c i : Nat) (hx : x < 2 ^ (8 * i)) : x ||| c * 2 ^ (8 * i) = x + c * 2 ^ (8 * i) := by
  rw [Nat.or_comm, Nat.mul_comm c, ← Nat.two_pow_add_eq_or_of_lt hx, Nat.add_comm]
theorem or_step64 {x c : Int} {i : Nat} (hi : i ≤ 7) (h0 : 0 ≤ x) (hx : x < 256 ^ i) (hc0 : 0 ≤ c) (hc : c < 256) :
    bits .or .u64 x (IntKind.wrap .u64 (IntKind.wrap .u64 c * 2 ^ min (IntKind.wrap .i64 (8 * (i : Int))).toNat 64)) = x + c * 256 ^ i := by
  obtain ⟨X, rfl⟩ : ∃ X : Nat, x = X := ⟨x.toNat, by omega⟩
  obtain ⟨D, rfl⟩ : ∃ D : Nat, c = D := ⟨c.toNat, by omega⟩
  rw [wrap_i64 (by omega) (by omega)]
  have hp := pow_bd hi
  have e1 : min ((8 * (i : Int)).toNat) 64 = 8 * i := by omega
  have e2 : (2 : Int) ^ (8 * i) = 256 ^ i := by rw [Int.pow_mul]; rfl
  have e3 : ((256 ^ i : Nat) : Int) = (256 : Int) ^ i := by simp
  have hD : (D : Int) * 256 ^ i ≤ 255 * 256 ^ i := Int.mul_le_mul_of_nonneg_right (by omega) (by omega)
  have hD0 : 0 ≤ (D : Int) * 256 ^ i := Int.mul_nonneg (by omega) (by omega)
  rw [wrap_u64_id (n := (D : Int)) (by omega) (by omega), e1, e2, wrap_u64_id (by omega) (by omega), or_u64]
  have f1 : (BitVec.ofInt 64 (X : Int)).toNat = X := by have := toNat_ofInt64 (x := (X : Int)) (by omega) (by omega); omega
  have f2 : (BitVec.ofInt 64 ((D : Int) * 256 ^ i)).toNat = D * 256 ^ i := by
    have := toNat_ofInt64 (x := (D : Int) * 256 ^ i) (by omega) (by omega)
    have e : ((D * 256 ^ i : Nat) : Int) = (D : Int) * 256 ^ i := by simp
    omega
  rw [BitVec.toNat_or, f1, f2]
  have e4 : (256 : Nat) ^ i = 2 ^ (8 * i) := by rw [Nat.pow_mul]
  have hX : X < 2 ^ (8 * i) := by rw [← e4]; omega
  rw [e4, or_disj X D i hX, ← e4]
  simp
theorem pow_bd4 {i : Nat} (hi : i ≤ 3) : (256 : Int) ^ i ≤ 16777216 ∧ 1 ≤ (256 : Int) ^ i := by
  match i, hi with
  | 0, _ => decide
  | 1, _ => decide
  | 2, _ => decide
  | 3, _ => decide
theorem or_step32 {x c : Int} {i : Nat} (hi : i ≤ 3) (h0 : 0 ≤ x) (hx : x < 256 ^ i) (hc0 : 0 ≤ c) (hc : c < 256) :
    bits .or .u32 x (IntKind.wrap .u32 (IntKind.wrap .u32 c * 2 ^ min (IntKind.wrap .i64 (8 * (i : Int))).toNat 32)) = x + c * 256 ^ i := by
  obtain ⟨X, rfl⟩ : ∃ X : Nat, x = X := ⟨x.toNat, by omega⟩
  obtain ⟨D, rfl⟩ : ∃ D : Nat, c = D := ⟨c.toNat, by omega⟩
  rw [wrap_i64 (by omega) (by omega)]
  have hp := pow_bd4 hi
  have e1 : min ((8 * (i : Int)).toNat) 32 = 8 * i := by omega
  have e2 : (2 : Int) ^ (8 * i) = 256 ^ i := by rw [Int.pow_mul]; rfl
  have e3 : ((256 ^ i : Nat) : Int) = (256 : Int) ^ i := by simp
  have hD : (D : Int) * 256 ^ i ≤ 255 * 256 ^ i := Int.mul_le_mul_of_nonneg_right (by omega) (by omega)
  have hD0 : 0 ≤ (D : Int) * 256 ^ i := Int.mul_nonneg (by omega) (by omega)
  rw [wrap_u32_id (n := (D : Int)) (by omega) (by omega), e1, e2, wrap_u32_id (by omega) (by omega), or_u32]
  have f1 : (BitVec.ofInt 32 (X : Int)).toNat = X := by have := toNat_ofInt32 (x := (X : Int)) (by omega) (by omega); omega
  have f2 : (BitVec.ofInt 32 ((D : Int) * 256 ^ i)).toNat = D * 256 ^ i := by
    have := toNat_ofInt32 (x := (D : Int) * 256 ^ i) (by omega) (by omega)
    have e : ((D * 256 ^ i : Nat) : Int) = (D : Int) * 256 ^ i := by simp
    omega
  rw [BitVec.toNat_or, f1, f2]
  have e4 : (256 : Nat) ^ i = 2 ^ (8 * i) := by rw [Nat.pow_mul]
  have hX : X < 2 ^ (8 * i) := by rw [← e4]; omega
  rw [e4, or_disj X D i hX, ← e4]
  simp

/-- What is read of a number at a place: itself, where it ends, the fault. -/
def getBad (l : List Int) (a size : Int) : Bool := decide (a < 0) || decide (a > (l.length : Int)) || decide ((l.length : Int) - a < size)
def getN (l : List Int) (a size : Int) : Int := if getBad l a size then 0 else leN ((l.drop a.toNat).take size.toNat)
def getP (l : List Int) (a size : Int) : Int := if getBad l a size then 0 else a + size
def getE (l : List Int) (a size : Int) : Int := if a < 0 ∨ a > (l.length : Int) then 5 else if (l.length : Int) - a < size then 4 else 0
def getA (l : List Int) (a size : Int) : Int := if a < 0 ∨ a > (l.length : Int) then 0 else if (l.length : Int) - a < size then l.length else 0
end Go.Proofs.Ytmdkhdfckdkceaa.TdAm
