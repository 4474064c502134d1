/- FixedGets, FixedHalves: their walks. -/
import Derived.Test.YtmdkhdfckdkceaaFixLV
set_option linter.unusedVariables false
set_option linter.unusedSimpArgs false
set_option maxRecDepth 100000
namespace Go.Proofs.Ytmdkhdfckdkceaa.TdAm
open Go Go.RowKit

theorem lentF_take (l : List Int) : (lentF l).take l.length = l := by simp [lentF, lentB]
theorem lentF_len (l : List Int) : (lentF l).length = l.length + 3 := lentB_len l 3
theorem Br_t (P Q : Prop) : Br true P Q = P := rfl
theorem Br_f (P Q : Prop) : Br false P Q = Q := rfl
theorem Rq_t (P : Prop) : Rq true P = P := rfl
theorem gets_law (l : List Int) (a size : Int) (hl : l.length ≤ 140737488351232) (hb : bsB l = true) : funW CC SG 100 noL 4 [.roi .u8 l, .int .i64 a, .int .i64 size] [] fun v _ _ => v = .bool true := by
  rw [gets_vc]
  have ew : IntKind.wrap .i64 ((l.length : Int) + 3) = ((l.length + 3 : Nat) : Int) := by rw [wrap_i64 (by omega) (by omega)]; omega
  have h4 := getN_bd (l := l) (a := a) (s := 4) hb (by omega)
  have e4 : (256 : Int) ^ (4 : Int).toNat = 4294967296 := by decide
  rw [e4] at h4
  simp only [ew, lentF_take, lentF_len, hb, Int.toNat_natCast, Nat.zero_add, wrap_u32_id h4.1 h4.2, decide_true, Bool.and_true, beq_self_eq_true, Br_t, Rq_t, sameB_refl, Rq_iff, decide_eq_true_eq, Nat.ble_eq]
  and_intros <;> first | omega | rfl | trivial
theorem leB_add : ∀ (j k : Nat) (n : Int), leB n (j + k) = leB n j ++ leB (n / 256 ^ j) k
  | 0, k, n => by simp [leB]
  | j + 1, k, n => by
    rw [Nat.add_right_comm]
    simp only [leB, List.cons_append, leB_add j k (n / 256), List.cons.injEq, true_and]
    rw [ediv_ediv_nn (by omega), Int.pow_succ, Int.mul_comm]
theorem leB_mod : ∀ (k : Nat) (n : Int), leB (n % 256 ^ k) k = leB n k
  | 0, n => rfl
  | k + 1, n => by
    simp only [leB, List.cons.injEq]
    have hp : (0 : Int) < 256 ^ k := Int.pow_pos (by decide)
    have e : (256 : Int) ^ (k + 1) = 256 * 256 ^ k := by rw [Int.pow_succ, Int.mul_comm]
    refine ⟨?_, ?_⟩
    · rw [e, Int.emod_emod_of_dvd n ⟨256 ^ k, rfl⟩]
    · rw [← leB_mod k (n / 256)]
      congr 1
      rw [e]
      have h1 := Int.emod_def n (256 * 256 ^ k)
      have h2 : n / (256 * 256 ^ k) = n / 256 / 256 ^ k := (ediv_ediv_nn (by omega)).symm
      rw [h1, h2, Int.emod_def (n / 256), Int.mul_assoc]
      rw [show n - 256 * (256 ^ k * (n / 256 / 256 ^ k)) = n + 256 * (-(256 ^ k * (n / 256 / 256 ^ k))) by rw [Int.mul_neg]; omega]
      rw [Int.add_mul_ediv_left _ _ (by omega)]
      omega
theorem leB_zero : ∀ k : Nat, leB 0 k = List.replicate k 0
  | 0 => rfl
  | k + 1 => by simp [leB, leB_zero k, List.replicate_succ]
theorem leB_halves (n : Int) : leB (n % 4294967296) 4 ++ leB (n / 4294967296 % 4294967296) 4 = leB n 8 := by
  have h1 := leB_mod 4 n
  have h2 := leB_mod 4 (n / 4294967296)
  have e : (256 : Int) ^ 4 = 4294967296 := by decide
  rw [e] at h1 h2
  rw [h1, h2, leB_add 4 4 n, e]
theorem halves_law (long n size more : Int) (h0 : 0 ≤ long) (h1 : long < 18446744073709551616) (hn : n ≤ 9223372036854775807) : funW CC SG 100 noL 5 [.int .u64 long, .int .i64 n, .int .i64 size, .int .i64 more] [] fun v _ _ => v = .bool true := by
  rw [halves_vc]
  have e1 : IntKind.wrap .u64 (IntKind.wrap .u32 long) = long % 4294967296 := by rw [wrap_u32, wrap_u64_id (by omega) (by omega)]
  have e2 : IntKind.wrap .u64 (IntKind.wrap .u32 (Int.fdiv long 4294967296)) = long / 4294967296 % 4294967296 := by
    rw [Int.fdiv_eq_ediv_of_nonneg _ (by omega), wrap_u32, wrap_u64_id (by omega) (by omega)]
  have tk : ∀ (m : Int) (k : Nat), List.take k (leB m k) = leB m k := fun m k => List.take_of_length_le (by rw [leB_length]; omega)
  have e3 : List.take 8 (leB (long % 4294967296) 4 ++ leB (long / 4294967296 % 4294967296) 4) = leB long 8 := by rw [leB_halves]; exact tk _ 8
  have p0 : ∀ s : Int, putE n s ≠ 0 := fun s => by unfold putE; split <;> omega
  have p0d : ∀ s : Int, decide (putE n s = 0) = false := fun s => by simp [p0 s]
  simp only [e1, e2, tk, e3, sameB_refl, Bool.not_true, Br_f, p0d, Bool.not_false, Br_t, Rq_iff, decide_eq_true_eq, leB_length, Nat.ble_eq, Nat.zero_add, Nat.mul_one, List.length_replicate]
  refine ⟨by omega, by omega, h0, hn, ?_⟩
  cases hs : putOk n size with
  | false =>
    simp only [Br_f]
    refine ⟨hn, ?_⟩
    cases hm : putOk n more <;> simp [Br]
  | true =>
    obtain ⟨⟨s1, s7⟩, n0, ns⟩ := putOk_iff.1 hs
    simp only [Br_t]
    refine ⟨hn, ?_⟩
    cases hm : putOk n more with
    | false =>
      simp only [Br_f]
      refine Br_split (fun _ => by trivial) fun h5 => ?_
      have h5 : putE n more = 5 := by simpa using h5
      have hsz : sizeOk more = true := by
        unfold putE at h5
        split at h5
        · assumption
        · omega
      obtain ⟨m1, m7⟩ := sizeOk_iff.1 hsz
      have hge : ¬ n < 256 ^ more.toNat := fun h => by rw [putOk_iff.2 ⟨⟨m1, m7⟩, n0, h⟩] at hm; cases hm
      have : more < size := by
        by_cases h : more < size
        · exact h
        · exfalso
          apply hge
          have hp : (256 : Int) ^ size.toNat ≤ 256 ^ more.toNat := by
            have := Nat.pow_le_pow_right (n := 256) (by omega) (show size.toNat ≤ more.toNat by omega)
            have e : ∀ k : Nat, ((256 ^ k : Nat) : Int) = (256 : Int) ^ k := fun k => by simp
            rw [← e, ← e]; omega
          omega
      simp [this]
    | true =>
      obtain ⟨⟨m1, m7⟩, _, nm⟩ := putOk_iff.1 hm
      simp only [Br_t]
      refine Br_split (fun _ => by trivial) fun hlt => ?_
      have hle : size ≤ more := by have : ¬ more < size := by simpa using hlt
                                   omega
      have t1 : ((more.toNat : Nat) : Int) = more := by omega
      have w1 : IntKind.wrap .i64 (more - size) = more - size := wrap_i64 (by omega) (by omega)
      have t2 : (more - size).toNat = more.toNat - size.toNat := by omega
      have k1 : List.take size.toNat (leB n more.toNat) = leB n size.toNat := leB_take _ _ _ (by omega)
      have hp : (0 : Int) < 256 ^ size.toNat := Int.pow_pos (by decide)
      have k2 : List.take (more.toNat - size.toNat) (List.drop size.toNat (leB n more.toNat)) = List.replicate (more.toNat - size.toNat) 0 := by
        have : more.toNat = size.toNat + (more.toNat - size.toNat) := by omega
        rw [this, leB_add, List.drop_left' (leB_length _ _), Int.ediv_eq_zero_of_lt n0 ns, leB_zero]
        simp
      have k3 : List.take (more.toNat - size.toNat) (List.replicate (more.toNat - size.toNat) (0 : Int)) = List.replicate (more.toNat - size.toNat) 0 := by simp
      simp only [t1, w1, t2, k1, k2, k3, sameB_refl, decide_true, Br_t]
      refine ⟨by omega, hle, by omega, by omega, by omega, hle, by omega, by omega, by omega, by omega, by omega, trivial⟩
end Go.Proofs.Ytmdkhdfckdkceaa.TdAm
namespace Go.Proofs.Ytmdkhdfckdkceaa.fixedGets
open Go Go.RowKit Go.Proofs.Ytmdkhdfckdkceaa.TdAm
theorem row_bs {w : World} {a : Option Addr} {len cap : Nat} {z : List Int} (h : IsRow .u8 w a len cap z) : bsB (z.take len) = true ∧ (z.take len).length = len := by
  refine ⟨?_, h.roi.1⟩
  rcases h with ⟨_, rfl, _, rfl⟩ | ⟨x, _, _, _, _, _, hw⟩
  · rfl
  · exact bsB_iff.2 fun b hb => wf_u8 (hw b (List.mem_of_mem_take hb))
theorem walk (w : World) (a0 : Option Addr) (len0 cap0 : Nat) (z0 : List Int) (w0 : IsRow .u8 w a0 len0 cap0 z0) (s0 : len0 * 1 ≤ 140737488351232) (a1 : Int) (w1 : (Lit.int .i64 a1).wf = true) (a2 : Int) (w2 : (Lit.int .i64 a2).wf = true) : Calls Try.prog 4 #[.slice a0 len0 cap0, .int .i64 a1, .int .i64 a2] w fun e w' => e = .returned (.bool true) ∧ Below w.heap.size w w' :=
  law_of (C := CC) SG_ok ccMix (noL_ok CC 0 _) (args := [.roi .u8 (z0.take len0), .int .i64 a1, .int .i64 a2]) (ccGlob w) rfl (fun j hj => match j, hj with
    | 0, _ => w0.roi.2
    | 1, _ => .int _ _
    | 2, _ => .int _ _) (gets_law _ _ _ (by have := (row_bs w0).2; omega) (row_bs w0).1)
end Go.Proofs.Ytmdkhdfckdkceaa.fixedGets
namespace Go.Proofs.Ytmdkhdfckdkceaa.fixedHalves
open Go Go.RowKit Go.Proofs.Ytmdkhdfckdkceaa.TdAm
theorem walk (w : World) (a0 : Int) (w0 : (Lit.int .u64 a0).wf = true) (a1 : Int) (w1 : (Lit.int .i64 a1).wf = true) (a2 : Int) (w2 : (Lit.int .i64 a2).wf = true) (a3 : Int) (w3 : (Lit.int .i64 a3).wf = true) : Calls Try.prog 5 #[.int .u64 a0, .int .i64 a1, .int .i64 a2, .int .i64 a3] w fun e w' => e = .returned (.bool true) ∧ Below w.heap.size w w' :=
  law_of (C := CC) SG_ok ccMix (noL_ok CC 0 _) (args := [.int .u64 a0, .int .i64 a1, .int .i64 a2, .int .i64 a3]) (ccGlob w) rfl (fun j hj => match j, hj with
    | 0, _ => .int _ _
    | 1, _ => .int _ _
    | 2, _ => .int _ _
    | 3, _ => .int _ _) (halves_law _ _ _ _ (wf_u64 w0).1 (wf_u64 w0).2 (wf_i64 w1).2)
end Go.Proofs.Ytmdkhdfckdkceaa.fixedHalves
