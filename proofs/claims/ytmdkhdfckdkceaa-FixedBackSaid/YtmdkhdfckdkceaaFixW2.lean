/- FixedBack: its walk. -/
import Derived.Test.YtmdkhdfckdkceaaFixW
set_option linter.unusedVariables false
set_option linter.unusedSimpArgs false
set_option maxRecDepth 100000
namespace Go.Proofs.Ytmdkhdfckdkceaa.TdAm
open Go Go.RowKit

theorem put_cut (l m : List Int) (x : Int) (k : Nat) : ((l ++ leB x k ++ m).drop l.length).take k = leB x k := by
  rw [List.append_assoc, List.drop_left' rfl, List.take_left' (leB_length k x)]
theorem put_notBad (l m : List Int) (x : Int) (k : Nat) (s : Int) (hs : s = k) : getBad (l ++ leB x k ++ m) l.length s = false := by
  subst hs
  simp only [getBad, List.length_append, leB_length, Bool.or_eq_false_iff, decide_eq_false_iff_not]
  omega
theorem put_getN (l m : List Int) {x : Int} (k : Nat) (s : Int) (hs : s = k) (h0 : 0 ≤ x) (h1 : x < 256 ^ k) : getN (l ++ leB x k ++ m) l.length s = x := by
  unfold getN
  rw [put_notBad l m x k s hs]
  subst hs
  simp only [Bool.false_eq_true, if_false, Int.toNat_natCast, put_cut, leN_leB k x h0 h1]
theorem put_getP (l m : List Int) (x : Int) (k : Nat) (s : Int) (hs : s = k) : getP (l ++ leB x k ++ m) l.length s = l.length + s := by
  unfold getP
  rw [put_notBad l m x k s hs]; simp
theorem put_getE (l m : List Int) (x : Int) (k : Nat) (s : Int) (hs : s = k) : getE (l ++ leB x k ++ m) l.length s = 0 := by
  unfold getE
  rw [if_neg, if_neg] <;> simp only [List.length_append, leB_length] <;> omega
theorem putE_ne (n s : Int) : decide (putE n s = 0) = false := by
  have : putE n s ≠ 0 := by unfold putE; split <;> omega
  simp [this]
theorem leB_word (long : Int) : leB (IntKind.wrap .u64 (IntKind.wrap .u32 long)) 4 = leB (long % 4294967296) 4 := by
  rw [wrap_u32, wrap_u64_id (by omega) (by omega)]
theorem back_law (n size long : Int) (l m : List Int) (hl : bsB l = true) (hm : bsB m = true) (l0 : 0 ≤ long) (l1 : long < 18446744073709551616) (hn : n ≤ 9223372036854775807) : LawOk CC SG 100 noL 6 [.int .i64 n, .int .i64 size, .int .u64 long, .roi .u8 l, .roi .u8 m] := by
  refine ⟨?_⟩
  rw [back_vc]
  refine Br_split (fun _ => rfl) fun h1 => Br_split (fun _ => rfl) fun h2 => ?_
  have hle : l.length ≤ 100 := by have : ¬ ((l.length : Int) > 100) := by simpa using h1
                                  omega
  have hme : m.length ≤ 100 := by have : ¬ ((m.length : Int) > 100) := by simpa using h2
                                  omega
  have tk : ∀ (x : Int) (k : Nat), List.take k (leB x k) = leB x k := fun x k => List.take_of_length_le (by rw [leB_length]; omega)
  have t1 : ∀ (x : Int) (k : Nat), List.take (l.length + k) (l ++ leB x k) = l ++ leB x k := fun x k => List.take_of_length_le (by simp [leB_length])
  have t2 : ∀ (x : Int) (k : Nat), List.take (l.length + k + m.length) (l ++ leB x k ++ m) = l ++ leB x k ++ m := fun x k => List.take_of_length_le (by simp [leB_length]; omega)
  have bs : ∀ (x : Int) (k : Nat), bsB (l ++ leB x k ++ m) = true := fun x k => by rw [bsB_append, bsB_append, hl, hm, leB_bs]; rfl
  have len2 : ∀ (x : Int) (k : Nat), (l ++ leB x k ++ m).length = l.length + k + m.length := fun x k => by simp [leB_length]; omega
  have len1 : ∀ (x : Int) (k : Nat), (l ++ leB x k).length = l.length + k := fun x k => by simp [leB_length]
  have t3 : List.take l.length l = l := List.take_length
  have w4 : IntKind.wrap .u32 long = long % 4294967296 := wrap_u32 _
  have w4u : IntKind.wrap .u64 (long % 4294967296) = long % 4294967296 := wrap_u64_id (by omega) (by omega)
  have g4 : getN (l ++ leB (long % 4294967296) 4 ++ m) l.length 4 = long % 4294967296 := put_getN l m 4 4 rfl (by omega) (by rw [show (256 : Int) ^ 4 = 4294967296 by decide]; omega)
  have g8 : getN (l ++ leB long 8 ++ m) l.length 8 = long := put_getN l m 8 8 rfl l0 (by rw [show (256 : Int) ^ 8 = 18446744073709551616 by decide]; omega)
  have p4 := put_getP l m (long % 4294967296) 4 4 rfl
  have p8 := put_getP l m long 8 8 rfl
  have e4 := put_getE l m (long % 4294967296) 4 4 rfl
  have e8 := put_getE l m long 8 8 rfl
  have wi : ∀ k : Int, 0 ≤ k → k ≤ 10 → IntKind.wrap .i64 ((l.length : Int) + k) = l.length + k := fun k h0 h10 => wrap_i64 (by omega) (by omega)
  have w0 : (0 : Int) ≤ IntKind.wrap .u64 (IntKind.wrap .u32 long) := by rw [wrap_u64]; omega
  have tail : ∀ (k : AV → Prop), k (.bool true) → (Rq (Nat.ble (List.length m) (4611686018427387904 : Nat))
      (Rq (bsB m == true)
        (Br (!decide (gE m (0 : Int) size = (0 : Int))) (k (AV.bool true))
          (Rq (decide (gN m (0 : Int) size ≤ (9223372036854775807 : Int)))
            (Br (putOk (gN m (0 : Int) size) size)
              (Rq (decide ((0 : Int) ≤ gP m (0 : Int) size))
                (Rq (decide (gP m (0 : Int) size ≤ (↑(List.length m) : Int)))
                  (Rq (Nat.ble ((0 : Nat) + Int.toNat size) (List.length (leB (gN m (0 : Int) size) (Int.toNat size)))) (k (AV.bool (sameB (List.take (Int.toNat size) (leB (gN m (0 : Int) size) (Int.toNat size))) (List.take (Int.toNat (gP m (0 : Int) size)) m)))))))
              (Br (decide (putE (gN m (0 : Int) size) size = (0 : Int))) (Rq (decide ((0 : Int) ≤ gP m (0 : Int) size)) (Rq (decide (gP m (0 : Int) size ≤ (↑(List.length m) : Int))) (k (AV.bool (sameB [] (List.take (Int.toNat (gP m (0 : Int) size)) m)))))) (k (AV.bool false)))))))) := by
    intro k hk
    refine Rq_mk (Nat.ble_eq.mpr (by omega)) (Rq_mk (by simp [hm]) (Br_split (fun _ => hk) fun h => ?_))
    have hE : gE m 0 size = 0 := by simpa using h
    have hs : sizeOk size = true := by
      cases e : sizeOk size with
      | true => rfl
      | false => unfold gE at hE; rw [e] at hE; simp at hE
    obtain ⟨s1, s7⟩ := sizeOk_iff.1 hs
    have hb : getBad m 0 size = false := by
      unfold gE at hE; rw [if_pos hs] at hE
      unfold getE at hE
      split at hE
      · omega
      · split at hE
        · omega
        · simp [getBad]; omega
    have hnb : ¬ ((0 : Int) < 0 ∨ (0 : Int) > (m.length : Int) ∨ (m.length : Int) - 0 < size) := fun e => by rw [getBad_iff.2 e] at hb; cases hb
    have gn : gN m 0 size = leN (m.take size.toNat) := by unfold gN getN; rw [if_pos hs, hb]; simp
    have gp : gP m 0 size = size := by unfold gP getP; rw [if_pos hs, hb]; simp
    have hbd := leN_bd (m.take size.toNat) (bsB_take hm _)
    have hlen : (m.take size.toNat).length = size.toNat := by simp; omega
    rw [hlen] at hbd
    have hp := pow_bd (i := size.toNat) (by omega)
    have hback := leB_leN (m.take size.toNat) (bsB_take hm _)
    rw [hlen] at hback
    rw [gn, gp]
    refine Rq_mk (by simp; omega) (Br_pos (putOk_iff.2 ⟨⟨s1, s7⟩, hbd⟩) ?_)
    rw [hback, List.take_take, Nat.min_self, sameB_refl]
    exact Rq_mk (by simp; omega) (Rq_mk (by simp; omega) (Rq_mk (Nat.ble_eq.mpr (by rw [hlen]; omega)) hk))
  have T := tail (fun v => v = .bool true) rfl
  have w4' := wi 4 (by omega) (by omega)
  have w8' := wi 8 (by omega) (by omega)
  simp only [Br_t, Nat.mul_one, Nat.add_zero, t3, tk, t1, t2, len1, len2, bs, leB_length, w4, w4u, g4, g8, p4, p8, e4, e8, w4', w8', decide_true, Bool.not_true, Br_f, beq_self_eq_true, Rq_t, Nat.zero_add, putE_ne] at T ⊢
  cases hs : putOk n size with
  | true =>
    obtain ⟨⟨s1, s7⟩, n0, ns⟩ := putOk_iff.1 hs
    have hsz : sizeOk size = true := sizeOk_iff.2 ⟨s1, s7⟩
    have es : size = ((size.toNat : Nat) : Int) := by omega
    have gs : gN (l ++ leB n size.toNat ++ m) l.length size = n := by unfold gN; rw [if_pos hsz]; exact put_getN l m size.toNat size es n0 ns
    have ps : gP (l ++ leB n size.toNat ++ m) l.length size = l.length + size := by unfold gP; rw [if_pos hsz]; exact put_getP l m n size.toNat size es
    have ees : gE (l ++ leB n size.toNat ++ m) l.length size = 0 := by unfold gE; rw [if_pos hsz]; exact put_getE l m n size.toNat size es
    have ws := wi size (by omega) (by omega)
    have d1 : decide ((size.toNat : Int) = size) = true := by simp; omega
    simp only [Br_t, gs, ps, ees, ws, d1, decide_true, Bool.not_true, Br_f]
    refine Rq_mk (by simpa using hn) ?_
    repeat (first | exact T | refine Rq_mk (by first | exact Nat.ble_eq.mpr (by omega) | (simp; done) | (simp; omega)) ?_)
  | false =>
    simp only [Br_f]
    refine Rq_mk (by simpa using hn) ?_
    repeat (first | exact T | refine Rq_mk (by first | exact Nat.ble_eq.mpr (by omega) | (simp; done) | (simp; omega)) ?_)
end Go.Proofs.Ytmdkhdfckdkceaa.TdAm
namespace Go.Proofs.Ytmdkhdfckdkceaa.fixedBack
open Go Go.RowKit Go.Proofs.Ytmdkhdfckdkceaa.TdAm
theorem walk (w : World) (a0 : Int) (w0 : (Lit.int .i64 a0).wf = true) (a1 : Int) (w1 : (Lit.int .i64 a1).wf = true) (a2 : Int) (w2 : (Lit.int .u64 a2).wf = true) (a3 : Option Addr) (len3 cap3 : Nat) (z3 : List Int) (w3 : IsRow .u8 w a3 len3 cap3 z3) (s3 : len3 * 1 ≤ 140737488351232)
    (a4 : Option Addr) (len4 cap4 : Nat) (z4 : List Int) (w4 : IsRow .u8 w a4 len4 cap4 z4) (s4 : len4 * 1 ≤ 140737488351232) : Calls Try.prog 6 #[.int .i64 a0, .int .i64 a1, .int .u64 a2, .slice a3 len3 cap3, .slice a4 len4 cap4] w fun e w' => e = .returned (.bool true) ∧ Below w.heap.size w w' := by
  have hx := back_law a0 a1 a2 (z3.take len3) (z4.take len4) (fixedGets.row_bs w3).1 (fixedGets.row_bs w4).1 (wf_u64 w2).1 (wf_u64 w2).2 (wf_i64 w0).2
  refine law_ok hx SG_ok ccMix (noL_ok CC 0 _) (ccGlob w) rfl ?_
  intro j hj
  match j, hj with
  | 0, _ => exact .int _ _
  | 1, _ => exact .int _ _
  | 2, _ => exact .int _ _
  | 3, _ => exact w3.roi.2
  | 4, _ => exact w4.roi.2
end Go.Proofs.Ytmdkhdfckdkceaa.fixedBack
