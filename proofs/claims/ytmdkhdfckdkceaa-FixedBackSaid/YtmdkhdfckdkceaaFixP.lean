/- The functions on numbers of bytes: what they tell. -/
import Derived.Test.YtmdkhdfckdkceaaFixV
import Derived.Test.YtmdkhdfckdkceaaFixM
namespace Go.Proofs.Ytmdkhdfckdkceaa.TdAm
open Go Go.RowKit
set_option linter.unusedVariables false
set_option linter.unusedSimpArgs false
set_option maxRecDepth 100000

theorem lay_spec (n size : Int) (h0 : 0 ≤ n) (s0 : 0 ≤ size) (s1 : size ≤ 8) : FSpec CC 26 [.int .u64 n, .int .i64 size] [] (.sl 0 0 size.toNat size.toNat 1) [some (.ints .u8 (leB n size.toNat) true)] := by
  have h : FSpec CC 26 [.int .u64 n, .int .i64 size] [] (.sl 5 0 size.toNat size.toNat 1) [some (.ints .u8 (leB n 8) false), some .dead, none, none, none, some (.ints .u8 (leB n size.toNat) true)] := by
    refine spec0 (n := 100) (L := noL) (noS_ok CC) ccMix (noL_ok CC 0 _) ?_
    rw [lay_vc]
    refine Rq_mk (by simpa using s0) (Rq_mk (by simpa using s1) (Rq_mk (Nat.ble_eq.mpr (by omega)) (Rq_mk (Nat.ble_eq.mpr (by omega)) ⟨by rw [Nat.zero_add], ?_⟩)))
    have e2 := leB8 h0
    have e3 := leB_take 8 size.toNat n (by omega)
    rw [← e2] at e3
    rw [← e2, ← e3, Nat.mul_one]
    rfl
  exact h.cut [5] rfl
def layG : List AV → Option (AV × Hp × List Chk)
  | [.int k n, .int k' s] => match k, k' with
    | .u64, .i64 => some (.sl 0 0 s.toNat s.toNat 1, [some (.ints .u8 (leB n s.toNat) true)], [.le 0 n, .le 0 s, .le s 8])
    | _, _ => none
  | _ => none
theorem layG_ok (args : List AV) (v : AV) (L : Hp) (cs : List Chk) (h : layG args = some (v, L, cs)) (hc : oks cs) : FSpec CC 26 args [] v L := by
  unfold layG at h
  split at h
  · split at h
    · cases h; exact lay_spec _ _ hc.1 hc.2.1 hc.2.2.1
    · cases h
  · cases h

theorem rb_LS (n size : Int) (h0 : 0 ≤ n) (hn : n < 18446744073709551616) (s1 : 1 ≤ size) (s8 : size ≤ 8) : LSOk CC 0 (rbL n size (leB n size.toNat) (n / 256 ^ size.toNat) size.toNat) (codeOf CC 27) := by
  refine LSOk_one (a := loopAt CC 27 0) 0 (by kernel_rfl) (fun i s hi => by simp [rbL, hi]) fun s t k h ht => ?_
  cases h
  obtain ⟨ho, hk⟩ := ht
  refine loop_block (noS_ok CC) ccMix (k := 0) (fuel := 60) (fun i => rbHd (leB n i) (n / 256 ^ i) size i i) (fun i => i ≤ size.toNat) (fun i => size.toNat - i) (fun _ => noL) (fun _ _ => noL_ok CC 0 _)
    (P := fun o v => o = .normal ∧ v = rbHd (leB n size.toNat) (n / 256 ^ size.toNat) size size size.toNat) (fun i hi => ?_) ho (x := 0) (Nat.zero_le _) ?_ ?_
  · refine (rb_round _ _ _ _ _ _).mpr ?_
    refine Br_split (fun h => ?_) (fun h => ?_)
    · have hlt : i < size.toNat := by have : (i : Int) < size := by simpa using h
                                      omega
      have hd : 0 ≤ n / 256 ^ i := Int.ediv_nonneg h0 (Int.pow_nonneg (by decide))
      have hdn : n / 256 ^ i ≤ n := Int.ediv_le_self _ h0
      simp only [Rq_iff, Nat.ble_eq, leB_length, List.drop_zero, Nat.mul_one]
      refine ⟨by omega, by omega, i + 1, hlt, by show size.toNat - (i + 1) < size.toNat - i; omega, ?_⟩
      refine Leads.trans (v1 := rbHd (leB n (i + 1)) (n / 256 ^ (i + 1)) size ((i + 1 : Nat) : Int) (i + 1)) (stV_obs (by decide) rfl (by simp [rbHd])) ?_ (Leads.of_eq rfl)
      refine Leads.trans (v1 := ⟨21, [some (.int .u64 (n / 256 ^ (i + 1))), some (.int .i64 size), some (.sl 0 0 (i + 1) (i + 1) 1), some (.int .i64 ((i + 1 : Nat) : Int))], [some (.ints .u8 (leB n (i + 1)) true)], [5, 0, 7]⟩) (stV_obs (by decide) rfl (by simp)) (Leads.cut [7] ?_ fun b hb => by omega) (Leads.like rfl fun b hb => by omega)
      have e1 : IntKind.wrap .u64 (Int.tdiv (n / 256 ^ i) 256) = n / 256 ^ (i + 1) := by
        rw [Int.tdiv_eq_ediv_of_nonneg hd, wrap_u64_id (by omega) (by omega), ediv_ediv_nn (Int.pow_nonneg (by decide)), Int.pow_succ]
      have e2 : IntKind.wrap .u8 (Int.tmod (n / 256 ^ i) 256) = n / 256 ^ i % 256 := by
        rw [Int.tmod_eq_emod_of_nonneg hd, wrap_u8_id (by omega) (by omega)]
      have e3 : List.take i (leB n i) ++ List.take 1 [n / 256 ^ i % 256] = leB n (i + 1) := by
        rw [List.take_of_length_le (by rw [leB_length]; omega), leB_succ]; rfl
      rw [e1, e2, e3, wrap_i64 (by omega) (by omega)]
      rfl
    · have hge : ¬ (i : Int) < size := by simpa using h
      have e : i = size.toNat := by omega
      subst e
      refine ⟨rfl, ?_⟩
      have : ((size.toNat : Nat) : Int) = size := by omega
      simp only [rbHd, this]
  · refine Leads.trans (v1 := nilV 5 [0, 1, 5, 6] .u8 1 (rbIn n size)) (stV_obs (by decide) rfl (by simp [nilV, rbIn])) (Leads.nil 5 .u8 1 rfl rfl) (Leads.of_eq ?_)
    simp [nilV, rbIn, rbHd, leB]
  · rintro o v ⟨rfl, rfl⟩
    exact hk
theorem rb_spec (n size : Int) (h0 : 0 ≤ n) (hn : n < 18446744073709551616) (s1 : 1 ≤ size) (s8 : size ≤ 8) : FSpec CC 27 [.int .u64 n, .int .i64 size] [] (.sl 0 0 size.toNat size.toNat 1) [some (.ints .u8 (leB n size.toNat) true)] :=
  spec0 (noS_ok CC) ccMix (rb_LS n size h0 hn s1 s8) ((rb_vc n size _ _ _ _).mpr ⟨rfl, rfl, rfl⟩)
def rbG : List AV → Option (AV × Hp × List Chk)
  | [.int k n, .int k' s] => match k, k' with
    | .u64, .i64 => some (.sl 0 0 s.toNat s.toNat 1, [some (.ints .u8 (leB n s.toNat) true)], [.le 0 n, .lt n 18446744073709551616, .le 1 s, .le s 8])
    | _, _ => none
  | _ => none
theorem rbG_ok (args : List AV) (v : AV) (L : Hp) (cs : List Chk) (h : rbG args = some (v, L, cs)) (hc : oks cs) : FSpec CC 27 args [] v L := by
  unfold rbG at h
  split at h
  · split at h
    · cases h; exact rb_spec _ _ hc.1 hc.2.1 hc.2.2.1 hc.2.2.2.1
    · cases h
  · cases h

/-! ### reading -/
theorem g64_LS (m : List Int) (a size : Int) (hm : m.length ≤ 8) (hb : bsB m = true) : LSOk CC 0 (g64L m a size (leN m)) (codeOf CC 28) := by
  refine LSOk_one (a := loopAt CC 28 1) 1 (by kernel_rfl) (fun i s hi => by simp [g64L, hi]) fun s t k h ht => ?_
  cases h
  obtain ⟨ho, hk⟩ := ht
  refine loop_block (noS_ok CC) ccMix (k := 0) (fuel := 60) (fun i => g64Hd m a size (leN (m.take i)) i) (fun i => i ≤ m.length) (fun i => m.length - i) (fun _ => noL) (fun _ _ => noL_ok CC 0 _)
    (P := fun o v => o = .normal ∧ v = g64Hd m a size (leN m) m.length) (fun i hi => ?_) ho (x := 0) (Nat.zero_le _) (Leads.of_eq rfl) ?_
  · refine (g64_round _ _ _ _ _ _).mpr ?_
    refine Br_split (fun h => ?_) (fun h => ?_)
    · have hlt : i < m.length := by simpa using h
      simp only [Rq_iff, decide_eq_true_eq, Int.toNat_natCast]
      have hbd := leN_bd (m.take i) (bsB_take hb i)
      have hlen : (m.take i).length = i := by simp; omega
      rw [hlen] at hbd
      have hg := bsB_getD hb i
      refine ⟨by omega, by omega, by rw [wrap_i64 (by omega) (by omega)]; omega, i + 1, hlt, by show m.length - (i + 1) < m.length - i; omega, Leads.of_eq ?_⟩
      rw [or_step64 (by omega) hbd.1 hbd.2 hg.1 hg.2, wrap_i64 (by omega) (by omega)]
      show _ = g64Hd m a size (leN (m.take (i + 1))) ((i + 1 : Nat) : Int)
      rw [leN_take m i hlt]
      rfl
    · have hge : ¬ i < m.length := by simpa using h
      have e : i = m.length := by omega
      subst e
      refine ⟨rfl, ?_⟩
      rw [List.take_of_length_le (Nat.le_refl _)]
      rfl
  · rintro o v ⟨rfl, rfl⟩
    exact hk
theorem getBad_iff {l : List Int} {a size : Int} : getBad l a size = true ↔ a < 0 ∨ a > (l.length : Int) ∨ (l.length : Int) - a < size := by simp [getBad, or_assoc]
theorem get_cut {l : List Int} {a size : Int} (h : getBad l a size = false) (hs : 0 ≤ size) : (l.take (a + size).toNat).drop a.toNat = (l.drop a.toNat).take size.toNat := by
  have : ¬ (a < 0 ∨ a > (l.length : Int) ∨ (l.length : Int) - a < size) := fun e => by rw [getBad_iff.2 e] at h; cases h
  rw [List.drop_take]
  congr 1
  omega
theorem g64_spec (l : List Int) (a size : Int) (hl : l.length ≤ 4611686018427387904) (hb : bsB l = true) (s1 : 1 ≤ size) (s8 : size ≤ 8) : FSpec CC 28 [.roi .u8 l, .int .i64 a, .int .i64 size] []
    (.tup [.int .u64 (getN l a size), .int .i64 (getP l a size), .agg [.int .i64 (getE l a size), .int .i64 (getA l a size)]]) [] := by
  by_cases hbad : getBad l a size = true
  · have hb' := getBad_iff.1 hbad
    by_cases h1 : a < 0 ∨ a > (l.length : Int)
    · have h : FSpec CC 28 [.roi .u8 l, .int .i64 a, .int .i64 size] [] (.tup [.int .u64 (getN l a size), .int .i64 (getP l a size), .agg [.int .i64 (getE l a size), .int .i64 (getA l a size)]]) [none, none, some (.ints .i64 [5, 0] false)] := by
        refine spec0 (noS_ok CC) ccMix (g64_LS [] a size (by simp) rfl) ((g64_vc l [] a size 0 _).mpr ?_)
        simp only [getN, getP, getE, getA, hbad, if_true, if_pos h1]
        refine Br_split (fun h => by simp) fun h => Br_split (fun h => by simp) fun h2 => ?_
        simp at h h2; omega
      exact h.cut [] rfl
    · have h2 : (l.length : Int) - a < size := by omega
      have h : FSpec CC 28 [.roi .u8 l, .int .i64 a, .int .i64 size] [] (.tup [.int .u64 (getN l a size), .int .i64 (getP l a size), .agg [.int .i64 (getE l a size), .int .i64 (getA l a size)]]) [none, none, some (.ints .i64 [4, l.length] false)] := by
        refine spec0 (noS_ok CC) ccMix (g64_LS [] a size (by simp) rfl) ((g64_vc l [] a size 0 _).mpr ?_)
        simp only [getN, getP, getE, getA, hbad, if_true, if_neg h1, if_pos h2]
        refine Br_neg (by simp; omega) (Br_neg (by simp; omega) (Br_pos (by rw [wrap_i64 (by omega) (by omega)]; simpa using h2) (by simp)))
      exact h.cut [] rfl
  · have hg : getBad l a size = false := by simpa using hbad
    have hnb : ¬ (a < 0 ∨ a > (l.length : Int) ∨ (l.length : Int) - a < size) := fun e => hbad (getBad_iff.2 e)
    have hcut := get_cut hg (by omega)
    have h : FSpec CC 28 [.roi .u8 l, .int .i64 a, .int .i64 size] [] (.tup [.int .u64 (getN l a size), .int .i64 (getP l a size), .agg [.int .i64 (getE l a size), .int .i64 (getA l a size)]]) [none, none, some (.ints .i64 [0, 0] false)] := by
      refine spec0 (noS_ok CC) ccMix (g64_LS ((l.drop a.toNat).take size.toNat) a size (by simp; omega) (bsB_take (bsB_drop hb _) _)) ((g64_vc l _ a size _ _).mpr ?_)
      have w1 : IntKind.wrap .i64 ((l.length : Int) - a) = (l.length : Int) - a := wrap_i64 (by omega) (by omega)
      have w2 : IntKind.wrap .i64 (a + size) = a + size := wrap_i64 (by omega) (by omega)
      simp only [w1, w2, hcut, getN, getP, getE, getA, hbad, if_neg (show ¬ (a < 0 ∨ a > (l.length : Int)) by omega), if_neg (show ¬ (l.length : Int) - a < size by omega), Rq_iff, decide_eq_true_eq]
      exact Br_neg (by simp; omega) (Br_neg (by simp; omega) (Br_neg (by simp; omega) ⟨by omega, by omega, by omega, by simp⟩))
    exact h.cut [] rfl
def g64G (k : IntKind) : List AV → Option (AV × Hp × List Chk)
  | [b, .int k1 a, .int k2 s] => match roL .u8 b, k1, k2 with
    | some l, .i64, .i64 => some (.tup [.int k (getN l a s), .int .i64 (getP l a s), .agg [.int .i64 (getE l a s), .int .i64 (getA l a s)]], [], [.nle l.length 4611686018427387904, .tt (bsB l) true, .le 1 s, .le s (match k with | .u32 => 4 | _ => 8)])
    | _, _, _ => none
  | _ => none
theorem g64G_ok (args : List AV) (v : AV) (L : Hp) (cs : List Chk) (h : g64G .u64 args = some (v, L, cs)) (hc : oks cs) : FSpec CC 28 args [] v L := by
  unfold g64G at h
  split at h
  · split at h
    · rename_i hl
      cases h
      refine (g64_spec _ _ _ hc.1 hc.2.1 hc.2.2.1 hc.2.2.2.1).weak rfl fun φ w0 j u hj hv => ?_
      match j, hj with
      | 0, _ => exact roL_sound hl hv
      | 1, _ => exact hv
      | 2, _ => exact hv
    · cases h
  · cases h
theorem g32_LS (m : List Int) (a size : Int) (hm : m.length ≤ 4) (hb : bsB m = true) : LSOk CC 0 (g32L m a size (leN m)) (codeOf CC 30) := by
  refine LSOk_one (a := loopAt CC 30 1) 1 (by kernel_rfl) (fun i s hi => by simp [g32L, hi]) fun s t k h ht => ?_
  cases h
  obtain ⟨ho, hk⟩ := ht
  refine loop_block (noS_ok CC) ccMix (k := 0) (fuel := 60) (fun i => g32Hd m a size (leN (m.take i)) i) (fun i => i ≤ m.length) (fun i => m.length - i) (fun _ => noL) (fun _ _ => noL_ok CC 0 _)
    (P := fun o v => o = .normal ∧ v = g32Hd m a size (leN m) m.length) (fun i hi => ?_) ho (x := 0) (Nat.zero_le _) (Leads.of_eq rfl) ?_
  · refine (g32_round _ _ _ _ _ _).mpr ?_
    refine Br_split (fun h => ?_) (fun h => ?_)
    · have hlt : i < m.length := by simpa using h
      simp only [Rq_iff, decide_eq_true_eq, Int.toNat_natCast]
      have hbd := leN_bd (m.take i) (bsB_take hb i)
      have hlen : (m.take i).length = i := by simp; omega
      rw [hlen] at hbd
      have hg := bsB_getD hb i
      refine ⟨by omega, by omega, by rw [wrap_i64 (by omega) (by omega)]; omega, i + 1, hlt, by show m.length - (i + 1) < m.length - i; omega, Leads.of_eq ?_⟩
      rw [or_step32 (by omega) hbd.1 hbd.2 hg.1 hg.2, wrap_i64 (by omega) (by omega)]
      show _ = g32Hd m a size (leN (m.take (i + 1))) ((i + 1 : Nat) : Int)
      rw [leN_take m i hlt]
      rfl
    · have hge : ¬ i < m.length := by simpa using h
      have e : i = m.length := by omega
      subst e
      refine ⟨rfl, ?_⟩
      rw [List.take_of_length_le (Nat.le_refl _)]
      rfl
  · rintro o v ⟨rfl, rfl⟩
    exact hk
theorem g32_spec (l : List Int) (a size : Int) (hl : l.length ≤ 4611686018427387904) (hb : bsB l = true) (s1 : 1 ≤ size) (s8 : size ≤ 4) : FSpec CC 30 [.roi .u8 l, .int .i64 a, .int .i64 size] []
    (.tup [.int .u32 (getN l a size), .int .i64 (getP l a size), .agg [.int .i64 (getE l a size), .int .i64 (getA l a size)]]) [] := by
  by_cases hbad : getBad l a size = true
  · have hb' := getBad_iff.1 hbad
    by_cases h1 : a < 0 ∨ a > (l.length : Int)
    · have h : FSpec CC 30 [.roi .u8 l, .int .i64 a, .int .i64 size] [] (.tup [.int .u32 (getN l a size), .int .i64 (getP l a size), .agg [.int .i64 (getE l a size), .int .i64 (getA l a size)]]) [none, none, some (.ints .i64 [5, 0] false)] := by
        refine spec0 (noS_ok CC) ccMix (g32_LS [] a size (by simp) rfl) ((g32_vc l [] a size 0 _).mpr ?_)
        simp only [getN, getP, getE, getA, hbad, if_true, if_pos h1]
        refine Br_split (fun h => by simp) fun h => Br_split (fun h => by simp) fun h2 => ?_
        simp at h h2; omega
      exact h.cut [] rfl
    · have h2 : (l.length : Int) - a < size := by omega
      have h : FSpec CC 30 [.roi .u8 l, .int .i64 a, .int .i64 size] [] (.tup [.int .u32 (getN l a size), .int .i64 (getP l a size), .agg [.int .i64 (getE l a size), .int .i64 (getA l a size)]]) [none, none, some (.ints .i64 [4, l.length] false)] := by
        refine spec0 (noS_ok CC) ccMix (g32_LS [] a size (by simp) rfl) ((g32_vc l [] a size 0 _).mpr ?_)
        simp only [getN, getP, getE, getA, hbad, if_true, if_neg h1, if_pos h2]
        refine Br_neg (by simp; omega) (Br_neg (by simp; omega) (Br_pos (by rw [wrap_i64 (by omega) (by omega)]; simpa using h2) (by simp)))
      exact h.cut [] rfl
  · have hg : getBad l a size = false := by simpa using hbad
    have hnb : ¬ (a < 0 ∨ a > (l.length : Int) ∨ (l.length : Int) - a < size) := fun e => hbad (getBad_iff.2 e)
    have hcut := get_cut hg (by omega)
    have h : FSpec CC 30 [.roi .u8 l, .int .i64 a, .int .i64 size] [] (.tup [.int .u32 (getN l a size), .int .i64 (getP l a size), .agg [.int .i64 (getE l a size), .int .i64 (getA l a size)]]) [none, none, some (.ints .i64 [0, 0] false)] := by
      refine spec0 (noS_ok CC) ccMix (g32_LS ((l.drop a.toNat).take size.toNat) a size (by simp; omega) (bsB_take (bsB_drop hb _) _)) ((g32_vc l _ a size _ _).mpr ?_)
      have w1 : IntKind.wrap .i64 ((l.length : Int) - a) = (l.length : Int) - a := wrap_i64 (by omega) (by omega)
      have w2 : IntKind.wrap .i64 (a + size) = a + size := wrap_i64 (by omega) (by omega)
      simp only [w1, w2, hcut, getN, getP, getE, getA, hbad, if_neg (show ¬ (a < 0 ∨ a > (l.length : Int)) by omega), if_neg (show ¬ (l.length : Int) - a < size by omega), Rq_iff, decide_eq_true_eq]
      exact Br_neg (by simp; omega) (Br_neg (by simp; omega) (Br_neg (by simp; omega) ⟨by omega, by omega, by omega, by simp⟩))
    exact h.cut [] rfl
theorem g32G_ok (args : List AV) (v : AV) (L : Hp) (cs : List Chk) (h : g64G .u32 args = some (v, L, cs)) (hc : oks cs) : FSpec CC 30 args [] v L := by
  unfold g64G at h
  split at h
  · split at h
    · rename_i hl
      cases h
      refine (g32_spec _ _ _ hc.1 hc.2.1 hc.2.2.1 hc.2.2.2.1).weak rfl fun φ w0 j u hj hv => ?_
      match j, hj with
      | 0, _ => exact roL_sound hl hv
      | 1, _ => exact hv
      | 2, _ => exact hv
    · cases h
  · cases h
theorem rg_LS (l : List Int) (a size : Int) (hl : l.length ≤ 4611686018427387904) (hb : bsB l = true) (s1 : 1 ≤ size) (s8 : size ≤ 8) (n : Int) (hn : getBad l a size = false → n = leN ((l.drop a.toNat).take size.toNat)) : LSOk CC 0 (rgL l a size n (getBad l a size = false)) (codeOf CC 29) := by
  refine LSOk_one (a := loopAt CC 29 0) 0 (by kernel_rfl) (fun i s hi => by simp [rgL, hi]) fun s t k h ht => ?_
  cases h
  obtain ⟨ho, hg, hk⟩ := ht
  have hnb : ¬ (a < 0 ∨ a > (l.length : Int) ∨ (l.length : Int) - a < size) := fun e => by rw [getBad_iff.2 e] at hg; cases hg
  have hn := hn hg
  subst hn
  let m := (l.drop a.toNat).take size.toNat
  have hml : m.length = size.toNat := by simp [m]; omega
  have hmb : bsB m = true := bsB_take (bsB_drop hb _) _
  refine loop_block (noS_ok CC) ccMix (k := 0) (fuel := 60) (fun j => rgHd l a size (leN (m.drop (size.toNat - j))) (size - 1 - j)) (fun j => j ≤ size.toNat) (fun j => size.toNat - j) (fun _ => noL) (fun _ _ => noL_ok CC 0 _)
    (P := fun o v => o = .normal ∧ v = rgHd l a size (leN m) (-1)) (fun j hj => ?_) ho (x := 0) (Nat.zero_le _) (Leads.of_eq ?_) ?_
  · refine (rg_round _ _ _ _ _ _).mpr ?_
    refine Br_split (fun h => ?_) (fun h => ?_)
    · have hlt : j < size.toNat := by have : size - 1 - (j : Int) ≥ 0 := by simpa using h
                                      omega
      have w1 : IntKind.wrap .i64 (a + (size - 1 - j)) = a + (size - 1 - j) := wrap_i64 (by omega) (by omega)
      have w2 : IntKind.wrap .i64 (size - 1 - (j : Int) - 1) = size - 1 - ((j + 1 : Nat) : Int) := by rw [wrap_i64 (by omega) (by omega)]; omega
      simp only [w1, w2, Rq_iff, decide_eq_true_eq]
      refine ⟨by omega, by omega, j + 1, hlt, by show size.toNat - (j + 1) < size.toNat - j; omega, Leads.of_eq ?_⟩
      have hbd := leN_bd (m.drop (size.toNat - j)) (bsB_drop hmb _)
      have hdl : (m.drop (size.toNat - j)).length = j := by simp [hml]; omega
      rw [hdl] at hbd
      have hp := pow_bd (i := j) (by omega)
      have hg1 := bsB_getD hb ((a + (size - 1 - (j : Int))).toNat)
      have e1 : IntKind.wrap .u64 (256 * leN (m.drop (size.toNat - j))) = 256 * leN (m.drop (size.toNat - j)) := wrap_u64_id (by omega) (by omega)
      have e2 : IntKind.wrap .u64 (l.getD ((a + (size - 1 - (j : Int))).toNat) 0) = l.getD ((a + (size - 1 - (j : Int))).toNat) 0 := wrap_u64_id (by omega) (by omega)
      have e3 : IntKind.wrap .u64 (256 * leN (m.drop (size.toNat - j)) + l.getD ((a + (size - 1 - (j : Int))).toNat) 0) = 256 * leN (m.drop (size.toNat - j)) + l.getD ((a + (size - 1 - (j : Int))).toNat) 0 := wrap_u64_id (by omega) (by omega)
      rw [e1, e2, e3]
      have hidx : size.toNat - (j + 1) < m.length := by omega
      have e4 : m.drop (size.toNat - (j + 1)) = l.getD ((a + (size - 1 - (j : Int))).toNat) 0 :: m.drop (size.toNat - j) := by
        rw [List.drop_eq_getElem_cons hidx]
        congr 1
        · simp only [m, List.getElem_take, List.getElem_drop]
          rw [List.getD_eq_getElem?_getD, List.getElem?_eq_getElem (by omega)]
          simp only [Option.getD_some]
          congr 1
          omega
        · congr 1; omega
      show _ = rgHd l a size (leN (m.drop (size.toNat - (j + 1)))) (size - 1 - ((j + 1 : Nat) : Int))
      rw [e4]
      simp only [leN, rgHd, Int.add_comm]
    · have hge : ¬ (size - 1 - (j : Int) ≥ 0) := by simpa using h
      have e : j = size.toNat := by omega
      subst e
      refine ⟨rfl, ?_⟩
      have e5 : size - 1 - ((size.toNat : Nat) : Int) = -1 := by omega
      simp only [Nat.sub_self, List.drop_zero, e5]
      rfl
  · show rgHd l a size 0 (size - 1) = rgHd l a size (leN (m.drop (size.toNat - 0))) (size - 1 - ((0 : Nat) : Int))
    rw [List.drop_of_length_le (by omega)]
    simp [leN]
  · rintro o v ⟨rfl, rfl⟩
    exact hk
theorem rg_spec (l : List Int) (a size : Int) (hl : l.length ≤ 4611686018427387904) (hb : bsB l = true) (s1 : 1 ≤ size) (s8 : size ≤ 8) : FSpec CC 29 [.roi .u8 l, .int .i64 a, .int .i64 size] []
    (.tup [.int .u64 (getN l a size), .int .i64 (getP l a size), .agg [.int .i64 (getE l a size), .int .i64 (getA l a size)]]) [] := by
  by_cases hbad : getBad l a size = true
  · have hb' := getBad_iff.1 hbad
    by_cases h1 : a < 0 ∨ a > (l.length : Int)
    · have h : FSpec CC 29 [.roi .u8 l, .int .i64 a, .int .i64 size] [] (.tup [.int .u64 (getN l a size), .int .i64 (getP l a size), .agg [.int .i64 (getE l a size), .int .i64 (getA l a size)]]) [none, none, some (.ints .i64 [5, 0] false)] := by
        refine spec0 (noS_ok CC) ccMix (rg_LS l a size hl hb s1 s8 0 fun e => by rw [hbad] at e; cases e) ((rg_vc l a size 0 _ _).mpr ?_)
        simp only [getN, getP, getE, getA, hbad, if_true, if_pos h1]
        refine Br_split (fun h => by simp) fun h => Br_split (fun h => by simp) fun h2 => ?_
        simp at h h2; omega
      exact h.cut [] rfl
    · have h2 : (l.length : Int) - a < size := by omega
      have h : FSpec CC 29 [.roi .u8 l, .int .i64 a, .int .i64 size] [] (.tup [.int .u64 (getN l a size), .int .i64 (getP l a size), .agg [.int .i64 (getE l a size), .int .i64 (getA l a size)]]) [none, none, some (.ints .i64 [4, l.length] false)] := by
        refine spec0 (noS_ok CC) ccMix (rg_LS l a size hl hb s1 s8 0 fun e => by rw [hbad] at e; cases e) ((rg_vc l a size 0 _ _).mpr ?_)
        simp only [getN, getP, getE, getA, hbad, if_true, if_neg h1, if_pos h2]
        refine Br_neg (by simp; omega) (Br_neg (by simp; omega) (Br_pos (by rw [wrap_i64 (by omega) (by omega)]; simpa using h2) (by simp)))
      exact h.cut [] rfl
  · have hg : getBad l a size = false := by simpa using hbad
    have hnb : ¬ (a < 0 ∨ a > (l.length : Int) ∨ (l.length : Int) - a < size) := fun e => hbad (getBad_iff.2 e)
    have h : FSpec CC 29 [.roi .u8 l, .int .i64 a, .int .i64 size] [] (.tup [.int .u64 (getN l a size), .int .i64 (getP l a size), .agg [.int .i64 (getE l a size), .int .i64 (getA l a size)]]) [none, none, some (.ints .i64 [0, 0] false)] := by
      refine spec0 (noS_ok CC) ccMix (rg_LS l a size hl hb s1 s8 _ fun _ => rfl) ((rg_vc l a size _ _ _).mpr ?_)
      have w1 : IntKind.wrap .i64 ((l.length : Int) - a) = (l.length : Int) - a := wrap_i64 (by omega) (by omega)
      have w2 : IntKind.wrap .i64 (a + size) = a + size := wrap_i64 (by omega) (by omega)
      have w3 : IntKind.wrap .i64 (size - 1) = size - 1 := wrap_i64 (by omega) (by omega)
      simp only [w1, w2, w3, getN, getP, getE, getA, hbad, if_neg (show ¬ (a < 0 ∨ a > (l.length : Int)) by omega), if_neg (show ¬ (l.length : Int) - a < size by omega), Rq_iff, decide_eq_true_eq]
      exact Br_neg (by simp; omega) (Br_neg (by simp; omega) (Br_neg (by simp; omega) (by simp)))
    exact h.cut [] rfl
theorem rgG_ok (args : List AV) (v : AV) (L : Hp) (cs : List Chk) (h : g64G .u64 args = some (v, L, cs)) (hc : oks cs) : FSpec CC 29 args [] v L := by
  unfold g64G at h
  split at h
  · split at h
    · rename_i hl
      cases h
      refine (rg_spec _ _ _ hc.1 hc.2.1 hc.2.2.1 hc.2.2.2.1).weak rfl fun φ w0 j u hj hv => ?_
      match j, hj with
      | 0, _ => exact roL_sound hl hv
      | 1, _ => exact hv
      | 2, _ => exact hv
    · cases h
  · cases h
/-- The contracts of the numbers beside those before. -/
def SF : SpecW := listS SK [(26, roS layG), (27, roS rbG), (28, roS (g64G .u64)), (30, roS (g64G .u32)), (29, roS (g64G .u64))]
theorem SF_ok : SWok CC SF := listS_ok SK_ok ⟨roS_ok layG_ok, roS_ok rbG_ok, roS_ok g64G_ok, roS_ok g32G_ok, roS_ok rgG_ok, trivial⟩
end Go.Proofs.Ytmdkhdfckdkceaa.TdAm
