/- CrcXor, CrcBursts: their walks. -/
import Derived.Test.YtklcnffiplnifaaDoorCrcXV
import Derived.Test.YtklcnffiplnifaaDoorCrcM3
set_option linter.unusedVariables false
set_option linter.unusedSimpArgs false
set_option maxRecDepth 100000
namespace Go.Proofs.YtklcnffiplnifaaDoor.TdAm
open Go Go.RowKit

theorem x_LS (a b c : List Int) (n : Nat) (h1 : n ≤ a.length) (h2 : n ≤ b.length) (h3 : n ≤ c.length) : LSOk CC 0 (xL a b c n (xs3 a b c n) n (n ≤ 2000)) (codeOf CC 5) := by
  refine LSOk_one (a := loopAt CC 5 0) 0 (by kernel_rfl) (fun i s hi => by simp [xL, hi]) fun s t k h ht => ?_
  cases h
  obtain ⟨ho, hn, hk⟩ := ht
  refine loop_block (noS_ok CC) ccMix (k := 0) (fuel := 60) (fun i => xHd a b c (xs3 a b c i) n i i) (fun i => i ≤ n) (fun i => n - i) (fun _ => noL) (fun _ _ => noL_ok CC 0 _)
    (P := fun o v => o = .normal ∧ v = xHd a b c (xs3 a b c n) n n n) (fun i hi => ?_) ho (x := 0) (Nat.zero_le _) ?_ ?_
  · rw [x_round]
    refine Br_split (fun h => ?_) (fun h => ?_)
    · have hlt : i < n := by simpa using h
      simp only [Rq_iff, decide_eq_true_eq, Nat.ble_eq, xs3_len, Nat.mul_one, Int.toNat_natCast]
      refine ⟨by omega, by omega, by omega, by omega, by omega, by omega, by omega, by omega, i + 1, hlt, by show n - (i + 1) < n - i; omega, ?_⟩
      refine Leads.trans (v1 := ⟨64, [some (.roi .u8 a), some (.roi .u8 b), some (.roi .u8 c), some (.bool true), some (.int .i64 n), some (.sl 0 0 (i + 1) (i + 1) 1), some (.int .i64 ((i + 1 : Nat) : Int))], [some (.ints .u8 (xs3 a b c (i + 1)) true)], [16, 0, 18]⟩) (stV_obs (by decide) rfl (by simp)) (Leads.cut [18] ?_ fun b hb => by omega) (Leads.like rfl fun b hb => by omega)
      rw [List.take_of_length_le (by rw [xs3_len]; omega), wrap_i64 (by omega) (by omega), xs3_succ]
      rfl
    · have hge : ¬ i < n := by simpa using h
      have e : i = n := by omega
      subst e
      exact ⟨rfl, rfl⟩
  · refine Leads.trans (v1 := nilV 9 [0, 1, 2, 7, 8, 9, 10] .u8 1 (xIn a b c n)) (stV_obs (by decide) rfl (by simp [nilV, xIn])) (Leads.nil 9 .u8 1 rfl rfl) ?_
    refine Leads.trans (v1 := ⟨64, [some (.roi .u8 a), some (.roi .u8 b), some (.roi .u8 c), some (.bool true), some (.int .i64 n), some (.sl 0 0 0 0 1), some (.int .i64 0)], [some (.ints .u8 [] true)], [0]⟩) (stV_obs (by decide) rfl (by simp)) (Leads.cut [1] rfl fun b hb => by omega) (Leads.like rfl fun b hb => by omega)
  · rintro o v ⟨rfl, rfl⟩
    exact hk
def min3 (a b c : List Int) : Nat := min a.length (min b.length c.length)
theorem min3_eq (a b c : List Int) : List.foldl (fun (x y : Int) => if y < x then y else x) (a.length : Int) [(b.length : Int), (c.length : Int)] = (min3 a b c : Int) := by
  simp only [List.foldl_cons, List.foldl_nil, min3]
  split <;> split <;> omega
def xL1 (a b c : List Int) : LSpec := xL a b c (min3 a b c) (xs3 a b c (min3 a b c)) (min3 a b c) (min3 a b c ≤ 2000)
theorem x_LS1 (a b c : List Int) : LSOk CC 0 (xL1 a b c) (codeOf CC 5) := x_LS a b c (min3 a b c) (by unfold min3; omega) (by unfold min3; omega) (by unfold min3; omega)
theorem xor_law (a b c : List Int) (ha : isB a) (hb : isB b) (hc : isB c) : LawOk CC SC 100 (xL1 a b c) 5 [.roi .u8 a, .roi .u8 b, .roi .u8 c] := by
  refine ⟨?_⟩
  unfold xL1
  rw [x_vc]
  have h1 : min3 a b c ≤ a.length := by simp only [min3]; omega
  have h2 : min3 a b c ≤ b.length := by simp only [min3]; omega
  have h3 : min3 a b c ≤ c.length := by simp only [min3]; omega
  rw [min3_eq]
  generalize hn : min3 a b c = n at h1 h2 h3 ⊢
  refine Br_split (fun _ => rfl) fun h => ?_
  have hle : n ≤ 2000 := by have : ¬ ((n : Int) > 2000) := by simpa using h
                            omega
  have e1 : List.take n (xs3 a b c n) = xs3 a b c n := List.take_of_length_le (by rw [xs3_len]; omega)
  simp only [e1, xs3_len, Int.toNat_natCast, Nat.zero_add, Rq_iff, decide_eq_true_eq, Nat.ble_eq, List.length_take]
  have e2 : decide (crcMore 0 (xs3 a b c n) = bits .xor .u32 (bits .xor .u32 (crcMore 0 (a.take n)) (crcMore 0 (b.take n))) (crcMore 0 (c.take n))) = true := by
    simpa using crc_xs3 a b c ha hb hc n h1 h2 h3
  and_intros <;> first | omega | rfl | trivial | exact hle | (rw [e2])

def buG (l : List Int) (f mask : Int) : Prop := 4 ≤ l.length ∧ l.length ≤ 5000 ∧ 0 ≤ f ∧ f + 32 ≤ ((8 * l.length : Nat) : Int) ∧ 0 ≤ mask
theorem bu_LS (l : List Int) (f mask : Int) : LSOk CC 0 (buL l f mask (flips l f.toNat mask.toNat 32) (buG l f mask)) (codeOf CC 7) := by
  refine LSOk_one (a := loopAt CC 7 0) 0 (by kernel_rfl) (fun i s hi => by simp [buL, hi]) fun s t k h ht => ?_
  cases h
  obtain ⟨ho, ⟨hl4, hl, f0, hf, m0⟩, hk⟩ := ht
  obtain ⟨f, rfl⟩ : ∃ m : Nat, f = m := ⟨f.toNat, by omega⟩
  obtain ⟨mask, rfl⟩ : ∃ m : Nat, mask = m := ⟨mask.toNat, by omega⟩
  replace hf : f + 32 ≤ 8 * l.length := by omega
  rw [Int.toNat_natCast, Int.toNat_natCast] at hk
  refine loop_block (noS_ok CC) ccMix (k := 0) (fuel := 60) (fun i => buHd l (flips l f mask i) f mask i) (fun i => i ≤ 32) (fun i => 32 - i) (fun _ => noL) (fun _ _ => noL_ok CC 0 _)
    (P := fun o v => o = .normal ∧ v = buHd l (flips l f mask 32) f mask 32) (fun i hi => ?_) ho (x := 0) (Nat.zero_le _) ?_ ?_
  · rw [bu_round]
    refine Br_split (fun h => ?_) (fun h => ?_)
    · have hlt : i < 32 := by have : (i : Int) < 32 := by simpa using h
                              omega
      have w1 : IntKind.wrap .i64 ((i : Int) + 1) = ((i + 1 : Nat) : Int) := by rw [wrap_i64 (by omega) (by omega)]; omega
      have w2 : IntKind.wrap .i64 ((f : Int) + i) = ((f + i : Nat) : Int) := by rw [wrap_i64 (by omega) (by omega)]; omega
      have w3 : IntKind.wrap .i64 (Int.tdiv ((f + i : Nat) : Int) 8) = (((f + i) / 8 : Nat) : Int) := by
        rw [Int.tdiv_eq_ediv_of_nonneg (by omega), wrap_i64 (by omega) (by omega)]; omega
      have w4 : Int.tmod ((f + i : Nat) : Int) 8 = (((f + i) % 8 : Nat) : Int) := by
        rw [Int.tmod_eq_emod_of_nonneg (by omega)]; omega
      have w5 : (min (((f + i) % 8 : Nat) : Int).toNat 8) = (f + i) % 8 := by omega
      have w6 : (min (i : Int).toNat 32) = i := by omega
      have hcond : (Int.tmod (Int.fdiv (mask : Int) (2 ^ i)) 2 = 1) ↔ mask.testBit i = true := by
        rw [Int.fdiv_eq_ediv_of_nonneg _ (Int.pow_nonneg (by decide))]
        have : ((mask : Int) / (2 : Int) ^ i) = ((mask / 2 ^ i : Nat) : Int) := by simp
        rw [this, Int.tmod_eq_emod_of_nonneg (Int.natCast_nonneg _), Nat.testBit_eq_decide_div_mod_eq, decide_eq_true_eq]
        omega
      have w7 : IntKind.wrap .u8 ((1 : Int) * 2 ^ ((f + i) % 8)) = 2 ^ ((f + i) % 8) := by
        rw [Int.one_mul]
        have : ∀ k : Fin 8, IntKind.wrap .u8 ((2 : Int) ^ k.val) = 2 ^ k.val := by decide
        exact this ⟨_, by omega⟩
      simp only [w1, w2, w3, w4, w5, w6, w7]
      refine Rq_mk (by simp) (Br_split (fun h2 => ?_) fun h2 => ?_)
      · have hb : mask.testBit i = true := hcond.1 (by simpa using h2)
        simp only [Rq_iff, decide_eq_true_eq, Nat.ble_eq, Nat.blt_eq, flips_len, Nat.zero_add, Nat.mul_one, Int.toNat_natCast]
        refine ⟨by omega, by omega, by omega, by omega, by omega, by omega, by omega, i + 1, hlt, by show 32 - (i + 1) < 32 - i; omega, Leads.like ?_ fun b hb => by omega⟩
        simp only [buHd, flips, hb, if_true, flip]
      · have hb : ¬ mask.testBit i = true := fun e => by
          have := hcond.2 e
          rw [this] at h2; simp at h2
        refine ⟨i + 1, hlt, by show 32 - (i + 1) < 32 - i; omega, Leads.of_eq ?_⟩
        simp only [buHd, flips, hb, if_false]
        rfl
    · have hge : ¬ (i : Int) < 32 := by simpa using h
      have e : i = 32 := by omega
      subst e
      exact ⟨rfl, rfl⟩
  · refine Leads.trans (v1 := ⟨75, [some (.roi .u8 l), some (.int .i64 f), some (.int .u32 mask), some (.bool true), some (.sl 0 0 l.length l.length 1), some (.int .i64 0)], [some (.ints .u8 l true)], [0, 2]⟩) (stV_obs (by decide) rfl (by simp)) (Leads.cut [2] rfl fun b hb => by omega) (Leads.like rfl fun b hb => by omega)
  · rintro o v ⟨rfl, rfl⟩
    exact hk
def buL1 (l : List Int) (x mask : Int) : LSpec := buL l (pickI x ((8 * l.length : Nat) - 31)) mask (flips l (pickI x ((8 * l.length : Nat) - 31)).toNat mask.toNat 32) (buG l (pickI x ((8 * l.length : Nat) - 31)) mask)
theorem bu_LS1 (l : List Int) (x mask : Int) : LSOk CC 0 (buL1 l x mask) (codeOf CC 7) := bu_LS _ _ _
theorem burst_law (l : List Int) (x mask : Int) (hb : isB l) (m0 : 0 ≤ mask) (m1 : mask < 4294967296) : LawOk CC SC 100 (buL1 l x mask) 7 [.roi .u8 l, .int .i64 x, .int .u32 mask] := by
  refine ⟨?_⟩
  unfold buL1
  rw [bu_vc]
  refine Br_split (fun _ => rfl) fun h => Br_split (fun _ => rfl) fun h4 => Br_split (fun _ => rfl) fun hm => ?_
  have hle : l.length ≤ 5000 := by have : ¬ ((l.length : Int) > 5000) := by simpa using h
                                   omega
  have h4' : 4 ≤ l.length := by have : ¬ ((l.length : Int) < 4) := by simpa using h4
                                omega
  have hm' : mask ≠ 0 := by simpa using hm
  have w1 : IntKind.wrap .i64 (8 * (l.length : Int)) = ((8 * l.length : Nat) : Int) := by rw [wrap_i64 (by omega) (by omega)]; omega
  have w2 : IntKind.wrap .i64 (((8 * l.length : Nat) : Int) - 31) = ((8 * l.length : Nat) : Int) - 31 := wrap_i64 (by omega) (by omega)
  have hp := pickI_lt (x := x) (n := ((8 * l.length : Nat) : Int) - 31) (by omega)
  have ht : List.take l.length (flips l (pickI x (((8 * l.length : Nat) : Int) - 31)).toNat mask.toNat 32) = flips l (pickI x (((8 * l.length : Nat) : Int) - 31)).toNat mask.toNat 32 := List.take_of_length_le (by rw [flips_len]; omega)
  have hne := crc_flips hb (pickI x (((8 * l.length : Nat) : Int) - 31)).toNat mask.toNat (by omega) (by omega) (by omega)
  have hned : decide (crcMore 0 (flips l (pickI x (((8 * l.length : Nat) : Int) - 31)).toNat mask.toNat 32) = crcMore 0 l) = false := by simpa using hne
  simp only [w1, w2, ht, flips_len, hned, Bool.not_false, Rq_iff, decide_eq_true_eq, Nat.ble_eq, Nat.zero_add]
  and_intros <;> first | omega | rfl | trivial | exact ⟨h4', hle, by omega, by omega, m0⟩ | (refine ⟨by omega, by omega, by omega, ?_⟩; trivial)
end Go.Proofs.YtklcnffiplnifaaDoor.TdAm
namespace Go.Proofs.YtklcnffiplnifaaDoor.crcXor
open Go Go.RowKit Go.Proofs.YtklcnffiplnifaaDoor.TdAm
theorem row_isB {w : World} {a : Option Addr} {len cap : Nat} {z : List Int} (h : IsRow .u8 w a len cap z) : isB (z.take len) := by
  rcases h with ⟨_, rfl, _, rfl⟩ | ⟨x, _, _, _, _, _, hw⟩
  · intro b hb; simp at hb
  · exact fun b hb => wf_u8 (hw b (List.mem_of_mem_take hb))
theorem walk (w : World) (hL : laidMetH Tryd.prog laidD w) (a0 : Option Addr) (len0 cap0 : Nat) (z0 : List Int) (w0 : IsRow .u8 w a0 len0 cap0 z0) (s0 : len0 * 1 ≤ 140737488351232) (a1 : Option Addr) (len1 cap1 : Nat) (z1 : List Int) (w1 : IsRow .u8 w a1 len1 cap1 z1) (s1 : len1 * 1 ≤ 140737488351232)
    (a2 : Option Addr) (len2 cap2 : Nat) (z2 : List Int) (w2 : IsRow .u8 w a2 len2 cap2 z2) (s2 : len2 * 1 ≤ 140737488351232) : Calls Tryd.prog 5 #[.slice a0 len0 cap0, .slice a1 len1 cap1, .slice a2 len2 cap2] w fun e w' => e = .returned (.bool true) ∧ Below w.heap.size w w' := by
  have b0 := row_isB w0
  have b1 := row_isB w1
  have b2 := row_isB w2
  have r0 := w0.roi.2
  have r1 := w1.roi.2
  have r2 := w2.roi.2
  obtain ⟨a, e0⟩ : ∃ m, m = z0.take len0 := ⟨_, rfl⟩
  rw [← e0] at b0 r0
  obtain ⟨b, e1⟩ : ∃ m, m = z1.take len1 := ⟨_, rfl⟩
  rw [← e1] at b1 r1
  obtain ⟨c, e2⟩ : ∃ m, m = z2.take len2 := ⟨_, rfl⟩
  rw [← e2] at b2 r2
  have hx := xor_law a b c b0 b1 b2
  refine law_ok hx SC_ok ccMix (x_LS1 a b c) (ccGlob hL) rfl ?_
  intro j hj
  match j, hj with
  | 0, _ => exact r0
  | 1, _ => exact r1
  | 2, _ => exact r2
end Go.Proofs.YtklcnffiplnifaaDoor.crcXor
namespace Go.Proofs.YtklcnffiplnifaaDoor.crcBursts
open Go Go.RowKit Go.Proofs.YtklcnffiplnifaaDoor.TdAm
theorem walk (w : World) (hL : laidMetH Tryd.prog laidD w) (a0 : Option Addr) (len0 cap0 : Nat) (z0 : List Int) (w0 : IsRow .u8 w a0 len0 cap0 z0) (s0 : len0 * 1 ≤ 140737488351232) (a1 : Int) (w1 : (Lit.int .i64 a1).wf = true) (a2 : Int) (w2 : (Lit.int .u32 a2).wf = true) : Calls Tryd.prog 7 #[.slice a0 len0 cap0, .int .i64 a1, .int .u32 a2] w fun e w' => e = .returned (.bool true) ∧ Below w.heap.size w w' := by
  have hb := crcXor.row_isB w0
  have hm := wf_u32 w2
  generalize hz : z0.take len0 = l at hb
  have hx := burst_law l a1 a2 hb hm.1 hm.2
  have hr : RV (fun _ => none) w (.roi .u8 l) (.slice a0 len0 cap0) := hz ▸ w0.roi.2
  refine law_ok hx SC_ok ccMix (bu_LS1 l a1 a2) (ccGlob hL) rfl ?_
  intro j hj
  match j, hj with
  | 0, _ => exact hr
  | 1, _ => exact .int _ _
  | 2, _ => exact .int _ _
end Go.Proofs.YtklcnffiplnifaaDoor.crcBursts
