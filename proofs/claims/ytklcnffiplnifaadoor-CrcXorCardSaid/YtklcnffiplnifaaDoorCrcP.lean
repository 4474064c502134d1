/- The checksum's functions: what they tell. -/
import Derived.Test.YtklcnffiplnifaaDoorCrcV
namespace Go.Proofs.YtklcnffiplnifaaDoor.TdAm
open Go Go.RowKit
set_option linter.unusedVariables false
set_option linter.unusedSimpArgs false
set_option maxRecDepth 100000

theorem more_LS (l : List Int) (x : Int) (hl : l.length ≤ 9223372036854775806) : LSOk CC 0 (moreL l x (l.foldl rnd x)) (codeOf CC 11) := by
  refine LSOk_one (a := loopAt CC 11 0) 0 (by kernel_rfl) (fun i s hi => by simp [moreL, hi]) fun s t k h ht => ?_
  cases h
  obtain ⟨ho, hk⟩ := ht
  refine loop_block (noS_ok CC) ccMix (k := 0) (fuel := 60) (fun i => moreHd l ((l.take i).foldl rnd x) i) (fun i => i ≤ l.length) (fun i => l.length - i) (fun _ => noL) (fun _ _ => noL_ok CC 0 _)
    (P := fun o v => o = .normal ∧ v = moreHd l (l.foldl rnd x) l.length) (fun i hi => ?_) ho (x := 0) (Nat.zero_le _) (Leads.of_eq rfl) ?_
  · refine (more_round _ _ l _).mpr ?_
    refine Br_split (fun h => ?_) (fun h => ?_)
    · have hlt : i < l.length := by simpa using h
      simp only [Rq_iff, decide_eq_true_eq, Nat.blt_eq, Nat.zero_add, Nat.mul_one, Int.toNat_natCast]
      have a1 := and15 (bits .xor .u32 ((l.take i).foldl rnd x) (IntKind.wrap .u32 (l.getD i 0)))
      have a2 := and15 (t4 (bits .xor .u32 ((l.take i).foldl rnd x) (IntKind.wrap .u32 (l.getD i 0))))
      refine ⟨by omega, by omega, a1.2, ?_, a2.2, ?_, ?_⟩
      · omega
      · unfold t4 at a2; omega
      · refine ⟨i + 1, hlt, by show l.length - (i + 1) < l.length - i; omega, Leads.of_eq ?_⟩
        rw [wrap_i64 (by omega) (by omega)]
        show _ = moreHd l ((l.take (i + 1)).foldl rnd x) ((i + 1 : Nat) : Int)
        rw [foldl_take rnd 0 l x i hlt]
        rfl
    · have hge : ¬ i < l.length := by simpa using h
      have : i = l.length := by omega
      subst this
      refine ⟨rfl, ?_⟩
      rw [List.take_of_length_le (Nat.le_refl _)]
      rfl
  · rintro o v ⟨rfl, rfl⟩
    exact hk

theorem more_spec (sum : Int) (l : List Int) (hl : l.length ≤ 9223372036854775806) : FSpec CC 11 [.int .u32 sum, .roi .u8 l] [] (.int .u32 (crcMore sum l)) [] :=
  spec0 (noS_ok CC) ccMix (more_LS l (bits .xor .u32 sum 4294967295) hl) ((more_fun _ _ sum l _).mpr ⟨rfl, rfl, rfl⟩)
def moreG : List AV → Option (AV × Hp × List Chk)
  | [.int k sum, v] => match k, roL .u8 v with
    | .u32, some l => some (.int .u32 (crcMore sum l), [], [.nle l.length 9223372036854775806])
    | _, _ => none
  | _ => none
theorem moreG_ok (args : List AV) (v : AV) (L : Hp) (cs : List Chk) (h : moreG args = some (v, L, cs)) (hc : oks cs) : FSpec CC 11 args [] v L := by
  unfold moreG at h
  split at h
  · split at h
    · rename_i l hl
      cases h
      refine (more_spec _ l hc.1).weak rfl fun φ w0 j u hj hv => ?_
      match j, hj with
      | 0, _ => exact hv
      | 1, _ => exact roL_sound hl hv
    · cases h
  · cases h
theorem rin_LS (l : List Int) (c i : Int) : LSOk CC 0 (rInL l c (refShs 8 c) i) (loopAt CC 17 0) := by
  refine LSOk_one (a := loopAt CC 17 2) 2 (by kernel_rfl) (fun i s hi => by simp [rInL, hi]) fun s t k h ht => ?_
  cases h
  obtain ⟨ho, hk⟩ := ht
  refine loop_block (noS_ok CC) ccMix (k := 0) (fuel := 60) (fun j => rInHd l (refShs j c) i j) (fun j => j ≤ 8) (fun j => 8 - j) (fun _ => noL) (fun _ _ => noL_ok CC 0 _)
    (P := fun o v => o = .normal ∧ v = rInHd l (refShs 8 c) i 8) (fun j hj => ?_) ho (x := 0) (Nat.zero_le _) (Leads.of_eq rfl) ?_
  · refine (rin_round _ _ _ l _).mpr ?_
    refine Br_split (fun h => ?_) (fun h => ?_)
    · have hlt : j < 8 := by have : (j : Int) < 8 := by simpa using h
                             omega
      rw [wrap_i64 (by omega) (by omega)]
      refine Br_split (fun h2 => ?_) (fun h2 => ?_)
      · refine ⟨j + 1, hlt, by show 8 - (j + 1) < 8 - j; omega, Leads.of_eq ?_⟩
        have h3 : Int.tmod (refShs j c) 2 = 1 := by simpa using h2
        simp only [rInHd, refShs, refSh, if_pos h3]
        rfl
      · refine ⟨j + 1, hlt, by show 8 - (j + 1) < 8 - j; omega, Leads.of_eq ?_⟩
        have h3 : ¬ Int.tmod (refShs j c) 2 = 1 := by simpa using h2
        simp only [rInHd, refShs, refSh, if_neg h3]
        rfl
    · have hge : ¬ (j : Int) < 8 := by simpa using h
      have : j = 8 := by omega
      subst this
      exact ⟨rfl, rfl⟩
  · rintro o v ⟨rfl, rfl⟩
    exact hk
theorem r_LS (l : List Int) (x : Int) (hl : l.length ≤ 9223372036854775806) : LSOk CC 0 (rL l x (l.foldl refRnd x)) (codeOf CC 17) := by
  refine LSOk_one (a := loopAt CC 17 0) 0 (by kernel_rfl) (fun i s hi => by simp [rL, hi]) fun s t k h ht => ?_
  cases h
  obtain ⟨ho, hk⟩ := ht
  let cx : Nat → Int := fun i => (l.take i).foldl refRnd x
  let c1 : Nat → Int := fun i => bits .xor .u32 (cx i) (IntKind.wrap .u32 (l.getD i 0))
  refine loop_block (noS_ok CC) ccMix (k := 0) (fuel := 60) (fun i => rHd l (cx i) i) (fun i => i ≤ l.length) (fun i => l.length - i) (fun i => rInL l (c1 i) (refShs 8 (c1 i)) i) (fun i _ => rin_LS l (c1 i) i)
    (P := fun o v => o = .normal ∧ v = rHd l (l.foldl refRnd x) l.length) (fun i hi => ?_) ho (x := 0) (Nat.zero_le _) (Leads.of_eq rfl) ?_
  · refine (r_round _ _ _ _ l _).mpr ?_
    refine Br_split (fun h => ?_) (fun h => ?_)
    · have hlt : i < l.length := by simpa using h
      simp only [Rq_iff, decide_eq_true_eq, Nat.blt_eq, Nat.zero_add, Nat.mul_one, Int.toNat_natCast]
      refine ⟨by omega, by omega, rfl, i + 1, hlt, by show l.length - (i + 1) < l.length - i; omega, Leads.of_eq ?_⟩
      rw [wrap_i64 (by omega) (by omega)]
      show _ = rHd l ((l.take (i + 1)).foldl refRnd x) ((i + 1 : Nat) : Int)
      rw [foldl_take refRnd 0 l x i hlt]
      rfl
    · have hge : ¬ i < l.length := by simpa using h
      have : i = l.length := by omega
      subst this
      refine ⟨rfl, ?_⟩
      simp only [cx]
      rw [List.take_of_length_le (Nat.le_refl _)]
      rfl
  · rintro o v ⟨rfl, rfl⟩
    exact hk
theorem rmore_spec (sum : Int) (l : List Int) (hl : l.length ≤ 9223372036854775806) : FSpec CC 17 [.int .u32 sum, .roi .u8 l] [] (.int .u32 (crcMore sum l)) [] :=
  spec0 (noS_ok CC) ccMix (r_LS l (bits .xor .u32 sum 4294967295) hl) ((r_fun _ _ sum l _).mpr ⟨rfl, by rw [refMore_eq], rfl⟩)
theorem rmoreG_ok (args : List AV) (v : AV) (L : Hp) (cs : List Chk) (h : moreG args = some (v, L, cs)) (hc : oks cs) : FSpec CC 17 args [] v L := by
  unfold moreG at h
  split at h
  · split at h
    · rename_i l hl
      cases h
      refine (rmore_spec _ l hc.1).weak rfl fun φ w0 j u hj hv => ?_
      match j, hj with
      | 0, _ => exact hv
      | 1, _ => exact roL_sound hl hv
    · cases h
  · cases h
/-- The contracts of the checksum beside those of the helpers. -/
def SC : SpecW := addS (addS SK 11 (roS moreG)) 17 (roS moreG)
theorem SC_ok : SWok CC SC := addS_ok (addS_ok SK_ok fun args H t k h ht => roS_sound moreG_ok h ht) fun args H t k h ht => roS_sound rmoreG_ok h ht
end Go.Proofs.YtklcnffiplnifaaDoor.TdAm
