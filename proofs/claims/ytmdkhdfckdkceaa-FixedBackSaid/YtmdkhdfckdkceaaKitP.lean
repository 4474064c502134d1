/- The helpers of the statements: what they tell. -/
import Derived.Test.YtmdkhdfckdkceaaKitV
import Derived.Laws.Strings
namespace Go.Proofs.Ytmdkhdfckdkceaa.TdAm
open Go Go.RowKit
set_option linter.unusedVariables false
set_option linter.unusedSimpArgs false
set_option maxRecDepth 100000

/-! ### SameBytes -/
def sameB (l m : List Int) : Bool := (strOf l).toList == (strOf m).toList
theorem sameB_refl (l : List Int) : sameB l l = true := by simp [sameB]
theorem sameB_iff {l m : List Int} (hl : ∀ n ∈ l, 0 ≤ n ∧ n < 256) (hm : ∀ n ∈ m, 0 ≤ n ∧ n < 256) : sameB l m = true ↔ l = m := by
  constructor
  · intro h
    simp only [sameB, beq_iff_eq, ByteArray.toList_eq, strOf] at h
    have inj : ∀ (l m : List Int), (∀ n ∈ l, 0 ≤ n ∧ n < 256) → (∀ n ∈ m, 0 ≤ n ∧ n < 256) → l.map (fun n => UInt8.ofNat n.toNat) = m.map (fun n => UInt8.ofNat n.toNat) → l = m := by
      intro l
      induction l with
      | nil => intro m _ _ h; cases m with
        | nil => rfl
        | cons a r => simp at h
      | cons a r ih =>
        intro m hl hm h
        cases m with
        | nil => simp at h
        | cons b q =>
          simp only [List.map_cons, List.cons.injEq] at h
          have ha := hl a (by simp)
          have hb := hm b (by simp)
          have : a = b := by
            have := congrArg UInt8.toNat h.1
            simp at this
            omega
          rw [this, ih q (fun n hn => hl n (by simp [hn])) (fun n hn => hm n (by simp [hn])) h.2]
    exact inj l m hl hm (by simpa using h)
  · rintro rfl; exact sameB_refl _
theorem same_spec (l m : List Int) : FSpec CC 12 [.roi .u8 l, .roi .u8 m] [] (.bool (sameB l m)) [] :=
  spec0 (noS_ok CC) ccMix (noL_ok CC 0 _) ((same_vc l m _).mpr ⟨rfl, rfl⟩)
def sameG : List AV → Option (AV × Hp × List Chk)
  | [a, b] => match roL .u8 a, roL .u8 b with
    | some l, some m => some (.bool (sameB l m), [], [])
    | _, _ => none
  | _ => none
theorem sameG_ok (args : List AV) (v : AV) (L : Hp) (cs : List Chk) (h : sameG args = some (v, L, cs)) (hc : oks cs) : FSpec CC 12 args [] v L := by
  unfold sameG at h
  split at h
  · split at h
    · rename_i l m hl hm
      cases h
      refine (same_spec l m).weak rfl fun φ w0 j u hj hv => ?_
      match j, hj with
      | 0, _ => exact roL_sound hl hv
      | 1, _ => exact roL_sound hm hv
    · cases h
  · cases h

/-! ### CopyBytes -/
theorem copy_spec (l : List Int) (hl : l.length ≤ 35184372088832) : FSpec CC 25 [.roi .u8 l] [] (.sl 0 0 l.length l.length 1) [some (.ints .u8 l true)] := by
  have h : FSpec CC 25 [.roi .u8 l] [] (.sl 3 0 l.length l.length 1) [some .dead, none, none, some (.ints .u8 l true)] :=
    spec0 (noS_ok CC) ccMix (noL_ok CC 0 _) ((copy_vc l _).mpr (Rq_mk (by simp [Nat.ble_eq]; omega) ⟨by simp, rfl⟩))
  exact h.cut [3] rfl
def copyG : List AV → Option (AV × Hp × List Chk)
  | [a] => match roL .u8 a with
    | some l => some (.sl 0 0 l.length l.length 1, [some (.ints .u8 l true)], [.nle l.length 35184372088832])
    | none => none
  | _ => none
theorem copyG_ok (args : List AV) (v : AV) (L : Hp) (cs : List Chk) (h : copyG args = some (v, L, cs)) (hc : oks cs) : FSpec CC 25 args [] v L := by
  unfold copyG at h
  split at h
  · split at h
    · rename_i l hl
      cases h
      refine (copy_spec l hc.1).weak rfl fun φ w0 j u hj hv => ?_
      match j, hj with
      | 0, _ => exact roL_sound hl hv
    · cases h
  · cases h

/-! ### LentBytes -/
def lentMark (n j : Nat) : Int := (160 + ((n + j : Nat) : Int) % 90) % 256
def lentB (l : List Int) (j : Nat) : List Int := l ++ ((List.range 3).map fun i => if i < j then lentMark l.length i else 0)
theorem lentB_set (l : List Int) (j : Nat) (hj : j < 3) : (lentB l j).set (l.length + j) (lentMark l.length j) = lentB l (j + 1) := by
  unfold lentB
  rw [List.set_append_right _ _ (by omega)]
  congr 1
  rw [show l.length + j - l.length = j by omega]
  match j, hj with
  | 0, _ => rfl
  | 1, _ => rfl
  | 2, _ => rfl
theorem lentB_len (l : List Int) (j : Nat) : (lentB l j).length = l.length + 3 := by simp [lentB]
theorem lent_LS (l : List Int) (hl : l.length ≤ 140737488355325) : LSOk CC 0 (lentL l (lentB l 0) (lentB l 3)) (codeOf CC 17) := by
  refine LSOk_one (a := loopAt CC 17 0) 0 (by kernel_rfl) (fun i s hi => by simp [lentL, hi]) fun s t k h ht => ?_
  cases h
  obtain ⟨ho, hk⟩ := ht
  refine loop_block (noS_ok CC) ccMix (k := 0) (fuel := 60) (fun j => lentHd l (lentB l j) ((l.length + j : Nat) : Int) (l.length + 3)) (fun j => j ≤ 3) (fun j => 3 - j) (fun _ => noL) (fun _ _ => noL_ok CC 0 _)
    (P := fun o v => o = .normal ∧ v = lentHd l (lentB l 3) (l.length + 3) (l.length + 3)) (fun j hj => ?_) ho (x := 0) (Nat.zero_le _) (Leads.of_eq rfl) ?_
  · refine (lent_round l _ _ _ _).mpr ?_
    refine Br_split (fun h => ?_) (fun h => ?_)
    · have hlt : j < 3 := by have h' : ((l.length + j : Nat) : Int) < ((l.length + 3 : Nat) : Int) := by simpa using h
                             omega
      simp only [Rq_iff, decide_eq_true_eq, Nat.ble_eq, Nat.zero_add, Nat.mul_one, Int.toNat_natCast]
      refine ⟨by omega, by omega, by rw [lentB_len]; omega, j + 1, hlt, by show 3 - (j + 1) < 3 - j; omega, Leads.like ?_ fun b hb => by omega⟩
      have e : IntKind.wrap .u8 (IntKind.wrap .i64 (160 + Int.tmod ((l.length + j : Nat) : Int) 90)) = lentMark l.length j := by
        rw [Int.tmod_eq_emod_of_nonneg (by omega), wrap_i64 (by omega) (by omega), wrap_u8]; rfl
      rw [e, lentB_set l j hlt, wrap_i64 (by omega) (by omega)]
      simp only [lentHd]; congr 4
    · have hge : ¬ ((l.length + j : Nat) : Int) < ((l.length + 3 : Nat) : Int) := by simpa using h
      have : j = 3 := by omega
      subst this
      exact ⟨rfl, rfl⟩
  · rintro o v ⟨rfl, rfl⟩
    exact hk
def lentF (l : List Int) : List Int := lentB l 3
theorem lent_spec (l : List Int) (hl : l.length ≤ 140737488355325) : FSpec CC 17 [.roi .u8 l] [] (.sl 0 0 l.length (l.length + 3) 1) [some (.ints .u8 (lentF l) false)] := by
  have h : FSpec CC 17 [.roi .u8 l] [] (.sl 3 0 l.length (l.length + 3) 1) [none, none, none, some (.ints .u8 (lentF l) false)] := by
    refine spec0 (noS_ok CC) ccMix (lent_LS l hl) ((lent_vc l _ _ _).mpr ?_)
    have e : IntKind.wrap .i64 ((l.length : Int) + 3) = ((l.length + 3 : Nat) : Int) := by rw [wrap_i64 (by omega) (by omega)]; omega
    simp only [e, Rq_iff, decide_eq_true_eq, Nat.ble_eq, Nat.zero_add, Nat.mul_one, Int.toNat_natCast, List.length_replicate]
    refine ⟨by omega, by omega, by omega, by omega, ?_, by omega, by simp, by simp [lentF]⟩
    have hm : Nat.min l.length (l.length + 3) = l.length := Nat.min_eq_left (by omega)
    rw [hm]
    simp [lentHd, lentB, List.drop_replicate, List.take_of_length_le]
    rfl
  exact h.cut [3] rfl
def lentG : List AV → Option (AV × Hp × List Chk)
  | [a] => match roL .u8 a with
    | some l => some (.sl 0 0 l.length (l.length + 3) 1, [some (.ints .u8 (lentF l) false)], [.nle l.length 140737488355325])
    | none => none
  | _ => none
theorem lentG_ok (args : List AV) (v : AV) (L : Hp) (cs : List Chk) (h : lentG args = some (v, L, cs)) (hc : oks cs) : FSpec CC 17 args [] v L := by
  unfold lentG at h
  split at h
  · split at h
    · rename_i l hl
      cases h
      refine (lent_spec l hc.1).weak rfl fun φ w0 j u hj hv => ?_
      match j, hj with
      | 0, _ => exact roL_sound hl hv
    · cases h
  · cases h

/-- The contracts of the helpers. -/
def SK : SpecW := listS noS [
  (12, roS sameG),
  (25, roS copyG),
  (17, roS lentG),
  (1000000, fun _ _ => none)]
theorem SK_ok : SWok CC SK := listS_ok (noS_ok CC) ⟨
  roS_ok sameG_ok,
  roS_ok copyG_ok,
  roS_ok lentG_ok,
  (fun _ _ _ _ h => by cases h), trivial⟩
end Go.Proofs.Ytmdkhdfckdkceaa.TdAm
