/- Put and Get: what they tell. -/
import Derived.Test.YtmdkhdfckdkceaaFixV2
namespace Go.Proofs.Ytmdkhdfckdkceaa.TdAm
open Go Go.RowKit
set_option linter.unusedVariables false
set_option linter.unusedSimpArgs false
set_option maxRecDepth 100000

def sizeOk (s : Int) : Bool := decide (1 ≤ s) && decide (s ≤ 7)
def putOk (n s : Int) : Bool := sizeOk s && decide (0 ≤ n) && decide (n < 256 ^ s.toNat)
def putE (n s : Int) : Int := if sizeOk s = true then 5 else 2
theorem sizeOk_iff {s : Int} : sizeOk s = true ↔ 1 ≤ s ∧ s ≤ 7 := by simp [sizeOk]
theorem putOk_iff {n s : Int} : putOk n s = true ↔ (1 ≤ s ∧ s ≤ 7) ∧ 0 ≤ n ∧ n < 256 ^ s.toNat := by simp [putOk, sizeOk_iff, and_assoc]
theorem fdiv_zero {n s : Int} (h0 : 0 ≤ n) (s1 : 1 ≤ s) (s7 : s ≤ 7) : Int.fdiv n (2 ^ min (IntKind.wrap .i64 (8 * s)).toNat 64) = 0 ↔ n < 256 ^ s.toNat := by
  rw [wrap_i64 (by omega) (by omega)]
  have e1 : min (8 * s).toNat 64 = 8 * s.toNat := by omega
  have e2 : (2 : Int) ^ (8 * s.toNat) = 256 ^ s.toNat := by rw [Int.pow_mul]; rfl
  have hp := pow_bd (i := s.toNat) (by omega)
  rw [e1, e2, Int.fdiv_eq_ediv_of_nonneg _ (by omega)]
  constructor
  · intro h
    have := Int.lt_ediv_add_one_mul_self n (b := 256 ^ s.toNat) (by omega)
    rw [h] at this; omega
  · exact fun h => Int.ediv_eq_zero_of_lt h0 h
/-- What both ask. -/
theorem put_goal {n size : Int} (hn : n ≤ 9223372036854775807) (P : Post) (h1 : putOk n size = true → P (.tup [.sl 3 0 size.toNat size.toNat 1, .int .i64 0]) [none, none, none, some (.ints .u8 (leB n size.toNat) true)] [3])
    (h2 : putOk n size = false → P (.tup [.nils, .int .i64 (putE n size)]) [] []) :
    (Br (decide (size < (1 : Int))) (P (AV.tup [AV.nils, AV.int IntKind.i64 (2 : Int)]) [] [])
      (Br (decide (size > (7 : Int))) (P (AV.tup [AV.nils, AV.int IntKind.i64 (2 : Int)]) [] [])
        (Br (decide (n < (0 : Int))) (P (AV.tup [AV.nils, AV.int IntKind.i64 (5 : Int)]) [] [])
          (Rq (decide ((0 : Int) ≤ IntKind.wrap IntKind.i64 ((8 : Int) * size)))
            (Br (!decide (Int.fdiv n ((2 : Int) ^ min (Int.toNat (IntKind.wrap IntKind.i64 ((8 : Int) * size))) (64 : Nat)) = (0 : Int))) (P (AV.tup [AV.nils, AV.int IntKind.i64 (5 : Int)]) [] [])
              (decide (0 ≤ IntKind.wrap IntKind.u64 n) = true ∧ IntKind.wrap IntKind.u64 n < (18446744073709551616 : Int) ∧ 1 ≤ size ∧ size ≤ 8 ∧ P (AV.tup [AV.sl (3 : Nat) (0 : Nat) (Int.toNat size) (Int.toNat size) (1 : Nat), AV.int IntKind.i64 (0 : Int)]) [none, none, none, some (Blk.ints IntKind.u8 (leB (IntKind.wrap IntKind.u64 n) (Int.toNat size)) true)] [(3 : Nat)])))))) := by
  have no : ∀ e, putOk n size = false → putE n size = e → P (.tup [.nils, .int .i64 e]) [] [] := fun e h he => he ▸ h2 h
  refine Br_split (fun h => ?_) fun h => Br_split (fun h' => ?_) fun h' => Br_split (fun h3 => ?_) fun h3 => ?_
  · simp at h
    have hs : sizeOk size = false := by simp [sizeOk]; omega
    exact no 2 (by simp [putOk, hs]) (by simp [putE, hs])
  · simp at h'
    have hs : sizeOk size = false := by simp [sizeOk]; omega
    exact no 2 (by simp [putOk, hs]) (by simp [putE, hs])
  · simp at h h' h3
    have hs : sizeOk size = true := sizeOk_iff.2 ⟨by omega, by omega⟩
    exact no 5 (by simp [putOk, hs]; omega) (by simp [putE, hs])
  · simp at h h' h3
    have hs : sizeOk size = true := sizeOk_iff.2 ⟨by omega, by omega⟩
    refine Rq_mk (by rw [wrap_i64 (by omega) (by omega)]; simp; omega) (Br_split (fun h4 => ?_) fun h4 => ?_)
    · simp only [Bool.not_eq_true', decide_eq_false_iff_not] at h4
      rw [fdiv_zero h3 (by omega) (by omega)] at h4
      exact no 5 (by simp [putOk, hs, h4]) (by simp [putE, hs])
    · simp only [Bool.not_eq_false', decide_eq_true_eq] at h4
      rw [fdiv_zero h3 (by omega) (by omega)] at h4
      have e : IntKind.wrap .u64 n = n := wrap_u64_id (by omega) (by omega)
      rw [e]
      exact ⟨by simpa using h3, by omega, by omega, by omega, h1 (putOk_iff.2 ⟨⟨by omega, by omega⟩, h3, h4⟩)⟩
def putS : GS := fun args H => match args, H with
  | [.int k n, .int k' s], [] => match k, k' with
    | .i64, .i64 => some fun P => Rq (decide (n ≤ 9223372036854775807)) (Br (putOk n s) (P (.tup [.sl 0 0 s.toNat s.toNat 1, .int .i64 0]) [some (.ints .u8 (leB n s.toNat) true)] []) (P (.tup [.nils, .int .i64 (putE n s)]) [] []))
    | _, _ => none
  | _, _ => none
theorem put_ok (f : FuncId) (hf : ∀ n s : Int, n ≤ 9223372036854775807 → (putOk n s = true → FSpec CC f [.int .i64 n, .int .i64 s] [] (.tup [.sl 0 0 s.toNat s.toNat 1, .int .i64 0]) [some (.ints .u8 (leB n s.toNat) true)]) ∧ (putOk n s = false → FSpec CC f [.int .i64 n, .int .i64 s] [] (.tup [.nils, .int .i64 (putE n s)]) []))
    (args : List AV) (H : Hp) (t : Post → Prop) (k : Post) (h : putS args H = some t) (ht : t k) : ∃ v L wr, GoodCall CC f args H v L wr ∧ k v L wr := by
  unfold putS at h
  split at h
  · rename_i k1 n k2 s
    split at h
    · cases h
      obtain ⟨hn, ht⟩ := Rq_iff.1 ht
      have hn : n ≤ 9223372036854775807 := by simpa using hn
      cases hp : putOk n s with
      | true => rw [hp] at ht; exact ⟨_, _, [], ⟨(hf n s hn).1 hp, Nat.zero_le _, fun b hb => by simp at hb⟩, ht⟩
      | false => rw [hp] at ht; exact ⟨_, _, [], ⟨(hf n s hn).2 hp, Nat.zero_le _, fun b hb => by simp at hb⟩, ht⟩
    · cases h
  · cases h
theorem put_spec (n s : Int) (hn : n ≤ 9223372036854775807) : (putOk n s = true → FSpec CC 8 [.int .i64 n, .int .i64 s] [] (.tup [.sl 0 0 s.toNat s.toNat 1, .int .i64 0]) [some (.ints .u8 (leB n s.toNat) true)]) ∧ (putOk n s = false → FSpec CC 8 [.int .i64 n, .int .i64 s] [] (.tup [.nils, .int .i64 (putE n s)]) []) := by
  have key : ∀ v K, (putOk n s = true → v = .tup [.sl 3 0 s.toNat s.toNat 1, .int .i64 0] ∧ K = [none, none, none, some (.ints .u8 (leB n s.toNat) true)]) → (putOk n s = false → v = .tup [.nils, .int .i64 (putE n s)] ∧ K = []) → FSpec CC 8 [.int .i64 n, .int .i64 s] [] v K := by
    intro v K h1 h2
    refine spec0 (n := 60) (L := noL) SF_ok ccMix (noL_ok CC 0 _) ?_
    rw [put_vc]
    have g := put_goal (size := s) hn (fun v' K' _ => v' = v ∧ K' = K) (fun h => ⟨(h1 h).1.symm, (h1 h).2.symm⟩) (fun h => ⟨(h2 h).1.symm, (h2 h).2.symm⟩)
    simp only [Br_iff, Rq_iff] at g ⊢
    refine ⟨g.1, fun a => ⟨(g.2 a).1, fun b => ⟨((g.2 a).2 b).1, fun c => ?_⟩⟩⟩
    obtain ⟨p, q, r⟩ := ((g.2 a).2 b).2 c
    refine ⟨p, q, fun d => ?_⟩
    obtain ⟨e1, e2, e3, e4, e5⟩ := r d
    exact ⟨e1, by simp; omega, by simp; omega, e5⟩
  exact ⟨fun h => FSpec.cut [3] (key _ _ (fun _ => ⟨rfl, rfl⟩) fun e => by rw [h] at e; cases e) rfl, fun h => key _ _ (fun e => by rw [h] at e; cases e) fun _ => ⟨rfl, rfl⟩⟩
theorem rput_spec (n s : Int) (hn : n ≤ 9223372036854775807) : (putOk n s = true → FSpec CC 9 [.int .i64 n, .int .i64 s] [] (.tup [.sl 0 0 s.toNat s.toNat 1, .int .i64 0]) [some (.ints .u8 (leB n s.toNat) true)]) ∧ (putOk n s = false → FSpec CC 9 [.int .i64 n, .int .i64 s] [] (.tup [.nils, .int .i64 (putE n s)]) []) := by
  have key : ∀ v K, (putOk n s = true → v = .tup [.sl 3 0 s.toNat s.toNat 1, .int .i64 0] ∧ K = [none, none, none, some (.ints .u8 (leB n s.toNat) true)]) → (putOk n s = false → v = .tup [.nils, .int .i64 (putE n s)] ∧ K = []) → FSpec CC 9 [.int .i64 n, .int .i64 s] [] v K := by
    intro v K h1 h2
    refine spec0 (n := 60) (L := noL) SF_ok ccMix (noL_ok CC 0 _) ?_
    rw [rput_vc]
    have g := put_goal (size := s) hn (fun v' K' _ => v' = v ∧ K' = K) (fun h => ⟨(h1 h).1.symm, (h1 h).2.symm⟩) (fun h => ⟨(h2 h).1.symm, (h2 h).2.symm⟩)
    simp only [Br_iff, Rq_iff] at g ⊢
    refine ⟨g.1, fun a => ⟨(g.2 a).1, fun b => ⟨((g.2 a).2 b).1, fun c => ?_⟩⟩⟩
    obtain ⟨p, q, r⟩ := ((g.2 a).2 b).2 c
    refine ⟨p, q, fun d => ?_⟩
    obtain ⟨e1, e2, e3, e4, e5⟩ := r d
    exact ⟨e1, by simp; omega, by simp; omega, by simp; omega, e5⟩
  exact ⟨fun h => FSpec.cut [3] (key _ _ (fun _ => ⟨rfl, rfl⟩) fun e => by rw [h] at e; cases e) rfl, fun h => key _ _ (fun e => by rw [h] at e; cases e) fun _ => ⟨rfl, rfl⟩⟩

/-! ### Get -/
def gN (l : List Int) (a s : Int) : Int := if sizeOk s = true then getN l a s else 0
def gP (l : List Int) (a s : Int) : Int := if sizeOk s = true then getP l a s else 0
def gE (l : List Int) (a s : Int) : Int := if sizeOk s = true then getE l a s else 2
def gA (l : List Int) (a s : Int) : Int := if sizeOk s = true then getA l a s else 0
theorem getN_bd {l : List Int} {a s : Int} (hb : bsB l = true) (s0 : 0 ≤ s) : 0 ≤ getN l a s ∧ getN l a s < 256 ^ s.toNat := by
  unfold getN
  have hp : (0 : Int) < 256 ^ s.toNat := Int.pow_pos (by decide)
  split
  · exact ⟨by omega, hp⟩
  · rename_i h
    have hnb : ¬ (a < 0 ∨ a > (l.length : Int) ∨ (l.length : Int) - a < s) := fun e => h (getBad_iff.2 e)
    have := leN_bd ((l.drop a.toNat).take s.toNat) (bsB_take (bsB_drop hb _) _)
    have e : ((l.drop a.toNat).take s.toNat).length = s.toNat := by simp; omega
    rw [e] at this
    exact this
def getG : List AV → Option (AV × Hp × List Chk)
  | [b, .int k1 a, .int k2 s] => match roL .u8 b, k1, k2 with
    | some l, .i64, .i64 => some (.tup [.int .i64 (gN l a s), .int .i64 (gP l a s), .agg [.int .i64 (gE l a s), .int .i64 (gA l a s)]], [], [.nle l.length 4611686018427387904, .tt (bsB l) true])
    | _, _, _ => none
  | _ => none
theorem get_goal {l : List Int} {a size : Int} (hl : l.length ≤ 4611686018427387904) (hb : bsB l = true) {v : AV} (hv : v = .tup [.int .i64 (gN l a size), .int .i64 (gP l a size), .agg [.int .i64 (gE l a size), .int .i64 (gA l a size)]]) (P : AV → Hp → Prop)
    (h1 : sizeOk size = false → P v [none, none, some (Blk.ints IntKind.i64 [(2 : Int), (0 : Int)] false)])
    (h2 : sizeOk size = true → P v [none, none, some (Blk.ints IntKind.i64 [getE l a size, getA l a size] false), none, none, none, none, none, none, none, none, some (Blk.ints IntKind.i64 [getE l a size, getA l a size] false)]) :
    (Br (decide (size < (1 : Int))) (P (AV.tup [AV.int IntKind.i64 (0 : Int), AV.int IntKind.i64 (0 : Int), AV.agg [AV.int IntKind.i64 (2 : Int), AV.int IntKind.i64 (0 : Int)]]) [none, none, some (Blk.ints IntKind.i64 [(2 : Int), (0 : Int)] false)])
      (Br (decide (size > (7 : Int))) (P (AV.tup [AV.int IntKind.i64 (0 : Int), AV.int IntKind.i64 (0 : Int), AV.agg [AV.int IntKind.i64 (2 : Int), AV.int IntKind.i64 (0 : Int)]]) [none, none, some (Blk.ints IntKind.i64 [(2 : Int), (0 : Int)] false)])
        (Rq (Nat.ble (List.length l) (4611686018427387904 : Nat))
          (Rq (bsB l == true)
            (Rq (decide ((1 : Int) ≤ size))
              (Rq (decide (size ≤ (8 : Int)))
                (P (AV.tup [AV.int IntKind.i64 (IntKind.wrap IntKind.i64 (getN l a size)), AV.int IntKind.i64 (getP l a size), AV.agg [AV.int IntKind.i64 (getE l a size), AV.int IntKind.i64 (getA l a size)]]) [none, none, some (Blk.ints IntKind.i64 [getE l a size, getA l a size] false), none, none, none, none, none, none, none, none, some (Blk.ints IntKind.i64 [getE l a size, getA l a size] false)]))))))) := by
  subst hv
  refine Br_split (fun h => ?_) fun h => Br_split (fun h' => ?_) fun h' => ?_
  · simp at h
    have hs : sizeOk size = false := by simp [sizeOk]; omega
    have := h1 hs
    simpa [gN, gP, gE, gA, hs] using this
  · simp at h'
    have hs : sizeOk size = false := by simp [sizeOk]; omega
    have := h1 hs
    simpa [gN, gP, gE, gA, hs] using this
  · simp at h h'
    have hs : sizeOk size = true := sizeOk_iff.2 ⟨by omega, by omega⟩
    have := h2 hs
    have hbd := getN_bd (a := a) (s := size) hb (by omega)
    have hp := pow_bd (i := size.toNat) (by omega)
    rw [wrap_i64 (by omega) (by omega)]
    simp only [gN, gP, gE, gA, hs, if_true] at this
    exact Rq_mk (Nat.ble_eq.mpr hl) (Rq_mk (by simp [hb]) (Rq_mk (by simp; omega) (Rq_mk (by simp; omega) this)))
theorem get_spec (l : List Int) (a size : Int) (hl : l.length ≤ 4611686018427387904) (hb : bsB l = true) : FSpec CC 18 [.roi .u8 l, .int .i64 a, .int .i64 size] [] (.tup [.int .i64 (gN l a size), .int .i64 (gP l a size), .agg [.int .i64 (gE l a size), .int .i64 (gA l a size)]]) [] := by
  have key : ∀ K, (sizeOk size = false → K = [none, none, some (Blk.ints IntKind.i64 [(2 : Int), (0 : Int)] false)]) → (sizeOk size = true → K = [none, none, some (Blk.ints IntKind.i64 [getE l a size, getA l a size] false), none, none, none, none, none, none, none, none, some (Blk.ints IntKind.i64 [getE l a size, getA l a size] false)]) →
      FSpec CC 18 [.roi .u8 l, .int .i64 a, .int .i64 size] [] (.tup [.int .i64 (gN l a size), .int .i64 (gP l a size), .agg [.int .i64 (gE l a size), .int .i64 (gA l a size)]]) K := by
    intro K h1 h2
    refine spec0 (n := 60) (L := noL) SF_ok ccMix (noL_ok CC 0 _) ?_
    rw [get_vc]
    exact get_goal hl hb rfl (fun v' K' => v' = _ ∧ K' = K) (fun h => ⟨rfl, (h1 h).symm⟩) (fun h => ⟨rfl, (h2 h).symm⟩)
  cases hs : sizeOk size with
  | true => exact FSpec.cut [] (key _ (fun e => by rw [hs] at e; cases e) fun _ => rfl) rfl
  | false => exact FSpec.cut [] (key _ (fun _ => rfl) fun e => by rw [hs] at e; cases e) rfl
theorem rget_spec (l : List Int) (a size : Int) (hl : l.length ≤ 4611686018427387904) (hb : bsB l = true) : FSpec CC 19 [.roi .u8 l, .int .i64 a, .int .i64 size] [] (.tup [.int .i64 (gN l a size), .int .i64 (gP l a size), .agg [.int .i64 (gE l a size), .int .i64 (gA l a size)]]) [] := by
  have key : ∀ K, (sizeOk size = false → K = [none, none, some (Blk.ints IntKind.i64 [(2 : Int), (0 : Int)] false)]) → (sizeOk size = true → K = [none, none, some (Blk.ints IntKind.i64 [getE l a size, getA l a size] false), none, none, none, none, none, none, none, none, some (Blk.ints IntKind.i64 [getE l a size, getA l a size] false)]) →
      FSpec CC 19 [.roi .u8 l, .int .i64 a, .int .i64 size] [] (.tup [.int .i64 (gN l a size), .int .i64 (gP l a size), .agg [.int .i64 (gE l a size), .int .i64 (gA l a size)]]) K := by
    intro K h1 h2
    refine spec0 (n := 60) (L := noL) SF_ok ccMix (noL_ok CC 0 _) ?_
    rw [rget_vc]
    exact get_goal hl hb rfl (fun v' K' => v' = _ ∧ K' = K) (fun h => ⟨rfl, (h1 h).symm⟩) (fun h => ⟨rfl, (h2 h).symm⟩)
  cases hs : sizeOk size with
  | true => exact FSpec.cut [] (key _ (fun e => by rw [hs] at e; cases e) fun _ => rfl) rfl
  | false => exact FSpec.cut [] (key _ (fun _ => rfl) fun e => by rw [hs] at e; cases e) rfl
theorem getG_ok {f : FuncId} (hf : ∀ (l : List Int) (a size : Int), l.length ≤ 4611686018427387904 → bsB l = true → FSpec CC f [.roi .u8 l, .int .i64 a, .int .i64 size] [] (.tup [.int .i64 (gN l a size), .int .i64 (gP l a size), .agg [.int .i64 (gE l a size), .int .i64 (gA l a size)]]) [])
    (args : List AV) (v : AV) (L : Hp) (cs : List Chk) (h : getG args = some (v, L, cs)) (hc : oks cs) : FSpec CC f args [] v L := by
  unfold getG at h
  split at h
  · split at h
    · rename_i hl
      cases h
      refine (hf _ _ _ hc.1 hc.2.1).weak rfl fun φ w0 j u hj hv => ?_
      match j, hj with
      | 0, _ => exact roL_sound hl hv
      | 1, _ => exact hv
      | 2, _ => exact hv
    · cases h
  · cases h
/-- The contracts of Put and Get beside those before. -/
def SG : SpecW := listS SF [(8, putS), (9, putS), (18, roS getG), (19, roS getG)]
theorem SG_ok : SWok CC SG := listS_ok SF_ok ⟨put_ok _ put_spec, put_ok _ rput_spec, roS_ok (getG_ok get_spec), roS_ok (getG_ok rget_spec), trivial⟩
end Go.Proofs.Ytmdkhdfckdkceaa.TdAm
