/- CrcPieces, CrcTail, CrcSums: their walks. -/
import Derived.Test.YtklcnffiplnifaaDoorCrcLV
import Derived.Test.YtklcnffiplnifaaDoorCrcM2
set_option linter.unusedVariables false
set_option linter.unusedSimpArgs false
set_option maxRecDepth 100000
namespace Go.Proofs.YtklcnffiplnifaaDoor.TdAm
open Go Go.RowKit
set_option linter.unusedVariables false
set_option linter.unusedSimpArgs false
set_option maxRecDepth 100000

theorem lentF_take (l : List Int) : (lentF l).take l.length = l := by simp [lentF, lentB]
theorem lentF_len (l : List Int) : (lentF l).length = l.length + 3 := lentB_len l 3
theorem pieces_law (l : List Int) (a : Int) : funW CC SC 100 noL 3 [.roi .u8 l, .int .i64 a] [] fun v _ _ => v = .bool true := by
  refine (pieces_vc l a _).mpr (Br_split (fun _ => rfl) fun h => ?_)
  have hl : l.length ≤ 5000 := by have : ¬ ((l.length : Int) > 5000) := by simpa using h
                                  omega
  rw [wrap_i64 (by omega) (by omega)]
  have hp := pickI_lt (x := a) (n := (l.length : Int) + 1) (by omega)
  generalize hpe : pickI a ((l.length : Int) + 1) = p at hp ⊢
  have t1 : (l.take p.toNat).length ≤ 5000 := by simp; omega
  have t2 : (l.drop p.toNat).length ≤ 5000 := by simp; omega
  simp only [Rq_iff, decide_eq_true_eq, Nat.ble_eq]
  refine ⟨by omega, by omega, by omega, by omega, by omega, by omega, by omega, by omega, Br_pos ?_ ⟨by omega, by omega, by simp⟩⟩
  rw [crcMore_append, List.take_append_drop]; simp
theorem tail_law (l : List Int) (o : Int) (h0 : 0 ≤ o) (h1 : o < 4294967296) : funW CC SC 100 noL 4 [.roi .u8 l, .int .u32 o] [] fun v _ _ => v = .bool true := by
  refine (tail_vc l o _).mpr (Br_split (fun _ => rfl) fun h => ?_)
  have hl : l.length ≤ 5000 := by have : ¬ ((l.length : Int) > 5000) := by simpa using h
                                  omega
  have e : ∀ n : Int, (l.take (l.length * 1)).drop 0 ++ List.take 4 (List.drop 0 (word4 n)) = l ++ word4 n := fun n => by simp [word4]
  have e2 : ∀ n : Int, List.take (l.length + 4) (List.drop 0 (l.take (l.length * 1) ++ List.take 4 (List.drop 0 (word4 n)))) = l ++ word4 n := fun n => by
    simp [word4, List.take_append_of_le_length, List.take_of_length_le]
  have e3 : ∀ n : Int, (l ++ word4 n).length = l.length + 4 := fun n => by simp [word4]
  have e4 : ∀ n : Int, (List.take (l.length * 1) l ++ List.take 4 (word4 n)) = l ++ word4 n := fun n => by simp [word4]
  have w4 : ∀ n : Int, [IntKind.wrap .u8 n, IntKind.wrap .u8 (n.fdiv 256), IntKind.wrap .u8 (n.fdiv 65536), IntKind.wrap .u8 (n.fdiv 16777216)] = word4 n := fun n => rfl
  have e5 : ∀ n : Int, List.take (l.length + 4) (l ++ word4 n) = l ++ word4 n := fun n => List.take_of_length_le (by rw [e3]; omega)
  simp only [w4, List.drop_zero, Nat.mul_one, List.take_length, Nat.zero_add, Rq_iff, Nat.ble_eq]
  have e6 : ∀ n : Int, List.take 4 (word4 n) = word4 n := fun n => rfl
  simp only [e6, e5, e3]
  refine ⟨by omega, by omega, by omega, by omega, by omega, by omega, by omega, by omega, by omega, Br_pos ?_ ⟨by omega, by omega, ?_⟩⟩
  · rw [crc_tail]; rfl
  · have := crc_other l o h0 h1
    by_cases h : o = crcMore 0 l
    · simp [h, crc_tail]
    · simp [h, this]
theorem sums_law (l : List Int) (s : Int) : funW CC SC 100 noL 6 [.roi .u8 l, .int .u32 s] [] fun v _ _ => v = .bool true := by
  refine (sums_vc l s _).mpr (Br_split (fun _ => rfl) fun h => ?_)
  have hl : l.length ≤ 5000 := by have : ¬ ((l.length : Int) > 5000) := by simpa using h
                                  omega
  have ew : IntKind.wrap .i64 ((l.length : Int) + 3) = ((l.length + 3 : Nat) : Int) := by rw [wrap_i64 (by omega) (by omega)]; omega
  simp only [ew, List.drop_zero, Nat.zero_add, lentF_take, lentF_len, Int.toNat_natCast, Rq_iff, decide_eq_true_eq, Nat.ble_eq]
  have hs : (decide (crcMore 0 l = s) == decide (s = crcMore 0 l)) = true := by
    by_cases e : crcMore 0 l = s
    · simp [e]
    · simp [e, Ne.symm e]
  refine ⟨by omega, by omega, by omega, by omega, Br_pos (by simp) ⟨by omega, by omega, by omega, Br_pos (by simp) ⟨by omega, by omega, Br_pos hs ⟨by omega, by omega, Br_pos (by simp) (Br_pos (by simp) ⟨by omega, by omega, by omega, by omega, by omega, by omega, Br_pos (sameB_refl _) trivial⟩)⟩⟩⟩⟩
end Go.Proofs.YtklcnffiplnifaaDoor.TdAm

namespace Go.Proofs.YtklcnffiplnifaaDoor.crcPieces
open Go Go.RowKit Go.Proofs.YtklcnffiplnifaaDoor.TdAm
theorem walk (w : World) (hL : laidMetH Tryd.prog laidD w) (a0 : Option Addr) (len0 cap0 : Nat) (z0 : List Int) (w0 : IsRow .u8 w a0 len0 cap0 z0) (a1 : Int) (w1 : (Lit.int .i64 a1).wf = true) : Calls Tryd.prog 3 #[.slice a0 len0 cap0, .int .i64 a1] w fun e w' => e = .returned (.bool true) ∧ Below w.heap.size w w' :=
  law_of (C := CC) SC_ok ccMix (noL_ok CC 0 _) (args := [.roi .u8 (z0.take len0), .int .i64 a1]) (ccGlob hL) rfl (fun j hj => match j, hj with
    | 0, _ => w0.roi.2
    | 1, _ => .int _ _) (pieces_law _ _)
end Go.Proofs.YtklcnffiplnifaaDoor.crcPieces
namespace Go.Proofs.YtklcnffiplnifaaDoor.crcTail
open Go Go.RowKit Go.Proofs.YtklcnffiplnifaaDoor.TdAm
theorem walk (w : World) (hL : laidMetH Tryd.prog laidD w) (a0 : Option Addr) (len0 cap0 : Nat) (z0 : List Int) (w0 : IsRow .u8 w a0 len0 cap0 z0) (a1 : Int) (w1 : (Lit.int .u32 a1).wf = true) : Calls Tryd.prog 4 #[.slice a0 len0 cap0, .int .u32 a1] w fun e w' => e = .returned (.bool true) ∧ Below w.heap.size w w' :=
  law_of (C := CC) SC_ok ccMix (noL_ok CC 0 _) (args := [.roi .u8 (z0.take len0), .int .u32 a1]) (ccGlob hL) rfl (fun j hj => match j, hj with
    | 0, _ => w0.roi.2
    | 1, _ => .int _ _) (tail_law _ _ (wf_u32 w1).1 (wf_u32 w1).2)
end Go.Proofs.YtklcnffiplnifaaDoor.crcTail
namespace Go.Proofs.YtklcnffiplnifaaDoor.crcSums
open Go Go.RowKit Go.Proofs.YtklcnffiplnifaaDoor.TdAm
theorem walk (w : World) (hL : laidMetH Tryd.prog laidD w) (a0 : Option Addr) (len0 cap0 : Nat) (z0 : List Int) (w0 : IsRow .u8 w a0 len0 cap0 z0) (a1 : Int) (w1 : (Lit.int .u32 a1).wf = true) : Calls Tryd.prog 6 #[.slice a0 len0 cap0, .int .u32 a1] w fun e w' => e = .returned (.bool true) ∧ Below w.heap.size w w' :=
  law_of (C := CC) SC_ok ccMix (noL_ok CC 0 _) (args := [.roi .u8 (z0.take len0), .int .u32 a1]) (ccGlob hL) rfl (fun j hj => match j, hj with
    | 0, _ => w0.roi.2
    | 1, _ => .int _ _) (sums_law _ _)
end Go.Proofs.YtklcnffiplnifaaDoor.crcSums
