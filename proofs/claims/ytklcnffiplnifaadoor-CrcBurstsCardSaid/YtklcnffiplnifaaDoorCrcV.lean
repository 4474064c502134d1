/- What the checksum's functions ask, reckoned. -/
import Derived.Test.YtklcnffiplnifaaDoorKitP
namespace Go.Proofs.YtklcnffiplnifaaDoor.TdAm
open Go Go.RowKit
set_option maxRecDepth 100000
/-- The head of the checksum's loop. -/
def moreHd (l : List Int) (x i : Int) : View := ⟨37, [some (.int .u32 x), some (.roi .u8 l), some (.int .i64 l.length), some (.int .i64 i)], [], []⟩
def moreL (l : List Int) (x y : Int) : LSpec := fun id s => match Nat.beq id 0 with
  | true => some fun k => (obs [5, 10, 11, 12] s = moreHd l x 0) ∧ k .normal (stV [5, 10, 11, 12] (moreHd l y l.length))
  | false => none

theorem more_round (x i : Int) (l : List Int) (K : Out → View → Prop) : wpA CC noS 60 noL (loopAt CC 11 0) (stV [5, 10, 11, 12] (moreHd l x i)) (fun o s => K o (obs [5, 10, 11, 12] s)) = (Br (decide (i < (↑(List.length l) : Int)))
  (Rq (decide ((0 : Int) ≤ i))
    (Rq (decide (i < (↑(List.length l) : Int)))
      (Rq (decide (bits BinOp.and IntKind.u32 (bits BinOp.xor IntKind.u32 x (IntKind.wrap IntKind.u32 (List.getD l (Int.toNat i) (0 : Int)))) (15 : Int) < (16 : Int)))
        (Rq (Nat.blt ((0 : Nat) + Int.toNat (bits BinOp.and IntKind.u32 (bits BinOp.xor IntKind.u32 x (IntKind.wrap IntKind.u32 (List.getD l (Int.toNat i) (0 : Int)))) (15 : Int)) * (1 : Nat)) (16 : Nat))
          (Rq
            (decide
              (bits BinOp.and IntKind.u32 (bits BinOp.xor IntKind.u32 (Int.fdiv (bits BinOp.xor IntKind.u32 x (IntKind.wrap IntKind.u32 (List.getD l (Int.toNat i) (0 : Int)))) (16 : Int)) (List.getD tab0 ((0 : Nat) + Int.toNat (bits BinOp.and IntKind.u32 (bits BinOp.xor IntKind.u32 x (IntKind.wrap IntKind.u32 (List.getD l (Int.toNat i) (0 : Int)))) (15 : Int)) * (1 : Nat)) (0 : Int))) (15 : Int) <
                (16 : Int)))
            (Rq
              (Nat.blt
                ((0 : Nat) +
                  Int.toNat
                      (bits BinOp.and IntKind.u32 (bits BinOp.xor IntKind.u32 (Int.fdiv (bits BinOp.xor IntKind.u32 x (IntKind.wrap IntKind.u32 (List.getD l (Int.toNat i) (0 : Int)))) (16 : Int)) (List.getD tab0 ((0 : Nat) + Int.toNat (bits BinOp.and IntKind.u32 (bits BinOp.xor IntKind.u32 x (IntKind.wrap IntKind.u32 (List.getD l (Int.toNat i) (0 : Int)))) (15 : Int)) * (1 : Nat)) (0 : Int)))
                        (15 : Int)) *
                    (1 : Nat))
                (16 : Nat))
              (K Out.normal
                (View.mk (37 : Nat)
                  [some
                      (AV.int IntKind.u32
                        (bits BinOp.xor IntKind.u32
                          (Int.fdiv (bits BinOp.xor IntKind.u32 (Int.fdiv (bits BinOp.xor IntKind.u32 x (IntKind.wrap IntKind.u32 (List.getD l (Int.toNat i) (0 : Int)))) (16 : Int)) (List.getD tab0 ((0 : Nat) + Int.toNat (bits BinOp.and IntKind.u32 (bits BinOp.xor IntKind.u32 x (IntKind.wrap IntKind.u32 (List.getD l (Int.toNat i) (0 : Int)))) (15 : Int)) * (1 : Nat)) (0 : Int))) (16 : Int))
                          (List.getD tab0
                            ((0 : Nat) +
                              Int.toNat
                                  (bits BinOp.and IntKind.u32
                                    (bits BinOp.xor IntKind.u32 (Int.fdiv (bits BinOp.xor IntKind.u32 x (IntKind.wrap IntKind.u32 (List.getD l (Int.toNat i) (0 : Int)))) (16 : Int)) (List.getD tab0 ((0 : Nat) + Int.toNat (bits BinOp.and IntKind.u32 (bits BinOp.xor IntKind.u32 x (IntKind.wrap IntKind.u32 (List.getD l (Int.toNat i) (0 : Int)))) (15 : Int)) * (1 : Nat)) (0 : Int))) (15 : Int)) *
                                (1 : Nat))
                            (0 : Int)))),
                    some (AV.roi IntKind.u8 l), some (AV.int IntKind.i64 (↑(List.length l) : Int)), some (AV.int IntKind.i64 (IntKind.wrap IntKind.i64 (i + (1 : Int))))]
                  [] []))))))))
  (K (Out.exit (0 : Nat)) (View.mk (37 : Nat) [some (AV.int IntKind.u32 x), some (AV.roi IntKind.u8 l), some (AV.int IntKind.i64 (↑(List.length l) : Int)), some (AV.int IntKind.i64 i)] [] []))) := by kernel_rfl

theorem more_fun (x y sum : Int) (l : List Int) (k : Post) : funW CC noS 60 (moreL l x y) 11 [.int .u32 sum, .roi .u8 l] [] k = (View.mk (37 : Nat) [some (AV.int IntKind.u32 (bits BinOp.xor IntKind.u32 sum (4294967295 : Int))), some (AV.roi IntKind.u8 l), some (AV.int IntKind.i64 (↑(List.length l) : Int)), some (AV.int IntKind.i64 (0 : Int))] [] [] = View.mk (37 : Nat) [some (AV.int IntKind.u32 x), some (AV.roi IntKind.u8 l), some (AV.int IntKind.i64 (↑(List.length l) : Int)), some (AV.int IntKind.i64 (0 : Int))] [] [] ∧
  k (AV.int IntKind.u32 (bits BinOp.xor IntKind.u32 y (4294967295 : Int))) [] []) := by kernel_rfl

/-- The heads of the reference's loops. -/
def rInHd (l : List Int) (c i j : Int) : View := ⟨38, [some (.roi .u8 l), some (.int .u32 c), some (.int .i64 i), some (.int .i64 j)], [], []⟩
def rInL (l : List Int) (c y i : Int) : LSpec := fun id s => match Nat.beq id 2 with
  | true => some fun k => (obs [1, 5, 6, 7] s = rInHd l c i 0) ∧ k .normal (stV [1, 5, 6, 7] (rInHd l y i 8))
  | false => none
def rHd (l : List Int) (c i : Int) : View := ⟨38, [some (.roi .u8 l), some (.int .u32 c), some (.int .i64 i)], [], []⟩
def rL (l : List Int) (c y : Int) : LSpec := fun id s => match Nat.beq id 0 with
  | true => some fun k => (obs [1, 5, 6] s = rHd l c 0) ∧ k .normal (stV [1, 5, 6] (rHd l y l.length))
  | false => none

theorem rin_round (c i j : Int) (l : List Int) (K : Out → View → Prop) : wpA CC noS 60 noL (loopAt CC 17 2) (stV [1, 5, 6, 7] (rInHd l c i j)) (fun o s => K o (obs [1, 5, 6, 7] s)) = (Br (decide (j < (8 : Int)))
  (Br (decide (Int.tmod c (2 : Int) = (1 : Int))) (K Out.normal (View.mk (38 : Nat) [some (AV.roi IntKind.u8 l), some (AV.int IntKind.u32 (bits BinOp.xor IntKind.u32 (IntKind.wrap IntKind.u32 (Int.tdiv c (2 : Int))) (3988292384 : Int))), some (AV.int IntKind.i64 i), some (AV.int IntKind.i64 (IntKind.wrap IntKind.i64 (j + (1 : Int))))] [] []))
    (K Out.normal (View.mk (38 : Nat) [some (AV.roi IntKind.u8 l), some (AV.int IntKind.u32 (IntKind.wrap IntKind.u32 (Int.tdiv c (2 : Int)))), some (AV.int IntKind.i64 i), some (AV.int IntKind.i64 (IntKind.wrap IntKind.i64 (j + (1 : Int))))] [] [])))
  (K (Out.exit (2 : Nat)) (View.mk (38 : Nat) [some (AV.roi IntKind.u8 l), some (AV.int IntKind.u32 c), some (AV.int IntKind.i64 i), some (AV.int IntKind.i64 j)] [] []))) := by kernel_rfl

theorem r_round (c c1 y i : Int) (l : List Int) (K : Out → View → Prop) : wpA CC noS 60 (rInL l c1 y i) (loopAt CC 17 0) (stV [1, 5, 6] (rHd l c i)) (fun o s => K o (obs [1, 5, 6] s)) = (Br (decide (i < (↑(List.length l) : Int)))
  (Rq (decide ((0 : Int) ≤ i))
    (Rq (decide (i < (↑(List.length l) : Int)))
      (View.mk (38 : Nat) [some (AV.roi IntKind.u8 l), some (AV.int IntKind.u32 (bits BinOp.xor IntKind.u32 c (IntKind.wrap IntKind.u32 (List.getD l (Int.toNat i) (0 : Int))))), some (AV.int IntKind.i64 i), some (AV.int IntKind.i64 (0 : Int))] [] [] =
          View.mk (38 : Nat) [some (AV.roi IntKind.u8 l), some (AV.int IntKind.u32 c1), some (AV.int IntKind.i64 i), some (AV.int IntKind.i64 (0 : Int))] [] [] ∧
        K Out.normal (View.mk (38 : Nat) [some (AV.roi IntKind.u8 l), some (AV.int IntKind.u32 y), some (AV.int IntKind.i64 (IntKind.wrap IntKind.i64 (i + (1 : Int))))] [] []))))
  (K (Out.exit (0 : Nat)) (View.mk (38 : Nat) [some (AV.roi IntKind.u8 l), some (AV.int IntKind.u32 c), some (AV.int IntKind.i64 i)] [] []))) := by kernel_rfl

theorem r_fun (x y sum : Int) (l : List Int) (k : Post) : funW CC noS 60 (rL l x y) 17 [.int .u32 sum, .roi .u8 l] [] k = (View.mk (38 : Nat) [some (AV.roi IntKind.u8 l), some (AV.int IntKind.u32 (bits BinOp.xor IntKind.u32 sum (4294967295 : Int))), some (AV.int IntKind.i64 (0 : Int))] [] [] = View.mk (38 : Nat) [some (AV.roi IntKind.u8 l), some (AV.int IntKind.u32 x), some (AV.int IntKind.i64 (0 : Int))] [] [] ∧ k (AV.int IntKind.u32 (bits BinOp.xor IntKind.u32 y (4294967295 : Int))) [] []) := by kernel_rfl

end Go.Proofs.YtklcnffiplnifaaDoor.TdAm
