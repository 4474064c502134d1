/- What Put and Get ask, reckoned. -/
import Derived.Test.YtmdkhdfckdkceaaFixP
namespace Go.Proofs.Ytmdkhdfckdkceaa.TdAm
open Go Go.RowKit
set_option maxRecDepth 100000

theorem put_vc (n size : Int) (k : Post) : funW CC SF 60 noL 8 [.int .i64 n, .int .i64 size] [] k = (Br (decide (size < (1 : Int))) (k (AV.tup [AV.nils, AV.int IntKind.i64 (2 : Int)]) [] [])
  (Br (decide (size > (7 : Int))) (k (AV.tup [AV.nils, AV.int IntKind.i64 (2 : Int)]) [] [])
    (Br (decide (n < (0 : Int))) (k (AV.tup [AV.nils, AV.int IntKind.i64 (5 : Int)]) [] [])
      (Rq (decide ((0 : Int) ≤ IntKind.wrap IntKind.i64 ((8 : Int) * size)))
        (Br (!decide (Int.fdiv n ((2 : Int) ^ min (Int.toNat (IntKind.wrap IntKind.i64 ((8 : Int) * size))) (64 : Nat)) = (0 : Int))) (k (AV.tup [AV.nils, AV.int IntKind.i64 (5 : Int)]) [] [])
          (Rq (decide ((0 : Int) ≤ IntKind.wrap IntKind.u64 n)) (Rq (decide ((0 : Int) ≤ size)) (Rq (decide (size ≤ (8 : Int))) (k (AV.tup [AV.sl (3 : Nat) (0 : Nat) (Int.toNat size) (Int.toNat size) (1 : Nat), AV.int IntKind.i64 (0 : Int)]) [none, none, none, some (Blk.ints IntKind.u8 (leB (IntKind.wrap IntKind.u64 n) (Int.toNat size)) true)] [(3 : Nat)]))))))))) := by kernel_rfl

theorem rput_vc (n size : Int) (k : Post) : funW CC SF 60 noL 9 [.int .i64 n, .int .i64 size] [] k = (Br (decide (size < (1 : Int))) (k (AV.tup [AV.nils, AV.int IntKind.i64 (2 : Int)]) [] [])
  (Br (decide (size > (7 : Int))) (k (AV.tup [AV.nils, AV.int IntKind.i64 (2 : Int)]) [] [])
    (Br (decide (n < (0 : Int))) (k (AV.tup [AV.nils, AV.int IntKind.i64 (5 : Int)]) [] [])
      (Rq (decide ((0 : Int) ≤ IntKind.wrap IntKind.i64 ((8 : Int) * size)))
        (Br (!decide (Int.fdiv n ((2 : Int) ^ min (Int.toNat (IntKind.wrap IntKind.i64 ((8 : Int) * size))) (64 : Nat)) = (0 : Int))) (k (AV.tup [AV.nils, AV.int IntKind.i64 (5 : Int)]) [] [])
          (Rq (decide ((0 : Int) ≤ IntKind.wrap IntKind.u64 n))
            (Rq (decide (IntKind.wrap IntKind.u64 n < (18446744073709551616 : Int))) (Rq (decide ((1 : Int) ≤ size)) (Rq (decide (size ≤ (8 : Int))) (k (AV.tup [AV.sl (3 : Nat) (0 : Nat) (Int.toNat size) (Int.toNat size) (1 : Nat), AV.int IntKind.i64 (0 : Int)]) [none, none, none, some (Blk.ints IntKind.u8 (leB (IntKind.wrap IntKind.u64 n) (Int.toNat size)) true)] [(3 : Nat)])))))))))) := by kernel_rfl

theorem get_vc (l : List Int) (a size : Int) (k : Post) : funW CC SF 60 noL 18 [.roi .u8 l, .int .i64 a, .int .i64 size] [] k = (Br (decide (size < (1 : Int))) (k (AV.tup [AV.int IntKind.i64 (0 : Int), AV.int IntKind.i64 (0 : Int), AV.agg [AV.int IntKind.i64 (2 : Int), AV.int IntKind.i64 (0 : Int)]]) [none, none, some (Blk.ints IntKind.i64 [(2 : Int), (0 : Int)] false)] [(2 : Nat), (2 : Nat)])
  (Br (decide (size > (7 : Int))) (k (AV.tup [AV.int IntKind.i64 (0 : Int), AV.int IntKind.i64 (0 : Int), AV.agg [AV.int IntKind.i64 (2 : Int), AV.int IntKind.i64 (0 : Int)]]) [none, none, some (Blk.ints IntKind.i64 [(2 : Int), (0 : Int)] false)] [(2 : Nat), (2 : Nat)])
    (Rq (Nat.ble (List.length l) (4611686018427387904 : Nat))
      (Rq (bsB l == true)
        (Rq (decide ((1 : Int) ≤ size))
          (Rq (decide (size ≤ (8 : Int)))
            (k (AV.tup [AV.int IntKind.i64 (IntKind.wrap IntKind.i64 (getN l a size)), AV.int IntKind.i64 (getP l a size), AV.agg [AV.int IntKind.i64 (getE l a size), AV.int IntKind.i64 (getA l a size)]]) [none, none, some (Blk.ints IntKind.i64 [getE l a size, getA l a size] false), none, none, none, none, none, none, none, none, some (Blk.ints IntKind.i64 [getE l a size, getA l a size] false)]
              [(2 : Nat), (11 : Nat), (11 : Nat), (2 : Nat)]))))))) := by kernel_rfl

theorem rget_vc (l : List Int) (a size : Int) (k : Post) : funW CC SF 60 noL 19 [.roi .u8 l, .int .i64 a, .int .i64 size] [] k = (Br (decide (size < (1 : Int))) (k (AV.tup [AV.int IntKind.i64 (0 : Int), AV.int IntKind.i64 (0 : Int), AV.agg [AV.int IntKind.i64 (2 : Int), AV.int IntKind.i64 (0 : Int)]]) [none, none, some (Blk.ints IntKind.i64 [(2 : Int), (0 : Int)] false)] [(2 : Nat), (2 : Nat)])
  (Br (decide (size > (7 : Int))) (k (AV.tup [AV.int IntKind.i64 (0 : Int), AV.int IntKind.i64 (0 : Int), AV.agg [AV.int IntKind.i64 (2 : Int), AV.int IntKind.i64 (0 : Int)]]) [none, none, some (Blk.ints IntKind.i64 [(2 : Int), (0 : Int)] false)] [(2 : Nat), (2 : Nat)])
    (Rq (Nat.ble (List.length l) (4611686018427387904 : Nat))
      (Rq (bsB l == true)
        (Rq (decide ((1 : Int) ≤ size))
          (Rq (decide (size ≤ (8 : Int)))
            (k (AV.tup [AV.int IntKind.i64 (IntKind.wrap IntKind.i64 (getN l a size)), AV.int IntKind.i64 (getP l a size), AV.agg [AV.int IntKind.i64 (getE l a size), AV.int IntKind.i64 (getA l a size)]]) [none, none, some (Blk.ints IntKind.i64 [getE l a size, getA l a size] false), none, none, none, none, none, none, none, none, some (Blk.ints IntKind.i64 [getE l a size, getA l a size] false)]
              [(2 : Nat), (11 : Nat), (11 : Nat), (2 : Nat)]))))))) := by kernel_rfl

end Go.Proofs.Ytmdkhdfckdkceaa.TdAm
