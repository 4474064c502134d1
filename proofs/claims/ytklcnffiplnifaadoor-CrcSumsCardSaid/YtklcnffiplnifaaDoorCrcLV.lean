/- What the statements ask, reckoned. -/
import Derived.Test.YtklcnffiplnifaaDoorCrcP
namespace Go.Proofs.YtklcnffiplnifaaDoor.TdAm
open Go Go.RowKit
set_option maxRecDepth 100000

theorem pieces_vc (l : List Int) (at_ : Int) (k : AV → Prop) : funW CC SC 100 noL 3 [.roi .u8 l, .int .i64 at_] [] (fun v _ _ => k v) = (Br (decide ((↑(List.length l) : Int) > (5000 : Int))) (k (AV.bool true))
  (Rq (decide (IntKind.wrap IntKind.i64 ((↑(List.length l) : Int) + (1 : Int)) ≤ (9223372036854775807 : Int)))
    (Rq (decide ((0 : Int) ≤ pickI at_ (IntKind.wrap IntKind.i64 ((↑(List.length l) : Int) + (1 : Int)))))
      (Rq (decide (pickI at_ (IntKind.wrap IntKind.i64 ((↑(List.length l) : Int) + (1 : Int))) ≤ (↑(List.length l) : Int)))
        (Rq (Nat.ble (List.length (List.take (Int.toNat (pickI at_ (IntKind.wrap IntKind.i64 ((↑(List.length l) : Int) + (1 : Int))))) l)) (9223372036854775806 : Nat))
          (Rq (decide ((0 : Int) ≤ pickI at_ (IntKind.wrap IntKind.i64 ((↑(List.length l) : Int) + (1 : Int)))))
            (Rq (decide (pickI at_ (IntKind.wrap IntKind.i64 ((↑(List.length l) : Int) + (1 : Int))) ≤ (↑(List.length l) : Int)))
              (Rq (Nat.ble (List.length (List.drop (Int.toNat (pickI at_ (IntKind.wrap IntKind.i64 ((↑(List.length l) : Int) + (1 : Int))))) l)) (9223372036854775806 : Nat))
                (Rq (Nat.ble (List.length l) (9223372036854775806 : Nat))
                  (Br (decide (crcMore (crcMore (0 : Int) (List.take (Int.toNat (pickI at_ (IntKind.wrap IntKind.i64 ((↑(List.length l) : Int) + (1 : Int))))) l)) (List.drop (Int.toNat (pickI at_ (IntKind.wrap IntKind.i64 ((↑(List.length l) : Int) + (1 : Int))))) l) = crcMore (0 : Int) l))
                    (Rq (Nat.ble (List.length l) (9223372036854775806 : Nat)) (Rq (Nat.ble (List.length l) (9223372036854775806 : Nat)) (k (AV.bool (decide (crcMore (0 : Int) l = crcMore (0 : Int) l)))))) (k (AV.bool false)))))))))))) := by kernel_rfl

theorem tail_vc (l : List Int) (other : Int) (k : AV → Prop) : funW CC SC 100 noL 4 [.roi .u8 l, .int .u32 other] [] (fun v _ _ => k v) = (Br (decide ((↑(List.length l) : Int) > (5000 : Int))) (k (AV.bool true))
  (Rq (Nat.ble (List.length l) (9223372036854775806 : Nat))
    (Rq (Nat.ble (List.length l) (35184372088832 : Nat))
      (Rq (Nat.ble ((List.length l + (4 : Nat)) * (1 : Nat)) (35184372088832 : Nat))
        (Rq (Nat.ble ((0 : Nat) + List.length l * (1 : Nat)) (List.length l))
          (Rq (Nat.ble (List.length l) (35184372088832 : Nat))
            (Rq (Nat.ble ((List.length l + (4 : Nat)) * (1 : Nat)) (35184372088832 : Nat))
              (Rq (Nat.ble ((0 : Nat) + List.length l * (1 : Nat)) (List.length l))
                (Rq
                  (Nat.ble ((0 : Nat) + (List.length l + (4 : Nat)))
                    (List.length
                      (List.take (List.length l * (1 : Nat)) (List.drop (0 : Nat) l) ++ List.take (4 : Nat) (List.drop (0 : Nat) [IntKind.wrap IntKind.u8 (crcMore (0 : Int) l), IntKind.wrap IntKind.u8 (Int.fdiv (crcMore (0 : Int) l) (256 : Int)), IntKind.wrap IntKind.u8 (Int.fdiv (crcMore (0 : Int) l) (65536 : Int)), IntKind.wrap IntKind.u8 (Int.fdiv (crcMore (0 : Int) l) (16777216 : Int))]))))
                  (Rq
                    (Nat.ble
                      (List.length
                        (List.take (List.length l + (4 : Nat))
                          (List.drop (0 : Nat)
                            (List.take (List.length l * (1 : Nat)) (List.drop (0 : Nat) l) ++
                              List.take (4 : Nat) (List.drop (0 : Nat) [IntKind.wrap IntKind.u8 (crcMore (0 : Int) l), IntKind.wrap IntKind.u8 (Int.fdiv (crcMore (0 : Int) l) (256 : Int)), IntKind.wrap IntKind.u8 (Int.fdiv (crcMore (0 : Int) l) (65536 : Int)), IntKind.wrap IntKind.u8 (Int.fdiv (crcMore (0 : Int) l) (16777216 : Int))])))))
                      (9223372036854775806 : Nat))
                    (Br
                      (decide
                        (crcMore (0 : Int)
                            (List.take (List.length l + (4 : Nat))
                              (List.drop (0 : Nat)
                                (List.take (List.length l * (1 : Nat)) (List.drop (0 : Nat) l) ++
                                  List.take (4 : Nat) (List.drop (0 : Nat) [IntKind.wrap IntKind.u8 (crcMore (0 : Int) l), IntKind.wrap IntKind.u8 (Int.fdiv (crcMore (0 : Int) l) (256 : Int)), IntKind.wrap IntKind.u8 (Int.fdiv (crcMore (0 : Int) l) (65536 : Int)), IntKind.wrap IntKind.u8 (Int.fdiv (crcMore (0 : Int) l) (16777216 : Int))])))) =
                          (558161692 : Int)))
                      (Rq
                        (Nat.ble ((0 : Nat) + (List.length l + (4 : Nat))) (List.length (List.take (List.length l * (1 : Nat)) (List.drop (0 : Nat) l) ++ List.take (4 : Nat) (List.drop (0 : Nat) [IntKind.wrap IntKind.u8 other, IntKind.wrap IntKind.u8 (Int.fdiv other (256 : Int)), IntKind.wrap IntKind.u8 (Int.fdiv other (65536 : Int)), IntKind.wrap IntKind.u8 (Int.fdiv other (16777216 : Int))]))))
                        (Rq
                          (Nat.ble
                            (List.length
                              (List.take (List.length l + (4 : Nat))
                                (List.drop (0 : Nat) (List.take (List.length l * (1 : Nat)) (List.drop (0 : Nat) l) ++ List.take (4 : Nat) (List.drop (0 : Nat) [IntKind.wrap IntKind.u8 other, IntKind.wrap IntKind.u8 (Int.fdiv other (256 : Int)), IntKind.wrap IntKind.u8 (Int.fdiv other (65536 : Int)), IntKind.wrap IntKind.u8 (Int.fdiv other (16777216 : Int))])))))
                            (9223372036854775806 : Nat))
                          (k
                            (AV.bool
                              (decide
                                  (crcMore (0 : Int)
                                      (List.take (List.length l + (4 : Nat))
                                        (List.drop (0 : Nat) (List.take (List.length l * (1 : Nat)) (List.drop (0 : Nat) l) ++ List.take (4 : Nat) (List.drop (0 : Nat) [IntKind.wrap IntKind.u8 other, IntKind.wrap IntKind.u8 (Int.fdiv other (256 : Int)), IntKind.wrap IntKind.u8 (Int.fdiv other (65536 : Int)), IntKind.wrap IntKind.u8 (Int.fdiv other (16777216 : Int))])))) =
                                    (558161692 : Int)) ==
                                decide (other = crcMore (0 : Int) l))))))
                      (k (AV.bool false))))))))))))) := by kernel_rfl

theorem sums_vc (l : List Int) (sum : Int) (k : AV → Prop) : funW CC SC 100 noL 6 [.roi .u8 l, .int .u32 sum] [] (fun v _ _ => k v) = (Br (decide ((↑(List.length l) : Int) > (5000 : Int))) (k (AV.bool true))
  (Rq (Nat.ble (List.length l) (140737488355325 : Nat))
    (Rq (Nat.ble (List.length l) (9223372036854775806 : Nat))
      (Rq (Nat.ble ((0 : Nat) + List.length l) (List.length (lentF l)))
        (Rq (Nat.ble (List.length (List.take (List.length l) (List.drop (0 : Nat) (lentF l)))) (9223372036854775806 : Nat))
          (Br (decide (crcMore (0 : Int) (List.take (List.length l) (List.drop (0 : Nat) (lentF l))) = crcMore (0 : Int) l))
            (Rq (Nat.ble ((0 : Nat) + List.length l) (List.length (lentF l)))
              (Rq (Nat.ble (List.length (List.take (List.length l) (List.drop (0 : Nat) (lentF l)))) (9223372036854775806 : Nat))
                (Rq (Nat.ble (List.length l) (9223372036854775806 : Nat))
                  (Br (decide (crcMore sum (List.take (List.length l) (List.drop (0 : Nat) (lentF l))) = crcMore sum l))
                    (Rq (Nat.ble ((0 : Nat) + List.length l) (List.length (lentF l)))
                      (Rq (Nat.ble (List.length (List.take (List.length l) (List.drop (0 : Nat) (lentF l)))) (9223372036854775806 : Nat))
                        (Br (decide (crcMore (0 : Int) (List.take (List.length l) (List.drop (0 : Nat) (lentF l))) = sum) == decide (sum = crcMore (0 : Int) l))
                          (Rq (Nat.ble ((0 : Nat) + List.length l) (List.length (lentF l)))
                            (Rq (Nat.ble (List.length (List.take (List.length l) (List.drop (0 : Nat) (lentF l)))) (9223372036854775806 : Nat))
                              (Br (decide (crcMore (0 : Int) (List.take (List.length l) (List.drop (0 : Nat) (lentF l))) = crcMore (0 : Int) l))
                                (Br (decide ((↑(List.length l) : Int) = (↑(List.length l) : Int)))
                                  (Rq (decide ((↑(List.length l + (3 : Nat)) : Int) ≤ (↑(List.length l + (3 : Nat)) : Int)))
                                    (Rq (Nat.ble (List.length l) (140737488355325 : Nat))
                                      (Rq (decide ((0 : Int) ≤ IntKind.wrap IntKind.i64 ((↑(List.length l) : Int) + (3 : Int))))
                                        (Rq (decide (IntKind.wrap IntKind.i64 ((↑(List.length l) : Int) + (3 : Int)) ≤ (↑(List.length l + (3 : Nat)) : Int)))
                                          (Rq (Nat.ble ((0 : Nat) + Int.toNat (↑(List.length l + (3 : Nat)) : Int)) (List.length (lentF l)))
                                            (Rq (Nat.ble ((0 : Nat) + Int.toNat (IntKind.wrap IntKind.i64 ((↑(List.length l) : Int) + (3 : Int)))) (List.length (lentF l)))
                                              (Br (sameB (List.take (Int.toNat (↑(List.length l + (3 : Nat)) : Int)) (List.drop (0 : Nat) (lentF l))) (List.take (Int.toNat (IntKind.wrap IntKind.i64 ((↑(List.length l) : Int) + (3 : Int)))) (List.drop (0 : Nat) (lentF l)))) (k (AV.bool true)) (k (AV.bool false)))))))))
                                  (k (AV.bool false)))
                                (k (AV.bool false)))))
                          (k (AV.bool false)))))
                    (k (AV.bool false))))))
            (k (AV.bool false)))))))) := by kernel_rfl

end Go.Proofs.YtklcnffiplnifaaDoor.TdAm
