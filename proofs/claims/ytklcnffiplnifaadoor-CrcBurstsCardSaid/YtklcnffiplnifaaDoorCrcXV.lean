/- What CrcXor and CrcBursts ask, reckoned. -/
import Derived.Test.YtklcnffiplnifaaDoorCrcP
namespace Go.Proofs.YtklcnffiplnifaaDoor.TdAm
open Go Go.RowKit
set_option maxRecDepth 100000

/-- The head of CrcXor's loop. -/
def xHd (a b c B : List Int) (n i : Int) (m : Nat) : View := ⟨64, [some (.roi .u8 a), some (.roi .u8 b), some (.roi .u8 c), some (.bool true), some (.int .i64 n), some (.sl 0 0 m m 1), some (.int .i64 i)], [some (.ints .u8 B true)], []⟩
def awkB : Blk := .ints .u8 [49, 50, 51, 52, 53, 54, 55, 56, 57] false
def xIn (a b c : List Int) (n : Int) : View := ⟨64, [some (.roi .u8 a), some (.roi .u8 b), some (.roi .u8 c), some (.bool true), some (.int .i64 n), some .nils, some (.int .i64 0)], [some awkB], [0]⟩
def xL (a b c : List Int) (n : Int) (B : List Int) (m : Nat) (G : Prop) : LSpec := fun id s => match Nat.beq id 0 with
  | true => some fun k => (obs [0, 1, 2, 7, 8, 9, 10] s = xIn a b c n) ∧ G ∧ k .normal (stV [0, 1, 2, 7, 8, 9, 10] (xHd a b c B n n m))
  | false => none

theorem x_round (a b c B : List Int) (n i : Int) (m : Nat) (K : Out → View → Prop) : wpA CC noS 60 noL (loopAt CC 5 0) (stV [0, 1, 2, 7, 8, 9, 10] (xHd a b c B n i m)) (fun o s => K o (obs [0, 1, 2, 7, 8, 9, 10] s)) = (Br (decide (i < n))
  (Rq (decide ((0 : Int) ≤ i))
    (Rq (decide (i < (↑(List.length a) : Int)))
      (Rq (decide ((0 : Int) ≤ i))
        (Rq (decide (i < (↑(List.length b) : Int)))
          (Rq (decide ((0 : Int) ≤ i))
            (Rq (decide (i < (↑(List.length c) : Int)))
              (Rq (Nat.ble ((m + (1 : Nat)) * (1 : Nat)) (35184372088832 : Nat))
                (Rq (Nat.ble ((0 : Nat) + m * (1 : Nat)) (List.length B))
                  (K Out.normal
                    (View.mk (64 : Nat) [some (AV.roi IntKind.u8 a), some (AV.roi IntKind.u8 b), some (AV.roi IntKind.u8 c), some (AV.bool true), some (AV.int IntKind.i64 n), some (AV.sl (18 : Nat) (0 : Nat) (m + (1 : Nat)) (m + (1 : Nat)) (1 : Nat)), some (AV.int IntKind.i64 (IntKind.wrap IntKind.i64 (i + (1 : Int))))]
                      [some Blk.dead, none, none, none, none, none, none, none, none, none, none, none, none, none, none, none, some (Blk.ints IntKind.u8 [bits BinOp.xor IntKind.u8 (bits BinOp.xor IntKind.u8 (List.getD a (Int.toNat i) (0 : Int)) (List.getD b (Int.toNat i) (0 : Int))) (List.getD c (Int.toNat i) (0 : Int))] false), none,
                        some (Blk.ints IntKind.u8 (List.take (m * (1 : Nat)) B ++ List.take (1 : Nat) [bits BinOp.xor IntKind.u8 (bits BinOp.xor IntKind.u8 (List.getD a (Int.toNat i) (0 : Int)) (List.getD b (Int.toNat i) (0 : Int))) (List.getD c (Int.toNat i) (0 : Int))]) true)]
                      [(16 : Nat), (0 : Nat), (18 : Nat)]))))))))))
  (K (Out.exit (0 : Nat)) (View.mk (64 : Nat) [some (AV.roi IntKind.u8 a), some (AV.roi IntKind.u8 b), some (AV.roi IntKind.u8 c), some (AV.bool true), some (AV.int IntKind.i64 n), some (AV.sl (0 : Nat) (0 : Nat) m m (1 : Nat)), some (AV.int IntKind.i64 i)] [some (Blk.ints IntKind.u8 B true)] []))) := by kernel_rfl

theorem x_vc (a b c B : List Int) (n : Int) (m : Nat) (G : Prop) (k : AV → Prop) : funW CC SC 100 (xL a b c n B m G) 5 [.roi .u8 a, .roi .u8 b, .roi .u8 c] [] (fun v _ _ => k v) = (Br (decide (List.foldl (fun (x y : Int) => if y < x then y else x) (↑(List.length a) : Int) [(↑(List.length b) : Int), (↑(List.length c) : Int)] > (2000 : Int))) (k (AV.bool true))
  (View.mk (64 : Nat) [some (AV.roi IntKind.u8 a), some (AV.roi IntKind.u8 b), some (AV.roi IntKind.u8 c), some (AV.bool true), some (AV.int IntKind.i64 (List.foldl (fun (x y : Int) => if y < x then y else x) (↑(List.length a) : Int) [(↑(List.length b) : Int), (↑(List.length c) : Int)])), some AV.nils, some (AV.int IntKind.i64 (0 : Int))]
        [some (Blk.ints IntKind.u8 [(49 : Int), (50 : Int), (51 : Int), (52 : Int), (53 : Int), (54 : Int), (55 : Int), (56 : Int), (57 : Int)] false)] [(0 : Nat)] =
      View.mk (64 : Nat) [some (AV.roi IntKind.u8 a), some (AV.roi IntKind.u8 b), some (AV.roi IntKind.u8 c), some (AV.bool true), some (AV.int IntKind.i64 n), some AV.nils, some (AV.int IntKind.i64 (0 : Int))] [some (Blk.ints IntKind.u8 [(49 : Int), (50 : Int), (51 : Int), (52 : Int), (53 : Int), (54 : Int), (55 : Int), (56 : Int), (57 : Int)] false)] [(0 : Nat)] ∧
    G ∧
      Rq (Nat.ble ((0 : Nat) + m) (List.length B))
        (Rq (Nat.ble (List.length (List.take m B)) (9223372036854775806 : Nat))
          (Rq (decide ((0 : Int) ≤ n))
            (Rq (decide (n ≤ (↑(List.length a) : Int)))
              (Rq (Nat.ble (List.length (List.take (Int.toNat n) a)) (9223372036854775806 : Nat))
                (Rq (decide ((0 : Int) ≤ n))
                  (Rq (decide (n ≤ (↑(List.length b) : Int)))
                    (Rq (Nat.ble (List.length (List.take (Int.toNat n) b)) (9223372036854775806 : Nat))
                      (Rq (decide ((0 : Int) ≤ n))
                        (Rq (decide (n ≤ (↑(List.length c) : Int)))
                          (Rq (Nat.ble (List.length (List.take (Int.toNat n) c)) (9223372036854775806 : Nat)) (k (AV.bool (decide (crcMore (0 : Int) (List.take m B) = bits BinOp.xor IntKind.u32 (bits BinOp.xor IntKind.u32 (crcMore (0 : Int) (List.take (Int.toNat n) a)) (crcMore (0 : Int) (List.take (Int.toNat n) b))) (crcMore (0 : Int) (List.take (Int.toNat n) c)))))))))))))))))) := by kernel_rfl

/-- The head of CrcBursts' loop. -/
def buHd (l B : List Int) (from_ mask i : Int) : View := ⟨75, [some (.roi .u8 l), some (.int .i64 from_), some (.int .u32 mask), some (.bool true), some (.sl 0 0 l.length l.length 1), some (.int .i64 i)], [some (.ints .u8 B true)], []⟩
def buIn (l : List Int) (from_ mask : Int) : View := ⟨75, [some (.roi .u8 l), some (.int .i64 from_), some (.int .u32 mask), some (.bool true), some (.sl 2 0 l.length l.length 1), some (.int .i64 0)], [some awkB, none, some (.ints .u8 l true)], [0, 2]⟩
def buL (l : List Int) (from_ mask : Int) (B : List Int) (G : Prop) : LSpec := fun id s => match Nat.beq id 0 with
  | true => some fun k => (obs [0, 1, 2, 7, 8, 9] s = buIn l from_ mask) ∧ G ∧ k .normal (stV [0, 1, 2, 7, 8, 9] (buHd l B from_ mask 32))
  | false => none

theorem bu_round (l B : List Int) (from_ mask i : Int) (K : Out → View → Prop) : wpA CC noS 60 noL (loopAt CC 7 0) (stV [0, 1, 2, 7, 8, 9] (buHd l B from_ mask i)) (fun o s => K o (obs [0, 1, 2, 7, 8, 9] s)) = (Br (decide (i < (32 : Int)))
  (Rq (decide ((0 : Int) ≤ i))
    (Br (decide (Int.tmod (Int.fdiv mask ((2 : Int) ^ min (Int.toNat i) (32 : Nat))) (2 : Int) = (1 : Int)))
      (Rq (decide ((0 : Int) ≤ IntKind.wrap IntKind.i64 (Int.tdiv (IntKind.wrap IntKind.i64 (from_ + i)) (8 : Int))))
        (Rq (decide (IntKind.wrap IntKind.i64 (Int.tdiv (IntKind.wrap IntKind.i64 (from_ + i)) (8 : Int)) < (↑(List.length l) : Int)))
          (Rq (Nat.blt ((0 : Nat) + Int.toNat (IntKind.wrap IntKind.i64 (Int.tdiv (IntKind.wrap IntKind.i64 (from_ + i)) (8 : Int))) * (1 : Nat)) (List.length B))
            (Rq (decide ((0 : Int) ≤ Int.tmod (IntKind.wrap IntKind.i64 (from_ + i)) (8 : Int)))
              (Rq (decide ((0 : Int) ≤ IntKind.wrap IntKind.i64 (Int.tdiv (IntKind.wrap IntKind.i64 (from_ + i)) (8 : Int))))
                (Rq (decide (IntKind.wrap IntKind.i64 (Int.tdiv (IntKind.wrap IntKind.i64 (from_ + i)) (8 : Int)) < (↑(List.length l) : Int)))
                  (Rq (Nat.ble ((0 : Nat) + Int.toNat (IntKind.wrap IntKind.i64 (Int.tdiv (IntKind.wrap IntKind.i64 (from_ + i)) (8 : Int))) * (1 : Nat) + (1 : Nat)) (List.length B))
                    (K Out.normal
                      (View.mk (75 : Nat) [some (AV.roi IntKind.u8 l), some (AV.int IntKind.i64 from_), some (AV.int IntKind.u32 mask), some (AV.bool true), some (AV.sl (0 : Nat) (0 : Nat) (List.length l) (List.length l) (1 : Nat)), some (AV.int IntKind.i64 (IntKind.wrap IntKind.i64 (i + (1 : Int))))]
                        [some
                            (Blk.ints IntKind.u8
                              (List.set B ((0 : Nat) + Int.toNat (IntKind.wrap IntKind.i64 (Int.tdiv (IntKind.wrap IntKind.i64 (from_ + i)) (8 : Int))) * (1 : Nat))
                                (bits BinOp.xor IntKind.u8 (List.getD B ((0 : Nat) + Int.toNat (IntKind.wrap IntKind.i64 (Int.tdiv (IntKind.wrap IntKind.i64 (from_ + i)) (8 : Int))) * (1 : Nat)) (0 : Int)) (IntKind.wrap IntKind.u8 ((1 : Int) * (2 : Int) ^ min (Int.toNat (Int.tmod (IntKind.wrap IntKind.i64 (from_ + i)) (8 : Int))) (8 : Nat)))))
                              true)]
                        [(0 : Nat)])))))))))
      (K Out.normal (View.mk (75 : Nat) [some (AV.roi IntKind.u8 l), some (AV.int IntKind.i64 from_), some (AV.int IntKind.u32 mask), some (AV.bool true), some (AV.sl (0 : Nat) (0 : Nat) (List.length l) (List.length l) (1 : Nat)), some (AV.int IntKind.i64 (IntKind.wrap IntKind.i64 (i + (1 : Int))))] [some (Blk.ints IntKind.u8 B true)] []))))
  (K (Out.exit (0 : Nat)) (View.mk (75 : Nat) [some (AV.roi IntKind.u8 l), some (AV.int IntKind.i64 from_), some (AV.int IntKind.u32 mask), some (AV.bool true), some (AV.sl (0 : Nat) (0 : Nat) (List.length l) (List.length l) (1 : Nat)), some (AV.int IntKind.i64 i)] [some (Blk.ints IntKind.u8 B true)] []))) := by kernel_rfl

theorem bu_vc (l B : List Int) (x from_ mask : Int) (G : Prop) (k : AV → Prop) : funW CC SC 100 (buL l from_ mask B G) 7 [.roi .u8 l, .int .i64 x, .int .u32 mask] [] (fun v _ _ => k v) = (Br (decide ((↑(List.length l) : Int) > (5000 : Int))) (k (AV.bool true))
  (Br (decide ((↑(List.length l) : Int) < (4 : Int))) (k (AV.bool true))
    (Br (decide (mask = (0 : Int))) (k (AV.bool true))
      (Rq (decide (IntKind.wrap IntKind.i64 (IntKind.wrap IntKind.i64 ((8 : Int) * (↑(List.length l) : Int)) - (31 : Int)) ≤ (9223372036854775807 : Int)))
        (Rq (Nat.ble (List.length l) (35184372088832 : Nat))
          (View.mk (75 : Nat) [some (AV.roi IntKind.u8 l), some (AV.int IntKind.i64 (pickI x (IntKind.wrap IntKind.i64 (IntKind.wrap IntKind.i64 ((8 : Int) * (↑(List.length l) : Int)) - (31 : Int))))), some (AV.int IntKind.u32 mask), some (AV.bool true), some (AV.sl (2 : Nat) (0 : Nat) (List.length l) (List.length l) (1 : Nat)), some (AV.int IntKind.i64 (0 : Int))]
                [some (Blk.ints IntKind.u8 [(49 : Int), (50 : Int), (51 : Int), (52 : Int), (53 : Int), (54 : Int), (55 : Int), (56 : Int), (57 : Int)] false), none, some (Blk.ints IntKind.u8 l true)] [(0 : Nat), (2 : Nat)] =
              View.mk (75 : Nat) [some (AV.roi IntKind.u8 l), some (AV.int IntKind.i64 from_), some (AV.int IntKind.u32 mask), some (AV.bool true), some (AV.sl (2 : Nat) (0 : Nat) (List.length l) (List.length l) (1 : Nat)), some (AV.int IntKind.i64 (0 : Int))]
                [some (Blk.ints IntKind.u8 [(49 : Int), (50 : Int), (51 : Int), (52 : Int), (53 : Int), (54 : Int), (55 : Int), (56 : Int), (57 : Int)] false), none, some (Blk.ints IntKind.u8 l true)] [(0 : Nat), (2 : Nat)] ∧
            G ∧
              Rq (Nat.ble ((0 : Nat) + List.length l) (List.length B))
                (Rq (Nat.ble (List.length (List.take (List.length l) B)) (9223372036854775806 : Nat))
                  (Rq (Nat.ble (List.length l) (9223372036854775806 : Nat))
                    (Br (!decide (crcMore (0 : Int) (List.take (List.length l) B) = crcMore (0 : Int) l))
                      (Rq (Nat.ble (List.length l) (9223372036854775806 : Nat)) (Rq (Nat.ble ((0 : Nat) + List.length l) (List.length B)) (Rq (Nat.ble (List.length (List.take (List.length l) B)) (9223372036854775806 : Nat)) (k (AV.bool !decide (crcMore (0 : Int) (List.take (List.length l) B) = crcMore (0 : Int) l)))))) (k (AV.bool false))))))))))) := by kernel_rfl

end Go.Proofs.YtklcnffiplnifaaDoor.TdAm
