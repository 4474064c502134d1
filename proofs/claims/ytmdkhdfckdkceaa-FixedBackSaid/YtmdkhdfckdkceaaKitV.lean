/- What the helpers of the statements ask, reckoned. -/
import Derived.Test.YtmdkhdfckdkceaaBase
namespace Go.Proofs.Ytmdkhdfckdkceaa.TdAm
open Go Go.RowKit
set_option maxRecDepth 100000

theorem same_vc (l m : List Int) (k : Post) : funW CC noS 60 noL 12 [.roi .u8 l, .roi .u8 m] [] k = (k (AV.bool (ByteArray.toList (strOf l) == ByteArray.toList (strOf m))) [] []) := by kernel_rfl

theorem copy_vc (l : List Int) (k : Post) : funW CC noS 60 noL 25 [.roi .u8 l] [] k = (Rq (Nat.ble (((0 : Nat) + List.length l) * (1 : Nat)) (35184372088832 : Nat)) (k (AV.sl (3 : Nat) (0 : Nat) ((0 : Nat) + List.length l) ((0 : Nat) + List.length l) (1 : Nat)) [some Blk.dead, none, none, some (Blk.ints IntKind.u8 l true)] [(0 : Nat), (0 : Nat), (3 : Nat)])) := by kernel_rfl

/-- The head of LentBytes' loop. -/
def lentHd (l B : List Int) (i : Int) (n : Nat) : View := ⟨31, [some (.roi .u8 l), some (.sl 3 0 n n 1), some (.int .i64 i)], [none, none, none, some (.ints .u8 B false)], [3, 3]⟩
def lentL (l B B' : List Int) : LSpec := fun id s => match Nat.beq id 0 with
  | true => some fun k => (obs [0, 3, 4] s = lentHd l B l.length (l.length + 3)) ∧ k .normal (stV [0, 3, 4] (lentHd l B' (l.length + 3) (l.length + 3)))
  | false => none

theorem lent_round (l B : List Int) (i : Int) (n : Nat) (K : Out → View → Prop) : wpA CC noS 60 noL (loopAt CC 17 0) (stV [0, 3, 4] (lentHd l B i n)) (fun o s => K o (obs [0, 3, 4] s)) = (Br (decide (i < (↑n : Int)))
  (Rq (decide ((0 : Int) ≤ i))
    (Rq (decide (i < (↑n : Int)))
      (Rq (Nat.ble ((0 : Nat) + Int.toNat i * (1 : Nat) + (1 : Nat)) (List.length B))
        (K Out.normal
          (View.mk (31 : Nat) [some (AV.roi IntKind.u8 l), some (AV.sl (3 : Nat) (0 : Nat) n n (1 : Nat)), some (AV.int IntKind.i64 (IntKind.wrap IntKind.i64 (i + (1 : Int))))] [none, none, none, some (Blk.ints IntKind.u8 (List.set B ((0 : Nat) + Int.toNat i * (1 : Nat)) (IntKind.wrap IntKind.u8 (IntKind.wrap IntKind.i64 ((160 : Int) + Int.tmod i (90 : Int))))) false)]
            [(3 : Nat), (3 : Nat), (3 : Nat)])))))
  (K (Out.exit (0 : Nat)) (View.mk (31 : Nat) [some (AV.roi IntKind.u8 l), some (AV.sl (3 : Nat) (0 : Nat) n n (1 : Nat)), some (AV.int IntKind.i64 i)] [none, none, none, some (Blk.ints IntKind.u8 B false)] [(3 : Nat), (3 : Nat)]))) := by kernel_rfl

theorem lent_vc (l B B' : List Int) (k : Post) : funW CC noS 60 (lentL l B B') 17 [.roi .u8 l] [] k = (Rq (decide ((0 : Int) ≤ IntKind.wrap IntKind.i64 ((↑(List.length l) : Int) + (3 : Int))))
  (Rq (decide (IntKind.wrap IntKind.i64 ((↑(List.length l) : Int) + (3 : Int)) ≤ IntKind.wrap IntKind.i64 ((↑(List.length l) : Int) + (3 : Int))))
    (Rq (decide (IntKind.wrap IntKind.i64 ((↑(List.length l) : Int) + (3 : Int)) * (1 : Int) ≤ (140737488355328 : Int)))
      (Rq (Nat.ble ((0 : Nat) + Int.toNat (IntKind.wrap IntKind.i64 ((↑(List.length l) : Int) + (3 : Int))) * (1 : Nat)) (List.length (List.replicate (Int.toNat (IntKind.wrap IntKind.i64 ((↑(List.length l) : Int) + (3 : Int)))) (0 : Int))))
        (View.mk (31 : Nat) [some (AV.roi IntKind.u8 l), some (AV.sl (3 : Nat) (0 : Nat) (Int.toNat (IntKind.wrap IntKind.i64 ((↑(List.length l) : Int) + (3 : Int)))) (Int.toNat (IntKind.wrap IntKind.i64 ((↑(List.length l) : Int) + (3 : Int)))) (1 : Nat)), some (AV.int IntKind.i64 (↑(List.length l) : Int))]
              [none, none, none,
                some
                  (Blk.ints IntKind.u8
                    (List.take (0 : Nat) (List.replicate (Int.toNat (IntKind.wrap IntKind.i64 ((↑(List.length l) : Int) + (3 : Int)))) (0 : Int)) ++ List.take (Nat.min (List.length l) (Int.toNat (IntKind.wrap IntKind.i64 ((↑(List.length l) : Int) + (3 : Int)))) * (1 : Nat)) l ++
                      List.drop ((0 : Nat) + Nat.min (List.length l) (Int.toNat (IntKind.wrap IntKind.i64 ((↑(List.length l) : Int) + (3 : Int)))) * (1 : Nat)) (List.replicate (Int.toNat (IntKind.wrap IntKind.i64 ((↑(List.length l) : Int) + (3 : Int)))) (0 : Int)))
                    false)]
              [(3 : Nat), (3 : Nat)] =
            View.mk (31 : Nat) [some (AV.roi IntKind.u8 l), some (AV.sl (3 : Nat) (0 : Nat) (List.length l + (3 : Nat)) (List.length l + (3 : Nat)) (1 : Nat)), some (AV.int IntKind.i64 (↑(List.length l) : Int))] [none, none, none, some (Blk.ints IntKind.u8 B false)] [(3 : Nat), (3 : Nat)] ∧
          Rq (decide ((↑(List.length l) : Int) ≤ (↑(List.length l + (3 : Nat)) : Int))) (k (AV.sl (3 : Nat) (0 : Nat) (Int.toNat (↑(List.length l) : Int)) (List.length l + (3 : Nat)) (1 : Nat)) [none, none, none, some (Blk.ints IntKind.u8 B' false)] [(3 : Nat), (3 : Nat)])))))) := by kernel_rfl

end Go.Proofs.Ytmdkhdfckdkceaa.TdAm
