/- What the functions on numbers of bytes ask, reckoned. -/
import Derived.Test.YtmdkhdfckdkceaaKitP
namespace Go.Proofs.Ytmdkhdfckdkceaa.TdAm
open Go Go.RowKit
set_option maxRecDepth 100000

theorem lay_vc (n size : Int) (k : Post) : funW CC noS 100 noL 26 [.int .u64 n, .int .i64 size] [] k = (Rq (decide ((0 : Int) ≤ size))
  (Rq (decide (size ≤ (8 : Int)))
    (Rq (Nat.ble (((0 : Nat) + Int.toNat size) * (1 : Nat)) (35184372088832 : Nat))
      (Rq (Nat.ble ((0 : Nat) + Int.toNat size * (1 : Nat)) (8 : Nat))
        (k (AV.sl (5 : Nat) (0 : Nat) ((0 : Nat) + Int.toNat size) ((0 : Nat) + Int.toNat size) (1 : Nat))
          [some
              (Blk.ints IntKind.u8
                [IntKind.wrap IntKind.u8 (Int.fdiv n (1 : Int)), IntKind.wrap IntKind.u8 (Int.fdiv n (256 : Int)), IntKind.wrap IntKind.u8 (Int.fdiv n (65536 : Int)), IntKind.wrap IntKind.u8 (Int.fdiv n (16777216 : Int)), IntKind.wrap IntKind.u8 (Int.fdiv n (4294967296 : Int)), IntKind.wrap IntKind.u8 (Int.fdiv n (1099511627776 : Int)), IntKind.wrap IntKind.u8 (Int.fdiv n (281474976710656 : Int)),
                  IntKind.wrap IntKind.u8 (Int.fdiv n (72057594037927936 : Int))]
                false),
            some Blk.dead, none, none, none,
            some
              (Blk.ints IntKind.u8
                (List.take (Int.toNat size * (1 : Nat))
                  (List.drop (0 : Nat)
                    (List.set
                      (List.set
                        (List.set
                          (List.set
                            (List.set (List.set (List.set (List.set [(0 : Int), (0 : Int), (0 : Int), (0 : Int), (0 : Int), (0 : Int), (0 : Int), (0 : Int)] (0 : Nat) (IntKind.wrap IntKind.u8 (Int.fdiv n (1 : Int)))) (1 : Nat) (IntKind.wrap IntKind.u8 (Int.fdiv n (256 : Int)))) (2 : Nat) (IntKind.wrap IntKind.u8 (Int.fdiv n (65536 : Int)))) (3 : Nat)
                              (IntKind.wrap IntKind.u8 (Int.fdiv n (16777216 : Int))))
                            (4 : Nat) (IntKind.wrap IntKind.u8 (Int.fdiv n (4294967296 : Int))))
                          (5 : Nat) (IntKind.wrap IntKind.u8 (Int.fdiv n (1099511627776 : Int))))
                        (6 : Nat) (IntKind.wrap IntKind.u8 (Int.fdiv n (281474976710656 : Int))))
                      (7 : Nat) (IntKind.wrap IntKind.u8 (Int.fdiv n (72057594037927936 : Int))))))
                true)]
          [(0 : Nat), (0 : Nat), (0 : Nat), (0 : Nat), (0 : Nat), (0 : Nat), (0 : Nat), (0 : Nat), (0 : Nat), (1 : Nat), (1 : Nat), (5 : Nat)]))))) := by kernel_rfl

/-- The head of the reference's loop that tells bytes. -/
def rbHd (B : List Int) (n size i : Int) (m : Nat) : View := ⟨21, [some (.int .u64 n), some (.int .i64 size), some (.sl 0 0 m m 1), some (.int .i64 i)], [some (.ints .u8 B true)], []⟩
def rbIn (n size : Int) : View := ⟨21, [some (.int .u64 n), some (.int .i64 size), some .nils, some (.int .i64 0)], [], []⟩
def rbL (n size : Int) (B : List Int) (n' : Int) (m : Nat) : LSpec := fun id s => match Nat.beq id 0 with
  | true => some fun k => (obs [0, 1, 5, 6] s = rbIn n size) ∧ k .normal (stV [0, 1, 5, 6] (rbHd B n' size size m))
  | false => none

theorem rb_round (B : List Int) (n size i : Int) (m : Nat) (K : Out → View → Prop) : wpA CC noS 60 noL (loopAt CC 27 0) (stV [0, 1, 5, 6] (rbHd B n size i m)) (fun o s => K o (obs [0, 1, 5, 6] s)) = (Br (decide (i < size))
  (Rq (Nat.ble ((m + (1 : Nat)) * (1 : Nat)) (35184372088832 : Nat))
    (Rq (Nat.ble ((0 : Nat) + m * (1 : Nat)) (List.length B))
      (K Out.normal
        (View.mk (21 : Nat) [some (AV.int IntKind.u64 (IntKind.wrap IntKind.u64 (Int.tdiv n (256 : Int)))), some (AV.int IntKind.i64 size), some (AV.sl (7 : Nat) (0 : Nat) (m + (1 : Nat)) (m + (1 : Nat)) (1 : Nat)), some (AV.int IntKind.i64 (IntKind.wrap IntKind.i64 (i + (1 : Int))))]
          [some Blk.dead, none, none, none, none, some (Blk.ints IntKind.u8 [IntKind.wrap IntKind.u8 (Int.tmod n (256 : Int))] false), none, some (Blk.ints IntKind.u8 (List.take (m * (1 : Nat)) (List.drop (0 : Nat) B) ++ List.take (1 : Nat) (List.drop (0 : Nat) [IntKind.wrap IntKind.u8 (Int.tmod n (256 : Int))])) true)] [(5 : Nat), (0 : Nat), (7 : Nat)]))))
  (K (Out.exit (0 : Nat)) (View.mk (21 : Nat) [some (AV.int IntKind.u64 n), some (AV.int IntKind.i64 size), some (AV.sl (0 : Nat) (0 : Nat) m m (1 : Nat)), some (AV.int IntKind.i64 i)] [some (Blk.ints IntKind.u8 B true)] []))) := by kernel_rfl

theorem rb_vc (n size : Int) (B : List Int) (n' : Int) (m : Nat) (k : Post) : funW CC noS 60 (rbL n size B n' m) 27 [.int .u64 n, .int .i64 size] [] k = (View.mk (21 : Nat) [some (AV.int IntKind.u64 n), some (AV.int IntKind.i64 size), some AV.nils, some (AV.int IntKind.i64 (0 : Int))] [] [] = View.mk (21 : Nat) [some (AV.int IntKind.u64 n), some (AV.int IntKind.i64 size), some AV.nils, some (AV.int IntKind.i64 (0 : Int))] [] [] ∧ k (AV.sl (0 : Nat) (0 : Nat) m m (1 : Nat)) [some (Blk.ints IntKind.u8 B true)] []) := by kernel_rfl

/-- The head of the loop that reads 64 bits. -/
def g64Hd (l : List Int) (at_ size n i : Int) : View := ⟨58, [some (.int .i64 at_), some (.int .i64 size), some (.ptr 2 0), some (.int .u64 n), some (.roi .u8 l), some (.int .i64 l.length), some (.int .i64 i)], [none, none, some (.ints .i64 [0, 0] false)], [2]⟩
def g64L (l : List Int) (at_ size n : Int) : LSpec := fun id s => match Nat.beq id 1 with
  | true => some fun k => (obs [1, 2, 8, 9, 38, 39, 40] s = g64Hd l at_ size 0 0) ∧ k .normal (stV [1, 2, 8, 9, 38, 39, 40] (g64Hd l at_ size n l.length))
  | false => none

theorem g64_round (l : List Int) (at_ size n i : Int) (K : Out → View → Prop) : wpA CC noS 60 noL (loopAt CC 28 1) (stV [1, 2, 8, 9, 38, 39, 40] (g64Hd l at_ size n i)) (fun o s => K o (obs [1, 2, 8, 9, 38, 39, 40] s)) = (Br (decide (i < (↑(List.length l) : Int)))
  (Rq (decide ((0 : Int) ≤ i))
    (Rq (decide (i < (↑(List.length l) : Int)))
      (Rq (decide ((0 : Int) ≤ IntKind.wrap IntKind.i64 ((8 : Int) * i)))
        (K Out.normal
          (View.mk (58 : Nat)
            [some (AV.int IntKind.i64 at_), some (AV.int IntKind.i64 size), some (AV.ptr (2 : Nat) (0 : Nat)), some (AV.int IntKind.u64 (bits BinOp.or IntKind.u64 n (IntKind.wrap IntKind.u64 (IntKind.wrap IntKind.u64 (List.getD l (Int.toNat i) (0 : Int)) * (2 : Int) ^ min (Int.toNat (IntKind.wrap IntKind.i64 ((8 : Int) * i))) (64 : Nat))))), some (AV.roi IntKind.u8 l),
              some (AV.int IntKind.i64 (↑(List.length l) : Int)), some (AV.int IntKind.i64 (IntKind.wrap IntKind.i64 (i + (1 : Int))))]
            [none, none, some (Blk.ints IntKind.i64 [(0 : Int), (0 : Int)] false)] [(2 : Nat)])))))
  (K (Out.exit (1 : Nat)) (View.mk (58 : Nat) [some (AV.int IntKind.i64 at_), some (AV.int IntKind.i64 size), some (AV.ptr (2 : Nat) (0 : Nat)), some (AV.int IntKind.u64 n), some (AV.roi IntKind.u8 l), some (AV.int IntKind.i64 (↑(List.length l) : Int)), some (AV.int IntKind.i64 i)] [none, none, some (Blk.ints IntKind.i64 [(0 : Int), (0 : Int)] false)] [(2 : Nat)]))) := by kernel_rfl

theorem g64_vc (l m : List Int) (at_ size n : Int) (k : Post) : funW CC noS 60 (g64L m at_ size n) 28 [.roi .u8 l, .int .i64 at_, .int .i64 size] [] k = (Br (decide (at_ < (0 : Int))) (k (AV.tup [AV.int IntKind.u64 (0 : Int), AV.int IntKind.i64 (0 : Int), AV.agg [AV.int IntKind.i64 (5 : Int), AV.int IntKind.i64 (0 : Int)]]) [none, none, some (Blk.ints IntKind.i64 [(5 : Int), (0 : Int)] false)] [(2 : Nat), (2 : Nat)])
  (Br (decide (at_ > (↑(List.length l) : Int))) (k (AV.tup [AV.int IntKind.u64 (0 : Int), AV.int IntKind.i64 (0 : Int), AV.agg [AV.int IntKind.i64 (5 : Int), AV.int IntKind.i64 (0 : Int)]]) [none, none, some (Blk.ints IntKind.i64 [(5 : Int), (0 : Int)] false)] [(2 : Nat), (2 : Nat)])
    (Br (decide (IntKind.wrap IntKind.i64 ((↑(List.length l) : Int) - at_) < size))
      (k (AV.tup [AV.int IntKind.u64 (0 : Int), AV.int IntKind.i64 (0 : Int), AV.agg [AV.int IntKind.i64 (List.getD (List.set (List.set [(0 : Int), (0 : Int)] (0 : Nat) (4 : Int)) (1 : Nat) (↑(List.length l) : Int)) (0 : Nat) (0 : Int)), AV.int IntKind.i64 (List.getD (List.set (List.set [(0 : Int), (0 : Int)] (0 : Nat) (4 : Int)) (1 : Nat) (↑(List.length l) : Int)) (1 : Nat) (0 : Int))]])
        [none, none, some (Blk.ints IntKind.i64 [(4 : Int), (↑(List.length l) : Int)] false)] [(2 : Nat), (2 : Nat)])
      (Rq (decide ((0 : Int) ≤ at_))
        (Rq (decide (at_ ≤ IntKind.wrap IntKind.i64 (at_ + size)))
          (Rq (decide (IntKind.wrap IntKind.i64 (at_ + size) ≤ (↑(List.length l) : Int)))
            (View.mk (58 : Nat)
                  [some (AV.int IntKind.i64 at_), some (AV.int IntKind.i64 size), some (AV.ptr (2 : Nat) (0 : Nat)), some (AV.int IntKind.u64 (0 : Int)), some (AV.roi IntKind.u8 (List.drop (Int.toNat at_) (List.take (Int.toNat (IntKind.wrap IntKind.i64 (at_ + size))) l))),
                    some (AV.int IntKind.i64 (↑(List.length (List.drop (Int.toNat at_) (List.take (Int.toNat (IntKind.wrap IntKind.i64 (at_ + size))) l))) : Int)), some (AV.int IntKind.i64 (0 : Int))]
                  [none, none, some (Blk.ints IntKind.i64 [(0 : Int), (0 : Int)] false)] [(2 : Nat)] =
                View.mk (58 : Nat) [some (AV.int IntKind.i64 at_), some (AV.int IntKind.i64 size), some (AV.ptr (2 : Nat) (0 : Nat)), some (AV.int IntKind.u64 (0 : Int)), some (AV.roi IntKind.u8 m), some (AV.int IntKind.i64 (↑(List.length m) : Int)), some (AV.int IntKind.i64 (0 : Int))] [none, none, some (Blk.ints IntKind.i64 [(0 : Int), (0 : Int)] false)] [(2 : Nat)] ∧
              k (AV.tup [AV.int IntKind.u64 n, AV.int IntKind.i64 (IntKind.wrap IntKind.i64 (at_ + size)), AV.agg [AV.int IntKind.i64 (0 : Int), AV.int IntKind.i64 (0 : Int)]]) [none, none, some (Blk.ints IntKind.i64 [(0 : Int), (0 : Int)] false)] [(2 : Nat), (2 : Nat)]))))))) := by kernel_rfl

/-- The head of the loop that reads 32 bits. -/
def g32Hd (l : List Int) (at_ size n i : Int) : View := ⟨58, [some (.int .i64 at_), some (.int .i64 size), some (.ptr 2 0), some (.int .u32 n), some (.roi .u8 l), some (.int .i64 l.length), some (.int .i64 i)], [none, none, some (.ints .i64 [0, 0] false)], [2]⟩
def g32L (l : List Int) (at_ size n : Int) : LSpec := fun id s => match Nat.beq id 1 with
  | true => some fun k => (obs [1, 2, 8, 9, 38, 39, 40] s = g32Hd l at_ size 0 0) ∧ k .normal (stV [1, 2, 8, 9, 38, 39, 40] (g32Hd l at_ size n l.length))
  | false => none

theorem g32_round (l : List Int) (at_ size n i : Int) (K : Out → View → Prop) : wpA CC noS 60 noL (loopAt CC 30 1) (stV [1, 2, 8, 9, 38, 39, 40] (g32Hd l at_ size n i)) (fun o s => K o (obs [1, 2, 8, 9, 38, 39, 40] s)) = (Br (decide (i < (↑(List.length l) : Int)))
  (Rq (decide ((0 : Int) ≤ i))
    (Rq (decide (i < (↑(List.length l) : Int)))
      (Rq (decide ((0 : Int) ≤ IntKind.wrap IntKind.i64 ((8 : Int) * i)))
        (K Out.normal
          (View.mk (58 : Nat)
            [some (AV.int IntKind.i64 at_), some (AV.int IntKind.i64 size), some (AV.ptr (2 : Nat) (0 : Nat)), some (AV.int IntKind.u32 (bits BinOp.or IntKind.u32 n (IntKind.wrap IntKind.u32 (IntKind.wrap IntKind.u32 (List.getD l (Int.toNat i) (0 : Int)) * (2 : Int) ^ min (Int.toNat (IntKind.wrap IntKind.i64 ((8 : Int) * i))) (32 : Nat))))), some (AV.roi IntKind.u8 l),
              some (AV.int IntKind.i64 (↑(List.length l) : Int)), some (AV.int IntKind.i64 (IntKind.wrap IntKind.i64 (i + (1 : Int))))]
            [none, none, some (Blk.ints IntKind.i64 [(0 : Int), (0 : Int)] false)] [(2 : Nat)])))))
  (K (Out.exit (1 : Nat)) (View.mk (58 : Nat) [some (AV.int IntKind.i64 at_), some (AV.int IntKind.i64 size), some (AV.ptr (2 : Nat) (0 : Nat)), some (AV.int IntKind.u32 n), some (AV.roi IntKind.u8 l), some (AV.int IntKind.i64 (↑(List.length l) : Int)), some (AV.int IntKind.i64 i)] [none, none, some (Blk.ints IntKind.i64 [(0 : Int), (0 : Int)] false)] [(2 : Nat)]))) := by kernel_rfl

theorem g32_vc (l m : List Int) (at_ size n : Int) (k : Post) : funW CC noS 60 (g32L m at_ size n) 30 [.roi .u8 l, .int .i64 at_, .int .i64 size] [] k = (Br (decide (at_ < (0 : Int))) (k (AV.tup [AV.int IntKind.u32 (0 : Int), AV.int IntKind.i64 (0 : Int), AV.agg [AV.int IntKind.i64 (5 : Int), AV.int IntKind.i64 (0 : Int)]]) [none, none, some (Blk.ints IntKind.i64 [(5 : Int), (0 : Int)] false)] [(2 : Nat), (2 : Nat)])
  (Br (decide (at_ > (↑(List.length l) : Int))) (k (AV.tup [AV.int IntKind.u32 (0 : Int), AV.int IntKind.i64 (0 : Int), AV.agg [AV.int IntKind.i64 (5 : Int), AV.int IntKind.i64 (0 : Int)]]) [none, none, some (Blk.ints IntKind.i64 [(5 : Int), (0 : Int)] false)] [(2 : Nat), (2 : Nat)])
    (Br (decide (IntKind.wrap IntKind.i64 ((↑(List.length l) : Int) - at_) < size))
      (k (AV.tup [AV.int IntKind.u32 (0 : Int), AV.int IntKind.i64 (0 : Int), AV.agg [AV.int IntKind.i64 (List.getD (List.set (List.set [(0 : Int), (0 : Int)] (0 : Nat) (4 : Int)) (1 : Nat) (↑(List.length l) : Int)) (0 : Nat) (0 : Int)), AV.int IntKind.i64 (List.getD (List.set (List.set [(0 : Int), (0 : Int)] (0 : Nat) (4 : Int)) (1 : Nat) (↑(List.length l) : Int)) (1 : Nat) (0 : Int))]])
        [none, none, some (Blk.ints IntKind.i64 [(4 : Int), (↑(List.length l) : Int)] false)] [(2 : Nat), (2 : Nat)])
      (Rq (decide ((0 : Int) ≤ at_))
        (Rq (decide (at_ ≤ IntKind.wrap IntKind.i64 (at_ + size)))
          (Rq (decide (IntKind.wrap IntKind.i64 (at_ + size) ≤ (↑(List.length l) : Int)))
            (View.mk (58 : Nat)
                  [some (AV.int IntKind.i64 at_), some (AV.int IntKind.i64 size), some (AV.ptr (2 : Nat) (0 : Nat)), some (AV.int IntKind.u32 (0 : Int)), some (AV.roi IntKind.u8 (List.drop (Int.toNat at_) (List.take (Int.toNat (IntKind.wrap IntKind.i64 (at_ + size))) l))),
                    some (AV.int IntKind.i64 (↑(List.length (List.drop (Int.toNat at_) (List.take (Int.toNat (IntKind.wrap IntKind.i64 (at_ + size))) l))) : Int)), some (AV.int IntKind.i64 (0 : Int))]
                  [none, none, some (Blk.ints IntKind.i64 [(0 : Int), (0 : Int)] false)] [(2 : Nat)] =
                View.mk (58 : Nat) [some (AV.int IntKind.i64 at_), some (AV.int IntKind.i64 size), some (AV.ptr (2 : Nat) (0 : Nat)), some (AV.int IntKind.u32 (0 : Int)), some (AV.roi IntKind.u8 m), some (AV.int IntKind.i64 (↑(List.length m) : Int)), some (AV.int IntKind.i64 (0 : Int))] [none, none, some (Blk.ints IntKind.i64 [(0 : Int), (0 : Int)] false)] [(2 : Nat)] ∧
              k (AV.tup [AV.int IntKind.u32 n, AV.int IntKind.i64 (IntKind.wrap IntKind.i64 (at_ + size)), AV.agg [AV.int IntKind.i64 (0 : Int), AV.int IntKind.i64 (0 : Int)]]) [none, none, some (Blk.ints IntKind.i64 [(0 : Int), (0 : Int)] false)] [(2 : Nat), (2 : Nat)]))))))) := by kernel_rfl

/-- The head of the reference's loop that reads. -/
def rgHd (l : List Int) (at_ size n i : Int) : View := ⟨50, [some (.roi .u8 l), some (.int .i64 at_), some (.int .i64 size), some (.ptr 2 0), some (.int .u64 n), some (.int .i64 i)], [none, none, some (.ints .i64 [0, 0] false)], [2]⟩
def rgL (l : List Int) (at_ size n : Int) (G : Prop) : LSpec := fun id s => match Nat.beq id 0 with
  | true => some fun k => (obs [0, 1, 2, 8, 9, 10] s = rgHd l at_ size 0 (size - 1)) ∧ G ∧ k .normal (stV [0, 1, 2, 8, 9, 10] (rgHd l at_ size n (-1)))
  | false => none

theorem rg_round (l : List Int) (at_ size n i : Int) (K : Out → View → Prop) : wpA CC noS 60 noL (loopAt CC 29 0) (stV [0, 1, 2, 8, 9, 10] (rgHd l at_ size n i)) (fun o s => K o (obs [0, 1, 2, 8, 9, 10] s)) = (Br (decide (i ≥ (0 : Int)))
  (Rq (decide ((0 : Int) ≤ IntKind.wrap IntKind.i64 (at_ + i)))
    (Rq (decide (IntKind.wrap IntKind.i64 (at_ + i) < (↑(List.length l) : Int)))
      (K Out.normal
        (View.mk (50 : Nat)
          [some (AV.roi IntKind.u8 l), some (AV.int IntKind.i64 at_), some (AV.int IntKind.i64 size), some (AV.ptr (2 : Nat) (0 : Nat)), some (AV.int IntKind.u64 (IntKind.wrap IntKind.u64 (IntKind.wrap IntKind.u64 ((256 : Int) * n) + IntKind.wrap IntKind.u64 (List.getD l (Int.toNat (IntKind.wrap IntKind.i64 (at_ + i))) (0 : Int))))),
            some (AV.int IntKind.i64 (IntKind.wrap IntKind.i64 (i - (1 : Int))))]
          [none, none, some (Blk.ints IntKind.i64 [(0 : Int), (0 : Int)] false)] [(2 : Nat)]))))
  (K (Out.exit (0 : Nat)) (View.mk (50 : Nat) [some (AV.roi IntKind.u8 l), some (AV.int IntKind.i64 at_), some (AV.int IntKind.i64 size), some (AV.ptr (2 : Nat) (0 : Nat)), some (AV.int IntKind.u64 n), some (AV.int IntKind.i64 i)] [none, none, some (Blk.ints IntKind.i64 [(0 : Int), (0 : Int)] false)] [(2 : Nat)]))) := by kernel_rfl

theorem rg_vc (l : List Int) (at_ size n : Int) (G : Prop) (k : Post) : funW CC noS 60 (rgL l at_ size n G) 29 [.roi .u8 l, .int .i64 at_, .int .i64 size] [] k = (Br (decide (at_ < (0 : Int))) (k (AV.tup [AV.int IntKind.u64 (0 : Int), AV.int IntKind.i64 (0 : Int), AV.agg [AV.int IntKind.i64 (5 : Int), AV.int IntKind.i64 (0 : Int)]]) [none, none, some (Blk.ints IntKind.i64 [(5 : Int), (0 : Int)] false)] [(2 : Nat), (2 : Nat)])
  (Br (decide (at_ > (↑(List.length l) : Int))) (k (AV.tup [AV.int IntKind.u64 (0 : Int), AV.int IntKind.i64 (0 : Int), AV.agg [AV.int IntKind.i64 (5 : Int), AV.int IntKind.i64 (0 : Int)]]) [none, none, some (Blk.ints IntKind.i64 [(5 : Int), (0 : Int)] false)] [(2 : Nat), (2 : Nat)])
    (Br (decide (IntKind.wrap IntKind.i64 ((↑(List.length l) : Int) - at_) < size))
      (k (AV.tup [AV.int IntKind.u64 (0 : Int), AV.int IntKind.i64 (0 : Int), AV.agg [AV.int IntKind.i64 (List.getD (List.set (List.set [(0 : Int), (0 : Int)] (0 : Nat) (4 : Int)) (1 : Nat) (↑(List.length l) : Int)) (0 : Nat) (0 : Int)), AV.int IntKind.i64 (List.getD (List.set (List.set [(0 : Int), (0 : Int)] (0 : Nat) (4 : Int)) (1 : Nat) (↑(List.length l) : Int)) (1 : Nat) (0 : Int))]])
        [none, none, some (Blk.ints IntKind.i64 [(4 : Int), (↑(List.length l) : Int)] false)] [(2 : Nat), (2 : Nat)])
      (View.mk (50 : Nat) [some (AV.roi IntKind.u8 l), some (AV.int IntKind.i64 at_), some (AV.int IntKind.i64 size), some (AV.ptr (2 : Nat) (0 : Nat)), some (AV.int IntKind.u64 (0 : Int)), some (AV.int IntKind.i64 (IntKind.wrap IntKind.i64 (size - (1 : Int))))] [none, none, some (Blk.ints IntKind.i64 [(0 : Int), (0 : Int)] false)] [(2 : Nat)] =
          View.mk (50 : Nat) [some (AV.roi IntKind.u8 l), some (AV.int IntKind.i64 at_), some (AV.int IntKind.i64 size), some (AV.ptr (2 : Nat) (0 : Nat)), some (AV.int IntKind.u64 (0 : Int)), some (AV.int IntKind.i64 (size - (1 : Int)))] [none, none, some (Blk.ints IntKind.i64 [(0 : Int), (0 : Int)] false)] [(2 : Nat)] ∧
        G ∧ k (AV.tup [AV.int IntKind.u64 n, AV.int IntKind.i64 (IntKind.wrap IntKind.i64 (at_ + size)), AV.agg [AV.int IntKind.i64 (0 : Int), AV.int IntKind.i64 (0 : Int)]]) [none, none, some (Blk.ints IntKind.i64 [(0 : Int), (0 : Int)] false)] [(2 : Nat), (2 : Nat)])))) := by kernel_rfl

end Go.Proofs.Ytmdkhdfckdkceaa.TdAm
