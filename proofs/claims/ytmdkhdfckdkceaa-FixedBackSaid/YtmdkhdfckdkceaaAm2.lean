/- The abstract machine, part 2: what each operation does to abstract values (definitions alone). -/
import Derived.Test.YtmdkhdfckdkceaaAm1
import Derived.Laws.Entries
namespace Go.Proofs.Ytmdkhdfckdkceaa.TdAm
open Go Go.RowKit
set_option linter.unusedVariables false
set_option linter.unusedSimpArgs false

structure Cx where
  P : Program
  glob : Nat → Option Blk

/-- Side conditions, gathered. -/
inductive Chk where
  | lt (a b : Int)
  | le (a b : Int)
  | nlt (a b : Nat)
  | nle (a b : Nat)
  | ne (a b : Int)
  | tt (b c : Bool)
  | pr (p : Prop)

def Chk.ok : Chk → Prop
  | .lt a b => a < b
  | .le a b => a ≤ b
  | .nlt a b => a < b
  | .nle a b => a ≤ b
  | .ne a b => a ≠ b
  | .tt b c => b = c
  | .pr p => p
def Chk.test : Chk → Bool
  | .lt a b => decide (a < b)
  | .le a b => decide (a ≤ b)
  | .nlt a b => Nat.blt a b
  | .nle a b => Nat.ble a b
  | .ne a b => !(decide (a = b))
  | .tt b c => b == c
  | .pr _ => false
def oks : List Chk → Prop
  | [] => True
  | c :: r => c.ok ∧ oks r
def tests : List Chk → Bool
  | [] => true
  | c :: r => c.test && tests r
theorem Chk.ok_of_test {c : Chk} (h : c.test = true) : c.ok := by
  cases c <;> simp_all [Chk.test, Chk.ok, Nat.blt_eq, Nat.ble_eq]
theorem oks_of_tests : ∀ {l : List Chk}, tests l = true → oks l
  | [], _ => trivial
  | c :: r, h => by
    simp [tests] at h
    exact ⟨Chk.ok_of_test h.1, oks_of_tests h.2⟩
theorem oks_append : ∀ {l m : List Chk}, oks (l ++ m) ↔ oks l ∧ oks m
  | [], m => by simp [oks]
  | c :: r, m => by simp [oks, oks_append (l := r), and_assoc]

/-- Constants and zero values. -/
def ofVs (f : Value → Option AV) : List Value → Option (List AV)
  | [] => some []
  | v :: r => match f v, ofVs f r with
    | some x, some y => some (x :: y)
    | _, _ => none
def ofV : Nat → Value → Option AV
  | _, .int k n => some (.int k n)
  | _, .bool b => some (.bool b)
  | _, .string s => some (.str s)
  | _, .pointer none => some .nilp
  | _, .slice none 0 0 => some .nils
  | _, .map none => some .nilm
  | _, .nilFunc => some .nilf
  | d + 1, .agg us => (ofVs (ofV d) us.toList).map .agg
  | _, _ => none

def aev (t : List (Option AV)) : Operand → Option AV
  | .tmp i => t.getD i none
  | .const v => ofV 6 v
  | .global g => some (.gptr g 0)
  | .func f => some (.fn f [])
def aevs (t : List (Option AV)) : List Operand → Option (List AV)
  | [] => some []
  | x :: r => match aev t x, aevs t r with
    | some v, some l => some (v :: l)
    | _, _ => none

def AV.cells : AV → List AV
  | .agg cs => cs
  | v => [v]
def AV.one : AV → Bool
  | .agg _ => false
  | .tup _ => false
  | _ => true
def allOne : List AV → Bool
  | [] => true
  | v :: r => v.one && allOne r

def intsOf (k : IntKind) : List AV → Option (List Int)
  | [] => some []
  | .int k' n :: r => match decide (k = k'), intsOf k r with
    | true, some l => some (n :: l)
    | _, _ => none
  | _ :: _ => none
def mkBlk (cells : List AV) (opn : Bool) : Blk :=
  match cells with
  | .int k n :: r => match intsOf k r with
    | some l => .ints k (n :: l) opn
    | none => .vals cells opn (allShut cells)
  | _ => .vals cells opn (allShut cells)

def tsize (P : Program) (t : TypeId) : Option Nat := (P.info? t).map (·.size)
def tagg (P : Program) (t : TypeId) : Option Bool := match P.underlying t with
  | some (.struct _) | some (.array _ _) => some true
  | some _ => some false
  | none => none
def tzero (P : Program) (t : TypeId) : Option AV := match (P.info? t).bind (·.zero) with
  | some v => ofV 6 v
  | none => none
def Blk.read (x : Blk) (o z : Nat) : List AV := (List.range z).map fun j => x.cell (o + j)
def lread (l : List AV) (o z : Nat) : List AV := (List.range z).map fun j => l.getD (o + j) .nilp

def setFrom {α : Type} (l : List α) (o : Nat) : List α → List α
  | [] => l
  | n :: r => setFrom (l.set o n) (o + 1) r
def Blk.put (x : Blk) (o : Nat) (vs : List AV) : Option Blk :=
  match x with
  | .ints k l p => match intsOf k vs with
    | some ns => some (.ints k (setFrom l o ns) p)
    | none => none
  | .vals l p pu => some (.vals (setFrom l o vs) p (pu && allShut vs))
  | _ => none

/-- What an operation comes to. -/
inductive Res where
  | val (v : AV)
  | new (v : AV) (x : Blk)
  | write (b : Nat) (x : Blk) (v : AV)
  | amb (b : Nat) (x : Blk) (v : AV)
  | call (f : FuncId) (args : List AV)

abbrev ORes := Option (Res × List Chk)

def vundef : AV := .tup []

def partA (P : Program) (t : TypeId) (cs : List AV) (off : Nat) : Option AV :=
  match tagg P t, tsize P t with
  | some true, some z => some (.agg ((cs.drop off).take z))
  | some false, some _ => some (cs.getD off .nilp)
  | _, _ => none
def partC (P : Program) (t : TypeId) (cs : List AV) (off : Nat) : Option AV :=
  match tsize P t with
  | some z => match Nat.ble (off + z) cs.length, Nat.blt 0 z with
    | true, true => partA P t cs off
    | _, _ => none
  | none => none

/-- '==', part by part. -/
def eqFs (P : Program) (eq : TypeId → AV → AV → Option Bool) (xs ys : List AV) : List Field → Option Bool
  | [] => some true
  | f :: fs => match f.name != "_" with
    | true => match partC P f.type xs f.offset, partC P f.type ys f.offset with
      | some a, some b => match eq f.type a b, eqFs P eq xs ys fs with
        | some r, some s => some (r && s)
        | _, _ => none
      | _, _ => none
    | false => eqFs P eq xs ys fs
def eqEs (P : Program) (eq : TypeId → AV → AV → Option Bool) (e : TypeId) (z : Nat) (xs ys : List AV) : Nat → Nat → Option Bool
  | 0, _ => some true
  | n + 1, i => match partC P e xs (i * z), partC P e ys (i * z) with
    | some a, some b => match eq e a b, eqEs P eq e z xs ys n (i + 1) with
      | some r, some s => some (r && s)
      | _, _ => none
    | _, _ => none
def eqA (P : Program) : Nat → TypeId → AV → AV → Option Bool
  | 0, _, _, _ => none
  | d + 1, t, x, y =>
    match P.underlying t, x, y with
    | some (.int _), .int k a, .int k' b => match decide (k = k') with | true => some (decide (a = b)) | false => none
    | some .bool, .bool a, .bool b => some (a == b)
    | some .string, .str a, .str b => some (a.toList == b.toList)
    | some (.pointer _), .nilp, .nilp => some true
    | some (.pointer _), .ptr _ _, .nilp => some false
    | some (.pointer _), .nilp, .ptr _ _ => some false
    | some (.pointer _), .gptr _ _, .nilp => some false
    | some (.pointer _), .roc _, .nilp => some false
    | some (.slice _), .nils, .nils => some true
    | some (.map _ _), .nilm, .nilm => some true
    | some (.map _ _), .mp _, .nilm => some false
    | some (.map _ _), .nilm, .mp _ => some false
    | some (.func _ _ _), .nilf, .nilf => some true
    | some (.func _ _ _), .fn _ _, .nilf => some false
    | some (.func _ _ _), .nilf, .fn _ _ => some false
    | some (.struct fs), .agg xs, .agg ys => match P.stoodInHeld t with
      | false => eqFs P (eqA P d) xs ys fs.toList
      | true => none
    | some (.array n e), .agg xs, .agg ys => match tsize P e with
      | some z => eqEs P (eqA P d) e z xs ys n 0
      | none => none
    | _, _, _ => none

def aint (op : BinOp) (k : IntKind) (a b : Int) : Option (AV × List Chk) :=
  match op with
  | .add => some (.int k (k.wrap (a + b)), [])
  | .sub => some (.int k (k.wrap (a - b)), [])
  | .mul => some (.int k (k.wrap (a * b)), [])
  | .quo => some (.int k (k.wrap (a.tdiv b)), [.ne b 0])
  | .rem => some (.int k (a.tmod b), [.ne b 0])
  | .and => some (.int k (bits .and k a b), [])
  | .or => some (.int k (bits .or k a b), [])
  | .xor => some (.int k (bits .xor k a b), [])
  | .andNot => some (.int k (bits .andNot k a b), [])
  | .eql => some (.bool (decide (a = b)), [])
  | .neq => some (.bool (!decide (a = b)), [])
  | .lss => some (.bool (decide (a < b)), [])
  | .leq => some (.bool (decide (a ≤ b)), [])
  | .gtr => some (.bool (decide (a > b)), [])
  | .geq => some (.bool (decide (a ≥ b)), [])
  | _ => none

def abin (P : Program) (t : TypeId) (op : BinOp) (x y : AV) : Option (AV × List Chk) :=
  match op, x, y with
  | .shl, .int k a, .int _ b => some (.int k (k.wrap (a * 2 ^ (min b.toNat k.bits))), [.le 0 b])
  | .shr, .int k a, .int _ b => some (.int k (a.fdiv (2 ^ (min b.toNat k.bits))), [.le 0 b])
  | op, .int k a, .int k' b => match decide (k = k') with | true => aint op k a b | false => none
  | .add, .str a, .str b => some (.str (a ++ b), [.nle (a.size + b.size) 9223372036854775807])
  | .eql, .str a, .str b => some (.bool (a.toList == b.toList), [])
  | .neq, .str a, .str b => some (.bool (!(a.toList == b.toList)), [])
  | .eql, .agg xs, .agg ys => match P.eqGuardType P.depth t, eqA P 8 t (.agg xs) (.agg ys) with
    | false, some r => some (.bool r, [])
    | _, _ => none
  | .neq, .agg xs, .agg ys => match P.eqGuardType P.depth t, eqA P 8 t (.agg xs) (.agg ys) with
    | false, some r => some (.bool (!r), [])
    | _, _ => none
  | .eql, x, y => match eqA P 8 t x y with | some r => some (.bool r, []) | none => none
  | .neq, x, y => match eqA P 8 t x y with | some r => some (.bool (!r), []) | none => none
  | _, _, _ => none

def aslice (x : AV) (lo hi : Option Int) (z : Nat) : Option (AV × List Chk) :=
  match x with
  | .sl b o n c z' =>
    match decide (z = z'), lo, hi with
    | true, some l, some h => some (.sl b (o + l.toNat * z) (h.toNat - l.toNat) (c - l.toNat) z, [.le 0 l, .le l h, .le h c])
    | true, none, some h => some (.sl b o h.toNat c z, [.le 0 h, .le h c])
    | true, some l, none => some (.sl b (o + l.toNat * z) (n - l.toNat) (c - l.toNat) z, [.le 0 l, .le l n])
    | true, none, none => some (.sl b o n c z, [])
    | _, _, _ => none
  | .roi k l =>
    match Nat.beq z 1, lo, hi with
    | true, some a, some h => some (.roi k ((l.take h.toNat).drop a.toNat), [.le 0 a, .le a h, .le h l.length])
    | true, none, some h => some (.roi k (l.take h.toNat), [.le 0 h, .le h l.length])
    | true, some a, none => some (.roi k (l.drop a.toNat), [.le 0 a, .le a l.length])
    | true, none, none => some (.roi k l, [])
    | _, _, _ => none
  | _ => none

/-- The cells of what is appended or copied, and how many. -/
inductive Src where
  | ints (k : IntKind) (l : List Int)
  | vals (l : List AV) (pu : Bool)
def Src.cell : Src → Nat → AV
  | .ints k l, j => .int k (l.getD j 0)
  | .vals l _, j => l.getD j .nilp
def Src.len : Src → Nat
  | .ints _ l => l.length
  | .vals l _ => l.length
def Src.okS : Src → Prop
  | .ints _ _ => True
  | .vals l pu => ShutL pu l

def srcOf (get : Nat → Option Blk) (z : Nat) : AV → Option (Src × Nat × List Chk)
  | .nils => some (.vals [] true, 0, [])
  | .roi k l => match Nat.beq z 1 with
    | true => some (.ints k l, l.length, [])
    | false => none
  | .str s => match Nat.beq z 1 with
    | true => some (.ints .u8 (s.data.toList.map fun b => (b.toNat : Int)), s.size, [])
    | false => none
  | .sl b o n c z' => match Nat.beq z z', get b with
    | true, some (.ints k l _) => some (.ints k ((l.drop o).take (n * z)), n, [.nle (o + n * z) l.length])
    | true, some (.vals l _ pu) => some (.vals ((l.drop o).take (n * z)) pu, n, [.nle (o + n * z) l.length, .tt (allOne ((l.drop o).take (n * z))) true])
    | _, _ => none
  | _ => none

def joinB (x : Src) (y : Src) : Option Blk :=
  match y with
  | .ints k' m => match x with
    | .ints k l => match decide (k = k') with | true => some (.ints k (l ++ m) true) | false => none
    | .vals l _ => match l with
      | [] => some (.ints k' m true)
      | _ => none
  | .vals m pu' => match x with
    | .ints k l => match intsOf k m with | some ns => some (.ints k (l ++ ns) true) | none => none
    | .vals l pu => some (.vals (l ++ m) true (pu && pu'))

def aappend (P : Program) (get : Nat → Option Blk) (id : Nat) (e : TypeId) (s x : AV) : ORes :=
  match P.info? e, tzero P e, srcOf get ((P.info? e).map (·.size) |>.getD 0) x with
  | some ie, some ze, some (sx, nx, cx) =>
    match Nat.beq ze.cells.length ie.size, Nat.blt 0 ie.size, Nat.blt 0 ie.bytes with
    | true, true, true =>
      match s with
      | .nils => match joinB (.vals [] true) sx with
        | some y => some (.new (.sl id 0 nx nx ie.size) y, .nle (nx * ie.bytes) 35184372088832 :: cx)
        | none => none
      | .sl b o n c z =>
        match srcOf get ie.size (.sl b o n c z) with
        | some (ss, _, cs) => match joinB ss sx with
          | some y => some (.amb b y (.sl id 0 (n + nx) (n + nx) ie.size), .nle ((n + nx) * ie.bytes) 35184372088832 :: (cs ++ cx))
          | none => none
        | none => none
      | _ => none
    | _, _, _ => none
  | _, _, _ => none

def chkKind (x : Option AV) : Option (Option Int) :=   -- a bound of a slice expression
  match x with
  | some (.int _ n) => some (some n)
  | _ => none
def boundOf (ev : Operand → Option AV) : Option Operand → Option (Option Int)
  | none => some none
  | some x => match ev x with
    | some (.int _ n) => some (some n)
    | _ => none

def fieldAt (P : Program) (t : TypeId) (f : Nat) : Option Field := match P.underlying t with
  | some (.struct fs) => fs[f]?
  | _ => none

def evAll (ev : Operand → Option AV) : List Operand → Option (List AV)
  | [] => some []
  | x :: r => match ev x, evAll ev r with
    | some v, some l => some (v :: l)
    | _, _ => none

/-- Parts put over a zero value's cells. -/
def fillA (place : Nat → Option (Nat × Nat)) (ev : Operand → Option AV) (cells : List AV) : List (Nat × Operand) → Option (List AV)
  | [] => some cells
  | (i, x) :: r => match place i, ev x with
    | some (off, z), some v => match Nat.beq v.cells.length z, Nat.ble (off + z) cells.length with
      | true, true => fillA place ev (setFrom cells off v.cells) r
      | _, _ => none
    | _, _ => none

def repl (n : Nat) (cs : List AV) : List AV := match n with
  | 0 => []
  | n + 1 => cs ++ repl n cs

def aload (P : Program) (t : TypeId) (x : Blk) (o : Nat) : ORes :=
  match tagg P t, tsize P t with
  | some true, some z => some (.val (.agg (x.read o z)), [.nle (o + z) x.len])
  | some false, some _ => some (.val (x.cell o), [.nlt o x.len])
  | _, _ => none

/-- k cells of a source, from o on. -/
def copyB (y : Blk) (o : Nat) (x : Src) (k : Nat) : Option Blk :=
  match y, x with
  | .ints kk l p, .ints k' m => match decide (kk = k') with
    | true => some (.ints kk (l.take o ++ m.take k ++ l.drop (o + k)) p)
    | false => none
  | .ints kk l p, .vals m _ => match intsOf kk (m.take k) with
    | some ns => some (.ints kk (l.take o ++ ns ++ l.drop (o + k)) p)
    | none => none
  | .vals l p pu, .vals m pu' => some (.vals (l.take o ++ m.take k ++ l.drop (o + k)) p (pu && pu'))
  | .vals l p pu, .ints k' m => some (.vals (l.take o ++ (m.take k).map (AV.int k') ++ l.drop (o + k)) p pu)
  | _, _ => none

def Blk.shut : Blk → Bool
  | .ints _ _ o => !o
  | .vals _ o _ => !o
  | _ => false

def abuiltin (P : Program) (get : Nat → Option Blk) (id : Nat) (b : Builtin) (ts : List TypeId) (args : List AV) : ORes :=
  match b, args with
  | .len, [.nils] => match ts with | t :: _ => (match P.underlying t with | some (.slice _) => some (.val (.int .i64 0), []) | _ => none) | _ => none
  | .len, [.sl _ _ n _ _] => match ts with | t :: _ => (match P.underlying t with | some (.slice _) => some (.val (.int .i64 n), []) | _ => none) | _ => none
  | .len, [.roi _ l] => match ts with | t :: _ => (match P.underlying t with | some (.slice _) => some (.val (.int .i64 l.length), []) | _ => none) | _ => none
  | .len, [.ros _ n _] => match ts with | t :: _ => (match P.underlying t with | some (.slice _) => some (.val (.int .i64 n), []) | _ => none) | _ => none
  | .len, [.str s] => match ts with | t :: _ => (match P.underlying t with | some .string => some (.val (.int .i64 s.size), []) | _ => none) | _ => none
  | .len, [.agg _] => match ts with | t :: _ => (match P.underlying t with | some (.array n _) => some (.val (.int .i64 n), []) | _ => none) | _ => none
  | .cap, [.sl b _ _ c _] => match ts, get b with
    | t :: _, some x => match P.underlying t with
      | some (.slice _) => match x.shut with | true => some (.val (.int .i64 c), []) | false => none
      | _ => none
    | _, _ => none
  | .min, .int k x :: r => match intsOf k r with | some l => some (.val (.int k (l.foldl (fun x y => if y < x then y else x) x)), []) | none => none
  | .max, .int k x :: r => match intsOf k r with | some l => some (.val (.int k (l.foldl (fun x y => if y > x then y else x) x)), []) | none => none
  | .append, [s, x] => match ts with
    | [t, t1] => match P.underlying t, P.underlying t1 with
      | some (.slice e), some (.slice _) => aappend P get id e s x
      | some (.slice e), some .string => aappend P get id e s x
      | _, _ => none
    | _ => none
  | .copy, [.sl b o n c z, x] => match ts with
    | t :: _ => match P.underlying t with
      | some (.slice e) => match tsize P e with
        | some ze => match Nat.beq z ze, get b, srcOf get z x with
          | true, some y, some (sx, nx, cx) => match copyB y o sx (Nat.min nx n * z) with
            | some y' => some (.write b y' (.int .i64 (Nat.min nx n : Nat)), .nle (o + n * z) y.len :: cx)
            | none => none
          | _, _, _ => none
        | none => none
      | _ => none
    | _ => none
  | _, _ => none

/-- So many zero values. -/
def fillBlk (z : AV) (n : Nat) : Blk := match z with
  | .int k zn => .ints k (List.replicate n zn) false
  | z => .vals (repl n z.cells) false (allShut z.cells)
/-- Bytes as a text. -/
def strOf (l : List Int) : ByteArray := ⟨(l.map fun n => UInt8.ofNat n.toNat).toArray⟩
def AV.isSlice : AV → Bool
  | .sl _ _ _ _ _ => true
  | .roi _ _ => true
  | .nils => true
  | _ => false

/-- One operation. -/
def aop (C : Cx) (get : Nat → Option Blk) (ev : Operand → Option AV) (id : Nat) (o : Oper) : ORes :=
  match o.op with
  | .move x | .assign x => match ev x with | some v => some (.val v, []) | none => none
  | .alloc e => match tzero C.P e with | some z => some (.new (.ptr id 0) (mkBlk z.cells false), []) | none => none
  | .box e x => match ev x with | some v => some (.new (.ptr id 0) (mkBlk v.cells false), []) | none => none
  | .build t parts => match C.P.info? t, C.P.underlying t, tzero C.P t with
    | some _, some (.struct fs), some z => match fs.toList.mapM (fun f => (C.P.info? f.type).map fun i => (f.offset, i.size)) with
      | some places => match fillA (fun i => places.toArray[i]?) ev z.cells parts.toList with
        | some cs => some (.val (.agg cs), [])
        | none => none
      | none => none
    | some _, some (.array _ e), some z => match tsize C.P e with
      | some ze => match fillA (fun i => some (i * ze, ze)) ev z.cells parts.toList with
        | some cs => some (.val (.agg cs), [])
        | none => none
      | none => none
    | _, _, _ => none
  | .buildSlice t len parts => match C.P.underlying t with
    | some (.slice e) => match tsize C.P e, tzero C.P e with
      | some ze, some z => match Nat.blt 0 ze, Nat.beq z.cells.length ze, Nat.ble (len * ze) 65536, fillA (fun i => some (i * ze, ze)) ev (repl len z.cells) parts.toList with
        | true, true, true, some cs => some (.new (.sl id 0 len len ze) (mkBlk cs false), [])
        | _, _, _, _ => none
      | _, _ => none
    | _ => none
  | .load t a => match ev a with
    | some (.ptr b i) => match get b with | some x => aload C.P t x i | none => none
    | some (.gptr g i) => match C.glob g with | some x => aload C.P t x i | none => none
    | some (.roc cells) => match tagg C.P t, tsize C.P t with
      | some true, some z => match Nat.ble z cells.length with | true => some (.val (.agg (cells.take z)), []) | false => none
      | some false, some _ => match Nat.ble 1 cells.length with | true => some (.val (cells.getD 0 .nilp), []) | false => none
      | _, _ => none
    | _ => none
  | .store t a x => match ev a, ev x with
    | some (.ptr b i), some v => match get b, tsize C.P t with
      | some y, some z => match Nat.beq v.cells.length z, allOne v.cells, y.put i v.cells with
        | true, true, some y' => some (.write b y' vundef, [.nle (i + z) y.len])
        | _, _, _ => none
      | _, _ => none
    | _, _ => none
  | .nilCheck x => match ev x with
    | some (.ptr b i) => some (.val (.ptr b i), [])
    | some (.gptr b i) => some (.val (.gptr b i), [])
    | some (.roc cs) => some (.val (.roc cs), [])
    | some (.fn f cs) => some (.val (.fn f cs), [])
    | _ => none
  | .binOp op t x y _ => match ev x, ev y with
    | some a, some b => match abin C.P t op a b with
      | some (v, c) => some (.val v, c)
      | none => none
    | _, _ => none
  | .unOp op _ x => match op, ev x with
    | .neg, some (.int k n) => some (.val (.int k (k.wrap (0 - n))), [])
    | .xor, some (.int k n) => some (.val (.int k (bits .xor k (if k.signed then -1 else k.max) n)), [])
    | .not, some (.bool b) => some (.val (.bool (!b)), [])
    | _, _ => none
  | .convert s d x => match C.P.underlying s, C.P.underlying d, ev x with
    | some (.int _), some (.int k), some (.int _ n) => some (.val (.int k (k.wrap n)), [])
    | some .string, some .string, some (.str b) => some (.val (.str b), [])
    | some .string, some (.slice e), some (.str b) => match C.P.underlying e, C.P.info? e with
      | some (.int .u8), some ie => match Nat.beq ie.size 1, Nat.beq ie.bytes 1 with
        | true, true => some (.new (.sl id 0 b.size b.size 1) (.ints .u8 (b.data.toList.map fun c => (c.toNat : Int)) true), [])
        | _, _ => none
      | _, _ => none
    | some (.slice _), some (.slice e), some (.sl b o n c z) => match C.P.underlying e, decide (s = d), get b with
      | some (.int .u8), true, some y => some (.write b y (.sl b o n c z), [.nlt 0 c, .nlt 0 y.len])
      | _, _, _ => none
    | some (.slice e), some .string, some v => match C.P.underlying e, v.isSlice, srcOf get 1 v with
      | some (.int .u8), true, some (.ints .u8 l, _, c) => some (.val (.str (strOf l)), c)
      | some (.int .u8), true, some (.vals [] _, _, c) => some (.val (.str (strOf [])), c)
      | _, _, _ => none
    | _, _, _ => none
  | .makeFunc (.func f) first captured => match Nat.beq first.size 0, evAll ev captured.toList with
    | true, some cs => some (.val (.fn f cs), [])
    | _, _ => none
  | .makeSlice t l c => match C.P.underlying t, ev l, ev c with
    | some (.slice e), some (.int _ n), some (.int _ m) => match C.P.info? e, tzero C.P e with
      | some ie, some z => match Nat.blt 0 ie.size, Nat.blt 0 ie.bytes, Nat.beq z.cells.length ie.size with
        | true, true, true => some (.new (.sl id 0 n.toNat m.toNat ie.size) (fillBlk z m.toNat), [.le 0 n, .le n m, .le (m * ie.bytes) 140737488355328])
        | _, _, _ => none
      | _, _ => none
    | _, _, _ => none
  | .slice t x lo hi none => match ev x, boundOf ev lo, boundOf ev hi with
    | some v, some l, some h => match C.P.underlying t, v with
      | some (.slice e), v => match tsize C.P e with
        | some z => match aslice v l h z with
          | some (r, c) => some (.val r, c)
          | none => none
        | none => none
      | some (.array n e), .ptr b i => match tsize C.P e, get b with
        | some z, some blk => match Nat.blt 0 z, aslice (.sl b i n n z) l h z with
          | true, some (r, c) => some (.val r, .nle (i + n * z) blk.len :: c)
          | _, _ => none
        | _, _ => none
      | _, _ => none
    | _, _, _ => none
  | .fieldAddr s x f => match ev x, fieldAt C.P s f with
    | some v, some fd => match tsize C.P fd.type with
      | some z => match Nat.blt 0 z, v with
        | true, .ptr b i => some (.val (.ptr b (i + fd.offset)), [])
        | true, .gptr g i => some (.val (.gptr g (i + fd.offset)), [])
        | true, .roc cs => some (.val (.roc (cs.drop fd.offset)), [])
        | _, _ => none
      | none => none
    | _, _ => none
  | .field t x f => match ev x, fieldAt C.P t f with
    | some (.agg cs), some fd => match partC C.P fd.type cs fd.offset with
      | some v => some (.val v, [])
      | none => none
    | _, _ => none
  | .indexAddr t x i => match ev x, ev i with
    | some v, some (.int _ j) => match C.P.underlying t, v with
      | some (.slice e), .sl b o n c z => match tsize C.P e with
        | some ze => match decide (z = ze) with
          | true => some (.val (.ptr b (o + j.toNat * z)), [.le 0 j, .lt j n])
          | false => none
        | none => none
      | some (.slice e), .roi k l => match tsize C.P e with
        | some 1 => some (.val (.roc [.int k (l.getD j.toNat 0)]), [.le 0 j, .lt j l.length])
        | _ => none
      | some (.slice e), .ros z n f => match tsize C.P e with
        | some ze => match decide (z = ze) with
          | true => some (.val (.roc (f j.toNat)), [.le 0 j, .lt j n])
          | false => none
        | none => none
      | some (.array n e), .ptr b o => match tsize C.P e with
        | some z => some (.val (.ptr b (o + j.toNat * z)), [.le 0 j, .lt j n])
        | none => none
      | some (.array n e), .gptr g o => match tsize C.P e with
        | some z => some (.val (.gptr g (o + j.toNat * z)), [.le 0 j, .lt j n])
        | none => none
      | _, _ => none
    | _, _ => none
  | .index t x i => match ev x, ev i with
    | some v, some (.int _ j) => match C.P.underlying t, v with
      | some (.array n e), .agg cs => match tsize C.P e with
        | some z => match Nat.blt 0 z, Nat.beq cs.length (n * z), partA C.P e cs (j.toNat * z) with
          | true, true, some r => some (.val r, [.le 0 j, .lt j n])
          | _, _, _ => none
        | none => none
      | some .string, .str s => some (.val (.int .u8 ((s.data.toList.getD j.toNat 0).toNat : Nat)), [.le 0 j, .lt j s.size])
      | _, _ => none
    | _, _ => none
  | .extract t i => match ev t with
    | some (.tup vs) => match Nat.blt i vs.length with
      | true => some (.val (vs.getD i .nilp), [])
      | false => none
    | _ => none
  | .call c => match evAll ev c.args.toList with
    | none => none
    | some args => match c.callee with
      | .builtin b => abuiltin C.P get id b c.argTypes.toList args
      | .value f => match ev f with
        | some (.fn g caps) => some (.call g (args ++ caps), [])
        | _ => none
      | _ => none
  | _ => none

end Go.Proofs.Ytmdkhdfckdkceaa.TdAm
