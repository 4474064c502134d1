/- The abstract machine, part 14: whole bodies (definitions alone). -/
import Derived.Test.YtmdkhdfckdkceaaAm13
namespace Go.Proofs.Ytmdkhdfckdkceaa.TdAm
open Go Go.RowKit
set_option linter.unusedVariables false
set_option linter.unusedSimpArgs false

structure St where
  t : List (Option AV)
  H : Hp
  wr : List Nat

inductive Out where
  | normal
  | exit (id : Nat)
  | ret
def Out.exitOf : Out → Exit
  | .normal => .normal
  | .exit id => .exit id
  | .ret => .ret

/-- The answers to what is asked on the way: none, and each is worked out. -/
inductive Ans where
  | b (c : Bool)
  | r (v : AV) (L : Hp) (wr : List Nat)
abbrev Path := Option (List Ans)
def chooseB (p : Path) (b : Bool) : Option (Bool × List Chk × Path) := match p with
  | none => some (b, [], none)
  | some (.b c :: r) => some (c, [.tt b c], some r)
  | some _ => none

/-! ### names of blocks -/
def renL (f : AV → Option AV) : List AV → Option (List AV)
  | [] => some []
  | v :: r => match f v, renL f r with
    | some x, some y => some (x :: y)
    | _, _ => none
def ren : Nat → (Nat → Option Nat) → AV → Option AV
  | _, ρ, .ptr b o => match ρ b with | some c => some (.ptr c o) | none => none
  | _, ρ, .sl b o n c z => match ρ b with | some d => some (.sl d o n c z) | none => none
  | _, ρ, .mp b => match ρ b with | some c => some (.mp c) | none => none
  | d + 1, ρ, .fn f cs => match renL (ren d ρ) cs with | some l => some (.fn f l) | none => none
  | d + 1, ρ, .agg cs => match renL (ren d ρ) cs with | some l => some (.agg l) | none => none
  | d + 1, ρ, .tup cs => match renL (ren d ρ) cs with | some l => some (.tup l) | none => none
  | 0, _, .fn _ _ => none
  | 0, _, .agg _ => none
  | 0, _, .tup _ => none
  | _, _, v => some v
def renE (f : AV → Option AV) : List (AV × AV) → Option (List (AV × AV))
  | [] => some []
  | (k, v) :: r => match f k, f v, renE f r with
    | some x, some y, some z => some ((x, y) :: z)
    | _, _, _ => none
def renBlk (ρ : Nat → Option Nat) : Blk → Option Blk
  | .ints k l o => some (.ints k l o)
  | .vals l o pu => match pu with
    | true => some (.vals l o true)
    | false => match renL (ren 4 ρ) l with | some m => some (.vals m o false) | none => none
  | .map es => match renE (ren 4 ρ) es with | some fs => some (.map fs) | none => none
  | .dead => some .dead
def flatR (f : AV → List Nat) : List AV → List Nat
  | [] => []
  | v :: r => f v ++ flatR f r
def refs : Nat → AV → List Nat
  | _, .ptr b _ => [b]
  | _, .sl b _ _ _ _ => [b]
  | _, .mp b => [b]
  | d + 1, .fn _ cs => flatR (refs d) cs
  | d + 1, .agg cs => flatR (refs d) cs
  | d + 1, .tup cs => flatR (refs d) cs
  | _, _ => []
def Blk.refs : Blk → List Nat
  | .vals l _ false => flatR (TdAm.refs 4) l
  | .map es => flatR (TdAm.refs 4) (es.map (·.1)) ++ flatR (TdAm.refs 4) (es.map (·.2))
  | _ => []
def hasN : List Nat → Nat → Bool
  | [], _ => false
  | a :: r, b => Nat.beq a b || hasN r b
def foot : Nat → (Nat → Option Blk) → List Nat → List Nat → Option (List Nat)
  | _, _, [], acc => some acc
  | 0, _, _ :: _, _ => none
  | n + 1, get, b :: r, acc => match hasN acc b with
    | true => foot n get r acc
    | false => match get b with
      | some x => foot n get (r ++ x.refs) (acc ++ [b])
      | none => none
def idx : List Nat → Nat → Nat → Option Nat
  | [], _, _ => none
  | a :: r, b, k => match Nat.beq a b with | true => some k | false => idx r b (k + 1)
/-- Blocks, taken out under new names. -/
def pickH (get : Nat → Option Blk) (ρ : Nat → Option Nat) : List Nat → Option Hp
  | [] => some []
  | b :: r => match get b with
    | some x => match renBlk ρ x, pickH get ρ r with
      | some y, some l => some (some y :: l)
      | _, _ => none
    | none => none
/-- Names back: the first k as they were, the rest from id on. -/
def back (σ : List Nat) (id : Nat) (i : Nat) : Option Nat := match Nat.blt i σ.length with
  | true => some (σ.getD i 0)
  | false => some (id + (i - σ.length))
/-- What is to be written back: the blocks told, and all new ones. -/
def backW (σ : List Nat) (id : Nat) (K : Hp) : List Nat → Option (List (Nat × Blk))
  | [] => some []
  | i :: r => match K.getD i none with
    | none => backW σ id K r
    | some x => match back σ id i, renBlk (back σ id) x, backW σ id K r with
      | some b, some y, some l => some ((b, y) :: l)
      | _, _, _ => none
/-- Those of l below k, each once. -/
def below (k : Nat) : List Nat → List Nat
  | [] => []
  | i :: r => match Nat.blt i k && !hasN r i with | true => i :: below k r | false => below k r

/-- What a call comes to. -/
abbrev CRes := Option (AV × Hp × List Nat × List Chk × Path)
abbrev CallF := Path → FuncId → List AV → Hp → CRes
abbrev Spec := FuncId → List AV → Hp → Option (AV × Hp × List Nat × List Chk)

structure Eff where
  v : AV
  ws : List (Nat × Blk)
  cnt : Nat
  rd : List Nat
  cs : List Chk
  p : Path

def acall (K : CallF) (get : Nat → Option Blk) (id : Nat) (p : Path) (f : FuncId) (args : List AV) : Option Eff :=
  match foot 100 get (flatR (refs 4) args) [] with
  | none => none
  | some σ => match renL (ren 4 fun b => idx σ b 0) args, pickH get (fun b => idx σ b 0) σ with
    | some args1, some H1 => match K p f args1 H1 with
      | none => none
      | some (v1, K1, wr, cs, p1) => match ren 4 (back σ id) v1, backW σ id K1 (below σ.length wr ++ (List.range (K1.length - σ.length)).map fun j => σ.length + j) with
        | some v, some ws => some ⟨v, ws, K1.length - σ.length, σ, cs, p1⟩
        | _, _ => none
    | _, _ => none

def within (get : Nat → Option Blk) (fp : List Nat) (b : Nat) : Option Blk := match hasN fp b with
  | true => get b
  | false => none

def topRefs (ev : Operand → Option AV) : List Operand → List Nat
  | [] => []
  | x :: r => match ev x with
    | some v => refs 0 v ++ topRefs ev r
    | none => topRefs ev r

def opEff1 (C : Cx) (K : CallF) (get : Nat → Option Blk) (ev : Operand → Option AV) (id : Nat) (p : Path) (o : Oper) : Option Eff :=
  match aop C (within get (topRefs ev o.op.operands.toList)) ev id o with
  | none => none
  | some (.val v, cs) => some ⟨v, [], 0, topRefs ev o.op.operands.toList, cs, p⟩
  | some (.new v x, cs) => some ⟨v, [(id, x)], 1, topRefs ev o.op.operands.toList, cs, p⟩
  | some (.write b x v, cs) => some ⟨v, [(b, x)], 0, topRefs ev o.op.operands.toList, cs, p⟩
  | some (.amb b x v, cs) => some ⟨v, [(b, .dead), (id, x)], 1, topRefs ev o.op.operands.toList, cs, p⟩
  | some (.call f args, cs) => match acall K get id p f args with
    | some e => some { e with cs := cs ++ e.cs, rd := topRefs ev o.op.operands.toList ++ e.rd }
    | none => none

def opEff (C : Cx) (K : CallF) (get : Nat → Option Blk) (ev : Operand → Option AV) (id : Nat) (p : Path) (o : Oper) : Option Eff :=
  match o.op with
  | .pick c x y => match ev c with
    | some (.bool b) => match chooseB p b with
      | some (true, cs, p1) => match ev x with | some v => some ⟨v, [], 0, [], cs, p1⟩ | none => none
      | some (false, cs, p1) => match ev y with | some v => some ⟨v, [], 0, [], cs, p1⟩ | none => none
      | none => none
    | _ => none
  | _ => opEff1 C K get ev id p o

def putT (t : List (Option AV)) (d : Option Tmp) (v : AV) : List (Option AV) := match d with
  | some d => t.set d (some v)
  | none => t
def setX : Hp → Nat → Option Blk → Hp
  | [], 0, x => [x]
  | [], b + 1, x => none :: setX [] b x
  | _ :: r, 0, x => x :: r
  | a :: r, b + 1, x => a :: setX r b x
def putW (H : Hp) : List (Nat × Blk) → Hp
  | [] => H
  | (b, x) :: r => putW (setX H b (some x)) r

/-- Whether an operation is wanted. -/
def guardA (ops : Array Oper) (t : List (Option AV)) (p : Path) (o : Oper) : Option (Bool × List Chk × Path) :=
  match o.guard with
  | none => some (true, [], p)
  | some (j, want) => match (ops[j]?).bind (·.dst) with
    | none => some (false, [], p)
    | some d => match t.getD d none with
      | some (.bool b) => match chooseB p b with
        | some (c, cs, p1) => some (c == want, cs, p1)
        | none => none
      | some (.tup []) => some (false, [], p)
      | _ => none

/-- What an operation of a region did: its answer, its writes, what it read, the names it might have taken. -/
structure Info where
  o : Oper
  v : AV
  ws : List (Nat × Blk)
  rd : List Nat
  lo : Nat
  hi : Nat
def Info.app (x : Info) (s : St) : St := ⟨putT s.t x.o.dst x.v, putW s.H x.ws, s.wr ++ x.ws.map (·.1)⟩
def aevW (t : List (Option AV)) (ls : List Tmp) (x : Operand) : Option AV := match x with
  | .tmp i => match hasN ls i with
    | true => t.getD i none
    | false => none
  | x => aev t x
def nextId (k cnt len : Nat) : Nat := match Nat.ble len (k + (cnt + 1)) with
  | true => k + (cnt + 1)
  | false => len

def regGo (C : Cx) (K : CallF) (ops : Array Oper) : List Oper → Nat → St → Path → Option (St × List Info × List Chk × Path)
  | [], _, s, p => some (s, [], [], p)
  | o :: r, k, s, p => match guardA ops s.t p o with
    | none => none
    | some (w, c0, p1) => match w with
      | false => match regGo C K ops r k (Info.app ⟨o, vundef, [], [], k, k⟩ s) p1 with
        | some (s2, is, c2, p2) => some (s2, ⟨o, vundef, [], [], k, k⟩ :: is, c0 ++ c2, p2)
        | none => none
      | true => match opEff C K (look s.H) (aevW s.t (o.looksAt ops)) k p1 o with
        | none => none
        | some e => match regGo C K ops r (nextId k e.cnt (putW s.H e.ws).length) (Info.app ⟨o, e.v, e.ws, e.rd, k, k + (e.cnt + 1)⟩ s) e.p with
          | some (s2, is, c2, p2) => some (s2, ⟨o, e.v, e.ws, e.rd, k, k + (e.cnt + 1)⟩ :: is, c0 ++ (e.cs ++ c2), p2)
          | none => none

/-! ### regions whose order is drawn -/
def hitN : List Nat → List Nat → Bool
  | [], _ => false
  | a :: r, l => hasN l a || hitN r l
def hasD (l : List Tmp) (d : Option Tmp) : Bool := match d with
  | some d => hasN l d
  | none => false
/-- x's work does not touch what y looks at or does. -/
def clear (x y : Info) : List (Nat × Blk) → Bool
  | [] => true
  | (b, _) :: r => !hasN y.rd b && !hasN (y.ws.map (·.1)) b && !(Nat.ble y.lo b && Nat.blt b y.hi) && clear x y r
def apartI (ops : Array Oper) (x y : Info) : Bool :=
  !hasD (y.o.looksAt ops) x.o.dst && !(match x.o.dst, y.o.dst with | some d, some e => Nat.beq d e | _, _ => false) && clear x y x.ws
/-- Which operations stand before each: bits. -/
def ancOf (anc : List (List Nat)) : List Edge → List Nat
  | [] => []
  | e :: r => match Region.binds .any e with
    | true => e.on :: (anc.getD e.on [] ++ ancOf anc r)
    | false => ancOf anc r
def ancs : List Oper → List (List Nat) → List (List Nat)
  | [], acc => acc
  | o :: r, acc => ancs r (acc ++ [ancOf acc o.after.toList])
/-- Every two operations that no edge orders are apart. -/
def indep (ops : Array Oper) (anc : List (List Nat)) (is : List Info) : Bool :=
  (List.range is.length).all fun j => match is[j]? with
    | none => false
    | some y => (y.o.after.toList.all fun e => !Region.binds .any e || Nat.blt e.on j) &&
      (match y.o.op with | .select .. => false | _ => true) &&
      (List.range j).all fun i => match is[i]? with
        | none => false
        | some x => hasN (anc.getD j []) i || (apartI ops x y && apartI ops y x)

def regionA (C : Cx) (K : CallF) (ops : Array Oper) (draw : Bool) (s : St) (p : Path) : Option (Out × St × List Chk × Path) :=
  match regGo C K ops ops.toList s.H.length s p with
  | none => none
  | some (s2, is, cs, p2) => match draw with
    | false => some (.normal, s2, cs, p2)
    | true => match indep ops (ancs ops.toList []) is with
      | true => some (.normal, s2, cs, p2)
      | false => none

/-! ### bodies -/
def resA (C : Cx) (s : St) : List ResultVar → Option (List AV × List Chk)
  | [] => some ([], [])
  | .tmp i :: r => match s.t.getD i none, resA C s r with
    | some v, some (l, cs) => some (v :: l, cs)
    | _, _ => none
  | .cell i ty :: r => match s.t.getD i none, resA C s r with
    | some (.ptr b o), some (l, cs) => match look s.H b with
      | some x => match aload C.P ty x o with
        | some (.val v, c1) => some (v :: l, c1 ++ cs)
        | _ => none
      | none => none
    | _, _ => none
def retA (C : Cx) (s : St) (rs : List ResultVar) : Option (AV × List Chk) := match resA C s rs with
  | some ([v], cs) => some (v, cs)
  | some (l, cs) => some (.tup l, cs)
  | none => none
def startA (fn : Func) (args : List AV) : List (Option AV) := args.map some ++ List.replicate (fn.ntmps - args.length) none

def more (cs : List Chk) (r : Option (Out × St × List Chk × Path)) : Option (Out × St × List Chk × Path) := match r with
  | some (o, s, c, p) => some (o, s, cs ++ c, p)
  | none => none

def callK (C : Cx) (S : Spec) (ex : Path → Code → St → Option (Out × St × List Chk × Path)) : CallF := fun p f args H =>
  match S f args H with
  | some (v, K, wr, cs) => some (v, K, wr, cs, p)
  | none => match C.P.funcs[f]? with
    | none => none
    | some fn => match fn.body, (fn.name == "runtime.NumGoroutine") with
      | some c, false => match ex p c ⟨startA fn args, H, []⟩ with
        | none => none
        | some (o, s1, cs, p1) => match o with
          | .exit _ => none
          | _ => match retA C s1 fn.results.toList with
            | some (v, c1) => some (v, s1.H, s1.wr, cs ++ c1, p1)
            | none => none
      | _, _ => none

def exec (C : Cx) (S : Spec) : Nat → Path → Code → St → Option (Out × St × List Chk × Path)
  | 0, _, _, _ => none
  | n + 1, p, c, s => match c with
    | .skip => some (.normal, s, [], p)
    | .label _ => some (.normal, s, [], p)
    | .exit id => some (.exit id, s, [], p)
    | .ret => some (.ret, s, [], p)
    | .seq a b => match exec C S n p a s with
      | some (.normal, s1, c1, p1) => more c1 (exec C S n p1 b s1)
      | some (.exit id, s1, c1, p1) => some (.exit id, s1, c1, p1)
      | some (.ret, s1, c1, p1) => some (.ret, s1, c1, p1)
      | none => none
    | .cond x a b => match aev s.t x with
      | some (.bool v) => match chooseB p v with
        | some (true, cs, p1) => more cs (exec C S n p1 a s)
        | some (false, cs, p1) => more cs (exec C S n p1 b s)
        | none => none
      | _ => none
    | .block id a => match exec C S n p a s with
      | some (.exit id', s1, c1, p1) => match Nat.beq id' id with
        | true => some (.normal, s1, c1, p1)
        | false => some (.exit id', s1, c1, p1)
      | some (.normal, s1, c1, p1) => some (.normal, s1, c1, p1)
      | some (.ret, s1, c1, p1) => some (.ret, s1, c1, p1)
      | none => none
    | .loop a => match exec C S n p a s with
      | some (.normal, s1, c1, p1) => more c1 (exec C S n p1 (.loop a) s1)
      | some (.exit id, s1, c1, p1) => some (.exit id, s1, c1, p1)
      | some (.ret, s1, c1, p1) => some (.ret, s1, c1, p1)
      | none => none
    | .scope a => exec C S n p a s
    | .region _ ops draw => regionA C (callK C S (exec C S n)) ops draw s p
    | _ => none

end Go.Proofs.Ytmdkhdfckdkceaa.TdAm
