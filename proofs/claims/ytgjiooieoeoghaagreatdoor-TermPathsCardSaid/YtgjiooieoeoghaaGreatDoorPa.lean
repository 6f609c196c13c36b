/-
  Part 1 of a proof by a value semantics: what the call computes, and that the model does what the value semantics says.
  Conditions: none.
-/
import Derived.Orders
import Derived.LoopN
import Derived.Laws.World
import Derived.Laws.Sem
import Derived.Below
import Derived.Laws.Strings
import Derived.Laws.StructEq
import Derived.Laws.Cells
import Derived.Laws.AppendOwn
import Derived.Laws.MakeOwn
import Derived.Laws.BytesString
set_option linter.unusedSimpArgs false
set_option linter.unusedVariables false
set_option linter.unusedSectionVars false
namespace Go.Vs
open Go

/-- A box of the frame: 'loc n' is the present frame's, 'glb l n' that of the frame at depth l. -/
inductive Ref where
  | loc (n : Nat)
  | glb (l n : Nat)

inductive AV where
  | undef
  | bool (b : Bool)
  | int (k : IntKind) (n : Int)
  | str (s : List Nat)
  | agg (cs : List AV)
  | slice (l : List AV)
  | own (u : Bool) (sz : Nat) (l : List AV)
  | onil
  | ptr (r : Ref) (off : Nat)
  | asl (r : Ref) (n : Nat)
  | aptr (r : Ref) (sz i off : Nat)
  | eptr (cs : List AV)
  | nilptr
  | fn (f : Nat) (caps : List AV)
  | nilfn
  | tup (vs : List AV)

def AV.cellsA : AV → List AV
  | .agg cs => cs
  | v => [v]

/-- What a value is once it lies in memory that never turns. -/
def AV.pur : AV → Option AV
  | .bool b => some (.bool b)
  | .int k n => some (.int k n)
  | .str s => some (.str s)
  | .agg cs => some (.agg cs)
  | .slice l => some (.slice l)
  | .own false _ l => some (.slice l)
  | .onil => some (.slice [])
  | .nilptr => some .nilptr
  | .nilfn => some .nilfn
  | .fn f [] => some (.fn f [])
  | _ => none

/-- A copy of a value out of a slot: what is grown in place stays with its slot. -/
def AV.copy : AV → Option AV
  | .own false _ l => some (.slice l)
  | .own true _ _ => none
  | .onil => some (.slice [])
  | .tup _ => none
  | v => some v

inductive Box where
  | cells (cs : List AV)
  | arr (fz : Bool) (sz : Nat) (l : List AV)

abbrev Env := Nat → AV
abbrev Boxes := Nat → Option Box

def upd {α : Type} (e : Nat → α) (n : Nat) (v : α) : Nat → α := fun m => bif Nat.beq m n then v else e m

def ofList : List (Nat × AV) → Env
  | [], _ => .undef
  | (n, v) :: r, m => bif Nat.beq m n then v else ofList r m

def ofListB : List (Nat × Option Box) → Boxes
  | [], _ => none
  | (n, v) :: r, m => bif Nat.beq m n then v else ofListB r m

/-- An operand: a copy of a slot, the slot itself (it is empty behind it), a constant, a package-level variable's address. -/
inductive Opd where
  | slot (n : Nat)
  | take (n : Nat)
  | lit (v : AV)
  | glob (g : Nat)

inductive AOp where
  | mv (x : Opd)
  | pick (c a b : Opd)
  | alloc (zero : List AV)
  | box (x : Opd)
  | build (zero : List AV) (parts : List (Nat × Nat × Opd))
  | lits (u : Bool) (sz : Nat) (parts : List Opd)
  | load1 (x : Opd)
  | loadT (x : Opd)
  | loadA (n : Nat) (x : Opd)
  | store1 (x v : Opd)
  | storeN (x v : Opd)
  | storeAN (n : Nat) (x v : Opd)
  | nilc (x : Opd)
  | frz (m : Nat) (x : Opd)
  | toStr (x : Opd)
  | ldF (m n : Nat) (x : Opd)
  | ldL (m : Nat) (k : Option Nat) (x : Opd)
  | stL (m : Nat) (k : Option Nat) (x v : Opd)
  | storeA (n : Nat) (x v : Opd)
  | bin (op : BinOp) (x y : Opd)
  | eqA (neg : Bool) (ks : List Nat) (x y : Opd)
  | eqb (neg : Bool) (x y : Opd)
  | nilS (x : Opd)
  | un (op : UnOp) (x : Opd)
  | conv (k : IntKind) (x : Opd)
  | mkfn (f : Nat) (caps : List Opd)
  | mks (arr u : Bool) (sz : Nat) (zero : AV) (len cap : Opd)
  | slcS (x : Opd) (lo hi : Option Opd)
  | slcL (sz : Nat) (x : Opd) (lo hi : Option Opd)
  | faddr (off : Nat) (x : Opd)
  | fld (ag : Bool) (off n : Nat) (x : Opd)
  | iaddr (sz : Nat) (x i : Opd)
  | iaddrA (len sz : Nat) (x i : Opd)
  | idxS (x i : Opd)
  | idxA (ag : Bool) (len sz : Nat) (x i : Opd)
  | extr (n i : Nat)
  | extrT (n i : Nat)
  | callP (f : Opd) (args : List Opd) (arr fz : Bool)
  | callS (f : Opd) (args : List Opd)
  | lenS (x : Opd)
  | lenL (x : Opd)
  | app (u arr : Bool) (sz : Nat) (s x : Opd)
  | mx (x y : Opd)
  | mn (x y : Opd)
  | bad

structure AOpr where
  dst : Option Nat
  op : AOp
  guard : Option (Nat × Bool) := none

inductive AC where
  | skip
  | reg (draw : Bool) (ops : List AOpr)
  | seq (a b : AC)
  | cond (c : Opd) (t e : AC)
  | block (id : Nat) (b : AC)
  | loop (keep keepB : List Nat) (b : AC)
  | exit (id : Nat)
  | ret
  | bad

inductive ARes where
  | tmp (n : Nat)
  | cell (n size : Nat) (ag : Bool)

structure AFunc where
  code : AC
  res : List ARes
  keepOwn : Bool := false

structure St where
  env : Env
  bx : Boxes
  nb : Boxes
  stk : List Boxes

inductive AExit where
  | normal
  | exit (id : Nat)
  | ret

/-- What an operation does: the slots that it writes, and what becomes of the boxes. -/
inductive Mem where
  | keep
  | new (n : Nat) (b : Box)
  | nb (n : Nat) (b : Box)
  | bxs (n : Nat) (b : Box)
  | set (bx nb : Boxes) (stk : List Boxes)

structure Eff where
  wr : List (Nat × AV)
  mem : Mem := .keep

abbrev Callee := Nat → List AV → List Boxes → Option (AV × List Boxes)

/-- The constant environment: the package-level variables' cells. -/
abbrev Globs := Nat → List AV

section
variable (gl : Globs)

/-- A look at an operand, nothing moved. -/
def pk (env : Env) : Opd → AV
  | .slot n => env n
  | .take n => env n
  | .lit v => v
  | .glob g => .eptr (gl g)

/-- An operand's value: a copy, or the slot's own. -/
def rd (env : Env) : Opd → Option AV
  | .slot n => (env n).copy
  | .take n => some (env n)
  | .lit v => some v
  | .glob g => some (.eptr (gl g))

def Opd.took : Opd → List (Nat × AV)
  | .take n => [(n, .undef)]
  | _ => []

def rds (env : Env) : List Opd → Option (List AV)
  | [] => some []
  | x :: r => match rd gl env x with
    | none => none
    | some v => match rds env r with
      | none => none
      | some vs => some (v :: vs)

def tooks : List Opd → List (Nat × AV)
  | [] => []
  | x :: r => x.took ++ tooks r

def purs : List AV → Option (List AV)
  | [] => some []
  | v :: r => match v.pur with
    | none => none
    | some p => match purs r with
      | none => none
      | some ps => some (p :: ps)

/-- Are all these one cell each (no struct, no tuple, nothing unset)? -/
def AV.one : AV → Bool
  | .agg _ => false
  | .tup _ => false
  | .undef => false
  | _ => true

def splice (cs : List AV) (off : Nat) (new : List AV) : List AV := cs.take off ++ new ++ cs.drop (off + new.length)

/-- The box of a reference. -/
def stkGet : List Boxes → Nat → Boxes
  | [], _ => fun _ => none
  | b :: r, l => bif Nat.beq l r.length then b else stkGet r l

def stkSet : List Boxes → Nat → Boxes → List Boxes
  | [], _, _ => []
  | b :: r, l, b' => bif Nat.beq l r.length then b' :: r else b :: stkSet r l b'

/-- A value out of a box of the frame at depth l, as another frame sees it. -/
def Ref.glob (l : Nat) : Ref → Ref
  | .loc n => .glb l n
  | r => r

def AV.globS (l : Nat) : AV → AV
  | .ptr r off => .ptr (r.glob l) off
  | .asl r n => .asl (r.glob l) n
  | .aptr r sz i off => .aptr (r.glob l) sz i off
  | v => v

def AV.globV (l : Nat) : AV → AV
  | .fn f caps => .fn f (caps.map (AV.globS l))
  | v => v.globS l

def getB (bx : Boxes) (stk : List Boxes) : Ref → Option Box
  | .loc n => bx n
  | .glb l n => stkGet stk l n

def outOf : Ref → AV → AV
  | .loc _, v => v
  | .glb l _, v => v.globV l

/-- The box of a reference for a store: the newest first. -/
def getN (bx nb : Boxes) (stk : List Boxes) : Ref → Option Box
  | .loc n => match nb n with
    | some b => some b
    | none => bx n
  | .glb l n => stkGet stk l n

def setN (bx nb : Boxes) (stk : List Boxes) (r : Ref) (b : Box) : Mem :=
  match r with
  | .loc n => match nb n with
    | some _ => .set bx (upd nb n (some b)) stk
    | none => .set (upd bx n (some b)) nb stk
  | .glb l n => .set bx nb (stkSet stk l (upd (stkGet stk l) n (some b)))

def plainV : AV → Bool
  | .bool _ | .int _ _ | .str _ | .agg _ | .slice _ | .nilptr | .nilfn => true
  | .own _ _ _ | .onil => true
  | .fn _ [] => true
  | _ => false

def storable : Ref → AV → Bool
  | .loc _, v => v.one
  | .glb _ _, v => v.one && plainV v

def strLt : List Nat → List Nat → Bool
  | _, [] => false
  | [], _ :: _ => true
  | a :: x, b :: y => Nat.blt a b || (Nat.beq a b && strLt x y)

def strEq : List Nat → List Nat → Bool
  | [], [] => true
  | a :: x, b :: y => Nat.beq a b && strEq x y
  | _, _ => false

/-- The model's own scalar operations, where they come to a value at once. -/
def semV : Sem Value → Option AV
  | .pure (.bool b) => some (.bool b)
  | .pure (.int k n) => some (.int k n)
  | _ => none

def maxStr : Nat := 1099511627776

def binA (op : BinOp) : AV → AV → Option AV
  | .int k a, .int k' b =>
    match op with
    | .shl => semV (Op.shift .shl k a k' b)
    | .shr => semV (Op.shift .shr k a k' b)
    | .add => if k = k' then some (.int k (k.wrap (a + b))) else none
    | .sub => if k = k' then some (.int k (k.wrap (a - b))) else none
    | .mul => if k = k' then some (.int k (k.wrap (a * b))) else none
    | .quo => if k = k' then (if b = 0 then none else some (.int k (k.wrap (a.tdiv b)))) else none
    | .rem => if k = k' then (if b = 0 then none else some (.int k (a.tmod b))) else none
    | .and => if k = k' then semV (Op.intBits .and k a b) else none
    | .or => if k = k' then semV (Op.intBits .or k a b) else none
    | .xor => if k = k' then semV (Op.intBits .xor k a b) else none
    | .andNot => if k = k' then semV (Op.intBits .andNot k a b) else none
    | .eql => if k = k' then some (.bool (a == b)) else none
    | .neq => if k = k' then some (.bool (a != b)) else none
    | .lss => if k = k' then some (.bool (decide (a < b))) else none
    | .leq => if k = k' then some (.bool (decide (a ≤ b))) else none
    | .gtr => if k = k' then some (.bool (decide (a > b))) else none
    | .geq => if k = k' then some (.bool (decide (a ≥ b))) else none
  | .str a, .str b =>
    match op with
    | .add => if a.length + b.length ≤ maxStr then some (.str (a ++ b)) else none
    | .eql => some (.bool (strEq a b))
    | .neq => some (.bool (!(strEq a b)))
    | .lss => some (.bool (strLt a b))
    | .leq => some (.bool (strLt a b || strEq a b))
    | .gtr => some (.bool (!(strLt a b || strEq a b)))
    | .geq => some (.bool (!(strLt a b)))
    | _ => none
  | _, _ => none

/-- Equality of two cells: strings (0), integers (1), bools (2). -/
def eqS : Nat → AV → AV → Option Bool
  | 1, .int k a, .int k' b => if k = k' then some (a == b) else none
  | 0, .str a, .str b => some (strEq a b)
  | 2, .bool a, .bool b => some (a == b)
  | _, _, _ => none

def eqCells : List Nat → List AV → List AV → Option Bool
  | [], [], [] => some true
  | k :: ks, a :: x, b :: y => match eqS k a b with
    | none => none
    | some r => match eqCells ks x y with
      | none => none
      | some s => some (r && s)
  | _, _, _ => none

def unA (op : UnOp) : AV → Option AV
  | .bool b => match op with
    | .not => some (.bool (!b))
    | _ => none
  | .int k n => match op with
    | .neg => some (.int k (k.wrap (0 - n)))
    | .xor => semV (Op.intBits .xor k (if k.signed then -1 else k.max) n)
    | _ => none
  | _ => none

def maxCount : Nat := 16777216

def wrD (d : Option Nat) (v : AV) : List (Nat × AV) :=
  match d with
  | some n => [(n, v)]
  | none => []

/-- Bounds of a slice expression. -/
def bndTo (env : Env) (len : Nat) : Option Opd → Option Nat
  | none => some len
  | some h => match pk gl env h with
    | .int _ (.ofNat n) => if n ≤ len then some n else none
    | _ => none

def bndFrom (env : Env) (h : Nat) : Option Opd → Option Nat
  | none => some 0
  | some l => match pk gl env l with
    | .int _ (.ofNat n) => if n ≤ h then some n else none
    | _ => none

def bnd (env : Env) (len : Nat) (lo hi : Option Opd) : Option (Nat × Nat) :=
  match bndTo gl env len hi with
  | none => none
  | some h => match bndFrom gl env h lo with
    | none => none
    | some l => some (l, h)

def AV.single : List AV → Option AV
  | [v] => some v
  | _ => none

/-- Cells of an element of a slice, put back together. -/
def joinV (ag : Bool) (cs : List AV) : Option AV := if ag then some (.agg cs) else AV.single cs

/-- The arguments of a call of a function that sees none of our boxes. -/
def pureArg : AV → Option AV
  | .bool b => some (.bool b)
  | .int k n => some (.int k n)
  | .str s => some (.str s)
  | .agg cs => some (.agg cs)
  | .slice l => some (.slice l)
  | .own u sz l => some (.own u sz l)
  | .onil => some .onil
  | .nilptr => some .nilptr
  | .nilfn => some .nilfn
  | .fn f [] => some (.fn f [])
  | _ => none

/-- Slices over boxes that are handed on as values: the boxes are closed for good. -/
def freezes (bx nb : Boxes) : List AV → Option (List AV × Boxes × Boxes × Bool)
  | [] => some ([], bx, nb, false)
  | v :: r => match v with
    | .asl (.loc n) k => match nb n with
      | some (.arr _ sz l) => if l.length = k then match freezes bx (upd nb n (some (.arr true sz l))) r with
          | none => none
          | some (vs, bx', nb', _) => some (.slice l :: vs, bx', nb', true) else none
      | some _ => none
      | none => match bx n with
        | some (.arr _ sz l) => if l.length = k then match freezes (upd bx n (some (.arr true sz l))) nb r with
            | none => none
            | some (vs, bx', nb', _) => some (.slice l :: vs, bx', nb', true) else none
        | _ => none
    | v => match pureArg v with
      | none => none
      | some p => match freezes bx nb r with
        | none => none
        | some (vs, bx', nb', t) => some (p :: vs, bx', nb', t)

def mergeB (bx nb : Boxes) : Boxes := fun n => match nb n with
  | some b => some b
  | none => bx n

def fillParts (gl : Globs) (env : Env) : List AV → List (Nat × Nat × Opd) → Option (List AV)
  | cs, [] => some cs
  | cs, (off, n, x) :: r => match rd gl env x with
    | none => none
    | some v => match v.pur with
      | none => none
      | some p => if p.cellsA.length = n then fillParts gl env (splice cs off p.cellsA) r else none

def partTooks : List (Nat × Nat × Opd) → List (Nat × AV)
  | [] => []
  | (_, _, x) :: r => x.took ++ partTooks r

/-- A result that a callee hands over becomes a box of ours where that is asked. -/
def landed (d : Option Nat) (arr : Bool) (bx nb : Boxes) (v : AV) : Option (AV × Mem) :=
  if arr then match d, v with
    | some n, .own true sz l => match bx n, nb n with
      | none, none => some (.asl (.loc n) l.length, .new n (.arr false sz l))
      | _, _ => none
    | _, _ => none
  else some (v, .keep)

/-- Values that lie still, but for slices over one box, which is closed. -/
def purF (m : Nat) (l : List AV) (v : AV) : Option AV := match v with
  | .asl (.loc q) k => if q = m ∧ l.length = k then some (.slice l) else none
  | v => v.pur

def pursF (m : Nat) (l : List AV) : List AV → Option (List AV)
  | [] => some []
  | v :: r => match purF m l v with
    | some p => match pursF m l r with
      | some ps => some (p :: ps)
      | none => none
    | none => none

/-- Bytes, of their cells. -/
def bytesOf : List AV → Option (List Nat)
  | [] => some []
  | .int .u8 (.ofNat n) :: r => if n < 256 then (match bytesOf r with
    | some ns => some (n :: ns)
    | none => none) else none
  | _ => none

def eff (C : Callee) (d : Option Nat) (env : Env) (bx nb : Boxes) (stk : List Boxes) : AOp → Option Eff
  | .mv x => match rd gl env x with
    | none => none
    | some v => some { wr := x.took ++ wrD d v }
  | .pick c a b => match pk gl env c with
    | .bool t => match rd gl env (bif t then a else b) with
      | none => none
      | some v => some { wr := (bif t then a else b).took ++ wrD d v }
    | _ => none
  | .alloc zero => match d with
    | some n => match bx n, nb n with
      | none, none => some { wr := [(n, .ptr (.loc n) 0)], mem := .new n (.cells zero) }
      | _, _ => none
    | none => none
  | .box x => match d with
    | some n => match bx n, nb n with
      | none, none => match rd gl env x with
        | none => none
        | some v => if v.cellsA.all AV.one then some { wr := x.took ++ [(n, .ptr (.loc n) 0)], mem := .new n (.cells v.cellsA) } else none
      | _, _ => none
    | none => none
  | .build zero parts => match fillParts gl env zero parts with
    | none => none
    | some cs => some { wr := partTooks parts ++ wrD d (.agg cs) }
  | .lits u sz parts => match rds gl env parts with
    | none => none
    | some vs => match purs vs with
      | none => none
      | some ps => if ps.all (fun p => Nat.beq p.cellsA.length sz) then some { wr := tooks parts ++ wrD d (.own u sz ps) } else none
  | .load1 x => match pk gl env x with
    | .ptr r off => match getB bx stk r with
      | some (.cells cs) => match cs[off]? with
        | some c => match c.copy with
          | none => none
          | some v => some { wr := wrD d (outOf r v) }
        | none => none
      | _ => none
    | .eptr cs => match cs with
      | c :: _ => some { wr := wrD d c }
      | [] => none
    | .aptr r sz i off => match getB bx stk r with
      | some (.arr _ sz' l) => if sz = sz' then match l[i]? with
        | some e => match e.cellsA[off]? with
          | some c => some { wr := wrD d c }
          | none => none
        | none => none else none
      | _ => none
    | _ => none
  | .loadT x => match pk gl env x with
    | .ptr r off => match getN bx nb stk r with
      | some (.cells cs) => match cs[off]? with
        | some c => match c with
          | .own _ _ _ => some { wr := wrD d c, mem := setN bx nb stk r (.cells (cs.set off .undef)) }
          | .onil => some { wr := wrD d c, mem := setN bx nb stk r (.cells (cs.set off .undef)) }
          | _ => none
        | none => none
      | _ => none
    | _ => none
  | .loadA n x => match pk gl env x with
    | .ptr r off => match getB bx stk r with
      | some (.cells cs) => if off + n ≤ cs.length then match purs ((cs.drop off).take n) with
        | none => none
        | some ps => some { wr := wrD d (.agg ps) } else none
      | _ => none
    | .eptr cs => if n ≤ cs.length then some { wr := wrD d (.agg (cs.take n)) } else none
    | .aptr r sz i off => match getB bx stk r with
      | some (.arr _ sz' l) => if sz = sz' then match l[i]? with
        | some e => if off + n ≤ e.cellsA.length then some { wr := wrD d (.agg ((e.cellsA.drop off).take n)) } else none
        | none => none else none
      | _ => none
    | _ => none
  | .store1 x v => match pk gl env x, rd gl env v with
    | .ptr r off, some a => match getN bx nb stk r with
      | some (.cells cs) => if off < cs.length ∧ storable r a = true then some { wr := v.took ++ wrD d .undef, mem := setN bx nb stk r (.cells (cs.set off a)) } else none
      | _ => none
    | .aptr r sz i off, some a => match getN bx nb stk r, a.pur with
      | some (.arr false sz' l), some p => if sz = sz' ∧ p.one = true then match l[i]? with
        | some (.agg cs) => if off < cs.length then some { wr := v.took ++ wrD d .undef, mem := setN bx nb stk r (.arr false sz (l.set i (.agg (cs.set off p)))) } else none
        | some _ => if off = 0 ∧ sz = 1 then some { wr := v.took ++ wrD d .undef, mem := setN bx nb stk r (.arr false sz (l.set i p)) } else none
        | none => none else none
      | _, _ => none
    | _, _ => none
  | .storeN x v => match pk gl env x, rd gl env v with
    | .ptr (.loc m) off, some a => match nb m with
      | some (.cells cs) => if off < cs.length ∧ storable (.loc m) a = true then some { wr := v.took ++ wrD d .undef, mem := .nb m (.cells (cs.set off a)) } else none
      | _ => none
    | _, _ => none
  | .storeAN n x v => match pk gl env x, rd gl env v with
    | .ptr (.loc m) off, some (.agg ds) => match nb m with
      | some (.cells cs) => if off + n ≤ cs.length ∧ ds.length = n then some { wr := v.took ++ wrD d .undef, mem := .nb m (.cells (splice cs off ds)) } else none
      | _ => none
    | _, _ => none
  | .ldL m k x => match pk gl env x with
    | .ptr (.loc m') off => if m' = m then (match bx m with
      | some (.cells cs) => match k with
        | none => match cs[off]? with
          | some c => match c.copy with
            | none => none
            | some v => some { wr := wrD d v }
          | none => none
        | some n => if off + n ≤ cs.length then match purs ((cs.drop off).take n) with
          | none => none
          | some ps => some { wr := wrD d (.agg ps) } else none
      | _ => none) else none
    | .eptr cs => match k with
      | none => match cs with
        | c :: _ => some { wr := wrD d c }
        | [] => none
      | some n => if n ≤ cs.length then some { wr := wrD d (.agg (cs.take n)) } else none
    | _ => none
  | .stL m k x v => match pk gl env x, rd gl env v with
    | .ptr (.loc m') off, some a => if m' = m then (match nb m, bx m with
      | none, some (.cells cs) => match k with
        | none => if off < cs.length ∧ storable (.loc m) a = true then some { wr := v.took ++ wrD d .undef, mem := .bxs m (.cells (cs.set off a)) } else none
        | some n => match a with
          | .agg ds => if off + n ≤ cs.length ∧ ds.length = n then some { wr := v.took ++ wrD d .undef, mem := .bxs m (.cells (splice cs off ds)) } else none
          | _ => none
      | _, _ => none) else none
    | _, _ => none
  | .ldF m n x => match pk gl env x with
    | .ptr (.loc q) off => match bx q, nb m, bx m with
      | some (.cells cs), none, some (.arr _ sz l) => if off + n ≤ cs.length then (match pursF m l ((cs.drop off).take n) with
        | some ps => some { wr := wrD d (.agg ps), mem := .set (upd bx m (some (.arr true sz l))) nb stk }
        | none => none) else none
      | _, _, _ => none
    | _ => none
  | .toStr x => match rd gl env x with
    | some a => match a.pur with
      | some (.slice l) => match bytesOf l with
        | some ns => some { wr := x.took ++ wrD d (.str ns) }
        | none => none
      | _ => none
    | none => none
  | .frz m x => match pk gl env x with
    | .asl (.loc n) k => if n = m then (match nb m, bx m with
      | none, some (.arr _ sz l) => if l.length = k then some { wr := wrD d (.slice l), mem := .bxs m (.arr true sz l) } else none
      | _, _ => none) else none
    | _ => none
  | .nilc x => match pk gl env x with
    | .ptr r off => some { wr := wrD d (.ptr r off) }
    | .aptr r sz i off => some { wr := wrD d (.aptr r sz i off) }
    | .eptr cs => some { wr := wrD d (.eptr cs) }
    | _ => none
  | .storeA n x v => match pk gl env x, rd gl env v with
    | .ptr r off, some (.agg ds) => match getN bx nb stk r with
      | some (.cells cs) => if off + n ≤ cs.length ∧ ds.length = n then some { wr := v.took ++ wrD d .undef, mem := setN bx nb stk r (.cells (splice cs off ds)) } else none
      | _ => none
    | .aptr r sz i off, some (.agg ds) => match getN bx nb stk r with
      | some (.arr false sz' l) => if sz = sz' ∧ ds.length = n then match l[i]? with
        | some (.agg cs) => if off + n ≤ cs.length then some { wr := v.took ++ wrD d .undef, mem := setN bx nb stk r (.arr false sz (l.set i (.agg (splice cs off ds)))) } else none
        | _ => none else none
      | _ => none
    | _, _ => none
  | .bin op x y => match binA op (pk gl env x) (pk gl env y) with
    | none => none
    | some v => some { wr := wrD d v }
  | .eqA neg ks x y => match pk gl env x, pk gl env y with
    | .agg a, .agg b => match eqCells ks a b with
      | none => none
      | some r => some { wr := wrD d (.bool (bif neg then !r else r)) }
    | _, _ => none
  | .nilS x => match pk gl env x with
    | .slice (_ :: _) => some { wr := wrD d (.bool false) }
    | _ => none
  | .eqb neg x y => match pk gl env x, pk gl env y with
    | .bool a, .bool b => some { wr := wrD d (.bool (bif neg then !(a == b) else (a == b))) }
    | _, _ => none
  | .un op x => match unA op (pk gl env x) with
    | none => none
    | some v => some { wr := wrD d v }
  | .conv k x => match pk gl env x with
    | .int _ n => some { wr := wrD d (.int k (k.wrap n)) }
    | _ => none
  | .mkfn f caps => match rds gl env caps with
    | none => none
    | some vs => if vs.all (fun v => match v with
        | .ptr _ _ => true
        | .int _ _ => true
        | .bool _ => true
        | .str _ => true
        | .slice _ => true
        | _ => false) then some { wr := wrD d (.fn f vs) } else none
  | .mks arr u sz zero len cap => match pk gl env len, pk gl env cap with
    | .int .i64 (.ofNat n), .int .i64 (.ofNat c) =>
      if n ≤ c ∧ c ≤ maxCount ∧ zero.cellsA.length = sz then
        (if arr then match d with
          | some m => match bx m, nb m with
            | none, none => if n = c then some { wr := [(m, .asl (.loc m) n)], mem := .new m (.arr false sz (List.replicate n zero)) } else none
            | _, _ => none
          | none => none
        else some { wr := wrD d (.own u sz (List.replicate n zero)) })
      else none
    | _, _ => none
  | .slcS x lo hi => match pk gl env x with
    | .str s => match bnd gl env s.length lo hi with
      | some (l, h) => some { wr := wrD d (.str ((s.take h).drop l)) }
      | none => none
    | _ => none
  | .slcL sz x lo hi => match rd gl env x with
    | some a => match a.pur with
      | some (.slice s) => match bnd gl env s.length lo hi with
        | some (l, h) => if s.all (fun e => Nat.beq e.cellsA.length sz) then some { wr := x.took ++ wrD d (.slice ((s.take h).drop l)) } else none
        | none => none
      | _ => none
    | none => none
  | .faddr off x => match pk gl env x with
    | .ptr r o => some { wr := wrD d (.ptr r (o + off)) }
    | .aptr r sz i o => some { wr := wrD d (.aptr r sz i (o + off)) }
    | .eptr cs => some { wr := wrD d (.eptr (cs.drop off)) }
    | _ => none
  | .fld ag off n x => match pk gl env x with
    | .agg cs => if off + n ≤ cs.length then match joinV ag ((cs.drop off).take n) with
      | some v => some { wr := wrD d v }
      | none => none else none
    | _ => none
  | .iaddr sz x i => match rd gl env x, pk gl env i with
    | some (.asl r n), .int _ (.ofNat k) => if k < n then some { wr := x.took ++ wrD d (.aptr r sz k 0) } else none
    | some a, .int _ (.ofNat k) => match a.pur with
      | some (.slice l) => match l[k]? with
        | some e => if e.cellsA.length = sz then some { wr := x.took ++ wrD d (.eptr e.cellsA) } else none
        | none => none
      | _ => none
    | _, _ => none
  | .iaddrA len sz x i => match pk gl env x, pk gl env i with
    | .ptr r o, .int _ (.ofNat k) => if k < len then some { wr := wrD d (.ptr r (o + k * sz)) } else none
    | .eptr cs, .int _ (.ofNat k) => if k < len then some { wr := wrD d (.eptr (cs.drop (k * sz))) } else none
    | _, _ => none
  | .idxS x i => match pk gl env x, pk gl env i with
    | .str s, .int _ (.ofNat k) => match s[k]? with
      | some b => some { wr := wrD d (.int .u8 b) }
      | none => none
    | _, _ => none
  | .idxA ag len sz x i => match pk gl env x, pk gl env i with
    | .agg cs, .int _ (.ofNat k) => if k < len ∧ k * sz + sz ≤ cs.length then match joinV ag ((cs.drop (k * sz)).take sz) with
      | some v => some { wr := wrD d v }
      | none => none else none
    | _, _ => none
  | .extr n i => match env n with
    | .tup vs => match vs[i]? with
      | some c => match c.copy with
        | some v => some { wr := wrD d v }
        | none => none
      | none => none
    | _ => none
  | .extrT n i => match env n with
    | .tup vs => match vs[i]? with
      | some c => some { wr := (n, .tup (vs.set i .undef)) :: wrD d c }
      | none => none
    | _ => none
  | .callP f args arr fz => match pk gl env f, rds gl env args with
    | .fn g [], some vs => match freezes bx nb vs with
      | some (ps, bx', nb', t) => if t && !fz then none else match C g ps [] with
        | some (v, []) => match landed d arr bx' nb' v with
          | some (v', m) => some { wr := tooks args ++ wrD d v', mem := match t, m with
              | false, m => m
              | true, .keep => .set bx' nb' stk
              | true, .new n b => .set bx' (upd nb' n (some b)) stk
              | true, .nb n b => .set bx' (upd nb' n (some b)) stk
              | true, .bxs n b => .set (upd bx' n (some b)) nb' stk
              | true, .set a b c => .set a b c }
          | none => none
        | _ => none
      | none => none
    | _, _ => none
  | .callS f args => match pk gl env f, rds gl env args with
    | .fn g caps, some vs => if vs.all (fun v => match v with
        | .tup _ => false
        | _ => true) then match C g ((vs.map (AV.globV stk.length)) ++ caps.map (AV.globS stk.length)) (mergeB bx nb :: stk) with
      | some (v, b' :: stk') => some { wr := tooks args ++ wrD d v, mem := .set b' (fun _ => none) stk' }
      | _ => none else none
    | _, _ => none
  | .lenS x => match pk gl env x with
    | .str s => some { wr := wrD d (.int .i64 s.length) }
    | _ => none
  | .lenL x => match pk gl env x with
    | .slice l => some { wr := wrD d (.int .i64 l.length) }
    | .own _ _ l => some { wr := wrD d (.int .i64 l.length) }
    | .onil => some { wr := wrD d (.int .i64 0) }
    | .asl _ n => some { wr := wrD d (.int .i64 n) }
    | _ => none
  | .app u arr sz s x => match rd gl env s, rd gl env x with
    | some a, some b => match b.pur with
      | some (.slice lx) => if lx.all (fun p => Nat.beq p.cellsA.length sz) then (match a with
        | .onil => if lx.length ≤ maxCount then (match lx with
            | [] => if arr then none else some { wr := s.took ++ x.took ++ wrD d .onil }
            | _ :: _ => match landed d arr bx nb (.own (u || arr) sz lx) with
              | some (v, m) => some { wr := s.took ++ x.took ++ wrD d v, mem := m }
              | none => none) else none
        | .own u' sz' l => if sz' = sz ∧ l.length + lx.length ≤ maxCount ∧ (u = true ∨ arr = true → u' = true) then (match landed d arr bx nb (.own u' sz (l ++ lx)) with
            | some (v, m) => some { wr := s.took ++ x.took ++ wrD d v, mem := m }
            | none => none) else none
        | _ => none) else none
      | _ => none
    | _, _ => none
  | .mx x y => match pk gl env x, pk gl env y with
    | .int k a, .int k' b => if k = k' then some { wr := wrD d (.int k (if b > a then b else a)) } else none
    | _, _ => none
  | .mn x y => match pk gl env x, pk gl env y with
    | .int k a, .int k' b => if k = k' then some { wr := wrD d (.int k (if b < a then b else a)) } else none
    | _, _ => none
  | .bad => none

def wrs (env : Env) : List (Nat × AV) → Env
  | [] => env
  | (n, v) :: r => wrs (upd env n v) r

def applyMem (draw : Bool) (s : St) : Mem → St
  | .keep => s
  | .new n b => if draw then { s with nb := upd s.nb n (some b) } else { s with bx := upd s.bx n (some b) }
  | .nb n b => { s with nb := upd s.nb n (some b) }
  | .bxs n b => { s with bx := upd s.bx n (some b) }
  | .set bx nb stk => { s with bx := bx, nb := nb, stk := stk }

def applyEff (draw : Bool) (s : St) (e : Eff) : St := applyMem draw { s with env := wrs s.env e.wr } e.mem

/-- The same for a guarded operation: one that is not wanted leaves an empty tuple. -/
def effG (C : Callee) (o : AOpr) (env : Env) (bx nb : Boxes) (stk : List Boxes) : Option Eff :=
  match o.guard with
  | none => eff gl C o.dst env bx nb stk o.op
  | some (g, want) => match env g with
    | .bool b => bif b == want then eff gl C o.dst env bx nb stk o.op else some { wr := wrD o.dst (.tup []) }
    | .tup _ => some { wr := wrD o.dst (.tup []) }
    | _ => none

def stepO (C : Callee) (draw : Bool) (o : AOpr) (s : St) : Option St :=
  match effG gl C o s.env s.bx s.nb s.stk with
  | some e => some (applyEff draw s e)
  | none => none

def stepsO (C : Callee) (draw : Bool) : List AOpr → St → Option St
  | [], s => some s
  | o :: r, s => match stepO gl C draw o s with
    | none => none
    | some s' => stepsO C draw r s'

/-- The references in a value. -/
def AV.refsS : AV → List Ref
  | .ptr r _ => [r]
  | .asl r _ => [r]
  | .aptr r _ _ _ => [r]
  | _ => []

def AV.refs : AV → List Ref
  | .fn _ caps => caps.flatMap AV.refsS
  | v => v.refsS

def Ref.keptBy (keepB : List Nat) : Ref → Bool
  | .loc n => keepB.contains n
  | .glb _ _ => true

def AV.keptBy (keepB : List Nat) : AV → Bool
  | .tup _ => false
  | v => v.refs.all (Ref.keptBy keepB)

def Box.keptBy (keepB : List Nat) : Option Box → Bool
  | some (.cells cs) => cs.all (AV.keptBy keepB)
  | _ => true

/-- At a loop's head only what is listed is kept. -/
def project (keep keepB : List Nat) (s : St) : Option St :=
  if keep.all (fun n => (s.env n).keptBy keepB) && keepB.all (fun n => (s.nb n).isNone && Box.keptBy keepB (s.bx n)) then
    some { env := ofList (keep.map fun n => (n, s.env n)), bx := ofListB (keepB.map fun n => (n, s.bx n)), nb := fun _ => none, stk := s.stk }
  else none

abbrev Looper := List Nat → List Nat → (St → Option (AExit × St)) → St → Option (AExit × St)

def loopN : Nat → Looper
  | 0, _, _, _, _ => none
  | k + 1, keep, keepB, step, s => match project keep keepB s with
    | none => none
    | some s1 => match step s1 with
      | some (.normal, s') => loopN k keep keepB step s'
      | r => r

def execC (C : Callee) (L : Looper) : AC → St → Option (AExit × St)
  | .skip, s => some (.normal, s)
  | .reg draw ops, s => match stepsO gl C draw ops s with
    | none => none
    | some s' => some (.normal, if draw then { s' with bx := mergeB s'.bx s'.nb, nb := fun _ => none } else s')
  | .seq a b, s => match execC C L a s with
    | some (.normal, s') => execC C L b s'
    | r => r
  | .cond c t e, s => match pk gl s.env c with
    | .bool b => bif b then execC C L t s else execC C L e s
    | _ => none
  | .block id b, s => match execC C L b s with
    | some (.exit i, s') => bif Nat.beq i id then some (.normal, s') else some (.exit i, s')
    | r => r
  | .loop keep keepB b, s => L keep keepB (execC C L b) s
  | .exit id, s => some (.exit id, s)
  | .ret, s => some (.ret, s)
  | .bad, _ => none

/-- One result of a function, and what is left behind; 'clear' takes the value out of its place. -/
def resVal (keepOwn : Bool) (s : St) (clear : St → St) (v : AV) : Option (AV × St) :=
  match v with
  | .own u sz l => if keepOwn then some (.own u sz l, clear s) else if u then none else some (.slice l, s)
  | .onil => if keepOwn then some (.onil, s) else some (.slice [], s)
  | .asl (.loc n) k => match s.bx n with
    | some (.arr fz sz l) => if l.length = k then some (.slice l, { s with bx := upd s.bx n (some (.arr true sz l)) }) else none
    | _ => none
  | v => match v.pur with
    | some p => some (p, s)
    | none => none

def result (keepOwn : Bool) (s : St) : ARes → Option (AV × St)
  | .tmp n => resVal keepOwn s (fun s => { s with env := upd s.env n .undef }) (s.env n)
  | .cell n size ag => match s.env n with
    | .ptr (.loc m) off => match s.bx m with
      | some (.cells cs) => if ag then (if off + size ≤ cs.length then match purs ((cs.drop off).take size) with
            | some ps => some (.agg ps, s)
            | none => none else none)
          else match cs[off]? with
            | some c => resVal keepOwn s (fun s => { s with bx := upd s.bx m (some (.cells (cs.set off .undef))) }) c
            | none => none
      | _ => none
    | _ => none

def resultsL (keepOwn : Bool) (s : St) : List ARes → Option (List AV × St)
  | [] => some ([], s)
  | r :: rs => match result keepOwn s r with
    | none => none
    | some (v, s') => match resultsL keepOwn s' rs with
      | none => none
      | some (vs, s'') => some (v :: vs, s'')

def finish (af : AFunc) (s : St) : Option (AV × List Boxes) :=
  match resultsL af.keepOwn s af.res with
  | some ([v], s') => some (v, s'.stk)
  | some (vs, s') => some (.tup vs, s'.stk)
  | none => none

def initSt (args : List AV) (stk : List Boxes) : St := { env := fun n => args.getD n .undef, bx := fun _ => none, nb := fun _ => none, stk := stk }

def ending (af : AFunc) : Option (AExit × St) → Option (AV × List Boxes)
  | some (.normal, s) => finish af s
  | some (.ret, s) => finish af s
  | _ => none

abbrev Prog := Nat → Option AFunc
abbrev Prims := Nat → Option (List AV → Option AV)

variable (prog : Prog) (prims : Prims)

/-- Calls, at most n deep, with at most n rounds of each loop. -/
def callN : Nat → Callee
  | 0, _, _, _ => none
  | n + 1, f, args, stk => match prims f with
    | some g => match g args with
      | some v => some (v, stk)
      | none => none
    | none => match prog f with
      | none => none
      | some af => ending af (execC gl (callN n) (loopN n) af.code (initSt args stk))

end
end Go.Vs

namespace Go.Vs
open Go

inductive Key where
  | slot (l n c : Nat)
  | box (l n : Nat)
  | cell (l n i : Nat)
  | ret (c : Nat)
  deriving DecidableEq

/-- The ghost: how many leading cells of a block never turn again; the block of a box; whose a block is. -/
structure Gh where
  imm : Nat → Nat
  loc : Nat → Nat → Option Nat
  ob : Nat → Option Key

def bytesN (s : ByteArray) : List Nat := s.data.toList.map UInt8.toNat

def at' (b o : Nat) : Addr := ⟨b, o, none⟩

theorem at'_add (b o n : Nat) : (at' b o).add n = at' b (o + n) := by
  unfold Addr.add at'
  split
  · next h => subst h; rfl
  · rfl

inductive RP (imm : Nat → Nat) (w : World) : AV → Value → Prop where
  | bool (b : Bool) : RP imm w (.bool b) (.bool b)
  | int (k : IntKind) (n : Int) : RP imm w (.int k n) (.int k n)
  | str (s : ByteArray) : RP imm w (.str (bytesN s)) (.string s)
  | agg (cs : List AV) (vs : Array Value) (hl : vs.size = cs.length) (ho : ∀ (i : Nat) (c : AV), cs[i]? = some c → c.one = true)
      (h : ∀ (i : Nat) (c : AV), cs[i]? = some c → RP imm w c (vs.getD i undef)) : RP imm w (.agg cs) (.agg vs)
  | nil (a : Option Addr) (cap : Nat) : RP imm w (.slice []) (.slice a 0 cap)
  | slice (l : List AV) (b off sz cap : Nat) (f : Nat → Nat → Value) (hcap : l.length ≤ cap) (hs : ∀ (i : Nat) (e : AV), l[i]? = some e → e.cellsA.length = sz)
      (ho : ∀ (i : Nat) (e : AV) (j : Nat) (c : AV), l[i]? = some e → e.cellsA[j]? = some c → c.one = true)
      (h : ∀ (i : Nat) (e : AV) (j : Nat) (c : AV), l[i]? = some e → e.cellsA[j]? = some c → RP imm w c (f i j))
      (hm : ∀ i j : Nat, i < l.length → j < sz → off + i * sz + j < imm b ∧ w.cell? (at' b (off + i * sz + j)) = some (f i j)) :
      RP imm w (.slice l) (.slice (some (at' b off)) l.length cap)
  | fn (f : Nat) : RP imm w (.fn f []) (.func (.func f) #[] #[])
  | nilfn : RP imm w .nilfn .nilFunc
  | nilptr : RP imm w .nilptr (.pointer none)

structure Ext (g : Gh) (w : World) (g' : Gh) (w' : World) : Prop where
  imm : ∀ b, g.imm b ≤ g'.imm b
  cell : ∀ b o, o < g.imm b → w'.cell? (at' b o) = w.cell? (at' b o)

theorem Ext.refl (g : Gh) (w : World) : Ext g w g w := ⟨fun _ => Nat.le_refl _, fun _ _ _ => rfl⟩

theorem Ext.trans {g : Gh} {w : World} {g' : Gh} {w' : World} {g'' : Gh} {w'' : World} (h : Ext g w g' w') (k : Ext g' w' g'' w'') : Ext g w g'' w'' :=
  ⟨fun b => Nat.le_trans (h.imm b) (k.imm b), fun b o ho => (k.cell b o (Nat.lt_of_lt_of_le ho (h.imm b))).trans (h.cell b o ho)⟩

theorem RP.ext {g : Gh} {w : World} {g' : Gh} {w' : World} (e : Ext g w g' w') {a : AV} {v : Value} (h : RP g.imm w a v) : RP g'.imm w' a v := by
  induction h with
  | bool b => exact .bool b
  | int k n => exact .int k n
  | str s => exact .str s
  | agg cs vs hl ho _ ih => exact .agg cs vs hl ho ih
  | nil a cap => exact .nil a cap
  | slice l b off sz cap f hcap hs ho _ hm ih =>
    exact .slice l b off sz cap f hcap hs ho ih fun i j hi hj => by
      obtain ⟨h1, h2⟩ := hm i j hi hj
      exact ⟨Nat.lt_of_lt_of_le h1 (e.imm b), (e.cell b _ h1).trans h2⟩
  | fn f => exact .fn f
  | nilfn => exact .nilfn
  | nilptr => exact .nilptr

def Ref.lv (d : Nat) : Ref → Nat
  | .loc _ => d
  | .glb l _ => l

def Ref.nm : Ref → Nat
  | .loc n => n
  | .glb _ n => n

def Ref.below : Ref → Nat → Prop
  | .loc _, _ => True
  | .glb l _, d => l < d

/-- The block of a reference, as a frame sees it: none of its own callees' boxes. -/
def Gh.at (g : Gh) (d : Nat) (r : Ref) (b : Nat) : Prop := g.loc (r.lv d) r.nm = some b ∧ r.below d

/-- Elements of a row of cells. -/
def Elems (imm : Nat → Nat) (w : World) (sz : Nat) (l : List AV) (c : Array Value) : Prop :=
  (∀ (i : Nat) (e : AV), l[i]? = some e → e.cellsA.length = sz) ∧ (∀ (i : Nat) (e : AV) (j : Nat) (a : AV), l[i]? = some e → e.cellsA[j]? = some a → a.one = true ∧ RP imm w a (c.getD (i * sz + j) undef))

def OwnB (g : Gh) (w : World) (b : Nat) (u : Bool) (sz : Nat) (l : List AV) (cap : Nat) : Prop :=
  ∃ c elem, w.heap[b]? = some (.cells c elem (0, 0)) ∧ l.length ≤ cap ∧ cap * sz ≤ c.size ∧ Elems g.imm w sz l c ∧ g.imm b = (bif u then 0 else l.length * sz)

def REp (imm : Nat → Nat) (w : World) (cs : List AV) (b o : Nat) : Prop :=
  ∀ (j : Nat) (c : AV), cs[j]? = some c → c.one = true ∧ ∃ x, RP imm w c x ∧ w.cell? (at' b (o + j)) = some x ∧ o + j < imm b

/-- The small ones: what a function literal may have captured. -/
def RS (g : Gh) (w : World) (d : Nat) : AV → Value → Prop
  | .ptr r off, v => ∃ b, g.at d r b ∧ v = .pointer (some (at' b off))
  | .int k n, v => v = .int k n
  | .bool b, v => v = .bool b
  | .str s, v => RP g.imm w (.str s) v
  | .slice l, v => RP g.imm w (.slice l) v
  | _, _ => False

def RV1 (g : Gh) (w : World) (d : Nat) (κ : Key) : AV → Value → Prop
  | .undef, _ => True
  | .own u sz l, v => ∃ b cap, v = .slice (some (at' b 0)) l.length cap ∧ g.ob b = some κ ∧ OwnB g w b u sz l cap
  | .onil, v => ∃ a, v = .slice a 0 0
  | .ptr r off, v => ∃ b, g.at d r b ∧ v = .pointer (some (at' b off))
  | .asl r n, v => ∃ b, g.at d r b ∧ ∃ cap, n ≤ cap ∧ v = .slice (some (at' b 0)) n cap
  | .aptr r sz i off, v => ∃ b, g.at d r b ∧ v = .pointer (some (at' b (i * sz + off)))
  | .eptr cs, v => ∃ b o, v = .pointer (some (at' b o)) ∧ REp g.imm w cs b o
  | .fn f caps, v => ∃ vs : Array Value, v = .func (.func f) #[] vs ∧ vs.size = caps.length ∧ ∀ (i : Nat) (c : AV), caps[i]? = some c → RS g w d c (vs.getD i undef)
  | .tup _, _ => False
  | a, v => RP g.imm w a v

def RV (g : Gh) (w : World) (d n : Nat) : AV → Value → Prop
  | .tup vs, v => ∃ ws : Array Value, v = .tuple ws ∧ ws.size = vs.length ∧ ∀ (i : Nat) (c : AV), vs[i]? = some c → RV1 g w d (.slot d n i) c (ws.getD i undef)
  | a, v => RV1 g w d (.slot d n 0) a v

def RBox (g : Gh) (w : World) (l n : Nat) : Box → Prop
  | .cells cs => ∃ b c elem, g.loc l n = some b ∧ g.imm b = 0 ∧ w.heap[b]? = some (.cells c elem (0, 0)) ∧ c.size = cs.length ∧
      ∀ (i : Nat) (a : AV), cs[i]? = some a → (a = .undef ∨ a.one = true) ∧ RV1 g w l (.cell l n i) a (c.getD i undef)
  | .arr fz sz es => ∃ b c elem, g.loc l n = some b ∧ w.heap[b]? = some (.cells c elem (0, 0)) ∧ es.length * sz ≤ c.size ∧ Elems g.imm w sz es c ∧
      (fz = true → g.imm b = es.length * sz) ∧ (fz = false → g.imm b = 0)

/-- A package-level variable's cells: these and no more. -/
def GlobOK (imm : Nat → Nat) (w : World) (cs : List AV) (k : Nat) : Prop := REp imm w cs k 0 ∧ (cs ≠ [] → cs.length < imm k ∧ w.cell? (at' k cs.length) = none)

structure Rel (gl : Globs) (g : Gh) (d : Nat) (s : St) (tmps : Array Value) (w : World) : Prop where
  slots : ∀ n, RV g w d n (s.env n) (tmps.getD n undef)
  boxes : ∀ n b, mergeB s.bx s.nb n = some b → RBox g w d n b
  dead : ∀ n, mergeB s.bx s.nb n = none → g.loc d n = none
  excl : ∀ n b, s.bx n = some b → s.nb n = none
  outer : ∀ l n b, stkGet s.stk l n = some b → RBox g w l n b
  deadO : ∀ l n, l < d → stkGet s.stk l n = none → g.loc l n = none
  lvl : s.stk.length = d
  fresh : ∀ b, w.heap.size ≤ b → g.ob b = none ∧ g.imm b = 0
  locs : ∀ l n b, g.loc l n = some b → g.ob b = some (.box l n) ∧ l ≤ d
  globs : ∀ k, GlobOK g.imm w (gl k) k

/-- What a key holds has not been touched. -/
def Keep (g : Gh) (w : World) (g' : Gh) (w' : World) (κ : Key) : Prop :=
  ∀ b, g.ob b = some κ → g'.ob b = some κ ∧ g'.imm b = g.imm b ∧ w'.heap[b]? = w.heap[b]?

theorem REp.ext {g : Gh} {w : World} {g' : Gh} {w' : World} (e : Ext g w g' w') {cs : List AV} {b o : Nat} (h : REp g.imm w cs b o) : REp g'.imm w' cs b o :=
  fun j c hc => by
    obtain ⟨h0, x, h1, h2, h3⟩ := h j c hc
    exact ⟨h0, x, h1.ext e, (e.cell _ _ h3).trans h2, Nat.lt_of_lt_of_le h3 (e.imm b)⟩

theorem GlobOK.ext {g : Gh} {w : World} {g' : Gh} {w' : World} (e : Ext g w g' w') {cs : List AV} {k : Nat} (h : GlobOK g.imm w cs k) : GlobOK g'.imm w' cs k :=
  ⟨h.1.ext e, fun hc => ⟨Nat.lt_of_lt_of_le (h.2 hc).1 (e.imm k), (e.cell _ _ (h.2 hc).1).trans (h.2 hc).2⟩⟩

theorem Elems.ext {g : Gh} {w : World} {g' : Gh} {w' : World} (e : Ext g w g' w') {sz : Nat} {l : List AV} {c : Array Value} (h : Elems g.imm w sz l c) : Elems g'.imm w' sz l c :=
  ⟨h.1, fun i x j a hx ha => ⟨(h.2 i x j a hx ha).1, (h.2 i x j a hx ha).2.ext e⟩⟩

/-- A fact that the locations of the references of a value stay. -/
def LocKeep (g g' : Gh) : Prop := ∀ l n b, g.loc l n = some b → g'.loc l n = some b

theorem LocKeep.at {g g' : Gh} (h : LocKeep g g') {d : Nat} {r : Ref} {b : Nat} (k : g.at d r b) : g'.at d r b := ⟨h _ _ _ k.1, k.2⟩

theorem RS.keep {g : Gh} {w : World} {g' : Gh} {w' : World} (e : Ext g w g' w') {d : Nat} {a : AV} {v : Value}
    (hl : ∀ r ∈ a.refsS, ∀ b, g.at d r b → g'.at d r b) (h : RS g w d a v) : RS g' w' d a v := by
  cases a <;> simp only [RS] at h ⊢
  case ptr r off => obtain ⟨b, h1, h2⟩ := h; exact ⟨b, hl r (by simp [AV.refsS]) b h1, h2⟩
  case bool => exact h
  case int => exact h
  case str s => exact h.ext e
  case slice l => exact h.ext e

theorem RV1.keep {g : Gh} {w : World} {g' : Gh} {w' : World} (e : Ext g w g' w') {d : Nat} {κ : Key} (hk : Keep g w g' w' κ) {a : AV} {v : Value}
    (hl : ∀ r ∈ a.refs, ∀ b, g.at d r b → g'.at d r b) (h : RV1 g w d κ a v) : RV1 g' w' d κ a v := by
  cases a <;> simp only [RV1] at h ⊢
  case own u sz l =>
    obtain ⟨b, cap, h1, h2, c, elem, h3, h4, h5, h6, h7⟩ := h
    obtain ⟨k1, k2, k3⟩ := hk b h2
    exact ⟨b, cap, h1, k1, c, elem, k3.trans h3, h4, h5, h6.ext e, k2.trans h7⟩
  case onil => exact h
  case ptr r off => obtain ⟨b, h1, h2⟩ := h; exact ⟨b, hl r (by simp [AV.refs, AV.refsS]) b h1, h2⟩
  case asl r n => obtain ⟨b, h1, h2⟩ := h; exact ⟨b, hl r (by simp [AV.refs, AV.refsS]) b h1, h2⟩
  case aptr r sz i off => obtain ⟨b, h1, h2⟩ := h; exact ⟨b, hl r (by simp [AV.refs, AV.refsS]) b h1, h2⟩
  case eptr cs => obtain ⟨b, o, h1, h2⟩ := h; exact ⟨b, o, h1, h2.ext e⟩
  case fn f caps =>
    obtain ⟨vs, h1, h2, h3⟩ := h
    refine ⟨vs, h1, h2, fun i c hc => (h3 i c hc).keep e fun r hr => hl r ?_⟩
    simp only [AV.refs, List.mem_flatMap]
    exact ⟨c, List.mem_of_getElem? hc, hr⟩
  all_goals exact h.ext e

theorem RV.keep {g : Gh} {w : World} {g' : Gh} {w' : World} (e : Ext g w g' w') {d n : Nat} (hk : ∀ c, Keep g w g' w' (.slot d n c)) {a : AV} {v : Value}
    (hl : LocKeep g g') (h : RV g w d n a v) : RV g' w' d n a v := by
  cases a
  case tup vs =>
    obtain ⟨ws, h1, h2, h3⟩ := h
    exact ⟨ws, h1, h2, fun i c hc => (h3 i c hc).keep e (hk i) fun r _ b hb => hl.at hb⟩
  all_goals (simp only [RV] at h ⊢; exact RV1.keep e (hk 0) (fun r _ b hb => hl.at hb) h)

theorem RBox.keep {g : Gh} {w : World} {g' : Gh} {w' : World} (e : Ext g w g' w') {l n : Nat} {x : Box}
    (hob : ∀ b, g.loc l n = some b → g.ob b = some (.box l n)) (hk : Keep g w g' w' (.box l n)) (hc : ∀ i, Keep g w g' w' (.cell l n i))
    (hl : LocKeep g g') (h : RBox g w l n x) : RBox g' w' l n x := by
  cases x with
  | cells cs =>
    obtain ⟨b, c, elem, h1, h2, h3, h4, h5⟩ := h
    obtain ⟨_, k2, k3⟩ := hk b (hob b h1)
    exact ⟨b, c, elem, hl _ _ _ h1, k2.trans h2, k3.trans h3, h4, fun i a ha => ⟨(h5 i a ha).1, (h5 i a ha).2.keep e (hc i) fun r _ b hb => hl.at hb⟩⟩
  | arr fz sz es =>
    obtain ⟨b, c, elem, h1, h3, h4, h5, h6, h7⟩ := h
    obtain ⟨_, k2, k3⟩ := hk b (hob b h1)
    exact ⟨b, c, elem, hl _ _ _ h1, k3.trans h3, h4, h5.ext e, fun hf => k2.trans (h6 hf), fun hf => k2.trans (h7 hf)⟩

/-- A step of a frame: what nobody of the frame owns stays as it was. -/
structure Step (g : Gh) (w : World) (g' : Gh) (w' : World) : Prop where
  ext : Ext g w g' w'
  size : w.heap.size ≤ w'.heap.size
  rest : ∀ b, b < w.heap.size → g.ob b = none → g'.ob b = none ∧ g'.imm b = g.imm b ∧ w'.heap[b]? = w.heap[b]?
  os : w'.os = w.os
  tape : w'.tape = w.tape
  output : w'.output = w.output
  loc : LocKeep g g'

theorem Step.refl (g : Gh) (w : World) : Step g w g w := ⟨.refl _ _, Nat.le_refl _, fun _ _ h => ⟨h, rfl, rfl⟩, rfl, rfl, rfl, fun _ _ _ h => h⟩

theorem Step.trans {g : Gh} {w : World} {g' : Gh} {w' : World} {g'' : Gh} {w'' : World} (h : Step g w g' w') (k : Step g' w' g'' w'') : Step g w g'' w'' :=
  ⟨h.ext.trans k.ext, Nat.le_trans h.size k.size, fun b hb ho => by
    obtain ⟨h1, h2, h3⟩ := h.rest b hb ho
    obtain ⟨k1, k2, k3⟩ := k.rest b (Nat.lt_of_lt_of_le hb h.size) h1
    exact ⟨k1, k2.trans h2, k3.trans h3⟩, k.os.trans h.os, k.tape.trans h.tape, k.output.trans h.output, fun l n b hb => k.loc l n b (h.loc l n b hb)⟩

/-- The general way on: each slot and each box either is as it was, its memory untouched, or stands for itself anew. -/
theorem Rel.on {gl : Globs} {g : Gh} {d : Nat} {s : St} {tmps : Array Value} {w : World} (R : Rel gl g d s tmps w) {g' : Gh} {w' : World} {s' : St} {tmps' : Array Value}
    (e : Ext g w g' w') (hl : LocKeep g g')
    (hs : ∀ n, (s'.env n = s.env n ∧ tmps'.getD n undef = tmps.getD n undef ∧ ∀ c, Keep g w g' w' (.slot d n c)) ∨ RV g' w' d n (s'.env n) (tmps'.getD n undef))
    (hb : ∀ n b, mergeB s'.bx s'.nb n = some b → (mergeB s.bx s.nb n = some b ∧ Keep g w g' w' (.box d n) ∧ ∀ i, Keep g w g' w' (.cell d n i)) ∨ RBox g' w' d n b)
    (hd : ∀ n, mergeB s'.bx s'.nb n = none → g'.loc d n = none) (hx : ∀ n b, s'.bx n = some b → s'.nb n = none)
    (ho : ∀ l n b, stkGet s'.stk l n = some b → (stkGet s.stk l n = some b ∧ Keep g w g' w' (.box l n) ∧ ∀ i, Keep g w g' w' (.cell l n i)) ∨ RBox g' w' l n b)
    (hdo : ∀ l n, l < d → stkGet s'.stk l n = none → g'.loc l n = none) (hlv : s'.stk.length = d) (hf : ∀ b, w'.heap.size ≤ b → g'.ob b = none ∧ g'.imm b = 0) (hlo : ∀ l n b, g'.loc l n = some b → g'.ob b = some (.box l n) ∧ l ≤ d) :
    Rel gl g' d s' tmps' w' where
  slots n := by
    rcases hs n with ⟨h1, h2, h3⟩ | h
    · rw [h1, h2]; exact (R.slots n).keep e h3 hl
    · exact h
  boxes n b hn := by
    rcases hb n b hn with ⟨h1, h2, h3⟩ | h
    · exact (R.boxes n b h1).keep e (fun b hb => (R.locs _ _ _ hb).1) h2 h3 hl
    · exact h
  dead := hd
  excl := hx
  outer l n b hn := by
    rcases ho l n b hn with ⟨h1, h2, h3⟩ | h
    · exact (R.outer l n b h1).keep e (fun b hb => (R.locs _ _ _ hb).1) h2 h3 hl
    · exact h
  deadO := hdo
  lvl := hlv
  fresh := hf
  locs := hlo
  globs k := (R.globs k).ext e

end Go.Vs

namespace Go.Vs
open Go

theorem map_toNat_inj : ∀ {a b : List UInt8}, a.map UInt8.toNat = b.map UInt8.toNat → a = b
  | [], [], _ => rfl
  | x :: a, y :: b, h => by
    simp only [List.map_cons, List.cons.injEq] at h
    rw [UInt8.toNat_inj.1 h.1, map_toNat_inj h.2]

theorem bytesN_inj {a b : ByteArray} (h : bytesN a = bytesN b) : a = b := by
  have h1 : a.data.toList = b.data.toList := map_toNat_inj h
  cases a; cases b; congr; exact Array.toList_inj.1 h1

theorem bytesN_length (s : ByteArray) : (bytesN s).length = s.size := by simp [bytesN]

/-- A literal's value. -/
def litOK : AV → Value → Bool
  | .bool a, .bool b => a == b
  | .int j a, .int k b => decide (j = k) && a == b
  | .str l, .string s => strEq l (bytesN s)
  | .onil, .slice none 0 0 => true
  | .slice [], .slice none 0 0 => true
  | .nilptr, .pointer none => true
  | .nilfn, .nilFunc => true
  | _, _ => false

theorem strEq_iff {a b : List Nat} : strEq a b = true ↔ a = b := by
  induction a generalizing b with
  | nil => cases b <;> simp [strEq]
  | cons x a ih => cases b with
    | nil => simp [strEq]
    | cons y b => simp [strEq, ih, Nat.beq_eq]

theorem strEq_eq (a b : List Nat) : strEq a b = decide (a = b) := by
  rw [Bool.eq_iff_iff, strEq_iff]; simp

def litsOK : List AV → List Value → Bool
  | [], [] => true
  | a :: r, v :: s => litOK a v && a.one && litsOK r s
  | _, _ => false

/-- Stands for the same under every key. -/
def RC (g : Gh) (w : World) (d : Nat) (a : AV) (v : Value) : Prop := ∀ κ, RV1 g w d κ a v

def litV : AV → Value → Bool
  | .agg cs, .agg vs => litsOK cs vs.toList
  | .fn f [], .func (.func g) a b => Nat.beq f g && a.isEmpty && b.isEmpty
  | a, v => litOK a v

theorem litOK_rp {imm : Nat → Nat} {w : World} {a : AV} {v : Value} (h : litOK a v = true) (hn : a ≠ .onil) : RP imm w a v := by
  unfold litOK at h
  split at h
  · simp at h; subst h; exact .bool _
  · simp at h; obtain ⟨rfl, rfl⟩ := h; exact .int _ _
  · rw [strEq_iff] at h; subst h; exact .str _
  · exact absurd rfl hn
  · exact .nil _ _
  · exact .nilptr
  · exact .nilfn
  · cases h

theorem RP.rc {g : Gh} {w : World} {d : Nat} {a : AV} {v : Value} (h : RP g.imm w a v) : RC g w d a v := by
  intro κ
  cases h with
  | fn f => exact ⟨#[], rfl, rfl, by simp⟩
  | bool b => exact .bool b
  | int k n => exact .int k n
  | str s => exact .str s
  | agg cs vs hl ho h => exact .agg cs vs hl ho h
  | nil a cap => exact .nil a cap
  | slice l b off sz cap f hcap hs ho h hm => exact .slice l b off sz cap f hcap hs ho h hm
  | nilfn => exact .nilfn
  | nilptr => exact .nilptr

theorem RV1.rp {g : Gh} {w : World} {d : Nat} {κ : Key} {a : AV} {v : Value} (h : RV1 g w d κ a v) {p : AV} (hp : a.pur = some p) (hk : a ≠ .onil ∧ (∀ u sz l, a ≠ .own u sz l)) : RP g.imm w p v := by
  cases a <;> simp only [AV.pur, Option.some.injEq, reduceCtorEq] at hp
  case own u sz l => exact absurd rfl (hk.2 u sz l)
  case onil => exact absurd rfl hk.1
  case fn f caps =>
    cases caps with
    | cons => simp [AV.pur] at hp
    | nil =>
      simp only [AV.pur, Option.some.injEq] at hp
      subst hp
      obtain ⟨vs, h1, h2, _⟩ := h
      have : vs = #[] := by cases vs; simp_all
      subst this; subst h1; exact .fn f
  all_goals (subst hp; exact h)

theorem litOK_rc {g : Gh} {w : World} {d : Nat} {a : AV} {v : Value} (h : litOK a v = true) : RC g w d a v := by
  by_cases hn : a = .onil
  · subst hn
    unfold litOK at h
    split at h <;> first | exact fun _ => ⟨_, rfl⟩ | (rename_i e; cases e) | cases h
  · exact (litOK_rp h hn).rc

theorem cell_of_heap {w : World} {b : Nat} {c : Array Value} {e : TypeId} {f : Nat × Nat} (h : w.heap[b]? = some (.cells c e f)) (o : Nat) : w.cell? (at' b o) = c[o]? := by
  simp [World.cell?, at', h]

theorem getD_of_lt {c : Array Value} {o : Nat} (h : o < c.size) : c[o]? = some (c.getD o undef) := by
  simp [Array.getD, h]

theorem mul_add_lt {i j n sz : Nat} (hi : i < n) (hj : j < sz) : i * sz + j < n * sz := by
  have h1 : (i + 1) * sz ≤ n * sz := Nat.mul_le_mul_right sz hi
  rw [Nat.add_mul] at h1
  omega

/-- A row of cells that never turns again reads as a slice. -/
theorem Elems.rp {imm : Nat → Nat} {w : World} {b : Nat} {c : Array Value} {e : TypeId} {f : Nat × Nat} {sz : Nat} {l : List AV} {cap : Nat}
    (hh : w.heap[b]? = some (.cells c e f)) (hc : l.length * sz ≤ c.size) (h : Elems imm w sz l c) (hi : l.length * sz ≤ imm b) (hcap : l.length ≤ cap) :
    RP imm w (.slice l) (.slice (some (at' b 0)) l.length cap) := by
  refine .slice l b 0 sz cap (fun i j => c.getD (i * sz + j) undef) hcap h.1 (fun i e j c h1 h2 => (h.2 i e j c h1 h2).1) (fun i e j c h1 h2 => (h.2 i e j c h1 h2).2) fun i j hi' hj => ?_
  have := mul_add_lt hi' hj
  refine ⟨by omega, ?_⟩
  rw [cell_of_heap hh, Nat.zero_add]
  exact getD_of_lt (by omega)

theorem own_rp {g : Gh} {w : World} {d : Nat} {κ : Key} {sz : Nat} {l : List AV} {v : Value} (h : RV1 g w d κ (.own false sz l) v) : RP g.imm w (.slice l) v := by
  obtain ⟨b, cap, rfl, _, c, elem, h3, h4, h5, h6, h7⟩ := h
  have := Nat.mul_le_mul_right sz h4
  exact h6.rp h3 (by omega) (by simp at h7; omega) h4

theorem RV1.purs {g : Gh} {w : World} {d : Nat} {κ : Key} {a : AV} {v : Value} (h : RV1 g w d κ a v) {p : AV} (hp : a.pur = some p) : RP g.imm w p v := by
  cases a
  case own u sz l =>
    cases u <;> simp [AV.pur] at hp
    subst hp; exact own_rp h
  case onil =>
    simp [AV.pur] at hp
    subst hp; obtain ⟨x, rfl⟩ := h; exact .nil _ _
  all_goals exact h.rp hp ⟨by simp, by simp⟩

theorem RV.rv1 {g : Gh} {w : World} {d n : Nat} {a : AV} {v : Value} (h : RV g w d n a v) (ht : ∀ vs, a ≠ .tup vs) : RV1 g w d (.slot d n 0) a v := by
  cases a <;> first | exact h | exact absurd rfl (ht _)

theorem RC.rv {g : Gh} {w : World} {d n : Nat} {a : AV} {v : Value} (h : RC g w d a v) : RV g w d n a v := by
  cases a
  case tup vs => exact (h (.ret 0)).elim
  all_goals (simp only [RV]; exact h _)

theorem copy_ok {g : Gh} {w : World} {d n : Nat} {a b : AV} {v : Value} (h : RV g w d n a v) (hc : a.copy = some b) : RC g w d b v := by
  cases a
  case own u sz l =>
    cases u <;> simp [AV.copy] at hc
    subst hc; exact (own_rp (d := d) (κ := .slot d n 0) h).rc
  case onil =>
    simp [AV.copy] at hc
    subst hc; obtain ⟨x, rfl⟩ := h; exact (RP.nil _ _).rc
  case tup => simp [AV.copy] at hc
  all_goals (simp only [AV.copy, Option.some.injEq] at hc; subst hc; first | exact RP.rc h | exact fun _ => h)

theorem copy_ok1 {g : Gh} {w : World} {d : Nat} {κ : Key} {a b : AV} {v : Value} (h : RV1 g w d κ a v) (hc : a.copy = some b) : RC g w d b v := by
  cases a
  case own u sz l =>
    cases u <;> simp [AV.copy] at hc
    subst hc; exact (own_rp h).rc
  case onil =>
    simp [AV.copy] at hc
    subst hc; obtain ⟨x, rfl⟩ := h; exact (RP.nil _ _).rc
  case tup => simp [AV.copy] at hc
  all_goals (simp only [AV.copy, Option.some.injEq] at hc; subst hc; first | exact RP.rc h | exact fun _ => h)

def okOpd (N : Nat) (x : Operand) : Opd → Bool
  | .slot m => match x with
    | .tmp n => Nat.beq n m && Nat.blt n N
    | _ => false
  | .take m => match x with
    | .tmp n => Nat.beq n m && Nat.blt n N
    | _ => false
  | .lit a => match x with
    | .const v => litOK a v
    | .func f => match a with
      | .fn g [] => Nat.beq f g
      | _ => false
    | _ => false
  | .glob h => match x with
    | .global g => Nat.beq g h
    | _ => false

theorem okOpd_slot {N : Nat} {x : Operand} {m : Nat} (h : okOpd N x (.slot m) = true) : x = .tmp m ∧ m < N := by
  cases x <;> simp [okOpd, Nat.beq_eq, Nat.blt_eq] at h
  obtain ⟨rfl, h⟩ := h; exact ⟨rfl, h⟩

theorem okOpd_take {N : Nat} {x : Operand} {m : Nat} (h : okOpd N x (.take m) = true) : x = .tmp m ∧ m < N := by
  cases x <;> simp [okOpd, Nat.beq_eq, Nat.blt_eq] at h
  obtain ⟨rfl, h⟩ := h; exact ⟨rfl, h⟩

theorem okOpd_glob {N : Nat} {x : Operand} {m : Nat} (h : okOpd N x (.glob m) = true) : x = .global m := by
  cases x <;> simp [okOpd, Nat.beq_eq] at h
  exact h ▸ rfl

theorem okOpd_lit {N : Nat} {x : Operand} {A : AV} (h : okOpd N x (.lit A) = true) (a : Act) : (∃ f, A = .fn f [] ∧ x = .func f) ∨ litOK A (a.eval x) = true := by
  cases x with
  | const v => exact .inr h
  | func f =>
    left
    simp only [okOpd] at h
    split at h
    · rw [Nat.beq_eq] at h; subst h; exact ⟨_, rfl, rfl⟩
    · cases h
  | tmp => cases h
  | global => cases h

theorem lit_rc {g : Gh} {w : World} {d N : Nat} {x : Operand} {A : AV} (h : okOpd N x (.lit A) = true) (a : Act) : RC g w d A (a.eval x) := by
  rcases okOpd_lit h a with ⟨f, rfl, rfl⟩ | h
  · exact (RP.fn f).rc
  · exact litOK_rc h

theorem glob_rc {gl : Globs} {g : Gh} {d : Nat} {s : St} {tmps : Array Value} {w : World} (R : Rel gl g d s tmps w) (k : Nat) (a : Act) : RC g w d (.eptr (gl k)) (a.eval (.global k)) :=
  fun _ => ⟨k, 0, rfl, (R.globs k).1⟩

theorem pk_ok {gl : Globs} {g : Gh} {d : Nat} {s : St} {a : Act} {w : World} (R : Rel gl g d s a.tmps w) {N : Nat} {x : Operand} {ax : Opd} (h : okOpd N x ax = true) :
    ∃ n, RV g w d n (pk gl s.env ax) (a.eval x) := by
  cases ax with
  | slot m => obtain ⟨rfl, _⟩ := okOpd_slot h; exact ⟨m, R.slots m⟩
  | take m => obtain ⟨rfl, _⟩ := okOpd_take h; exact ⟨m, R.slots m⟩
  | lit A => exact ⟨0, (lit_rc h a).rv⟩
  | glob k => obtain rfl := okOpd_glob h; exact ⟨0, (glob_rc R k a).rv⟩

/-- What a read operand stands for: a slot's own value, or one that stands for the same anywhere. -/
def RD (g : Gh) (w : World) (d : Nat) (env : Env) (ax : Opd) (A : AV) (v : Value) : Prop :=
  (∃ n, ax = .take n ∧ A = env n ∧ RV g w d n A v) ∨ ((∀ n, ax ≠ .take n) ∧ RC g w d A v)

theorem rd_ok {gl : Globs} {g : Gh} {d : Nat} {s : St} {a : Act} {w : World} (R : Rel gl g d s a.tmps w) {N : Nat} {x : Operand} {ax : Opd} (h : okOpd N x ax = true)
    {A : AV} (hr : rd gl s.env ax = some A) : RD g w d s.env ax A (a.eval x) := by
  cases ax with
  | slot n => obtain ⟨rfl, _⟩ := okOpd_slot h; exact .inr ⟨by simp, copy_ok (R.slots n) hr⟩
  | take n =>
    simp only [rd, Option.some.injEq] at hr
    subst hr
    obtain ⟨rfl, _⟩ := okOpd_take h
    exact .inl ⟨n, rfl, rfl, R.slots n⟩
  | lit v =>
    simp only [rd, Option.some.injEq] at hr
    subst hr
    exact .inr ⟨by simp, lit_rc h a⟩
  | glob k =>
    simp only [rd, Option.some.injEq] at hr
    subst hr
    obtain rfl := okOpd_glob h
    exact .inr ⟨by simp, glob_rc R k a⟩

theorem RD.pur {g : Gh} {w : World} {d : Nat} {env : Env} {ax : Opd} {A : AV} {v : Value} (h : RD g w d env ax A v) {p : AV} (hp : A.pur = some p) : RP g.imm w p v := by
  rcases h with ⟨n, _, _, h⟩ | ⟨_, h⟩
  · refine RV1.purs (d := d) (κ := .slot d n 0) (h.rv1 ?_) hp
    rintro vs rfl; simp [AV.pur] at hp
  · exact (h (.ret 0)).purs hp

/-- The scalars. -/
theorem rv_int {g : Gh} {w : World} {d n : Nat} {k : IntKind} {m : Int} {v : Value} (h : RV g w d n (.int k m) v) : v = .int k m := by cases h; rfl
theorem rv_bool {g : Gh} {w : World} {d n : Nat} {b : Bool} {v : Value} (h : RV g w d n (.bool b) v) : v = .bool b := by cases h; rfl
theorem rv_str {g : Gh} {w : World} {d n : Nat} {l : List Nat} {v : Value} (h : RV g w d n (.str l) v) : ∃ s, v = .string s ∧ bytesN s = l := by cases h; exact ⟨_, rfl, rfl⟩
theorem rv_rp {g : Gh} {w : World} {d n : Nat} {a : AV} {v : Value} (h : RV g w d n a v) {p : AV} (hp : a.pur = some p) : RP g.imm w p v :=
  RV1.purs (d := d) (κ := .slot d n 0) (h.rv1 (by rintro vs rfl; simp [AV.pur] at hp)) hp

/-- One cell each. -/
theorem rp_one {imm : Nat → Nat} {w : World} {p : AV} {v : Value} (h : RP imm w p v) (ho : p.one = true) : v.oneCell' = true := by
  cases h <;> first | rfl | simp [AV.one] at ho

theorem rp_cells {imm : Nat → Nat} {w : World} {p : AV} {v : Value} (h : RP imm w p v) : v.cells.size = p.cellsA.length ∧
    ∀ (i : Nat) (c : AV), p.cellsA[i]? = some c → c.one = true ∧ RP imm w c (v.cells.getD i undef) := by
  cases h with
  | agg cs vs hl ho h => exact ⟨hl, fun i c hc => ⟨ho i c hc, h i c hc⟩⟩
  | bool b => refine ⟨rfl, fun i c hc => ?_⟩; cases i <;> simp [AV.cellsA] at hc; subst hc; exact ⟨rfl, .bool b⟩
  | int k n => refine ⟨rfl, fun i c hc => ?_⟩; cases i <;> simp [AV.cellsA] at hc; subst hc; exact ⟨rfl, .int k n⟩
  | str s => refine ⟨rfl, fun i c hc => ?_⟩; cases i <;> simp [AV.cellsA] at hc; subst hc; exact ⟨rfl, .str s⟩
  | nil a cap => refine ⟨rfl, fun i c hc => ?_⟩; cases i <;> simp [AV.cellsA] at hc; subst hc; exact ⟨rfl, .nil a cap⟩
  | slice l b off sz cap f hcap hs ho h hm => refine ⟨rfl, fun i c hc => ?_⟩; cases i <;> simp [AV.cellsA] at hc; subst hc; exact ⟨rfl, .slice l b off sz cap f hcap hs ho h hm⟩
  | fn f => refine ⟨rfl, fun i c hc => ?_⟩; cases i <;> simp [AV.cellsA] at hc; subst hc; exact ⟨rfl, .fn f⟩
  | nilfn => refine ⟨rfl, fun i c hc => ?_⟩; cases i <;> simp [AV.cellsA] at hc; subst hc; exact ⟨rfl, .nilfn⟩
  | nilptr => refine ⟨rfl, fun i c hc => ?_⟩; cases i <;> simp [AV.cellsA] at hc; subst hc; exact ⟨rfl, .nilptr⟩
end Go.Vs

namespace Go.Vs
open Go
set_option linter.unusedSimpArgs false
set_option linter.unusedVariables false

theorem upd_same {α : Type} (e : Nat → α) (n : Nat) (v : α) : upd e n v n = v := by simp [upd]
theorem upd_ne {α : Type} (e : Nat → α) {n m : Nat} (v : α) (h : m ≠ n) : upd e n v m = e m := by
  have : Nat.beq m n = false := by rw [← Bool.not_eq_true, Nat.beq_eq]; exact h
  simp [upd, this]

theorem wrs_append (env : Env) (a b : List (Nat × AV)) : wrs env (a ++ b) = wrs (wrs env a) b := by
  induction a generalizing env with
  | nil => rfl
  | cons p a ih => obtain ⟨n, v⟩ := p; exact ih _

def AllU (T : List (Nat × AV)) : Prop := ∀ p ∈ T, p.2 = AV.undef

theorem wrs_allU {T : List (Nat × AV)} (h : AllU T) (env : Env) (k : Nat) : (wrs env T k = .undef) ∨ (wrs env T k = env k ∧ k ∉ T.map (·.1)) := by
  induction T generalizing env with
  | nil => exact .inr ⟨rfl, by simp⟩
  | cons p T ih =>
    obtain ⟨n, v⟩ := p
    have hv : v = .undef := h (n, v) (by simp)
    subst hv
    rcases ih (fun p hp => h p (by simp [hp])) (upd env n .undef) with h1 | ⟨h1, h2⟩
    · exact .inl h1
    · by_cases hk : k = n
      · subst hk; left; show wrs (upd env k .undef) T k = _; rw [h1, upd_same]
      · right; exact ⟨by show wrs (upd env n .undef) T k = _; rw [h1, upd_ne _ _ hk], by simp [hk]; simpa using h2⟩

theorem allU_took (x : Opd) : AllU x.took := by
  cases x <;> simp [AllU, Opd.took]

theorem AllU.append {a b : List (Nat × AV)} (h : AllU a) (k : AllU b) : AllU (a ++ b) := fun p hp => by
  rcases List.mem_append.1 hp with hp | hp
  · exact h p hp
  · exact k p hp

theorem allU_nil : AllU [] := by simp [AllU]

theorem allU_tooks : ∀ l : List Opd, AllU (tooks l)
  | [] => allU_nil
  | x :: r => (allU_took x).append (allU_tooks r)

theorem allU_partTooks : ∀ l : List (Nat × Nat × Opd), AllU (partTooks l)
  | [] => allU_nil
  | (_, _, x) :: r => (allU_took x).append (allU_partTooks r)

def putT (tmps : Array Value) (D : Option Nat) (v : Value) : Array Value := match D with
  | some d => tmps.setIfInBounds d v
  | none => tmps

theorem put_tmps (a : Act) (D : Option Nat) (v : Value) : (a.put D v).tmps = putT a.tmps D v := by cases D <;> rfl
theorem put_defers (a : Act) (D : Option Nat) (v : Value) : (a.put D v).defers = a.defers := by cases D <;> rfl
theorem putT_size (tmps : Array Value) (D : Option Nat) (v : Value) : (putT tmps D v).size = tmps.size := by cases D <;> simp [putT]

theorem getD_set_same {t : Array Value} {m : Nat} (h : m < t.size) (v : Value) : (t.setIfInBounds m v).getD m undef = v := by
  simp [Array.getD, h]
theorem getD_set_ne' {t : Array Value} {m n : Nat} (h : n ≠ m) (v : Value) : (t.setIfInBounds m v).getD n undef = t.getD n undef := by
  have : m ≠ n := fun e => h e.symm
  simp [Array.getD_eq_getD_getElem?, Array.getElem?_setIfInBounds_ne this]

theorem Rel.gen {gl : Globs} {g : Gh} {d : Nat} {s : St} {tmps : Array Value} {w : World} (R : Rel gl g d s tmps w) {g' : Gh} {w' : World} {s' : St}
    {T : List (Nat × AV)} {D : Option Nat} {A : AV} {v : Value}
    (e : Ext g w g' w') (hl : LocKeep g g') (hT : AllU T) (henv : s'.env = wrs s.env (T ++ wrD D A)) (hD : ∀ m, D = some m → m < tmps.size)
    (hA : ∀ m, D = some m → RV g' w' d m A v)
    (hk : ∀ n c, D ≠ some n → n ∉ T.map (·.1) → Keep g w g' w' (.slot d n c))
    (hb : ∀ n b, mergeB s'.bx s'.nb n = some b → (mergeB s.bx s.nb n = some b ∧ Keep g w g' w' (.box d n) ∧ ∀ i, Keep g w g' w' (.cell d n i)) ∨ RBox g' w' d n b)
    (hd : ∀ n, mergeB s'.bx s'.nb n = none → g'.loc d n = none) (hx : ∀ n b, s'.bx n = some b → s'.nb n = none)
    (ho : ∀ l n b, stkGet s'.stk l n = some b → (stkGet s.stk l n = some b ∧ Keep g w g' w' (.box l n) ∧ ∀ i, Keep g w g' w' (.cell l n i)) ∨ RBox g' w' l n b)
    (hdo : ∀ l n, l < d → stkGet s'.stk l n = none → g'.loc l n = none) (hlv : s'.stk.length = d) (hf : ∀ b, w'.heap.size ≤ b → g'.ob b = none ∧ g'.imm b = 0) (hlo : ∀ l n b, g'.loc l n = some b → g'.ob b = some (.box l n) ∧ l ≤ d) :
    Rel gl g' d s' (putT tmps D v) w' := by
  refine R.on e hl (fun n => ?_) hb hd hx ho hdo hlv hf hlo
  rw [henv, wrs_append]
  cases D with
  | none =>
    simp only [wrD, wrs, putT]
    rcases wrs_allU hT s.env n with h | ⟨h1, h2⟩
    · right; rw [h]; trivial
    · left; exact ⟨h1, trivial, fun c => hk n c (by simp) h2⟩
  | some m =>
    simp only [wrD, wrs, putT]
    by_cases hn : n = m
    · subst hn
      right; rw [upd_same, getD_set_same (hD _ rfl)]; exact hA _ rfl
    · rw [upd_ne _ _ hn, getD_set_ne' hn]
      rcases wrs_allU hT s.env n with h | ⟨h1, h2⟩
      · right; rw [h]; trivial
      · left; exact ⟨h1, rfl, fun c => hk n c (by simpa using fun e => hn e.symm) h2⟩

theorem Keep.refl (g : Gh) (w : World) (κ : Key) : Keep g w g w κ := fun _ h => ⟨h, rfl, rfl⟩

/-- A result that needs no new memory and stands for the same anywhere. -/
theorem Rel.same {gl : Globs} {g : Gh} {d : Nat} {s : St} {tmps : Array Value} {w : World} (R : Rel gl g d s tmps w)
    {T : List (Nat × AV)} {D : Option Nat} {A : AV} {v : Value} (hT : AllU T) (hD : ∀ m, D = some m → m < tmps.size) (hA : RC g w d A v) :
    Rel gl g d { s with env := wrs s.env (T ++ wrD D A) } (putT tmps D v) w :=
  R.gen (.refl _ _) (fun _ _ _ h => h) hT rfl hD (fun _ _ => hA.rv) (fun _ _ _ _ => .refl _ _ _)
    (fun n b h => .inl ⟨h, .refl _ _ _, fun _ => .refl _ _ _⟩) R.dead R.excl (fun l n b h => .inl ⟨h, .refl _ _ _, fun _ => .refl _ _ _⟩) R.deadO R.lvl R.fresh R.locs

/-- The keys of one slot become those of another. -/
def Key.mv (d n m : Nat) : Key → Key
  | .slot l k c => if l = d ∧ k = n then .slot d m c else .slot l k c
  | κ => κ

def Gh.mv (g : Gh) (d n m : Nat) : Gh := { g with ob := fun b => (g.ob b).map (Key.mv d n m) }

theorem mv_ext (g : Gh) (w : World) (d n m : Nat) : Ext g w (g.mv d n m) w := ⟨fun _ => Nat.le_refl _, fun _ _ _ => rfl⟩

theorem mv_keep (g : Gh) (w : World) (d n m : Nat) {κ : Key} (h : Key.mv d n m κ = κ) : Keep g w (g.mv d n m) w κ := fun b hb => ⟨by simp [Gh.mv, hb, h], rfl, rfl⟩

theorem mv_step (g : Gh) (w : World) (d n m : Nat) : Step g w (g.mv d n m) w :=
  ⟨mv_ext _ _ _ _ _, Nat.le_refl _, fun b _ h => ⟨by simp [Gh.mv, h], rfl, rfl⟩, rfl, rfl, rfl, fun _ _ _ h => h⟩

theorem RV1.mv {g : Gh} {w : World} {d n m i : Nat} {a : AV} {v : Value} (h : RV1 g w d (.slot d n i) a v) : RV1 (g.mv d n m) w d (.slot d m i) a v := by
  cases a
  case own u sz l =>
    obtain ⟨b, cap, h1, h2, h3⟩ := h
    exact ⟨b, cap, h1, by simp [Gh.mv, h2, Key.mv], h3⟩
  all_goals exact h

theorem RV.mv {g : Gh} {w : World} {d n m : Nat} {a : AV} {v : Value} (h : RV g w d n a v) : RV (g.mv d n m) w d m a v := by
  cases a
  case tup vs =>
    obtain ⟨ws, h1, h2, h3⟩ := h
    exact ⟨ws, h1, h2, fun i c hc => (h3 i c hc).mv⟩
  all_goals (simp only [RV] at h ⊢; exact h.mv)

theorem Rel.mvd {gl : Globs} {g : Gh} {d : Nat} {s : St} {tmps : Array Value} {w : World} (R : Rel gl g d s tmps w)
    {T : List (Nat × AV)} {D : Option Nat} {A : AV} {v : Value} (hT : AllU T) (hD : ∀ m, D = some m → m < tmps.size) {n : Nat} (hn : n ∈ T.map (·.1)) (hA : RV g w d n A v) :
    ∃ g', Rel gl g' d { s with env := wrs s.env (T ++ wrD D A) } (putT tmps D v) w ∧ Step g w g' w := by
  refine ⟨g.mv d n (D.getD 0), ?_, mv_step _ _ _ _ _⟩
  refine R.gen (mv_ext _ _ _ _ _) (fun _ _ _ h => h) hT rfl hD (fun m hm => by subst hm; exact hA.mv) (fun k c hk hk2 => mv_keep _ _ _ _ _ ?_)
    (fun n b h => .inl ⟨h, mv_keep _ _ _ _ _ rfl, fun _ => mv_keep _ _ _ _ _ rfl⟩) R.dead R.excl (fun l n b h => .inl ⟨h, mv_keep _ _ _ _ _ rfl, fun _ => mv_keep _ _ _ _ _ rfl⟩) R.deadO R.lvl
    (fun b hb => ⟨by simp [Gh.mv, (R.fresh b hb).1], (R.fresh b hb).2⟩) (fun l n b h => ⟨by simp [Gh.mv, (R.locs l n b h).1, Key.mv], (R.locs l n b h).2⟩)
  simp only [Key.mv]
  rw [if_neg]
  rintro ⟨_, rfl⟩
  exact hk2 hn

theorem Rel.rd {gl : Globs} {g : Gh} {d : Nat} {s : St} {tmps : Array Value} {w : World} (R : Rel gl g d s tmps w)
    {T : List (Nat × AV)} {D : Option Nat} {A : AV} {v : Value} {ax : Opd} (hT : AllU T) (hsub : ∀ p ∈ ax.took, p ∈ T) (hD : ∀ m, D = some m → m < tmps.size) (hA : RD g w d s.env ax A v) :
    ∃ g', Rel gl g' d { s with env := wrs s.env (T ++ wrD D A) } (putT tmps D v) w ∧ Step g w g' w := by
  rcases hA with ⟨n, rfl, _, h⟩ | ⟨_, h⟩
  · exact R.mvd hT hD (n := n) (List.mem_map.2 ⟨(n, .undef), hsub _ (by simp [Opd.took]), rfl⟩) h
  · exact ⟨g, R.same hT hD h, .refl _ _⟩
end Go.Vs

namespace Go.Vs
open Go
set_option linter.unusedSimpArgs false
set_option linter.unusedVariables false

/-- An operation comes to what the evaluator says of it. -/
def OpOK (P : Program) (gl : Globs) (g : Gh) (d : Nat) (s : St) (a : Act) (w : World) (o : Oper) (draw : Bool) (e : Eff) : Prop :=
  ∃ g' v w', ((execOp a.eval o).run P w = .ok (.value v) w' ∨ ((execOp a.eval o).run P w = .ok .skip w' ∧ v = undef)) ∧
    Rel gl g' d (applyEff draw s e) (putT a.tmps o.dst v) w' ∧ Step g w g' w'

section
variable {P : Program} {gl : Globs} {g : Gh} {d N : Nat} {s : St} {a : Act} {w : World} {o : Oper} {draw : Bool} {e : Eff} {C : Callee}

/-- No new memory, the same anywhere. -/
theorem OpOK.same (R : Rel gl g d s a.tmps w) (hD : ∀ m, o.dst = some m → m < a.tmps.size) {v : Value} {A : AV} (hr : (execOp a.eval o).run P w = .ok (.value v) w) (hA : RC g w d A v) :
    OpOK P gl g d s a w o draw { wr := wrD o.dst A } :=
  ⟨g, v, w, .inl hr, R.same (T := []) allU_nil hD hA, .refl _ _⟩

theorem run_mv {x : Operand} (ho : o.op = .move x ∨ o.op = .assign x) : (execOp a.eval o).run P w = .ok (.value (a.eval x)) w := by
  rcases ho with ho | ho <;> simp [execOp, ho]

theorem ok_mv (R : Rel gl g d s a.tmps w) (hD : ∀ m, o.dst = some m → m < a.tmps.size) {x : Operand} {ax : Opd} (ho : o.op = .move x ∨ o.op = .assign x) (hx : okOpd N x ax = true)
    (he : eff gl C o.dst s.env s.bx s.nb s.stk (.mv ax) = some e) : OpOK P gl g d s a w o draw e := by
  simp only [eff] at he
  split at he
  · cases he
  · rename_i A hA
    simp only [Option.some.injEq] at he; subst he
    obtain ⟨g', h1, h2⟩ := R.rd (allU_took ax) (fun p hp => hp) hD (rd_ok R hx hA)
    exact ⟨g', a.eval x, w, .inl (run_mv ho), h1, h2⟩

theorem ok_pick (R : Rel gl g d s a.tmps w) (hD : ∀ m, o.dst = some m → m < a.tmps.size) {c x y : Operand} {ac ax ay : Opd} (ho : o.op = .pick c x y) (hc : okOpd N c ac = true)
    (hx : okOpd N x ax = true) (hy : okOpd N y ay = true)
    (he : eff gl C o.dst s.env s.bx s.nb s.stk (.pick ac ax ay) = some e) : OpOK P gl g d s a w o draw e := by
  simp only [eff] at he
  split at he
  · rename_i t hp
    obtain ⟨n, hb⟩ := pk_ok R hc
    rw [hp] at hb
    have hb := rv_bool hb
    have hrun : (execOp a.eval o).run P w = .ok (.value (bif t then a.eval x else a.eval y)) w := by
      cases t <;> simp [execOp, ho, hb, asBool]
    cases t
    · simp only [cond_false] at he hrun
      split at he
      · cases he
      · rename_i A hA
        simp only [Option.some.injEq] at he; subst he
        obtain ⟨g', h1, h2⟩ := R.rd (allU_took ay) (fun p hp => hp) hD (rd_ok R hy hA)
        exact ⟨g', a.eval y, w, .inl hrun, h1, h2⟩
    · simp only [cond_true] at he hrun
      split at he
      · cases he
      · rename_i A hA
        simp only [Option.some.injEq] at he; subst he
        obtain ⟨g', h1, h2⟩ := R.rd (allU_took ax) (fun p hp => hp) hD (rd_ok R hx hA)
        exact ⟨g', a.eval x, w, .inl hrun, h1, h2⟩
  · cases he

theorem semV_run {x : Sem Value} {A : AV} (h : semV x = some A) : ∃ v, x = .pure v ∧ ∀ g w d, RC g w d A v := by
  unfold semV at h
  split at h
  · simp only [Option.some.injEq] at h; subst h; exact ⟨_, rfl, fun _ _ _ => (RP.bool _).rc⟩
  · simp only [Option.some.injEq] at h; subst h; exact ⟨_, rfl, fun _ _ _ => (RP.int _ _).rc⟩
  · cases h

theorem strLt_less : ∀ a b : List UInt8, strLt (a.map UInt8.toNat) (b.map UInt8.toNat) = Op.bytesLess a b
  | a, [] => by cases a <;> simp [strLt, Op.bytesLess]
  | [], y :: b => by simp [strLt, Op.bytesLess]
  | x :: a, y :: b => by
    simp only [List.map_cons, strLt, Op.bytesLess, strLt_less a b]
    congr 1
    · rw [Bool.eq_iff_iff]; simp [Nat.blt_eq, UInt8.lt_iff_toNat_lt]
    · congr 1
      rw [Bool.eq_iff_iff, Nat.beq_eq]; simp [UInt8.toNat_inj]

theorem toList_bytes (s : ByteArray) : s.toList.map UInt8.toNat = bytesN s := by rw [ByteArray.toList_eq]; rfl

theorem strEq_bytes (a b : ByteArray) : strEq (bytesN a) (bytesN b) = (a.toList == b.toList) := by
  rw [Bool.eq_iff_iff, strEq_iff, beq_iff_eq, ← toList_bytes, ← toList_bytes]
  exact ⟨map_toNat_inj, fun h => by rw [h]⟩

theorem strLt_bytes (a b : ByteArray) : strLt (bytesN a) (bytesN b) = Op.bytesLess a.toList b.toList := by
  rw [← toList_bytes, ← toList_bytes, strLt_less]

theorem bytesN_append (a b : ByteArray) : bytesN (a ++ b) = bytesN a ++ bytesN b := by simp [bytesN]

theorem eqGuard_int (op : BinOp) (t : TypeId) (x y : Operand) (k k' : IntKind) (a b : Int) : eqGuard op t x y (.int k a) (.int k' b) = pure () := by
  unfold eqGuard; split <;> rfl
theorem eqGuard_str (op : BinOp) (t : TypeId) (x y : Operand) (a b : ByteArray) : eqGuard op t x y (.string a) (.string b) = pure () := by
  unfold eqGuard; split <;> rfl
theorem eqGuard_bool (op : BinOp) (t : TypeId) (x y : Operand) (a b : Bool) : eqGuard op t x y (.bool a) (.bool b) = pure () := by
  unfold eqGuard; split <;> rfl

theorem bin_int {op : BinOp} {t : TypeId} {k k' : IntKind} {m n : Int} {A : AV} (h : binA op (.int k m) (.int k' n) = some A) :
    ∃ v, (binOp op t (.int k m) (.int k' n)).run P w = .ok v w ∧ ∀ g d, RC g w d A v := by
  by_cases hk : k = k'
  · subst hk
    cases op <;> simp only [binA, if_true] at h
    case quo =>
      split at h
      · cases h
      · rename_i hb
        simp only [Option.some.injEq] at h; subst h
        exact ⟨_, by simp only [binOp, Op.intDiv, hb, ne_eq, not_true_eq_false, if_false, Sem.run_pure], fun g d => (RP.int _ _).rc⟩
    case rem =>
      split at h
      · cases h
      · rename_i hb
        simp only [Option.some.injEq] at h; subst h
        exact ⟨_, by simp only [binOp, Op.intDiv, hb, ne_eq, not_true_eq_false, if_false, Sem.run_pure], fun g d => (RP.int _ _).rc⟩
    all_goals first
      | (simp only [Option.some.injEq] at h; subst h; exact ⟨_, by simp only [binOp, Op.intArith, ne_eq, not_true_eq_false, if_false, Sem.run_pure], fun g d => (RP.int _ _).rc⟩)
      | (simp only [Option.some.injEq] at h; subst h; exact ⟨_, by simp only [binOp, Op.intCmp, ne_eq, not_true_eq_false, if_false, Sem.run_pure], fun g d => (RP.bool _).rc⟩)
      | (obtain ⟨v, h1, h2⟩ := semV_run h; exact ⟨v, by simp [binOp, h1], fun g d => h2 g w d⟩)
  · cases op <;> simp only [binA, hk, if_false, reduceCtorEq] at h
    all_goals (obtain ⟨v, h1, h2⟩ := semV_run h; exact ⟨v, by simp [binOp, h1], fun g d => h2 g w d⟩)

theorem bin_str {op : BinOp} {t : TypeId} {x y : ByteArray} {A : AV} (h : binA op (.str (bytesN x)) (.str (bytesN y)) = some A) :
    ∃ v, (binOp op t (.string x) (.string y)).run P w = .ok v w ∧ ∀ g d, RC g w d A v := by
  cases op <;> simp only [binA, reduceCtorEq] at h
  case add =>
    split at h
    · rename_i hl
      simp only [Option.some.injEq] at h; subst h
      rw [bytesN_length, bytesN_length] at hl
      have hmax : ¬ (((x.size + y.size : Nat) : Int) > IntKind.i64.max) := by
        have : IntKind.i64.max = 9223372036854775807 := by decide
        rw [this]; unfold maxStr at hl; omega
      refine ⟨.string (x ++ y), by simp only [binOp, Op.stringOp, if_neg hmax, Sem.run_pure], fun g d => ?_⟩
      rw [← bytesN_append]; exact (RP.str _).rc
    · cases h
  all_goals (simp only [Option.some.injEq, strEq_bytes, strLt_bytes] at h; subst h)
  all_goals exact ⟨_, by simp only [binOp, Op.stringOp, Sem.run_pure], fun g d => (RP.bool _).rc⟩

theorem ok_bin (R : Rel gl g d s a.tmps w) (hD : ∀ m, o.dst = some m → m < a.tmps.size) {op : BinOp} {xt yt : TypeId} {x y : Operand} {ax ay : Opd} (ho : o.op = .binOp op xt x y yt)
    (hx : okOpd N x ax = true) (hy : okOpd N y ay = true)
    (he : eff gl C o.dst s.env s.bx s.nb s.stk (.bin op ax ay) = some e) : OpOK P gl g d s a w o draw e := by
  simp only [eff] at he
  obtain ⟨n, hX⟩ := pk_ok R hx
  obtain ⟨m, hY⟩ := pk_ok R hy
  generalize pk gl s.env ax = X at *
  generalize pk gl s.env ay = Y at *
  split at he
  · cases he
  · rename_i A hA
    simp only [Option.some.injEq] at he; subst he
    have key : ∃ v, (execOp a.eval o).run P w = .ok (.value v) w ∧ ∀ g d, RC g w d A v := by
      have hA' := hA
      unfold binA at hA'
      split at hA'
      · have h1 := rv_int hX; have h2 := rv_int hY
        obtain ⟨v, h3, h4⟩ := bin_int (P := P) (w := w) (t := xt) hA
        exact ⟨v, by simp [execOp, ho, h1, h2, eqGuard_int, h3], h4⟩
      · obtain ⟨x', h1, rfl⟩ := rv_str hX; obtain ⟨y', h2, rfl⟩ := rv_str hY
        obtain ⟨v, h3, h4⟩ := bin_str (P := P) (w := w) (t := xt) hA
        exact ⟨v, by simp [execOp, ho, h1, h2, eqGuard_str, h3], h4⟩
      · cases hA'
    obtain ⟨v, h1, h2⟩ := key
    exact OpOK.same R hD h1 (h2 g d)

end
end Go.Vs

namespace Go.Vs
open Go
set_option linter.unusedSimpArgs false
set_option linter.unusedVariables false

section
variable {P : Program} {gl : Globs} {g : Gh} {d N : Nat} {s : St} {a : Act} {w : World} {o : Oper} {draw : Bool} {e : Eff} {C : Callee}

theorem run_und {t : TypeId} {x : TypeDesc} (h : P.underlying t = some x) : (underlying t).run P w = .ok x w := by simp [underlying, h]
theorem run_info {t : TypeId} {x : TypeInfo} (h : P.info? t = some x) : (typeInfo t).run P w = .ok x w := by simp [typeInfo, h]
theorem run_size {t : TypeId} {n : Nat} (h : (P.info? t).map (·.size) = some n) : (sizeOf t).run P w = .ok n w := by
  simp only [Option.map_eq_some_iff] at h
  obtain ⟨i, h1, h2⟩ := h
  simp [sizeOf, run_info h1, h2]

theorem equalIn_bool {t : TypeId} (h : P.underlying t = some .bool) (x y : Bool) (n : Nat) : (Op.equalIn (n + 1) t (.bool x) (.bool y)).run P w = .ok (x == y) w := by
  simp [Op.equalIn, run_und h]
theorem equal_bool {t : TypeId} (h : P.underlying t = some .bool) (x y : Bool) : (Op.equal t (.bool x) (.bool y)).run P w = .ok (x == y) w := equalIn_bool h x y 9999

theorem ok_eqb (R : Rel gl g d s a.tmps w) (hD : ∀ m, o.dst = some m → m < a.tmps.size) {neg : Bool} {xt yt : TypeId} {x y : Operand} {ax ay : Opd}
    (ho : o.op = .binOp (bif neg then .neq else .eql) xt x y yt) (ht : P.underlying xt = some .bool) (hx : okOpd N x ax = true) (hy : okOpd N y ay = true)
    (he : eff gl C o.dst s.env s.bx s.nb s.stk (.eqb neg ax ay) = some e) : OpOK P gl g d s a w o draw e := by
  simp only [eff] at he
  obtain ⟨n, hX⟩ := pk_ok R hx
  obtain ⟨m, hY⟩ := pk_ok R hy
  split at he
  · rename_i p q h1 h2
    rw [h1] at hX; rw [h2] at hY
    simp only [Option.some.injEq] at he; subst he
    refine OpOK.same R hD (v := .bool (bif neg then !(p == q) else (p == q))) ?_ (RP.bool _).rc
    cases neg <;> simp [execOp, ho, rv_bool hX, rv_bool hY, eqGuard_bool, binOp, equal_bool ht]
  · cases he

theorem equalIn_nilS {t e : TypeId} (h : P.underlying t = some (.slice e)) (b : Addr) (m c n : Nat) : (Op.equalIn (n + 1) t (.slice (some b) m c) (.slice none 0 0)).run P w = .ok false w := by
  simp [Op.equalIn, run_und h]
theorem equal_nilS {t e : TypeId} (h : P.underlying t = some (.slice e)) (b : Addr) (m c : Nat) : (Op.equal t (.slice (some b) m c) (.slice none 0 0)).run P w = .ok false w := equalIn_nilS h b m c 9999

theorem ok_nilS (R : Rel gl g d s a.tmps w) (hD : ∀ m, o.dst = some m → m < a.tmps.size) {xt yt e' : TypeId} {x : Operand} {ax : Opd}
    (ho : o.op = .binOp .eql xt x (.const (.slice none 0 0)) yt) (ht : P.underlying xt = some (.slice e')) (hx : okOpd N x ax = true)
    (he : eff gl C o.dst s.env s.bx s.nb s.stk (.nilS ax) = some e) : OpOK P gl g d s a w o draw e := by
  simp only [eff] at he
  obtain ⟨n, hX⟩ := pk_ok R hx
  split at he
  · rename_i y l h1
    rw [h1] at hX
    simp only [Option.some.injEq] at he; subst he
    have hr : RP g.imm w (.slice (y :: l)) (a.eval x) := hX
    refine OpOK.same R hD (v := .bool false) ?_ (RP.bool _).rc
    generalize hv : a.eval x = v at hr
    cases hr with
    | slice l b off sz cap f hcap hs hone h hm =>
      have e0 : a.eval (.const (.slice none 0 0)) = .slice none 0 0 := rfl
      simp [execOp, ho, hv, e0, eqGuard, binOp, equal_nilS ht]
  · cases he

theorem ok_un (R : Rel gl g d s a.tmps w) (hD : ∀ m, o.dst = some m → m < a.tmps.size) {op : UnOp} {xt : TypeId} {x : Operand} {ax : Opd}
    (ho : o.op = .unOp op xt x) (hx : okOpd N x ax = true)
    (he : eff gl C o.dst s.env s.bx s.nb s.stk (.un op ax) = some e) : OpOK P gl g d s a w o draw e := by
  simp only [eff] at he
  obtain ⟨n, hX⟩ := pk_ok R hx
  generalize pk gl s.env ax = X at *
  split at he
  · cases he
  · rename_i A hA
    simp only [Option.some.injEq] at he; subst he
    have key : ∃ v, (execOp a.eval o).run P w = .ok (.value v) w ∧ ∀ g d, RC g w d A v := by
      unfold unA at hA
      split at hA
      · have h1 := rv_bool hX
        cases op <;> simp only [Option.some.injEq, reduceCtorEq] at hA
        subst hA
        exact ⟨_, by simp [execOp, ho, h1, Op.unary], fun g d => (RP.bool _).rc⟩
      · have h1 := rv_int hX
        cases op <;> simp only [Option.some.injEq, reduceCtorEq] at hA
        · subst hA
          exact ⟨_, by simp [execOp, ho, h1, Op.unary, Op.intArith], fun g d => (RP.int _ _).rc⟩
        · obtain ⟨v, h3, h4⟩ := semV_run hA
          exact ⟨v, by simp [execOp, ho, h1, Op.unary, h3], fun g d => h4 g w d⟩
      · cases hA
    obtain ⟨v, h1, h2⟩ := key
    exact OpOK.same R hD h1 (h2 g d)

theorem ok_conv (R : Rel gl g d s a.tmps w) (hD : ∀ m, o.dst = some m → m < a.tmps.size) {k k' : IntKind} {src dst : TypeId} {x : Operand} {ax : Opd}
    (ho : o.op = .convert src dst x) (hs : P.underlying src = some (.int k')) (ht : P.underlying dst = some (.int k)) (hx : okOpd N x ax = true)
    (he : eff gl C o.dst s.env s.bx s.nb s.stk (.conv k ax) = some e) : OpOK P gl g d s a w o draw e := by
  simp only [eff] at he
  obtain ⟨n, hX⟩ := pk_ok R hx
  split at he
  · rename_i j q h1
    rw [h1] at hX
    simp only [Option.some.injEq] at he; subst he
    refine OpOK.same R hD (v := .int k (k.wrap q)) ?_ (RP.int _ _).rc
    simp [execOp, ho, rv_int hX, convert, run_und hs, run_und ht, Conv.intToInt]
  · cases he

theorem rv_agg {n : Nat} {cs : List AV} {v : Value} (h : RV g w d n (.agg cs) v) : ∃ vs : Array Value, v = .agg vs ∧ RP g.imm w (.agg cs) (.agg vs) := by
  have h' : RP g.imm w (.agg cs) v := h
  cases h' with
  | agg _ vs hl ho h2 => exact ⟨vs, rfl, .agg _ vs hl ho h2⟩

theorem rp_agg {imm : Nat → Nat} {cs : List AV} {vs : Array Value} (h : RP imm w (.agg cs) (.agg vs)) :
    vs.size = cs.length ∧ ∀ (i : Nat) (c : AV), cs[i]? = some c → c.one = true ∧ RP imm w c (vs.getD i undef) := by
  cases h with
  | agg _ _ hl ho h => exact ⟨hl, fun i c hc => ⟨ho i c hc, h i c hc⟩⟩

theorem getD_extract {vs : Array Value} {off n i : Nat} (h : off + n ≤ vs.size) (hi : i < n) : (vs.extract off (off + n)).getD i undef = vs.getD (off + i) undef := by
  have h1 : i < (vs.extract off (off + n)).size := by simp; omega
  have h2 : off + i < vs.size := by omega
  rw [Array.getD_eq_getD_getElem?, Array.getD_eq_getD_getElem?, Array.getElem?_eq_getElem h1, Array.getElem?_eq_getElem h2, Array.getElem_extract]

theorem drop_take_get {cs : List AV} {off n i : Nat} {c : AV} (h : ((cs.drop off).take n)[i]? = some c) : i < n ∧ cs[off + i]? = some c := by
  rw [List.getElem?_take] at h
  split at h
  · rw [List.getElem?_drop] at h; exact ⟨by assumption, h⟩
  · cases h

/-- A part of a struct's cells. -/
theorem rp_part {imm : Nat → Nat} {cs : List AV} {vs : Array Value} (h : RP imm w (.agg cs) (.agg vs)) {off n : Nat} (hn : off + n ≤ cs.length) :
    RP imm w (.agg ((cs.drop off).take n)) (.agg (vs.extract off (off + n))) := by
  obtain ⟨h1, h2⟩ := rp_agg h
  refine .agg _ _ (by simp; omega) (fun i c hc => ?_) (fun i c hc => ?_)
  · obtain ⟨_, h4⟩ := drop_take_get hc; exact (h2 _ _ h4).1
  · obtain ⟨h3, h4⟩ := drop_take_get hc
    rw [getD_extract (by omega) h3]; exact (h2 _ _ h4).2

theorem single_eq {l : List AV} {A : AV} (h : AV.single l = some A) : l = [A] := by
  cases l with
  | nil => simp [AV.single] at h
  | cons x r => cases r with
    | nil => simp [AV.single] at h; subst h; rfl
    | cons => simp [AV.single] at h

theorem run_part {t : TypeId} {n : Nat} {ag : Bool} (hag : (isAgg t).run P w = .ok ag w) (hsz : (P.info? t).map (·.size) = some n) {imm : Nat → Nat} {cs : List AV} {vs : Array Value}
    (h : RP imm w (.agg cs) (.agg vs)) {off : Nat} (hn : off + n ≤ cs.length) {A : AV} (hj : joinV ag ((cs.drop off).take n) = some A) :
    ∃ v, (part t vs off).run P w = .ok v w ∧ RP imm w A v := by
  have hp := rp_part h hn
  obtain ⟨h1, h2⟩ := rp_agg h
  cases ag with
  | true =>
    simp [joinV] at hj; subst hj
    exact ⟨_, by simp [part, hag, run_size hsz], hp⟩
  | false =>
    simp only [joinV, Bool.false_eq_true, if_false] at hj
    have hs := single_eq hj
    have h0 : ((cs.drop off).take n)[0]? = some A := by rw [hs]; rfl
    obtain ⟨h3, h4⟩ := drop_take_get h0
    rw [Nat.add_zero] at h4
    have hlt : off < vs.size := by omega
    have h5 := getD_of_lt hlt
    have h6 := (h2 _ _ h4).2
    generalize vs.getD off undef = z at h5 h6
    exact ⟨z, by simp [part, hag, h5], h6⟩

theorem ok_fld (R : Rel gl g d s a.tmps w) (hD : ∀ m, o.dst = some m → m < a.tmps.size) {xt : TypeId} {f off n : Nat} {ag : Bool} {fs : Array Field} {fd : Field} {x : Operand} {ax : Opd}
    (ho : o.op = .field xt x f) (hs : P.underlying xt = some (.struct fs)) (hf : fs[f]? = some fd) (hoff : fd.offset = off) (hsz : (P.info? fd.type).map (·.size) = some n)
    (hag : (isAgg fd.type).run P w = .ok ag w) (hx : okOpd N x ax = true)
    (he : eff gl C o.dst s.env s.bx s.nb s.stk (.fld ag off n ax) = some e) : OpOK P gl g d s a w o draw e := by
  simp only [eff] at he
  obtain ⟨m, hX⟩ := pk_ok R hx
  split at he
  · rename_i cs h1
    rw [h1] at hX
    obtain ⟨vs, hv, hr⟩ := rv_agg hX
    split at he
    · rename_i hn
      split at he
      · rename_i A hA
        simp only [Option.some.injEq] at he; subst he
        obtain ⟨v, h3, h4⟩ := run_part (P := P) hag hsz hr hn hA
        refine OpOK.same R hD (v := v) ?_ h4.rc
        subst hoff
        simp [execOp, ho, hv, Instr.field, run_und hs, hf, asAgg, h3]
      · cases he
    · cases he
  · cases he

theorem ok_idxA (R : Rel gl g d s a.tmps w) (hD : ∀ m, o.dst = some m → m < a.tmps.size) {xt et : TypeId} {len sz : Nat} {ag : Bool} {x i : Operand} {ax ai : Opd}
    (ho : o.op = .index xt x i) (hs : P.underlying xt = some (.array len et)) (hsz : (P.info? et).map (·.size) = some sz)
    (hag : (isAgg et).run P w = .ok ag w) (hx : okOpd N x ax = true) (hi : okOpd N i ai = true)
    (he : eff gl C o.dst s.env s.bx s.nb s.stk (.idxA ag len sz ax ai) = some e) : OpOK P gl g d s a w o draw e := by
  simp only [eff] at he
  obtain ⟨m, hX⟩ := pk_ok R hx
  obtain ⟨m', hI⟩ := pk_ok R hi
  split at he
  · rename_i cs kd k h1 h2
    rw [h1] at hX; rw [h2] at hI
    obtain ⟨vs, hv, hr⟩ := rv_agg hX
    split at he
    · rename_i hn
      split at he
      · rename_i A hA
        simp only [Option.some.injEq] at he; subst he
        obtain ⟨v, h3, h4⟩ := run_part (P := P) hag hsz hr hn.2 hA
        refine OpOK.same R hD (v := v) ?_ h4.rc
        have hk : (0 : Int) ≤ (Int.ofNat k) ∧ (Int.ofNat k) < (len : Int) := ⟨Int.natCast_nonneg k, Int.ofNat_lt.2 hn.1⟩
        have e1 : (Int.ofNat k).toNat = k := rfl
        simp [execOp, ho, hv, rv_int hI, Instr.index, asIntOf, run_und hs, run_size hsz, hn.1, h3]
      · cases he
    · cases he
  · cases he

theorem ok_idxS (R : Rel gl g d s a.tmps w) (hD : ∀ m, o.dst = some m → m < a.tmps.size) {xt : TypeId} {x i : Operand} {ax ai : Opd}
    (ho : o.op = .index xt x i) (hs : P.underlying xt = some .string) (hx : okOpd N x ax = true) (hi : okOpd N i ai = true)
    (he : eff gl C o.dst s.env s.bx s.nb s.stk (.idxS ax ai) = some e) : OpOK P gl g d s a w o draw e := by
  simp only [eff] at he
  obtain ⟨m, hX⟩ := pk_ok R hx
  obtain ⟨m', hI⟩ := pk_ok R hi
  split at he
  · rename_i l kd k h1 h2
    rw [h1] at hX; rw [h2] at hI
    obtain ⟨str, hv, rfl⟩ := rv_str hX
    split at he
    · rename_i b hb
      simp only [Option.some.injEq] at he; subst he
      simp only [bytesN, List.getElem?_map, Option.map_eq_some_iff] at hb
      obtain ⟨u, hu, rfl⟩ := hb
      refine OpOK.same R hD (v := .int .u8 u.toNat) ?_ (RP.int _ _).rc
      have hu' : str[k]? = some u := by
        rw [← hu, Array.getElem?_toList]
        by_cases hk : k < str.size
        · have : k < str.data.size := hk
          simp [getElem?_pos, hk, this]; rfl
        · have : ¬ k < str.data.size := hk
          simp [getElem?_neg, hk, this]
      simp [execOp, ho, hv, rv_int hI, Instr.index, asIntOf, run_und hs, hu']
    · cases he
  · cases he
end
end Go.Vs

namespace Go.Vs
open Go
set_option linter.unusedSimpArgs false
set_option linter.unusedVariables false

section
variable {P : Program} {gl : Globs} {g : Gh} {d N : Nat} {s : St} {a : Act} {w : World} {o : Oper} {draw : Bool} {e : Eff} {C : Callee}

/-- No new memory; the result stands for the same anywhere; an operand may have been used up. -/
theorem OpOK.sameT (R : Rel gl g d s a.tmps w) (hD : ∀ m, o.dst = some m → m < a.tmps.size) {T : List (Nat × AV)} (hT : AllU T) {v : Value} {A : AV} (hr : (execOp a.eval o).run P w = .ok (.value v) w) (hA : RC g w d A v) :
    OpOK P gl g d s a w o draw { wr := T ++ wrD o.dst A } :=
  ⟨g, v, w, .inl hr, R.same hT hD hA, .refl _ _⟩

theorem REp.drop {imm : Nat → Nat} {cs : List AV} {b q n : Nat} (h : REp imm w cs b q) : REp imm w (cs.drop n) b (q + n) := fun j c hc => by
  rw [List.getElem?_drop] at hc
  obtain ⟨h1, x, h2, h3, h4⟩ := h _ _ hc
  exact ⟨h1, x, h2, by rw [Nat.add_assoc]; exact h3, by omega⟩

theorem run_fieldAt {S : TypeId} {fs : Array Field} {f n : Nat} {fd : Field} (hs : P.underlying S = some (.struct fs)) (hf : fs[f]? = some fd) (hsz : (P.info? fd.type).map (·.size) = some n) (hn : n ≠ 0) (b q : Nat) :
    (Instr.fieldAt S (.pointer (some (at' b q))) f).run P w = .ok (.pointer (some (at' b (q + fd.offset)))) w := by
  simp [Instr.fieldAt, run_und hs, hf, Instr.sureAddr, fieldPlace, run_size hsz, hn, at'_add]

theorem ok_faddr (R : Rel gl g d s a.tmps w) (hD : ∀ m, o.dst = some m → m < a.tmps.size) {S : TypeId} {f off n : Nat} {fs : Array Field} {fd : Field} {x : Operand} {ax : Opd}
    (ho : o.op = .fieldAddr S x f) (hs : P.underlying S = some (.struct fs)) (hf : fs[f]? = some fd) (hoff : fd.offset = off) (hsz : (P.info? fd.type).map (·.size) = some n) (hn : n ≠ 0)
    (hx : okOpd N x ax = true)
    (he : eff gl C o.dst s.env s.bx s.nb s.stk (.faddr off ax) = some e) : OpOK P gl g d s a w o draw e := by
  simp only [eff] at he
  obtain ⟨m, hX⟩ := pk_ok R hx
  subst hoff
  split at he
  · rename_i r q h1
    rw [h1] at hX
    obtain ⟨b, h2, h3⟩ := hX
    simp only [Option.some.injEq] at he; subst he
    exact OpOK.same R hD (v := .pointer (some (at' b (q + fd.offset)))) (by simp [execOp, ho, h3, run_fieldAt hs hf hsz hn]) fun _ => ⟨b, h2, rfl⟩
  · rename_i r sz i q h1
    rw [h1] at hX
    obtain ⟨b, h2, h3⟩ := hX
    simp only [Option.some.injEq] at he; subst he
    exact OpOK.same R hD (v := .pointer (some (at' b (i * sz + q + fd.offset)))) (by simp [execOp, ho, h3, run_fieldAt hs hf hsz hn]) fun _ => ⟨b, h2, by rw [Nat.add_assoc]⟩
  · rename_i cs h1
    rw [h1] at hX
    obtain ⟨b, q, h2, h3⟩ := hX
    simp only [Option.some.injEq] at he; subst he
    exact OpOK.same R hD (v := .pointer (some (at' b (q + fd.offset)))) (by simp [execOp, ho, h2, run_fieldAt hs hf hsz hn]) fun _ => ⟨b, _, rfl, h3.drop⟩
  · cases he

theorem run_indexAt_slice {t et : TypeId} {sz : Nat} (ht : P.underlying t = some (.slice et)) (hsz : (P.info? et).map (·.size) = some sz) {b q len cap k : Nat} (hk : k < len) (kd : IntKind) :
    (Instr.indexAt t (.slice (some (at' b q)) len cap) (.int kd (k : Int))).run P w = .ok (.pointer (some (at' b (q + k * sz)))) w := by
  simp [Instr.indexAt, asIntOf, run_und ht, hk, run_size hsz, at'_add]

theorem run_indexAt_array {t et : TypeId} {sz len : Nat} (ht : P.underlying t = some (.array len et)) (hsz : (P.info? et).map (·.size) = some sz) {b q k : Nat} (hk : k < len) (kd : IntKind) :
    (Instr.indexAt t (.pointer (some (at' b q))) (.int kd (k : Int))).run P w = .ok (.pointer (some (at' b (q + k * sz)))) w := by
  simp [Instr.indexAt, asIntOf, run_und ht, hk, run_size hsz, at'_add, Instr.sureAddr]

theorem rp_slice {imm : Nat → Nat} {l : List AV} {v : Value} (h : RP imm w (.slice l) v) : ∃ (x : Option Addr) (cap : Nat), v = .slice x l.length cap ∧ l.length ≤ cap ∧
    (l ≠ [] → ∃ b off sz, ∃ f : Nat → Nat → Value, x = some (at' b off) ∧ (∀ (i : Nat) (e : AV), l[i]? = some e → e.cellsA.length = sz) ∧
      (∀ (i : Nat) (e : AV) (j : Nat) (c : AV), l[i]? = some e → e.cellsA[j]? = some c → c.one = true ∧ RP imm w c (f i j)) ∧
      (∀ i j : Nat, i < l.length → j < sz → off + i * sz + j < imm b ∧ w.cell? (at' b (off + i * sz + j)) = some (f i j))) := by
  cases h with
  | nil x cap => exact ⟨x, cap, rfl, Nat.zero_le _, fun h => absurd rfl h⟩
  | slice _ b off sz cap f hcap hs ho h hm => exact ⟨_, cap, rfl, hcap, fun _ => ⟨b, off, sz, f, rfl, hs, fun i e j c h1 h2 => ⟨ho i e j c h1 h2, h i e j c h1 h2⟩, hm⟩⟩

theorem lt_of_get {l : List AV} {k : Nat} {x : AV} (h : l[k]? = some x) : k < l.length := (List.getElem?_eq_some_iff.1 h).1
theorem ne_nil_of_get {l : List AV} {k : Nat} {x : AV} (h : l[k]? = some x) : l ≠ [] := by rintro rfl; simp at h

/-- The address of an element of a slice that never turns. -/
theorem rp_elem {imm : Nat → Nat} {l : List AV} {v : Value} (h : RP imm w (.slice l) v) {k sz : Nat} {x : AV} (hk : l[k]? = some x) (hx : x.cellsA.length = sz) :
    ∃ b q cap, v = .slice (some (at' b q)) l.length cap ∧ REp imm w x.cellsA b (q + k * sz) := by
  obtain ⟨y, cap, h1, h2, h3⟩ := rp_slice h
  obtain ⟨b, off, sz', f, h4, h5, h6, h7⟩ := h3 (ne_nil_of_get hk)
  have : sz' = sz := (h5 _ _ hk).symm.trans hx
  subst this
  refine ⟨b, off, cap, by rw [h1, h4], fun j c hc => ?_⟩
  obtain ⟨h8, h9⟩ := h6 _ _ _ _ hk hc
  obtain ⟨h10, h11⟩ := h7 k j (lt_of_get hk) (hx ▸ (List.getElem?_eq_some_iff.1 hc).1)
  exact ⟨h8, _, h9, h11, h10⟩

theorem RD.rc {env : Env} {ax : Opd} {A : AV} {v : Value} (h : RD g w d env ax A v) (hA : ∀ κ κ', RV1 g w d κ A v → RV1 g w d κ' A v) (ht : ∀ vs, A ≠ .tup vs) : RC g w d A v := by
  rcases h with ⟨n, _, _, h⟩ | ⟨_, h⟩
  · exact fun κ => hA _ κ (h.rv1 ht)
  · exact h

theorem ok_iaddr (R : Rel gl g d s a.tmps w) (hD : ∀ m, o.dst = some m → m < a.tmps.size) {t et : TypeId} {sz : Nat} {x i : Operand} {ax ai : Opd}
    (ho : o.op = .indexAddr t x i) (ht : P.underlying t = some (.slice et)) (hsz : (P.info? et).map (·.size) = some sz) (hx : okOpd N x ax = true) (hi : okOpd N i ai = true)
    (he : eff gl C o.dst s.env s.bx s.nb s.stk (.iaddr sz ax ai) = some e) : OpOK P gl g d s a w o draw e := by
  simp only [eff] at he
  obtain ⟨m', hI⟩ := pk_ok R hi
  split at he
  · rename_i r n kd k h1 h2
    have hX := rd_ok R hx h1
    rw [h2] at hI
    obtain ⟨b, h3, cap, _, h4⟩ : RV1 g w d (.ret 0) (.asl r n) (a.eval x) := (hX.rc (fun _ _ h => h) (by simp)) _
    split at he
    · rename_i hk
      simp only [Option.some.injEq] at he; subst he
      refine OpOK.sameT R hD (allU_took _) (v := .pointer (some (at' b (0 + k * sz)))) (by simp only [execOp, ho, h4, rv_int hI]; simp [run_indexAt_slice ht hsz hk]) fun _ => ⟨b, h3, by simp⟩
    · cases he
  · rename_i A kd k hA h1 h2
    have hX := rd_ok R hx h1
    rw [h2] at hI
    split at he
    · rename_i l hp
      have hr := hX.pur hp
      split at he
      · rename_i y hy
        split at he
        · rename_i hlen
          simp only [Option.some.injEq] at he; subst he
          obtain ⟨b, q, cap, h3, h4⟩ := rp_elem hr hy hlen
          refine OpOK.sameT R hD (allU_took _) (v := .pointer (some (at' b (q + k * sz)))) (by simp only [execOp, ho, h3, rv_int hI]; simp [run_indexAt_slice ht hsz (lt_of_get hy)]) fun _ => ⟨b, _, rfl, h4⟩
        · cases he
      · cases he
    · cases he
  · cases he

theorem ok_iaddrA (R : Rel gl g d s a.tmps w) (hD : ∀ m, o.dst = some m → m < a.tmps.size) {t et : TypeId} {sz len : Nat} {x i : Operand} {ax ai : Opd}
    (ho : o.op = .indexAddr t x i) (ht : P.underlying t = some (.array len et)) (hsz : (P.info? et).map (·.size) = some sz) (hx : okOpd N x ax = true) (hi : okOpd N i ai = true)
    (he : eff gl C o.dst s.env s.bx s.nb s.stk (.iaddrA len sz ax ai) = some e) : OpOK P gl g d s a w o draw e := by
  simp only [eff] at he
  obtain ⟨m, hX⟩ := pk_ok R hx
  obtain ⟨m', hI⟩ := pk_ok R hi
  split at he
  · rename_i r q kd k h1 h2
    rw [h1] at hX; rw [h2] at hI
    obtain ⟨b, h3, h4⟩ := hX
    split at he
    · rename_i hk
      simp only [Option.some.injEq] at he; subst he
      exact OpOK.same R hD (v := .pointer (some (at' b (q + k * sz)))) (by simp only [execOp, ho, h4, rv_int hI]; simp [run_indexAt_array ht hsz hk]) fun _ => ⟨b, h3, rfl⟩
    · cases he
  · rename_i cs kd k h1 h2
    rw [h1] at hX; rw [h2] at hI
    obtain ⟨b, q, h3, h4⟩ := hX
    split at he
    · rename_i hk
      simp only [Option.some.injEq] at he; subst he
      exact OpOK.same R hD (v := .pointer (some (at' b (q + k * sz)))) (by simp only [execOp, ho, h3, rv_int hI]; simp [run_indexAt_array ht hsz hk]) fun _ => ⟨b, _, rfl, h4.drop⟩
    · cases he
  · cases he
end
end Go.Vs

namespace Go.Vs
open Go
set_option linter.unusedSimpArgs false
set_option linter.unusedVariables false

section
variable {P : Program} {gl : Globs} {g : Gh} {d N : Nat} {s : St} {a : Act} {w : World} {o : Oper} {draw : Bool} {e : Eff} {C : Callee}

theorem exec_builtin {c : Call} {b : Builtin} (ho : o.op = .call c) (hc : c.callee = .builtin b) :
    execOp a.eval o = builtin b c.argTypes o.type (c.args.map fun | .const _ => true | _ => false) (c.args.map a.eval) := by
  simp only [execOp, ho, resolve, hc]; rfl

theorem ok_lenS (R : Rel gl g d s a.tmps w) (hD : ∀ m, o.dst = some m → m < a.tmps.size) {c : Call} {t : TypeId} {x : Operand} {ax : Opd} (ho : o.op = .call c) (hc : c.callee = .builtin .len)
    (hargs : c.args = #[x]) (hty : c.argTypes[0]? = some t) (ht : P.underlying t = some .string) (hx : okOpd N x ax = true)
    (he : eff gl C o.dst s.env s.bx s.nb s.stk (.lenS ax) = some e) : OpOK P gl g d s a w o draw e := by
  simp only [eff] at he
  obtain ⟨m, hX⟩ := pk_ok R hx
  split at he
  · rename_i l h1
    rw [h1] at hX
    simp only [Option.some.injEq] at he; subst he
    obtain ⟨str, hv, rfl⟩ := rv_str hX
    refine OpOK.same R hD (v := .int .i64 str.size) ?_ (by rw [bytesN_length]; exact (RP.int _ _).rc)
    rw [exec_builtin ho hc]
    simp [builtin, hargs, hv, Builtin.len_, hty, run_und ht, goInt]
  · cases he

theorem run_len {ats : Array TypeId} {t ty et : TypeId} (hty : ats[0]? = some t) (ht : P.underlying t = some (.slice et)) (x : Option Addr) (n cap : Nat) :
    (Builtin.len_ ats ty #[.slice x n cap]).run P w = .ok (.int .i64 n) w := by
  simp [Builtin.len_, hty, run_und ht, goInt]

theorem ok_lenL (R : Rel gl g d s a.tmps w) (hD : ∀ m, o.dst = some m → m < a.tmps.size) {c : Call} {t et : TypeId} {x : Operand} {ax : Opd} (ho : o.op = .call c) (hc : c.callee = .builtin .len)
    (hargs : c.args = #[x]) (hty : c.argTypes[0]? = some t) (ht : P.underlying t = some (.slice et)) (hx : okOpd N x ax = true)
    (he : eff gl C o.dst s.env s.bx s.nb s.stk (.lenL ax) = some e) : OpOK P gl g d s a w o draw e := by
  simp only [eff] at he
  obtain ⟨m, hX⟩ := pk_ok R hx
  have key : ∀ n : Nat, (∃ y cap, a.eval x = .slice y n cap) → OpOK P gl g d s a w o draw { wr := wrD o.dst (.int .i64 n) } := by
    rintro n ⟨y, cap, hv⟩
    refine OpOK.same R hD (v := .int .i64 n) ?_ (RP.int _ _).rc
    rw [exec_builtin ho hc]
    simp [builtin, hargs, hv, run_len hty ht]
  split at he
  · rename_i l h1
    rw [h1] at hX
    simp only [Option.some.injEq] at he; subst he
    obtain ⟨y, cap, h2, _⟩ := rp_slice (show RP g.imm w (.slice l) (a.eval x) from hX)
    exact key _ ⟨y, cap, h2⟩
  · rename_i u sz l h1
    rw [h1] at hX
    simp only [Option.some.injEq] at he; subst he
    obtain ⟨b, cap, h2, _⟩ := hX
    exact key _ ⟨_, cap, h2⟩
  · rename_i h1
    rw [h1] at hX
    simp only [Option.some.injEq] at he; subst he
    obtain ⟨y, h2⟩ := hX
    exact key 0 ⟨y, 0, h2⟩
  · rename_i r n h1
    rw [h1] at hX
    simp only [Option.some.injEq] at he; subst he
    obtain ⟨b, _, cap, _, h2⟩ := hX
    exact key n ⟨_, cap, h2⟩
  · cases he

theorem ok_mx (R : Rel gl g d s a.tmps w) (hD : ∀ m, o.dst = some m → m < a.tmps.size) {c : Call} {x y : Operand} {ax ay : Opd} (ho : o.op = .call c) (hc : c.callee = .builtin .max)
    (hargs : c.args = #[x, y]) (hx : okOpd N x ax = true) (hy : okOpd N y ay = true)
    (he : eff gl C o.dst s.env s.bx s.nb s.stk (.mx ax ay) = some e) : OpOK P gl g d s a w o draw e := by
  simp only [eff] at he
  obtain ⟨m, hX⟩ := pk_ok R hx
  obtain ⟨m', hY⟩ := pk_ok R hy
  split at he
  · rename_i k p k' q h1 h2
    rw [h1] at hX; rw [h2] at hY
    split at he
    · simp only [Option.some.injEq] at he; subst he
      refine OpOK.same R hD (v := .int k (if q > p then q else p)) ?_ (RP.int _ _).rc
      rw [exec_builtin ho hc]
      simp [builtin, hargs, rv_int hX, rv_int hY, Builtin.max_, Builtin.max2]
    · cases he
  · cases he

theorem ok_mn (R : Rel gl g d s a.tmps w) (hD : ∀ m, o.dst = some m → m < a.tmps.size) {c : Call} {x y : Operand} {ax ay : Opd} (ho : o.op = .call c) (hc : c.callee = .builtin .min)
    (hargs : c.args = #[x, y]) (hx : okOpd N x ax = true) (hy : okOpd N y ay = true)
    (he : eff gl C o.dst s.env s.bx s.nb s.stk (.mn ax ay) = some e) : OpOK P gl g d s a w o draw e := by
  simp only [eff] at he
  obtain ⟨m, hX⟩ := pk_ok R hx
  obtain ⟨m', hY⟩ := pk_ok R hy
  split at he
  · rename_i k p k' q h1 h2
    rw [h1] at hX; rw [h2] at hY
    split at he
    · simp only [Option.some.injEq] at he; subst he
      refine OpOK.same R hD (v := .int k (if q < p then q else p)) ?_ (RP.int _ _).rc
      rw [exec_builtin ho hc]
      simp [builtin, hargs, rv_int hX, rv_int hY, Builtin.min_, Builtin.min2]
    · cases he
  · cases he

def okOpdO (N : Nat) : Option Operand → Option Opd → Bool
  | none, none => true
  | some x, some y => okOpd N x y
  | _, _ => false

theorem bndTo_run (R : Rel gl g d s a.tmps w) {hi : Option Operand} {ahi : Option Opd} (hh : okOpdO N hi ahi = true) {len cap h : Nat} (hcap : len ≤ cap)
    (hb : bndTo gl s.env len ahi = some h) (sl : Bool) :
    (match hi.map a.eval with
        | some v => Instr.sliceBound v cap (if sl then .sliceAcap else .sliceAlen)
        | none => pure len).run P w = .ok h w ∧ h ≤ len := by
  cases ahi with
  | none =>
    cases hi with
    | none => simp only [bndTo, Option.some.injEq] at hb; subst hb; exact ⟨rfl, Nat.le_refl _⟩
    | some _ => simp [okOpdO] at hh
  | some ah =>
    cases hi with
    | none => simp [okOpdO] at hh
    | some x =>
      obtain ⟨m, hX⟩ := pk_ok R (show okOpd N x ah = true from hh)
      simp only [bndTo] at hb
      split at hb
      · rename_i kd n hp
        rw [hp] at hX
        split at hb
        · rename_i hn
          simp only [Option.some.injEq] at hb; subst hb
          have hn' : n ≤ cap := Nat.le_trans hn hcap
          exact ⟨by simp [rv_int hX, Instr.sliceBound, asIntOf, hn'], hn⟩
        · cases hb
      · cases hb

theorem bndFrom_run (R : Rel gl g d s a.tmps w) {lo : Option Operand} {alo : Option Opd} (hl : okOpdO N lo alo = true) {l h : Nat} (hb : bndFrom gl s.env h alo = some l) (cd : BoundsCode) :
    (match lo.map a.eval with
        | some v => Instr.sliceBound v h cd
        | none => pure 0).run P w = .ok l w ∧ l ≤ h := by
  cases alo with
  | none =>
    cases lo with
    | none => simp only [bndFrom, Option.some.injEq] at hb; subst hb; exact ⟨rfl, Nat.zero_le _⟩
    | some _ => simp [okOpdO] at hl
  | some al =>
    cases lo with
    | none => simp [okOpdO] at hl
    | some x =>
      obtain ⟨m, hX⟩ := pk_ok R (show okOpd N x al = true from hl)
      simp only [bndFrom] at hb
      split at hb
      · rename_i kd n hp
        rw [hp] at hX
        split at hb
        · rename_i hn
          simp only [Option.some.injEq] at hb; subst hb
          exact ⟨by simp [rv_int hX, Instr.sliceBound, asIntOf, hn], hn⟩
        · cases hb
      · cases hb

theorem bnd_run (R : Rel gl g d s a.tmps w) {lo hi : Option Operand} {alo ahi : Option Opd} (hl : okOpdO N lo alo = true) (hh : okOpdO N hi ahi = true) {len cap l h : Nat} (hcap : len ≤ cap)
    (hb : bnd gl s.env len alo ahi = some (l, h)) (sl : Bool) :
    (Instr.sliceBounds sl len cap (lo.map a.eval) (hi.map a.eval) none).run P w = .ok (l, h, cap) w ∧ l ≤ h ∧ h ≤ len := by
  unfold bnd at hb
  split at hb
  · cases hb
  · rename_i h' e1
    split at hb
    · cases hb
    · rename_i l' e2
      simp only [Option.some.injEq, Prod.mk.injEq] at hb
      obtain ⟨rfl, rfl⟩ := hb
      obtain ⟨h1, h2⟩ := bndTo_run (P := P) R hh hcap e1 sl
      obtain ⟨h3, h4⟩ := bndFrom_run (P := P) R hl e2 .sliceB
      refine ⟨?_, h4, h2⟩
      unfold Instr.sliceBounds
      cases lo <;> cases hi <;> simp at h1 h3 ⊢ <;> simp [h1, h3]

theorem bytesN_extract (str : ByteArray) (l h : Nat) (h1 : h ≤ str.size) : bytesN (str.extract l h) = ((bytesN str).take h).drop l := by
  simp only [bytesN, ByteArray.data_extract, Array.toList_extract, List.extract, List.map_take, List.map_drop, List.drop_take]

theorem ok_slcS (R : Rel gl g d s a.tmps w) (hD : ∀ m, o.dst = some m → m < a.tmps.size) {t : TypeId} {x : Operand} {lo hi : Option Operand} {ax : Opd} {alo ahi : Option Opd}
    (ho : o.op = .slice t x lo hi none) (ht : P.underlying t = some .string) (hx : okOpd N x ax = true) (hl : okOpdO N lo alo = true) (hh : okOpdO N hi ahi = true)
    (he : eff gl C o.dst s.env s.bx s.nb s.stk (.slcS ax alo ahi) = some e) : OpOK P gl g d s a w o draw e := by
  simp only [eff] at he
  obtain ⟨m, hX⟩ := pk_ok R hx
  split at he
  · rename_i l h1
    rw [h1] at hX
    obtain ⟨str, hv, rfl⟩ := rv_str hX
    split at he
    · rename_i p q hb
      simp only [Option.some.injEq] at he; subst he
      rw [bytesN_length] at hb
      obtain ⟨h2, h3, h4⟩ := bnd_run (P := P) R hl hh (Nat.le_refl _) hb false
      refine OpOK.same R hD (v := .string (str.extract p q)) ?_ (by rw [← bytesN_extract _ _ _ h4]; exact (RP.str _).rc)
      simp [execOp, ho, hv, Instr.sliceAt, run_und ht, Instr.slice, h2]
    · cases he
  · cases he

theorem ok_slcL (R : Rel gl g d s a.tmps w) (hD : ∀ m, o.dst = some m → m < a.tmps.size) {t et : TypeId} {sz : Nat} {x : Operand} {lo hi : Option Operand} {ax : Opd} {alo ahi : Option Opd}
    (ho : o.op = .slice t x lo hi none) (ht : P.underlying t = some (.slice et)) (hsz : (P.info? et).map (·.size) = some sz) (hx : okOpd N x ax = true) (hl : okOpdO N lo alo = true) (hh : okOpdO N hi ahi = true)
    (he : eff gl C o.dst s.env s.bx s.nb s.stk (.slcL sz ax alo ahi) = some e) : OpOK P gl g d s a w o draw e := by
  simp only [eff] at he
  split at he
  · rename_i A hA
    have hX := rd_ok R hx hA
    split at he
    · rename_i l hp
      have hr := hX.pur hp
      split at he
      · rename_i p q hb
        split at he
        · rename_i hall
          simp only [Option.some.injEq] at he; subst he
          obtain ⟨y, cap, h1, h2, h3⟩ := rp_slice hr
          obtain ⟨h4, h5, h6⟩ := bnd_run (P := P) R hl hh h2 hb true
          have hrun : (execOp a.eval o).run P w = .ok (.value (.slice (if cap = p then y else y.map (·.add (p * sz))) (q - p) (cap - p))) w := by
            simp [execOp, ho, h1, Instr.sliceAt, run_und ht, Instr.slice, h4, run_size hsz]
          refine OpOK.sameT R hD (allU_took _) hrun ?_
          have hlen : ((l.take q).drop p).length = q - p := by simp; omega
          by_cases hne : q - p = 0
          · have : (l.take q).drop p = [] := List.length_eq_zero_iff.1 (hlen.trans hne)
            rw [this, hne]; exact (RP.nil _ _).rc
          · have hl0 : l ≠ [] := by rintro rfl; simp at h6; omega
            obtain ⟨b, off, sz', f, k1, k2, k3, k4⟩ := h3 hl0
            have hsz' : sz' = sz := by
              obtain ⟨z, r, rfl⟩ := List.exists_cons_of_ne_nil hl0
              have := k2 0 z rfl
              simp [Nat.beq_eq] at hall
              exact this.symm.trans hall.1
            subst hsz'
            have hcp : cap ≠ p := by omega
            rw [if_neg hcp, k1]
            have e0 : Option.map (fun z => z.add (p * sz')) (some (at' b off)) = some (at' b (off + p * sz')) := by simp [at'_add]
            rw [e0, ← hlen]
            have idx : ∀ {i : Nat} {z : AV}, ((l.take q).drop p)[i]? = some z → l[p + i]? = some z := fun {i z} h => by
              rw [List.getElem?_drop, List.getElem?_take] at h
              split at h
              · exact h
              · cases h
            refine (RP.slice _ b _ sz' _ (fun i j => f (p + i) j) (by rw [hlen]; omega) (fun i z hz => k2 _ _ (idx hz)) (fun i z j c hz hc => (k3 _ _ _ _ (idx hz) hc).1) (fun i z j c hz hc => (k3 _ _ _ _ (idx hz) hc).2) fun i j hi' hj => ?_).rc
            have := k4 (p + i) j (by omega) hj
            have e1 : off + p * sz' + i * sz' + j = off + (p + i) * sz' + j := by rw [Nat.add_mul]; omega
            rw [e1]; exact this
        · cases he
      · cases he
    · cases he
  · cases he
end
end Go.Vs

namespace Go.Vs
open Go
set_option linter.unusedSimpArgs false
set_option linter.unusedVariables false

/-- The keys, some of them sent to others. -/
def Gh.re (g : Gh) (f : Key → Key) : Gh := { g with ob := fun b => (g.ob b).map f }

theorem re_ext (g : Gh) (w : World) (f : Key → Key) : Ext g w (g.re f) w := ⟨fun _ => Nat.le_refl _, fun _ _ _ => rfl⟩
theorem re_keep (g : Gh) (w : World) (f : Key → Key) {κ : Key} (h : f κ = κ) : Keep g w (g.re f) w κ := fun b hb => ⟨by simp [Gh.re, hb, h], rfl, rfl⟩
theorem re_step (g : Gh) (w : World) (f : Key → Key) : Step g w (g.re f) w :=
  ⟨re_ext _ _ _, Nat.le_refl _, fun b _ h => ⟨by simp [Gh.re, h], rfl, rfl⟩, rfl, rfl, rfl, fun _ _ _ h => h⟩

theorem RV1.re {g : Gh} {w : World} {d : Nat} {κ κ' : Key} {a : AV} {v : Value} {f : Key → Key} (hf : f κ = κ') (h : RV1 g w d κ a v) : RV1 (g.re f) w d κ' a v := by
  cases a
  case own u sz l =>
    obtain ⟨b, cap, h1, h2, h3⟩ := h
    exact ⟨b, cap, h1, by simp [Gh.re, h2, hf], h3⟩
  all_goals exact h

section
variable {P : Program} {gl : Globs} {g : Gh} {d N : Nat} {s : St} {a : Act} {w : World} {o : Oper} {draw : Bool} {e : Eff} {C : Callee}

theorem run_extract {n i : Nat} {vs : List AV} {c : AV} (ho : o.op = .extract (.tmp n) i) (R : Rel gl g d s a.tmps w) (h1 : s.env n = .tup vs) (hc : vs[i]? = some c) :
    ∃ v, (execOp a.eval o).run P w = .ok (.value v) w ∧ RV1 g w d (.slot d n i) c v := by
  have h := R.slots n
  rw [h1] at h
  obtain ⟨ws, h2, h3, h4⟩ := h
  refine ⟨ws.getD i undef, ?_, h4 i c hc⟩
  have hlt : i < ws.size := by rw [h3]; exact lt_of_get hc
  have h5 := getD_of_lt hlt
  generalize ws.getD i undef = z at h5
  have h6 : a.eval (.tmp n) = .tuple ws := h2
  simp [execOp, ho, h6, Instr.extract, h5]

theorem ok_extr (R : Rel gl g d s a.tmps w) (hD : ∀ m, o.dst = some m → m < a.tmps.size) {n i : Nat} (ho : o.op = .extract (.tmp n) i)
    (he : eff gl C o.dst s.env s.bx s.nb s.stk (.extr n i) = some e) : OpOK P gl g d s a w o draw e := by
  simp only [eff] at he
  split at he
  · rename_i vs h1
    split at he
    · rename_i c hc
      split at he
      · rename_i A hA
        simp only [Option.some.injEq] at he; subst he
        obtain ⟨v, h2, h3⟩ := run_extract (P := P) ho R h1 hc
        exact OpOK.same R hD h2 (copy_ok1 h3 hA)
      · cases he
    · cases he
  · cases he

theorem ok_extrT (R : Rel gl g d s a.tmps w) (hD : ∀ m, o.dst = some m → m < a.tmps.size) {n i : Nat} (ho : o.op = .extract (.tmp n) i)
    (he : eff gl C o.dst s.env s.bx s.nb s.stk (.extrT n i) = some e) : OpOK P gl g d s a w o draw e := by
  simp only [eff] at he
  split at he
  · rename_i vs h1
    split at he
    · rename_i c hc
      simp only [Option.some.injEq] at he; subst he
      obtain ⟨v, h2, h3⟩ := run_extract (P := P) ho R h1 hc
      have hn := R.slots n
      rw [h1] at hn
      obtain ⟨ws, k1, k2, k3⟩ := hn
      let f : Key → Key := fun κ => if κ = .slot d n i then .slot d (o.dst.getD 0) 0 else κ
      have hkeep : ∀ κ, κ ≠ .slot d n i → Keep g w (g.re f) w κ := fun κ hk => re_keep _ _ _ (if_neg hk)
      refine ⟨g.re f, v, w, .inl h2, ?_, re_step _ _ _⟩
      refine R.on (re_ext _ _ _) (fun _ _ _ h => h) (fun k => ?_) (fun n b h => .inl ⟨h, hkeep _ (by simp), fun _ => hkeep _ (by simp)⟩) R.dead R.excl
        (fun l n b h => .inl ⟨h, hkeep _ (by simp), fun _ => hkeep _ (by simp)⟩) R.deadO R.lvl (fun b hb => ⟨by simp [Gh.re, (R.fresh b hb).1], (R.fresh b hb).2⟩)
        (fun l m b h => ⟨by simp [Gh.re, (R.locs l m b h).1, f], (R.locs l m b h).2⟩)
      have hc1 : RV1 (g.re f) w d (.slot d (o.dst.getD 0) 0) c v := RV1.re (if_pos rfl) h3
      have htup : RV (g.re f) w d n (.tup (vs.set i .undef)) (.tuple ws) := by
        refine ⟨ws, rfl, by simp [k2], fun j x hx => ?_⟩
        by_cases hj : i = j
        · subst hj
          rw [List.getElem?_set_self (lt_of_get hc)] at hx
          simp only [Option.some.injEq] at hx; subst hx; trivial
        · rw [List.getElem?_set_ne hj] at hx
          exact (k3 j x hx).keep (re_ext _ _ _) (hkeep _ (by simpa using fun h => hj h.symm)) (fun _ _ _ h => h)
      have hrest : ∀ k, k ≠ n → ∀ c, Keep g w (g.re f) w (.slot d k c) := fun k hk c => hkeep _ (by simp [hk])
      show ((applyEff draw s _).env k = s.env k ∧ _) ∨ RV _ _ _ _ ((applyEff draw s _).env k) _
      simp only [applyEff, applyMem, wrs]
      cases hdst : o.dst with
      | none =>
        simp only [wrD, wrs, putT]
        by_cases hk : k = n
        · subst hk; right; rw [upd_same, k1]; exact htup
        · left; rw [upd_ne _ _ hk]; exact ⟨rfl, trivial, hrest k hk⟩
      | some m =>
        rw [hdst] at hc1
        simp only [wrD, wrs, putT]
        by_cases hkm : k = m
        · subst hkm
          right; rw [upd_same, getD_set_same (hD _ hdst)]
          cases c
          case tup => exact hc1.elim
          all_goals (simp only [RV]; exact hc1)
        · rw [upd_ne _ _ hkm, getD_set_ne' hkm]
          by_cases hk : k = n
          · subst hk; right; rw [upd_same, k1]; exact htup
          · left; rw [upd_ne _ _ hk]; exact ⟨rfl, rfl, hrest k hk⟩
    · cases he
  · cases he

def okOpds (N : Nat) : List Operand → List Opd → Bool
  | [], [] => true
  | x :: r, y :: q => okOpd N x y && okOpds N r q
  | _, _ => false

theorem rds_ok (R : Rel gl g d s a.tmps w) : ∀ {l : List Operand} {al : List Opd} (h : okOpds N l al = true) {vs : List AV} (hr : rds gl s.env al = some vs),
    vs.length = l.length ∧ al.length = l.length ∧ ∀ (i : Nat) (x : Operand) (ax : Opd) (A : AV), l[i]? = some x → al[i]? = some ax → vs[i]? = some A → RD g w d s.env ax A (a.eval x)
  | [], [], _, vs, hr => by simp [rds] at hr; subst hr; exact ⟨rfl, rfl, by simp⟩
  | [], _ :: _, h, _, _ => by simp [okOpds] at h
  | _ :: _, [], h, _, _ => by simp [okOpds] at h
  | x :: l, ax :: al, h, vs, hr => by
    simp only [okOpds, Bool.and_eq_true] at h
    simp only [rds] at hr
    split at hr
    · cases hr
    · rename_i A hA
      split at hr
      · cases hr
      · rename_i As hAs
        simp only [Option.some.injEq] at hr; subst hr
        obtain ⟨h1, h2, h3⟩ := rds_ok R h.2 hAs
        refine ⟨by simp [h1], by simp [h2], fun i y ay B e1 e2 e3 => ?_⟩
        cases i with
        | zero => simp at e1 e2 e3; subst e1 e2 e3; exact rd_ok R h.1 hA
        | succ i => simp at e1 e2 e3; exact h3 i y ay B e1 e2 e3

theorem ok_mkfn (R : Rel gl g d s a.tmps w) (hD : ∀ m, o.dst = some m → m < a.tmps.size) {f : Nat} {caps : Array Operand} {acaps : List Opd}
    (ho : o.op = .makeFunc (.func f) #[] caps) (hx : okOpds N caps.toList acaps = true)
    (he : eff gl C o.dst s.env s.bx s.nb s.stk (.mkfn f acaps) = some e) : OpOK P gl g d s a w o draw e := by
  simp only [eff] at he
  split at he
  · cases he
  · rename_i vs hvs
    split at he
    · rename_i hall
      simp only [Option.some.injEq] at he; subst he
      obtain ⟨h1, h2, h3⟩ := rds_ok R hx hvs
      refine OpOK.same R hD (v := .func (.func f) #[] (caps.map a.eval)) (by simp [execOp, ho, Instr.makeFunc]) fun κ => ?_
      refine ⟨_, rfl, by simpa using h1.symm, fun i c hc => ?_⟩
      have hi : i < caps.size := by have := lt_of_get hc; rw [h1] at this; simpa using this
      have hi2 : i < acaps.length := by rw [h2]; simpa using hi
      have hrd := h3 i caps[i] acaps[i] c (by simp [hi]) (by simp [hi2]) hc
      have e0 : (caps.map a.eval).getD i undef = a.eval caps[i] := by simp [Array.getD, hi]
      rw [e0]
      have hk := List.all_eq_true.1 hall c (List.mem_of_getElem? hc)
      cases c <;> simp only [Bool.false_eq_true] at hk
      case ptr r off => exact hrd.rc (fun _ _ h => h) (by simp) (.ret 0)
      case int => exact rv_int (n := 0) ((hrd.pur rfl).rc (d := d)).rv
      case bool => exact rv_bool (n := 0) ((hrd.pur rfl).rc (d := d)).rv
      case str => exact hrd.pur rfl
      case slice => exact hrd.pur rfl
    · cases he
end
end Go.Vs

namespace Go.Vs
open Go
set_option linter.unusedSimpArgs false
set_option linter.unusedVariables false

/-- A new block: whose it is, and how much of it never turns. -/
def Gh.nw (g : Gh) (b : Nat) (κ : Key) (m : Nat) : Gh := { g with imm := upd g.imm b m, ob := upd g.ob b (some κ) }

/-- The same, for a box. -/
def Gh.nwBox (g : Gh) (b l n : Nat) : Gh := { imm := upd g.imm b 0, ob := upd g.ob b (some (.box l n)), loc := upd g.loc l (upd (g.loc l) n (some b)) }

theorem heap_alloc_lt (w : World) (x : Obj) {b : Nat} (h : b < w.heap.size) : (w.alloc x).heap[b]? = w.heap[b]? := by
  show (w.heap.push x)[b]? = _; rw [Array.getElem?_push, if_neg (by omega)]
theorem heap_alloc_new (w : World) (x : Obj) : (w.alloc x).heap[w.heap.size]? = some x := by show (w.heap.push x)[w.heap.size]? = _; simp

def World.Fresh (g : Gh) (w : World) : Prop := ∀ b, w.heap.size ≤ b → g.ob b = none ∧ g.imm b = 0

theorem cell_alloc (w : World) (x : Obj) {b : Nat} (h : b < w.heap.size) (q : Nat) : (w.alloc x).cell? (at' b q) = w.cell? (at' b q) :=
  World.cell?_alloc_lt w x _ h

theorem imm_lt {g : Gh} {w : World} (hf : World.Fresh g w) {b q : Nat} (h : q < g.imm b) : b < w.heap.size := by
  rcases Nat.lt_or_ge b w.heap.size with h1 | h1
  · exact h1
  · have := (hf b h1).2; omega

theorem ob_lt {g : Gh} {w : World} (hf : World.Fresh g w) {b : Nat} {κ : Key} (h : g.ob b = some κ) : b < w.heap.size := by
  rcases Nat.lt_or_ge b w.heap.size with h1 | h1
  · exact h1
  · rw [(hf b h1).1] at h; cases h

section
variable {g : Gh} {w : World} (hf : World.Fresh g w) (x : Obj)
include hf

theorem nw_ext {g' : Gh} (hi : ∀ b, b ≠ w.heap.size → g'.imm b = g.imm b) : Ext g w g' (w.alloc x) where
  imm b := by
    by_cases h : b = w.heap.size
    · subst h; rw [(hf _ (Nat.le_refl _)).2]; exact Nat.zero_le _
    · rw [hi b h]; exact Nat.le_refl _
  cell b q h := cell_alloc w x (imm_lt hf h) q

theorem nw_keep {g' : Gh} (hi : ∀ b, b ≠ w.heap.size → g'.imm b = g.imm b) (ho : ∀ b, b ≠ w.heap.size → g'.ob b = g.ob b) (κ : Key) : Keep g w g' (w.alloc x) κ := fun b hb => by
  have h := ob_lt hf hb
  have hne : b ≠ w.heap.size := by omega
  exact ⟨by rw [ho b hne]; exact hb, hi b hne, heap_alloc_lt w x h⟩

theorem nw_step {g' : Gh} (hi : ∀ b, b ≠ w.heap.size → g'.imm b = g.imm b) (ho : ∀ b, b ≠ w.heap.size → g'.ob b = g.ob b) (hl : LocKeep g g') : Step g w g' (w.alloc x) where
  ext := nw_ext hf x hi
  size := by simp
  rest b hb hn := by
    have hne : b ≠ w.heap.size := by omega
    exact ⟨by rw [ho b hne]; exact hn, hi b hne, heap_alloc_lt w x hb⟩
  os := rfl
  tape := rfl
  output := rfl
  loc := hl
end

theorem nw_imm (g : Gh) (b : Nat) (κ : Key) (m : Nat) : ∀ b', b' ≠ b → (g.nw b κ m).imm b' = g.imm b' := fun b' h => upd_ne _ _ h
theorem nw_ob (g : Gh) (b : Nat) (κ : Key) (m : Nat) : ∀ b', b' ≠ b → (g.nw b κ m).ob b' = g.ob b' := fun b' h => upd_ne _ _ h

section
variable {P : Program} {gl : Globs} {g : Gh} {d N : Nat} {s : St} {a : Act} {w : World} {o : Oper} {draw : Bool} {e : Eff} {C : Callee}

/-- A new row of the frame's own, in a slot. -/
theorem Rel.newOwn (R : Rel gl g d s a.tmps w) {D : Option Nat} (hD : ∀ m, D = some m → m < a.tmps.size) {T : List (Nat × AV)} (hT : AllU T) {u : Bool} {sz : Nat} {l : List AV} {c : Array Value} {elem : TypeId}
    {cap : Nat} (h1 : l.length ≤ cap) (h2 : cap * sz ≤ c.size) (h3 : Elems g.imm w sz l c) :
    ∃ g', Rel gl g' d { s with env := wrs s.env (T ++ wrD D (.own u sz l)) } (putT a.tmps D (.slice (some (at' w.heap.size 0)) l.length cap)) (w.alloc (.cells c elem)) ∧ Step g w g' (w.alloc (.cells c elem)) := by
  have hf : World.Fresh g w := R.fresh
  let g' := g.nw w.heap.size (.slot d (D.getD 0) 0) (bif u then 0 else l.length * sz)
  have hi : ∀ b, b ≠ w.heap.size → g'.imm b = g.imm b := nw_imm _ _ _ _
  have ho : ∀ b, b ≠ w.heap.size → g'.ob b = g.ob b := nw_ob _ _ _ _
  have hx := nw_ext hf (.cells c elem) hi
  have hk := nw_keep hf (.cells c elem) hi ho
  refine ⟨g', R.gen hx (fun _ _ _ h => h) hT rfl hD (fun m hm => ?_) (fun _ _ _ _ => hk _) (fun n b h => .inl ⟨h, hk _, fun _ => hk _⟩) R.dead R.excl (fun l n b h => .inl ⟨h, hk _, fun _ => hk _⟩) R.deadO R.lvl
    (fun b hb => ?_) (fun l n b h => ?_), nw_step hf _ hi ho (fun _ _ _ h => h)⟩
  · refine ⟨w.heap.size, cap, rfl, ?_, c, elem, heap_alloc_new _ _, h1, h2, h3.ext hx, ?_⟩
    · show upd _ _ _ _ = _; rw [upd_same, hm]; rfl
    · show upd _ _ _ _ = _; rw [upd_same]
  · have : b ≠ w.heap.size := by simp at hb; omega
    rw [hi b this, ho b this]
    exact R.fresh b (by simp at hb; omega)
  · have h' := R.locs l n b h
    exact ⟨by rw [ho b (by have := ob_lt hf h'.1; omega)]; exact h'.1, h'.2⟩

def Row (imm : Nat → Nat) (w : World) (cs : List AV) (vs : Array Value) : Prop :=
  vs.size = cs.length ∧ ∀ (i : Nat) (c : AV), cs[i]? = some c → c.one = true ∧ RP imm w c (vs.getD i undef)

theorem Row.agg {imm : Nat → Nat} {cs : List AV} {vs : Array Value} (h : Row imm w cs vs) : RP imm w (.agg cs) (.agg vs) :=
  .agg _ _ h.1 (fun i c hc => (h.2 i c hc).1) (fun i c hc => (h.2 i c hc).2)

theorem litsOK_row {imm : Nat → Nat} {w : World} : ∀ {cs : List AV} {vs : List Value} (h : litsOK cs vs = true) (hn : ∀ c ∈ cs, c ≠ .onil), Row imm w cs vs.toArray
  | [], [], _, _ => ⟨rfl, by simp⟩
  | [], _ :: _, h, _ => by simp [litsOK] at h
  | _ :: _, [], h, _ => by simp [litsOK] at h
  | c :: cs, v :: vs, h, hn => by
    simp only [litsOK, Bool.and_eq_true] at h
    obtain ⟨h1, h2⟩ := litsOK_row (imm := imm) (w := w) h.2 (fun c hc => hn c (by simp [hc]))
    refine ⟨by simp at h1 ⊢; exact h1, fun i x hx => ?_⟩
    cases i with
    | zero => simp at hx; subst hx; exact ⟨h.1.2, litOK_rp h.1.1 (hn _ (by simp))⟩
    | succ i => simp at hx; simpa using h2 i x hx

theorem splice_get {cs new : List AV} {off i : Nat} (h : off + new.length ≤ cs.length) : (splice cs off new)[i]? = if i < off then cs[i]? else if i < off + new.length then new[i - off]? else cs[i]? := by
  unfold splice
  have hl : (cs.take off).length = off := by simp; omega
  split
  · rename_i hi
    rw [List.append_assoc, List.getElem?_append_left (by omega), List.getElem?_take, if_pos hi]
  · rename_i hi
    split
    · rename_i hi2
      rw [List.append_assoc, List.getElem?_append_right (by omega), hl, List.getElem?_append_left (by omega)]
    · rename_i hi2
      rw [List.getElem?_append_right (by simp; omega), List.getElem?_drop]
      congr 1; simp; omega

theorem splice_length {cs new : List AV} {off : Nat} (h : off + new.length ≤ cs.length) : (splice cs off new).length = cs.length := by
  simp [splice]; omega

/-- Cells written one after another. -/
def setAll (cells : Array Value) (off : Nat) (vs : Array Value) : Array Value := vs.zipIdx.foldl (fun cs (c, j) => cs.setIfInBounds (off + j) c) cells

theorem setAll_go (off : Nat) : ∀ (l : List Value) (k : Nat) (cells : Array Value), off + k + l.length ≤ cells.size →
    ((l.zipIdx k).foldl (fun cs (c, j) => cs.setIfInBounds (off + j) c) cells).size = cells.size ∧
    ∀ i, ((l.zipIdx k).foldl (fun cs (c, j) => cs.setIfInBounds (off + j) c) cells)[i]? = if off + k ≤ i ∧ i < off + k + l.length then l[i - (off + k)]? else cells[i]?
  | [], k, cells, h => ⟨rfl, fun i => by simp; intro h1 h2; omega⟩
  | v :: l, k, cells, h => by
    simp only [List.zipIdx_cons, List.foldl_cons]
    simp only [List.length_cons] at h
    obtain ⟨h1, h2⟩ := setAll_go off l (k + 1) (cells.setIfInBounds (off + k) v) (by simp; omega)
    refine ⟨by simpa using h1, fun i => ?_⟩
    rw [h2 i]
    simp only [List.length_cons]
    by_cases hi : i = off + k
    · subst hi
      rw [if_neg (by omega), if_pos (by omega)]
      have : off + k < cells.size := by omega
      simp [this]
    · rw [Array.getElem?_setIfInBounds_ne (fun h => hi h.symm)]
      by_cases hlt : off + k ≤ i ∧ i < off + k + (l.length + 1)
      · rw [if_pos (by omega), if_pos hlt]
        have : i - (off + k) = (i - (off + (k + 1))) + 1 := by omega
        rw [this, List.getElem?_cons_succ]
      · rw [if_neg (by omega), if_neg hlt]

theorem setAll_size {cells : Array Value} {off : Nat} {vs : Array Value} (h : off + vs.size ≤ cells.size) : (setAll cells off vs).size = cells.size := by
  have := (setAll_go off vs.toList 0 cells (by simpa using h)).1
  unfold setAll
  rw [← Array.foldl_toList, Array.toList_zipIdx]
  exact this

theorem setAll_get {cells : Array Value} {off : Nat} {vs : Array Value} (h : off + vs.size ≤ cells.size) (i : Nat) :
    (setAll cells off vs)[i]? = if off ≤ i ∧ i < off + vs.size then vs[i - off]? else cells[i]? := by
  have := (setAll_go off vs.toList 0 cells (by simpa using h)).2 i
  unfold setAll
  rw [← Array.foldl_toList, Array.toList_zipIdx]
  simp only [Nat.add_zero, Array.length_toList, Array.getElem?_toList] at this
  exact this

theorem setAll_getD {cells : Array Value} {off : Nat} {vs : Array Value} (h : off + vs.size ≤ cells.size) (i : Nat) :
    (setAll cells off vs).getD i undef = if off ≤ i ∧ i < off + vs.size then vs.getD (i - off) undef else cells.getD i undef := by
  rw [Array.getD_eq_getD_getElem?, setAll_get h]
  split <;> simp [Array.getD_eq_getD_getElem?]

theorem Row.splice {imm : Nat → Nat} {cs new : List AV} {vs ns : Array Value} {off : Nat} (h : Row imm w cs vs) (hn : Row imm w new ns) (hl : off + new.length ≤ cs.length) :
    Row imm w (splice cs off new) (setAll vs off ns) := by
  have hl' : off + ns.size ≤ vs.size := by rw [h.1, hn.1]; exact hl
  refine ⟨by rw [setAll_size hl', splice_length hl, h.1], fun i c hc => ?_⟩
  rw [splice_get hl] at hc
  rw [setAll_getD hl', hn.1]
  split at hc
  · rename_i hi
    rw [if_neg (by omega)]; exact h.2 i c hc
  · split at hc
    · rename_i h1 h2
      rw [if_pos (by omega)]; exact hn.2 _ c hc
    · rename_i h1 h2
      rw [if_neg (by omega)]; exact h.2 i c hc

def okParts (P : Program) (N : Nat) (fs : Array Field) (len : Nat) : List (Nat × Operand) → List (Nat × Nat × Opd) → Bool
  | [], [] => true
  | (i, x) :: r, (off, n, ax) :: q => (match fs[i]? with
      | some f => Nat.beq f.offset off && decide ((P.info? f.type).map (·.size) = some n) && Nat.ble (off + n) len
      | none => false) && okOpd N x ax && okParts P N fs len r q
  | _, _ => false

theorem fill_ok (R : Rel gl g d s a.tmps w) {fs : Array Field} {len : Nat} {place : Nat → Option (Nat × Nat)}
    (hp : ∀ (i : Nat) (f : Field) (n : Nat), fs[i]? = some f → (P.info? f.type).map (·.size) = some n → place i = some (f.offset, n)) :
    ∀ {ps : List (Nat × Operand)} {aps : List (Nat × Nat × Opd)} (h : okParts P N fs len ps aps = true) {cs cs' : List AV} {vs : Array Value} (hl : cs.length = len) (hr : Row g.imm w cs vs)
      (hf : fillParts gl s.env cs aps = some cs'), ∃ vs', Instr.fill place vs (ps.map fun (i, x) => (i, a.eval x)) = some vs' ∧ Row g.imm w cs' vs'
  | [], [], _, cs, cs', vs, _, hr, hf => by simp [fillParts] at hf; subst hf; exact ⟨vs, rfl, hr⟩
  | [], _ :: _, h, _, _, _, _, _, _ => by simp [okParts] at h
  | _ :: _, [], h, _, _, _, _, _, _ => by simp [okParts] at h
  | (i, x) :: ps, (off, n, ax) :: aps, h, cs, cs', vs, hl, hr, hf => by
    simp only [okParts, Bool.and_eq_true] at h
    obtain ⟨⟨h1, h2⟩, h3⟩ := h
    split at h1
    · rename_i f hfi
      simp only [Bool.and_eq_true, Nat.beq_eq, Nat.ble_eq] at h1
      obtain ⟨⟨rfl, h5⟩, h6⟩ := h1
      have h5 := of_decide_eq_true h5
      simp only [fillParts] at hf
      split at hf
      · cases hf
      · rename_i A hA
        split at hf
        · cases hf
        · rename_i p hpur
          split at hf
          · rename_i hlen
            have hrp := (rd_ok R h2 hA).pur hpur
            have hc := rp_cells hrp
            rw [hlen] at hc
            have hns : Row g.imm w p.cellsA (a.eval x).cells := ⟨hc.1.trans hlen.symm, hc.2⟩
            obtain ⟨vs', h7, h8⟩ := fill_ok R hp h3 (by rw [splice_length (by rw [hlen]; omega)]; exact hl) (hr.splice hns (by rw [hlen]; omega)) hf
            refine ⟨vs', ?_, h8⟩
            simp only [List.map_cons, Instr.fill, hp i f n hfi h5]
            rw [if_neg]
            · exact h7
            · simp [hc.1, hr.1]; omega
          · cases hf
    · cases h1

theorem run_places {fs : Array Field} (h : ∀ (i : Nat) (f : Field), fs[i]? = some f → (P.info? f.type).isSome = true) :
    ∃ ps : Array (Nat × Nat), (fs.mapM (fun f => do pure (f.offset, ← sizeOf f.type) : Field → Sem (Nat × Nat))).run P w = .ok ps w ∧ ∀ (i : Nat) (f : Field) (n : Nat), fs[i]? = some f → (P.info? f.type).map (·.size) = some n → ps[i]? = some (f.offset, n) := by
  have key : ∀ l : List Field, (∀ f ∈ l, (P.info? f.type).isSome = true) →
      (l.mapM (fun f => do pure (f.offset, ← sizeOf f.type) : Field → Sem (Nat × Nat))).run P w = .ok (l.map fun f => (f.offset, ((P.info? f.type).map (·.size)).getD 0)) w := by
    intro l
    induction l with
    | nil => intro _; rfl
    | cons f l ih =>
      intro hl
      obtain ⟨i, hi⟩ := Option.isSome_iff_exists.1 (hl f (by simp))
      have : (P.info? f.type).map (·.size) = some i.size := by rw [hi]; rfl
      simp only [List.mapM_cons, Sem.run_bind, run_size this, Result.andThen_ok, Sem.run_pure, ih (fun f hf => hl f (by simp [hf])), List.map_cons, this, Option.getD_some]
  refine ⟨fs.map fun f => (f.offset, ((P.info? f.type).map (·.size)).getD 0), ?_, fun i f n h1 h2 => by simp [h1, h2]⟩
  rw [Array.mapM_eq_mapM_toList, Sem.run_map, key _ (fun f hf => by
    obtain ⟨i, hi⟩ := List.getElem?_of_mem hf
    exact h i f (by simpa using hi))]
  simp only [Result.andThen_ok]
  congr 1
  rw [← Array.toList_inj]; simp

theorem run_zero {t : TypeId} {z : Value} (h : (P.info? t).bind (·.zero) = some z) : (zeroValue t).run P w = .ok z w := by
  simp only [Option.bind_eq_some_iff] at h
  obtain ⟨i, h1, h2⟩ := h
  simp [zeroValue, run_info h1, h2]

theorem ok_build (R : Rel gl g d s a.tmps w) (hD : ∀ m, o.dst = some m → m < a.tmps.size) {t : TypeId} {ps : Array (Nat × Operand)} {fs : Array Field} {zero : List AV} {zs : Value} {aps : List (Nat × Nat × Opd)}
    (ho : o.op = .build t ps) (ht : P.underlying t = some (.struct fs)) (hz : (P.info? t).bind (·.zero) = some zs) (hzl : litsOK zero zs.cells.toList = true) (hnn : ∀ c ∈ zero, c ≠ .onil)
    (hfs : ∀ (i : Nat) (f : Field), fs[i]? = some f → (P.info? f.type).isSome = true) (hps : okParts P N fs zero.length ps.toList aps = true)
    (he : eff gl C o.dst s.env s.bx s.nb s.stk (.build zero aps) = some e) : OpOK P gl g d s a w o draw e := by
  simp only [eff] at he
  split at he
  · cases he
  · rename_i cs hcs
    simp only [Option.some.injEq] at he; subst he
    obtain ⟨places, h1, h2⟩ := run_places (P := P) (w := w) hfs
    have hrow := litsOK_row (imm := g.imm) (w := w) hzl hnn
    obtain ⟨vs', h3, h4⟩ := fill_ok (P := P) R (place := (places[·]?)) h2 hps rfl hrow hcs
    refine OpOK.sameT R hD (allU_partTooks _) (v := .agg vs') ?_ h4.agg.rc
    have e1 : (ps.map fun (i, x) => (i, a.eval x)).toList = ps.toList.map fun (i, x) => (i, a.eval x) := by simp
    simp only [execOp, ho, Instr.build]
    simp only [Sem.run_bind, run_zero hz, Result.andThen_ok, run_und ht, h1]
    simp only [e1]
    simp only [Array.toArray_toList] at h3
    simp [h3]
end
end Go.Vs

namespace Go.Vs
open Go
set_option linter.unusedSimpArgs false
set_option linter.unusedVariables false

/-- A block, whole, in place of another. -/
def putB (w : World) (b : Nat) (x : Obj) : World := { w with heap := w.heap.setIfInBounds b x }

theorem putB_same {w : World} {b : Nat} {x y : Obj} (h : w.heap[b]? = some y) : (putB w b x).heap[b]? = some x := by
  have hb : b < w.heap.size := (Array.getElem?_eq_some_iff.1 h).1
  simp [putB, hb]
theorem putB_ne {w : World} {b b' : Nat} {x : Obj} (h : b' ≠ b) : (putB w b x).heap[b']? = w.heap[b']? := by
  show (w.heap.setIfInBounds b x)[b']? = _
  rw [Array.getElem?_setIfInBounds_ne (fun e => h e.symm)]
theorem putB_size (w : World) (b : Nat) (x : Obj) : (putB w b x).heap.size = w.heap.size := by simp [putB]
theorem putB_putB (w : World) (b : Nat) (x y : Obj) : putB (putB w b x) b y = putB w b y := by simp [putB]
theorem cell_of_heap_eq {w w' : World} {b : Nat} (h : w'.heap[b]? = w.heap[b]?) (q : Nat) : w'.cell? (at' b q) = w.cell? (at' b q) := by simp [World.cell?, at', h]

theorem setCell_putB {w : World} {b q : Nat} {c : Array Value} {el : TypeId} (h : w.heap[b]? = some (.cells c el (0, 0))) (v : Value) :
    w.setCell (at' b q) v = putB w b (.cells (c.setIfInBounds q v) el (0, 0)) := by
  unfold World.setCell putB
  congr 1
  apply Array.ext_getElem?
  intro i
  rw [Array.getElem?_modify]
  by_cases hi : i = b
  · subst hi
    obtain ⟨hb, h2⟩ := Array.getElem?_eq_some_iff.1 h
    simp [at', hb, h2]
  · rw [if_neg (by simpa [at'] using fun e => hi e.symm), Array.getElem?_setIfInBounds_ne (fun e => hi e.symm)]

theorem frozen_at {w : World} {b q : Nat} {c : Array Value} {el : TypeId} (h : w.heap[b]? = some (.cells c el (0, 0))) : w.frozen? (at' b q) = false := by
  simp [World.frozen?, at', h]

section
variable {P : Program} {w : World}

theorem run_store1 {b q : Nat} {c : Array Value} {el : TypeId} (h : w.heap[b]? = some (.cells c el (0, 0))) (hq : q < c.size) {v : Value} (hv : v.oneCell' = true) :
    (store (at' b q) v).run P w = .ok () (putB w b (.cells (c.setIfInBounds q v) el (0, 0))) := by
  rw [run_store P w _ v .plain hv, cell_of_heap h, getD_of_lt hq]
  simp [frozen_at h, setCell_putB h]

theorem run_storeCells {b q : Nat} {el : TypeId} : ∀ (vs : List Value) (i : Nat) {w : World} {c : Array Value} (h : w.heap[b]? = some (.cells c el (0, 0))) (hq : q + i + vs.length ≤ c.size) (hv : ∀ v ∈ vs, v.oneCell' = true),
    (storeCells (at' b q) vs i).run P w = .ok () (putB w b (.cells ((vs.zipIdx i).foldl (fun cs (v, j) => cs.setIfInBounds (q + j) v) c) el (0, 0)))
  | [], i, w, c, h, hq, hv => by
    simp [storeCells]
    have hb : b < w.heap.size := (Array.getElem?_eq_some_iff.1 h).1
    have : w.heap.setIfInBounds b (.cells c el (0, 0)) = w.heap := by
      apply Array.ext_getElem?
      intro k
      by_cases hk : k = b
      · subst hk; rw [h]; simp [hb]
      · rw [Array.getElem?_setIfInBounds_ne (fun e => hk e.symm)]
    unfold putB; rw [this]
  | v :: vs, i, w, c, h, hq, hv => by
    simp only [List.length_cons] at hq
    have h1 : w.heap[b]? = some (.cells c el (0, 0)) := h
    simp only [storeCells, at'_add, Sem.run_bind, run_store1 (P := P) h (by omega : q + i < c.size) (hv v (by simp)), Result.andThen_ok]
    have h2 := putB_same (x := .cells (c.setIfInBounds (q + i) v) el (0, 0)) h
    rw [run_storeCells vs (i + 1) h2 (by simp; omega) (fun v hv' => hv v (by simp [hv'])), putB_putB]
    rfl

theorem run_storeVar {t : TypeId} {b q n : Nat} {el : TypeId} {c : Array Value} {v : Value} (hsz : (P.info? t).map (·.size) = some n) (hn : v.cells.size = n)
    (h : w.heap[b]? = some (.cells c el (0, 0))) (hq : q + n ≤ c.size) (hv : ∀ x ∈ v.cells, x.oneCell' = true) :
    (storeVar t (at' b q) v).run P w = .ok () (putB w b (.cells (setAll c q v.cells) el (0, 0))) := by
  simp only [storeVar, Sem.run_bind, run_size hsz, Result.andThen_ok]
  rw [if_neg (by simpa using hn)]
  rw [run_storeCells v.cells.toList 0 h (by simpa [hn] using hq) (fun x hx => hv x (by simpa using hx))]
  unfold setAll
  rw [← Array.foldl_toList, Array.toList_zipIdx]

theorem run_loadVar1 {t : TypeId} {b q : Nat} {v : Value} (hag : (isAgg t).run P w = .ok false w) (h : w.cell? (at' b q) = some v) : (loadVar t (at' b q)).run P w = .ok v w := by
  simp [loadVar, hag, h]

theorem run_loadVarA {t : TypeId} {b q n : Nat} (hag : (isAgg t).run P w = .ok true w) (hsz : (P.info? t).map (·.size) = some n) {f : Nat → Value} (h : ∀ j, j < n → w.cell? (at' b (q + j)) = some (f j)) :
    (loadVar t (at' b q)).run P w = .ok (.agg ((List.range n).map f).toArray) w := by
  have e0 : ((List.range n).map f).toArray = (Array.range n).map f := by rw [← Array.toList_inj]; simp
  have h' : ∀ j, j < n → w.cell? ((at' b q).add j) = some (f j) := fun j hj => by rw [at'_add]; exact h j hj
  simp [loadVar, hag, run_size hsz, run_loadCells w (at' b q) n f h']
end

/-- A value that was read waits for its new place. -/
theorem Rel.float {gl : Globs} {g : Gh} {d : Nat} {s : St} {tmps : Array Value} {w : World} (R : Rel gl g d s tmps w) {ax : Opd} {A : AV} {v : Value} (hA : RD g w d s.env ax A v) (κ : Key) (hκ : ∀ l n, κ ≠ .box l n)
    (ht : ∀ vs, A ≠ .tup vs) {T : List (Nat × AV)} (hT : AllU T) (hsub : ∀ p ∈ ax.took, p ∈ T) :
    ∃ g', Rel gl g' d { s with env := wrs s.env T } tmps w ∧ Step g w g' w ∧ RV1 g' w d κ A v ∧ g'.loc = g.loc ∧ g'.imm = g.imm := by
  have base : ∀ (g' : Gh), Ext g w g' w → g'.loc = g.loc → (∀ b, g.ob b = none → g'.ob b = none) → (∀ b l n, g.ob b = some (.box l n) → g'.ob b = some (.box l n)) → g'.imm = g.imm →
      (∀ n c, n ∉ T.map (·.1) → Keep g w g' w (.slot d n c)) → (∀ l n, Keep g w g' w (.box l n)) → (∀ l n i, Keep g w g' w (.cell l n i)) → Rel gl g' d { s with env := wrs s.env T } tmps w := by
    intro g' e hl hn hbx him hk1 hk2 hk3
    refine R.on e (fun l n b h => by rw [hl]; exact h) (fun n => ?_) (fun n b h => .inl ⟨h, hk2 _ _, hk3 _ _⟩) (fun n h => by rw [hl]; exact R.dead n h) R.excl
      (fun l n b h => .inl ⟨h, hk2 _ _, hk3 _ _⟩) (fun l n hl' h => by rw [hl]; exact R.deadO l n hl' h) R.lvl (fun b hb => ⟨hn b (R.fresh b hb).1, by rw [him]; exact (R.fresh b hb).2⟩) (fun l n b h => by
        rw [hl] at h; exact ⟨hbx _ _ _ (R.locs l n b h).1, (R.locs l n b h).2⟩)
    rcases wrs_allU hT s.env n with h | ⟨h1, h2⟩
    · right; show RV _ _ _ _ (wrs s.env T n) _; rw [h]; trivial
    · left; exact ⟨h1, rfl, fun c => hk1 n c h2⟩
  rcases hA with ⟨n0, rfl, _, h⟩ | ⟨_, h⟩
  · let f : Key → Key := fun k => if k = .slot d n0 0 then κ else k
    have hk : ∀ k, k ≠ .slot d n0 0 → Keep g w (g.re f) w k := fun k hk => re_keep _ _ _ (if_neg hk)
    refine ⟨g.re f, base _ (re_ext _ _ _) rfl (fun b h => by simp [Gh.re, h]) (fun b l n h => by simp [Gh.re, h, f]) rfl (fun n c hn => hk _ ?_) (fun l n => hk _ (by simp)) (fun l n i => hk _ (by simp)), re_step _ _ _, RV1.re (if_pos rfl) (h.rv1 ht), rfl, rfl⟩
    have : n0 ∈ T.map (·.1) := List.mem_map.2 ⟨(n0, .undef), hsub _ (by simp [Opd.took]), rfl⟩
    intro e
    simp only [Key.slot.injEq, true_and] at e
    exact hn (e.1 ▸ this)
  · exact ⟨g, base g (.refl _ _) rfl (fun _ h => h) (fun _ _ _ h => h) rfl (fun _ _ _ => .refl _ _ _) (fun _ _ => .refl _ _ _) (fun _ _ _ => .refl _ _ _), .refl _ _, h κ, rfl, rfl⟩

section
variable {P : Program} {gl : Globs} {g : Gh} {d N : Nat} {s : St} {a : Act} {w : World} {o : Oper} {draw : Bool} {e : Eff} {C : Callee}

theorem applyMem_env (draw : Bool) (s : St) (m : Mem) : (applyMem draw s m).env = s.env := by
  cases m <;> simp only [applyMem]
  split <;> rfl

theorem merge_new (draw : Bool) (s : St) {n : Nat} (b : Box) (h1 : s.bx n = none) (h2 : s.nb n = none) (k : Nat) :
    mergeB (applyMem draw s (.new n b)).bx (applyMem draw s (.new n b)).nb k = if k = n then some b else mergeB s.bx s.nb k := by
  unfold applyMem mergeB
  by_cases hk : k = n
  · subst hk
    cases draw <;> simp [upd_same, h2]
  · cases draw <;> simp [upd_ne _ _ hk, hk]

/-- A new box of the frame. -/
theorem Rel.newBox (R : Rel gl g d s a.tmps w) {n : Nat} {b : Box} (h1 : s.bx n = none) (h2 : s.nb n = none) {c : Array Value} {elem : TypeId}
    {D : Option Nat} (hD : ∀ m, D = some m → m < a.tmps.size) {T : List (Nat × AV)} (hT : AllU T) {A : AV} {v : Value}
    (hbox : ∀ w', Ext g w (g.nwBox w.heap.size d n) w' → w'.heap[w.heap.size]? = some (.cells c elem (0, 0)) → LocKeep g (g.nwBox w.heap.size d n) → (∀ κ, Keep g w (g.nwBox w.heap.size d n) w' κ) →
      RBox (g.nwBox w.heap.size d n) w' d n b)
    (hA : ∀ w', (g.nwBox w.heap.size d n).loc d n = some w.heap.size → RC (g.nwBox w.heap.size d n) w' d A v) :
    Rel gl (g.nwBox w.heap.size d n) d (applyEff draw s { wr := T ++ wrD D A, mem := .new n b }) (putT a.tmps D v) (w.alloc (.cells c elem)) ∧ Step g w (g.nwBox w.heap.size d n) (w.alloc (.cells c elem)) := by
  have hf : World.Fresh g w := R.fresh
  have hi : ∀ b', b' ≠ w.heap.size → (g.nwBox w.heap.size d n).imm b' = g.imm b' := fun b' h => upd_ne _ _ h
  have ho : ∀ b', b' ≠ w.heap.size → (g.nwBox w.heap.size d n).ob b' = g.ob b' := fun b' h => upd_ne _ _ h
  have hx := nw_ext hf (.cells c elem) hi
  have hk := nw_keep hf (.cells c elem) hi ho
  have hloc : (g.nwBox w.heap.size d n).loc d n = some w.heap.size := by simp [Gh.nwBox, upd_same]
  have hdead : g.loc d n = none := R.dead n (by simp [mergeB, h1, h2])
  have hl : LocKeep g (g.nwBox w.heap.size d n) := fun l m b h => by
    show upd g.loc d _ l m = _
    by_cases hld : l = d
    · subst hld
      rw [upd_same]
      have : m ≠ n := by rintro rfl; rw [hdead] at h; cases h
      rw [upd_ne _ _ this]; exact h
    · rw [upd_ne _ _ hld]; exact h
  have hloc' : ∀ l m b, (g.nwBox w.heap.size d n).loc l m = some b → (l = d ∧ m = n ∧ b = w.heap.size) ∨ g.loc l m = some b := fun l m b h => by
    have h : upd g.loc d (upd (g.loc d) n (some w.heap.size)) l m = some b := h
    by_cases hld : l = d
    · subst hld
      rw [upd_same] at h
      by_cases hm : m = n
      · subst hm; rw [upd_same] at h; simp at h; exact .inl ⟨rfl, rfl, h.symm⟩
      · rw [upd_ne _ _ hm] at h; exact .inr h
    · rw [upd_ne _ _ hld] at h; exact .inr h
  let s1 : St := { s with env := wrs s.env (T ++ wrD D A) }
  have hm := merge_new draw s1 b h1 h2
  refine ⟨R.gen hx hl hT (by simp [applyEff, applyMem_env]) hD (fun m hm => (hA _ hloc).rv) (fun _ _ _ _ => hk _) (fun k B h => ?_) (fun k h => ?_) (fun k B h => ?_) (fun l k B h => ?_) (fun l k hl' h => ?_) ?_ (fun b' hb => ?_) (fun l m b' h => ?_), nw_step hf _ hi ho hl⟩
  · have h : mergeB (applyMem draw s1 (.new n b)).bx (applyMem draw s1 (.new n b)).nb k = some B := h
    rw [hm] at h
    by_cases hkn : k = n
    · rw [if_pos hkn] at h
      cases h
      subst hkn
      exact .inr (hbox _ hx (heap_alloc_new _ _) hl hk)
    · rw [if_neg hkn] at h
      exact .inl ⟨h, hk _, fun _ => hk _⟩
  · have h : mergeB (applyMem draw s1 (.new n b)).bx (applyMem draw s1 (.new n b)).nb k = none := h
    rw [hm] at h
    by_cases hkn : k = n
    · rw [if_pos hkn] at h; cases h
    · rw [if_neg hkn] at h
      show upd g.loc d _ d k = none
      rw [upd_same, upd_ne _ _ hkn]; exact R.dead k h
  · have h : (applyMem draw s1 (.new n b)).bx k = some B := h
    show (applyMem draw s1 (.new n b)).nb k = none
    cases draw with
    | true =>
      have h3 : s.bx k = some B := h
      have hkn : k ≠ n := by rintro rfl; rw [h1] at h3; cases h3
      show upd s.nb n _ k = none
      rw [upd_ne _ _ hkn]; exact R.excl k B h3
    | false =>
      have h3 : upd s.bx n (some b) k = some B := h
      show s.nb k = none
      by_cases hkn : k = n
      · subst hkn; exact h2
      · rw [upd_ne _ _ hkn] at h3; exact R.excl k B h3
  · have hstk : (applyEff draw s { wr := T ++ wrD D A, mem := .new n b }).stk = s.stk := by cases draw <;> rfl
    rw [hstk] at h
    exact .inl ⟨h, hk _, fun _ => hk _⟩
  · have hstk : (applyEff draw s { wr := T ++ wrD D A, mem := .new n b }).stk = s.stk := by cases draw <;> rfl
    rw [hstk] at h
    show upd g.loc d _ l k = none
    rw [upd_ne _ _ (by omega)]; exact R.deadO l k hl' h
  · have hstk : (applyEff draw s { wr := T ++ wrD D A, mem := .new n b }).stk = s.stk := by cases draw <;> rfl
    rw [hstk]; exact R.lvl
  · have : b' ≠ w.heap.size := by simp at hb; omega
    rw [hi b' this, ho b' this]
    exact R.fresh b' (by simp at hb; omega)
  · rcases hloc' l m b' h with ⟨rfl, rfl, rfl⟩ | h
    · exact ⟨by show upd _ _ _ _ = _; rw [upd_same], Nat.le_refl _⟩
    · have h' := R.locs l m b' h
      exact ⟨by rw [ho b' (by have := ob_lt hf h'.1; omega)]; exact h'.1, h'.2⟩

theorem ok_alloc (R : Rel gl g d s a.tmps w) (hD : ∀ m, o.dst = some m → m < a.tmps.size) {elem : TypeId} {zero : List AV} {zs : Value}
    (ho : o.op = .alloc elem) (hz : (P.info? elem).bind (·.zero) = some zs) (hzl : litsOK zero zs.cells.toList = true)
    (he : eff gl C o.dst s.env s.bx s.nb s.stk (.alloc zero) = some e) : OpOK P gl g d s a w o draw e := by
  simp only [eff] at he
  split at he
  · rename_i n hn
    split at he
    · rename_i h1 h2
      simp only [Option.some.injEq] at he; subst he
      have hlits : ∀ {cs : List AV} {vs : List Value}, litsOK cs vs = true → vs.length = cs.length ∧ ∀ (i : Nat) (c : AV), cs[i]? = some c → c.one = true ∧ ∃ v, vs[i]? = some v ∧ litOK c v = true := by
        intro cs
        induction cs with
        | nil => intro vs h; cases vs <;> simp [litsOK] at h ⊢
        | cons c cs ih =>
          intro vs h
          cases vs with
          | nil => simp [litsOK] at h
          | cons v vs =>
            simp only [litsOK, Bool.and_eq_true] at h
            obtain ⟨k1, k2⟩ := ih h.2
            refine ⟨by simp [k1], fun i x hx => ?_⟩
            cases i with
            | zero => simp at hx; subst hx; exact ⟨h.1.2, v, rfl, h.1.1⟩
            | succ i => simpa using k2 i x (by simpa using hx)
      obtain ⟨h3, h4⟩ := hlits hzl
      obtain ⟨h5, h6⟩ := R.newBox (draw := draw) (b := .cells zero) (c := zs.cells) (elem := elem) h1 h2 (D := some n) (fun m hm => hD m (by rw [hn]; exact hm)) (T := []) allU_nil (A := .ptr (.loc n) 0) (v := .pointer (some (at' w.heap.size 0)))
        (fun w' hx hh hl hk => ⟨w.heap.size, zs.cells, elem, by simp [Gh.nwBox, upd_same], by simp [Gh.nwBox, upd_same], hh, by simpa using h3, fun i c hc => by
          obtain ⟨k1, v, k2, k3⟩ := h4 i c hc
          refine ⟨.inr k1, ?_⟩
          have : zs.cells.getD i undef = v := by
            rw [Array.getElem?_toList] at k2
            rw [Array.getD_eq_getD_getElem?, k2]; rfl
          rw [this]; exact litOK_rc k3 _⟩)
        (fun w' hl κ => ⟨w.heap.size, ⟨hl, trivial⟩, rfl⟩)
      refine ⟨_, _, _, .inl ?_, by rw [hn]; exact h5, h6⟩
      simp [execOp, ho, Instr.alloc, run_zero hz, newVar, newRow, at']
    · cases he
  · cases he
end
end Go.Vs

namespace Go.Vs
open Go
set_option linter.unusedSimpArgs false
set_option linter.unusedVariables false

section
variable {P : Program} {gl : Globs} {g : Gh} {d N : Nat} {s : St} {a : Act} {w : World} {o : Oper} {draw : Bool} {e : Eff} {C : Callee}

theorem RV1.cells {κ : Key} {A : AV} {v : Value} (h : RV1 g w d κ A v) (hall : A.cellsA.all AV.one = true) : v.cells.size = A.cellsA.length ∧
    ∀ (i : Nat) (c : AV), A.cellsA[i]? = some c → c.one = true ∧ ((A = c ∧ i = 0 ∧ v.cells.getD i undef = v) ∨ RP g.imm w c (v.cells.getD i undef)) := by
  cases A
  case agg cs =>
    have h' : RP g.imm w (.agg cs) v := h
    obtain ⟨h1, h2⟩ := rp_cells h'
    exact ⟨h1, fun i c hc => ⟨(h2 i c hc).1, .inr (h2 i c hc).2⟩⟩
  case undef => simp [AV.cellsA, AV.one] at hall
  case tup => simp [AV.cellsA, AV.one] at hall
  all_goals
    refine ⟨?_, fun i c hc => ?_⟩
    · simp only [RV1] at h
      first
        | (cases h <;> rfl)
        | (obtain ⟨_, rfl⟩ := h; rfl)
        | (obtain ⟨_, _, rfl⟩ := h; rfl)
        | (obtain ⟨_, _, rfl, _⟩ := h; rfl)
        | (obtain ⟨_, rfl, _⟩ := h; rfl)
        | (obtain ⟨_, _, _, _, rfl⟩ := h; rfl)
    · cases i with
      | succ i => simp [AV.cellsA] at hc
      | zero =>
        simp only [AV.cellsA, List.getElem?_cons_zero, Option.some.injEq] at hc
        subst hc
        refine ⟨rfl, .inl ⟨rfl, rfl, ?_⟩⟩
        simp only [RV1] at h
        first
          | (cases h <;> rfl)
          | (obtain ⟨_, rfl⟩ := h; rfl)
          | (obtain ⟨_, _, rfl⟩ := h; rfl)
          | (obtain ⟨_, _, rfl, _⟩ := h; rfl)
          | (obtain ⟨_, rfl, _⟩ := h; rfl)
          | (obtain ⟨_, _, _, _, rfl⟩ := h; rfl)

theorem ok_box (R : Rel gl g d s a.tmps w) (hD : ∀ m, o.dst = some m → m < a.tmps.size) {elem : TypeId} {x : Operand} {ax : Opd}
    (ho : o.op = .box elem x) (hx : okOpd N x ax = true)
    (he : eff gl C o.dst s.env s.bx s.nb s.stk (.box ax) = some e) : OpOK P gl g d s a w o draw e := by
  simp only [eff] at he
  split at he
  · rename_i n hn
    split at he
    · rename_i h1 h2
      split at he
      · cases he
      · rename_i A hA
        split at he
        · rename_i hall
          simp only [Option.some.injEq] at he; subst he
          have hrd := rd_ok R hx hA
          have ht : ∀ vs, A ≠ .tup vs := by rintro vs rfl; simp [AV.cellsA, AV.one] at hall
          obtain ⟨g1, R1, S1, hv, hloc, himm⟩ := R.float hrd (.cell d n 0) (by simp) ht (allU_took ax) (fun p hp => hp)
          obtain ⟨h3, h4⟩ := hv.cells hall
          obtain ⟨h5, h6⟩ := Rel.newBox (a := a) (draw := draw) R1 (b := .cells A.cellsA) (c := (a.eval x).cells) (elem := elem) h1 h2 (D := some n) (fun m hm => hD m (by rw [hn]; exact hm)) (T := []) allU_nil
            (A := .ptr (.loc n) 0) (v := .pointer (some (at' w.heap.size 0)))
            (fun w' hx hh hl hk => ⟨w.heap.size, _, elem, by simp [Gh.nwBox, upd_same], by simp [Gh.nwBox, upd_same], hh, h3, fun i c hc => by
              obtain ⟨k1, k2⟩ := h4 i c hc
              refine ⟨.inr k1, ?_⟩
              rcases k2 with ⟨rfl, rfl, k4⟩ | k2
              · rw [k4]; exact hv.keep hx (hk _) (fun _ _ _ h => ⟨hl _ _ _ h.1, h.2⟩)
              · exact (k2.ext hx).rc _⟩)
            (fun w' hl κ => ⟨w.heap.size, ⟨hl, trivial⟩, rfl⟩)
          refine ⟨_, .pointer (some (at' w.heap.size 0)), w.alloc (.cells (a.eval x).cells elem), .inl ?_, ?_, S1.trans h6⟩
          · simp [execOp, ho, Instr.box, newVar, newRow, at']
          · rw [hn]
            have e0 : applyEff draw { s with env := wrs s.env ax.took } { wr := [] ++ wrD (some n) (.ptr (.loc n) 0), mem := .new n (.cells A.cellsA) } =
                applyEff draw s { wr := ax.took ++ [(n, .ptr (.loc n) 0)], mem := .new n (.cells A.cellsA) } := by
              simp [applyEff, wrs_append, wrD]
            rw [← e0]; exact h5
        · cases he
    · cases he
  · cases he

theorem elems_of_parts {sz : Nat} : True := trivial

/-- The parts of a slice literal, one after another. -/
theorem fillLits (R : Rel gl g d s a.tmps w) {sz : Nat} : ∀ {l : List Operand} {vs ps : List AV} (hlen : vs.length = l.length)
    (hrd : ∀ (i : Nat) (x : Operand) (A : AV), l[i]? = some x → vs[i]? = some A → ∃ ax, RD g w d s.env ax A (a.eval x)) (hp : purs vs = some ps) (hall : ps.all (fun p => Nat.beq p.cellsA.length sz) = true)
    (k : Nat) (cells : Array Value) (hc : (k + l.length) * sz ≤ cells.size),
    ∃ cells', Instr.fill (fun i => some (i * sz, sz)) cells ((l.zipIdx k).map fun (x, i) => (i, a.eval x)) = some cells' ∧ cells'.size = cells.size ∧
      (∀ i, i < k * sz → cells'.getD i undef = cells.getD i undef) ∧
      ∀ (i : Nat) (p : AV) (j : Nat) (c : AV), ps[i]? = some p → p.cellsA[j]? = some c → c.one = true ∧ RP g.imm w c (cells'.getD ((k + i) * sz + j) undef)
  | [], vs, ps, hlen, hrd, hp, hall, k, cells, hc => by
    have : vs = [] := List.length_eq_zero_iff.1 hlen
    subst this
    simp [purs] at hp; subst hp
    exact ⟨cells, rfl, rfl, fun _ _ => rfl, by simp⟩
  | x :: l, [], ps, hlen, hrd, hp, hall, k, cells, hc => by simp at hlen
  | x :: l, A :: vs, ps, hlen, hrd, hp, hall, k, cells, hc => by
    simp only [purs] at hp
    split at hp
    · cases hp
    · rename_i p hpp
      split at hp
      · cases hp
      · rename_i ps' hps
        simp only [Option.some.injEq] at hp; subst hp
        simp only [List.all_cons, Bool.and_eq_true, Nat.beq_eq] at hall
        obtain ⟨ax, h0⟩ := hrd 0 x A rfl rfl
        have hr := h0.pur hpp
        obtain ⟨h1, h2⟩ := rp_cells hr
        rw [hall.1] at h1
        simp only [List.length_cons] at hc hlen
        have hk1 : (k + 1 + l.length) * sz ≤ cells.size := by rw [show k + 1 + l.length = k + (l.length + 1) by omega]; exact hc
        have hk2 : k * sz + sz ≤ cells.size := by
          have : (k + 1) * sz ≤ (k + 1 + l.length) * sz := Nat.mul_le_mul_right _ (by omega)
          rw [Nat.add_mul] at this; omega
        have hset : k * sz + (a.eval x).cells.size ≤ cells.size := by omega
        obtain ⟨cells', h3, h4, h5, h6⟩ := fillLits R (l := l) (vs := vs) (ps := ps') (by omega) (fun i y B e1 e2 => hrd (i + 1) y B (by simpa using e1) (by simpa using e2)) hps hall.2 (k + 1) (setAll cells (k * sz) (a.eval x).cells)
          (by rw [setAll_size hset]; exact hk1)
        refine ⟨cells', ?_, by rw [h4, setAll_size hset], fun i hi => ?_, fun i q j c e1 e2 => ?_⟩
        · simp only [List.zipIdx_cons, List.map_cons, Instr.fill]
          rw [if_neg]
          · exact h3
          · simp [h1]; omega
        · rw [h5 i (by rw [Nat.add_mul]; omega), setAll_getD hset, if_neg (by omega)]
        · cases i with
          | zero =>
            simp at e1; subst e1
            have hj : j < sz := by have := lt_of_get e2; omega
            simp only [Nat.add_zero]
            rw [h5 _ (by rw [Nat.add_mul]; omega), setAll_getD hset, if_pos (by omega)]
            have : k * sz + j - k * sz = j := by omega
            rw [this]; exact h2 j c e2
          | succ i =>
            have := h6 i q j c (by simpa using e1) e2
            rw [show k + (i + 1) = k + 1 + i by omega]; exact this

theorem purs_length : ∀ {vs ps : List AV}, purs vs = some ps → ps.length = vs.length
  | [], ps, h => by simp [purs] at h; subst h; rfl
  | v :: vs, ps, h => by
    simp only [purs] at h
    split at h
    · cases h
    · split at h
      · cases h
      · rename_i h1
        simp only [Option.some.injEq] at h; subst h
        simp [purs_length h1]

theorem run_buildSlice {t et : TypeId} {sz len : Nat} (ht : P.underlying t = some (.slice et)) (hsz : (P.info? et).map (·.size) = some sz) (hlim : len * sz ≤ 2 ^ 24) {zero : Array Value}
    (hz : (len * sz = 0 ∧ zero = #[]) ∨ (len * sz ≠ 0 ∧ ∃ z, (P.info? et).bind (·.zero) = some z ∧ zero = z.cells)) {parts : Array (Nat × Value)} {cells' : Array Value}
    (hf : Instr.fill (fun i => some (i * sz, sz)) ((Array.range (len * sz)).map (zero[· % zero.size]!)) parts.toList = some cells') :
    (Instr.buildSlice t len parts).run P w = .ok (.slice (some (at' w.heap.size 0)) len len) (w.alloc (.cells cells' et)) := by
  simp only [Instr.buildSlice, Sem.run_bind, run_und ht, Result.andThen_ok, run_size hsz]
  rw [if_neg (by omega)]
  rcases hz with ⟨h0, rfl⟩ | ⟨h0, z, hz, rfl⟩
  · simp only [if_pos h0, pure_bind, hf, Sem.run_bind, newRow, run_newObj, Sem.run_pure, Result.andThen_ok, at', World.alloc_eq]
  · simp only [if_neg h0, Sem.run_bind, run_zero hz, Sem.run_pure, Result.andThen_ok, hf, newRow, run_newObj, at', World.alloc_eq]

theorem ok_lits (R : Rel gl g d s a.tmps w) (hD : ∀ m, o.dst = some m → m < a.tmps.size) {t et : TypeId} {u : Bool} {sz len : Nat} {ps : Array (Nat × Operand)} {l : List Operand} {al : List Opd}
    (ho : o.op = .buildSlice t len ps) (ht : P.underlying t = some (.slice et)) (hsz : (P.info? et).map (·.size) = some sz) (hz : len * sz = 0 ∨ ((P.info? et).bind (·.zero)).isSome = true) (hlim : len * sz ≤ 2 ^ 24)
    (hps : ps.toList = l.zipIdx.map fun (x, i) => (i, x)) (hlen : l.length = len) (hx : okOpds N l al = true)
    (he : eff gl C o.dst s.env s.bx s.nb s.stk (.lits u sz al) = some e) : OpOK P gl g d s a w o draw e := by
  simp only [eff] at he
  split at he
  · cases he
  · rename_i vs hvs
    split at he
    · cases he
    · rename_i qs hqs
      split at he
      · rename_i hall
        simp only [Option.some.injEq] at he; subst he
        obtain ⟨h1, h2, h3⟩ := rds_ok R hx hvs
        obtain ⟨zero, hzr⟩ : ∃ zero : Array Value, (len * sz = 0 ∧ zero = #[]) ∨ (len * sz ≠ 0 ∧ ∃ z, (P.info? et).bind (·.zero) = some z ∧ zero = z.cells) := by
          by_cases h0 : len * sz = 0
          · exact ⟨#[], .inl ⟨h0, rfl⟩⟩
          · obtain ⟨z, hz⟩ := Option.isSome_iff_exists.1 (hz.resolve_left h0)
            exact ⟨z.cells, .inr ⟨h0, z, hz, rfl⟩⟩
        obtain ⟨cells', h4, h5, _, h6⟩ := fillLits R h1 (fun i x A e1 e2 => by
            have : i < al.length := by rw [h2]; exact (List.getElem?_eq_some_iff.1 e1).1
            exact ⟨al[i], h3 i x al[i] A e1 (by simp [this]) e2⟩) hqs hall 0 ((Array.range (len * sz)).map (zero[· % zero.size]!)) (by simp [hlen])
        have hql : qs.length = len := (purs_length hqs).trans (h1.trans hlen)
        simp only [Array.size_map, Array.size_range] at h5
        have hel : Elems g.imm w sz qs cells' := ⟨fun i p hp => by
            have := List.all_eq_true.1 hall p (List.mem_of_getElem? hp); exact Nat.eq_of_beq_eq_true this, fun i p j c e1 e2 => by have := h6 i p j c e1 e2; rwa [Nat.zero_add] at this⟩
        obtain ⟨g', R', S'⟩ := R.newOwn hD (allU_tooks al) (u := u) (sz := sz) (l := qs) (c := cells') (elem := et) (cap := len) (by omega) (by omega) hel
        refine ⟨g', _, _, .inl ?_, R', S'⟩
        have e1 : (ps.map fun (i, x) => (i, a.eval x)).toList = (l.zipIdx 0).map fun (x, i) => (i, a.eval x) := by
          simp only [Array.toList_map, hps, List.map_map]; rfl
        simp only [execOp, ho, Sem.run_bind]
        rw [run_buildSlice ht hsz hlim hzr (by rw [e1]; exact h4)]
        simp [hql]
      · cases he

end
end Go.Vs

namespace Go.Vs
open Go
set_option linter.unusedSimpArgs false
set_option linter.unusedVariables false

section
variable {P : Program} {gl : Globs} {g : Gh} {d N : Nat} {s : St} {a : Act} {w : World} {o : Oper} {draw : Bool} {e : Eff} {C : Callee}

theorem boxOf (R : Rel gl g d s a.tmps w) {r : Ref} {B : Box} (h : getB s.bx s.stk r = some B) : RBox g w (r.lv d) r.nm B := by
  cases r with
  | loc n =>
    have h : s.bx n = some B := h
    exact R.boxes n B (by simp [mergeB, R.excl n B h, h])
  | glb l n => exact R.outer l n B h

theorem boxOfN (R : Rel gl g d s a.tmps w) {r : Ref} {B : Box} (h : getN s.bx s.nb s.stk r = some B) : RBox g w (r.lv d) r.nm B := by
  cases r with
  | loc n =>
    refine R.boxes n B ?_
    simp only [getN] at h
    simp only [mergeB]
    exact h
  | glb l n => exact R.outer l n B h

theorem glob_lv (l d : Nat) (r : Ref) : (r.glob l).lv d = r.lv l ∧ (r.glob l).nm = r.nm := by cases r <;> exact ⟨rfl, rfl⟩

theorem glob_at {l d : Nat} (hld : l < d) {r : Ref} {b : Nat} (h : g.at l r b) : g.at d (r.glob l) b := by
  cases r with
  | loc n => exact ⟨h.1, hld⟩
  | glb k n => exact ⟨h.1, Nat.lt_trans h.2 hld⟩

theorem RS.glob {l d : Nat} (hld : l < d) {A : AV} {v : Value} (h : RS g w l A v) : RS g w d (A.globS l) v := by
  cases A <;> simp only [AV.globS] <;> first | exact h | skip
  case ptr r off => obtain ⟨b, h1, h2⟩ := h; exact ⟨b, glob_at hld h1, h2⟩

theorem RV1.glob {l d : Nat} (hld : l < d) {κ : Key} {A : AV} {v : Value} (h : RV1 g w l κ A v) : RV1 g w d κ (A.globV l) v := by
  cases A <;> simp only [AV.globV, AV.globS] <;> first | exact h | skip
  case ptr r off => obtain ⟨b, h1, h2⟩ := h; exact ⟨b, glob_at hld h1, h2⟩
  case asl r n => obtain ⟨b, h1, h2⟩ := h; exact ⟨b, glob_at hld h1, h2⟩
  case aptr r sz i off => obtain ⟨b, h1, h2⟩ := h; exact ⟨b, glob_at hld h1, h2⟩
  case fn f caps =>
    obtain ⟨vs, h1, h2, h3⟩ := h
    refine ⟨vs, h1, by simpa using h2, fun i c hc => ?_⟩
    simp only [List.getElem?_map, Option.map_eq_some_iff] at hc
    obtain ⟨c', hc', rfl⟩ := hc
    exact (h3 i c' hc').glob hld

theorem outOf_rc {r : Ref} (hlv : r.below d) {A : AV} {v : Value} (h : RC g w (r.lv d) A v) : RC g w d (outOf r A) v := by
  cases r with
  | loc n => exact h
  | glb l n => exact fun κ => (h κ).glob hlv

theorem run_load {t : TypeId} {x : Operand} {b q : Nat} (ho : o.op = .load t x) (hx : a.eval x = .pointer (some (at' b q))) : execOp a.eval o = (do pure (.value (← loadVar t (at' b q)))) := by
  simp [execOp, ho, hx, Instr.loadAt, Instr.sureAddr]

theorem ok_load1 (R : Rel gl g d s a.tmps w) (hD : ∀ m, o.dst = some m → m < a.tmps.size) {t : TypeId} {x : Operand} {ax : Opd}
    (ho : o.op = .load t x) (hag : ∀ w, (isAgg t).run P w = .ok false w) (hx : okOpd N x ax = true)
    (he : eff gl C o.dst s.env s.bx s.nb s.stk (.load1 ax) = some e) : OpOK P gl g d s a w o draw e := by
  simp only [eff] at he
  obtain ⟨m, hX⟩ := pk_ok R hx
  split at he
  · rename_i r off h1
    rw [h1] at hX
    obtain ⟨b, ⟨h2, hlv⟩, h3⟩ := hX
    split at he
    · rename_i cs hb
      split at he
      · rename_i c hc
        split at he
        · cases he
        · rename_i A hA
          simp only [Option.some.injEq] at he; subst he
          obtain ⟨b', c', el, k1, k2, k3, k4, k5⟩ := boxOf R hb
          rw [h2] at k1; simp only [Option.some.injEq] at k1; subst k1
          obtain ⟨_, k6⟩ := k5 off c hc
          have hlt : off < c'.size := by rw [k4]; exact lt_of_get hc
          refine OpOK.same R hD (v := c'.getD off undef) ?_ (outOf_rc hlv (copy_ok1 k6 hA))
          rw [run_load ho h3]
          simp only [Sem.run_bind, run_loadVar1 (hag w) (by rw [cell_of_heap k3]; exact getD_of_lt hlt), Result.andThen_ok, Sem.run_pure]
      · cases he
    · cases he
  · rename_i cs h1
    rw [h1] at hX
    obtain ⟨b, q, h3, h4⟩ := hX
    split at he
    · rename_i c r
      simp only [Option.some.injEq] at he; subst he
      obtain ⟨_, z, k1, k2, _⟩ := h4 0 c rfl
      rw [Nat.add_zero] at k2
      refine OpOK.same R hD (v := z) ?_ k1.rc
      rw [run_load ho h3]
      simp only [Sem.run_bind, run_loadVar1 (hag w) k2, Result.andThen_ok, Sem.run_pure]
    · cases he
  · rename_i r sz i off h1
    rw [h1] at hX
    obtain ⟨b, ⟨h2, hlv⟩, h3⟩ := hX
    split at he
    · rename_i fz sz' l hb
      split at he
      · rename_i hsz
        subst hsz
        split at he
        · rename_i y hy
          split at he
          · rename_i c hc
            simp only [Option.some.injEq] at he; subst he
            obtain ⟨b', c', el, k1, k3, k4, k5, _, _⟩ := boxOf R hb
            rw [h2] at k1; simp only [Option.some.injEq] at k1; subst k1
            obtain ⟨_, k6⟩ := k5.2 i y off c hy hc
            have hlt : i * sz + off < c'.size := by
              have := mul_add_lt (lt_of_get hy) (show off < sz by have := k5.1 i y hy; have := lt_of_get hc; omega)
              omega
            refine OpOK.same R hD (v := c'.getD (i * sz + off) undef) ?_ k6.rc
            rw [run_load ho h3]
            simp only [Sem.run_bind, run_loadVar1 (hag w) (by rw [cell_of_heap k3]; exact getD_of_lt hlt), Result.andThen_ok, Sem.run_pure]
          · cases he
        · cases he
      · cases he
    · cases he
  · cases he

theorem purs_get : ∀ {vs ps : List AV}, purs vs = some ps → ∀ (i : Nat) (p : AV), ps[i]? = some p → ∃ v, vs[i]? = some v ∧ v.pur = some p
  | [], ps, h, i, p, hp => by simp [purs] at h; subst h; simp at hp
  | v :: vs, ps, h, i, p, hp => by
    simp only [purs] at h
    split at h
    · cases h
    · rename_i q hq
      split at h
      · cases h
      · rename_i qs hqs
        simp only [Option.some.injEq] at h; subst h
        cases i with
        | zero => simp at hp; subst hp; exact ⟨v, rfl, hq⟩
        | succ i => simpa using purs_get hqs i p (by simpa using hp)

theorem pur_one {v p : AV} (h : v.pur = some p) (ho : v = .undef ∨ v.one = true) : p.one = true := by
  rcases ho with rfl | ho
  · simp [AV.pur] at h
  · cases v <;> simp only [AV.pur, Option.some.injEq, reduceCtorEq] at h
    case own u sz l => cases u <;> simp [AV.pur] at h; subst h; rfl
    case fn f caps => cases caps <;> simp [AV.pur] at h; subst h; rfl
    case agg => simp [AV.one] at ho
    all_goals (subst h; rfl)

theorem range_row {imm : Nat → Nat} {ps : List AV} {f : Nat → Value} (h : ∀ (j : Nat) (p : AV), ps[j]? = some p → p.one = true ∧ RP imm w p (f j)) : Row imm w ps ((List.range ps.length).map f).toArray := by
  refine ⟨by simp, fun i c hc => ?_⟩
  have hi := lt_of_get hc
  have : (((List.range ps.length).map f).toArray).getD i undef = f i := by simp [Array.getD, hi]
  rw [this]; exact h i c hc

theorem ok_loadA (R : Rel gl g d s a.tmps w) (hD : ∀ m, o.dst = some m → m < a.tmps.size) {t : TypeId} {n : Nat} {x : Operand} {ax : Opd}
    (ho : o.op = .load t x) (hag : ∀ w, (isAgg t).run P w = .ok true w) (hsz : (P.info? t).map (·.size) = some n) (hx : okOpd N x ax = true)
    (he : eff gl C o.dst s.env s.bx s.nb s.stk (.loadA n ax) = some e) : OpOK P gl g d s a w o draw e := by
  simp only [eff] at he
  obtain ⟨m, hX⟩ := pk_ok R hx
  have fin : ∀ {b q : Nat} {ps : List AV} {f : Nat → Value}, a.eval x = .pointer (some (at' b q)) → ps.length = n → (∀ (j : Nat) (p : AV), ps[j]? = some p → p.one = true ∧ RP g.imm w p (f j)) →
      (∀ j, j < n → w.cell? (at' b (q + j)) = some (f j)) → OpOK P gl g d s a w o draw { wr := wrD o.dst (.agg ps) } := by
    intro b q ps f h3 hl hp hc
    refine OpOK.same R hD (v := .agg ((List.range n).map f).toArray) ?_ ?_
    · rw [run_load ho h3]
      simp only [Sem.run_bind, run_loadVarA (hag w) hsz hc, Result.andThen_ok, Sem.run_pure]
    · rw [← hl]; exact (range_row hp).agg.rc
  split at he
  · rename_i r off h1
    rw [h1] at hX
    obtain ⟨b, ⟨h2, hlv⟩, h3⟩ := hX
    split at he
    · rename_i cs hb
      split at he
      · rename_i hn
        split at he
        · cases he
        · rename_i ps hps
          simp only [Option.some.injEq] at he; subst he
          obtain ⟨b', c', el, k1, k2, k3, k4, k5⟩ := boxOf R hb
          rw [h2] at k1; simp only [Option.some.injEq] at k1; subst k1
          refine fin (f := fun j => c'.getD (off + j) undef) h3 (by rw [purs_length hps]; simp; omega) (fun j p hp => ?_) (fun j hj => by rw [cell_of_heap k3]; exact getD_of_lt (by omega))
          obtain ⟨v, e1, e2⟩ := purs_get hps j p hp
          obtain ⟨_, e3⟩ := drop_take_get e1
          obtain ⟨e4, e5⟩ := k5 _ v e3
          exact ⟨pur_one e2 e4, e5.purs e2⟩
      · cases he
    · cases he
  · rename_i cs h1
    rw [h1] at hX
    obtain ⟨b, q, h3, h4⟩ := hX
    split at he
    · rename_i hn
      simp only [Option.some.injEq] at he; subst he
      have hcell : ∀ j, j < n → ∃ z, w.cell? (at' b (q + j)) = some z ∧ ∀ p, cs[j]? = some p → p.one = true ∧ RP g.imm w p z := fun j hj => by
        have hj' : j < cs.length := by omega
        obtain ⟨k1, z, k2, k3, _⟩ := h4 j cs[j] (by simp [hj'])
        exact ⟨z, k3, fun p hp => by simp [hj'] at hp; subst hp; exact ⟨k1, k2⟩⟩
      refine fin (f := fun j => (w.cell? (at' b (q + j))).getD undef) h3 (by simp; omega) (fun j p hp => ?_) (fun j hj => ?_)
      · rw [List.getElem?_take] at hp
        split at hp
        · rename_i hj
          obtain ⟨z, k1, k2⟩ := hcell j hj
          rw [k1]; exact k2 p hp
        · cases hp
      · obtain ⟨z, k1, _⟩ := hcell j hj
        simp [k1]
    · cases he
  · rename_i r sz i off h1
    rw [h1] at hX
    obtain ⟨b, ⟨h2, hlv⟩, h3⟩ := hX
    split at he
    · rename_i fz sz' l hb
      split at he
      · rename_i hsz'
        subst hsz'
        split at he
        · rename_i y hy
          split at he
          · rename_i hn
            simp only [Option.some.injEq] at he; subst he
            obtain ⟨b', c', el, k1, k3, k4, k5, _, _⟩ := boxOf R hb
            rw [h2] at k1; simp only [Option.some.injEq] at k1; subst k1
            refine fin (f := fun j => c'.getD (i * sz + (off + j)) undef) h3 (by simp; omega) (fun j p hp => ?_) (fun j hj => ?_)
            · obtain ⟨_, e1⟩ := drop_take_get hp
              exact k5.2 i y _ p hy e1
            · rw [Nat.add_assoc, cell_of_heap k3]
              have := mul_add_lt (lt_of_get hy) (show off + j < sz by have := k5.1 i y hy; omega)
              exact getD_of_lt (by omega)
          · cases he
        · cases he
      · cases he
    · cases he
  · cases he
end
end Go.Vs

namespace Go.Vs
open Go
set_option linter.unusedSimpArgs false
set_option linter.unusedVariables false

theorem stkSet_length : ∀ (k : List Boxes) (l : Nat) (b : Boxes), (stkSet k l b).length = k.length
  | [], _, _ => rfl
  | x :: k, l, b => by
    simp only [stkSet]
    cases h : Nat.beq l k.length <;> simp [stkSet_length k l b]

theorem stkGet_lt : ∀ {k : List Boxes} {l n : Nat} {b : Box}, stkGet k l n = some b → l < k.length
  | [], l, n, b, h => by simp [stkGet] at h
  | x :: k, l, n, b, h => by
    simp only [stkGet] at h
    cases hl : Nat.beq l k.length
    · rw [hl] at h; have := stkGet_lt h; simp; omega
    · rw [Nat.beq_eq] at hl; subst hl; simp

theorem stkGet_set : ∀ {k : List Boxes} {l : Nat} (hl : l < k.length) (b : Boxes) (l' : Nat), stkGet (stkSet k l b) l' = if l' = l then b else stkGet k l'
  | [], l, hl, b, l' => by simp at hl
  | x :: k, l, hl, b, l' => by
    simp only [stkSet]
    cases h : Nat.beq l k.length
    · have hne : l ≠ k.length := fun e => by rw [← Nat.beq_eq] at e; rw [e] at h; cases h
      simp only [cond_false, stkGet, stkSet_length]
      cases h' : Nat.beq l' k.length
      · simp only [cond_false]
        exact stkGet_set (by simp at hl; omega) b l'
      · rw [Nat.beq_eq] at h'; subst h'
        simp only [cond_true]
        rw [if_neg (fun e => hne e.symm)]
    · rw [Nat.beq_eq] at h; subst h
      simp only [cond_true, stkGet]
      cases h' : Nat.beq l' k.length
      · have hne : l' ≠ k.length := fun e => by rw [← Nat.beq_eq] at e; rw [e] at h'; cases h'
        simp [hne]
      · rw [Nat.beq_eq] at h'; simp [h']

section
variable {P : Program} {gl : Globs} {g : Gh} {d N : Nat} {s : St} {a : Act} {w : World} {o : Oper} {draw : Bool} {e : Eff} {C : Callee} {tmps : Array Value}

/-- A box gets new contents. -/
theorem Rel.putBox (R : Rel gl g d s tmps w) {r : Ref} {B B' : Box} {b : Nat} {c c' : Array Value} {elem : TypeId} (hget : getN s.bx s.nb s.stk r = some B) (hloc : g.loc (r.lv d) r.nm = some b)
    (hold : w.heap[b]? = some (.cells c elem (0, 0))) (himm : g.imm b = 0)
    (hnew : ∀ w', Ext g w g w' → w'.heap[b]? = some (.cells c' elem (0, 0)) → (∀ i, Keep g w g w' (.cell (r.lv d) r.nm i)) → RBox g w' (r.lv d) r.nm B') (draw : Bool) :
    Rel gl g d (applyMem draw s (setN s.bx s.nb s.stk r B')) tmps (putB w b (.cells c' elem (0, 0))) ∧ Step g w g (putB w b (.cells c' elem (0, 0))) := by
  have hob := (R.locs _ _ _ hloc).1
  have hx : Ext g w g (putB w b (.cells c' elem (0, 0))) := ⟨fun _ => Nat.le_refl _, fun b' q hq => cell_of_heap_eq (putB_ne (by rintro rfl; omega)) _⟩
  have hk : ∀ κ, κ ≠ .box (r.lv d) r.nm → Keep g w g (putB w b (.cells c' elem (0, 0))) κ := fun κ hne b' hb' => ⟨hb', rfl, putB_ne (by rintro rfl; rw [hob] at hb'; simp only [Option.some.injEq] at hb'; exact hne hb'.symm)⟩
  have hB := hnew _ hx (putB_same hold) (fun i => hk _ (by simp))
  refine ⟨?_, hx, by rw [putB_size]; exact Nat.le_refl _, fun b' hb' hn => ⟨hn, rfl, putB_ne (by rintro rfl; rw [hob] at hn; cases hn)⟩, rfl, rfl, rfl, fun _ _ _ h => h⟩
  have hsz := putB_size w b (.cells c' elem (0, 0))
  cases r with
  | loc n =>
    have hmerge : ∀ k, mergeB (applyMem draw s (setN s.bx s.nb s.stk (.loc n) B')).bx (applyMem draw s (setN s.bx s.nb s.stk (.loc n) B')).nb k = if k = n then some B' else mergeB s.bx s.nb k := by
      intro k
      simp only [getN] at hget
      simp only [setN]
      cases hn : s.nb n with
      | some B0 =>
        simp only [applyMem, mergeB]
        by_cases hkn : k = n
        · subst hkn; simp [upd_same]
        · simp [upd_ne _ _ hkn, hkn]
      | none =>
        simp only [applyMem, mergeB]
        by_cases hkn : k = n
        · subst hkn; simp [upd_same, hn]
        · simp [upd_ne _ _ hkn, hkn]
    have hstk : (applyMem draw s (setN s.bx s.nb s.stk (.loc n) B')).stk = s.stk := by simp only [setN]; split <;> rfl
    refine R.on hx (fun _ _ _ h => h) (fun k => .inl ⟨by rw [applyMem_env], rfl, fun c => hk _ (by simp)⟩) (fun k B2 h => ?_) (fun k h => ?_) (fun k B2 h => ?_) (fun l k B2 h => ?_) (fun l k hl' h => by rw [hstk] at h; exact R.deadO l k hl' h) (by rw [hstk]; exact R.lvl)
      (fun b' hb' => R.fresh b' (by omega)) R.locs
    · rw [hmerge] at h
      by_cases hkn : k = n
      · rw [if_pos hkn] at h; cases h; subst hkn; exact .inr hB
      · rw [if_neg hkn] at h
        exact .inl ⟨h, hk _ (by intro e; simp only [Key.box.injEq] at e; exact hkn e.2), fun i => hk _ (by simp)⟩
    · rw [hmerge] at h
      by_cases hkn : k = n
      · rw [if_pos hkn] at h; cases h
      · rw [if_neg hkn] at h; exact R.dead k h
    · simp only [getN] at hget
      cases hn : s.nb n with
      | some B0 =>
        have e0 : applyMem draw s (setN s.bx s.nb s.stk (.loc n) B') = { s with bx := s.bx, nb := upd s.nb n (some B'), stk := s.stk } := by simp only [setN, hn]; rfl
        rw [e0] at h ⊢
        by_cases hkn : k = n
        · subst hkn; have := R.excl k B2 h; rw [hn] at this; cases this
        · show upd s.nb n _ k = none; rw [upd_ne _ _ hkn]; exact R.excl k B2 h
      | none =>
        have e0 : applyMem draw s (setN s.bx s.nb s.stk (.loc n) B') = { s with bx := upd s.bx n (some B'), nb := s.nb, stk := s.stk } := by simp only [setN, hn]; rfl
        rw [e0] at h ⊢
        by_cases hkn : k = n
        · subst hkn; exact hn
        · have h : upd s.bx n (some B') k = some B2 := h
          rw [upd_ne _ _ hkn] at h; exact R.excl k B2 h
    · rw [hstk] at h
      have hl : l ≠ d := by have := stkGet_lt h; rw [R.lvl] at this; omega
      exact .inl ⟨h, hk _ (by simp [Ref.lv, hl]), fun i => hk _ (by simp)⟩
  | glb l n =>
    have hget' : stkGet s.stk l n = some B := hget
    have hlt := stkGet_lt hget'
    have e0 : applyMem draw s (setN s.bx s.nb s.stk (.glb l n) B') = { s with bx := s.bx, nb := s.nb, stk := stkSet s.stk l (upd (stkGet s.stk l) n (some B')) } := rfl
    rw [e0]
    have hld : l ≠ d := by rw [R.lvl] at hlt; omega
    refine R.on hx (fun _ _ _ h => h) (fun k => .inl ⟨rfl, rfl, fun c => hk _ (by simp)⟩) (fun k B2 h => .inl ⟨h, hk _ (by simp [Ref.lv]; intro e; exact absurd e.symm hld), fun i => hk _ (by simp)⟩) R.dead R.excl (fun l' k B2 h => ?_)
      (fun l' k hl' h => ?_) (by rw [stkSet_length]; exact R.lvl) (fun b' hb' => R.fresh b' (by omega)) R.locs
    rw [stkGet_set hlt] at h
    by_cases hl : l' = l
    · rw [if_pos hl] at h
      subst hl
      by_cases hkn : k = n
      · subst hkn; rw [upd_same] at h; cases h; exact .inr hB
      · rw [upd_ne _ _ hkn] at h; exact .inl ⟨h, hk _ (by simp [Ref.lv, Ref.nm, hkn]), fun i => hk _ (by simp)⟩
    · rw [if_neg hl] at h
      exact .inl ⟨h, hk _ (by simp [Ref.lv, hl]), fun i => hk _ (by simp)⟩
    · have h : stkGet (stkSet s.stk l (upd (stkGet s.stk l) n (some B'))) l' k = none := h
      rw [stkGet_set hlt] at h
      by_cases hl : l' = l
      · rw [if_pos hl] at h
        subst hl
        by_cases hkn : k = n
        · subst hkn; rw [upd_same] at h; cases h
        · rw [upd_ne _ _ hkn] at h; exact R.deadO _ _ hl' h
      · rw [if_neg hl] at h; exact R.deadO _ _ hl' h

theorem RV1.lvl {l l' : Nat} {κ : Key} {A : AV} {v : Value} (hp : plainV A = true) (h : RV1 g w l κ A v) : RV1 g w l' κ A v := by
  cases A <;> simp only [plainV, Bool.false_eq_true] at hp <;> first | exact h | skip
  case fn f caps =>
    cases caps with
    | nil => obtain ⟨vs, h1, h2, h3⟩ := h; exact ⟨vs, h1, h2, by simp⟩
    | cons => simp [plainV] at hp

theorem rv1_one {κ : Key} {A : AV} {v : Value} (h : RV1 g w d κ A v) (ho : A.one = true) : v.oneCell' = true := by
  cases A <;> simp only [AV.one, Bool.false_eq_true] at ho
  case own => obtain ⟨_, _, rfl, _⟩ := h; rfl
  case onil => obtain ⟨_, rfl⟩ := h; rfl
  case ptr => obtain ⟨_, _, rfl⟩ := h; rfl
  case asl => obtain ⟨_, _, _, _, rfl⟩ := h; rfl
  case aptr => obtain ⟨_, _, rfl⟩ := h; rfl
  case eptr => obtain ⟨_, _, rfl, _⟩ := h; rfl
  case fn => obtain ⟨_, rfl, _⟩ := h; rfl
  all_goals (simp only [RV1] at h; exact rp_one h rfl)

theorem cells_one {v : Value} (h : v.oneCell' = true) : v.cells = #[v] := by cases v <;> first | rfl | simp [Value.oneCell'] at h

theorem setAll_one (c : Array Value) (q : Nat) (v : Value) : setAll c q #[v] = c.setIfInBounds q v := by
  simp [setAll]

theorem run_storeOp {t : TypeId} {x y : Operand} {b q n : Nat} {el : TypeId} {c : Array Value} (ho : o.op = .store t x y) (hx : a.eval x = .pointer (some (at' b q)))
    (hsz : (P.info? t).map (·.size) = some n) (hn : (a.eval y).cells.size = n) (h : w.heap[b]? = some (.cells c el (0, 0))) (hq : q + n ≤ c.size) (hv : ∀ z ∈ (a.eval y).cells, z.oneCell' = true) :
    (execOp a.eval o).run P w = .ok .skip (putB w b (.cells (setAll c q (a.eval y).cells) el (0, 0))) := by
  simp [execOp, ho, hx, Instr.storeAt, Instr.sureAddr, run_storeVar hsz hn h hq hv]

theorem float_env (R : Rel gl g d s a.tmps w) {T : List (Nat × AV)} (draw : Bool) (m : Mem) : applyEff draw s { wr := T ++ wrD none .undef, mem := m } = applyMem draw { s with env := wrs s.env T } m := by
  simp [applyEff, wrD]

theorem ok_store1 (R : Rel gl g d s a.tmps w) (hdst : o.dst = none) {t : TypeId} {x y : Operand} {ax ay : Opd}
    (ho : o.op = .store t x y) (hsz : (P.info? t).map (·.size) = some 1) (hx : okOpd N x ax = true) (hy : okOpd N y ay = true)
    (he : eff gl C o.dst s.env s.bx s.nb s.stk (.store1 ax ay) = some e) : OpOK P gl g d s a w o draw e := by
  simp only [eff] at he
  obtain ⟨m, hX⟩ := pk_ok R hx
  split at he
  · rename_i r off A h1 hA
    rw [h1] at hX
    obtain ⟨b, ⟨h2, hlv⟩, h3⟩ := hX
    split at he
    · rename_i cs hb
      split at he
      · rename_i hc
        obtain ⟨hoff, hst⟩ := hc
        simp only [Option.some.injEq] at he; subst he
        have hone : A.one = true := by cases r <;> simp [storable] at hst; exact hst; exact hst.1
        have ht : ∀ vs, A ≠ .tup vs := by rintro vs rfl; simp [AV.one] at hone
        obtain ⟨g1, R1, S1, hv, hloc, himm⟩ := R.float (rd_ok R hy hA) (.cell (r.lv d) r.nm off) (by simp) ht (allU_took ay) (fun p hp => hp)
        have hv1 := rv1_one hv hone
        obtain ⟨b', c', el, k1, k2, k3, k4, k5⟩ := boxOfN (a := ⟨a.tmps, a.defers⟩) R1 hb
        rw [hloc, h2] at k1; simp only [Option.some.injEq] at k1; subst k1
        obtain ⟨R2, S2⟩ := R1.putBox (B' := .cells (cs.set off A)) (c' := setAll c' off (a.eval y).cells) hb (by rw [hloc]; exact h2) k3 k2 (fun w' hx hh hk => by
          refine ⟨b, _, el, by rw [hloc]; exact h2, k2, hh, ?_, fun i z hz => ?_⟩
          · rw [setAll_size (by rw [cells_one hv1]; simp; omega)]; simpa using k4
          · rw [cells_one hv1, setAll_one]
            by_cases hi : i = off
            · subst hi
              rw [List.getElem?_set_self hoff] at hz
              simp only [Option.some.injEq] at hz; subst hz
              rw [getD_set_same (by omega)]
              refine ⟨.inr hone, ?_⟩
              have hv' : RV1 g1 w (r.lv d) (.cell (r.lv d) r.nm i) A (a.eval y) := by
                cases r with
                | loc n => exact hv
                | glb l n => simp only [storable, Bool.and_eq_true] at hst; exact hv.lvl hst.2
              exact hv'.keep hx (hk i) (fun _ _ _ h => h)
            · rw [List.getElem?_set_ne (fun e => hi e.symm)] at hz
              rw [getD_set_ne' hi]
              obtain ⟨e1, e2⟩ := k5 i z hz
              exact ⟨e1, e2.keep hx (hk i) (fun _ _ _ h => h)⟩) draw
        refine ⟨g1, undef, _, .inr ⟨run_storeOp ho h3 hsz (by rw [cells_one hv1]; rfl) k3 (by omega) (by rw [cells_one hv1]; simpa using hv1), rfl⟩, ?_, S1.trans S2⟩
        rw [hdst, float_env R]; exact R2
      · cases he
    · cases he
  · rename_i r sz i off A h1 hA
    rw [h1] at hX
    obtain ⟨b, ⟨h2, hlv⟩, h3⟩ := hX
    split at he
    · rename_i sz' l p hb hp
      split at he
      · rename_i hc
        obtain ⟨rfl, hone⟩ := hc
        have hpr := (rd_ok R hy hA).pur hp
        have hv1 := rp_one hpr hone
        have ht : ∀ vs, A ≠ .tup vs := by rintro vs rfl; simp [AV.pur] at hp
        obtain ⟨g1, R1, S1, hv, hloc, himm⟩ := R.float (rd_ok R hy hA) (.ret 0) (by simp) ht (allU_took ay) (fun p hp => hp)
        have hpr1 := hpr.ext S1.ext
        obtain ⟨b', c', el, k1, k3, k4, k5, k6, k7⟩ := boxOfN (a := ⟨a.tmps, a.defers⟩) R1 hb
        rw [hloc, h2] at k1; simp only [Option.some.injEq] at k1; subst k1
        have k7 := k7 rfl
        have gen : ∀ (y' : AV) (q : Nat), l[i]? = some y' → q < y'.cellsA.length → ∀ (new : AV), new.cellsA = y'.cellsA.set q p → off = q →
            OpOK P gl g d s a w o draw { wr := ay.took ++ wrD o.dst .undef, mem := setN s.bx s.nb s.stk r (.arr false sz (l.set i new)) } := by
          intro y' q hy' hq new hnew hoq
          subst hoq
          have hlen := k5.1 i y' hy'
          have hlt : i * sz + off < l.length * sz := mul_add_lt (lt_of_get hy') (by omega)
          obtain ⟨R2, S2⟩ := R1.putBox (B' := .arr false sz (l.set i new)) (c' := setAll c' (i * sz + off) (a.eval y).cells) hb (by rw [hloc]; exact h2) k3 k7 (fun w' hx hh hk => by
            refine ⟨b, _, el, by rw [hloc]; exact h2, hh, ?_, ⟨fun k z hz => ?_, fun k z j x hz hx' => ?_⟩, by simp, fun _ => k7⟩
            · rw [setAll_size (by rw [cells_one hv1]; simp; omega)]; simpa using k4
            · by_cases hki : k = i
              · subst hki
                rw [List.getElem?_set_self (lt_of_get hy')] at hz; simp only [Option.some.injEq] at hz; subst hz
                rw [hnew]; simpa using hlen
              · rw [List.getElem?_set_ne (fun e => hki e.symm)] at hz; exact k5.1 k z hz
            · rw [cells_one hv1, setAll_one]
              by_cases hki : k = i
              · subst hki
                rw [List.getElem?_set_self (lt_of_get hy')] at hz; simp only [Option.some.injEq] at hz; subst hz
                rw [hnew] at hx'
                by_cases hj : j = off
                · subst hj
                  rw [List.getElem?_set_self hq] at hx'; simp only [Option.some.injEq] at hx'; subst hx'
                  rw [getD_set_same (by omega)]
                  exact ⟨hone, hpr1.ext hx⟩
                · rw [List.getElem?_set_ne (fun e => hj e.symm)] at hx'
                  rw [getD_set_ne' (by omega)]
                  obtain ⟨e1, e2⟩ := k5.2 k y' j x hy' hx'
                  exact ⟨e1, e2.ext hx⟩
              · rw [List.getElem?_set_ne (fun e => hki e.symm)] at hz
                obtain ⟨e1, e2⟩ := k5.2 k z j x hz hx'
                have hjs : j < sz := by have := k5.1 k z hz; have := lt_of_get hx'; omega
                have hos : off < sz := by omega
                have hne : k * sz + j ≠ i * sz + off := by
                  intro h
                  rcases Nat.lt_or_gt_of_ne hki with hlt' | hlt'
                  · have : (k + 1) * sz ≤ i * sz := Nat.mul_le_mul_right _ hlt'
                    rw [Nat.add_mul] at this; omega
                  · have : (i + 1) * sz ≤ k * sz := Nat.mul_le_mul_right _ hlt'
                    rw [Nat.add_mul] at this; omega
                rw [getD_set_ne' hne]
                exact ⟨e1, e2.ext hx⟩) draw
          refine ⟨g1, undef, _, .inr ⟨run_storeOp ho h3 hsz (by rw [cells_one hv1]; rfl) k3 (by omega) (by rw [cells_one hv1]; simpa using hv1), rfl⟩, ?_, S1.trans S2⟩
          rw [hdst, float_env R]; exact R2
        split at he
        · rename_i cs hy'
          split at he
          · rename_i hoff
            simp only [Option.some.injEq] at he; subst he
            exact gen _ off hy' hoff _ rfl rfl
          · cases he
        · rename_i y' hna hy'
          split at he
          · rename_i hoff
            obtain ⟨rfl, rfl⟩ := hoff
            simp only [Option.some.injEq] at he; subst he
            have hcy : y'.cellsA = [y'] := by
              unfold AV.cellsA
              split
              · exact absurd rfl (hna _)
              · rfl
            refine gen y' 0 hy' (by rw [hcy]; simp) p ?_ rfl
            rw [hcy]
            cases p <;> first | rfl | simp [AV.one] at hone
          · cases he
        · cases he
      · cases he
    · cases he
  · cases he
end
end Go.Vs

namespace Go.Vs
open Go
set_option linter.unusedSimpArgs false
set_option linter.unusedVariables false

section
variable {P : Program} {gl : Globs} {g : Gh} {d N : Nat} {s : St} {a : Act} {w : World} {o : Oper} {draw : Bool} {e : Eff} {C : Callee} {tmps : Array Value}

theorem run_app_room {t ty et : TypeId} {i : TypeInfo} (ht : P.underlying t = some (.slice et)) (hi : P.info? et = some i) {base : Option Addr} {n cap m : Nat} {y : Option Addr} {c : Nat} {news : Array Value}
    (hx : (Builtin.firstCells i.size m (.slice y m c)).run P w = .ok news w) (hroom : n + m ≤ cap) {w' : World}
    (hst : (match base with | some a => storeCells (a.add (n * i.size)) news.toList | none => pure ()).run P w = .ok () w') :
    (Builtin.append_ #[t, t] ty #[.slice base n cap, .slice y m c]).run P w = .ok (.slice base (n + m) cap) w' := by
  cases base <;> simp [Builtin.append_, run_und ht, sizeOf, typeInfo, hi, Builtin.lenOf, hroom, hx] at hst ⊢ <;> simp [hst]

theorem run_app_grow {t ty et : TypeId} {i : TypeInfo} {z : Value} (ht : P.underlying t = some (.slice et)) (hi : P.info? et = some i) (hz : i.zero = some z) {base : Option Addr} {n cap m : Nat} {y : Option Addr} {c : Nat}
    {olds news : Array Value} (hs : (Builtin.firstCells i.size n (.slice base n cap)).run P w.drew = .ok olds w.drew) (hx : (Builtin.firstCells i.size m (.slice y m c)).run P w.drew = .ok news w.drew) (hg : cap < n + m)
    (h63 : ((n + m : Nat) : Int) ≤ 9223372036854775807) (hb : (n + m) * i.bytes ≤ 140737488355328) :
    (Builtin.append_ #[t, t] ty #[.slice base n cap, .slice y m c]).run P w =
      .ok (.slice (some (at' w.heap.size 0)) (n + m) (grownCap w (n + m) cap et)) (w.drew.alloc (.cells (olds ++ news ++ Builtin.zeroCells z.cells (grownCap w (n + m) cap et - (n + m))) et)) := by
  have hn : ¬ (n + m ≤ cap) := by omega
  have h63' : ¬ (9223372036854775807 < ((n : Int) + (m : Int))) := by omega
  have hfit := growslice_fits hg hb
  have h48' : ¬ (281474976710656 < Builtin.nextslicecap (n + m) cap * i.bytes) := by omega
  simp [Builtin.append_, run_und ht, sizeOf, typeInfo, zeroValue, hi, hz, Builtin.lenOf, hn, h63', h48', Question.forced, hs, hx, newRow, grownCap, at']

/-- The cells of the elements of a slice, in a row. -/
def FirstOK (P : Program) (imm : Nat → Nat) (w : World) (sz : Nat) (l : List AV) (x : Value) : Prop :=
  ∃ c : Array Value, (∀ w', (∀ a, w'.cell? a = w.cell? a) → (Builtin.firstCells sz l.length x).run P w' = .ok c w') ∧ c.size = l.length * sz ∧
    ∀ (i : Nat) (p : AV) (j : Nat) (z : AV), l[i]? = some p → p.cellsA[j]? = some z → z.one = true ∧ RP imm w z (c.getD (i * sz + j) undef)

theorem div_eq {i j sz : Nat} (h : j < sz) : (i * sz + j) / sz = i ∧ (i * sz + j) % sz = j := by
  have hp : 0 < sz := by omega
  constructor
  · rw [Nat.mul_comm, Nat.mul_add_div hp, Nat.div_eq_of_lt h, Nat.add_zero]
  · rw [Nat.mul_comm, Nat.mul_add_mod, Nat.mod_eq_of_lt h]

theorem first_ok {imm : Nat → Nat} {l : List AV} {x : Value} {sz : Nat} (h : RP imm w (.slice l) x) (hall : l.all (fun p => Nat.beq p.cellsA.length sz) = true) :
    FirstOK P imm w sz l x ∧ ∃ y c, x = .slice y l.length c := by
  obtain ⟨y, cap, h1, _, h3⟩ := rp_slice h
  refine ⟨?_, y, cap, h1⟩
  by_cases hl : l = []
  · subst hl
    refine ⟨#[], fun w' _ => ?_, by simp, by simp⟩
    rw [h1]
    cases y <;> simp [Builtin.firstCells, loadCells, loadCellsFrom]
  · obtain ⟨b, off, sz', f, h4, h5, h6, h7⟩ := h3 hl
    have hsz : sz' = sz := by
      obtain ⟨q, r, rfl⟩ := List.exists_cons_of_ne_nil hl
      have := h5 0 q rfl
      simp only [List.all_cons, Bool.and_eq_true, Nat.beq_eq] at hall
      exact this.symm.trans hall.1
    subst hsz
    by_cases hz : sz' = 0
    · subst hz
      refine ⟨#[], fun w' _ => ?_, by simp, fun i p j c e1 e2 => ?_⟩
      · rw [h1, h4]; simp [Builtin.firstCells, loadCells, loadCellsFrom]
      · have := h5 i p e1; have := lt_of_get e2; omega
    refine ⟨((List.range (l.length * sz')).map fun k => f (k / sz') (k % sz')).toArray, fun w' hw' => ?_, by simp, fun i p j c e1 e2 => ?_⟩
    · have hr := run_loadCells (P := P) w' (at' b off) (l.length * sz') (fun k => f (k / sz') (k % sz')) (fun k hk => by
        have hd : k / sz' < l.length := (Nat.div_lt_iff_lt_mul (by omega)).2 hk
        have hm : k % sz' < sz' := Nat.mod_lt _ (by omega)
        obtain ⟨k1, k2⟩ := h7 _ _ hd hm
        have e0 : off + k / sz' * sz' + k % sz' = off + k := by have := Nat.div_add_mod k sz'; rw [Nat.mul_comm] at this; omega
        rw [e0] at k1 k2
        rw [at'_add, hw']; exact k2)
      rw [h1, h4]
      simp only [Builtin.firstCells, hr]
    · have hj : j < sz' := by have := h5 i p e1; have := lt_of_get e2; omega
      have hlt := mul_add_lt (lt_of_get e1) hj
      have : (((List.range (l.length * sz')).map fun k => f (k / sz') (k % sz')).toArray).getD (i * sz' + j) undef = f i j := by
        simp [Array.getD, hlt, (div_eq (i := i) hj).1, (div_eq (i := i) hj).2]
      rw [this]; exact h6 i p j c e1 e2

theorem getD_append {x y : Array Value} (k : Nat) : (x ++ y).getD k undef = if k < x.size then x.getD k undef else y.getD (k - x.size) undef := by
  rw [Array.getD_eq_getD_getElem?, Array.getElem?_append]
  by_cases h : k < x.size
  · simp only [if_pos h, Array.getD_eq_getD_getElem?]
  · simp only [if_neg h, Array.getD_eq_getD_getElem?]

/-- Two rows behind one another are the elements of both. -/
theorem elems_append {imm : Nat → Nat} {sz : Nat} {l lx : List AV} {x y z : Array Value} (hl : ∀ (i : Nat) (p : AV), l[i]? = some p → p.cellsA.length = sz) (hlx : lx.all (fun p => Nat.beq p.cellsA.length sz) = true) (h1 : x.size = l.length * sz) (h2 : y.size = lx.length * sz)
    (hx : ∀ (i : Nat) (p : AV) (j : Nat) (c : AV), l[i]? = some p → p.cellsA[j]? = some c → c.one = true ∧ RP imm w c (x.getD (i * sz + j) undef))
    (hy : ∀ (i : Nat) (p : AV) (j : Nat) (c : AV), lx[i]? = some p → p.cellsA[j]? = some c → c.one = true ∧ RP imm w c (y.getD (i * sz + j) undef)) :
    Elems imm w sz (l ++ lx) (x ++ y ++ z) := by
  have hu : ∀ (i : Nat) (p : AV), (l ++ lx)[i]? = some p → p.cellsA.length = sz := fun i p hp => by
    rw [List.getElem?_append] at hp
    split at hp
    · exact hl i p hp
    · have := List.all_eq_true.1 hlx p (List.mem_of_getElem? hp); exact Nat.eq_of_beq_eq_true this
  refine ⟨hu, fun i p j c hp hc => ?_⟩
  have hj : j < sz := by have := hu i p hp; have := lt_of_get hc; omega
  have hi : i < (l ++ lx).length := lt_of_get hp
  have hlt := mul_add_lt hi hj
  rw [List.length_append, Nat.add_mul] at hlt
  rw [getD_append, if_pos (by rw [Array.size_append]; omega), getD_append]
  rw [List.getElem?_append] at hp
  split at hp
  · rename_i hil
    rw [if_pos (by have := mul_add_lt hil hj; omega)]
    exact hx i p j c hp hc
  · rename_i hil
    have e1 : i * sz + j - x.size = (i - l.length) * sz + j := by rw [h1, Nat.sub_mul]; have : l.length * sz ≤ i * sz := Nat.mul_le_mul_right _ (by omega); omega
    rw [if_neg (by have : l.length * sz ≤ i * sz := Nat.mul_le_mul_right _ (by omega); omega), e1]
    exact hy _ p j c hp hc

/-- A row of the frame's own that was changed in place, or is the same with more of it in use. -/
theorem Rel.stepOwn (R : Rel gl g d s tmps w) {D : Option Nat} (hD : ∀ m, D = some m → m < tmps.size) {T : List (Nat × AV)} (hT : AllU T) {n0 : Nat} (hn0 : n0 ∈ T.map (·.1))
    {b : Nat} (hob : g.ob b = some (.slot d n0 0)) {u : Bool} {sz : Nat} {l : List AV} {c' : Array Value} {elem : TypeId} {cap : Nat} {w' : World} (hsame : ∀ b', b' ≠ b → w'.heap[b']? = w.heap[b']?) (hsize : w'.heap.size = w.heap.size)
    (hnew : w'.heap[b]? = some (.cells c' elem (0, 0))) (hfix : ∀ q, q < g.imm b → w'.cell? (at' b q) = w.cell? (at' b q)) (himm : g.imm b ≤ (bif u then 0 else l.length * sz))
    (h1 : l.length ≤ cap) (h2 : cap * sz ≤ c'.size) (h3 : ∀ g', Ext g w g' w' → Elems g'.imm w' sz l c') (hos : w'.os = w.os) (htp : w'.tape = w.tape) (hout : w'.output = w.output) :
    ∃ g', Rel gl g' d { s with env := wrs s.env (T ++ wrD D (.own u sz l)) } (putT tmps D (.slice (some (at' b 0)) l.length cap)) w' ∧ Step g w g' w' := by
  let f : Key → Key := fun k => if k = .slot d n0 0 then .slot d (D.getD 0) 0 else k
  let g' : Gh := { imm := upd g.imm b (bif u then 0 else l.length * sz), ob := fun b => (g.ob b).map f, loc := g.loc }
  have hblt : b < w.heap.size := ob_lt R.fresh hob
  have hx : Ext g w g' w' := ⟨fun b' => by
      by_cases hb : b' = b
      · subst hb; show _ ≤ upd _ _ _ _; rw [upd_same]; exact himm
      · show _ ≤ upd _ _ _ _; rw [upd_ne _ _ hb]; exact Nat.le_refl _, fun b' q hq => by
      by_cases hb : b' = b
      · subst hb; exact hfix q hq
      · exact cell_of_heap_eq (hsame b' hb) q⟩
  have hk : ∀ κ, κ ≠ .slot d n0 0 → Keep g w g' w' κ := fun κ hne b' hb' => by
    have hb : b' ≠ b := by rintro rfl; rw [hob] at hb'; simp only [Option.some.injEq] at hb'; exact hne hb'.symm
    refine ⟨?_, upd_ne _ _ hb, hsame b' hb⟩
    show (g.ob b').map f = _
    rw [hb']; show some (f κ) = _; rw [show f κ = κ from if_neg hne]
  refine ⟨g', R.gen hx (fun _ _ _ h => h) hT rfl hD (fun m hm => ?_) (fun n c hn hn2 => hk _ ?_) (fun n b h => .inl ⟨h, hk _ (by simp), fun _ => hk _ (by simp)⟩) R.dead R.excl (fun l n b h => .inl ⟨h, hk _ (by simp), fun _ => hk _ (by simp)⟩) R.deadO R.lvl
    (fun b' hb' => ?_) (fun l n b h => ⟨by show (g.ob b).map f = _; rw [(R.locs l n b h).1]; rfl, (R.locs l n b h).2⟩), hx, by omega, fun b' hb' hn => ?_, hos, htp, hout, fun _ _ _ h => h⟩
  · refine ⟨b, cap, rfl, ?_, c', elem, hnew, h1, h2, h3 g' hx, ?_⟩
    · subst hm; show (g.ob b).map f = _; rw [hob]; simp [f]
    · show upd _ _ _ _ = _; rw [upd_same]
  · intro e
    simp only [Key.slot.injEq, true_and] at e
    exact hn2 (e.1 ▸ hn0)
  · have hne : b' ≠ b := by omega
    obtain ⟨e1, e2⟩ := R.fresh b' (by omega)
    exact ⟨by show (g.ob b').map f = _; rw [e1]; rfl, by show upd _ _ _ _ = _; rw [upd_ne _ _ hne]; exact e2⟩
  · have hne : b' ≠ b := by rintro rfl; rw [hob] at hn; cases hn
    exact ⟨by show (g.ob b').map f = _; rw [hn]; rfl, by show upd _ _ _ _ = _; rw [upd_ne _ _ hne], hsame b' hne⟩

/-- A draw turns nothing. -/
theorem Rel.drew (R : Rel gl g d s tmps w) : Rel gl g d s tmps w.drew ∧ Step g w g w.drew := by
  have hx : Ext g w g w.drew := ⟨fun _ => Nat.le_refl _, fun _ _ _ => rfl⟩
  have hk : ∀ κ, Keep g w g w.drew κ := fun κ b h => ⟨h, rfl, rfl⟩
  exact ⟨R.on hx (fun _ _ _ h => h) (fun n => .inl ⟨rfl, rfl, fun _ => hk _⟩) (fun n b h => .inl ⟨h, hk _, fun _ => hk _⟩) R.dead R.excl (fun l n b h => .inl ⟨h, hk _, fun _ => hk _⟩) R.deadO R.lvl R.fresh R.locs,
    hx, Nat.le_refl _, fun b hb hn => ⟨hn, rfl, rfl⟩, rfl, rfl, rfl, fun _ _ _ h => h⟩

theorem rd_own {env : Env} {ax : Opd} {u : Bool} {sz : Nat} {l : List AV} {v : Value} (h : RD g w d env ax (.own u sz l) v) : ∃ n, ax = .take n ∧ RV1 g w d (.slot d n 0) (.own u sz l) v := by
  rcases h with ⟨n, h1, _, h⟩ | ⟨_, h⟩
  · exact ⟨n, h1, h⟩
  · obtain ⟨b, cap, h1, h2, _⟩ := h (.ret 0)
    obtain ⟨b', cap', h1', h2', _⟩ := h (.ret 1)
    rw [h1] at h1'
    simp only [Value.slice.injEq, Option.some.injEq, at', Addr.mk.injEq] at h1'
    have : b = b' := h1'.1.1
    subst this
    rw [h2] at h2'
    simp at h2'

theorem own_first {b sz : Nat} {l : List AV} {c : Array Value} {elem : TypeId} (hh : w.heap[b]? = some (.cells c elem (0, 0))) (hc : l.length * sz ≤ c.size) {n cap : Nat} (hn : n = l.length) :
    ∃ olds : Array Value, (Builtin.firstCells sz n (.slice (some (at' b 0)) n cap)).run P w.drew = .ok olds w.drew ∧ olds.size = l.length * sz ∧ ∀ k, k < l.length * sz → olds.getD k undef = c.getD k undef := by
  subst hn
  refine ⟨((List.range (l.length * sz)).map fun k => c.getD k undef).toArray, ?_, by simp, fun k hk => by simp [Array.getD, hk]⟩
  have hr := run_loadCells (P := P) w.drew (at' b 0) (l.length * sz) (fun k => c.getD k undef) (fun k hk => by
    rw [at'_add, Nat.zero_add]
    show w.cell? (at' b k) = _
    rw [cell_of_heap hh]; exact getD_of_lt (by omega))
  simp only [Builtin.firstCells, hr]

theorem all_len {l : List AV} {sz : Nat} (h : l.all (fun p => Nat.beq p.cellsA.length sz) = true) : ∀ (i : Nat) (p : AV), l[i]? = some p → p.cellsA.length = sz := fun i p hp => by
  have := List.all_eq_true.1 h p (List.mem_of_getElem? hp); exact Nat.eq_of_beq_eq_true this

/-- Append: the result in a slot, as a row of the frame's own. -/
theorem app_own (R : Rel gl g d s a.tmps w) (hD : ∀ m, o.dst = some m → m < a.tmps.size) {t et : TypeId} {i : TypeInfo} {z : Value} (ht : P.underlying t = some (.slice et)) (hi : P.info? et = some i) (hz : i.zero = some z)
    (hzs : z.cells.size = i.size) (hby : i.bytes ≤ 1048576) {ax ay : Opd} {A B : AV} {x y : Value} (hA : RD g w d s.env ax A x) (hB : RD g w d s.env ay B y) {lx : List AV} (hp : B.pur = some (.slice lx))
    (hall : lx.all (fun p => Nat.beq p.cellsA.length i.size) = true) {u : Bool} {l : List AV} (hA' : (A = .onil ∧ l = [] ∧ lx ≠ []) ∨ A = .own u i.size l) (hcount : l.length + lx.length ≤ maxCount) :
    ∃ g' v w', (Builtin.append_ #[t, t] o.type #[x, y]).run P w = .ok v w' ∧ Rel gl g' d { s with env := wrs s.env ((ax.took ++ ay.took) ++ wrD o.dst (.own u i.size (l ++ lx))) } (putT a.tmps o.dst v) w' ∧ Step g w g' w' := by
  have hyr := hB.pur hp
  obtain ⟨⟨news, hf, hns, hnel⟩, y0, c0, hy⟩ := first_ok (P := P) hyr hall
  have hT : AllU (ax.took ++ ay.took) := (allU_took _).append (allU_took _)
  unfold maxCount at hcount
  have h63 : ((l.length + lx.length : Nat) : Int) ≤ 9223372036854775807 := by omega
  have hb : (l.length + lx.length) * i.bytes ≤ 140737488355328 := by
    have := Nat.mul_le_mul hcount hby
    omega
  rw [hy] at hf ⊢
  have hfd := hf w.drew (fun _ => rfl)
  obtain ⟨Rd, Sd⟩ := R.drew
  have grow : ∀ {base : Option Addr} {cap : Nat} {olds : Array Value}, x = .slice base l.length cap → (Builtin.firstCells i.size l.length (.slice base l.length cap)).run P w.drew = .ok olds w.drew → cap < l.length + lx.length →
      olds.size = l.length * i.size → (∀ (k : Nat) (p : AV), l[k]? = some p → p.cellsA.length = i.size) →
      (∀ (k : Nat) (p : AV) (j : Nat) (c : AV), l[k]? = some p → p.cellsA[j]? = some c → c.one = true ∧ RP g.imm w c (olds.getD (k * i.size + j) undef)) →
      ∃ g' v w', (Builtin.append_ #[t, t] o.type #[x, .slice y0 lx.length c0]).run P w = .ok v w' ∧ Rel gl g' d { s with env := wrs s.env ((ax.took ++ ay.took) ++ wrD o.dst (.own u i.size (l ++ lx))) } (putT a.tmps o.dst v) w' ∧ Step g w g' w' := by
    intro base cap olds hx hs hg hol hul hel
    have hr := run_app_grow (P := P) (ty := o.type) ht hi hz hs hfd hg h63 hb
    rw [hx]
    have hge := grownCap_ge w (l.length + lx.length) cap et
    have hE : Elems g.imm w.drew i.size (l ++ lx) (olds ++ news ++ Builtin.zeroCells z.cells (grownCap w (l.length + lx.length) cap et - (l.length + lx.length))) := by
      have h0 := elems_append (w := w) (imm := g.imm) (z := Builtin.zeroCells z.cells (grownCap w (l.length + lx.length) cap et - (l.length + lx.length))) hul hall hol hns hel hnel
      exact h0.ext (g := g) (w := w) (g' := g) (w' := w.drew) ⟨fun _ => Nat.le_refl _, fun _ _ _ => rfl⟩
    obtain ⟨g', R', S'⟩ := Rel.newOwn (a := a) Rd hD hT (u := u) (elem := et) (cap := grownCap w (l.length + lx.length) cap et) (by rw [List.length_append]; exact hge) (by
      rw [Array.size_append, Array.size_append, size_zeroCells, hzs, hol, hns, ← Nat.add_mul, ← Nat.add_mul]
      exact Nat.mul_le_mul_right _ (by omega)) hE
    refine ⟨g', _, _, hr, ?_, Sd.trans S'⟩
    rw [List.length_append] at R'
    exact R'
  rcases hA' with ⟨rfl, rfl, hne⟩ | rfl
  · have hxo : ∃ x0, x = .slice x0 0 0 := by
      rcases hA with ⟨n, _, _, h⟩ | ⟨_, h⟩
      · exact h
      · exact h (.ret 0)
    obtain ⟨x0, hx0⟩ := hxo
    have hl0 : 0 < lx.length := List.length_pos_iff.2 hne
    refine grow (base := x0) (cap := 0) (olds := #[]) hx0 ?_ (by simpa using hl0) (by simp) (by simp) (by simp)
    cases x0 <;> simp [Builtin.firstCells, loadCells, loadCellsFrom]
  · obtain ⟨n0, rfl, hown⟩ := rd_own hA
    obtain ⟨b, cap, hxv, hob, c, elem, k3, k4, k5, k6, k7⟩ := hown
    have hlc : l.length * i.size ≤ c.size := Nat.le_trans (Nat.mul_le_mul_right _ k4) k5
    by_cases hroom : l.length + lx.length ≤ cap
    · have hle : (l.length + lx.length) * i.size ≤ c.size := Nat.le_trans (Nat.mul_le_mul_right _ hroom) k5
      rw [Nat.add_mul] at hle
      have hset : l.length * i.size + news.size ≤ c.size := by omega
      have hone : ∀ v ∈ news.toList, v.oneCell' = true := fun v hv => by
        obtain ⟨k, hk⟩ := List.getElem?_of_mem hv
        have hklt : k < news.size := by have := (List.getElem?_eq_some_iff.1 hk).1; simpa using this
        have hsz0 : 0 < i.size := by
          rcases Nat.eq_zero_or_pos i.size with h | h
          · rw [hns, h] at hklt; simp at hklt
          · exact h
        have hd : k / i.size < lx.length := (Nat.div_lt_iff_lt_mul hsz0).2 (by omega)
        have hm : k % i.size < i.size := Nat.mod_lt _ hsz0
        have hp1 : lx[k / i.size]? = some lx[k / i.size] := by simp [hd]
        have hlen := all_len hall _ _ hp1
        have hc1 : (lx[k / i.size]).cellsA[k % i.size]? = some ((lx[k / i.size]).cellsA[k % i.size]'(by omega)) := by simp [hlen, hm]
        obtain ⟨e1, e2⟩ := hnel _ _ _ _ hp1 hc1
        have e0 : k / i.size * i.size + k % i.size = k := by have := Nat.div_add_mod k i.size; rw [Nat.mul_comm] at this; exact this
        rw [e0] at e2
        have e3 : news.getD k undef = v := by rw [Array.getElem?_toList] at hk; rw [Array.getD_eq_getD_getElem?, hk]; rfl
        rw [e3] at e2
        exact rp_one e2 e1
      have hst := run_storeCells (P := P) (q := l.length * i.size) news.toList 0 k3 (by simpa using hset) hone
      rw [← Array.toList_zipIdx, Array.foldl_toList] at hst
      have hst : (storeCells (at' b (l.length * i.size)) news.toList).run P w = .ok () (putB w b (.cells (setAll c (l.length * i.size) news) elem (0, 0))) := hst
      have hr := run_app_room (P := P) (ty := o.type) ht hi (base := some (at' b 0)) (n := l.length) (cap := cap) (m := lx.length) (y := y0) (c := c0) (hf w (fun _ => rfl)) hroom (w' := putB w b (.cells (setAll c (l.length * i.size) news) elem (0, 0))) (by
        simp only [at'_add, Nat.zero_add]; exact hst)
      rw [hxv]
      have hsz := setAll_size hset
      have himm : g.imm b ≤ (bif u then 0 else (l ++ lx).length * i.size) := by
        rw [k7, List.length_append]; cases u
        · simp only [cond_false]; exact Nat.mul_le_mul_right _ (by omega)
        · exact Nat.le_refl _
      obtain ⟨g', R', S'⟩ := R.stepOwn hD hT (n0 := n0) (by simp [Opd.took]) hob (u := u) (sz := i.size) (l := l ++ lx) (c' := setAll c (l.length * i.size) news) (elem := elem) (cap := cap)
        (fun b' hb => putB_ne hb) (putB_size _ _ _) (putB_same k3) (fun q hq => by
          rw [cell_of_heap (putB_same k3), cell_of_heap k3, setAll_get hset, if_neg]
          intro h
          rw [k7] at hq
          cases u <;> simp at hq
          omega) himm (by rw [List.length_append]; exact hroom) (by rw [hsz]; exact k5) (fun g' hx => by
          refine ⟨fun k p hp' => ?_, fun k p j q hp' hq => ?_⟩
          · rw [List.getElem?_append] at hp'
            split at hp'
            · exact k6.1 k p hp'
            · exact all_len hall _ p hp'
          · rw [setAll_getD hset]
            have hjs : j < i.size := by
              have : p.cellsA.length = i.size := by
                rw [List.getElem?_append] at hp'
                split at hp'
                · exact k6.1 k p hp'
                · exact all_len hall _ p hp'
              have := lt_of_get hq; omega
            rw [List.getElem?_append] at hp'
            split at hp'
            · rename_i hkl
              have := mul_add_lt hkl hjs
              rw [if_neg (by omega)]
              obtain ⟨e1, e2⟩ := k6.2 k p j q hp' hq
              exact ⟨e1, e2.ext hx⟩
            · rename_i hkl
              have hkx := lt_of_get hp'
              have h1 := mul_add_lt hkx hjs
              have h2 : l.length * i.size ≤ k * i.size := Nat.mul_le_mul_right _ (by omega)
              rw [Nat.sub_mul] at h1
              rw [if_pos (by omega)]
              obtain ⟨e1, e2⟩ := hnel _ p j q hp' hq
              rw [Nat.sub_mul] at e2
              have e0 : k * i.size - l.length * i.size + j = k * i.size + j - l.length * i.size := by omega
              rw [e0] at e2
              exact ⟨e1, e2.ext hx⟩) rfl rfl rfl
      refine ⟨g', _, _, hr, ?_, S'⟩
      rw [List.length_append] at R'
      exact R'
    · obtain ⟨olds, e1, e2, e3⟩ := own_first (P := P) (sz := i.size) k3 hlc (n := l.length) (cap := cap) rfl
      refine grow hxv e1 (by omega) e2 k6.1 (fun k p j q hp' hq => ?_)
      have hjs : j < i.size := by have := k6.1 k p hp'; have := lt_of_get hq; omega
      rw [e3 _ (mul_add_lt (lt_of_get hp') hjs)]
      exact k6.2 k p j q hp' hq
end
end Go.Vs

namespace Go.Vs
open Go
set_option linter.unusedSimpArgs false
set_option linter.unusedVariables false

section
variable {P : Program} {gl : Globs} {g : Gh} {d N : Nat} {s : St} {a : Act} {w : World} {o : Oper} {draw : Bool} {e : Eff} {C : Callee} {tmps : Array Value}

theorem merge_new' (draw : Bool) (s : St) (env : Env) {n : Nat} (b : Box) (h1 : s.bx n = none) (h2 : s.nb n = none) (k : Nat) :
    mergeB (applyMem draw { s with env := env } (.new n b)).bx (applyMem draw { s with env := env } (.new n b)).nb k = if k = n then some b else mergeB s.bx s.nb k :=
  merge_new draw { s with env := env } b h1 h2 k

theorem new_excl (R : Rel gl g d s tmps w) (draw : Bool) (env : Env) {n : Nat} (b : Box) (h1 : s.bx n = none) (h2 : s.nb n = none) (k : Nat) (B : Box)
    (h : (applyMem draw { s with env := env } (.new n b)).bx k = some B) : (applyMem draw { s with env := env } (.new n b)).nb k = none := by
  cases draw with
  | true =>
    have h3 : s.bx k = some B := h
    have hkn : k ≠ n := by rintro rfl; rw [h1] at h3; cases h3
    show upd s.nb n _ k = none
    rw [upd_ne _ _ hkn]; exact R.excl k B h3
  | false =>
    have h3 : upd s.bx n (some b) k = some B := h
    show s.nb k = none
    by_cases hkn : k = n
    · subst hkn; exact h2
    · rw [upd_ne _ _ hkn] at h3; exact R.excl k B h3

theorem new_stk (draw : Bool) (s : St) (n : Nat) (b : Box) : (applyMem draw s (.new n b)).stk = s.stk := by cases draw <;> rfl

/-- A row of the frame's own becomes a box. -/
theorem Rel.toArr (R : Rel gl g d s tmps w) {n sz : Nat} {l : List AV} (hen : s.env n = .own true sz l) (h1 : s.bx n = none) (h2 : s.nb n = none) (draw : Bool) :
    ∃ g', Rel gl g' d (applyMem draw { s with env := upd s.env n (.asl (.loc n) l.length) } (.new n (.arr false sz l))) tmps w ∧ Step g w g' w := by
  have hn := R.slots n
  rw [hen] at hn
  obtain ⟨b, cap, hv, hob, c, elem, k3, k4, k5, k6, k7⟩ := hn
  let g' : Gh := { imm := g.imm, ob := upd g.ob b (some (.box d n)), loc := upd g.loc d (upd (g.loc d) n (some b)) }
  have hx : Ext g w g' w := ⟨fun _ => Nat.le_refl _, fun _ _ _ => rfl⟩
  have hdead : g.loc d n = none := R.dead n (by simp [mergeB, h1, h2])
  have hl : LocKeep g g' := fun l m b h => by
    show upd g.loc d _ l m = _
    by_cases hld : l = d
    · subst hld
      rw [upd_same]
      have : m ≠ n := by rintro rfl; rw [hdead] at h; cases h
      rw [upd_ne _ _ this]; exact h
    · rw [upd_ne _ _ hld]; exact h
  have hloc : g'.loc d n = some b := by show upd g.loc d (upd (g.loc d) n (some b)) d n = _; rw [upd_same, upd_same]
  have hk : ∀ κ, κ ≠ .slot d n 0 → Keep g w g' w κ := fun κ hne b' hb' => by
    have hb : b' ≠ b := by rintro rfl; rw [hob] at hb'; simp only [Option.some.injEq] at hb'; exact hne hb'.symm
    exact ⟨by show upd _ _ _ _ = _; rw [upd_ne _ _ hb]; exact hb', rfl, rfl⟩
  refine ⟨g', R.on hx hl (fun k => ?_) (fun k B h => ?_) (fun k h => ?_) (new_excl R draw _ _ h1 h2) (fun l k B h => ?_) (fun l k hl' h => ?_) (by rw [new_stk]; exact R.lvl) (fun b' hb' => ?_) (fun l m b' h => ?_), hx, Nat.le_refl _, fun b' hb' hn' => ?_, rfl, rfl, rfl, hl⟩
  · rw [applyMem_env]
    by_cases hkn : k = n
    · subst hkn
      right
      show RV g' w d k (upd s.env k _ k) _
      rw [upd_same]
      exact ⟨b, ⟨hloc, trivial⟩, cap, k4, hv⟩
    · left
      refine ⟨upd_ne _ _ hkn, rfl, fun c => hk _ (by simp [hkn])⟩
  · rw [merge_new' draw s _ _ h1 h2] at h
    by_cases hkn : k = n
    · rw [if_pos hkn] at h; cases h; subst hkn
      right
      exact ⟨b, c, elem, hloc, k3, Nat.le_trans (Nat.mul_le_mul_right _ k4) k5, k6, by simp, fun _ => by simpa using k7⟩
    · rw [if_neg hkn] at h
      exact .inl ⟨h, hk _ (by simp), fun _ => hk _ (by simp)⟩
  · rw [merge_new' draw s _ _ h1 h2] at h
    by_cases hkn : k = n
    · rw [if_pos hkn] at h; cases h
    · rw [if_neg hkn] at h
      show upd g.loc d _ d k = none
      rw [upd_same, upd_ne _ _ hkn]; exact R.dead k h
  · rw [new_stk] at h
    exact .inl ⟨h, hk _ (by simp), fun _ => hk _ (by simp)⟩
  · rw [new_stk] at h
    show upd g.loc d _ l k = none
    rw [upd_ne _ _ (by omega)]; exact R.deadO l k hl' h
  · have hne : b' ≠ b := by have := ob_lt R.fresh hob; omega
    obtain ⟨e1, e2⟩ := R.fresh b' hb'
    exact ⟨by show upd _ _ _ _ = _; rw [upd_ne _ _ hne]; exact e1, e2⟩
  · have h : upd g.loc d (upd (g.loc d) n (some b)) l m = some b' := h
    by_cases hld : l = d
    · subst hld
      rw [upd_same] at h
      by_cases hm : m = n
      · subst hm; rw [upd_same] at h; simp at h; subst h
        exact ⟨by show upd _ _ _ _ = _; rw [upd_same], Nat.le_refl _⟩
      · rw [upd_ne _ _ hm] at h
        have h' := R.locs l m b' h
        have hne : b' ≠ b := by rintro rfl; rw [hob] at h'; simp at h'
        exact ⟨by show upd _ _ _ _ = _; rw [upd_ne _ _ hne]; exact h'.1, h'.2⟩
    · rw [upd_ne _ _ hld] at h
      have h' := R.locs l m b' h
      have hne : b' ≠ b := by rintro rfl; rw [hob] at h'; simp at h'
      exact ⟨by show upd _ _ _ _ = _; rw [upd_ne _ _ hne]; exact h'.1, h'.2⟩
  · have hne : b' ≠ b := by rintro rfl; rw [hob] at hn'; cases hn'
    exact ⟨by show upd _ _ _ _ = _; rw [upd_ne _ _ hne]; exact hn', rfl, rfl⟩

theorem upd_upd {α : Type} (e : Nat → α) (n : Nat) (v v' : α) : upd (upd e n v) n v' = upd e n v' := by
  funext k
  by_cases h : k = n
  · subst h; rw [upd_same, upd_same]
  · rw [upd_ne _ _ h, upd_ne _ _ h, upd_ne _ _ h]

/-- What was handed over lands as a row of the frame's own, or as a box. -/
theorem landed_ok {T : List (Nat × AV)} {D : Option Nat} {arr : Bool} {A A' : AV} {m : Mem} (hl : landed D arr s.bx s.nb A = some (A', m))
    (R : Rel gl g d { s with env := wrs s.env (T ++ wrD D A) } tmps w) : ∃ g', Rel gl g' d (applyEff draw s { wr := T ++ wrD D A', mem := m }) tmps w ∧ Step g w g' w := by
  unfold landed at hl
  split at hl
  · split at hl
    · rename_i n sz l
      split at hl
      · rename_i h1 h2
        simp only [Option.some.injEq, Prod.mk.injEq] at hl
        obtain ⟨rfl, rfl⟩ := hl
        have hen : ({ s with env := wrs s.env (T ++ wrD (some n) (.own true sz l)) } : St).env n = .own true sz l := by
          show wrs s.env (T ++ _) n = _
          rw [wrs_append]; simp only [wrD, wrs]; rw [upd_same]
        obtain ⟨g', R', S'⟩ := R.toArr hen h1 h2 draw
        refine ⟨g', ?_, S'⟩
        have e0 : upd (wrs s.env (T ++ wrD (some n) (.own true sz l))) n (.asl (.loc n) l.length) = wrs s.env (T ++ wrD (some n) (.asl (.loc n) l.length)) := by
          rw [wrs_append, wrs_append]; simp only [wrD, wrs]; rw [upd_upd]
        simp only [e0] at R'
        exact R'
      · cases hl
    · cases hl
  · simp only [Option.some.injEq, Prod.mk.injEq] at hl
    obtain ⟨rfl, rfl⟩ := hl
    exact ⟨g, R, .refl _ _⟩

theorem exec_app {c : Call} {t : TypeId} {x y : Operand} (ho : o.op = .call c) (hc : c.callee = .builtin .append) (hargs : c.args = #[x, y]) (hty : c.argTypes = #[t, t]) {v : Value} {w' : World}
    (h : (Builtin.append_ #[t, t] o.type #[a.eval x, a.eval y]).run P w = .ok v w') : (execOp a.eval o).run P w = .ok (.value v) w' := by
  rw [exec_builtin ho hc]
  simp [builtin, hargs, hty, h]

theorem ok_app (R : Rel gl g d s a.tmps w) (hD : ∀ m, o.dst = some m → m < a.tmps.size) {c : Call} {t et : TypeId} {i : TypeInfo} {z : Value} {u arr : Bool} {x y : Operand} {ax ay : Opd}
    (ho : o.op = .call c) (hc : c.callee = .builtin .append) (hargs : c.args = #[x, y]) (hty : c.argTypes = #[t, t])
    (ht : P.underlying t = some (.slice et)) (hi : P.info? et = some i) (hz : i.zero = some z) (hzs : z.cells.size = i.size) (hby : i.bytes ≤ 1048576) (hx : okOpd N x ax = true) (hy : okOpd N y ay = true)
    (he : eff gl C o.dst s.env s.bx s.nb s.stk (.app u arr i.size ax ay) = some e) : OpOK P gl g d s a w o draw e := by
  simp only [eff] at he
  split at he
  · rename_i A B hA hB
    have hrA := rd_ok R hx hA
    have hrB := rd_ok R hy hB
    split at he
    · rename_i lx hp
      split at he
      · rename_i hall
        split at he
        · split at he
          · rename_i hcount
            split at he
            · split at he
              · cases he
              · simp only [Option.some.injEq] at he; subst he
                have hyr := hrB.pur hp
                obtain ⟨⟨news, hf, hns, _⟩, y0, c0, hyv⟩ := first_ok (P := P) hyr hall
                have hxo : ∃ x0, a.eval x = .slice x0 0 0 := by
                  rcases hrA with ⟨n, _, _, h⟩ | ⟨_, h⟩
                  · exact h
                  · exact h (.ret 0)
                obtain ⟨x0, hx0⟩ := hxo
                have hn0 : news = #[] := by simpa using hns
                subst hn0
                have hr := run_app_room (P := P) (ty := o.type) ht hi (base := x0) (n := 0) (cap := 0) (m := 0) (y := y0) (c := c0) (news := #[]) (by have := hf w (fun _ => rfl); rw [hyv] at this; exact this) (by omega) (w' := w) (by
                  cases x0 <;> simp [storeCells])
                have hyv' : a.eval y = .slice y0 0 c0 := hyv
                have hT : AllU (ax.took ++ ay.took) := (allU_took _).append (allU_took _)
                exact OpOK.sameT R hD hT (v := .slice x0 0 0) (exec_app ho hc hargs hty (by rw [hx0, hyv']; exact hr)) fun _ => ⟨x0, rfl⟩
            · rename_i q r hall'
              split at he
              · rename_i v m hl
                simp only [Option.some.injEq] at he; subst he
                obtain ⟨g1, v', w', h1, h2, h3⟩ := app_own R hD ht hi hz hzs hby hrA hrB hp hall (u := u || arr) (l := []) (.inl ⟨rfl, rfl, by simp⟩) (by simpa using hcount)
                obtain ⟨g2, h4, h5⟩ := landed_ok (draw := draw) hl h2
                exact ⟨g2, v', w', .inl (exec_app ho hc hargs hty h1), h4, h3.trans h5⟩
              · cases he
          · cases he
        · rename_i u' sz' l
          split at he
          · rename_i hcnd
            obtain ⟨rfl, hcount, _⟩ := hcnd
            split at he
            · rename_i v m hl
              simp only [Option.some.injEq] at he; subst he
              obtain ⟨g1, v', w', h1, h2, h3⟩ := app_own R hD ht hi hz hzs hby hrA hrB hp hall (u := u') (l := l) (.inr rfl) hcount
              obtain ⟨g2, h4, h5⟩ := landed_ok (draw := draw) hl h2
              exact ⟨g2, v', w', .inl (exec_app ho hc hargs hty h1), h4, h3.trans h5⟩
            · cases he
          · cases he
        · cases he
      · cases he
    · cases he
  · cases he

theorem replicate_get {k n : Nat} {z p : AV} (h : (List.replicate n z)[k]? = some p) : k < n ∧ p = z := by
  rw [List.getElem?_replicate] at h
  split at h
  · simp only [Option.some.injEq] at h; exact ⟨by assumption, h.symm⟩
  · cases h

theorem madeCells_getD {z : Array Value} {n sz i j : Nat} (hz : z.size = sz) (hi : i < n) (hj : j < sz) : (madeCells z (n * sz)).getD (i * sz + j) undef = z.getD j undef := by
  have hlt := mul_add_lt hi hj
  have h1 : i * sz + j < (madeCells z (n * sz)).size := by rw [size_madeCells]; exact hlt
  have h2 : j < z.size := by omega
  simp only [madeCells] at h1 ⊢
  rw [Array.getD_eq_getD_getElem?, Array.getElem?_eq_getElem h1, Array.getD_eq_getD_getElem?, Array.getElem?_eq_getElem h2]
  simp only [Array.getElem_map, Array.getElem_range, hz, (div_eq (i := i) hj).2, Option.getD_some]
  exact getElem!_pos z j h2

theorem ok_mks (R : Rel gl g d s a.tmps w) (hD : ∀ m, o.dst = some m → m < a.tmps.size) {t et : TypeId} {i : TypeInfo} {z : Value} {u arr : Bool} {zero : AV} {x y : Operand} {ax ay : Opd}
    (ho : o.op = .makeSlice t x y) (ht : P.underlying t = some (.slice et)) (hi : P.info? et = some i) (hz : i.zero = some z) (hby : i.bytes ≤ 1048576)
    (hzl : litsOK zero.cellsA z.cells.toList = true) (hnn : ∀ c ∈ zero.cellsA, c ≠ .onil) (hx : okOpd N x ax = true) (hy : okOpd N y ay = true)
    (he : eff gl C o.dst s.env s.bx s.nb s.stk (.mks arr u i.size zero ax ay) = some e) : OpOK P gl g d s a w o draw e := by
  simp only [eff] at he
  obtain ⟨m, hX⟩ := pk_ok R hx
  obtain ⟨m', hY⟩ := pk_ok R hy
  split at he
  · rename_i n c h1 h2
    rw [h1] at hX; rw [h2] at hY
    split at he
    · rename_i hc
      obtain ⟨hnc, hcm, hzsz⟩ := hc
      have hrow := litsOK_row (imm := g.imm) (w := w) hzl hnn
      simp only [Array.toArray_toList] at hrow
      have hzs : z.cells.size = i.size := hrow.1.trans hzsz
      unfold maxCount at hcm
      have hby' : ((i.bytes : Nat) : Int) * (c : Int) ≤ 281474976710656 := by
        have := Nat.mul_le_mul hby hcm
        have h : ((i.bytes * c : Nat) : Int) ≤ 281474976710656 := by omega
        rwa [Int.natCast_mul] at h
      have hr := run_make (P := P) w t et i z ht hi hz .i64 .i64 (n : Int) (c : Int) (by omega) (by omega) hby' (by omega)
      simp only [Int.toNat_natCast] at hr
      have hrun : (execOp a.eval o).run P w = .ok (.value (.slice (some (at' w.heap.size 0)) n c)) (w.alloc (.cells (madeCells z.cells (c * i.size)) et)) := by
        have e1 : a.eval x = .int .i64 (n : Int) := rv_int hX
        have e2 : a.eval y = .int .i64 (c : Int) := rv_int hY
        simp only [execOp, ho, e1, e2, Sem.run_bind, hr, Result.andThen_ok, Sem.run_pure]
        rfl
      have hel : Elems g.imm w i.size (List.replicate n zero) (madeCells z.cells (c * i.size)) := by
        refine ⟨fun k p hp => ?_, fun k p j q hp hq => ?_⟩
        · obtain ⟨hk, rfl⟩ := replicate_get hp; exact hzsz
        · obtain ⟨hk, rfl⟩ := replicate_get hp
          have hj : j < i.size := by have := lt_of_get hq; omega
          rw [madeCells_getD hzs (by omega) hj]
          exact hrow.2 j q hq
      have own : ∀ u : Bool, ∃ g', Rel gl g' d { s with env := wrs s.env ([] ++ wrD o.dst (.own u i.size (List.replicate n zero))) } (putT a.tmps o.dst (.slice (some (at' w.heap.size 0)) n c)) (w.alloc (.cells (madeCells z.cells (c * i.size)) et)) ∧
          Step g w g' (w.alloc (.cells (madeCells z.cells (c * i.size)) et)) := fun u => by
        obtain ⟨g', R', S'⟩ := R.newOwn hD allU_nil (u := u) (sz := i.size) (l := List.replicate n zero) (c := madeCells z.cells (c * i.size)) (elem := et) (cap := c) (by simpa using hnc) (by rw [size_madeCells]; exact Nat.le_refl _) hel
        simp only [List.length_replicate] at R'
        exact ⟨g', R', S'⟩
      split at he
      · split at he
        · rename_i k hdst
          split at he
          · rename_i hb1 hb2
            split at he
            · rename_i hncEq
              simp only [Option.some.injEq] at he; subst he
              obtain ⟨g1, h3, h4⟩ := own true
              have hl : landed o.dst true s.bx s.nb (.own true i.size (List.replicate n zero)) = some (.asl (.loc k) n, .new k (.arr false i.size (List.replicate n zero))) := by
                simp [landed, hdst, hb1, hb2]
              obtain ⟨g2, h5, h6⟩ := landed_ok (draw := draw) hl h3
              refine ⟨g2, _, _, .inl hrun, ?_, h4.trans h6⟩
              rw [hdst] at h5 ⊢
              exact h5
            · cases he
          · cases he
        · cases he
      · simp only [Option.some.injEq] at he; subst he
        obtain ⟨g1, h3, h4⟩ := own u
        exact ⟨g1, _, _, .inl hrun, h3, h4⟩
    · cases he
  · cases he
end
end Go.Vs

namespace Go.Vs
open Go
set_option linter.unusedSimpArgs false
set_option linter.unusedVariables false

section
variable {P : Program} {gl : Globs} {g : Gh} {d N : Nat} {s : St} {a : Act} {w : World} {o : Oper} {draw : Bool} {e : Eff} {C : Callee} {tmps : Array Value}

def kindOK (P : Program) (t : TypeId) : Nat → Bool
  | 0 => match P.underlying t with
    | some .string => true
    | _ => false
  | 1 => match P.underlying t with
    | some (.int _) => true
    | _ => false
  | 2 => match P.underlying t with
    | some .bool => true
    | _ => false
  | _ => false

def flatOK (P : Program) : Nat → List Nat → List Field → Bool
  | _, [], [] => true
  | i, k :: ks, f :: fs => Nat.beq f.offset i && decide (f.name ≠ "_") && kindOK P f.type k && flatOK P (i + 1) ks fs
  | _, _, _ => false

def isAggD : TypeDesc → Bool
  | .struct _ => true
  | .array _ _ => true
  | _ => false

theorem run_isAgg {t : TypeId} {x : TypeDesc} (h : P.underlying t = some x) : (isAgg t).run P w = .ok (isAggD x) w := by
  simp only [isAgg, Sem.run_bind, run_und h, Result.andThen_ok]
  cases x <;> rfl

theorem eqS_ok {imm : Nat → Nat} {t : TypeId} {k : Nat} (hk : kindOK P t k = true) {A B : AV} {x y : Value} (hx : RP imm w A x) (hy : RP imm w B y) {r : Bool} (h : eqS k A B = some r) (n : Nat) :
    (Op.equalIn (n + 1) t x y).run P w = .ok r w ∧ ∀ (vs : Array Value) (q : Nat) (z : Value), vs[q]? = some z → (part t vs q).run P w = .ok z w := by
  have hp : ∀ {td : TypeDesc}, P.underlying t = some td → isAggD td = false → ∀ (vs : Array Value) (q : Nat) (z : Value), vs[q]? = some z → (part t vs q).run P w = .ok z w := fun htd hf vs q z hz => by
    have h0 := run_isAgg (P := P) (w := w) htd
    rw [hf] at h0
    simp [part, h0, hz]
  unfold eqS at h
  split at h
  · split at h
    · rename_i e0; subst e0
      simp only [Option.some.injEq] at h; subst h
      cases hx; cases hy
      simp only [kindOK] at hk
      split at hk
      · rename_i htd; exact ⟨run_equalIn_int w n t _ _ _ _ htd, hp htd rfl⟩
      · cases hk
    · cases h
  · simp only [Option.some.injEq] at h; subst h
    cases hx with
    | str s1 => cases hy with
      | str s2 =>
        simp only [kindOK] at hk
        split at hk
        · rename_i htd; exact ⟨by rw [run_equalIn_string w n t _ _ htd, strEq_bytes], hp htd rfl⟩
        · cases hk
  · simp only [Option.some.injEq] at h; subst h
    cases hx; cases hy
    simp only [kindOK] at hk
    split at hk
    · rename_i htd; exact ⟨run_equalIn_bool' w n t _ _ htd, hp htd rfl⟩
    · cases hk
  · cases h

theorem eqFields_ok {imm : Nat → Nat} {cs ds : List AV} {xs ys : Array Value} (n : Nat) : ∀ {ks : List Nat} {fs : List Field} {i : Nat} (hf : flatOK P i ks fs = true) {as bs : List AV} {r : Bool}
    (ha : ∀ (j : Nat) (c : AV), as[j]? = some c → ∃ z, xs[i + j]? = some z ∧ RP imm w c z) (hb : ∀ (j : Nat) (c : AV), bs[j]? = some c → ∃ z, ys[i + j]? = some z ∧ RP imm w c z) (h : eqCells ks as bs = some r),
    (Op.eqFields (n + 1) xs ys fs).run P w = .ok r w
  | [], [], i, hf, as, bs, r, ha, hb, h => by
    cases as <;> cases bs <;> simp [eqCells] at h
    subst h; rfl
  | [], _ :: _, i, hf, _, _, _, _, _, _ => by simp [flatOK] at hf
  | _ :: _, [], i, hf, _, _, _, _, _, _ => by simp [flatOK] at hf
  | k :: ks, f :: fs, i, hf, as, bs, r, ha, hb, h => by
    simp only [flatOK, Bool.and_eq_true, Nat.beq_eq] at hf
    obtain ⟨⟨⟨h1, h2⟩, h3⟩, h4⟩ := hf
    have h2 := of_decide_eq_true h2
    cases as with
    | nil => simp [eqCells] at h
    | cons A as =>
      cases bs with
      | nil => simp [eqCells] at h
      | cons B bs =>
        simp only [eqCells] at h
        split at h
        · cases h
        · rename_i q hq
          split at h
          · cases h
          · rename_i q' hq'
            simp only [Option.some.injEq] at h; subst h
            obtain ⟨x, hx1, hx2⟩ := ha 0 A rfl
            obtain ⟨y, hy1, hy2⟩ := hb 0 B rfl
            obtain ⟨e1, e2⟩ := eqS_ok h3 hx2 hy2 hq n
            rw [Nat.add_zero] at hx1 hy1
            have ih := eqFields_ok (cs := cs) (ds := ds) (imm := imm) (xs := xs) (ys := ys) n h4 (as := as) (bs := bs)
              (fun j c hc => by rw [show i + 1 + j = i + (j + 1) by omega]; exact ha (j + 1) c (by simpa using hc)) (fun j c hc => by rw [show i + 1 + j = i + (j + 1) by omega]; exact hb (j + 1) c (by simpa using hc)) hq'
            simp only [Op.eqFields, if_pos h2, h1, Sem.run_bind, e2 _ _ _ hx1, e2 _ _ _ hy1, Result.andThen_ok, e1]
            cases q
            · simp
            · simp [ih]

theorem ok_eqA (R : Rel gl g d s a.tmps w) (hD : ∀ m, o.dst = some m → m < a.tmps.size) {neg : Bool} {ks : List Nat} {fs : Array Field} {xt yt : TypeId} {x y : Operand} {ax ay : Opd}
    (ho : o.op = .binOp (bif neg then .neq else .eql) xt x y yt) (ht : P.underlying xt = some (.struct fs)) (hf : flatOK P 0 ks fs.toList = true) (hst : P.stoodInHeld xt = false) (hgt : P.eqGuardType P.depth xt = false)
    (hx : okOpd N x ax = true) (hy : okOpd N y ay = true)
    (he : eff gl C o.dst s.env s.bx s.nb s.stk (.eqA neg ks ax ay) = some e) : OpOK P gl g d s a w o draw e := by
  simp only [eff] at he
  obtain ⟨n, hX⟩ := pk_ok R hx
  obtain ⟨m, hY⟩ := pk_ok R hy
  split at he
  · rename_i cs ds h1 h2
    rw [h1] at hX; rw [h2] at hY
    obtain ⟨xs, hxv, hxr⟩ := rv_agg hX
    obtain ⟨ys, hyv, hyr⟩ := rv_agg hY
    obtain ⟨l1, p1⟩ := rp_agg hxr
    obtain ⟨l2, p2⟩ := rp_agg hyr
    split at he
    · cases he
    · rename_i r hr
      simp only [Option.some.injEq] at he; subst he
      have hfs : P.fieldsOf xt = fs := by simp [Program.fieldsOf, ht]
      have key : (Op.equalIn 10000 xt (.agg xs) (.agg ys)).run P w = .ok r w := by
        show (Op.equalIn (9999 + 1) xt (.agg xs) (.agg ys)).run P w = _
        rw [run_equalIn_struct w 9999 xt xs ys (by rw [hfs]; exact ht) hst, hfs]
        exact eqFields_ok (cs := cs) (ds := ds) (imm := g.imm) 9998 hf (fun j c hc => ⟨xs.getD j undef, by rw [Nat.zero_add]; exact getD_of_lt (by rw [l1]; exact lt_of_get hc), (p1 j c hc).2⟩)
          (fun j c hc => ⟨ys.getD j undef, by rw [Nat.zero_add]; exact getD_of_lt (by rw [l2]; exact lt_of_get hc), (p2 j c hc).2⟩) hr
      refine OpOK.same R hD (v := .bool (bif neg then !r else r)) ?_ (RP.bool _).rc
      cases neg
      · simp only [execOp, ho, hxv, hyv, cond_false, Sem.run_bind, run_eqGuard_agg w .eql xt x y xs ys hgt, Result.andThen_ok, run_eql_struct, key, Sem.run_pure]
      · simp only [execOp, ho, hxv, hyv, cond_true, Sem.run_bind, run_eqGuard_agg w .neq xt x y xs ys hgt, Result.andThen_ok, run_neq_struct, key, Sem.run_pure]
  · cases he

theorem setN_stk (bx nb : Boxes) (stk : List Boxes) (r : Ref) (B : Box) : True := trivial

theorem ok_loadT (R : Rel gl g d s a.tmps w) (hD : ∀ m, o.dst = some m → m < a.tmps.size) {t : TypeId} {x : Operand} {ax : Opd}
    (ho : o.op = .load t x) (hag : ∀ w, (isAgg t).run P w = .ok false w) (hx : okOpd N x ax = true)
    (he : eff gl C o.dst s.env s.bx s.nb s.stk (.loadT ax) = some e) : OpOK P gl g d s a w o draw e := by
  simp only [eff] at he
  obtain ⟨m, hX⟩ := pk_ok R hx
  split at he
  · rename_i r off h1
    rw [h1] at hX
    obtain ⟨b, ⟨h2, hlv⟩, h3⟩ := hX
    split at he
    · rename_i cs hb
      split at he
      · rename_i c hc
        have fin : (c = .onil ∨ ∃ u sz l, c = .own u sz l) → e = { wr := wrD o.dst c, mem := setN s.bx s.nb s.stk r (.cells (cs.set off .undef)) } → OpOK P gl g d s a w o draw e := by
          intro hcase hee
          subst hee
          obtain ⟨b', c', el, k1, k2, k3, k4, k5⟩ := boxOfN R hb
          rw [h2] at k1; simp only [Option.some.injEq] at k1; subst k1
          obtain ⟨_, k6⟩ := k5 off c hc
          have hlt : off < c'.size := by rw [k4]; exact lt_of_get hc
          let κ0 : Key := .cell (r.lv d) r.nm off
          let f : Key → Key := fun k => if k = κ0 then .slot d (o.dst.getD 0) 0 else k
          have hk : ∀ k, k ≠ κ0 → Keep g w (g.re f) w k := fun k hk => re_keep _ _ _ (if_neg hk)
          have hbox : RBox (g.re f) w (r.lv d) r.nm (.cells (cs.set off .undef)) := by
            refine ⟨b, c', el, h2, k2, k3, by simpa using k4, fun i z hz => ?_⟩
            by_cases hi : i = off
            · subst hi
              rw [List.getElem?_set_self (lt_of_get hc)] at hz; simp only [Option.some.injEq] at hz; subst hz
              exact ⟨.inl rfl, trivial⟩
            · rw [List.getElem?_set_ne (fun e => hi e.symm)] at hz
              obtain ⟨e1, e2⟩ := k5 i z hz
              exact ⟨e1, e2.keep (re_ext _ _ _) (hk _ (by simp [κ0, hi])) (fun _ _ _ h => h)⟩
          -- the box first, nothing moved
          have hself : putB w b (.cells c' el (0, 0)) = w := by
            have hblt : b < w.heap.size := (Array.getElem?_eq_some_iff.1 k3).1
            have : w.heap.setIfInBounds b (.cells c' el (0, 0)) = w.heap := by
              apply Array.ext_getElem?
              intro k
              by_cases hk : k = b
              · subst hk; rw [k3]; simp [hblt]
              · rw [Array.getElem?_setIfInBounds_ne (fun e => hk e.symm)]
            unfold putB; rw [this]
          obtain ⟨R1, _⟩ := R.putBox (B' := .cells (cs.set off .undef)) (c' := c') hb h2 k3 k2 (fun w' hx hh hk' => by
            refine ⟨b, c', el, h2, k2, hh, by simpa using k4, fun i z hz => ?_⟩
            by_cases hi : i = off
            · subst hi
              rw [List.getElem?_set_self (lt_of_get hc)] at hz; simp only [Option.some.injEq] at hz; subst hz
              exact ⟨.inl rfl, trivial⟩
            · rw [List.getElem?_set_ne (fun e => hi e.symm)] at hz
              obtain ⟨e1, e2⟩ := k5 i z hz
              exact ⟨e1, e2.keep hx (hk' i) (fun _ _ _ h => h)⟩) draw
          rw [hself] at R1
          have hval : RV1 (g.re f) w d (.slot d (o.dst.getD 0) 0) c (c'.getD off undef) := by
            have := RV1.re (f := f) (if_pos rfl) k6
            rcases hcase with rfl | ⟨u, sz, l, rfl⟩
            · exact this
            · exact this.lvl rfl
          have hrun : (execOp a.eval o).run P w = .ok (.value (c'.getD off undef)) w := by
            rw [run_load ho h3]
            simp only [Sem.run_bind, run_loadVar1 (hag w) (by rw [cell_of_heap k3]; exact getD_of_lt hlt), Result.andThen_ok, Sem.run_pure]
          refine ⟨g.re f, _, w, .inl hrun, ?_, re_step _ _ _⟩
          have e0 : applyEff draw s { wr := wrD o.dst c, mem := setN s.bx s.nb s.stk r (.cells (cs.set off .undef)) } =
              { applyMem draw s (setN s.bx s.nb s.stk r (.cells (cs.set off .undef))) with env := wrs (applyMem draw s (setN s.bx s.nb s.stk r (.cells (cs.set off .undef)))).env ([] ++ wrD o.dst c) } := by
            rw [applyMem_env]
            cases r with
            | loc n => simp only [setN]; split <;> rfl
            | glb l n => rfl
          rw [e0]
          refine R1.gen (re_ext _ _ _) (fun _ _ _ h => h) allU_nil rfl hD (fun m hm => ?_) (fun n c' _ _ => hk _ (by simp [κ0])) (fun k B h => ?_) R1.dead R1.excl (fun l k B h => ?_) R1.deadO R1.lvl
            (fun b' hb' => ⟨by simp [Gh.re, (R.fresh b' hb').1], (R.fresh b' hb').2⟩) (fun l n b' h => ⟨by simp [Gh.re, (R.locs l n b' h).1, f, κ0], (R.locs l n b' h).2⟩)
          · rw [hm] at hval
            rcases hcase with rfl | ⟨u, sz, l, rfl⟩
            · exact hval
            · exact hval
          · by_cases hkk : (d = r.lv d ∧ k = r.nm)
            · right
              obtain ⟨e1, e2⟩ := hkk
              have hBB : B = .cells (cs.set off .undef) := by
                cases r with
                | glb l n => simp only [Ref.lv] at e1; have := stkGet_lt (show stkGet s.stk l n = some _ from hb); rw [R.lvl] at this; omega
                | loc n =>
                  simp only [Ref.nm] at e2; subst e2
                  simp only [setN] at h
                  cases hn : s.nb k with
                  | some B0 => rw [hn] at h; simp [applyMem, mergeB, upd_same] at h; exact h.symm
                  | none => rw [hn] at h; simp [applyMem, mergeB, upd_same, hn] at h; exact h.symm
              subst hBB
              rw [← e1, ← e2] at hbox
              exact hbox
            · left
              exact ⟨h, hk _ (by simp [κ0]), fun i => hk _ (by simp only [κ0, ne_eq, Key.cell.injEq]; intro hh; exact hkk ⟨hh.1, hh.2.1⟩)⟩
          · by_cases hkk : (l = r.lv d ∧ k = r.nm)
            · right
              obtain ⟨e1, e2⟩ := hkk
              have hBB : B = .cells (cs.set off .undef) := by
                cases r with
                | loc n =>
                  simp only [Ref.lv] at e1; subst e1
                  have : (applyMem draw s (setN s.bx s.nb s.stk (.loc n) (.cells (cs.set off .undef)))).stk = s.stk := by simp only [setN]; split <;> rfl
                  have h : stkGet (applyMem draw s (setN s.bx s.nb s.stk (.loc n) (.cells (cs.set off .undef)))).stk l k = some B := h
                  rw [this] at h
                  have := stkGet_lt h; rw [R.lvl] at this; omega
                | glb l' n =>
                  simp only [Ref.lv, Ref.nm] at e1 e2; subst e1; subst e2
                  have h : stkGet (stkSet s.stk l (upd (stkGet s.stk l) k (some (.cells (cs.set off .undef))))) l k = some B := h
                  rw [stkGet_set (stkGet_lt (show stkGet s.stk l k = some _ from hb)), if_pos rfl, upd_same] at h
                  simp at h; exact h.symm
              subst hBB
              rw [← e1, ← e2] at hbox
              exact hbox
            · left
              exact ⟨h, hk _ (by simp [κ0]), fun i => hk _ (by simp only [κ0, ne_eq, Key.cell.injEq]; intro hh; exact hkk ⟨hh.1, hh.2.1⟩)⟩
        split at he
        · rename_i u sz l
          simp only [Option.some.injEq] at he
          exact fin (.inr ⟨_, _, _, rfl⟩) he.symm
        · simp only [Option.some.injEq] at he
          exact fin (.inl rfl) he.symm
        · cases he
      · cases he
    · cases he
  · cases he
end
end Go.Vs

namespace Go.Vs
open Go
set_option linter.unusedSimpArgs false
set_option linter.unusedVariables false

section
variable {P : Program} {gl : Globs} {g : Gh} {d N : Nat} {s : St} {a : Act} {w : World} {o : Oper} {draw : Bool} {e : Eff} {C : Callee} {tmps : Array Value}

theorem row_one {imm : Nat → Nat} {cs : List AV} {vs : Array Value} (h : Row imm w cs vs) : ∀ z ∈ vs, z.oneCell' = true := fun z hz => by
  obtain ⟨i, hi, rfl⟩ := Array.mem_iff_getElem.1 hz
  have hi' : i < cs.length := by rw [← h.1]; exact hi
  obtain ⟨h1, h2⟩ := h.2 i cs[i] (by simp [hi'])
  have : vs.getD i undef = vs[i] := by simp [Array.getD, hi]
  rw [this] at h2
  exact rp_one h2 h1

theorem ok_storeA (R : Rel gl g d s a.tmps w) (hdst : o.dst = none) {t : TypeId} {n : Nat} {x y : Operand} {ax ay : Opd}
    (ho : o.op = .store t x y) (hsz : (P.info? t).map (·.size) = some n) (hx : okOpd N x ax = true) (hy : okOpd N y ay = true)
    (he : eff gl C o.dst s.env s.bx s.nb s.stk (.storeA n ax ay) = some e) : OpOK P gl g d s a w o draw e := by
  simp only [eff] at he
  obtain ⟨m, hX⟩ := pk_ok R hx
  split at he
  · rename_i r off ds h1 hA
    rw [h1] at hX
    obtain ⟨b, ⟨h2, hlv⟩, h3⟩ := hX
    have hrd := rd_ok R hy hA
    obtain ⟨g1, R1, S1, hv, hloc, himm⟩ := R.float hrd (.ret 0) (by simp) (by simp) (allU_took ay) (fun p hp => hp)
    have hr : RP g1.imm w (.agg ds) (a.eval y) := hv
    obtain ⟨vs, hvv⟩ : ∃ vs, a.eval y = .agg vs := by generalize a.eval y = v at hr; cases hr; exact ⟨_, rfl⟩
    rw [hvv] at hr
    have hrow : Row g1.imm w ds vs := rp_agg hr
    split at he
    · rename_i cs hb
      split at he
      · rename_i hc
        obtain ⟨hoff, hds⟩ := hc
        simp only [Option.some.injEq] at he; subst he
        obtain ⟨b', c', el, k1, k2, k3, k4, k5⟩ := boxOfN (a := ⟨a.tmps, a.defers⟩) R1 hb
        rw [hloc, h2] at k1; simp only [Option.some.injEq] at k1; subst k1
        have hset : off + vs.size ≤ c'.size := by rw [hrow.1]; omega
        obtain ⟨R2, S2⟩ := R1.putBox (B' := .cells (splice cs off ds)) (c' := setAll c' off vs) hb (by rw [hloc]; exact h2) k3 k2 (fun w' hx hh hk => by
          refine ⟨b, _, el, by rw [hloc]; exact h2, k2, hh, ?_, fun i z hz => ?_⟩
          · rw [setAll_size hset, splice_length (by omega)]; exact k4
          · rw [splice_get (by omega)] at hz
            rw [setAll_getD hset, hrow.1]
            split at hz
            · rename_i hi
              rw [if_neg (by omega)]
              obtain ⟨e1, e2⟩ := k5 i z hz
              exact ⟨e1, e2.keep hx (hk i) (fun _ _ _ h => h)⟩
            · split at hz
              · rename_i hi1 hi2
                rw [if_pos (by omega)]
                obtain ⟨e1, e2⟩ := hrow.2 _ z hz
                exact ⟨.inr e1, (e2.ext hx).rc _⟩
              · rename_i hi1 hi2
                rw [if_neg (by omega)]
                obtain ⟨e1, e2⟩ := k5 i z hz
                exact ⟨e1, e2.keep hx (hk i) (fun _ _ _ h => h)⟩) draw
        have hcell : (a.eval y).cells = vs := by rw [hvv]; rfl
        refine ⟨g1, undef, putB w b (.cells (setAll c' off vs) el (0, 0)), .inr ⟨?_, rfl⟩, ?_, S1.trans S2⟩
        · rw [run_storeOp ho h3 hsz (by rw [hcell, hrow.1, hds]) k3 (by omega) (by rw [hcell]; exact row_one hrow), hcell]
        · rw [hdst, float_env R]; exact R2
      · cases he
    · cases he
  · rename_i r sz i off ds h1 hA
    rw [h1] at hX
    obtain ⟨b, ⟨h2, hlv⟩, h3⟩ := hX
    have hrd := rd_ok R hy hA
    obtain ⟨g1, R1, S1, hv, hloc, himm⟩ := R.float hrd (.ret 0) (by simp) (by simp) (allU_took ay) (fun p hp => hp)
    have hr : RP g1.imm w (.agg ds) (a.eval y) := hv
    obtain ⟨vs, hvv⟩ : ∃ vs, a.eval y = .agg vs := by generalize a.eval y = v at hr; cases hr; exact ⟨_, rfl⟩
    rw [hvv] at hr
    have hrow : Row g1.imm w ds vs := rp_agg hr
    split at he
    · rename_i sz' l hb
      split at he
      · rename_i hc
        obtain ⟨rfl, hds⟩ := hc
        split at he
        · rename_i cs hy'
          split at he
          · rename_i hoff
            simp only [Option.some.injEq] at he; subst he
            obtain ⟨b', c', el, k1, k3, k4, k5, k6, k7⟩ := boxOfN (a := ⟨a.tmps, a.defers⟩) R1 hb
            rw [hloc, h2] at k1; simp only [Option.some.injEq] at k1; subst k1
            have k7 := k7 rfl
            have hlen : cs.length = sz := k5.1 i _ hy'
            have hi := lt_of_get hy'
            have hend : i * sz + (off + n) ≤ l.length * sz := by
              have : (i + 1) * sz ≤ l.length * sz := Nat.mul_le_mul_right _ hi
              rw [Nat.add_mul] at this; omega
            have hset : i * sz + off + vs.size ≤ c'.size := by rw [hrow.1]; omega
            obtain ⟨R2, S2⟩ := R1.putBox (B' := .arr false sz (l.set i (.agg (splice cs off ds)))) (c' := setAll c' (i * sz + off) vs) hb (by rw [hloc]; exact h2) k3 k7 (fun w' hx hh hk => by
              refine ⟨b, _, el, by rw [hloc]; exact h2, hh, ?_, ⟨fun k z hz => ?_, fun k z j x hz hx' => ?_⟩, by simp, fun _ => k7⟩
              · rw [setAll_size hset]; simpa using k4
              · by_cases hki : k = i
                · subst hki
                  rw [List.getElem?_set_self hi] at hz; simp only [Option.some.injEq] at hz; subst hz
                  show (splice cs off ds).length = sz
                  rw [splice_length (by omega)]; exact hlen
                · rw [List.getElem?_set_ne (fun e => hki e.symm)] at hz; exact k5.1 k z hz
              · rw [setAll_getD hset, hrow.1]
                by_cases hki : k = i
                · subst hki
                  rw [List.getElem?_set_self hi] at hz; simp only [Option.some.injEq] at hz; subst hz
                  have hx' : (splice cs off ds)[j]? = some x := hx'
                  rw [splice_get (by omega)] at hx'
                  split at hx'
                  · rename_i hj
                    rw [if_neg (by omega)]
                    obtain ⟨e1, e2⟩ := k5.2 k _ j x hy' hx'
                    exact ⟨e1, e2.ext hx⟩
                  · split at hx'
                    · rename_i hj1 hj2
                      rw [if_pos (by omega)]
                      have e0 : k * sz + j - (k * sz + off) = j - off := by omega
                      rw [e0]
                      obtain ⟨e1, e2⟩ := hrow.2 _ x hx'
                      exact ⟨e1, e2.ext hx⟩
                    · rename_i hj1 hj2
                      rw [if_neg (by omega)]
                      obtain ⟨e1, e2⟩ := k5.2 k _ j x hy' hx'
                      exact ⟨e1, e2.ext hx⟩
                · rw [List.getElem?_set_ne (fun e => hki e.symm)] at hz
                  have hjs : j < sz := by have := k5.1 k z hz; have := lt_of_get hx'; omega
                  have hne : ¬ (i * sz + off ≤ k * sz + j ∧ k * sz + j < i * sz + off + ds.length) := by
                    rintro ⟨q1, q2⟩
                    rcases Nat.lt_or_gt_of_ne hki with hlt' | hlt'
                    · have : (k + 1) * sz ≤ i * sz := Nat.mul_le_mul_right _ hlt'
                      rw [Nat.add_mul] at this; omega
                    · have : (i + 1) * sz ≤ k * sz := Nat.mul_le_mul_right _ hlt'
                      rw [Nat.add_mul] at this; omega
                  rw [if_neg hne]
                  obtain ⟨e1, e2⟩ := k5.2 k z j x hz hx'
                  exact ⟨e1, e2.ext hx⟩) draw
            have hcell : (a.eval y).cells = vs := by rw [hvv]; rfl
            refine ⟨g1, undef, putB w b (.cells (setAll c' (i * sz + off) vs) el (0, 0)), .inr ⟨?_, rfl⟩, ?_, S1.trans S2⟩
            · rw [run_storeOp ho h3 hsz (by rw [hcell, hrow.1, hds]) k3 (by rw [hrow.1] at hset; omega) (by rw [hcell]; exact row_one hrow), hcell]
            · rw [hdst, float_env R]; exact R2
          · cases he
        · cases he
      · cases he
    · cases he
  · cases he

theorem ok_storeN (R : Rel gl g d s a.tmps w) (hdst : o.dst = none) {t : TypeId} {x y : Operand} {ax ay : Opd}
    (ho : o.op = .store t x y) (hsz : (P.info? t).map (·.size) = some 1) (hx : okOpd N x ax = true) (hy : okOpd N y ay = true)
    (he : eff gl C o.dst s.env s.bx s.nb s.stk (.storeN ax ay) = some e) : OpOK P gl g d s a w o draw e := by
  simp only [eff] at he
  split at he
  · rename_i m off A h1 hA
    split at he
    · rename_i cs hb
      split at he
      · rename_i hc
        simp only [Option.some.injEq] at he; subst he
        have h2 : eff gl C o.dst s.env s.bx s.nb s.stk (.store1 ax ay) = some { wr := ay.took ++ wrD o.dst .undef, mem := .set s.bx (upd s.nb m (some (.cells (cs.set off A)))) s.stk } := by
          simp only [eff, h1, hA, getN, hb, setN, if_pos hc]
        have h3 := ok_store1 (draw := draw) R hdst ho hsz hx hy h2
        exact h3
      · cases he
    · cases he
  · cases he

theorem ok_storeAN (R : Rel gl g d s a.tmps w) (hdst : o.dst = none) {t : TypeId} {n : Nat} {x y : Operand} {ax ay : Opd}
    (ho : o.op = .store t x y) (hsz : (P.info? t).map (·.size) = some n) (hx : okOpd N x ax = true) (hy : okOpd N y ay = true)
    (he : eff gl C o.dst s.env s.bx s.nb s.stk (.storeAN n ax ay) = some e) : OpOK P gl g d s a w o draw e := by
  simp only [eff] at he
  split at he
  · rename_i m off ds h1 hA
    split at he
    · rename_i cs hb
      split at he
      · rename_i hc
        simp only [Option.some.injEq] at he; subst he
        have h2 : eff gl C o.dst s.env s.bx s.nb s.stk (.storeA n ax ay) = some { wr := ay.took ++ wrD o.dst .undef, mem := .set s.bx (upd s.nb m (some (.cells (splice cs off ds)))) s.stk } := by
          simp only [eff, h1, hA, getN, hb, setN, if_pos hc]
        have h3 := ok_storeA (draw := draw) R hdst ho hsz hx hy h2
        exact h3
      · cases he
    · cases he
  · cases he

theorem ok_nilc (R : Rel gl g d s a.tmps w) (hD : ∀ m, o.dst = some m → m < a.tmps.size) {x : Operand} {ax : Opd} (ho : o.op = .nilCheck x) (hx : okOpd N x ax = true)
    (he : eff gl C o.dst s.env s.bx s.nb s.stk (.nilc ax) = some e) : OpOK P gl g d s a w o draw e := by
  simp only [eff] at he
  obtain ⟨m, hX⟩ := pk_ok R hx
  have run : ∀ {b : Addr}, a.eval x = .pointer (some b) → (execOp a.eval o).run P w = .ok (.value (a.eval x)) w := fun h => by
    simp [execOp, ho, h]
  split at he
  · rename_i r off h1
    rw [h1] at hX
    simp only [Option.some.injEq] at he; subst he
    obtain ⟨b, h2, h3⟩ := hX
    exact OpOK.same R hD (run h3) (fun κ => ⟨b, h2, h3⟩)
  · rename_i r sz i off h1
    rw [h1] at hX
    simp only [Option.some.injEq] at he; subst he
    obtain ⟨b, h2, h3⟩ := hX
    exact OpOK.same R hD (run h3) (fun κ => ⟨b, h2, h3⟩)
  · rename_i cs h1
    rw [h1] at hX
    simp only [Option.some.injEq] at he; subst he
    obtain ⟨b, q, h3, h4⟩ := hX
    exact OpOK.same R hD (run h3) (fun κ => ⟨b, q, h3, h4⟩)
  · cases he

theorem eff_ldL1 {m : Nat} {ax : Opd} {D : Option Nat} {env : Env} {bx nb : Boxes} {stk : List Boxes} (he : eff gl C D env bx nb stk (.ldL m none ax) = some e) : eff gl C D env bx nb stk (.load1 ax) = some e := by
  simp only [eff] at he
  split at he
  · rename_i m' off h1
    by_cases hm : m' = m
    · rw [if_pos hm] at he; subst hm
      simp only [eff, h1, getB, outOf]; exact he
    · rw [if_neg hm] at he; cases he
  · rename_i cs h1
    simp only [eff, h1]; exact he
  · cases he

theorem eff_ldLA {m n : Nat} {ax : Opd} {D : Option Nat} {env : Env} {bx nb : Boxes} {stk : List Boxes} (he : eff gl C D env bx nb stk (.ldL m (some n) ax) = some e) : eff gl C D env bx nb stk (.loadA n ax) = some e := by
  simp only [eff] at he
  split at he
  · rename_i m' off h1
    by_cases hm : m' = m
    · rw [if_pos hm] at he; subst hm
      simp only [eff, h1, getB]; exact he
    · rw [if_neg hm] at he; cases he
  · rename_i cs h1
    simp only [eff, h1]; exact he
  · cases he

theorem ok_stL1 (R : Rel gl g d s a.tmps w) (hdst : o.dst = none) {t : TypeId} {m : Nat} {x y : Operand} {ax ay : Opd}
    (ho : o.op = .store t x y) (hsz : (P.info? t).map (·.size) = some 1) (hx : okOpd N x ax = true) (hy : okOpd N y ay = true)
    (he : eff gl C o.dst s.env s.bx s.nb s.stk (.stL m none ax ay) = some e) : OpOK P gl g d s a w o draw e := by
  simp only [eff] at he
  split at he
  · rename_i m' off A h1 hA
    by_cases hm : m' = m
    · rw [if_pos hm] at he; subst hm
      split at he
      · rename_i cs hn hb
        split at he
        · rename_i hc
          simp only [Option.some.injEq] at he; subst he
          have h2 : eff gl C o.dst s.env s.bx s.nb s.stk (.store1 ax ay) = some { wr := ay.took ++ wrD o.dst .undef, mem := .set (upd s.bx m' (some (.cells (cs.set off A)))) s.nb s.stk } := by
            simp only [eff, h1, hA, getN, hn, hb, setN, if_pos hc]
          have h3 := ok_store1 (draw := draw) R hdst ho hsz hx hy h2
          exact h3
        · cases he
      · cases he
    · rw [if_neg hm] at he; cases he
  · cases he

theorem ok_stLA (R : Rel gl g d s a.tmps w) (hdst : o.dst = none) {t : TypeId} {m n : Nat} {x y : Operand} {ax ay : Opd}
    (ho : o.op = .store t x y) (hsz : (P.info? t).map (·.size) = some n) (hx : okOpd N x ax = true) (hy : okOpd N y ay = true)
    (he : eff gl C o.dst s.env s.bx s.nb s.stk (.stL m (some n) ax ay) = some e) : OpOK P gl g d s a w o draw e := by
  simp only [eff] at he
  split at he
  · rename_i m' off A h1 hA
    by_cases hm : m' = m
    · rw [if_pos hm] at he; subst hm
      split at he
      · rename_i cs hn hb
        split at he
        · rename_i ds
          split at he
          · rename_i hc
            simp only [Option.some.injEq] at he; subst he
            have h2 : eff gl C o.dst s.env s.bx s.nb s.stk (.storeA n ax ay) = some { wr := ay.took ++ wrD o.dst .undef, mem := .set (upd s.bx m' (some (.cells (splice cs off ds)))) s.nb s.stk } := by
              simp only [eff, h1, hA, getN, hn, hb, setN, if_pos hc]
            have h3 := ok_storeA (draw := draw) R hdst ho hsz hx hy h2
            exact h3
          · cases he
        · cases he
      · cases he
    · rw [if_neg hm] at he; cases he
  · cases he

/-- A box is closed: its contents never turn again. -/
theorem Rel.freezeA (R : Rel gl g d s tmps w) {n sz : Nat} {fz : Bool} {l : List AV} (hm : mergeB s.bx s.nb n = some (.arr fz sz l)) {bx' nb' : Boxes}
    (hmerge : ∀ k, mergeB bx' nb' k = if k = n then some (.arr true sz l) else mergeB s.bx s.nb k) (hex : ∀ k B, bx' k = some B → nb' k = none) :
    ∃ g', Rel gl g' d { s with bx := bx', nb := nb' } tmps w ∧ Step g w g' w ∧ g'.loc = g.loc ∧ g'.ob = g.ob ∧ (∀ v, RV1 g w d (.ret 0) (.asl (.loc n) l.length) v → RP g'.imm w (.slice l) v) ∧ (∀ κ, (∀ k, κ ≠ .box d k) → Keep g w g' w κ) := by
  obtain ⟨b, c, elem, h1, h2, h3, h4, h5, h6⟩ := R.boxes n _ hm
  let g' : Gh := { g with imm := upd g.imm b (l.length * sz) }
  have hob := (R.locs _ _ _ h1).1
  have hx : Ext g w g' w := ⟨fun q => by
      by_cases hq : q = b
      · subst hq; show _ ≤ upd _ _ _ _; rw [upd_same]
        cases fz
        · rw [h6 rfl]; exact Nat.zero_le _
        · rw [h5 rfl]; exact Nat.le_refl _
      · show _ ≤ upd _ _ _ _; rw [upd_ne _ _ hq]; exact Nat.le_refl _, fun _ _ _ => rfl⟩
  have hk : ∀ κ, κ ≠ .box d n → Keep g w g' w κ := fun κ hne q hq => by
    have hqb : q ≠ b := by rintro rfl; rw [hob] at hq; simp only [Option.some.injEq] at hq; exact hne hq.symm
    exact ⟨hq, upd_ne _ _ hqb, rfl⟩
  refine ⟨g', R.on hx (fun _ _ _ h => h) (fun k => .inl ⟨rfl, rfl, fun c => hk _ (by simp)⟩) (fun k B h => ?_) (fun k h => ?_) hex (fun l' k B h => .inl ⟨h, hk _ ?_, fun _ => hk _ (by simp)⟩) R.deadO R.lvl (fun q hq => ?_) R.locs,
    ⟨hx, Nat.le_refl _, fun q hq hn => ⟨hn, upd_ne _ _ (by rintro rfl; rw [hob] at hn; cases hn), rfl⟩, rfl, rfl, rfl, fun _ _ _ h => h⟩, rfl, rfl, (fun v hv => by
      obtain ⟨b', k1, cap, k2, rfl⟩ := hv
      have : b' = b := by have : g.loc d n = some b' := k1.1; rw [h1] at this; simpa using this.symm
      subst this
      exact (h4.ext hx).rp h2 h3 (by show _ ≤ upd _ _ _ _; rw [upd_same]; exact Nat.le_refl _) k2), fun κ hκ => hk κ (hκ n)⟩
  · rw [hmerge] at h
    by_cases hkn : k = n
    · rw [if_pos hkn] at h; cases h; subst hkn
      right
      exact ⟨b, c, elem, h1, h2, h3, h4.ext hx, fun _ => by show upd _ _ _ _ = _; rw [upd_same], by simp⟩
    · rw [if_neg hkn] at h
      exact .inl ⟨h, hk _ (by simp [hkn]), fun _ => hk _ (by simp)⟩
  · rw [hmerge] at h
    by_cases hkn : k = n
    · rw [if_pos hkn] at h; cases h
    · rw [if_neg hkn] at h; exact R.dead k h
  · have := stkGet_lt h
    rw [R.lvl] at this
    intro e0
    simp only [Key.box.injEq] at e0
    omega
  · have hne : q ≠ b := by have := ob_lt R.fresh hob; omega
    obtain ⟨e1, e2⟩ := R.fresh q hq
    exact ⟨e1, by show upd _ _ _ _ = _; rw [upd_ne _ _ hne]; exact e2⟩

theorem Rel.freeze (R : Rel gl g d s tmps w) {n sz : Nat} {fz : Bool} {l : List AV} (hm : mergeB s.bx s.nb n = some (.arr fz sz l)) {bx' nb' : Boxes}
    (hmerge : ∀ k, mergeB bx' nb' k = if k = n then some (.arr true sz l) else mergeB s.bx s.nb k) (hex : ∀ k B, bx' k = some B → nb' k = none) {v : Value} (hv : RV1 g w d (.ret 0) (.asl (.loc n) l.length) v) :
    ∃ g', Rel gl g' d { s with bx := bx', nb := nb' } tmps w ∧ Step g w g' w ∧ g'.loc = g.loc ∧ g'.ob = g.ob ∧ RP g'.imm w (.slice l) v ∧ (∀ κ, (∀ k, κ ≠ .box d k) → Keep g w g' w κ) := by
  obtain ⟨g', h1, h2, h3, h4, h5, h6⟩ := R.freezeA hm hmerge hex
  exact ⟨g', h1, h2, h3, h4, h5 v hv, h6⟩

theorem ok_frz (R : Rel gl g d s a.tmps w) (hD : ∀ m, o.dst = some m → m < a.tmps.size) {q : Nat} {x : Operand} {ax : Opd} (ho : o.op = .move x ∨ o.op = .assign x) (hx : okOpd N x ax = true)
    (he : eff gl C o.dst s.env s.bx s.nb s.stk (.frz q ax) = some e) : OpOK P gl g d s a w o draw e := by
  simp only [eff] at he
  obtain ⟨m, hX⟩ := pk_ok R hx
  split at he
  · rename_i n k h1
    rw [h1] at hX
    by_cases hnq : n = q
    · rw [if_pos hnq] at he; subst hnq
      split at he
      · rename_i fz sz l hn hb
        split at he
        · rename_i hk
          simp only [Option.some.injEq] at he; subst he
          subst hk
          obtain ⟨g', R', S', hloc, hob, hrp, hkeep⟩ := R.freeze (n := n) (fz := fz) (sz := sz) (l := l) (by simp [mergeB, hn, hb]) (bx' := upd s.bx n (some (.arr true sz l))) (nb' := s.nb) (fun q => by
            simp only [mergeB]
            by_cases hq : q = n
            · subst hq; simp [hn, upd_same]
            · simp [upd_ne _ _ hq, hq]) (fun q B hq => by
            by_cases hqn : q = n
            · subst hqn; exact hn
            · rw [upd_ne _ _ hqn] at hq; exact R.excl q B hq) (v := a.eval x) hX
          refine ⟨g', a.eval x, w, .inl (run_mv ho), ?_, S'⟩
          exact R'.same (T := []) allU_nil hD hrp.rc
        · cases he
      · cases he
    · rw [if_neg hnq] at he; cases he
  · cases he

theorem pursF_length {m : Nat} {l : List AV} : ∀ {vs ps : List AV}, pursF m l vs = some ps → ps.length = vs.length
  | [], ps, h => by simp [pursF] at h; subst h; rfl
  | v :: vs, ps, h => by
    simp only [pursF] at h
    split at h
    · split at h
      · rename_i ps' hps; simp only [Option.some.injEq] at h; subst h; simp [pursF_length hps]
      · cases h
    · cases h

theorem pursF_get {m : Nat} {l : List AV} : ∀ {vs ps : List AV}, pursF m l vs = some ps → ∀ (i : Nat) (p : AV), ps[i]? = some p → ∃ v, vs[i]? = some v ∧ (v.pur = some p ∨ (v = .asl (.loc m) l.length ∧ p = .slice l))
  | [], ps, h, i, p, hp => by simp [pursF] at h; subst h; simp at hp
  | v :: vs, ps, h, i, p, hp => by
    simp only [pursF] at h
    split at h
    · rename_i q hq
      split at h
      · rename_i ps' hps
        simp only [Option.some.injEq] at h; subst h
        cases i with
        | succ i => exact pursF_get hps i p (by simpa using hp)
        | zero =>
          simp at hp; subst hp
          refine ⟨v, rfl, ?_⟩
          unfold purF at hq
          split at hq
          · rename_i r k
            split at hq
            · rename_i hc
              simp only [Option.some.injEq] at hq
              obtain ⟨rfl, rfl⟩ := hc
              exact .inr ⟨rfl, hq.symm⟩
            · cases hq
          · exact .inl hq
      · cases h
    · cases h

theorem ok_ldF (R : Rel gl g d s a.tmps w) (hD : ∀ m, o.dst = some m → m < a.tmps.size) {t : TypeId} {x : Operand} {ax : Opd} {m n : Nat}
    (ho : o.op = .load t x) (hag : ∀ w, (isAgg t).run P w = .ok true w) (hsz : (P.info? t).map (·.size) = some n) (hx : okOpd N x ax = true)
    (he : eff gl C o.dst s.env s.bx s.nb s.stk (.ldF m n ax) = some e) : OpOK P gl g d s a w o draw e := by
  simp only [eff] at he
  obtain ⟨_, hX⟩ := pk_ok R hx
  split at he
  · rename_i q off h1
    rw [h1] at hX
    obtain ⟨b, ⟨h2, hlv⟩, h3⟩ := hX
    split at he
    · rename_i cs fz sz l hb hn hm
      split at he
      · rename_i hoff
        split at he
        · rename_i ps hps
          simp only [Option.some.injEq] at he; subst he
          obtain ⟨g', R', S', hloc, hob, hrp, hkeep⟩ := R.freezeA (n := m) (fz := fz) (sz := sz) (l := l) (by simp [mergeB, hn, hm]) (bx' := upd s.bx m (some (.arr true sz l))) (nb' := s.nb) (fun k => by
            simp only [mergeB]
            by_cases hq : k = m
            · subst hq; simp [hn, upd_same]
            · simp [upd_ne _ _ hq, hq]) (fun k B hk => by
            by_cases hqn : k = m
            · subst hqn; exact hn
            · rw [upd_ne _ _ hqn] at hk; exact R.excl k B hk)
          obtain ⟨b', c', el, k1, k2, k3, k4, k5⟩ := boxOf (a := ⟨a.tmps, a.defers⟩) (r := .loc q) R (show getB s.bx s.stk (.loc q) = some (.cells cs) from hb)
          rw [h2] at k1; simp only [Option.some.injEq] at k1; subst k1
          have hlen : ps.length = n := by rw [pursF_length hps]; simp; omega
          have hp : ∀ (j : Nat) (p : AV), ps[j]? = some p → p.one = true ∧ RP g'.imm w p (c'.getD (off + j) undef) := fun j p hp => by
            obtain ⟨v, e1, e2⟩ := pursF_get hps j p hp
            obtain ⟨_, e3⟩ := drop_take_get e1
            obtain ⟨e4, e5⟩ := k5 _ v e3
            rcases e2 with e2 | ⟨rfl, rfl⟩
            · exact ⟨pur_one e2 e4, (e5.purs e2).ext S'.ext⟩
            · exact ⟨rfl, hrp _ e5⟩
          refine ⟨g', .agg ((List.range n).map fun j => c'.getD (off + j) undef).toArray, w, .inl ?_, ?_, S'⟩
          · rw [run_load ho h3]
            simp only [Sem.run_bind, run_loadVarA (hag w) hsz (f := fun j => c'.getD (off + j) undef) (fun j hj => by rw [cell_of_heap k3]; exact getD_of_lt (by omega)), Result.andThen_ok, Sem.run_pure]
          · rw [← hlen]
            exact R'.same (T := []) allU_nil hD (range_row hp).agg.rc
        · cases he
      · cases he
    · cases he
  · cases he

theorem bytesOf_get : ∀ {l : List AV} {ns : List Nat}, bytesOf l = some ns → ns.length = l.length ∧ (∀ n ∈ ns, n < 256) ∧ ∀ (i : Nat) (e : AV), l[i]? = some e → e = .int .u8 (ns.getD i 0 : Nat)
  | [], ns, h => by simp [bytesOf] at h; subst h; simp
  | x :: l, ns, h => by
    unfold bytesOf at h
    split at h
    · rename_i h0; cases h0
    · rename_i n r h0
      simp only [List.cons.injEq] at h0
      obtain ⟨rfl, rfl⟩ := h0
      split at h
      · rename_i hn
        split at h
        · rename_i ns' hns
          simp only [Option.some.injEq] at h; subst h
          obtain ⟨h1, h2, h3⟩ := bytesOf_get hns
          refine ⟨by simp [h1], by simpa using ⟨hn, h2⟩, fun i e he => ?_⟩
          cases i with
          | zero => simp at he; subst he; rfl
          | succ i => simpa using h3 i e (by simpa using he)
        · cases h
      · cases h
    · cases h

theorem bytesN_push (s : ByteArray) (x : UInt8) : bytesN (s.push x) = bytesN s ++ [x.toNat] := by
  simp [bytesN, ByteArray.push]

theorem bytesN_fold : ∀ (ns : List Nat) (s : ByteArray), (∀ n ∈ ns, n < 256) → bytesN ((ns.map Int.ofNat).foldl (fun r n => r.push (UInt8.ofNat n.toNat)) s) = bytesN s ++ ns
  | [], s, _ => by simp
  | n :: ns, s, h => by
    simp only [List.map_cons, List.foldl_cons]
    rw [bytesN_fold ns _ (fun m hm => h m (by simp [hm])), bytesN_push]
    have : n < 256 := h n (by simp)
    have e : (UInt8.ofNat (Int.ofNat n).toNat).toNat = n := by
      show (UInt8.ofNat n).toNat = n
      simp [UInt8.toNat_ofNat']; omega
    rw [e]; simp

theorem ok_toStr (R : Rel gl g d s a.tmps w) (hD : ∀ m, o.dst = some m → m < a.tmps.size) {src dst et : TypeId} {x : Operand} {ax : Opd} (ho : o.op = .convert src dst x)
    (hs : P.underlying src = some (.slice et)) (het : P.underlying et = some (.int .u8)) (hd : P.underlying dst = some .string) (hx : okOpd N x ax = true)
    (he : eff gl C o.dst s.env s.bx s.nb s.stk (.toStr ax) = some e) : OpOK P gl g d s a w o draw e := by
  simp only [eff] at he
  split at he
  · rename_i A hA
    split at he
    · rename_i l hp
      split at he
      · rename_i ns hns
        simp only [Option.some.injEq] at he; subst he
        have hrd := rd_ok R hx hA
        have hr := hrd.pur hp
        obtain ⟨y, cap, h1, _, h3⟩ := rp_slice hr
        obtain ⟨k1, k2, k3⟩ := bytesOf_get hns
        have fin : ∀ {sv : ByteArray}, bytesN sv = ns → (Conv.bytesToString (.slice y l.length cap)).run P w = .ok (.string sv) w → OpOK P gl g d s a w o draw { wr := ax.took ++ wrD o.dst (.str ns) } := fun hsv hrun => by
          rename_i sv
          refine ⟨g, .string sv, w, .inl ?_, R.same (allU_took _) hD (hsv ▸ RP.rc (.str sv)), .refl _ _⟩
          simp only [execOp, ho, h1, Sem.run_bind, run_convert_bytes_string w src dst et y l.length cap hs het hd, hrun, Result.andThen_ok, Sem.run_pure]
        by_cases hl : l = []
        · subst hl
          have hns0 : ns = [] := by simpa [bytesOf] using hns.symm
          subst hns0
          cases y with
          | none => exact fin (sv := .empty) rfl (by simp [Conv.bytesToString])
          | some b =>
            refine fin (sv := .empty) rfl ?_
            have := run_bytesToString (P := P) w b 0 cap [] (by simp [loadCells, loadCellsFrom])
            simpa using this
        · obtain ⟨b, off, sz', f, h4, h5, h6, h7⟩ := h3 hl
          have hsz : sz' = 1 := by
            obtain ⟨q, r, rfl⟩ := List.exists_cons_of_ne_nil hl
            have e1 := h5 0 q rfl
            rw [k3 0 q rfl] at e1
            exact e1.symm
          subst hsz
          subst h4
          refine fin (bytesN_fold ns .empty k2) ?_
          refine run_bytesToString w _ _ _ _ ?_
          have hr2 := run_loadCells (P := P) w (at' b off) l.length (fun k => .int .u8 (ns.getD k 0 : Nat)) (fun k hk => by
            obtain ⟨q1, q2⟩ := h7 k 0 hk (by omega)
            rw [at'_add]
            have hlk : l[k]? = some l[k] := by simp [hk]
            have hek := k3 k _ hlk
            have hc0 : (l[k]).cellsA[0]? = some (.int .u8 (ns.getD k 0 : Nat)) := by rw [hek]; rfl
            have hrp := (h6 k _ 0 _ hlk hc0).2
            have hf : f k 0 = .int .u8 (ns.getD k 0 : Nat) := by generalize f k 0 = v at hrp; cases hrp; rfl
            rw [Nat.mul_one, Nat.add_zero, hf] at q2
            exact q2)
          rw [hr2]
          congr 1
          apply Array.ext'
          simp only [List.map_map]
          refine List.ext_getElem? fun i => ?_
          by_cases hi : i < l.length
          · have hi2 : i < ns.length := by omega
            simp [hi, hi2, List.getD_eq_getElem?_getD]
          · have hi2 : ns.length ≤ i := by omega
            simp [hi, hi2]
      · cases he
    · cases he
  · cases he
end
end Go.Vs
