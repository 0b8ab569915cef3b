/- A pure machine over the loaded program's own code: its values, its state, one operation, a run. Nothing is proved here. -/
import GoSem.Step
import Derived.Control
namespace Go.Proofs.Ytbaekdcacmoniaa.Pv
open Go

/-! ### Types of what stands behind a slice's cells; values -/
inductive Ty where
  | int (k : IntKind)
  | bool
  | str
  | list (own : Bool) (e : TypeId) (t : Ty)
  | prod (a b : Ty)
  | unit
  | tag (q : TypeId) (ag : Bool) (t : Ty)
  deriving DecidableEq
abbrev Ty.den : Ty → Type
  | .int _ => Int
  | .bool => Bool
  | .str => ByteArray
  | .list _ _ t => List t.den
  | .prod a b => a.den × b.den
  | .unit => Unit
  | .tag _ _ t => t.den
def Ty.sz : Ty → Nat
  | .prod a b => a.sz + b.sz
  | .unit => 0
  | _ => 1
def Ty.dflt : (t : Ty) → t.den
  | .int _ => (0 : Int)
  | .bool => false
  | .str => ByteArray.empty
  | .list _ _ _ => []
  | .prod a b => (a.dflt, b.dflt)
  | .unit => ()
  | .tag _ _ t => t.dflt
inductive PV : Type where
  | undef
  | int (k : IntKind) (n : Int)
  | bool (b : Bool)
  | str (s : ByteArray)
  | nils
  | empt
  | zrow
  | row (e : TypeId) (t : Ty) (l : List t.den)
  | own (id : Nat)
  | nilp
  | ref (id off : Nat)
  | elem (t : Ty) (x : t.den) (off : Nat)
  | oelem (id sz : Nat) (i : Int) (off : Nat)
  | cref (cs : List PV) (off : Nat)
  | nilf
  | func (f : FuncId) (caps : List PV)
  | agg (cs : List PV)
  | tuple (vs : List PV)
  | deep (id : Nat)
  | delem (id : Nat) (i : Int)
  | sub (id : Nat) (i : Int)
inductive Blk : Type where
  | box (t : TypeId) (cs : List PV)
  | row (e : TypeId) (t : Ty) (l : List t.den)
  | map (k v : Ty) (l : List (k.den × v.den))
  | deep (e e' : TypeId) (t : Ty) (l : List (List t.den)) (hole : Option Int)
def Blk.isRow : Blk → Bool
  | .row _ _ _ => true
  | _ => false
/-- Labels of rows that a call may look at: its caller's own. -/
def gst (id : Nat) : Bool := Nat.ble 8000000 id
structure St : Type where
  env : List PV
  sto : List (Nat × Blk)

def nth : List PV → Nat → PV
  | [], _ => .undef
  | x :: _, 0 => x
  | _ :: r, n + 1 => nth r n
def put : List PV → Nat → PV → List PV
  | [], _, _ => []
  | _ :: r, 0, v => v :: r
  | x :: r, n + 1, v => x :: put r n v
def look (id : Nat) : List (Nat × Blk) → Option Blk
  | [] => none
  | (j, b) :: r => if Nat.beq j id = true then some b else look id r
def setb (id : Nat) (b : Blk) : List (Nat × Blk) → List (Nat × Blk)
  | [] => []
  | (j, c) :: r => if Nat.beq j id = true then (j, b) :: r else (j, c) :: setb id b r
def dropb (id : Nat) : List (Nat × Blk) → List (Nat × Blk)
  | [] => []
  | (j, c) :: r => if Nat.beq j id = true then dropb id r else (j, c) :: dropb id r

/-- A typed value's cells. -/
def cells : (t : Ty) → t.den → List PV
  | .int k, n => [.int k n]
  | .bool, b => [.bool b]
  | .str, s => [.str s]
  | .list _ e t, l => [.row e t l]
  | .prod a b, p => cells a p.1 ++ cells b p.2
  | .unit, _ => []
  | .tag q ag t, x => [.func (1000000 + q) (if ag = true then [.agg (cells t x)] else cells t x)]
def unInt (k : IntKind) : List PV → Option (Int × List PV)
  | .int k' n :: r => if k' = k then some (n, r) else none
  | _ => none
def unBool : List PV → Option (Bool × List PV)
  | .bool b :: r => some (b, r)
  | _ => none
def unStr : List PV → Option (ByteArray × List PV)
  | .str b :: r => some (b, r)
  | _ => none
def sameRow (e : TypeId) (t : Ty) (e' : TypeId) (t' : Ty) (l : List t'.den) : Option (List t.den) :=
  if e' = e then (if h : t' = t then some (h ▸ l) else none) else none
def unRow (e : TypeId) (t : Ty) : List PV → Option (List t.den × List PV)
  | .nils :: r => some ([], r)
  | .empt :: r => some ([], r)
  | .row e' t' l :: r => match sameRow e t e' t' l with | some l' => some (l', r) | none => none
  | _ => none
/-- What stands in an interface, read by g. -/
def unTag {α : Type} (q : TypeId) (ag : Bool) (g : List PV → Option (α × List PV)) : List PV → Option (α × List PV)
  | .func f ps :: r =>
    if Nat.beq f (1000000 + q) = true then
      if ag = true then
        (match ps with
        | [.agg cs] => (match g cs with | some (x, []) => some (x, r) | _ => none)
        | _ => none)
      else (match g ps with | some (x, []) => some (x, r) | _ => none)
    else none
  | _ => none
/-- Cells read as a typed value; what is left of them. -/
def uncells : (t : Ty) → List PV → Option (t.den × List PV)
  | .int k, cs => unInt k cs
  | .bool, cs => unBool cs
  | .str, cs => unStr cs
  | .list _ e t, cs => unRow e t cs
  | .prod a b, l =>
    match uncells a l with
    | some (x, l') =>
      match uncells b l' with
      | some (y, l'') => some ((x, y), l'')
      | none => none
    | none => none
  | .unit, l => some ((), l)
  | .tag q ag t, l => unTag q ag (uncells t) l
/-- Rows of one's own. -/
def deepT : Ty → Bool
  | .list true _ _ => true
  | _ => false
def unOwn (sto : List (Nat × Blk)) (e : TypeId) (t : Ty) : List PV → Option (List t.den × List PV)
  | .nils :: r => some ([], r)
  | .own id :: r =>
    match look id sto with
    | some (.row e' t' l) => if deepT t = true then none else match sameRow e t e' t' l with | some l' => some (l', r) | none => none
    | _ => none
  | .deep id :: r =>
    match look id sto with
    | some (.deep e1 e' t' l none) => match sameRow e t e1 (.list true e' t') l with | some l' => some (l', r) | none => none
    | _ => none
  | _ => none
/-- A function's results: own rows by the store. -/
def unres (sto : List (Nat × Blk)) : (t : Ty) → List PV → Option (t.den × List PV)
  | .int k, cs => unInt k cs
  | .bool, cs => unBool cs
  | .str, cs => unStr cs
  | .list true e t, cs => unOwn sto e t cs
  | .list false e t, cs => unRow e t cs
  | .prod a b, l =>
    match unres sto a l with
    | some (x, l') =>
      match unres sto b l' with
      | some (y, l'') => some ((x, y), l'')
      | none => none
    | none => none
  | .unit, l => some ((), l)
  | .tag q ag t, l => unTag q ag (uncells t) l
def ofCell : Value → PV
  | .int k n => .int k n
  | .bool b => .bool b
  | .string s => .str s
  | .slice none 0 0 => .nils
  | .pointer none => .nilp
  | .nilFunc => .nilf
  | .nilIface => .func 1000000 []
  | _ => .undef
def ofConst : Value → PV
  | .agg cs => .agg (cs.toList.map ofCell)
  | .tuple vs => if vs.size = 0 then .tuple [] else .undef
  | v => ofCell v
/-- Equality of typed values. -/
def eqD : (t : Ty) → t.den → t.den → Bool
  | .int _, a, b => a == b
  | .bool, a, b => a == b
  | .str, a, b => a.toList == b.toList
  | .list _ _ t, a, b => eqDL (eqD t) a b
  | .prod x y, a, b => eqD x a.1 b.1 && eqD y a.2 b.2
  | .unit, _, _ => true
  | .tag _ _ t, a, b => eqD t a b
where eqDL {α : Type} (f : α → α → Bool) : List α → List α → Bool
  | [], [] => true
  | x :: r, y :: q => f x y && eqDL f r q
  | _, _ => false
/-- What a call answers of a list that may be nil, or empty and not nil, or not empty. -/
def nilOr (t : Ty) (b : Bool) (x y z : Option t.den) : Option t.den :=
  if b = true then x.bind fun p => y.bind fun q => if eqD t p q = true then some p else none else z
def St.ev (s : St) : Operand → PV
  | .tmp t => nth s.env t
  | .const v => ofConst v
  | .func f => if Nat.blt f 1000000 = true then .func f [] else .undef
  | .global _ => .undef
/-- The label of the box that was lent by parameter i. -/
def pinL (i : Nat) : Nat := Nat.add 7000000 (Nat.mul 1000 i)
/-- No operation's result may look like a parameter that was lent. -/
def pinAt (t : Nat) : PV → Bool
  | .ref id _ => Nat.beq id (pinL t)
  | .func _ [.ref id _] => Nat.beq id (pinL t)
  | _ => false
def unpin (t : Nat) (v : PV) : PV := if pinAt t v = true then .undef else v
def St.puto (s : St) (d : Option Tmp) (v : PV) : St :=
  match d with
  | some t => { s with env := put s.env t (unpin t v) }
  | none => s
def cellsOfPV : PV → List PV
  | .agg cs => cs
  | v => [v]

/-! ### Own rows and boxes that nobody holds any more -/
mutual
def holds (id : Nat) : PV → Bool
  | .own j => Nat.beq j id
  | .ref j _ => Nat.beq j id
  | .oelem j _ _ _ => Nat.beq j id
  | .deep j => Nat.beq j id
  | .delem j _ => Nat.beq j id
  | .sub j _ => Nat.beq j id
  | .cref cs _ => holdsL id cs
  | .func _ cs => holdsL id cs
  | .agg cs => holdsL id cs
  | .tuple cs => holdsL id cs
  | _ => false
def holdsL (id : Nat) : List PV → Bool
  | [] => false
  | x :: r => holds id x || holdsL id r
end
def heldB (id : Nat) : List (Nat × Blk) → Bool
  | [] => false
  | (_, .box _ cs) :: r => holdsL id cs || heldB id r
  | (_, .row _ _ _) :: r => heldB id r
  | (_, .map _ _ _) :: r => heldB id r
  | (_, .deep _ _ _ _ _) :: r => heldB id r
/-- Forget what holds block id. -/
def forgetL (id : Nat) : List PV → List PV
  | [] => []
  | x :: r => (if holds id x = true then .undef else x) :: forgetL id r
def forgetB (id : Nat) : List (Nat × Blk) → List (Nat × Blk)
  | [] => []
  | (j, .box t cs) :: r => (j, .box t (forgetL id cs)) :: forgetB id r
  | (j, .row e t l) :: r => (j, .row e t l) :: forgetB id r
  | (j, .map k v l) :: r => (j, .map k v l) :: forgetB id r
  | (j, .deep e e' t l o) :: r => (j, .deep e e' t l o) :: forgetB id r
mutual
/-- The own row id is only read from now on. -/
def cool (id : Nat) (v vd : PV) : PV → PV
  | .own j => if Nat.beq j id = true then v else .own j
  | .cref cs o => .cref (coolL id v vd cs) o
  | .func f cs => .func f (coolL id v vd cs)
  | .agg cs => .agg (coolL id v vd cs)
  | .tuple cs => .tuple (coolL id v vd cs)
  | .oelem j z i o => if Nat.beq j id = true then .undef else .oelem j z i o
  | .deep j => if Nat.beq j id = true then vd else .deep j
  | .sub j i => if Nat.beq j id = true then .undef else .sub j i
  | x => x
def coolL (id : Nat) (v vd : PV) : List PV → List PV
  | [] => []
  | x :: r => cool id v vd x :: coolL id v vd r
end
def coolB (id : Nat) (v vd : PV) : List (Nat × Blk) → List (Nat × Blk)
  | [] => []
  | (j, .box t cs) :: r => (j, .box t (coolL id v vd cs)) :: coolB id v vd r
  | (j, .row e t l) :: r => (j, .row e t l) :: coolB id v vd r
  | (j, .map k y l) :: r => (j, .map k y l) :: coolB id v vd r
  | (j, .deep e e' t l o) :: r => (j, .deep e e' t l o) :: coolB id v vd r
def St.cool (s : St) (id : Nat) : St :=
  if gst id = true then s else
  match look id s.sto with
  | some (.row e t l) => ⟨coolL id (.row e t l) .undef s.env, dropb id (coolB id (.row e t l) .undef s.sto)⟩
  | some (.deep e e' t l none) => ⟨coolL id .undef (.row e (.list false e' t) l) s.env, dropb id (coolB id .undef (.row e (.list false e' t) l) s.sto)⟩
  | _ => s
mutual
def ownIds : PV → List Nat
  | .own j => [j]
  | .deep j => [j]
  | .cref cs _ => ownIdsL cs
  | .func _ cs => ownIdsL cs
  | .agg cs => ownIdsL cs
  | .tuple cs => ownIdsL cs
  | _ => []
def ownIdsL : List PV → List Nat
  | [] => []
  | x :: r => ownIds x ++ ownIdsL r
end
def St.cools (s : St) : List Nat → St
  | [] => s
  | i :: r => (s.cool i).cools r
def memN (i : Nat) : List Nat → Bool
  | [] => false
  | j :: r => Nat.beq j i || memN i r
def nodupN : List Nat → Bool
  | [] => true
  | i :: r => !memN i r && nodupN r
/-- Labels that may be given away: none twice, none of a row that is only looked at. -/
def nodupO (l : List Nat) : Bool := nodupN l && l.all fun i => !gst i
def isRowB : Option Blk → Bool
  | some (.deep _ _ _ _ _) => false
  | some _ => true
  | none => false
def isDeepB : Option Blk → Bool
  | some (.deep _ _ _ _ _) => true
  | _ => false
/-- A value that is one cell, and known. -/
def solid (sto : List (Nat × Blk)) : PV → Bool
  | .undef => false
  | .agg _ => false
  | .tuple _ => false
  | .sub _ _ => false
  | .own id => isRowB (look id sto)
  | .deep id => isDeepB (look id sto)
  | _ => true
def known (sto : List (Nat × Blk)) : PV → Bool
  | .undef => false
  | .sub _ _ => false
  | .own id => isRowB (look id sto)
  | .deep id => isDeepB (look id sto)
  | _ => true
def solids (sto : List (Nat × Blk)) : List PV → Bool
  | [] => true
  | x :: r => solid sto x && solids sto r
def St.forget (s : St) (id : Nat) : St := ⟨forgetL id s.env, forgetB id s.sto⟩
/-- A new block under the label id: an elder one of that label is forgotten first. -/
def St.add (s : St) (id : Nat) (b : Blk) : St := ⟨forgetL id s.env, (id, b) :: dropb id (forgetB id s.sto)⟩
/-- The block of label id is used up. -/
def St.used (s : St) (id : Nat) : St := ⟨forgetL id s.env, dropb id (forgetB id s.sto)⟩

/-! ### Types of the program -/
def aggT (P : Program) (t : TypeId) : Option Bool :=
  match P.underlying t with
  | none => none
  | some (.struct _) => some true
  | some (.array _ _) => some true
  | some _ => some false
def sizeT (P : Program) (t : TypeId) : Option Nat := (P.info? t).map (·.size)
def zeroT (P : Program) (t : TypeId) : Option PV := ((P.info? t).bind (·.zero)).map ofConst
def bytesT (P : Program) (t : TypeId) : Option Nat := (P.info? t).map (·.bytes)
/-- The part of cells at off that a variable of type t is. -/
def partT (P : Program) (t : TypeId) (cs : List PV) (off : Nat) : Option PV :=
  match aggT P t with
  | some true =>
    match sizeT P t with
    | some n => if off + n ≤ cs.length then some (.agg ((cs.drop off).take n)) else none
    | none => none
  | some false => cs[off]?
  | none => none
/-- '==' by the type; the last field's test without '&& true'. -/
def eqFs (P : Program) (eq : TypeId → PV → PV → Option Bool) (xs ys : List PV) : List Field → Option Bool
  | [] => some true
  | f :: r =>
    if (f.name == "_") = true then none else
    match partT P f.type xs f.offset, partT P f.type ys f.offset with
    | some a, some b =>
      match r with
      | [] => eq f.type a b
      | g :: r' =>
        match eq f.type a b, eqFs P eq xs ys (g :: r') with
        | some q, some q' => some (q && q')
        | _, _ => none
    | _, _ => none
def eqT (P : Program) : Nat → TypeId → PV → PV → Option Bool
  | 0, _, _, _ => none
  | n + 1, t, x, y =>
    match P.underlying t, x, y with
    | some (.int _), .int k a, .int k' b => if k = k' then some (a == b) else none
    | some .bool, .bool a, .bool b => some (a == b)
    | some .string, .str a, .str b => some (a.toList == b.toList)
    | some (.pointer _), .nilp, .nilp => some true
    | some (.struct fs), .agg xs, .agg ys => if P.stoodInHeld t = true then none else eqFs P (eqT P n) xs ys fs.toList
    | _, _, _ => none
def bitop (op : BinOp) (k : IntKind) (x y : Int) : Int :=
  match op with
  | .and => ((BitVec.ofInt k.bits x &&& BitVec.ofInt k.bits y).toNat : Int)
  | .or => ((BitVec.ofInt k.bits x ||| BitVec.ofInt k.bits y).toNat : Int)
  | .xor => ((BitVec.ofInt k.bits x ^^^ BitVec.ofInt k.bits y).toNat : Int)
  | _ => ((BitVec.ofInt k.bits x &&& ~~~BitVec.ofInt k.bits y).toNat : Int)
/-! ### Maps -/
def keyEq : (t : Ty) → t.den → t.den → Bool
  | .int _, a, b => a == b
  | .str, a, b => a.toList == b.toList
  | _, _, _ => false
def lookM (k v : Ty) (x : k.den) : List (k.den × v.den) → Option v.den
  | [] => none
  | p :: r => if keyEq k x p.1 = true then some p.2 else lookM k v x r
def updM (k v : Ty) (x : k.den) (y : v.den) : List (k.den × v.den) → List (k.den × v.den)
  | [] => [(x, y)]
  | p :: r => if keyEq k x p.1 = true then (p.1, y) :: r else p :: updM k v x y r
def keyT (P : Program) (t : TypeId) : Option Ty :=
  match P.underlying t with
  | some (.int k) => some (.int k)
  | some .string => some .str
  | _ => none
def valT (P : Program) (t : TypeId) : Option Ty :=
  match P.underlying t, zeroT P t with
  | some (.int k), some (.int k' n) => if k' = k then (if n = 0 then some (.int k) else none) else none
  | some .bool, some (.bool b) => if b = false then some .bool else none
  | _, _ => none
def mapT (P : Program) (t : TypeId) : Option (Ty × Ty) :=
  match P.underlying t with
  | some (.map k e) => (match keyT P k, valT P e with | some a, some b => some (a, b) | _, _ => none)
  | _ => none
section
variable {R : Type}
def lenPV (s : St) : PV → Option Nat
  | .str x => some x.size
  | .nils => some 0
  | .empt => some 0
  | .row _ _ l => some l.length
  | .own id => match look id s.sto with | some (.row _ _ l) => some l.length | _ => none
  | .deep id => match look id s.sto with | some (.deep _ _ _ l _) => some l.length | _ => none
  | _ => none
def arith (op : BinOp) (k : IntKind) (x y : Int) (K : PV → Option R) : Option R :=
  match op with
  | .add => K (.int k (k.wrap (x + y)))
  | .sub => K (.int k (k.wrap (x - y)))
  | .mul => K (.int k (k.wrap (x * y)))
  | .quo => if y = 0 then none else K (.int k (k.wrap (x.tdiv y)))
  | .rem => if y = 0 then none else K (.int k (x.tmod y))
  | .and => K (.int k (k.wrap (bitop .and k x y)))
  | .or => K (.int k (k.wrap (bitop .or k x y)))
  | .xor => K (.int k (k.wrap (bitop .xor k x y)))
  | .andNot => K (.int k (k.wrap (bitop .andNot k x y)))
  | .eql => K (.bool (x == y))
  | .neq => K (.bool (x != y))
  | .lss => K (.bool (decide (x < y)))
  | .leq => K (.bool (decide (x ≤ y)))
  | .gtr => K (.bool (decide (x > y)))
  | .geq => K (.bool (decide (x ≥ y)))
  | _ => none
end
end Go.Proofs.Ytbaekdcacmoniaa.Pv
