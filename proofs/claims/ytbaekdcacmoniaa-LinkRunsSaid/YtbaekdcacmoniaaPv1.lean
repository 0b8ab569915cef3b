/- The pure machine: operations, regions, a run of a body, calls. Nothing is proved here. -/
import Derived.Test.YtbaekdcacmoniaaPv0
import Derived.Laws.BytesArg
namespace Go.Proofs.Ytbaekdcacmoniaa.Pv
open Go

/-- How an argument is read: as it is, as a value of a type, as what stands behind a pointer. -/
inductive Par : Type where
  | any
  | val (t : Ty)
  | ptr (t : Ty)
  | nilv (t : Ty)
  | lent (b : TypeId) (t : Ty)
  | guest (e : TypeId) (t : Ty)
/-- A place whose slice is laid anew at a point: a temporary, or a block's cell. -/
inductive Loc : Type where
  | tmp (t : Nat)
  | cell (b i : Nat)
structure Norm : Type where
  loc : Loc
  lbl : Option Nat
  e : TypeId
  t : Ty
structure Point : Type where
  keep : List Nat
  blks : List Nat
  norm : List Norm
/-- What is told of a function: how its arguments are read, its results' type (cell by cell), its named points. -/
structure FSig : Type where
  par : List Par
  res : Ty
  ann : List (Nat × Point)
def sigOf (f : FuncId) : List (FuncId × FSig) → Option FSig
  | [] => none
  | (g, s) :: r => if Nat.beq g f = true then some s else sigOf f r
def annOf (i : Nat) : List (Nat × Point) → Option Point
  | [] => none
  | (j, k) :: r => if Nat.beq j i = true then some k else annOf i r
def trimL (keep : List Nat) : Nat → List PV → List PV
  | _, [] => []
  | i, x :: r => (if memN i keep = true then x else .undef) :: trimL keep (i + 1) r
def trimB : List Nat → List (Nat × Blk) → List (Nat × Blk)
  | [], _ => []
  | id :: r, l => match look id l with | some b => (id, b) :: trimB r l | none => trimB r l
def St.trim (s : St) (k : Point) : St := ⟨trimL k.keep 0 s.env, trimB k.blks s.sto⟩
def St.get (s : St) : Loc → PV
  | .tmp t => nth s.env t
  | .cell b i => match look b s.sto with | some (.box _ cs) => nth cs i | _ => .undef
def St.know (s : St) (l : Loc) (p : PV) : St :=
  match l with
  | .tmp t => s.puto (some t) p
  | .cell b i => match look b s.sto with | some (.box t cs) => { s with sto := setb b (.box t (put cs i p)) s.sto } | _ => s
/-- The own row id under another label. -/
def St.relabel (s : St) (id L : Nat) : St :=
  if gst id = true then s else
  match look id (s.used L).sto with
  | some (.row e t l) => ⟨coolL id (.own L) .undef (s.used L).env, (L, .row e t l) :: dropb id (coolB id (.own L) .undef (s.used L).sto)⟩
  | some (.deep e e' t l none) => ⟨coolL id .undef (.deep L) (s.used L).env, (L, .deep e e' t l none) :: dropb id (coolB id .undef (.deep L) (s.used L).sto)⟩
  | _ => s
def St.norm (s : St) (n : Norm) : St :=
  match s.get n.loc, n.lbl with
  | .nils, none => s.know n.loc (.row n.e n.t [])
  | .empt, none => s.know n.loc (.row n.e n.t [])
  | .nils, some L => (match (s.add L (.row n.e n.t [])).get n.loc with | .nils => (s.add L (.row n.e n.t [])).know n.loc (.own L) | _ => s.add L (.row n.e n.t []))
  | .own id, none => s.cool id
  | .own id, some L => if Nat.beq id L = true then s else s.relabel id L
  | .deep id, none => s.cool id
  | .deep id, some L => if Nat.beq id L = true then s else s.relabel id L
  | _, _ => s
def St.norms (s : St) : List Norm → St
  | [] => s
  | n :: r => (s.norm n).norms r

/-- A Go type as a type of cells. -/
def tyFields (ty : TypeId → Option Ty) : List Field → Option Ty
  | [] => some .unit
  | [f] => ty f.type
  | f :: r => match ty f.type, tyFields ty r with | some a, some b => some (.prod a b) | _, _ => none
/-- An array's cells. -/
def repTy (t : Ty) : Nat → Ty
  | 0 => .unit
  | 1 => t
  | n + 2 => .prod t (repTy t (n + 1))
def tyOf (P : Program) : Nat → TypeId → Option Ty
  | 0, _ => none
  | n + 1, t =>
    match P.underlying t with
    | some (.int k) => some (.int k)
    | some .bool => some .bool
    | some .string => some .str
    | some (.slice e) => (tyOf P n e).map (.list false e)
    | some (.struct fs) => tyFields (tyOf P n) fs.toList
    | some (.array len e) => if Nat.ble len 16 = true then (tyOf P n e).map (fun t => repTy t len) else none
    | _ => none

mutual
def holdsOwn : PV → Bool
  | .own _ => true
  | .ref _ _ => true
  | .oelem _ _ _ _ => true
  | .deep _ => true
  | .delem _ _ => true
  | .sub _ _ => true
  | .cref cs _ => holdsOwnL cs
  | .func _ cs => holdsOwnL cs
  | .agg cs => holdsOwnL cs
  | .tuple cs => holdsOwnL cs
  | _ => false
def holdsOwnL : List PV → Bool
  | [] => false
  | x :: r => holdsOwn x || holdsOwnL r
end
/-- A cell within, as the callee may read it. -/
def viewIn0 (s : St) : PV → PV
  | .own id => match look id s.sto with | some (.row e t l) => .row e t l | _ => .undef
  | .deep id => match look id s.sto with | some (.deep e e' t l none) => .row e (.list false e' t) l | _ => .undef
  | v => if holdsOwn v = true then .undef else v
def viewIn (s : St) : PV → PV
  | .own id => match look id s.sto with | some (.row e t l) => .row e t l | _ => .undef
  | .deep id => match look id s.sto with | some (.deep e e' t l none) => .row e (.list false e' t) l | _ => .undef
  | .ref id off => match look id s.sto with | some (.box _ cs) => .cref (cs.map (viewIn0 s)) off | _ => .undef
  | v => if holdsOwn v = true then .undef else v
/-- An argument as the callee may read it. -/
def viewCell (s : St) : PV → PV
  | .own id => match look id s.sto with | some (.row e t l) => .row e t l | _ => .undef
  | .deep id => match look id s.sto with | some (.deep e e' t l none) => .row e (.list false e' t) l | _ => .undef
  | .delem _ _ => .undef
  | .sub _ _ => .undef
  | .ref id off => match look id s.sto with | some (.box _ cs) => .cref (cs.map (viewIn s)) off | _ => .undef
  | .oelem _ _ _ _ => .undef
  | .cref cs o => if holdsOwnL cs = true then .undef else .cref cs o
  | .func f cs => .func f (cs.map (viewIn s))
  | .agg _ => .undef
  | .tuple _ => .undef
  | v => v
def viewArg (s : St) : PV → PV
  | .agg cs => .agg (cs.map (viewCell s))
  | v => viewCell s v
def Ty.flat : Ty → Bool
  | .list _ _ _ => false
  | .prod a b => a.flat && b.flat
  | .tag _ _ t => t.flat
  | _ => true
/-- A result that may hand on what the callee was given to read. -/
def Ty.lends : Ty → Bool
  | .list own _ t => !(own && t.flat)
  | .prod a b => a.lends || b.lends
  | .tag _ _ t => !t.flat
  | _ => false

/-- An argument as its type reads it. -/
def canonP : Par → PV → PV
  | .any, p => p
  | .val t, p => match uncells t (cellsOfPV p) with | some (x, []) => (match p with | .agg _ => .agg (cells t x) | _ => nth (cells t x) 0) | _ => .undef
  | .ptr t, .cref cs off => match uncells t cs with | some (x, []) => .cref (cells t x) off | _ => .undef
  | .ptr _, _ => .undef
  | .nilv _, .nils => .nils
  | .nilv t, p => match uncells t (cellsOfPV p) with | some (x, []) => (match p with | .agg _ => .agg (cells t x) | _ => nth (cells t x) 0) | _ => .undef
  | .lent _ _, p => p
  | .guest _ _, p => p
def canonL : List Par → List PV → List PV
  | [], ps => ps
  | _ :: _, [] => []
  | c :: cs, p :: ps => canonP c p :: canonL cs ps
def isLent : Par → Bool
  | .lent _ _ => true
  | _ => false
/-- The parameter that is a box of the caller's, changed in place: its place, its type, its cells' type. -/
def lentAt : List Par → Option (Nat × TypeId × Ty)
  | [] => none
  | .lent b t :: r => if r.any isLent = true then none else some (0, b, t)
  | _ :: r => match lentAt r with | some (i, b, t) => some (i + 1, b, t) | none => none
/-- The row that the call may look at: its place, its elements. -/
def guestAt : List Par → Option (Nat × TypeId × Ty)
  | [] => none
  | .guest e t :: _ => some (0, e, t)
  | _ :: r => match guestAt r with | some (i, e, t) => some (i + 1, e, t) | none => none
def blankG (par : List Par) (args : List PV) : List PV :=
  match guestAt par with
  | none => args
  | some (j, _, _) => put args j .undef
/-- A row as its caller hands it over to be looked at. -/
def guestV (s : St) (e : TypeId) (t : Ty) : PV → Option (List t.den)
  | .nils => some []
  | .own id => match look id s.sto with | some (.row e' t' l) => sameRow e t e' t' l | _ => none
  | _ => none
def gstL (j : Nat) : Nat := Nat.add 8000000 j
def putG (s : St) (par : List Par) (args args' : List PV) : Option (List PV) :=
  match guestAt par with
  | none => some args'
  | some (j, e, t) => (guestV s e t (nth args j)).map fun l => put args' j (.row e t l)
def guestOk (par : List Par) (args : List PV) (ids : List Nat) : Bool :=
  match guestAt par with
  | none => true
  | some (j, _, _) => match nth args j with | .own k => !memN k ids | _ => true
/-- The guest's label in the state that a call begins in. -/
def startG (par : List Par) (args : List PV) (s : St) : Option St :=
  match guestAt par with
  | none => some s
  | some (j, e, t) =>
    match nth args j with
    | .row e' t' l => (sameRow e t e' t' l).map fun l => (s.add (gstL j) (.row e t l)).puto (some j) (.own (gstL j))
    | _ => none
def St.usedL (s : St) : List Nat → St
  | [] => s
  | i :: r => (s.used i).usedL r
def St.setBox (s : St) (id : Nat) (cs : List PV) : St :=
  match look id s.sto with
  | some (.box t _) => { s with sto := setb id (.box t cs) s.sto }
  | _ => s
section
variable {R : Type}
/-- A row of one's own, of elements of type t: rows again, or not. -/
def rowB (e : TypeId) : (t : Ty) → List t.den → Blk
  | .list true e' t, l => .deep e e' t l none
  | t, l => .row e t l
def rowP (b : Nat) : Ty → PV
  | .list true _ _ => .deep b
  | _ => .own b
/-- A call's result: its cells; own rows get labels from lbl on. -/
def resCells : (t : Ty) → t.den → Nat → St → (List PV → Nat → St → Option R) → Option R
  | .int k, n, b, s, K => K [.int k n] b s
  | .bool, x, b, s, K => K [.bool x] b s
  | .str, x, b, s, K => K [.str x] b s
  | .list true e t, l, b, s, K => K [rowP b t] (b + 1) (s.add b (rowB e t l))
  | .list false e t, l, b, s, K => K [.row e t l] b s
  | .prod x y, p, b, s, K => resCells x p.1 b s fun cs b' s' => resCells y p.2 b' s' fun cs' b'' s'' => K (cs ++ cs') b'' s''
  | .unit, _, b, s, K => K [] b s
  | .tag q ag t, x, b, s, K => K (cells (.tag q ag t) x) b s
/-- A lent box's type number: from 1000000 on the pointer stands in an interface. -/
def boxT (b : Nat) : TypeId := Nat.mod b 1000000
def lentP (b : Nat) (p : PV) : PV :=
  match Nat.div b 1000000 with
  | 0 => p
  | q + 1 => .func (1000000 + q) [p]
def unLent (b : Nat) (p : PV) : PV :=
  match Nat.div b 1000000 with
  | 0 => p
  | q + 1 => match p with
    | .func f [p'] => if Nat.beq f (1000000 + q) = true then p' else .undef
    | _ => .undef
/-- The state that a call begins in. -/
def startS (par : List Par) (args : List PV) (n : Nat) : Option St :=
  match lentAt par with
  | none => some ⟨args ++ List.replicate (n - args.length) .undef, []⟩
  | some (i, b, t) =>
    match nth args i with
    | .cref cs 0 =>
      match uncells t cs with
      | some (x, []) =>
        resCells t x (pinL i + 1) ⟨blankG par (put args i .undef) ++ List.replicate (n - args.length) .undef, []⟩ fun cs' _ s =>
          startG par args ⟨put (s.add (pinL i) (.box (boxT b) cs')).env i (lentP b (.ref (pinL i) 0)), (s.add (pinL i) (.box (boxT b) cs')).sto⟩
      | _ => none
    | _ => none
/-- A box that was lent, as the call leaves it. -/
def lentCells (par : List Par) (s : St) : Option (List PV) :=
  match lentAt par with
  | none => some []
  | some (i, b, t) => (match unLent b (nth s.env i) with
    | .ref id 0 => (match look id s.sto with | some (.box b' cs) => if (Nat.beq id (pinL i) && Nat.beq b' (boxT b) && Nat.beq cs.length t.sz) = true then some cs else none | _ => none)
    | _ => none)
/-- Cells dealt to results of these types. -/
def deal (P : Program) : List TypeId → List PV → Option (List PV)
  | [], [] => some []
  | [], _ :: _ => none
  | t :: ts, cs =>
    match aggT P t with
    | some true =>
      match sizeT P t with
      | some n => if n ≤ cs.length then (deal P ts (cs.drop n)).map (.agg (cs.take n) :: ·) else none
      | none => none
    | some false =>
      match cs with
      | c :: r => (deal P ts r).map (c :: ·)
      | [] => none
    | none => none
def wrapRes : List PV → PV
  | [v] => v
  | vs => .tuple vs

def capsOf : PV → List PV
  | .func _ cs => cs
  | _ => []
def ofBool : PV → (Bool → Option R) → Option R
  | .bool b, K => K b
  | _, _ => none
/-- A guard: a bool, or nothing, where its own operation was not wanted. -/
def guardV : PV → (Bool → Option R) → Option R → Option R
  | .bool b, K, _ => K b
  | .tuple [], _, Z => Z
  | _, _, _ => none
def ofInt : PV → (Int → Option R) → Option R
  | .int _ n, K => K n
  | _, _ => none
def evBin (P : Program) (t : TypeId) (op : BinOp) (x y : PV) (K : PV → Option R) : Option R :=
  match x, y with
  | .int k a, .int k' b =>
    match op with
    | .shl => if b < 0 then none else K (.int k (k.wrap (a * 2 ^ min b.toNat k.bits)))
    | .shr => if b < 0 then none else K (.int k (a.fdiv (2 ^ min b.toNat k.bits)))
    | _ => if k = k' then arith op k a b K else none
  | .str a, .str b =>
    match op with
    | .add => if a.size + b.size < 9223372036854775807 then K (.str (a ++ b)) else none
    | .eql => K (.bool (a.toList == b.toList))
    | .neq => K (.bool (!(a.toList == b.toList)))
    | _ => none
  | .bool a, .bool b =>
    match op, P.underlying t with
    | .eql, some .bool => K (.bool (a == b))
    | .neq, some .bool => K (.bool (!(a == b)))
    | _, _ => none
  | .agg a, .agg b =>
    if P.eqGuardType P.depth t = true then none else
    match op, eqT P 40 t (.agg a) (.agg b) with
    | .eql, some q => K (.bool q)
    | .neq, some q => K (.bool (!q))
    | _, _ => none
  | .row _ _ l, .nils =>
    match op, P.underlying t with
    | .eql, some (.slice _) => if l.isEmpty = true then none else K (.bool false)
    | .neq, some (.slice _) => if l.isEmpty = true then none else K (.bool true)
    | _, _ => none
  | .zrow, .nils =>
    match op, P.underlying t with
    | .eql, some (.slice _) => K (.bool false)
    | .neq, some (.slice _) => K (.bool true)
    | _, _ => none
  | .nils, .nils =>
    match op, P.underlying t with
    | .eql, some (.slice _) => K (.bool true)
    | .neq, some (.slice _) => K (.bool false)
    | _, _ => none
  | _, _ => none
def evUn (op : UnOp) (x : PV) (K : PV → Option R) : Option R :=
  match op, x with
  | .neg, .int k n => K (.int k (k.wrap (0 - n)))
  | .not, .bool b => K (.bool (!b))
  | .xor, .int k n => K (.int k (k.wrap (bitop .xor k (if k.signed then -1 else k.max) n)))
  | _, _ => none
def bytesOf (s : ByteArray) : List Int := s.data.toList.map fun b => (b.toNat : Int)
def strOf (l : List Int) : ByteArray := strOfNums l
/-- A slice's contents, of element type e and cells' type t. -/
def contents (s : St) (e : TypeId) (t : Ty) : PV → Option (List t.den)
  | .nils => some []
  | .empt => some []
  | .zrow => some []
  | .row e' t' l => sameRow e t e' t' l
  | .own id =>
    match look id s.sto with
    | some (.row e' t' l) => sameRow e t e' t' l
    | _ => none
  | _ => none
def evConv (P : Program) (s : St) (src dst : TypeId) (x : PV) (K : PV → St → Option R) : Option R :=
  match P.underlying src, P.underlying dst, x with
  | some _, some (.int k), .int _ n => K (.int k (k.wrap n)) s
  | some .string, some .string, .str a => K (.str a) s
  | some (.slice e), some .string, v =>
    match P.underlying e, contents s e (.int .u8) v with
    | some (.int .u8), some l => K (.str (strOf l)) s
    | _, _ => none
  | some .string, some (.slice e), .str a =>
    match P.underlying e with
    | some (.int .u8) => if a.size ≤ 140737488355328 then K (.row e (.int .u8) (bytesOf a)) s else none
    | _ => none
  | _, _, _ => none
def evLoad (P : Program) (s : St) (t : TypeId) (a : PV) : Option PV :=
  match a with
  | .ref id off => match look id s.sto with | some (.box _ cs) => partT P t cs off | _ => none
  | .cref cs off => partT P t cs off
  | .elem τ x off => partT P t (cells τ x) off
  | .oelem id z i off => match look id s.sto with | some (.row _ τ l) => if Nat.beq z τ.sz = true then partT P t (cells τ (l.getD i.toNat τ.dflt)) off else none | _ => none
  | .delem id i => match look id s.sto with | some (.deep _ _ _ _ none) => (match aggT P t with | some false => some (.sub id i) | _ => none) | _ => none
  | _ => none
def splice (cs : List PV) (off : Nat) (v : List PV) : List PV := cs.take off ++ v ++ cs.drop (off + v.length)
def evStore (P : Program) (s : St) (t : TypeId) (a x : PV) (K : St → Option R) : Option R :=
  match sizeT P t with
  | none => none
  | some n =>
    if (Nat.beq (cellsOfPV x).length n && solids s.sto (cellsOfPV x)) = true then
      match a with
      | .ref id off =>
        match look id s.sto with
        | some (.box t0 cs) => if Nat.ble (off + n) cs.length = true then K { s with sto := setb id (.box t0 (splice cs off (cellsOfPV x))) s.sto } else none
        | _ => none
      | .oelem id z i off =>
        match look id s.sto with
        | some (.row e τ l) =>
          if (Nat.beq z τ.sz && Nat.ble (off + n) τ.sz && !gst id) = true then
            match uncells τ (splice (cells τ (l.getD i.toNat τ.dflt)) off (cellsOfPV x)) with
            | some (y, []) => K { s with sto := setb id (.row e τ (l.set i.toNat y)) s.sto }
            | _ => none
          else none
        | _ => none
      | _ => none
    else none
def fieldOff (P : Program) (st : TypeId) (f : Nat) : Option Field :=
  match P.underlying st with
  | some (.struct fs) =>
    match fs.toList[f]? with
    | some fd => match sizeT P fd.type with | some (_ + 1) => some fd | _ => none
    | none => none
  | _ => none
def fillParts (sto : List (Nat × Blk)) (sz : Nat → Option (Nat × Nat)) : List PV → List (Nat × PV) → Option (List PV)
  | cs, [] => some cs
  | cs, (i, v) :: r =>
    match sz i with
    | some (off, n) => if (known sto v && Nat.beq (cellsOfPV v).length n && Nat.ble (off + n) cs.length) = true then fillParts sto sz (splice cs off (cellsOfPV v)) r else none
    | none => none
def places (P : Program) : List Field → Option (List (Nat × Nat))
  | [] => some []
  | f :: r => match sizeT P f.type, places P r with | some n, some l => some ((f.offset, n) :: l) | _, _ => none
def evBuild (P : Program) (sto : List (Nat × Blk)) (t : TypeId) (parts : List (Nat × PV)) : Option PV :=
  match zeroT P t, P.underlying t with
  | some z, some (.struct fs) =>
    match places P fs.toList with
    | some ps => (fillParts sto (fun i => ps[i]?) (cellsOfPV z) parts).map .agg
    | none => none
  | some z, some (.array _ e) =>
    match sizeT P e with
    | some n => (fillParts sto (fun i => some (i * n, n)) (cellsOfPV z) parts).map .agg
    | none => none
  | _, _ => none
/-- The elements of a slice's literal. -/
def litRow (sto : List (Nat × Blk)) (τ : Ty) : Nat → List (Nat × PV) → Option (List τ.den)
  | _, [] => some []
  | i, (j, v) :: r =>
    if (Nat.beq i j && known sto v) = true then
      match uncells τ (cellsOfPV v) with
      | some (x, []) => match litRow sto τ (i + 1) r with | some l => some (x :: l) | none => none
      | _ => none
    else none
/-- What is asked of an element's type by the laws of append and make: its type of cells, its bytes, its zero. -/
def elemT (P : Program) (t : TypeId) : Option (TypeId × Ty × Nat) :=
  match P.underlying t with
  | some (.slice e) =>
    match tyOf P 20 e, bytesT P e, sizeT P e, zeroT P e with
    | some τ, some b, some n, some z => if (Nat.beq n τ.sz && Nat.ble 1 n && Nat.ble 1 b && Nat.beq (cellsOfPV z).length n) = true then some (e, τ, b) else none
    | _, _, _, _ => none
  | _ => none
/-- t is a slice's type, of elements of n cells. -/
def stride (P : Program) (t : TypeId) (n : Nat) : Bool :=
  match P.underlying t with
  | some (.slice e) => (match sizeT P e with | some z => Nat.beq z n | none => false)
  | _ => false
def evIndexAddr (P : Program) (s : St) (t : TypeId) (x i : PV) (K : PV → Option R) : Option R :=
  match i with
  | .int _ n =>
    match x with
    | .row _ τ l => if stride P t τ.sz = true then (if 0 ≤ n then (if n < (l.length : Int) then K (.elem τ (l.getD n.toNat τ.dflt) 0) else none) else none) else none
    | .own id =>
      match look id s.sto with
      | some (.row _ τ l) => if stride P t τ.sz = true then (if 0 ≤ n then (if n < (l.length : Int) then K (.oelem id τ.sz n 0) else none) else none) else none
      | _ => none
    | .deep id =>
      match look id s.sto with
      | some (.deep _ _ _ l _) => if stride P t 1 = true then (if 0 ≤ n then (if n < (l.length : Int) then K (.delem id n) else none) else none) else none
      | _ => none
    | .ref id off =>
      match P.underlying t with
      | some (.array len e) =>
        match sizeT P e with
        | some sz => if 0 ≤ n then (if n < (len : Int) then K (.ref id (off + n.toNat * sz)) else none) else none
        | none => none
      | _ => none
    | _ => none
  | _ => none
def intsOf (k : IntKind) : List PV → Option (List Int)
  | [] => some []
  | .int k' x :: r => if k' = k then (match intsOf k r with | some l => some (x :: l) | none => none) else none
  | _ => none
/-- An element of an array's value; of whole numbers: by a list. -/
def elemA (P : Program) (e : TypeId) (len sz : Nat) (cs : List PV) (n : Int) : Option PV :=
  match sz, cs, aggT P e with
  | 1, .int k x :: r, some false =>
    (match intsOf k (.int k x :: r) with
    | some l => if Nat.beq l.length len = true then some (.int k (l.getD n.toNat 0)) else none
    | none => partT P e cs (n.toNat * sz))
  | _, _, _ => partT P e cs (n.toNat * sz)
def evIndex (P : Program) (t : TypeId) (x i : PV) (K : PV → Option R) : Option R :=
  match i, x, P.underlying t with
  | .int _ n, .str a, some .string => if 0 ≤ n then (if n < (a.size : Int) then K (.int .u8 ((bytesOf a).getD n.toNat 0)) else none) else none
  | .int _ n, .agg cs, some (.array len e) =>
    if 0 ≤ n then (if n < (len : Int) then (match sizeT P e with | some sz => (match elemA P e len sz cs n with | some v => K v | none => none) | none => none) else none) else none
  | _, _, _ => none
def bound (lo hi : Int) (n : Option PV) (d : Int) (K : Int → Option R) : Option R :=
  match n with
  | none => K d
  | some (.int _ i) => if lo ≤ i then (if i ≤ hi then K i else none) else none
  | some _ => none
def evSlice (P : Program) (s : St) (d : Nat) (t : TypeId) (x : PV) (lo hi : Option PV) (K : PV → St → Option R) : Option R :=
  match P.underlying t with
  | some .string =>
    match x with
    | .str a => bound 0 a.size hi a.size fun h => bound 0 h lo 0 fun l => K (.str (a.extract l.toNat h.toNat)) s
    | _ => none
  | some (.slice e0) =>
    match x with
    | .nils => if (sizeT P e0).isSome = true then (bound 0 (0 : Nat) hi (0 : Nat) fun h => bound 0 h lo 0 fun _ => K .nils s) else none
    | .row e τ r => if stride P t τ.sz = true then (bound 0 r.length hi r.length fun h => bound 0 h lo 0 fun l => K (.row e τ ((r.take h.toNat).drop l.toNat)) s) else none
    | .own id =>
      match look id s.sto, lo with
      | some (.row e τ r), none => if (stride P t τ.sz && !gst id) = true then (bound 0 r.length hi r.length fun h => K (.own d) (St.add ⟨s.env, dropb id s.sto⟩ d (.row e τ (r.take h.toNat)))) else none
      | some (.row e τ r), some _ => if (stride P t τ.sz && !gst id) = true then (bound 0 r.length hi r.length fun h => bound 0 h lo 0 fun l => K (.row e τ ((r.take h.toNat).drop l.toNat)) (s.cool id)) else none
      | _, _ => none
    | _ => none
  | _ => none
/-- s[:0:0]. -/
def evEmpt (s : St) (x : PV) (K : PV → St → Option R) : Option R :=
  match x with
  | .nils => K .empt s
  | .empt => K .empt s
  | .row _ _ _ => K .empt s
  | .own id => (match look id s.sto with | some (.row _ _ _) => K .empt s | _ => none)
  | _ => none
/-- A row of rows gets a hole, and a new row has another label. -/
def St.opened (s : St) (d id : Nat) (b1 b2 : Blk) : St := St.add { s with sto := setb id b2 s.sto } d b1
/-- append: the base is nil, or empty without room, or an own row, which is used up, or an element of a row of rows, which is taken out. -/
def evAppend (P : Program) (s : St) (d : Nat) (t : TypeId) (x y : PV) (K : PV → St → Option R) : Option R :=
  match elemT P t with
  | some (e, τ, b) =>
    match x with
    | .nils =>
      match contents s e τ y with
      | some m => if m.length * b ≤ 140737488355328 then K (.own d) (s.add d (.row e τ m)) else none
      | none => none
    | .empt =>
      match contents s e τ y with
      | some m => if m.length * b ≤ 140737488355328 then K (.own d) (s.add d (.row e τ m)) else none
      | none => none
    | .own id =>
      match contents s e τ (.own id), contents ⟨s.env, dropb id s.sto⟩ e τ y with
      | some l, some m =>
        if (!holds d y && !gst id) = true then
          (if (l.length + m.length) * b ≤ 140737488355328 then K (.own d) (St.add ⟨s.env, dropb id s.sto⟩ d (.row e τ (l ++ m))) else none)
        else none
      | _, _ => none
    | .sub id i =>
      match look id s.sto with
      | some (.deep e0 e' τ' l none) =>
        match sameRow e τ e' τ' (l.getD i.toNat []), contents s e τ y with
        | some l0, some m =>
          if (!Nat.beq d id && !holds d y) = true then
            (if (l0.length + m.length) * b ≤ 140737488355328 then K (.own d) (s.opened d id (.row e τ (l0 ++ m)) (.deep e0 e' τ' l (some i))) else none)
          else none
        | _, _ => none
      | _ => none
    | _ => none
  | none => none
/-- The elements' type of a row that is made: rows among them are one's own. -/
def openT : Ty → Ty
  | .list _ e t => .list true e t
  | t => t
def replT : (t : Ty) → Nat → t.den → List (openT t).den
  | .list _ _ _, n, x => List.replicate n x
  | .int _, n, x => List.replicate n x
  | .bool, n, x => List.replicate n x
  | .str, n, x => List.replicate n x
  | .prod _ _, n, x => List.replicate n x
  | .unit, n, x => List.replicate n x
  | .tag _ _ _, n, x => List.replicate n x
/-- Whether the rows in a row that is made under d are only read (the label is told of among the functions). -/
def plainAt (S : List (FuncId × FSig)) (d : Nat) : Bool :=
  match sigOf (Nat.add 9000000 d) S with
  | some _ => true
  | none => false
def evMake (P : Program) (pl : Bool) (s : St) (d : Nat) (t : TypeId) (l c : PV) (K : PV → St → Option R) : Option R :=
  match elemT P t, l, c with
  | some (e, τ, b), .int _ n, .int _ m =>
    match zeroT P e with
    | some z =>
      match uncells τ (cellsOfPV z) with
      | some (x0, []) =>
        if n = m then (if 0 ≤ n then (if n.toNat * b ≤ 140737488355328 then (if pl = true then K (.own d) (s.add d (.row e τ (List.replicate n.toNat x0))) else K (rowP d (openT τ)) (s.add d (rowB e (openT τ) (replT τ n.toNat x0)))) else none) else none)
        else if (deepT (openT τ) && !pl) = true then none
        else if n = 0 then (if 0 ≤ m then (if m.toNat * b ≤ 140737488355328 then K (.own d) (s.add d (.row e τ [])) else none) else none)
        else none
      | _ => none
    | none => none
  | _, _, _ => none
def isIntT (P : Program) (t : TypeId) : Bool :=
  match P.underlying t with
  | some (.int _) => true
  | _ => false
/-- append(nil, make(.., n)...). -/
def evZeros (P : Program) (s : St) (d : Nat) (t : TypeId) (x y : PV) (K : PV → St → Option R) : Option R :=
  match elemT P t, x, y with
  | some (e, τ, b), .nils, .int _ n =>
    match zeroT P e with
    | some z =>
      match uncells τ (cellsOfPV z) with
      | some (x0, []) => if 0 < n then (if n.toNat * b ≤ 140737488355328 then K (.own d) (s.add d (.row e τ (List.replicate n.toNat x0))) else none) else none
      | _ => none
    | none => none
  | _, _, _ => none
def isStr : PV → Bool
  | .str _ => true
  | _ => false
def foldMin (le : Int → Int → Bool) : IntKind → Int → List PV → Option PV
  | k, x, [] => some (.int k x)
  | k, x, .int _ y :: r => foldMin le k (if le x y then x else y) r
  | _, _, _ => none
def evBuiltin (P : Program) (s : St) (d : Nat) (b : Builtin) (ts : List TypeId) (xs : List PV) (K : PV → St → Option R) : Option R :=
  match b, ts, xs with
  | .len, t :: _, [x] => (match P.underlying t, lenPV s x with
    | some .string, some n => if isStr x = true then K (.int .i64 (n : Int)) s else none
    | some (.slice _), some n => if isStr x = true then none else K (.int .i64 (n : Int)) s
    | _, _ => none)
  | .append, [t, t'], [x, y] => if Nat.beq t t' = true then evAppend P s d t x y K else if isIntT P t' = true then evZeros P s d t x y K else none
  | .cap, t :: _, [.nils] => (match P.underlying t with | some (.slice _) => K (.int .i64 0) s | _ => none)
  | .cap, t :: _, [.empt] => (match P.underlying t with | some (.slice _) => K (.int .i64 0) s | _ => none)
  | .min, _, [.int k x, .int _ y] => K (.int k (if y < x then y else x)) s
  | .max, _, [.int k x, .int _ y] => K (.int k (if x < y then y else x)) s
  | .min, _, [.int k x, .int _ y, .int _ z] => K (.int k (if z < (if y < x then y else x) then z else (if y < x then y else x))) s
  | .max, _, [.int k x, .int _ y, .int _ z] => K (.int k (if (if x < y then y else x) < z then z else (if x < y then y else x))) s
  | _, _, _ => none
/-- A call whose argument may be nil or empty. -/
def callN (callT : (f : FuncId) → (g : FSig) → List PV → Option g.res.den) (f : FuncId) (g : FSig) (args : List PV) : Option g.res.den :=
  match g.par, args with
  | [.nilv _], [.row e t l] => nilOr g.res l.isEmpty (callT f g [.nils]) (callT f g [.zrow]) (callT f g [.row e t l])
  | _, _ => callT f g args
/-- A call of a function, its arguments known. -/
def callIn (P : Program) (callT : (f : FuncId) → (g : FSig) → List PV → Option g.res.den) (f : FuncId) (g : FSig) (fn : Func) (d : Nat) (s : St) (args : List PV) (K : PV → St → Option R) : Option R :=
  if (g.res.lends && holdsOwnL args) = true then none else
  (callN callT f g (canonL g.par (args.map (viewArg s)))).bind fun r =>
    resCells g.res r ((d + 1) * 1000) s fun cs _ s' =>
      match deal P fn.resultTypes.toList cs with
      | some vs => K (wrapRes vs) s'
      | none => none
/-- A call of a function that changes a box of the caller's. -/
def callLent (P : Program) (callT : (f : FuncId) → (g : FSig) → List PV → Option g.res.den) (f : FuncId) (g : FSig) (fn : Func) (d : Nat) (s : St) (i : Nat) (b : TypeId) (t : Ty) (args : List PV) (K : PV → St → Option R) : Option R :=
  match unLent b (nth args i) with
  | .ref id 0 =>
    match look id s.sto with
    | some (.box b' cs) =>
      if (Nat.beq b' (boxT b) && Nat.beq cs.length t.sz && nodupO (ownIdsL cs) && !holdsOwnL (blankG g.par (put args i .undef)) && guestOk g.par args (ownIdsL cs)) = true then
        match unres s.sto t cs with
        | some (x, []) =>
          (putG s g.par args (put (canonL g.par (blankG g.par (put args i .undef))) i (.cref (cells t x) 0))).bind fun args2 => (callT f g args2).bind fun r =>
            resCells g.res r ((d + 1) * 1000) ((s.usedL (ownIdsL cs)).setBox id (List.replicate cs.length .undef)) fun cs2 m s' =>
              if (Nat.blt id ((d + 1) * 1000) || Nat.ble m id) = true then
                match deal P fn.resultTypes.toList (cs2.take (cs2.length - t.sz)) with
                | some vs => K (wrapRes vs) (s'.setBox id (cs2.drop (cs2.length - t.sz)))
                | none => none
              else none
        | _ => none
      else none
    | _ => none
  | _ => none
/-- A function without a body. -/
def natOf (P : Program) (f : FuncId) : Option Func :=
  match P.funcs[f]? with
  | some fn => (match fn.body with | none => (if (fn.origin == "") = true then some fn else none) | some _ => none)
  | none => none
/-- The functions without a body that are known. -/
def evNat (nm : String) (args : List PV) (K : PV → Option R) : Option R :=
  match args with
  | [.int .u64 x, .int .u64 y, .int .u64 c] =>
    if (nm == "math/bits.Add64") = true then
      (if c.toNat ≤ 1 then K (.tuple [.int .u64 (((x.toNat + y.toNat + c.toNat) % 18446744073709551616 : Nat) : Int), .int .u64 (((x.toNat + y.toNat + c.toNat) / 18446744073709551616 : Nat) : Int)]) else none)
    else if (nm == "math/bits.Sub64") = true then
      (if c.toNat ≤ 1 then K (.tuple [.int .u64 (((x.toNat + 18446744073709551616 - y.toNat - c.toNat) % 18446744073709551616 : Nat) : Int), .int .u64 ((if x.toNat < y.toNat + c.toNat then 1 else 0 : Nat) : Int)]) else none)
    else none
  | _ => none
def evLookup (P : Program) (s : St) (t : TypeId) (x i : PV) (comma : Bool) (K : PV → Option R) : Option R :=
  match x with
  | .own id =>
    match look id s.sto with
    | some (.map k v l) =>
      if mapT P t = some (k, v) then
        match uncells k [i] with
        | some (y, []) =>
          if comma = true then K (.tuple (cells v ((lookM k v y l).getD v.dflt) ++ [.bool (lookM k v y l).isSome]))
          else K (nth (cells v ((lookM k v y l).getD v.dflt)) 0)
        | _ => none
      else none
    | _ => none
  | _ => none
def evMapUpdate (P : Program) (s : St) (t : TypeId) (x i y : PV) (K : St → Option R) : Option R :=
  match x with
  | .own id =>
    match look id s.sto with
    | some (.map k v l) =>
      if mapT P t = some (k, v) then
        match uncells k [i], uncells v [y] with
        | some (a, []), some (b, []) => K { s with sto := setb id (.map k v (updM k v a b l)) s.sto }
        | _, _ => none
      else none
    | _ => none
  | _ => none
def evMakeMap (P : Program) (s : St) (d : Nat) (t : TypeId) (r : Option PV) (K : PV → St → Option R) : Option R :=
  match mapT P t with
  | some (k, v) =>
    (match r with
    | none => K (.own d) (s.add d (.map k v []))
    | some (.int _ _) => K (.own d) (s.add d (.map k v []))
    | some _ => none)
  | none => none
/-- A row of rows turns; nobody holds it as a row. -/
def St.deepAs (s : St) (id : Nat) (b : Blk) : St := ⟨coolL id .undef (.deep id) s.env, setb id b (coolB id .undef (.deep id) s.sto)⟩
/-- A row of one's own is laid into the hole of a row of rows. -/
def evClose (P : Program) (s : St) (t : TypeId) (id : Nat) (i : Int) (x : PV) (K : St → Option R) : Option R :=
  match x, look id s.sto with
  | .own k, some (.deep e e' τ l h) =>
    match look k s.sto with
    | some (.row e1 t1 m) =>
      if (sizeT P t == some 1 && !gst k) = true then
        match sameRow e' τ e1 t1 m with
        | some m' =>
          match h with
          | none => K ((s.used k).deepAs id (.deep e e' τ (l.set i.toNat m') none))
          | some j => if i = j then K ((s.used k).deepAs id (.deep e e' τ (l.set i.toNat m') none)) else none
        | none => none
      else none
    | _ => none
  | _, _ => none
/-- A type that is no interface. -/
def concT (P : Program) (t : TypeId) : Bool :=
  match P.underlying t with
  | none => false
  | some (.interface _) => false
  | some _ => true
/-- The function that a pointer's method is. -/
def methT (P : Program) (q : TypeId) (nm : String) : Option FuncId :=
  match P.info? q with
  | some i =>
    match i.methods.find? (·.name == nm) with
    | some m => if m.path.toList.isEmpty = true then (match m.func, P.underlying q with
      | some (f, true), some (.pointer _) => some f
      | _, _ => none) else none
    | none => none
  | none => none
/-- The own rows that a type wants only to read. -/
def coldIds : Ty → List PV → List Nat
  | .list false _ _, .own id :: _ => [id]
  | .list false _ _, .deep id :: _ => [id]
  | .prod a b, cs => coldIds a (cs.take a.sz) ++ coldIds b (cs.drop a.sz)
  | _, _ => []
/-- The own rows that are only read once a box is lent: those of the other arguments, and those of the box that the callee only reads. -/
def lentIds (s : St) (i : Nat) (b : TypeId) (t : Ty) (args : List PV) : List Nat :=
  ownIdsL args ++ (match unLent b (nth args i) with
    | .ref id _ => (match look id s.sto with | some (.box _ cs) => coldIds t cs | _ => [])
    | _ => [])
/-- A library function that the machine knows by its contract: an entry at 8000000 + f says which one, and its types. -/
def libOf (f : FuncId) (S : List (FuncId × FSig)) : Option (Nat × List Nat) :=
  match sigOf (Nat.add 8000000 f) S with
  | some g => (match g.ann with | [(k, p)] => some (k, p.keep) | _ => none)
  | none => none
def bptr (id : Nat) : PV → Bool
  | .nilp => true
  | .ref j 0 => Nat.beq j id
  | _ => false
def inByte (n : Int) : Bool := decide (0 ≤ n) && decide (n ≤ 255)
/-- The state with a builder's bytes under label L; sA: the state without the old ones. -/
def St.built (sA : St) (id L : Nat) (e : TypeId) (l : List Int) : St := (sA.add L (.row e (.int .u8) l)).setBox id [.ref id 0, .own L]
/-- A builder's bytes, and the state without their row. -/
def bldRow (s : St) (T e id : Nat) : Option (List Int × St) :=
  match look id s.sto with
  | some (.box T' [c0, c1]) =>
    if (Nat.beq T' T && bptr id c0) = true then
      match c1 with
      | .nils => some ([], ⟨s.env, setb id (.box T [.ref id 0, .nils]) s.sto⟩)
      | .own j =>
        if (Nat.beq j id || gst j) = true then none else
        match look j s.sto with
        | some (.row e' (.int .u8) l) => if Nat.beq e' e = true then some (l, St.used ⟨s.env, setb id (.box T [.ref id 0, .own j]) s.sto⟩ j) else none
        | _ => none
      | _ => none
    else none
  | _ => none
/-- What String asks, a builder's bytes, and the state behind String. -/
def bldStr (s : St) (T e id : Nat) : Option (Bool × List Int × St) :=
  match look id s.sto with
  | some (.box T' [_, c1]) =>
    if Nat.beq T' T = true then
      match c1 with
      | .nils => some (true, [], s)
      | .own j =>
        if (Nat.beq j id || gst j) = true then none else
        match look j s.sto with
        | some (.row e' (.int .u8) l) => if Nat.beq e' e = true then some (!l.isEmpty && l.all inByte, l, s.used j) else none
        | _ => none
      | _ => none
    else none
  | _ => none
/-- A call of a library function. -/
def evLib (s : St) (od : Option Tmp) (k : Nat) (ts : List Nat) (args : List PV) (K : PV → St → Option R) : Option R :=
  match od, ts, args with
  | some d, [T, _, _, e], .ref id 0 :: as =>
    if Nat.beq id d = true then none else
    match k, as with
    | 0, [.str x] => (match bldRow s T e id with
      | some (l, sA) => if l.length + x.size ≤ 140737488355328 then K (.tuple [.int .i64 (x.size : Nat), .func 1000000 []]) (sA.built id d e (l ++ bytesOf x)) else none
      | none => none)
    | 1, [.int .u8 x] => (match bldRow s T e id with
      | some (l, sA) => if l.length + 1 ≤ 140737488355328 then K (.func 1000000 []) (sA.built id d e (l ++ [x])) else none
      | none => none)
    | 2, [] => (match bldStr s T e id with
      | some (t, l, sA) => if t = true then K (.str (strOf l)) sA else none
      | none => none)
    | _, _ => none
  | _, _, _ => none
/-! Library functions that make nothing but a string, and Split. -/
def digs : Nat → Nat → List UInt8
  | 0, _ => []
  | f + 1, u => if Nat.blt u 10 = true then [UInt8.ofNat (48 + u)] else digs f (u / 10) ++ [UInt8.ofNat (48 + u % 10)]
def itoaB (n : Int) : ByteArray := ⟨(if n < 0 then 45 :: digs 20 n.natAbs else digs 20 n.toNat).toArray⟩
def joinB (sep : ByteArray) : List ByteArray → ByteArray
  | [] => ByteArray.empty
  | [x] => x
  | x :: y :: r => x ++ (sep ++ joinB sep (y :: r))
def splitL (c : UInt8) : List UInt8 → List (List UInt8)
  | [] => [[]]
  | x :: r => if x = c then [] :: splitL c r else (match splitL c r with | [] => [[x]] | y :: q => (x :: y) :: q)
def splitB (c : UInt8) (s : ByteArray) : List ByteArray := (splitL c s.data.toList).map fun l => ⟨l.toArray⟩
def in64 (n : Int) : Bool := decide (-9223372036854775808 ≤ n) && decide (n ≤ 9223372036854775807)
def pureK (k : Nat) : Bool := Nat.ble 3 k && Nat.ble k 5
/-- A call of a library function that makes nothing but a string. -/
def evPure (s : St) (k : Nat) (ts : List Nat) (args : List PV) (K : PV → Option R) : Option R :=
  match k, ts, args with
  | 3, _, [.int .i64 n] => if in64 n = true then K (.str (itoaB n)) else none
  | 4, _, [.int .i64 n, .int .i64 b] => if (b == 10 && in64 n) = true then K (.str (itoaB n)) else none
  | 5, [e, _, _, _], [.own id, .str sep] => (match look id s.sto with
    | some (.row e' .str l) => if (Nat.beq e' e && Nat.ble l.length 140737488355328 && Nat.ble (joinB sep l).size 140737488355328) = true then K (.str (joinB sep l)) else none
    | _ => none)
  | _, _, _ => none
/-- strings.Split at a separator of one byte. -/
def evSplit (s : St) (od : Option Tmp) (ts : List Nat) (args : List PV) (K : PV → St → Option R) : Option R :=
  match od, ts, args with
  | some d, [e, _, _, _], [.str x, .str sep] => (match sep.data.toList with
    | [b] => if x.size < 4294967281 then K (.own d) (s.add d (.row e .str (splitB b x))) else none
    | _ => none)
  | _, _, _ => none
/-- A method's call, by an interface's value. -/
def evInvoke (P : Program) (S : List (FuncId × FSig)) (callT : (f : FuncId) → (g : FSig) → List PV → Option g.res.den) (s : St) (d : Nat) (x : Operand) (nm : String) (args : List Operand) (K : PV → St → Option R) : Option R :=
  match s.ev x with
  | .func f0 [p] =>
    if Nat.blt f0 1000000 = true then none else
    match methT P (Nat.sub f0 1000000) nm with
    | none => none
    | some f =>
      match sigOf f S, P.funcs[f]? with
      | some g, some fn =>
        match lentAt g.par with
        | some (i, b, t) =>
          match (s.cools (lentIds s i b t (blankG g.par (p :: args.map s.ev)))).ev x with
          | .func f1 [p1] => if Nat.beq f1 f0 = true then callLent P callT f g fn d (s.cools (lentIds s i b t (blankG g.par (p :: args.map s.ev)))) i b t (p1 :: args.map (s.cools (lentIds s i b t (blankG g.par (p :: args.map s.ev)))).ev) K else none
          | _ => none
        | none => if g.res.lends = true then none else callIn P callT f g fn d s (p :: args.map s.ev) K
      | _, _ => none
  | _ => none
def isOelem : PV → Bool
  | .oelem _ _ _ _ => true
  | _ => false
/-- What a store is carried out in: rows that go into a row's element are only read from then on. -/
def stSt (s : St) (a x : Operand) : St := if isOelem (s.ev a) = true then s.cools (ownIds (s.ev x)) else s
/-- One operation; a call of a function goes by callT. -/
def evOp (P : Program) (S : List (FuncId × FSig)) (callT : (f : FuncId) → (g : FSig) → List PV → Option g.res.den) (s : St) (o : Oper) (K : PV → St → Option R) : Option R :=
  match o.op with
  | .move x => K (s.ev x) s
  | .assign x => K (s.ev x) s
  | .pick c a b => ofBool (s.ev c) fun q => if q = true then K (s.ev a) s else K (s.ev b) s
  | .alloc t => (match o.dst, zeroT P t with | some d, some z => if holdsL d (cellsOfPV z) = true then none else K (.ref d 0) (s.add d (.box t (cellsOfPV z))) | _, _ => none)
  | .box t x => (match o.dst with
    | none => none
    | some d => if (known s.sto (s.ev x) && !holdsL d (cellsOfPV (s.ev x))) = true then K (.ref d 0) (s.add d (.box t (cellsOfPV (s.ev x)))) else none)
  | .build t parts => (match evBuild P s.sto t (parts.toList.map fun p => (p.1, s.ev p.2)) with | some v => K v s | none => none)
  | .buildSlice t n parts => (match o.dst, elemT P t with
    | some d, some (e, τ, _) =>
      if (Nat.ble (n * τ.sz) 16777216 && Nat.beq parts.size n) = true then
        let s' := s.cools (ownIdsL (parts.toList.map fun p => s.ev p.2))
        match litRow s'.sto τ 0 (parts.toList.map fun p => (p.1, s'.ev p.2)) with
        | some l => K (.own d) (s'.add d (.row e τ l))
        | none => none
      else none
    | _, _ => none)
  | .load t a => (match evLoad P s t (s.ev a) with | some v => K v s | none => none)
  | .store t a x => (match s.ev a with
    | .delem id i => evClose P s t id i (s.ev x) fun s' => K .undef s'
    | _ => evStore P (stSt s a x) t ((stSt s a x).ev a) ((stSt s a x).ev x) fun s' => K .undef s')
  | .makeMap t r => (match o.dst with | some d => evMakeMap P s d t (r.map s.ev) K | none => none)
  | .lookup t x i comma => evLookup P s t (s.ev x) (s.ev i) comma fun v => K v s
  | .mapUpdate t m x y => evMapUpdate P s t (s.ev m) (s.ev x) (s.ev y) fun s' => K .undef s'
  | .nilCheck x => (match s.ev x with | .ref i o => K (.ref i o) s | .cref cs o => K (.cref cs o) s | .elem t x o => K (.elem t x o) s | .oelem i z n o => K (.oelem i z n o) s | .func f c => if Nat.blt f 1000000 = true then K (.func f c) s else none | _ => none)
  | .binOp op t x y _ => evBin P t op (s.ev x) (s.ev y) fun v => K v s
  | .unOp op _ x => evUn op (s.ev x) fun v => K v s
  | .convert src dst x => evConv P s src dst (s.ev x) K
  | .makeFunc (.func f) first caps => if first.size = 0 ∧ Nat.blt f 1000000 = true then K (.func f (caps.toList.map s.ev)) s else none
  | .makeInterface t x => if (concT P t && known s.sto (s.ev x)) = true then K (.func (Nat.add 1000000 t) [s.ev x]) s else none
  | .typeAssert x _ t comma => (match s.ev x with
    | .func f [p] => if (concT P t && Nat.beq f (Nat.add 1000000 t)) = true then (if comma = true then K (.tuple [p, .bool true]) s else K p s) else none
    | _ => none)
  | .makeSlice t l c => (match o.dst with | some d => evMake P (plainAt S d) s d t (s.ev l) (s.ev c) K | none => none)
  | .slice t x lo hi none => evSlice P s (o.dst.getD 0) t (s.ev x) (lo.map s.ev) (hi.map s.ev) K
  | .slice t x none (some h) (some m) => (match P.underlying t, s.ev h, s.ev m with
    | some (.slice e), .int _ i, .int _ j => if (sizeT P e).isSome = true then (if i = 0 then (if j = 0 then evEmpt s (s.ev x) K else none) else none) else none
    | _, _, _ => none)
  | .fieldAddr st x f => (match fieldOff P st f with
    | some fd => (match s.ev x with | .ref i o => K (.ref i (o + fd.offset)) s | .cref cs o => K (.cref cs (o + fd.offset)) s | .elem t x o => K (.elem t x (o + fd.offset)) s | .oelem i z n o => K (.oelem i z n (o + fd.offset)) s | _ => none)
    | none => none)
  | .field st x f => (match fieldOff P st f, s.ev x with
    | some fd, .agg cs => (match partT P fd.type cs fd.offset with | some v => K v s | none => none)
    | _, _ => none)
  | .indexAddr t x i => evIndexAddr P s t (s.ev x) (s.ev i) fun v => K v s
  | .index t x i => evIndex P t (s.ev x) (s.ev i) fun v => K v s
  | .extract x i => (match s.ev x with | .tuple vs => (match vs[i]? with | some v => K v s | none => none) | _ => none)
  | .call c => (match c.callee with
    | .builtin b => evBuiltin P s (o.dst.getD 0) b c.argTypes.toList (c.args.toList.map s.ev) K
    | .value x =>
      match s.ev x with
      | .func f caps =>
        if Nat.blt f 1000000 = true then
        match natOf P f with
        | some fn => (match caps with | [] => evNat fn.name (c.args.toList.map s.ev) fun v => K v s | _ :: _ => none)
        | none =>
        match libOf f S with
        | some (k, ts) => (match caps with
          | [] => if pureK k = true then evPure s k ts (c.args.toList.map s.ev) fun v => K v s else if Nat.beq k 6 = true then evSplit s o.dst ts (c.args.toList.map s.ev) K else evLib s o.dst k ts (c.args.toList.map s.ev) K
          | _ :: _ => none)
        | none =>
        match sigOf f S, P.funcs[f]? with
        | some g, some fn =>
          match lentAt g.par with
          | some (i, b, t) => (match (s.cools (lentIds s i b t (blankG g.par (c.args.toList.map s.ev ++ caps)))).ev x with
            | .func f' caps' =>
              if Nat.beq f' f = true then
                callLent P callT f g fn (o.dst.getD 0) (s.cools (lentIds s i b t (blankG g.par (c.args.toList.map s.ev ++ caps)))) i b t (c.args.toList.map (s.cools (lentIds s i b t (blankG g.par (c.args.toList.map s.ev ++ caps)))).ev ++ caps') K
              else none
            | _ => none)
          | none =>
          if g.res.lends = true then
            match (s.cools (ownIdsL (c.args.toList.map s.ev ++ caps))).ev x with
            | .func f' caps' =>
              if Nat.beq f' f = true then
                callIn P callT f g fn (o.dst.getD 0) (s.cools (ownIdsL (c.args.toList.map s.ev ++ caps))) (c.args.toList.map (s.cools (ownIdsL (c.args.toList.map s.ev ++ caps))).ev ++ caps') K
              else none
            | _ => none
          else callIn P callT f g fn (o.dst.getD 0) s (c.args.toList.map s.ev ++ caps) K
        | _, _ => none
        else none
      | _ => none
    | .invoke x nm => evInvoke P S callT s (o.dst.getD 0) x nm c.args.toList K)
  | _ => none
def dstAt (ops : List Oper) (j : Nat) : Option Tmp := (ops[j]?).bind (·.dst)
/-- The operations of a region, in the order of the text. -/
def evOps (P : Program) (S : List (FuncId × FSig)) (callT : (f : FuncId) → (g : FSig) → List PV → Option g.res.den) (ops : List Oper) : List Oper → St → (St → Option R) → Option R
  | [], s, K => K s
  | o :: r, s, K =>
    match o.guard with
    | none => evOp P S callT s o fun v s' => evOps P S callT ops r (s'.puto o.dst v) K
    | some (j, want) =>
      match dstAt ops j with
      | none => none
      | some t =>
        guardV (nth s.env t) (fun b =>
          if b = want then evOp P S callT (s.puto (some t) (.bool want)) o fun v s' => evOps P S callT ops r (s'.puto o.dst v) K
          else evOps P S callT ops r ((s.puto (some t) (.bool (!want))).puto o.dst (.tuple [])) K) (evOps P S callT ops r (s.puto o.dst (.tuple [])) K)
end

/-! ### regions that draw their order: cut where everything before comes before everything behind; a part of one operation as before; in a longer part each operation is carried out in the state that its elders alone make -/
def solidV : PV → Bool
  | .undef => false
  | _ => true
def opsSolid (s : St) (o : Oper) : Bool := o.op.operands.toList.all fun x => solidV (s.ev x)
/-- The labels that a value reads are laid. -/
def okIn0 (s : St) : PV → Bool
  | .own id => (look id s.sto).isSome
  | .deep id => (look id s.sto).isSome
  | _ => true
def okIn (s : St) : PV → Bool
  | .own id => (look id s.sto).isSome
  | .deep id => (look id s.sto).isSome
  | .ref id _ => (match look id s.sto with | some (.box _ cs) => cs.all (okIn0 s) | some _ => true | none => false)
  | _ => true
def okCell (s : St) : PV → Bool
  | .own id => (look id s.sto).isSome
  | .deep id => (look id s.sto).isSome
  | .ref id _ => (match look id s.sto with | some (.box _ cs) => cs.all (okIn s) | some _ => true | none => false)
  | .func _ cs => cs.all (okIn s)
  | _ => true
def okArg (s : St) : PV → Bool
  | .agg cs => cs.all (okCell s)
  | v => okCell s v
/-- A call's result: its cells, the next label, the new blocks. -/
def resL : (t : Ty) → t.den → Nat → List PV × Nat × List (Nat × Blk)
  | .int k, n, b => ([.int k n], b, [])
  | .bool, x, b => ([.bool x], b, [])
  | .str, x, b => ([.str x], b, [])
  | .list true e t, l, b => ([rowP b t], b + 1, [(b, rowB e t l)])
  | .list false e t, l, b => ([.row e t l], b, [])
  | .prod x y, p, b => match resL x p.1 b with | (cs, b', nb) => match resL y p.2 b' with | (cs', b'', nb') => (cs ++ cs', b'', nb' ++ nb)
  | .unit, _, b => ([], b, [])
  | .tag q ag t, x, b => (cells (.tag q ag t) x, b, [])
section
variable {R : Type}
def callD (P : Program) (callT : (f : FuncId) → (g : FSig) → List PV → Option g.res.den) (f : FuncId) (g : FSig) (fn : Func) (d : Nat) (s : St) (args : List PV) (K : PV → List (Nat × Blk) → Option R) : Option R :=
  if (g.res.lends && holdsOwnL args) = true then none else
  if args.all (okArg s) = true then
    (callN callT f g (canonL g.par (args.map (viewArg s)))).bind fun r =>
      match resL g.res r ((d + 1) * 1000) with
      | (cs, _, nb) =>
        match deal P fn.resultTypes.toList cs with
        | some vs => K (wrapRes vs) nb
        | none => none
  else none
def heads (K : PV → List (Nat × Blk) → Option R) (p : PV) (s' : St) : Option R :=
  match s'.sto with
  | x :: _ => K p [x]
  | [] => none
def evOpD0 (P : Program) (S : List (FuncId × FSig)) (callT : (f : FuncId) → (g : FSig) → List PV → Option g.res.den) (s : St) (o : Oper) (K : PV → List (Nat × Blk) → Option R) : Option R :=
  if opsSolid s o = true then
    match o.op with
    | .move _ | .assign _ | .pick .. | .build .. | .load .. | .nilCheck _ | .binOp .. | .unOp .. | .convert .. | .makeFunc .. | .fieldAddr .. | .field .. | .indexAddr .. | .index .. | .extract .. | .lookup .. | .makeInterface .. | .typeAssert .. => evOp P S callT s o fun p _ => K p []
    | .slice _ x _ _ _ => (match s.ev x with | .own _ => none | _ => evOp P S callT s o fun p _ => K p [])
    | .alloc _ | .box .. | .makeSlice .. => evOp P S callT s o (heads K)
    | .buildSlice _ _ ps => (match ownIdsL (ps.toList.map fun p => s.ev p.2) with | [] => evOp P S callT s o (heads K) | _ => none)
    | .call c => (match c.callee with
      | .builtin .append => (match c.args.toList.map s.ev with
        | .nils :: _ => evOp P S callT s o (heads K)
        | .empt :: _ => evOp P S callT s o (heads K)
        | _ => none)
      | .builtin _ => evOp P S callT s o fun p _ => K p []
      | .value x =>
        match s.ev x with
        | .func f caps =>
          if Nat.blt f 1000000 = true then
          match natOf P f with
          | some _ => evOp P S callT s o fun p _ => K p []
          | none =>
          match libOf f S with
          | some (k, _) => if pureK k = true then evOp P S callT s o fun p _ => K p [] else none
          | none =>
          match sigOf f S, P.funcs[f]? with
          | some g, some fn => (match lentAt g.par with
            | some _ => none
            | none => callD P callT f g fn (o.dst.getD 0) s (c.args.toList.map s.ev ++ caps) K)
          | _, _ => none
          else none
        | _ => none
      | _ => none)
    | _ => none
  else none
/-- The row of rows that an append takes an element out of. -/
def subArg (s : St) (o : Oper) : Option Nat :=
  match o.op with
  | .call c => (match c.callee, c.args.toList.map s.ev with | .builtin .append, .sub id _ :: _ => some id | _, _ => none)
  | _ => none
def heads2 (d id : Nat) (K : PV → List (Nat × Blk) → Option R) (p : PV) (s' : St) : Option R :=
  match look d s'.sto, look id s'.sto with
  | some b, some b2 => K p [(d, b), (id, b2)]
  | _, _ => none
/-- The row of one's own that an append uses up. -/
def ownArg (s : St) (o : Oper) : Option Nat :=
  match o.op with
  | .call c => (match c.callee, c.args.toList.map s.ev with | .builtin .append, .own id :: _ => some id | _, _ => none)
  | .slice _ x none _ none => (match s.ev x with | .own id => some id | _ => none)
  | _ => none
def heads1 (d id : Nat) (K : PV → List (Nat × Blk) → List Nat → Option R) (p : PV) (s' : St) : Option R :=
  match look d s'.sto with
  | some b => K p [(d, b)] [id]
  | none => none
/-- An operation of a longer part: its value, its blocks, which labels were there before: their blocks turn, or are gone. -/
def evOpD (P : Program) (S : List (FuncId × FSig)) (callT : (f : FuncId) → (g : FSig) → List PV → Option g.res.den) (s : St) (o : Oper) (K : PV → List (Nat × Blk) → List Nat → Option R) : Option R :=
  match subArg s o, o.dst with
  | some id, some d => if opsSolid s o = true then evOp P S callT s o (heads2 d id fun p nb => K p nb [id]) else none
  | _, _ =>
    match ownArg s o, o.dst with
    | some id, some d => if (opsSolid s o && !Nat.beq d id) = true then evOp P S callT s o (heads1 d id K) else none
    | _, _ => evOpD0 P S callT s o fun p nb => K p nb []
/-- What an operation of a longer part has come to. -/
structure Rec : Type where
  i : Nat
  d : Nat
  p : PV
  nb : List (Nat × Blk)
  st : Bool
  us : List Nat
def dropL : List Nat → List (Nat × Blk) → List (Nat × Blk)
  | [], l => l
  | k :: ks, l => dropL ks (dropb k l)
/-- The labels whose blocks are gone. -/
def gone (r : Rec) : List Nat := r.us.filter fun k => !memN k (r.nb.map (·.1))
def St.app (s : St) (r : Rec) : St := ⟨put s.env r.d r.p, r.nb ++ dropL (gone r) s.sto⟩
def sumS (f : Nat → Bool) : List Rec → St → St
  | [], s => s
  | r :: rs, s => if f r.i = true then sumS f rs (s.app r) else sumS f rs s
def gval (t : Nat) : List Rec → Option PV
  | [] => none
  | r :: rs => if Nat.beq r.d t = true then some r.p else gval t rs
def refine_ (t : Nat) (v : PV) : List Rec → List Rec
  | [] => []
  | r :: rs => if Nat.beq r.d t = true then ⟨r.i, r.d, v, r.nb, r.st, r.us⟩ :: rs else r :: refine_ t v rs
def gsplit (t : Nat) (want : Bool) (s : St) (recs : List Rec) (K : St → List Rec → Option R) : Option R :=
  match gval t recs with
  | some v => guardV v (fun b => if b = want then K s (refine_ t (.bool want) recs) else K s (refine_ t (.bool (!want)) recs)) (K s recs)
  | none => guardV (nth s.env t) (fun b => if b = want then K (s.puto (some t) (.bool want)) recs else K (s.puto (some t) (.bool (!want))) recs) (K s recs)
def mbit (m i : Nat) : Bool := Nat.beq (Nat.land (Nat.shiftRight m i) 1) 1
/-! Stores in a longer part: into which block, found by their text. -/
def isAsg (o : Oper) : Bool :=
  match o.op with
  | .assign _ => true
  | _ => false
def dstNA (ops : List Oper) (j : Nat) : Option Tmp := (ops[j]?).bind fun o => if isAsg o = true then none else o.dst
def findDst (ops : List Oper) (t : Nat) : List Nat → Option Oper
  | [] => none
  | j :: l => if (match dstNA ops j with | some d => Nat.beq d t | none => false) = true then ops[j]? else findDst ops t l
def rootL (ops : List Oper) (seg : List Nat) (env : List PV) : Nat → Operand → Option Nat
  | f + 1, .tmp t =>
    match findDst ops t seg with
    | none => (match nth env t with | .ref id _ => some id | _ => none)
    | some o => (match o.op with | .fieldAddr _ x _ => rootL ops seg env f x | .indexAddr _ x _ => rootL ops seg env f x | .nilCheck x => rootL ops seg env f x | .move x => rootL ops seg env f x | .alloc _ => some t | .box .. => some t | _ => none)
  | _, _ => none
def deepIds : List (Nat × Blk) → List Nat
  | [] => []
  | (j, .deep _ _ _ _ _) :: r => j :: deepIds r
  | (_, .box _ _) :: r => deepIds r
  | (_, .row _ _ _) :: r => deepIds r
  | (_, .map _ _ _) :: r => deepIds r
def rowIds : List (Nat × Blk) → List Nat
  | [] => []
  | (j, .row _ _ _) :: r => j :: rowIds r
  | (_, .box _ _) :: r => rowIds r
  | (_, .deep _ _ _ _ _) :: r => rowIds r
  | (_, .map _ _ _) :: r => rowIds r
/-- The rows that the base of an append may be, by its text. -/
def baseIds (ops : List Oper) (seg : List Nat) (s : St) : Nat → Operand → List Nat
  | f + 1, .tmp t =>
    match findDst ops t seg with
    | none => (match nth s.env t with | .own id => [id] | _ => [])
    | some o => (match o.op with
      | .move x => baseIds ops seg s f x
      | .load _ a => (match rootL ops seg s.env 20 a with
        | some bid => (match look bid s.sto with | some (.box _ cs) => ownIdsL cs | _ => [])
        | none => [])
      | _ => [])
  | _, _ => []
def storesOf (ops : List Oper) (seg : List Nat) (s : St) : List Nat → List (Nat × Nat)
  | [] => []
  | j :: l =>
    match ops[j]? with
    | some o => (match o.op with
      | .store _ a _ => (match rootL ops seg s.env 20 a with | some id => (j, id) :: storesOf ops seg s l | none => (rowIds s.sto).map (fun id => (j, id)) ++ storesOf ops seg s l)
      | .call c => (match c.callee with | .builtin .append => (deepIds s.sto ++ (match c.args.toList with | x :: _ => baseIds ops seg s 20 x | [] => [])).map (fun id => (j, id)) ++ storesOf ops seg s l | _ => storesOf ops seg s l)
      | .slice _ x none _ none => (baseIds ops seg s 20 x).map (fun id => (j, id)) ++ storesOf ops seg s l
      | _ => storesOf ops seg s l)
    | none => storesOf ops seg s l
/-- The blocks that an operation may not look at: stores to them may come before it and behind it. -/
def unord (ms : List Nat) (i : Nat) : List (Nat × Nat) → List Nat
  | [] => []
  | (j, l) :: r => if (Nat.beq j i || mbit (ms.getD i 0) j || mbit (ms.getD j 0) i) = true then unord ms i r else l :: unord ms i r
def St.less (ks : List Nat) : St → St
  | ⟨e, t⟩ => ⟨e, dropL ks t⟩
def seeS (sl : List (Nat × Nat)) (ms : List Nat) (i : Nat) (recs : List Rec) (s : St) : St :=
  match sl with
  | [] => sumS (mbit (ms.getD i 0)) recs s
  | _ :: _ => St.less (unord ms i sl) (sumS (mbit (ms.getD i 0)) recs s)
/-- A store to a box. -/
def evStD (P : Program) (s : St) (o : Oper) (t : TypeId) (a x : Operand) (K : List (Nat × Blk) → Option R) : Option R :=
  if opsSolid s o = true then
    match s.ev a with
    | .ref id off => evStore P s t (.ref id off) (s.ev x) fun s' => (match look id s'.sto with | some b => K [(id, b)] | none => none)
    | .oelem id z i off => (match ownIds (s.ev x) with
      | [] => evStore P s t (.oelem id z i off) (s.ev x) fun s' => (match look id s'.sto with | some b => K [(id, b)] | none => none)
      | _ :: _ => none)
    | _ => none
  else none
/-- Nothing is known of these. -/
def blank : List Nat → List PV → List PV
  | [], e => e
  | d :: ds, e => blank ds (put e d .undef)
/-- The variables that may be assigned before operation i or behind it. -/
def hidL (ms : List Nat) (i : Nat) : Nat → List Oper → List Nat
  | _, [] => []
  | j, o :: r =>
    if (isAsg o && !(mbit (ms.getD i 0) j || mbit (ms.getD j 0) i)) = true then
      (match o.dst with | some d => d :: hidL ms i (j + 1) r | none => hidL ms i (j + 1) r)
    else hidL ms i (j + 1) r
def hide (ops : List Oper) (ms : List Nat) (i : Nat) (s : St) : St := ⟨blank (hidL ms i 0 ops) s.env, s.sto⟩
/-- The operations of a longer part; ms: whom each comes behind. -/
def evSeg (P : Program) (S : List (FuncId × FSig)) (callT : (f : FuncId) → (g : FSig) → List PV → Option g.res.den) (ops : List Oper) (ms : List Nat) (sl : List (Nat × Nat)) : List Nat → St → List Rec → (St → List Rec → Option R) → Option R
  | [], s, recs, K => K s recs
  | i :: l, s, recs, K =>
    match ops[i]? with
    | none => none
    | some o =>
      match o.dst with
      | none => (match o.guard, o.op with
        | none, .store tt a x => evStD P (seeS sl ms i recs (hide ops ms i s)) o tt a x fun nb => evSeg P S callT ops ms sl l s (recs ++ [⟨i, 1000000 + i, .undef, nb, true, nb.map (·.1)⟩]) K
        | _, _ => none)
      | some d =>
        match o.guard with
        | none => evOpD P S callT (seeS sl ms i recs (hide ops ms i s)) o fun p nb us => evSeg P S callT ops ms sl l s (recs ++ [⟨i, d, p, nb, false, us⟩]) K
        | some (j, want) =>
          match dstAt ops j with
          | none => none
          | some t => gsplit t want s recs fun s recs =>
            guardV (nth (sumS (mbit (ms.getD i 0)) recs (hide ops ms i s)).env t) (fun b =>
              if b = want then evOpD P S callT (seeS sl ms i recs (hide ops ms i s)) o fun p nb us => evSeg P S callT ops ms sl l s (recs ++ [⟨i, d, p, nb, false, us⟩]) K
              else evSeg P S callT ops ms sl l s (recs ++ [⟨i, d, .tuple [], [], false, []⟩]) K) (evSeg P S callT ops ms sl l s (recs ++ [⟨i, d, .tuple [], [], false, []⟩]) K)
def holdsB (id : Nat) : List (Nat × Blk) → Bool
  | [] => false
  | (_, .box _ cs) :: r => holdsL id cs || holdsB id r
  | (_, .row _ _ _) :: r => holdsB id r
  | (_, .map _ _ _) :: r => holdsB id r
  | (_, .deep _ _ _ _ _) :: r => holdsB id r
def lbls (r : Rec) : List Nat := r.nb.map (·.1) ++ gone r
/-- The labels that are new. -/
def fl (r : Rec) : List Nat := (lbls r).filter fun l => !memN l r.us
def memP (i l : Nat) : List (Nat × Nat) → Bool
  | [] => false
  | (j, k) :: r => (Nat.beq j i && Nat.beq k l) || memP i l r
/-- A store: its place is none, its block is known before, and what touches the block stands in order. -/
def stOk (ms : List Nat) (sl : List (Nat × Nat)) (n : Nat) (recs : List Rec) (x : Rec) : Bool :=
  (!x.st || Nat.ble n x.d) && x.us.all fun k => memP x.i k sl && recs.all fun y => !(memN k (lbls y)) || Nat.beq y.i x.i || (Nat.ble x.i y.i && memN k y.us && mbit (ms.getD y.i 0) x.i) || (Nat.ble y.i x.i && mbit (ms.getD x.i 0) y.i)
/-- r may hold what x has made only if it comes behind it. -/
def meets (ms : List Nat) (x r : Rec) : Bool := (fl x).all fun l => (!(holds l r.p || holdsB l r.nb)) || Nat.beq x.i r.i || mbit (ms.getD r.i 0) x.i
def recsOk (ms : List Nat) (sl : List (Nat × Nat)) (s : St) (recs : List Rec) : Bool :=
  nodupN (recs.map (·.d)) && nodupN (recs.flatMap fl) && (recs.all fun x => stOk ms sl s.env.length recs x) &&
  ((recs.flatMap fl).all fun l => !(holdsL l s.env) && !(holdsB l s.sto) && (look l s.sto).isNone) &&
  (recs.all fun x => recs.all fun r => meets ms x r) && recs.all fun r => !pinAt r.d r.p
def maskE (ms : List Nat) : List Edge → Nat
  | [] => 0
  | e :: es => if Region.binds .any e = true then Nat.lor (Nat.lor (Nat.shiftLeft 1 e.on) (ms.getD e.on 0)) (maskE ms es) else maskE ms es
def masks : List Oper → List Nat → List Nat
  | [], ms => ms
  | o :: os, ms => masks os (ms ++ [maskE ms o.after.toList])
/-- Whatever is bound is bound to what stands before it. -/
def boundOk (i : Nat) : List Oper → Bool
  | [] => true
  | o :: os => (o.after.toList.all fun e => !Region.binds .any e || Nat.blt e.on i) && boundOk (i + 1) os
/-- All from e on come behind all before e. -/
def cutAt (ms : List Nat) (e : Nat) : Bool := (ms.drop e).all fun m => Nat.beq (Nat.land m (Nat.sub (Nat.shiftLeft 1 e) 1)) (Nat.sub (Nat.shiftLeft 1 e) 1)
/-- The parts: lists of numbers. -/
def parts (ms : List Nat) : Nat → Nat → List Nat → List (List Nat)
  | 0, _, acc => [acc]
  | f + 1, i, acc => if cutAt ms (i + 1) = true then (acc ++ [i]) :: parts ms f (i + 1) [] else parts ms f (i + 1) (acc ++ [i])
def evParts (P : Program) (S : List (FuncId × FSig)) (callT : (f : FuncId) → (g : FSig) → List PV → Option g.res.den) (ops : List Oper) (ms : List Nat) : List (List Nat) → St → (St → Option R) → Option R
  | [], s, K => K s
  | [] :: l, s, K => evParts P S callT ops ms l s K
  | [i] :: l, s, K =>
    match ops[i]? with
    | none => none
    | some o => evOps P S callT ops [o] s fun s' => evParts P S callT ops ms l s' K
  | (i :: j :: seg) :: l, s, K =>
    evSeg P S callT ops ms (storesOf ops (i :: j :: seg) s (i :: j :: seg)) (i :: j :: seg) ⟨blank ((i :: j :: seg).filterMap (dstNA ops)) s.env, s.sto⟩ [] fun s' recs =>
      if recsOk ms (storesOf ops (i :: j :: seg) s (i :: j :: seg)) s' recs = true then evParts P S callT ops ms l (sumS (fun _ => true) recs s') K else none
/-- A region. -/
def evReg (P : Program) (S : List (FuncId × FSig)) (callT : (f : FuncId) → (g : FSig) → List PV → Option g.res.den) (draw : Bool) (ops : Array Oper) (s : St) (K : St → Option R) : Option R :=
  if draw = true then
    if boundOk 0 ops.toList = true then evParts P S callT ops.toList (masks ops.toList []) (parts (masks ops.toList []) ops.size 0 []) s K else none
  else evOps P S callT ops.toList ops.toList s K
end
/-! ### calls that are carried out in place: the callee's temporaries stand ahead of its caller's; the caller's labels move to another band meanwhile -/
def bandUp (n id : Nat) : Nat :=
  if Nat.blt id 6600000 = true then Nat.mod (Nat.add id 1100000) 6600000 else
  if (Nat.ble 7000000 id && Nat.blt id 8000000) = true then Nat.add 7000000 (Nat.mod (Nat.add (Nat.sub id 7000000) (Nat.mul 1000 n)) 1000000) else id
def bandDn (n id : Nat) : Nat :=
  if Nat.blt id 6600000 = true then Nat.mod (Nat.add id 5500000) 6600000 else
  if (Nat.ble 7000000 id && Nat.blt id 8000000) = true then Nat.add 7000000 (Nat.mod (Nat.add (Nat.sub id 7000000) (Nat.sub 1000000 (Nat.mul 1000 n))) 1000000) else id
mutual
def renP (π : Nat → Nat) : PV → PV
  | .own j => .own (π j)
  | .ref j o => .ref (π j) o
  | .oelem j z i o => .oelem (π j) z i o
  | .deep j => .deep (π j)
  | .delem j i => .delem (π j) i
  | .sub j i => .sub (π j) i
  | .cref cs o => .cref (renL π cs) o
  | .func f cs => .func f (renL π cs)
  | .agg cs => .agg (renL π cs)
  | .tuple cs => .tuple (renL π cs)
  | x => x
def renL (π : Nat → Nat) : List PV → List PV
  | [] => []
  | x :: r => renP π x :: renL π r
end
def Blk.ren (π : Nat → Nat) : Blk → Blk
  | .box t cs => .box t (renL π cs)
  | b => b
def renB (π : Nat → Nat) : List (Nat × Blk) → List (Nat × Blk)
  | [] => []
  | (j, b) :: r => (π j, b.ren π) :: renB π r
def inB (lim : Nat) : Operand → Bool
  | .tmp t => Nat.blt t lim
  | _ => true
def opIn (lim : Nat) (o : Oper) : Bool :=
  (match o.op with | .select _ _ => false | _ => true) && o.op.operands.toList.all (inB lim) && (match o.dst with | some d => Nat.blt d lim | none => true)
def resIn (lim : Nat) : ResultVar → Bool
  | .tmp t => Nat.blt t lim
  | .cell a _ => Nat.blt a lim
def startI (s : St) (args : List PV) (n : Nat) : St :=
  ⟨renL (bandUp n) args ++ (List.replicate (n - args.length) .undef ++ renL (bandUp n) s.env), renB (bandUp n) s.sto⟩
/-- A call that is carried out in place: an operation that calls a function by its name. -/
def inlFn (o : Oper) : Option (FuncId × List Operand) :=
  match o.op, o.guard with
  | .call c, none => (match c.callee with
    | .value (.func f) => if Nat.blt f 1000000 = true then some (f, c.args.toList) else none
    | _ => none)
  | _, _ => none
section
variable {R : Type}
inductive It : Type where
  | code (c : Code)
  | here (c : Code)
  | inBlock (id : Nat)
  | inLoop (c : Code)
  | inScope (c : Code)
def exitIt (id : Nat) : List It → Option (List It)
  | [] => none
  | .inBlock j :: k => if Nat.beq id j = true then some k else exitIt id k
  | _ :: k => exitIt id k
def inlAt (S : List (FuncId × FSig)) (o : Oper) : Option (FuncId × List Operand) :=
  match inlFn o with
  | some (f, as) => (match sigOf (Nat.add 11000000 f) S with | some _ => some (f, as) | none => none)
  | none => none
/-- How a call is carried out in place. -/
abbrev InlT (R : Type) : Type := FuncId → St → List PV → (PV → St → Option R) → Option R
/-- The operations of a region in which functions are called in place. -/
def evOpsI (P : Program) (S : List (FuncId × FSig)) (callT : (f : FuncId) → (g : FSig) → List PV → Option g.res.den) (inl : InlT R) (ops : List Oper) : List Oper → St → (St → Option R) → Option R
  | [], s, K => K s
  | o :: r, s, K =>
    match inlAt S o with
    | some (f, as) => inl f s (as.map s.ev) fun v s' => evOpsI P S callT inl ops r (s'.puto o.dst v) K
    | none =>
    match o.guard with
    | none => evOp P S callT s o fun v s' => evOpsI P S callT inl ops r (s'.puto o.dst v) K
    | some (j, want) =>
      match dstAt ops j with
      | none => none
      | some t =>
        guardV (nth s.env t) (fun b =>
          if b = want then evOp P S callT (s.puto (some t) (.bool want)) o fun v s' => evOpsI P S callT inl ops r (s'.puto o.dst v) K
          else evOpsI P S callT inl ops r ((s.puto (some t) (.bool (!want))).puto o.dst (.tuple [])) K) (evOpsI P S callT inl ops r (s.puto o.dst (.tuple [])) K)
/-- A region, which the function's notes may mark as one with calls in place. -/
def evRun (P : Program) (S : List (FuncId × FSig)) (callT : (f : FuncId) → (g : FSig) → List PV → Option g.res.den) (inl : InlT R) (ann : List (Nat × Point)) (lim : Nat) (id : Nat) (draw : Bool) (ops : Array Oper) (s : St) (K : St → Option R) : Option R :=
  if (Nat.beq lim 0 || ops.toList.all (opIn lim)) = true then
    match annOf (Nat.add 5000000 id) ann with
    | some _ => if draw = true then none else evOpsI P S callT inl ops.toList ops.toList s K
    | none => evReg P S callT draw ops s K
  else none
def run1 (P : Program) (S : List (FuncId × FSig)) (callT : (f : FuncId) → (g : FSig) → List PV → Option g.res.den) (inl : InlT R) (self : List It → St → Option R) (ann : List (Nat × Point)) (fin : St → Option R) (lim : Nat) : Nat → List It → St → Option R
  | 0, _, _ => none
  | _ + 1, [], s => fin s
  | n + 1, .inBlock _ :: k, s => run1 P S callT inl self ann fin lim n k s
  | n + 1, .inScope _ :: k, s => run1 P S callT inl self ann fin lim n k s
  | n + 1, .inLoop c :: k, s => run1 P S callT inl self ann fin lim n (.code c :: .inLoop c :: k) s
  | n + 1, .here c :: k, s =>
    match c with
    | .region id ops draw => evRun P S callT inl ann lim id draw ops s fun s' => run1 P S callT inl self ann fin lim n k s'
    | _ => none
  | n + 1, .code c :: k, s =>
    match c with
    | .skip => run1 P S callT inl self ann fin lim n k s
    | .seq a b => run1 P S callT inl self ann fin lim n (.code a :: .code b :: k) s
    | .cond x a b => if (Nat.beq lim 0 || inB lim x) = true then ofBool (s.ev x) fun q => if q = true then run1 P S callT inl self ann fin lim n (.code a :: k) s else run1 P S callT inl self ann fin lim n (.code b :: k) s else none
    | .block id a => run1 P S callT inl self ann fin lim n (.code a :: .inBlock id :: k) s
    | .loop a => run1 P S callT inl self ann fin lim n (.code a :: .inLoop a :: k) s
    | .exit id => match exitIt id k with | some k' => run1 P S callT inl self ann fin lim n k' s | none => none
    | .scope a => run1 P S callT inl self ann fin lim n (.code a :: .inScope a :: k) s
    | .ret => fin s
    | .region id ops draw =>
      match annOf id ann with
      | some kp => self (.here (.region id ops draw) :: k) ((s.norms kp.norm).trim kp)
      | none => evRun P S callT inl ann lim id draw ops s fun s' => run1 P S callT inl self ann fin lim n k s'
    | _ => none
end
/-- A function's results out of its last state. -/
def resPV (P : Program) (s : St) : List ResultVar → Option (List PV)
  | [] => some []
  | .tmp t :: r => (resPV P s r).map (nth s.env t :: ·)
  | .cell a t :: r =>
    match evLoad P s t (nth s.env a), resPV P s r with
    | some v, some l => some (v :: l)
    | _, _ => none
def shapeOk (P : Program) (sto : List (Nat × Blk)) (t : TypeId) (v : PV) : Bool :=
  match aggT P t with
  | some true => (match v with | .agg cs => (match sizeT P t with | some n => Nat.beq n cs.length | none => false) | _ => false)
  | some false => solid sto v
  | none => false
def shapesOk (P : Program) (sto : List (Nat × Blk)) : List TypeId → List PV → Bool
  | [], [] => true
  | t :: ts, v :: vs => shapeOk P sto t v && shapesOk P sto ts vs
  | _, _ => false
def finT (P : Program) (fn : Func) (g : FSig) (s : St) : Option g.res.den :=
  match resPV P s fn.results.toList, lentCells g.par s with
  | some vs, some ls =>
    match resPV P (s.cools (coldIds g.res (vs.flatMap cellsOfPV ++ ls))) fn.results.toList, lentCells g.par (s.cools (coldIds g.res (vs.flatMap cellsOfPV ++ ls))) with
    | some vs', some ls' =>
      if (nodupO (ownIdsL (vs'.flatMap cellsOfPV ++ ls')) && shapesOk P (s.cools (coldIds g.res (vs.flatMap cellsOfPV ++ ls))).sto fn.resultTypes.toList vs') = true then
        match unres (s.cools (coldIds g.res (vs.flatMap cellsOfPV ++ ls))).sto g.res (vs'.flatMap cellsOfPV ++ ls') with
        | some (x, []) => some x
        | _ => none
      else none
    | _, _ => none
  | _, _ => none
def gas : Nat := 100000
/-- The end of a call in place. -/
def finI {R : Type} (P : Program) (fn : Func) (K : PV → St → Option R) (s : St) : Option R :=
  match resPV P s fn.results.toList with
  | some vs => K (renP (bandDn fn.ntmps) (wrapRes vs)) ⟨renL (bandDn fn.ntmps) (s.env.drop fn.ntmps), renB (bandDn fn.ntmps) s.sto⟩
  | none => none
/-- Calls in place, to a depth. -/
def inlN {R : Type} (P : Program) (S : List (FuncId × FSig)) (callT : (f : FuncId) → (g : FSig) → List PV → Option g.res.den) : Nat → InlT R
  | 0 => fun _ _ _ _ => none
  | d + 1 => fun f s args K =>
    match sigOf (Nat.add 11000000 f) S, P.funcs[f]? with
    | some g, some fn => (match fn.body with
      | some co =>
        if (Nat.ble args.length fn.ntmps && Nat.blt (Nat.add s.env.length fn.ntmps) 1000 && !(fn.name == "runtime.NumGoroutine") && Nat.blt 0 fn.ntmps && fn.results.toList.all (resIn fn.ntmps)) = true then
          run1 P S callT (inlN P S callT d) (fun _ _ => none) g.ann (finI P fn K) fn.ntmps gas [.code co] (startI s args fn.ntmps)
        else none
      | none => none)
    | _, _ => none
def runF (P : Program) (S : List (FuncId × FSig)) : Nat → {R : Type} → List (Nat × Point) → (St → Option R) → List It → St → Option R
  | 0, _, _, _, _, _ => none
  | k + 1, _, ann, fin, its, s =>
    run1 P S (fun f g args =>
      match P.funcs[f]? with
      | none => none
      | some fn =>
        match fn.body with
        | none => none
        | some c => (startS g.par args fn.ntmps).bind fun s => runF P S k g.ann (finT P fn g) [.code c] s)
      (inlN P S (fun f g args =>
      match P.funcs[f]? with
      | none => none
      | some fn =>
        match fn.body with
        | none => none
        | some c => (startS g.par args fn.ntmps).bind fun s => runF P S k g.ann (finT P fn g) [.code c] s) 8) (runF P S k ann fin) ann fin 0 gas its s
/-- A call, with a count of rounds. -/
def callF (P : Program) (S : List (FuncId × FSig)) (k : Nat) (f : FuncId) (g : FSig) (args : List PV) : Option g.res.den :=
  match P.funcs[f]? with
  | none => none
  | some fn =>
    match fn.body with
    | none => none
    | some c => (startS g.par args fn.ntmps).bind fun s => runF P S k g.ann (finT P fn g) [.code c] s
end Go.Proofs.Ytbaekdcacmoniaa.Pv
