/- The machine's operations: what each does with the slots of a frame and with the machine's own memory. -/
import Derived.Test.YtgnmblegndbflaaGreatDoorKhB
namespace Go.Proofs.Kh
set_option linter.all false
set_option linter.unusedVariables false
set_option linter.unusedSimpArgs false
open Go

inductive Opd where
  | t (s : Nat)
  | c (x : AV)

abbrev Env := List (Nat × AV)

def Env.get : Env → Nat → Option AV
  | [], _ => none
  | (k, x) :: r, s => if k = s then some x else Env.get r s

def Env.set : Env → Nat → AV → Env
  | [], _, _ => []
  | (k, x) :: r, s, y => if k = s then (k, y) :: r else (k, x) :: Env.set r s y

/-- Layers of slots, the innermost first; beside each how many things there were when it was laid. -/
abbrev Ly := List (Nat × Env)

def Ly.get : Ly → Nat → Option AV
  | [], _ => none
  | (_, e) :: r, s => match Env.get e s with
    | some x => some x
    | none => Ly.get r s

def Ly.put : Ly → Nat → AV → Ly
  | [], _, _ => []
  | (m, e) :: r, d, v => match Env.get e d with
    | some _ => (m, Env.set e d v) :: r
    | none => match Ly.get r d with
      | some _ => (m, e) :: Ly.put r d (v.clip m)
      | none => (m, (d, v) :: e) :: r

def Ly.top : Ly → Nat
  | [] => 0
  | (m, _) :: _ => m

def Opd.ev (ly : Ly) : Opd → Option AV
  | .t s => Ly.get ly s
  | .c x => some x

def evL (ly : Ly) : List Opd → Option (List AV)
  | [] => some []
  | o :: r => match o.ev ly, evL ly r with
    | some x, some xs => some (x :: xs)
    | _, _ => none

/-- What a thing is, without places: nothing, if it has any. -/
def pd1 (st : St) : AV → Option PD
  | .pd x => some x
  | .nil => some (.sl [])
  | .tight xs => some (.sl xs)
  | .row id n => match st[id]? with
    | some (.row false _ xs) => if xs.length = n then some (.sl xs) else none
    | _ => none
  | _ => none

def pdL (st : St) : List AV → Option (List PD)
  | [] => some []
  | c :: r => match pd1 st c, pdL st r with
    | some x, some xs => if x.single then some (x :: xs) else none
    | _, _ => none

def toPD (st : St) : AV → Option PD
  | .agg cs => (pdL st cs).map .agg
  | x => pd1 st x

def allPD : List AV → Option (List PD)
  | [] => some []
  | .pd x :: r => match allPD r with
    | some xs => if x.single then some (x :: xs) else none
    | none => none
  | _ :: _ => none

def mkAgg (cs : List AV) : AV := match allPD cs with
  | some ps => .pd (.agg ps)
  | none => .agg cs

/-- Without the places that it can do without. -/
def firm (st : St) (x : AV) : AV := match toPD st x with
  | some p => .pd p
  | none => x

/-- A row that may be written to no more. -/
def frz1 (st : St) : AV → St
  | .row id n => match st[id]? with
    | some (.row true sz xs) => if xs.length = n then st.set id (.row false sz xs) else st
    | _ => st
  | _ => st

def frzL (st : St) : List AV → St
  | [] => st
  | x :: r => frzL (frz1 st x) r

def frz (st : St) : AV → St
  | .agg cs => frzL st cs
  | x => frz1 st x

def frzA (st : St) : List AV → St
  | [] => st
  | x :: r => frzA (frz st x) r

/-- The cells of a thing that is stored. -/
def cellsOf : AV → Option (List AV)
  | .pd (.agg cs) => some (cs.map .pd)
  | .agg cs => some cs
  | .tup _ => none
  | .bot => none
  | x => some [x]

/-- Cells, of which some are laid over. -/
def lay (cells : List AV) (off : Nat) (new : List AV) : List AV := cells.take off ++ new ++ cells.drop (off + new.length)

def layPD (cells : List PD) (off : Nat) (new : List PD) : List PD := cells.take off ++ new ++ cells.drop (off + new.length)

def ofCells (agg : Bool) (n : Nat) (cells : List AV) (off : Nat) : Option AV :=
  if agg then (if off + n ≤ cells.length then some (mkAgg ((cells.drop off).take n)) else none) else cells[off]?

def ofCellsPD (agg : Bool) (n : Nat) (cells : List PD) (off : Nat) : Option PD :=
  if agg then (if off + n ≤ cells.length then some (.agg ((cells.drop off).take n)) else none) else cells[off]?

/-- What two whole numbers come to. -/
def binI (op : BinOp) (k : IntKind) (a b : Int) : Option PD :=
  match op with
  | .add => some (.int k (k.wrap (a + b)))
  | .sub => some (.int k (k.wrap (a - b)))
  | .mul => some (.int k (k.wrap (a * b)))
  | .quo => if b = 0 then none else some (.int k (k.wrap (a.tdiv b)))
  | .rem => if b = 0 then none else some (.int k (a.tmod b))
  | .and => some (.int k (k.wrap (BitVec.ofInt k.bits a &&& BitVec.ofInt k.bits b).toNat))
  | .or => some (.int k (k.wrap (BitVec.ofInt k.bits a ||| BitVec.ofInt k.bits b).toNat))
  | .xor => some (.int k (k.wrap (BitVec.ofInt k.bits a ^^^ BitVec.ofInt k.bits b).toNat))
  | .eql => some (.bool (a == b))
  | .neq => some (.bool (a != b))
  | .lss => some (.bool (decide (a < b)))
  | .leq => some (.bool (decide (a ≤ b)))
  | .gtr => some (.bool (decide (a > b)))
  | .geq => some (.bool (decide (a ≥ b)))
  | _ => none

def binS (op : BinOp) (a b : List UInt8) : Option PD :=
  match op with
  | .add => if ((a.length + b.length : Nat) : Int) ≤ 9223372036854775807 then some (.str (a ++ b)) else none
  | .eql => some (.bool (a == b))
  | .neq => some (.bool (!(a == b)))
  | .lss => some (.bool (Op.bytesLess a b))
  | .leq => some (.bool (Op.bytesLess a b || a == b))
  | .gtr => some (.bool (!(Op.bytesLess a b || a == b)))
  | .geq => some (.bool (!Op.bytesLess a b))
  | _ => none

/-- Are two the same, as far as that is asked: numbers, truths, texts; and cells of these, one by one. -/
def eq1 : PD → PD → Option Bool
  | .int k a, .int k' b => if k = k' then some (a == b) else none
  | .bool a, .bool b => some (a == b)
  | .str a, .str b => some (a == b)
  | _, _ => none

/-- The kinds of single cells that are held against each other. -/
inductive Leaf where
  | int
  | bool
  | str
  deriving DecidableEq

def eq1k : Leaf → PD → PD → Option Bool
  | .int, .int k a, .int k' b => if k = k' then some (a == b) else none
  | .bool, .bool a, .bool b => some (a == b)
  | .str, .str a, .str b => some (a == b)
  | _, _, _ => none

def eqLK : List Leaf → List PD → List PD → Option Bool
  | [], [], [] => some true
  | k :: ks, a :: x, b :: y => match eq1k k a b, eqLK ks x y with
    | some r, some s => some (r && s)
    | _, _ => none
  | _, _, _ => none

/-- The kinds of '==' that the machine knows. -/
inductive EqK where
  | scalar
  | agg (ks : List Leaf)
  | ptr
  | fn
  | ifc
  | ifc0
  deriving DecidableEq

def eqPD (k : EqK) (a b : AV) : Option Bool :=
  match k, a, b with
  | .scalar, .pd x, .pd y => eq1 x y
  | .agg ks, .pd (.agg x), .pd (.agg y) => eqLK ks x y
  | .ptr, .pd .nilp, .pd .nilp => some true
  | .ptr, .pd .nilp, .ptr _ _ => some false
  | .ptr, .ptr _ _, .pd .nilp => some false
  | .ptr, .pd .nilp, .pd (.ref _ _) => some false
  | .ptr, .pd (.ref _ _), .pd .nilp => some false
  | .fn, .pd .nilfn, .pd .nilfn => some true
  | .fn, .pd .nilfn, .pd (.fn _) => some false
  | .fn, .pd (.fn _), .pd .nilfn => some false
  | .fn, .pd .nilfn, .clo _ _ _ => some false
  | .fn, .clo _ _ _, .pd .nilfn => some false
  | .ifc, .pd .nilif, .pd (.ifc _ _) => some false
  | .ifc, .pd (.ifc _ _), .pd .nilif => some false
  | .ifc0, .pd .nilif, .pd .nilif => some true
  | .ifc0, .pd .nilif, .pd (.ifc _ _) => some false
  | .ifc0, .pd (.ifc _ _), .pd .nilif => some false
  | _, _, _ => none

inductive Cnv where
  | int (k : IntKind)
  | rune
  | same
  | bytes
  | str
  deriving DecidableEq

/-- How a call came back. -/
inductive ARes where
  | ret (x : AV)
  | pan (x : PD)

inductive AOp where
  | mov (x : Opd)
  | adopt (mt : Bool) (sz : Nat)
  | pick (c a b : Opd)
  | alloc (zs : List PD) (ad : List (Nat × Nat × Bool))
  | box (n : Nat) (x : Opd)
  | build (zs : List PD) (parts : List (Nat × Nat × Opd))
  | bsl (sz : Nat) (parts : List Opd)
  | bslm (sz : Nat) (parts : List Opd)
  | load (agg : Bool) (n : Nat) (a : Opd)
  | store (n : Nat) (a x : Opd)
  | nilck (x : Opd)
  | bin (op : BinOp) (x y : Opd)
  | eq (k : EqK) (neg : Bool) (x y : Opd)
  | neg (x : Opd)
  | not (x : Opd)
  | conv (k : Cnv) (x : Opd)
  | mkif (t : TypeId) (x : Opd)
  | mkfn (f : FuncId) (fs cs : List Opd)
  | mksl (sz bytes : Nat) (z : PD) (len : Opd)
  | sls (x : Opd) (lo hi : Option Opd)
  | sll (sz : Nat) (x : Opd) (lo hi mx : Option Opd)
  | fld (agg : Bool) (n off : Nat) (x : Opd)
  | faddr (off : Nat) (x : Opd)
  | iaddr (sz : Nat) (x i : Opd)
  | aaddr (sz len : Nat) (x i : Opd)
  | idxs (x i : Opd)
  | idxa (agg : Bool) (sz len : Nat) (x i : Opd)
  | range (x : Opd)
  | next (x : Opd)
  | tass (t : TypeId) (ok : Bool) (z : PD) (x : Opd)
  | ext (x : Opd) (i : Nat)
  | lens (x : Opd)
  | len (x : Opd)
  | app (sz bytes : Nat) (mt : Bool) (x y : Opd)
  | minmax (mx : Bool) (xs : List Opd)
  | call (f : FuncId) (xs : List Opd)
  | callr (f : FuncId) (xs : List Opd)
  | callv (f : Opd) (xs : List Opd)
  | panic (x : Opd)
  | xib (x y : Opd)

/-- Where a byte first stands; -1: nowhere. -/
def idxOfB (c : UInt8) : List UInt8 → Nat → Int
  | [], _ => -1
  | b :: r, k => if b == c then (k : Int) else idxOfB c r (k + 1)

def adoptAll (ad : List (Nat × Nat × Bool)) (st : St) (cells : List AV) : St × List AV :=
  match ad with
  | [] => (st, cells)
  | (off, sz, mt) :: r => adoptAll r (st ++ [.row mt sz []]) (cells.set off (.row st.length 0))

def fillA (cells : List AV) : List (Nat × Nat × AV) → Option (List AV)
  | [] => some cells
  | (off, n, x) :: r => match cellsOf x with
    | some new => if new.length = n ∧ off + n ≤ cells.length then fillA (lay cells off new) r else none
    | none => none

def evP (ly : Ly) : List (Nat × Nat × Opd) → Option (List (Nat × Nat × AV))
  | [] => some []
  | (a, b, o) :: r => match o.ev ly, evP ly r with
    | some x, some xs => some ((a, b, x) :: xs)
    | _, _ => none

def toPDs (st : St) : List AV → Option (List PD)
  | [] => some []
  | x :: r => match toPD st x, toPDs st r with
    | some p, some ps => some (p :: ps)
    | _, _ => none

/-- Elements of some size each, all of whose cells are single. -/
def sized (sz : Nat) (xs : List PD) : Bool := xs.all fun x => x.cells.length == sz && x.cells.all PD.single

/-- What a slice has. -/
def elems (st : St) : AV → Option (List PD)
  | .pd (.sl xs) => some xs
  | .nil => some []
  | .tight xs => some xs
  | .row id n => match st[id]? with
    | some (.row _ _ xs) => if xs.length = n then some xs else none
    | _ => none
  | _ => none

/-- What is put behind a slice: what another one has, or a text's bytes. -/
def tail (st : St) : AV → Option (List PD)
  | .pd (.str s) => some (s.map fun b => .int .u8 b.toNat)
  | x => elems st x

def widthAt (sz : Nat) (xs : List PD) (i : Nat) : Bool := match xs[i]? with
  | some y => y.cells.length == sz
  | none => true

def natOf : AV → Option Nat
  | .pd (.int _ n) => if 0 ≤ n then some n.toNat else none
  | _ => none

def evO (ly : Ly) (d : Nat) : Option Opd → Option Nat
  | none => some d
  | some o => match o.ev ly with
    | some x => natOf x
    | none => none

def bytesOfPD : List PD → Option (List UInt8)
  | [] => some []
  | .int .u8 n :: r => match bytesOfPD r with
    | some bs => some (UInt8.ofNat n.toNat :: bs)
    | none => none
  | _ :: _ => none

abbrev CallF := FuncId → List AV → St → Option (ARes × St)

abbrev Out := ARes × St

def val (x : AV) (st : St) : Option Out := some (.ret x, st)

def foldMM (mx : Bool) (k : IntKind) (a : Int) : List AV → Option Int
  | [] => some a
  | .pd (.int k' b) :: r => if k' = k then foldMM mx k (if mx then (if b > a then b else a) else (if b < a then b else a)) r else none
  | _ :: _ => none

/-- A value is stored at a place of a variable: what is older than the innermost layer takes nothing younger than itself. -/
def older (st : St) (m : Nat) (x : AV) : AV := if x.und m then x else firm st x

def aged (st : St) (tm id : Nat) (x : AV) : AV := if tm ≤ id then x else (older st (id + 1) x).clip (id + 1)

def doLoad (agg : Bool) (n : Nat) (st : St) : AV → Option AV
  | .ptr id off => match st[id]? with
    | some (.var cells) => ofCells agg n cells off
    | _ => none
  | .pd (.ref cs off) => (ofCellsPD agg n cs off).map .pd
  | .rp id k i off => match st[id]? with
    | some (.row _ _ xs) => if xs.length = k then (match xs[i]? with
      | some x => (ofCellsPD agg n x.cells off).map .pd
      | none => none) else none
    | _ => none
  | _ => none

def setEl (y : PD) (off : Nat) (ps : List PD) : Option PD :=
  match y with
  | .agg cs => some (.agg (layPD cs off ps))
  | _ => match ps with
    | [p] => some p
    | _ => none

def doStore (tm n : Nat) (st : St) (a x : AV) : Option St :=
  match cellsOf x with
  | none => none
  | some new =>
    if new.length = n then
      match a with
      | .ptr id off => match st[id]? with
        | some (.var cells) => if off + n ≤ cells.length then some (st.set id (.var (lay cells off (new.map (aged st tm id))))) else none
        | _ => none
      | .rp id k i off => match st[id]? with
        | some (.row true sz xs) => if xs.length = k then (match xs[i]?, allPD new with
          | some y, some ps => if off + n ≤ y.cells.length then (match setEl y off ps with
            | some y' => some (st.set id (.row true sz (xs.set i y')))
            | none => none) else none
          | _, _ => none) else none
        | _ => none
      | _ => none
    else none

def doApp (sz bytes : Nat) (mt : Bool) (st : St) (x y : AV) : Option Out :=
  match elems st x, tail st y with
  | some xs, some ys =>
    if ys = [] then val x st
    else if sized sz ys && decide ((xs.length + ys.length) * bytes ≤ 140737488355328) && decide (xs.length + ys.length ≤ 9223372036854775807) then
      match x with
      | .nil => val (.row st.length ys.length) (st ++ [.row mt sz ys])
      | .tight _ => if sized sz xs then val (.row st.length (xs.length + ys.length)) (st ++ [.row mt sz (xs ++ ys)]) else none
      | .row id _ => match st[id]? with
        | some (.row m' sz' _) => if sz' = sz then val (.row id (xs.length + ys.length)) (st.set id (.row m' sz (xs ++ ys))) else none
        | _ => none
      | _ => none
    else none
  | _, _ => none

def ARes.firmed (st : St) : ARes → ARes
  | .ret x => .ret (firm st x)
  | r => r

def AV.isPd : AV → Bool
  | .pd _ => true
  | _ => false

def ARes.plain : ARes → Bool
  | .ret (.pd _) => true
  | .ret (.tup xs) => xs.all AV.isPd
  | .ret _ => false
  | .pan _ => true

/-- A call that is handed no places looks at nothing of what there is, and leaves it alone. -/
def pureCall (call : CallF) (f : FuncId) (ys : List AV) (st : St) : Option Out :=
  match call f ys [] with
  | some (r, []) => if r.plain then some (r, st) else none
  | _ => none

def callIn (call : CallF) (f : FuncId) (ys : List AV) (st : St) : Option Out :=
  if ys.all AV.isPd then pureCall call f ys st else call f ys st

def AOp.run (call : CallF) (ly : Ly) (st : St) : AOp → Option Out
  | .mov x => match x.ev ly with
    | some x => val x st
    | none => none
  | .adopt mt sz => val (.row st.length 0) (st ++ [.row mt sz []])
  | .pick c a b => match c.ev ly with
    | some (.pd (.bool t)) => match (if t then a.ev ly else b.ev ly) with
      | some x => val x st
      | none => none
    | _ => none
  | .alloc zs ad =>
    let r := adoptAll ad st (zs.map .pd)
    val (.ptr r.1.length 0) (r.1 ++ [.var r.2])
  | .box n x => match x.ev ly with
    | some x => match cellsOf x with
      | some cs => if cs.length = n then val (.ptr st.length 0) (st ++ [.var cs]) else none
      | none => none
    | none => none
  | .build zs parts => match evP ly parts with
    | some ps => match fillA (zs.map .pd) ps with
      | some cs => val (mkAgg cs) st
      | none => none
    | none => none
  | .bsl sz parts => match evL ly parts with
    | some xs => match toPDs (frzA st xs) xs with
      | some ps => if sized sz ps then val (.tight ps) (frzA st xs) else none
      | none => none
    | none => none
  | .bslm sz parts => match evL ly parts with
    | some xs => match toPDs (frzA st xs) xs with
      | some ps => if sized sz ps then val (.row (frzA st xs).length ps.length) (frzA st xs ++ [.row true sz ps]) else none
      | none => none
    | none => none
  | .load agg n a => match a.ev ly with
    | some a => match doLoad agg n st a with
      | some x => val x st
      | none => none
    | none => none
  | .store n a x => match a.ev ly, x.ev ly with
    | some a, some x => match doStore (Ly.top ly) n st a x with
      | some st' => val (.tup []) st'
      | none => none
    | _, _ => none
  | .nilck x => match x.ev ly with
    | some (.ptr id o) => val (.ptr id o) st
    | some (.pd (.ref cs o)) => val (.pd (.ref cs o)) st
    | some (.clo f a b) => val (.clo f a b) st
    | some (.pd (.fn f)) => val (.pd (.fn f)) st
    | _ => none
  | .bin op x y => match x.ev ly, y.ev ly with
    | some (.pd (.int k a)), some (.pd (.int k' b)) =>
      match op with
      | .shl => if 0 ≤ b then val (.pd (.int k (k.wrap (a * 2 ^ min b.toNat k.bits)))) st else none
      | .shr => if 0 ≤ b then val (.pd (.int k (a.fdiv (2 ^ min b.toNat k.bits)))) st else none
      | op => if k = k' then (match binI op k a b with
        | some r => val (.pd r) st
        | none => none) else none
    | some (.pd (.str a)), some (.pd (.str b)) => match binS op a b with
      | some r => val (.pd r) st
      | none => none
    | _, _ => none
  | .eq k ng x y => match x.ev ly, y.ev ly with
    | some x, some y => match eqPD k x y with
      | some b => val (.pd (.bool (if ng then !b else b))) st
      | none => none
    | _, _ => none
  | .neg x => match x.ev ly with
    | some (.pd (.int k a)) => val (.pd (.int k (k.wrap (0 - a)))) st
    | _ => none
  | .not x => match x.ev ly with
    | some (.pd (.bool b)) => val (.pd (.bool (!b))) st
    | _ => none
  | .conv k x => match k, x.ev ly with
    | .int k, some (.pd (.int _ n)) => val (.pd (.int k (k.wrap n))) st
    | .rune, some (.pd (.int _ n)) => val (.pd (.str (Utf8.encode n).toList)) st
    | .same, some (.pd (.str s)) => val (.pd (.str s)) st
    | .bytes, some (.pd (.str s)) => if s.length ≤ maxLen then val (.row st.length s.length) (st ++ [.row true 1 (s.map fun b => .int .u8 b.toNat)]) else none
    | .str, some x => match elems st x with
      | some xs => match bytesOfPD xs with
        | some bs => val (.pd (.str bs)) st
        | none => none
      | none => none
    | _, _ => none
  | .mkif t x => match x.ev ly with
    | some x => match toPD (frz st x) x with
      | some p => val (.pd (.ifc t p)) (frz st x)
      | none => none
    | none => none
  | .mkfn f fs cs => match evL ly fs, evL ly cs with
    | some fs, some cs => val (match fs, cs with
      | [], [] => .pd (.fn f)
      | fs, cs => .clo f fs cs) st
    | _, _ => none
  | .mksl sz bytes z ln => match ln.ev ly with
    | some (.pd (.int k n)) => if k = .i64 ∧ 0 ≤ n ∧ n * bytes ≤ 140737488355328 ∧ n ≤ 9223372036854775807 ∧ z.cells.length = sz ∧ (z.cells.all PD.single) then
        val (.row st.length n.toNat) (st ++ [.row true sz (List.replicate n.toNat z)]) else none
    | _ => none
  | .sls x lo hi => match x.ev ly with
    | some (.pd (.str s)) => match evO ly 0 lo, evO ly s.length hi with
      | some l, some h => if l ≤ h ∧ h ≤ s.length then val (.pd (.str ((s.drop l).take (h - l)))) st else none
      | _, _ => none
    | _ => none
  | .sll sz x lo hi mx => match x.ev ly with
    | some x => match toPD (frz st x) x with
      | some (.sl xs) => match evO ly 0 lo, evO ly xs.length hi, evO ly xs.length mx with
        | some l, some h, some m => if l ≤ h ∧ h ≤ m ∧ m ≤ xs.length ∧ widthAt sz xs l = true then
            (match mx with
              | none => val (.pd (.sl ((xs.drop l).take (h - l)))) (frz st x)
              | some _ => if h = m then val (.tight ((xs.drop l).take (h - l))) (frz st x) else none) else none
        | _, _, _ => none
      | _ => none
    | none => none
  | .fld agg n off x => match x.ev ly with
    | some (.agg cs) => match ofCells agg n cs off with
      | some x => val x st
      | none => none
    | some (.pd (.agg cs)) => match ofCellsPD agg n cs off with
      | some x => val (.pd x) st
      | none => none
    | _ => none
  | .faddr off x => match x.ev ly with
    | some (.ptr id o) => val (.ptr id (o + off)) st
    | some (.pd (.ref cs o)) => val (.pd (.ref cs (o + off))) st
    | some (.rp id n i o) => match st[id]? with
      | some (.row _ _ xs) => if xs.length = n then val (.rp id n i (o + off)) st else none
      | _ => none
    | _ => none
  | .iaddr sz x i => match x.ev ly, i.ev ly with
    | some x, some (.pd (.int _ n)) =>
      if 0 ≤ n then
        (match x with
          | .row id k => match st[id]? with
            | some (.row _ sz' xs) => if xs.length = k ∧ sz' = sz ∧ n.toNat < k then val (.rp id k n.toNat 0) st else none
            | _ => none
          | x => match elems st x with
            | some xs => match xs[n.toNat]? with
              | some e => if e.cells.length = sz then val (.pd (.ref e.cells 0)) st else none
              | none => none
            | none => none) else none
    | _, _ => none
  | .aaddr sz ln x i => match x.ev ly, i.ev ly with
    | some x, some (.pd (.int _ n)) =>
      if 0 ≤ n ∧ n < ln then
        (match x with
          | .ptr id o => val (.ptr id (o + n.toNat * sz)) st
          | .pd (.ref cs o) => val (.pd (.ref cs (o + n.toNat * sz))) st
          | _ => none) else none
    | _, _ => none
  | .idxs x i => match x.ev ly, i.ev ly with
    | some (.pd (.str s)), some (.pd (.int _ n)) => if 0 ≤ n then (match s[n.toNat]? with
      | some b => val (.pd (.int .u8 b.toNat)) st
      | none => none) else none
    | _, _ => none
  | .idxa agg sz ln x i => match x.ev ly, i.ev ly with
    | some (.pd (.agg cs)), some (.pd (.int _ n)) => if 0 ≤ n ∧ n < ln then (match ofCellsPD agg sz cs (n.toNat * sz) with
      | some x => val (.pd x) st
      | none => none) else none
    | _, _ => none
  | .range x => match x.ev ly with
    | some (.pd (.str s)) => val (.ptr st.length 0) (st ++ [.iter s 0])
    | _ => none
  | .next x => match x.ev ly with
    | some (.ptr id 0) => match st[id]? with
      | some (.iter s pos) => if pos < s.length then
          val (.tup [.pd (.bool true), .pd (.int .i64 pos), .pd (.int .i32 (Utf8.decode ⟨s.toArray⟩ pos).1)]) (st.set id (.iter s (pos + (Utf8.decode ⟨s.toArray⟩ pos).2)))
        else val (.tup [.pd (.bool false)]) st
      | _ => none
    | _ => none
  | .tass t ok z x => match x.ev ly with
    | some (.pd (.ifc u p)) => if u = t then val (if ok then .tup [.pd p, .pd (.bool true)] else .pd p) st
      else if ok then val (.tup [.pd z, .pd (.bool false)]) st else none
    | some (.pd .nilif) => if ok then val (.tup [.pd z, .pd (.bool false)]) st else none
    | _ => none
  | .ext x i => match x.ev ly with
    | some (.tup xs) => match xs[i]? with
      | some x => val x st
      | none => none
    | _ => none
  | .lens x => match x.ev ly with
    | some (.pd (.str s)) => val (.pd (.int .i64 s.length)) st
    | _ => none
  | .len x => match x.ev ly with
    | some x => match elems st x with
      | some xs => val (.pd (.int .i64 xs.length)) st
      | none => none
    | none => none
  | .app sz bytes mt x y => match x.ev ly, y.ev ly with
    | some x, some y => doApp sz bytes mt st x y
    | _, _ => none
  | .minmax mx xs => match evL ly xs with
    | some (.pd (.int k a) :: r) => match foldMM mx k a r with
      | some b => val (.pd (.int k b)) st
      | none => none
    | _ => none
  | .call f xs => match evL ly xs with
    | some xs => callIn call f (xs.map (firm (frzA st xs))) (frzA st xs)
    | none => none
  | .callr f xs => match evL ly xs with
    | some xs => call f (xs.map (firm st)) st
    | none => none
  | .callv f xs => match f.ev ly, evL ly xs with
    | some (.pd (.fn f)), some xs => callIn call f (xs.map (firm (frzA st xs))) (frzA st xs)
    | some (.clo f fs cs), some xs => callIn call f (fs ++ xs.map (firm (frzA st xs)) ++ cs) (frzA st xs)
    | _, _ => none
  | .panic x => match x.ev ly with
    | some (.pd (.ifc t p)) => some (.pan (.ifc t p), st)
    | _ => none
  | .xib x y => match x.ev ly, y.ev ly with
    | some (.pd (.str s)), some (.pd (.int .u8 c)) => val (.pd (.int .i64 (idxOfB c.toNat.toUInt8 s 0))) st
    | _, _ => none
end Go.Proofs.Kh
