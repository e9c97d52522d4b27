/- From the model's operations to the machine's: what types say is looked up once. -/
import Derived.Test.YtgnmblegndbflaaGreatDoorKhK
namespace Go.Proofs.Kh
set_option linter.all false
set_option linter.unusedVariables false
set_option linter.unusedSimpArgs false
open Go

def pdV : Value → Option PD
  | .int k n => some (.int k n)
  | .bool b => some (.bool b)
  | .string s => some (.str s.data.toList)
  | .pointer none => some .nilp
  | .slice none 0 0 => some (.sl [])
  | .nilFunc => some .nilfn
  | .nilIface => some .nilif
  | _ => none

def pdVs : List Value → Option (List PD)
  | [] => some []
  | v :: r => match pdV v, pdVs r with
    | some x, some xs => some (x :: xs)
    | _, _ => none

def cst : Value → Option AV
  | .slice none 0 0 => some .nil
  | .agg cs => match pdVs cs.toList with
    | some ps => some (.pd (.agg ps))
    | none => none
  | v => match pdV v with
    | some p => some (.pd p)
    | none => none

def opd : Operand → Option Opd
  | .tmp t => some (.t t)
  | .const v => match cst v with
    | some x => some (.c x)
    | none => none
  | .func f => some (.c (.pd (.fn f)))
  | .global _ => none

def opds : List Operand → Option (List Opd)
  | [] => some []
  | o :: r => match opd o, opds r with
    | some x, some xs => some (x :: xs)
    | _, _ => none

def opdO : Option Operand → Option (Option Opd)
  | none => some none
  | some o => match opd o with
    | some x => some (some x)
    | none => none

/-- A type's zero, cell by cell. -/
def zeroOf (P : Program) (t : TypeId) : Option (List PD) :=
  match P.info? t with
  | some i => match i.zero with
    | some z => match pdVs z.cells.toList with
      | some ps => if ps.length = i.size then some ps else none
      | none => none
    | none => none
  | none => none

def sizeT (P : Program) (t : TypeId) : Option Nat := (P.info? t).map (·.size)

/-- A type's zero, as one thing. -/
def zeroPD (P : Program) (t : TypeId) : Option PD :=
  match P.info? t with
  | some i => match i.zero with
    | some (.agg cs) => match pdVs cs.toList with
      | some ps => some (.agg ps)
      | none => none
    | some v => pdV v
    | none => none
  | none => none

/-- Where the parts of a struct, or an array, lie. -/
def placeOf (P : Program) (t : TypeId) (i : Nat) : Option (Nat × Nat) :=
  match P.underlying t with
  | some (.struct fields) => match fields[i]? with
    | some f => match sizeT P f.type with
      | some n => some (f.offset, n)
      | none => none
    | none => none
  | some (.array _ e) => match sizeT P e with
    | some n => some (i * n, n)
    | none => none
  | _ => none

/-- Are all fields' types known? -/
def fieldsOK (P : Program) (t : TypeId) : Bool :=
  match P.underlying t with
  | some (.struct fs) => fs.toList.all fun f => (sizeT P f.type).isSome
  | some (.array _ e) => (sizeT P e).isSome
  | _ => false

def partsOf (P : Program) (t : TypeId) : List (Nat × Operand) → Option (List (Nat × Nat × Opd))
  | [] => some []
  | (i, o) :: r => match placeOf P t i, opd o, partsOf P t r with
    | some (a, b), some x, some xs => some ((a, b, x) :: xs)
    | _, _, _ => none

def leavesG (P : Program) (f : TypeId → Option (List Leaf)) : Nat → List Field → Option (List Leaf)
  | _, [] => some []
  | off, fd :: fs => match f fd.type, sizeT P fd.type, leavesG P f (off + (sizeT P fd.type).getD 0) fs with
    | some l, some s, some r => if l.length = s ∧ fd.name ≠ "_" ∧ fd.offset = off then some (l ++ r) else none
    | _, _, _ => none

/-- The single cells of a type, if they are of the kinds that are held against each other. -/
def leaves (P : Program) : Nat → TypeId → Option (List Leaf)
  | 0, _ => none
  | m + 1, t => match P.underlying t with
    | some (.int _) => some [.int]
    | some .bool => some [.bool]
    | some .string => some [.str]
    | some (.struct fs) => if P.stoodInHeld t = false then leavesG P (leaves P m) 0 fs.toList else none
    | some (.array n e) => match leaves P m e, sizeT P e with
      | some l, some s => if l.length = s then some (List.replicate n l).flatten else none
      | _, _ => none
    | _ => none

/-- The kind of '==' of a type. -/
def eqKind (P : Program) (t : TypeId) : Option EqK :=
  match P.underlying t with
  | some .bool => some .scalar
  | some (.pointer _) => some .ptr
  | some (.func _ _ _) => some .fn
  | some (.interface _) => some .ifc
  | some (.struct _) => match leaves P 8 t with
    | some ks => if P.eqGuardType P.depth t = false then some (.agg ks) else none
    | none => none
  | some (.array _ _) => match leaves P 8 t with
    | some ks => if P.eqGuardType P.depth t = false then some (.agg ks) else none
    | none => none
  | _ => none

def isC : Operand → Bool
  | .const _ => true
  | _ => false

/-- Is one of the two written out? -/
def litK (x y : Operand) : EqK → EqK
  | .ifc => if isC x || isC y then .ifc0 else .ifc
  | k => k

def goodAd (zs : List PD) : List (Nat × Nat × Bool) → Bool
  | [] => true
  | (off, _, _) :: r => (match zs[off]? with
    | some (.sl []) => true
    | _ => false) && goodAd zs r

/-- Is it a function that is entered? -/
def plainF (P : Program) (f : FuncId) : Bool :=
  match P.funcs[f]? with
  | some fn => fn.body.isSome && !(fn.name == "runtime.NumGoroutine")
  | none => false

/-- Is it the one that looks for a byte in a text? -/
def isIB (P : Program) (f : FuncId) : Bool :=
  match P.funcs[f]? with
  | some fn => fn.body.isNone && fn.name == "internal/bytealg.IndexByteString" && fn.origin == ""
  | none => false

abbrev Hint := Option Nat → List (Nat × Nat × Bool)

def sameOpd : Operand → Operand → Bool
  | .tmp a, .tmp b => a == b
  | .const (.int k a), .const (.int k' b) => k == k' && a == b
  | _, _ => false

/-- May it be put behind a slice? -/
def appKind : TypeDesc → Bool
  | .slice _ => true
  | .string => true
  | _ => false

/-- A built-in function. -/
def normB (P : Program) (ad : List (Nat × Nat × Bool)) (b : Builtin) (args : List Operand) (ts : List TypeId) : Option AOp :=
  match b, args, ts with
  | .len, [x], [t] => match opd x, P.underlying t with
    | some x, some .string => some (.lens x)
    | some x, some (.slice _) => some (.len x)
    | _, _ => none
  | .append, [x, y], [t, u] => match opd x, opd y, P.underlying t, P.underlying u with
    | some x, some y, some (.slice e), some d =>
      match P.info? e, zeroOf P e with
      | some i, some _ => if appKind d = true then
          some (.app i.size i.bytes (match ad with | [(_, _, m)] => m | _ => false) x y) else none
      | _, _ => none
    | _, _, _, _ => none
  | .min, xs, _ => match opds xs with
    | some xs => some (.minmax false xs)
    | none => none
  | .max, xs, _ => match opds xs with
    | some xs => some (.minmax true xs)
    | none => none
  | _, _, _ => none

def normOp (P : Program) (ad : List (Nat × Nat × Bool)) (byref : Bool) (o : Oper) : Option AOp :=
  match o.op with
  | .move x => match opd x with
    | some x => some (.mov x)
    | none => none
  | .assign x => match ad, x with
    | [(_, sz, mt)], .const (.slice none 0 0) => some (.adopt mt sz)
    | _, x => match opd x with
      | some x => some (.mov x)
      | none => none
  | .pick c a b => match opd c, opd a, opd b with
    | some c, some a, some b => some (.pick c a b)
    | _, _, _ => none
  | .alloc t => match zeroOf P t with
    | some zs => if goodAd zs ad then some (.alloc zs ad) else none
    | none => none
  | .box t x => match sizeT P t, opd x with
    | some n, some x => some (.box n x)
    | _, _ => none
  | .build t parts => match zeroOf P t, partsOf P t parts.toList, fieldsOK P t with
    | some zs, some ps, true => some (.build zs ps)
    | _, _, _ => none
  | .buildSlice t len parts => match P.underlying t with
    | some (.slice e) => match sizeT P e, zeroOf P e, opds (parts.toList.map (·.2)) with
      | some n, some _, some xs => if parts.toList.map (·.1) = List.range len ∧ len * n ≤ 16777216 ∧ len ≤ 16777216 then
          some (match ad with | [(_, _, true)] => .bslm n xs | _ => .bsl n xs) else none
      | _, _, _ => none
    | _ => none
  | .load t a => match aggOf P t, sizeT P t, opd a with
    | some g, some n, some a => some (.load g n a)
    | _, _, _ => none
  | .store t a x => match sizeT P t, opd a, opd x with
    | some n, some a, some x => some (.store n a x)
    | _, _, _ => none
  | .nilCheck x => match opd x with
    | some x => some (.nilck x)
    | none => none
  | .binOp op t x0 y0 _ => match opd x0, opd y0 with
    | some x, some y =>
      match op with
      | .eql => match P.underlying t with
        | some (.int _) => some (.bin .eql x y)
        | some .string => some (.bin .eql x y)
        | _ => match eqKind P t with
          | some k => some (.eq (litK x0 y0 k) false x y)
          | none => none
      | .neq => match P.underlying t with
        | some (.int _) => some (.bin .neq x y)
        | some .string => some (.bin .neq x y)
        | _ => match eqKind P t with
          | some k => some (.eq (litK x0 y0 k) true x y)
          | none => none
      | op => some (.bin op x y)
    | _, _ => none
  | .unOp op _ x => match op, opd x with
    | .neg, some x => some (.neg x)
    | .not, some x => some (.not x)
    | _, _ => none
  | .convert src dst x => match P.underlying src, P.underlying dst, opd x with
    | some (.int _), some (.int k), some x => some (.conv (.int k) x)
    | some (.int _), some .string, some x => some (.conv .rune x)
    | some .string, some .string, some x => some (.conv .same x)
    | some .string, some (.slice e), some x => match P.underlying e with
      | some (.int .u8) => if sizeT P e = some 1 then some (.conv .bytes x) else none
      | _ => none
    | some (.slice e), some .string, some x => match P.underlying e with
      | some (.int .u8) => some (.conv .str x)
      | _ => none
    | _, _, _ => none
  | .makeInterface t x => match P.underlying t, opd x with
    | some (.interface _), _ => none
    | some _, some x => some (.mkif t x)
    | _, _ => none
  | .makeFunc (.func f) fs cs => match opds fs.toList, opds cs.toList with
    | some fs, some cs => some (.mkfn f fs cs)
    | _, _ => none
  | .makeSlice t l c => match P.underlying t, opd l with
    | some (.slice e), some l' => match P.info? e, zeroOf P e, zeroPD P e with
      | some i, some _, some z => if sameOpd l c then some (.mksl i.size i.bytes z l') else none
      | _, _, _ => none
    | _, _ => none
  | .slice t x lo hi mx => match P.underlying t, opd x, opdO lo, opdO hi, opdO mx with
    | some .string, some x, some lo, some hi, some none => some (.sls x lo hi)
    | some (.slice e), some x, some lo, some hi, some mx => match sizeT P e with
      | some n => if mx.isSome && hi.isNone then none else some (.sll n x lo hi mx)
      | none => none
    | _, _, _, _, _ => none
  | .fieldAddr t x i => match P.underlying t, opd x with
    | some (.struct fs), some x => match fs[i]? with
      | some f => match sizeT P f.type with
        | some (_ + 1) => some (.faddr f.offset x)
        | _ => none
      | none => none
    | _, _ => none
  | .field t x i => match P.underlying t, opd x with
    | some (.struct fs), some x => match fs[i]? with
      | some f => match aggOf P f.type, sizeT P f.type with
        | some g, some n => some (.fld g n f.offset x)
        | _, _ => none
      | none => none
    | _, _ => none
  | .indexAddr t x i => match P.underlying t, opd x, opd i with
    | some (.slice e), some x, some i => match sizeT P e with
      | some n => some (.iaddr n x i)
      | none => none
    | some (.array len e), some x, some i => match sizeT P e with
      | some n => if 1 < len then some (.aaddr n len x i) else none
      | none => none
    | _, _, _ => none
  | .index t x i => match P.underlying t, opd x, opd i with
    | some .string, some x, some i => some (.idxs x i)
    | some (.array len e), some x, some i => match aggOf P e, sizeT P e with
      | some g, some n => some (.idxa g n len x i)
      | _, _ => none
    | _, _, _ => none
  | .range t x => match P.underlying t, opd x with
    | some .string, some x => some (.range x)
    | _, _ => none
  | .next x true => match opd x with
    | some x => some (.next x)
    | none => none
  | .typeAssert x _ t ok => match P.underlying t, opd x, zeroPD P t with
    | some (.interface _), _, _ => none
    | some _, some x, some z => some (.tass t ok z x)
    | _, _, _ => none
  | .extract x i => match opd x with
    | some x => some (.ext x i)
    | none => none
  | .call c => match c.callee with
    | .builtin b => normB P ad b c.args.toList c.argTypes.toList
    | .value (.func f) => if plainF P f then (match opds c.args.toList with
      | some xs => some (if byref then .callr f xs else .call f xs)
      | none => none) else if isIB P f then (match opds c.args.toList with
      | some [x, y] => some (.xib x y)
      | _ => none) else none
    | .value v => match opd v, opds c.args.toList with
      | some v, some xs => some (.callv v xs)
      | _, _ => none
    | _ => none
  | .panic x => match opd x with
    | some x => some (.panic x)
    | none => none
  | _ => none
end Go.Proofs.Kh
