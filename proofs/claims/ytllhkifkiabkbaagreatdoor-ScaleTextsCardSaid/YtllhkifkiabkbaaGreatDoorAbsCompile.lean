/- From the program's code to the abstract code. -/
import Derived.Test.YtllhkifkiabkbaaGreatDoorAbsEval
set_option linter.unusedSimpArgs false
set_option linter.unusedVariables false
namespace Go.Abs

def constOk : Value → Bool
  | .agg cs => cs.toList.all plainV
  | .tuple cs => cs.toList.isEmpty
  | v => plainV v

def opdOk (glob : List Nat) : Operand → Bool
  | .const v => constOk v
  | .global g => (globPos glob g).isSome
  | _ => true

def isAggT (P : Program) (t : TypeId) : Option Bool :=
  match P.underlying t with
  | some (.struct _) | some (.array _ _) => some true
  | some _ => some false
  | none => none

def sizeT (P : Program) (t : TypeId) : Option Nat := (P.info? t).map (·.size)

/-- The zero cells of a type: as many as its size, flat. -/
def zeroT (P : Program) (t : TypeId) : Option (List Value) :=
  match P.info? t with
  | some i => match i.zero with
    | some z => if z.cells.size = i.size ∧ z.cells.toList.all plainV = true then some z.cells.toList else none
    | none => none
  | none => none

def sliceElem (P : Program) (t : TypeId) : Option TypeId :=
  match P.underlying t with
  | some (.slice e) => some e
  | _ => none

/-- The places of parts: offset and size. -/
def places (P : Program) (t : TypeId) (parts : List (Nat × Operand)) : Option (List (Nat × Nat × Operand)) :=
  match P.underlying t with
  | some (.struct fields) => parts.mapM fun (i, x) => match fields[i]? with
    | some f => (sizeT P f.type).map fun s => (f.offset, s, x)
    | none => none
  | some (.array _ elem) => match sizeT P elem with
    | some s => some (parts.map fun (i, x) => (i * s, s, x))
    | none => none
  | _ => none

/-- All sizes of a struct's fields are known. -/
def fieldsOk (P : Program) (t : TypeId) : Bool :=
  match P.underlying t with
  | some (.struct fields) => fields.toList.all fun f => (P.info? f.type).isSome
  | some (.array _ elem) => (P.info? elem).isSome
  | _ => false

/-- The kinds of the cells of fields that lie one behind the other. -/
def flatFields (P : Program) (flat : TypeId → Option (List CK)) : Nat → List Field → Option (List CK)
  | _, [] => some []
  | o, f :: r => match flat f.type with
    | some ks => if f.name ≠ "_" ∧ f.offset = o then (flatFields P flat (o + ks.length) r).map (ks ++ ·) else none
    | none => none

/-- The kinds of the cells of a type of flat scalars. -/
def flatT (P : Program) : Nat → TypeId → Option (List CK)
  | 0, _ => none
  | d + 1, t => match P.underlying t with
    | some (.int k) => if sizeT P t = some 1 then some [.int k] else none
    | some .bool => if sizeT P t = some 1 then some [.bool] else none
    | some .string => if sizeT P t = some 1 then some [.str] else none
    | some (.struct fields) => if P.stoodInHeld t = true then none else
      match flatFields P (flatT P d) 0 fields.toList with
      | some ks => if sizeT P t = some ks.length then some ks else none
      | none => none
    | some (.array n e) => match flatT P d e with
      | some ks => if sizeT P t = some (n * ks.length) then some (List.replicate n ks).flatten else none
      | none => none
    | _ => none

def callable (P : Program) (f : FuncId) : Bool :=
  match P.funcs[f]? with
  | some fn => fn.body.isSome && fn.name != "runtime.NumGoroutine"
  | none => false

def isZero : Option Operand → Bool
  | some (.const (.int .i64 0)) => true
  | _ => false

def compileBin (P : Program) (op : BinOp) (t : TypeId) (x y : Operand) : Option EOp :=
  match P.underlying t with
  | some (.int _) | some .string => some (.bin op x y)
  | some .bool => match op with
    | .eql => some (.eqBool false x y)
    | .neq => some (.eqBool true x y)
    | _ => none
  | some (.interface _) => match op, y with
    | .eql, .const .nilIface => some (.eqNil false x)
    | .neq, .const .nilIface => some (.eqNil true x)
    | _, _ => none
  | some (.slice _) => match op, y with
    | .eql, .const (.slice none 0 0) => some (.eqNilS false x)
    | .neq, .const (.slice none 0 0) => some (.eqNilS true x)
    | _, _ => none
  | some (.struct _) | some (.array _ _) => if P.eqGuardType P.depth t = true then none else match flatT P 20 t, op with
      | some ks, .eql => some (.eqAgg false ks x y)
      | some ks, .neq => some (.eqAgg true ks x y)
      | _, _ => none
  | _ => none

def compileCall (P : Program) (c : Call) : Option EOp :=
  match c.callee with
  | .value (.func f) =>
    if callable P f then some (.call f c.args.toList) else
      match P.funcs[f]? with
      | some fn => if fn.name = "math/bits.Add64" ∧ fn.origin = "" ∧ fn.body.isNone = true then
          match c.args.toList with
          | [x, y, z] => some (.add64 x y z)
          | _ => none
        else none
      | none => none
  | .value f => some (.callVal f c.args.toList)
  | .builtin .len => match c.args.toList, c.argTypes[0]? with
    | [x], some t => match P.underlying t with
      | some .string => some (.len true x)
      | some (.slice _) => some (.len false x)
      | some (.map _ _) => some (.lenMap x)
      | _ => none
    | _, _ => none
  | .builtin .cap => match c.args.toList, c.argTypes[0]? with
    | [x], some t => match P.underlying t with
      | some (.slice _) => some (.capZ x)
      | _ => none
    | _, _ => none
  | .builtin .min => some (.min c.args.toList)
  | .builtin .max => some (.max c.args.toList)
  | .builtin .append => match c.args.toList, c.argTypes.toList with
    | [s, x], [t, u] => match sliceElem P t with
      | some e => match P.info? e, zeroT P e with
        | some i, some _ => if 0 < i.size ∧ t = u then some (.append i.size i.bytes s x) else none
        | _, _ => none
      | none => none
    | _, _ => none
  | .builtin .clear => match c.args.toList, c.argTypes[0]? with
    | [x], some t => match sliceElem P t with
      | some e => match sizeT P e, zeroT P e with
        | some s, some z => if 0 < s then some (.clear s z x) else none
        | _, _ => none
      | none => none
    | _, _ => none
  | _ => none

/-- A zero value that is plain, or of plain cells. -/
def zeroOk : Value → Bool
  | .agg cs => cs.toList.all plainV
  | z => plainV z

/-- The zero value of a type. -/
def zeroV (P : Program) (t : TypeId) : Option Value :=
  match P.info? t with
  | some i => match i.zero with
    | some z => if zeroOk z = true then some z else none
    | none => none
  | none => none

/-- The keys of a map are numbers or texts. -/
def keyKind (P : Program) (t : TypeId) : Option CK :=
  match P.underlying t with
  | some (.int k) => some (.int k)
  | some .string => some .str
  | some (.struct _) => (flatT P 2 t).map .agg
  | _ => none

def compileSlice (P : Program) (t : TypeId) (x : Operand) (lo hi mx : Option Operand) : Option EOp :=
  match P.underlying t, mx with
  | some (.array n e), none => (sizeT P e).map fun s => .arrSlice n s x lo hi
  | some .string, none => some (.strSlice x lo hi)
  | some (.slice e), none => match sizeT P e with
    | some s => if 0 < s then some (.slice s x lo hi) else none
    | none => none
  | some (.slice e), some m => if isZero (some m) && isZero hi && (lo.isNone || isZero lo) then (sizeT P e).map fun s => .sliceNone s x else none
  | _, _ => none

def compileAssert (P : Program) (x : Operand) (t : TypeId) (ok : Bool) : Option EOp :=
  if ok = true then match P.underlying t with
    | some (.interface _) | none => none
    | some _ => (zeroV P t).map fun z => .assertT t z x
  else none

def compileOp (P : Program) (o : Op) : Option EOp :=
  match o with
  | .move x | .assign x => some (.move x)
  | .pick c a b => some (.pick c a b)
  | .alloc e => (zeroT P e).map .push
  | .box _ x => some (.box x)
  | .build t parts => match zeroT P t, places P t parts.toList with
    | some z, some l => if fieldsOk P t then some (.build z l) else none
    | _, _ => none
  | .buildSlice t len parts => match sliceElem P t with
    | some e => match sizeT P e, zeroT P e with
      | some s, some z => if 0 < s ∧ len * s ≤ 2 ^ 24 then some (.buildSlice s len (zeros z len) (parts.toList.map fun (i, x) => (i * s, s, x))) else none
      | _, _ => none
    | none => none
  | .load t a => match isAggT P t, sizeT P t with
    | some g, some s => some (.load g s a)
    | _, _ => none
  | .store t a x => (sizeT P t).map fun s => .store s a x
  | .nilCheck x => some (.nilCheck x)
  | .binOp op t x y _ => compileBin P op t x y
  | .unOp op _ x => some (.un op x)
  | .convert src dst x => match P.underlying src, P.underlying dst with
    | some _, some (.int k) => some (.conv k x)
    | some (.slice e), some .string => match P.underlying e with
      | some (.int .u8) => some (.strOf x)
      | _ => none
    | some .string, some (.slice e) => match P.underlying e with
      | some (.int .u8) => some (.bytesOf x)
      | _ => none
    | some .string, some .string => some (.strMove x)
    | _, _ => none
  | .fieldAddr s x f => match P.underlying s with
    | some (.struct fields) => match fields[f]? with
      | some f => match sizeT P f.type with
        | some k => if 0 < k then some (.fieldAddr f.offset x) else none
        | none => none
      | none => none
    | _ => none
  | .field t x f => match P.underlying t with
    | some (.struct fields) => match fields[f]? with
      | some f => match isAggT P f.type, sizeT P f.type with
        | some g, some k => some (.field g f.offset k x)
        | _, _ => none
      | none => none
    | _ => none
  | .indexAddr t x i => match P.underlying t with
    | some (.array n e) => (sizeT P e).map fun s => .indexAddr (some n) s x i
    | some (.slice e) => (sizeT P e).map fun s => .indexAddr none s x i
    | _ => none
  | .index t x i => match P.underlying t with
    | some (.array n e) => match isAggT P e, sizeT P e with
      | some g, some s => some (.index n s g x i)
      | _, _ => none
    | some .string => some (.strIndex x i)
    | _ => none
  | .slice t x lo hi mx => compileSlice P t x lo hi mx
  | .extract x i => some (.extract x i)
  | .makeSlice t l c => match sliceElem P t with
    | some e => match P.info? e, zeroT P e with
      | some i, some z => if 0 < i.size then some (.makeSlice i.size i.bytes z l c) else none
      | _, _ => none
    | none => none
  | .makeFunc fn first captured => match fn with
    | .func f => if callable P f = true ∧ first.size = 0 then some (.makeFunc (.func f) captured.toList) else none
    | _ => none
  | .makeInterface t x => match P.underlying t with
    | some (.interface _) | none => none
    | some _ => some (.makeIface t x)
  | .typeAssert x _ t ok => compileAssert P x t ok
  | .call c => compileCall P c
  | .panic _ => some .trap
  | .makeMap _ none => some .makeMap
  | .lookup t m k ok => match P.underlying t with
    | some (.map kt e) => match zeroV P e, keyKind P kt with
      | some z, some b => some (.mapGet b z ok m k)
      | _, _ => none
    | _ => none
  | .mapUpdate t m k x | .insert t m k x => match P.underlying t with
    | some (.map kt _) => (keyKind P kt).map fun b => .mapSet b m k x
    | _ => none
  | _ => none

/-- An append that may find cells behind the slice. -/
def EOp.stale : EOp → EOp
  | .append es b s x => .appendT es b s x
  | e => e

inductive Cls where
  | P | A | R | W | M | F | C
  deriving DecidableEq

def EOp.cls : EOp → Cls
  | .push _ | .box _ | .buildSlice .. | .makeSlice .. | .bytesOf _ | .makeMap => .A
  | .load .. | .strOf _ | .arrSlice .. | .mapGet .. | .lenMap _ => .R
  | .store .. | .mapSet .. | .clear .. => .W
  | .append .. | .appendT .. => .M
  | .call .. | .callVal .. => .C
  | _ => .P

/-- Two unordered operations, the first one ahead in the text: none: never; some b: b: their blocks must be compared. -/
def Cls.pair : Cls → Cls → Option Bool
  | .P, _ | _, .P => some false
  | .C, _ | _, .C => none
  | .F, .R | .R, .F | .A, .F | .F, .A => some false
  | .F, _ | _, .F => none
  | .A, _ | _, .A => some false
  | .R, .R => some false
  | _, _ => some true

def compileGuard (ops : Array Oper) : Option (Nat × Bool) → Option (Option (Nat × Bool))
  | none => some none
  | some (j, b) => match ops[j]? with
    | some o => match o.dst with
      | some d => some (some (d, b))
      | none => none
    | none => none

/-- The operations one by one. -/
def compileOps (P : Program) (glob : List Nat) (ntmps : Nat) (t : Bool) (ops : Array Oper) : List Oper → Option (List EOper)
  | [] => some []
  | o :: r => match compileOp P o.op, compileGuard ops o.guard, compileOps P glob ntmps t ops r with
    | some e, some g, some es =>
      if o.op.operands.toList.all (opdOk glob) = true ∧ (match o.dst with | some d => d < ntmps | none => true) = true then
        some ({ dst := o.dst, op := if t then e.stale else e, guard := g, conf := [], log := false, frz := false } :: es) else none
    | _, _, _ => none
end Go.Abs
