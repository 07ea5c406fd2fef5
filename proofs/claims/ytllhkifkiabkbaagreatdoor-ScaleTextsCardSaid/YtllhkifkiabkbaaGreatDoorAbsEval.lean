/- The abstract evaluator: operations, regions, code, calls. -/
import Derived.Test.YtllhkifkiabkbaaGreatDoorAbsBase
set_option linter.unusedSimpArgs false
set_option linter.unusedVariables false
namespace Go.Abs

/-- The kind of a cell that may be compared. -/
inductive CK where
  | int (k : IntKind)
  | bool
  | str
  | agg (ks : List CK)
  deriving Inhabited

/-- Operations, their types resolved. -/
inductive EOp where
  | move (x : Operand)
  | pick (c a b : Operand)
  | push (zero : List Value)
  | box (x : Operand)
  | build (zero : List Value) (parts : List (Nat × Nat × Operand))
  | buildSlice (es len : Nat) (zero : List Value) (parts : List (Nat × Nat × Operand))
  | load (agg : Bool) (size : Nat) (a : Operand)
  | store (size : Nat) (a x : Operand)
  | nilCheck (x : Operand)
  | bin (op : BinOp) (x y : Operand)
  | eqBool (neg : Bool) (x y : Operand)
  | eqNil (neg : Bool) (x : Operand)
  | eqNilS (neg : Bool) (x : Operand)
  | eqAgg (neg : Bool) (ks : List CK) (x y : Operand)
  | un (op : UnOp) (x : Operand)
  | conv (k : IntKind) (x : Operand)
  | strMove (x : Operand)
  | strOf (x : Operand)
  | bytesOf (x : Operand)
  | fieldAddr (off : Nat) (x : Operand)
  | field (agg : Bool) (off size : Nat) (x : Operand)
  | indexAddr (arr : Option Nat) (es : Nat) (x i : Operand)
  | index (len es : Nat) (agg : Bool) (x i : Operand)
  | strIndex (x i : Operand)
  | slice (es : Nat) (x : Operand) (lo hi : Option Operand)
  | sliceNone (es : Nat) (x : Operand)
  | strSlice (x : Operand) (lo hi : Option Operand)
  | arrSlice (n es : Nat) (x : Operand) (lo hi : Option Operand)
  | extract (x : Operand) (i : Nat)
  | makeSlice (es bytes : Nat) (zero : List Value) (l c : Operand)
  | makeFunc (fn : Fn) (captured : List Operand)
  | makeIface (t : TypeId) (x : Operand)
  | assertT (t : TypeId) (z : Value) (x : Operand)
  | len (str : Bool) (x : Operand)
  | min (xs : List Operand)
  | max (xs : List Operand)
  | append (es bytes : Nat) (s x : Operand)
  | add64 (x y c : Operand)
  | makeMap
  | mapGet (ck : CK) (zero : Value) (commaOk : Bool) (m k : Operand)
  | mapSet (ck : CK) (m k x : Operand)
  | lenMap (x : Operand)
  | clear (es : Nat) (zero : List Value) (x : Operand)
  | appendT (es bytes : Nat) (s x : Operand)
  | trap
  | capZ (x : Operand)
  | call (f : FuncId) (args : List Operand)
  | callVal (f : Operand) (args : List Operand)
  deriving Inhabited

/-- What an operation does to the heap. -/
inductive Eff where
  | none
  | push (b : Blk)
  | write (i : Nat) (b : Blk)
  | move (i : Nat) (b : Blk)

def Eff.apply (h : Heap) : Eff → Heap
  | .none => h
  | .push b => h.push b
  | .write i b => h.put i (some b)
  | .move i b => (h.put i Option.none).push b

def Eff.writes : Eff → List Nat
  | .write i _ | .move i _ => [i]
  | _ => []

structure Out where
  val : Value
  reads : List Nat
  eff : Eff

def semPure : Sem Value → Option Value
  | .pure v => some v
  | _ => none

def E.bin (op : BinOp) (x y : Value) : Option Value :=
  match x, y with
  | .int k a, .int k' b => semPure (binOp op 0 (.int k a) (.int k' b))
  | .string a, .string b => semPure (binOp op 0 (.string a) (.string b))
  | _, _ => none

def E.un (op : UnOp) (x : Value) : Option Value :=
  match x with
  | .int k a => semPure (Op.unary op (.int k a))
  | .bool b => semPure (Op.unary op (.bool b))
  | _ => none

/-- The values of two lists of cells are equal (flat scalars alone, of these kinds). -/
def E.eqCells : List CK → List Value → List Value → Option Bool
  | [], [], [] => some true
  | .int k :: ks, .int k1 a :: xs, .int k2 b :: ys => if k1 = k ∧ k2 = k then (E.eqCells ks xs ys).map (fun r => (a == b) && r) else none
  | .bool :: ks, .bool a :: xs, .bool b :: ys => (E.eqCells ks xs ys).map (fun r => (a == b) && r)
  | .str :: ks, .string a :: xs, .string b :: ys => (E.eqCells ks xs ys).map (fun r => (a.toList == b.toList) && r)
  | _, _, _ => none

/-- One cell after the other is replaced, from o on. -/
def splice : List Value → Nat → List Value → List Value
  | cs, _, [] => cs
  | cs, o, v :: r => splice (cs.set o v) (o + 1) r

def fillL (ev : Operand → Option Value) : List Value → List (Nat × Nat × Operand) → Option (List Value)
  | cs, [] => some cs
  | cs, (off, size, x) :: r =>
    match ev x with
    | some v => if v.cells.size = size ∧ off + size ≤ cs.length then fillL ev (splice cs off v.cells.toList) r else none
    | none => none

def zeros (zero : List Value) (n : Nat) : List Value :=
  match zero with
  | [z] => List.replicate n z
  | _ => (List.replicate n zero).flatten

def E.bound (ev : Operand → Option Value) (dflt : Nat) : Option Operand → Option Nat
  | none => some dflt
  | some x => match ev x with
    | some (.int _ n) => if 0 ≤ n then some n.toNat else none
    | _ => none

def E.minmax (pick : Int → Int → Int) : IntKind → Int → List Value → Option Value
  | k, a, [] => some (.int k a)
  | k, a, .int _ b :: r => E.minmax pick k (pick a b) r
  | _, _, _ => none

/-- The numbers of cells that are bytes. -/
def E.bytes : List Value → Option (List UInt8)
  | [] => some []
  | .int .u8 n :: r => (E.bytes r).map (UInt8.ofNat n.toNat :: ·)
  | _ => none

def noAddr (v : Value) : Bool := plainV v

/-- The cells that an append adds, with the blocks that are read. -/
def E.added (h : Heap) (es : Nat) : Value → Option (Nat × List Value × List Nat)
  | .slice none 0 0 => some (0, [], [])
  | .slice (some ⟨b, o, none⟩) m s => if m = 0 then some (0, [], []) else if s = es then
      match h.get b with
      | some k => if o + m * es ≤ k.cells.length then some (m, (k.cells.drop o).take (m * es), [b]) else none
      | none => none
    else none
  | _ => none

def E.append (h : Heap) (es bytes : Nat) (s x : Value) : Option Out :=
  match E.added h es x with
  | none => none
  | some (m, xs, rd) =>
    if xs.all Value.oneCell' then
    match s with
    | .slice none 0 0 => if m = 0 then some ⟨.slice none 0 0, rd, .none⟩ else if m * bytes ≤ 140737488355328 ∧ m ≤ maxLen then some ⟨.slice (some ⟨h.length, 0, none⟩) m es, rd, .push ⟨xs, true⟩⟩ else none
    | .slice (some ⟨b, o, none⟩) n s =>
      if s = 0 then
        if n = 0 then
          if m = 0 then some ⟨.slice (some ⟨b, o, none⟩) 0 0, rd, .none⟩ else if m * bytes ≤ 140737488355328 ∧ m ≤ maxLen then some ⟨.slice (some ⟨h.length, 0, none⟩) m es, rd, .push ⟨xs, true⟩⟩ else none
        else none
      else if s = es then
        if m = 0 then some ⟨.slice (some ⟨b, o, none⟩) n s, rd, .none⟩ else
        match h.get b with
        | some k =>
          if k.rw = true ∧ o + n * es = k.cells.length ∧ (n + m) * bytes ≤ 140737488355328 ∧ n + m ≤ maxLen then
            some ⟨.slice (some ⟨h.length, 0, none⟩) (n + m) es, b :: rd, .move b ⟨k.cells.drop o ++ xs, true⟩⟩
          else none
        | none => none
      else none
    | _ => none
    else none

/-- Whether two lists of cells of the same kinds are the same. -/
def E.cellsSame : List Value → List Value → Option Bool
  | [], [] => some true
  | .int j a :: xs, .int k b :: ys => if j = k then (E.cellsSame xs ys).map (fun r => (a == b) && r) else none
  | .bool a :: xs, .bool b :: ys => (E.cellsSame xs ys).map (fun r => (a == b) && r)
  | .string a :: xs, .string b :: ys => (E.cellsSame xs ys).map (fun r => (a.toList == b.toList) && r)
  | _, _ => none

/-- Whether two keys are the same; none: keys that are not looked at. -/
def E.sameKey : Value → Value → Option Bool
  | .int j a, .int k b => if j = k then some (a == b) else none
  | .string a, .string b => some (a == b)
  | .agg xs, .agg ys => E.cellsSame xs.toList ys.toList
  | _, _ => none

/-- Where a key stands among a map's pairs, with its value. -/
def E.mapFind (k : Value) : List Value → Nat → Option (Option (Nat × Value))
  | [], _ => some none
  | .tuple cs :: r, i => match cs.toList with
    | [k', x] => match E.sameKey k k' with
      | some true => some (some (i, x))
      | some false => E.mapFind k r (i + 1)
      | none => none
    | _ => none
  | _ :: _, _ => none

/-- A key that may be looked at. -/
def E.isKey : CK → Value → Bool
  | .int k, .int k' _ => decide (k = k')
  | .str, .string _ => true
  | .agg ks, .agg xs => (E.eqCells ks xs.toList xs.toList).isSome
  | _, _ => false

/-- The pairs behind an assignment. -/
def E.mapPut (k x : Value) (cs : List Value) : Option (List Value) :=
  match E.mapFind k cs 0 with
  | some (some (i, _)) => some (cs.set i (.tuple #[k, x]))
  | some none => some (cs ++ [.tuple #[k, x]])
  | none => none

/-- The heap with a slice's block cut off behind the slice. -/
def Heap.trim (h : Heap) : Value → Heap
  | .slice (some ⟨b, o, none⟩) n s => match h.get b with
    | some k => h.put b (some ⟨k.cells.take (o + n * s), k.rw⟩)
    | none => h
  | _ => h

def EOp.run (lim : Nat) (h : Heap) (ev : Operand → Option Value) : EOp → Option Out
  | .move x => (ev x).map fun v => ⟨v, [], .none⟩
  | .pick c a b => match ev c with
    | some (.bool t) => (if t then ev a else ev b).map fun v => ⟨v, [], .none⟩
    | _ => none
  | .push zero => some ⟨.pointer (some ⟨h.length, 0, none⟩), [], .push ⟨zero, true⟩⟩
  | .box x => (ev x).map fun v => ⟨.pointer (some ⟨h.length, 0, none⟩), [], .push ⟨v.cells.toList, true⟩⟩
  | .build zero parts => (fillL ev zero parts).map fun cs => ⟨.agg cs.toArray, [], .none⟩
  | .buildSlice es ln zero parts => (fillL ev zero parts).map fun cs => ⟨.slice (some ⟨h.length, 0, none⟩) ln es, [], .push ⟨cs, true⟩⟩
  | .load agg size a => match ev a with
    | some (.pointer (some ⟨b, o, none⟩)) => match h.get b with
      | some k => if agg then (if o + size ≤ k.cells.length then some ⟨.agg ((k.cells.drop o).take size).toArray, [b], .none⟩ else none)
        else (k.cells[o]?).map fun v => ⟨v, [b], .none⟩
      | none => none
    | _ => none
  | .store size a x => match ev a, ev x with
    | some (.pointer (some ⟨b, o, none⟩)), some v => match h.get b with
      | some k =>
        if k.rw = true ∧ v.cells.size = size ∧ o + size ≤ k.cells.length ∧ v.cells.toList.all Value.oneCell' = true ∧ (lim ≤ b ∨ v.cells.toList.all noAddr = true) then
          some ⟨undef, [], .write b ⟨splice k.cells o v.cells.toList, true⟩⟩
        else none
      | none => none
    | _, _ => none
  | .nilCheck x => match ev x with
    | some (.pointer (some ⟨b, o, none⟩)) => some ⟨.pointer (some ⟨b, o, none⟩), [], .none⟩
    | some (.func (.func f) x c) => some ⟨.func (.func f) x c, [], .none⟩
    | _ => none
  | .bin op x y => match ev x, ev y with
    | some a, some b => (E.bin op a b).map fun v => ⟨v, [], .none⟩
    | _, _ => none
  | .eqBool neg x y => match ev x, ev y with
    | some (.bool a), some (.bool b) => some ⟨.bool (if neg then !(a == b) else a == b), [], .none⟩
    | _, _ => none
  | .eqNil neg x => match ev x with
    | some .nilIface => some ⟨.bool (!neg), [], .none⟩
    | some (.iface _ _) => some ⟨.bool neg, [], .none⟩
    | _ => none
  | .eqNilS neg x => match ev x with
    | some (.slice none 0 0) => some ⟨.bool (!neg), [], .none⟩
    | some (.slice (some ⟨_, _, none⟩) _ _) => some ⟨.bool neg, [], .none⟩
    | _ => none
  | .eqAgg neg ks x y => match ev x, ev y with
    | some (.agg xs), some (.agg ys) => (E.eqCells ks xs.toList ys.toList).map fun r => ⟨.bool (if neg then !r else r), [], .none⟩
    | _, _ => none
  | .un op x => match ev x with
    | some a => (E.un op a).map fun v => ⟨v, [], .none⟩
    | none => none
  | .conv k x => match ev x with
    | some (.int _ n) => some ⟨.int k (k.wrap n), [], .none⟩
    | _ => none
  | .strMove x => match ev x with
    | some (.string s) => some ⟨.string s, [], .none⟩
    | _ => none
  | .strOf x => match ev x with
    | some (.slice none 0 0) => some ⟨.string .empty, [], .none⟩
    | some (.slice (some ⟨b, o, none⟩) n s) => if s = 1 then match h.get b with
      | some k => if o + n ≤ k.cells.length then (E.bytes ((k.cells.drop o).take n)).map fun l => ⟨.string ⟨l.toArray⟩, [b], .none⟩ else none
      | none => none else none
    | _ => none
  | .bytesOf x => match ev x with
    | some (.string s) => if s.size ≤ maxLen then some ⟨.slice (some ⟨h.length, 0, none⟩) s.size 1, [], .push ⟨s.toList.map fun c => .int .u8 c.toNat, false⟩⟩ else none
    | _ => none
  | .fieldAddr off x => match ev x with
    | some (.pointer (some ⟨b, o, none⟩)) => some ⟨.pointer (some ⟨b, o + off, none⟩), [], .none⟩
    | _ => none
  | .field agg off size x => match ev x with
    | some (.agg cs) => if agg then some ⟨.agg (cs.extract off (off + size)), [], .none⟩ else (cs[off]?).map fun v => ⟨v, [], .none⟩
    | _ => none
  | .indexAddr arr es x i => match ev x, ev i with
    | some (.pointer (some ⟨b, o, none⟩)), some (.int _ n) => match arr with
      | some ln => if 0 ≤ n ∧ n < ln then some ⟨.pointer (some ⟨b, o + n.toNat * es, none⟩), [], .none⟩ else none
      | none => none
    | some (.slice (some ⟨b, o, none⟩) ln s), some (.int _ n) => match arr with
      | none => if 0 ≤ n ∧ n < ln ∧ s = es then some ⟨.pointer (some ⟨b, o + n.toNat * es, none⟩), [], .none⟩ else none
      | some _ => none
    | _, _ => none
  | .index ln es agg x i => match ev x, ev i with
    | some (.agg cs), some (.int _ n) => if 0 ≤ n ∧ n < ln then
        (if agg then some ⟨.agg (cs.extract (n.toNat * es) (n.toNat * es + es)), [], .none⟩ else (cs[n.toNat * es]?).map fun v => ⟨v, [], .none⟩) else none
    | _, _ => none
  | .strIndex x i => match ev x, ev i with
    | some (.string s), some (.int _ n) => if 0 ≤ n then (s.toList[n.toNat]?).map fun c => ⟨.int .u8 c.toNat, [], .none⟩ else none
    | _, _ => none
  | .slice es x lo hi => match ev x with
    | some (.slice none 0 0) => match E.bound ev 0 lo, E.bound ev 0 hi with
      | some 0, some 0 => some ⟨.slice none 0 0, [], .none⟩
      | _, _ => none
    | some (.slice (some ⟨b, o, none⟩) n s) => match E.bound ev 0 lo, E.bound ev n hi with
      | some l, some u => if l ≤ u ∧ u ≤ n ∧ s = es then some ⟨.slice (some ⟨b, o + l * es, none⟩) (u - l) s, [], .none⟩ else none
      | _, _ => none
    | _ => none
  | .sliceNone _ x => match ev x with
    | some (.slice none 0 0) => some ⟨.slice none 0 0, [], .none⟩
    | some (.slice (some ⟨b, o, none⟩) _ _) => some ⟨.slice (some ⟨b, o, none⟩) 0 0, [], .none⟩
    | _ => none
  | .strSlice x lo hi => match ev x with
    | some (.string s) => match E.bound ev 0 lo, E.bound ev s.size hi with
      | some l, some u => if l ≤ u ∧ u ≤ s.size then some ⟨.string (s.extract l u), [], .none⟩ else none
      | _, _ => none
    | _ => none
  | .arrSlice n es x lo hi => match ev x with
    | some (.pointer (some ⟨b, o, none⟩)) => match E.bound ev 0 lo, E.bound ev n hi, h.get b with
      | some l, some u, some k => if l ≤ u ∧ u ≤ n ∧ o + n * es ≤ k.cells.length ∧ 0 < es ∧ n ≤ maxLen then some ⟨.slice (some ⟨b, o + l * es, none⟩) (u - l) es, [b], .none⟩ else none
      | _, _, _ => none
    | _ => none
  | .extract x i => match ev x with
    | some (.tuple vs) => (vs[i]?).map fun v => ⟨v, [], .none⟩
    | _ => none
  | .makeSlice es bytes zero l c => match ev l, ev c with
    | some (.int _ l), some (.int _ c) => if 0 ≤ l ∧ l ≤ c ∧ bytes * c ≤ 140737488355328 ∧ c ≤ maxLen then
        some ⟨.slice (some ⟨h.length, 0, none⟩) l.toNat es, [], .push ⟨zeros zero l.toNat, true⟩⟩ else none
    | _, _ => none
  | .makeFunc fn captured => (captured.mapM ev).map fun c => ⟨.func fn #[] c.toArray, [], .none⟩
  | .makeIface t x => (ev x).map fun v => ⟨.iface t v, [], .none⟩
  | .assertT t z x => match ev x with
    | some (.iface u v) => some ⟨if u = t then .tuple #[v, .bool true] else .tuple #[z, .bool false], [], .none⟩
    | some .nilIface => some ⟨.tuple #[z, .bool false], [], .none⟩
    | _ => none
  | .len str x => match str, ev x with
    | true, some (.string s) => some ⟨.int .i64 s.size, [], .none⟩
    | false, some (.slice none 0 0) => some ⟨.int .i64 0, [], .none⟩
    | false, some (.slice (some ⟨_, _, none⟩) n _) => some ⟨.int .i64 n, [], .none⟩
    | _, _ => none
  | .min xs => match xs.mapM ev with
    | some (.int k a :: r) => (E.minmax (fun x y => if y < x then y else x) k a r).map fun v => ⟨v, [], .none⟩
    | _ => none
  | .max xs => match xs.mapM ev with
    | some (.int k a :: r) => (E.minmax (fun x y => if y > x then y else x) k a r).map fun v => ⟨v, [], .none⟩
    | _ => none
  | .append es bytes s x => match ev s, ev x with
    | some s, some x => E.append h es bytes s x
    | _, _ => none
  | .add64 x y c => match ev x, ev y, ev c with
    | some (.int .u64 x), some (.int .u64 y), some (.int .u64 c) => if c = 0 ∨ c = 1 then
        some ⟨.tuple #[.int .u64 (Int.ofNat ((x.toNat + y.toNat + c.toNat) % 2 ^ 64)), .int .u64 (Int.ofNat ((x.toNat + y.toNat + c.toNat) / 2 ^ 64))], [], .none⟩ else none
    | _, _, _ => none
  | .makeMap => some ⟨.map (some h.length), [], .push ⟨[], true⟩⟩
  | .mapGet ck zero ok m k => match ev m, ev k with
    | some (.map (some r)), some key => match h.get r with
      | some b => if E.isKey ck key = true then match E.mapFind key b.cells 0 with
        | some (some (_, x)) => some ⟨if ok then .tuple #[x, .bool true] else x, [r], .none⟩
        | some none => some ⟨if ok then .tuple #[zero, .bool false] else zero, [r], .none⟩
        | none => none else none
      | none => none
    | _, _ => none
  | .mapSet ck m k x => match ev m, ev k, ev x with
    | some (.map (some r)), some key, some x => match h.get r with
      | some b => if b.rw = true ∧ E.isKey ck key = true ∧ lim ≤ r then (E.mapPut key x b.cells).map fun cs => ⟨undef, [], .write r ⟨cs, true⟩⟩ else none
      | none => none
    | _, _, _ => none
  | .lenMap x => match ev x with
    | some (.map (some r)) => (h.get r).map fun b => ⟨.int .i64 b.cells.length, [r], .none⟩
    | _ => none
  | .clear es z x => match ev x with
    | some (.slice none 0 0) => some ⟨.tuple #[], [], .none⟩
    | some (.slice (some ⟨b, o, none⟩) n s) => if n = 0 then some ⟨.tuple #[], [], .none⟩ else match h.get b with
      | some k => if k.rw = true ∧ s = es ∧ z.length = es ∧ o + n * es ≤ k.cells.length ∧ z.all plainV = true then some ⟨.tuple #[], [], .write b ⟨splice k.cells o (zeros z n), true⟩⟩ else none
      | none => none
    | _ => none
  | .appendT es bytes s x => match ev s, ev x with
    | some s, some x => E.append (h.trim s) es bytes s x
    | _, _ => none
  | .trap => none
  | .capZ x => match ev x with
    | some (.slice none 0 0) => some ⟨.int .i64 0, [], .none⟩
    | some (.slice (some ⟨_, _, none⟩) 0 0) => some ⟨.int .i64 0, [], .none⟩
    | _ => none
  | .call _ _ | .callVal _ _ => none

/-- An operation of a region: where it writes, its guard (a slot), which earlier operations' blocks must be others than its own, whether its own are noted, whether it may write nothing that was there (a call). -/
structure EOper where
  dst : Option Nat
  op : EOp
  guard : Option (Nat × Bool)
  conf : List Nat
  log : Bool
  frz : Bool
  deriving Inhabited

inductive ECode where
  | skip
  | region (draw : Bool) (ops : List EOper)
  | seq (a b : ECode)
  | cond (c : Operand) (a b : ECode)
  | block (id : Nat) (b : ECode)
  | loop (live : Option (List Nat)) (b : ECode)
  | exit (id : Nat)
  | ret
  | rangeF (g : Operand) (f idx : Nat) (full : Bool) (slots ps : List Nat) (a b : ECode)
  deriving Inhabited

/-- A loop over a function: its rounds keep all new blocks (full) or none, the slots that they read, the slots of what is yielded, both codes. -/
structure ERound where
  full : Bool
  slots : List Nat
  ps : List Nat
  assign : ECode
  body : ECode

/-- The loops over functions of a code, by number. -/
def ECode.nodes : ECode → List (Nat × ERound)
  | .seq a b => a.nodes ++ b.nodes
  | .cond _ a b => a.nodes ++ b.nodes
  | .block _ b => b.nodes
  | .loop _ b => b.nodes
  | .rangeF _ _ i full sl ps a b => [(i, ⟨full, sl, ps, a, b⟩)]
  | _ => []

def lookupN : List (Nat × ERound) → Nat → Option ERound
  | [], _ => none
  | (j, r) :: l, i => if j = i then some r else lookupN l i

inductive Ex where
  | normal
  | exit (id : Nat)
  | ret
  deriving DecidableEq

structure St where
  f : AFrame
  h : Heap

/-- What code runs in: what calls give, the heap's size when the function was entered, from which block on addresses may be stored, which block a package variable is. -/
structure Ctx where
  call : Nat → FuncId → List Value → Heap → Option (Value × Heap)
  base : Nat
  lim : Nat
  gc : Bool
  glob : List Nat
  fuel : Nat
  round : Nat → Nat → List Value → Heap → Option (Value × Heap)

def noRound : Nat → Nat → List Value → Heap → Option (Value × Heap) := fun _ _ _ _ => none

def globPos : List Nat → Nat → Option Nat
  | [], _ => none
  | g :: r, x => if g = x then some 0 else (globPos r x).map (· + 1)

def Ctx.eval (C : Ctx) (f : AFrame) : Operand → Option Value
  | .tmp t => f.get t
  | .const v => some v
  | .global g => (globPos C.glob g).map fun i => .pointer (some ⟨i, 0, none⟩)
  | .func f => some (.func (.func f) #[] #[])

def Heap.freeze (h : Heap) : Heap := h.map fun b => b.map fun b => ⟨b.cells, false⟩

/-- A call; frz: it finds nothing that it may write. -/
def Ctx.callAt (C : Ctx) (frz : Bool) (g : FuncId) (vs : List Value) (h : Heap) : Option (Value × Heap) :=
  if frz then (C.call C.lim g vs h.freeze).map fun (v, h') => (v, h ++ h'.drop h.length)
  else C.call C.lim g vs h

/-- A round of a loop over a function (frz: none may run). -/
def Ctx.roundAt (C : Ctx) (frz : Bool) (b : Nat) (vs : List Value) (h : Heap) : Option (Value × Heap) :=
  if frz then none else C.round C.lim b vs h

/-- The value that a loop over a function hands to it: block r is the loop's record. -/
def yieldVal (r : Nat) : Value := .func (.yield 0) #[.pointer (some ⟨r, 0, none⟩)] #[]

/-- One operation: its value, the heap behind it, and which blocks it read or wrote. -/
def EOp.exec (C : Ctx) (frz : Bool) (f : AFrame) (h : Heap) : EOp → Option (Value × Heap × List Nat × List Nat)
  | .call g args => match args.mapM (C.eval f) with
    | some vs => (C.callAt frz g vs h).map fun (v, h') => (v, h', [], [])
    | none => none
  | .callVal g args => match C.eval f g, args.mapM (C.eval f) with
    | some (.func (.func g) first captured), some vs => (C.callAt frz g (first.toList ++ vs ++ captured.toList) h).map fun (v, h') => (v, h', [], [])
    | some (.func (.yield _) first _), some vs => match first.toList with
      | .pointer (some ⟨b, _, _⟩) :: _ => (C.roundAt frz b vs h).map fun (v, h') => (v, h', [], [])
      | _ => none
    | _, _ => none
  | op => (op.run C.lim h (C.eval f)).map fun o => (o.val, o.eff.apply h, o.reads, o.eff.writes)

def EOper.wanted (f : AFrame) : Option (Nat × Bool) → Option Bool
  | none => some true
  | some (s, want) => match f.get s with
    | some (.bool b) => some (b == want)
    | some (.tuple cs) => if cs.size = 0 then some false else none
    | _ => none

abbrev Log := List (Nat × List Nat × List Nat)

def Log.clash (l : Log) (conf : List Nat) (rd wr : List Nat) : Bool :=
  conf.any fun i => l.any fun (j, rd', wr') => i == j && (wr.any (fun x => rd'.contains x || wr'.contains x) || wr'.any fun x => rd.contains x)

def runOps (C : Ctx) : List EOper → Nat → Log → St → Option St
  | [], _, _, st => some st
  | o :: r, i, l, st =>
    match EOper.wanted st.f o.guard with
    | some true => match o.op.exec C o.frz st.f st.h with
      | some (v, h, rd, wr) => if l.clash o.conf rd wr then none else runOps C r (i + 1) (if o.log then (i, rd, wr) :: l else l) ⟨st.f.put o.dst v, h⟩
      | none => none
    | some false => runOps C r (i + 1) l ⟨st.f.put o.dst undef, st.h⟩
    | none => none

/-- The blocks that a value names (values nested no deeper than n). -/
def addrs : Nat → Value → Option (List Nat)
  | n, v => if plainV v then some [] else match n, v with
    | _, .pointer (some ⟨b, _, none⟩) | _, .slice (some ⟨b, _, none⟩) _ _ | _, .map (some b) => some [b]
    | n + 1, .agg cs | n + 1, .tuple cs => (cs.toList.mapM (addrs n)).map List.flatten
    | n + 1, .func _ a b => (((a ++ b).toList).mapM (addrs n)).map List.flatten
    | n + 1, .iface _ v => addrs n v
    | _, _ => none

/-- A value with its blocks renamed. -/
def renV (r : Nat → Nat) : Nat → Value → Value
  | n, v => if plainV v then v else match n, v with
    | _, .pointer (some ⟨b, o, none⟩) => .pointer (some ⟨r b, o, none⟩)
    | _, .slice (some ⟨b, o, none⟩) k s => .slice (some ⟨r b, o, none⟩) k s
    | _, .map (some b) => .map (some (r b))
    | n + 1, .agg cs => .agg (cs.map (renV r n))
    | n + 1, .tuple cs => .tuple (cs.map (renV r n))
    | n + 1, .func fn a b => .func fn (a.map (renV r n)) (b.map (renV r n))
    | n + 1, .iface t v => .iface t (renV r n v)
    | _, v => v

def valDepth : Nat := 4

def Blk.addrs (b : Blk) : Option (List Nat) :=
  if b.cells.all plainV then some [] else (b.cells.mapM (Abs.addrs valDepth)).map List.flatten

def Blk.ren (r : Nat → Nat) (b : Blk) : Blk :=
  if b.cells.all plainV then b else ⟨b.cells.map (renV r valDepth), b.rw⟩

/-- The blocks from n on that are reached. -/
def reach (n : Nat) (h : Heap) : Nat → List Nat → List Nat → Option (List Nat)
  | _, [], acc => some acc
  | 0, _ :: _, _ => none
  | k + 1, i :: todo, acc =>
    if i < n ∨ i ∈ acc then reach n h k todo acc
    else match h.get i with
      | some b => match b.addrs with
        | some l => reach n h k (todo ++ l) (acc ++ [i])
        | none => none
      | none => reach n h k todo (acc ++ [i])

def pos : List Nat → Nat → Nat
  | [], _ => 0
  | j :: r, i => if i = j then 0 else pos r i + 1

def renOf (n : Nat) (acc : List Nat) (i : Nat) : Nat := if i < n then i else n + pos acc i

def reachFuel : Nat := 1000

/-- The blocks below n are kept, of the others those that the values reach, in their order. -/
def collect (n : Nat) (vs : List Value) (h : Heap) : Option (List Value × List (Option Blk)) :=
  match vs.mapM (addrs valDepth) with
  | some ls => match reach n h reachFuel ls.flatten [] with
    | some acc => some (vs.map (renV (renOf n acc) valDepth), acc.map fun i => (h.get i).map (Blk.ren (renOf n acc)))
    | none => none
  | none => none

def AFrame.only (f : AFrame) : List Nat → Option (List Value)
  | [] => some []
  | t :: r => match f.get t, AFrame.only f r with
    | some v, some vs => some (v :: vs)
    | _, _ => none

/-- At a loop's head: the slots that are read behind it, the blocks that they reach. -/
def St.tidy (C : Ctx) (live : Option (List Nat)) (st : St) : Option St :=
  match live with
  | none => some st
  | some l => match st.f.only l with
    | some vs =>
      if C.gc then match collect C.base vs st.h with
        | some (vs', bs) => some ⟨l.zip vs', st.h.take C.base ++ bs⟩
        | none => none
      else some ⟨l.zip vs, st.h⟩
    | none => none

def iter (step : St → Option (Ex × St)) (tidy : St → Option St) : Nat → St → Option (Ex × St)
  | 0, _ => none
  | k + 1, st => match tidy st with
    | none => none
    | some st => match step st with
      | some (.normal, st') => iter step tidy k st'
      | r => r

/-- The state of a loop's record. -/
def Heap.loopSt (h : Heap) (r : Nat) : Option Int :=
  match h.get r with
  | some ⟨_ :: _ :: .int _ s :: _, true⟩ => some s
  | _ => none

def Heap.setLoop (h : Heap) (r : Nat) (s : Int) : Option Heap :=
  match h.get r with
  | some ⟨a :: b :: _ :: us, true⟩ => some (h.put r (some ⟨a :: b :: .int .i64 s :: us, true⟩))
  | _ => none

def exNum : Ex → Int
  | .normal => 0
  | .ret => 1
  | .exit id => 2 + (id : Int)

def jumpEx (s : Int) : Option Ex := if s = 0 then some .normal else if s = 1 then some .ret else if 2 ≤ s then some (.exit (s - 2).toNat) else none

/-- Behind a loop over a function. -/
def rangeEnd (r : Nat) (f : AFrame) (h : Heap) : Option (Ex × St) :=
  match h.loopSt r with
  | some s => (jumpEx s).map fun ex => (ex, ⟨f, h.put r none⟩)
  | none => none

def loopBlk (f i : Nat) (us : List Value) : Blk := ⟨.int .i64 f :: .int .i64 i :: .int .i64 0 :: us, true⟩

def ECode.run (C : Ctx) : ECode → St → Option (Ex × St)
  | .skip, st => some (.normal, st)
  | .region _ ops, st => (runOps C ops 0 [] st).map fun st => (.normal, st)
  | .seq a b, st => match ECode.run C a st with
    | some (.normal, st') => ECode.run C b st'
    | r => r
  | .cond c a b, st => match C.eval st.f c with
    | some (.bool t) => if t then ECode.run C a st else ECode.run C b st
    | _ => none
  | .block id b, st => match ECode.run C b st with
    | some (.exit j, st') => if j = id then some (.normal, st') else some (.exit j, st')
    | r => r
  | .loop live b, st => iter (ECode.run C b) (St.tidy C live) C.fuel st
  | .exit id, st => some (.exit id, st)
  | .ret, st => some (.ret, st)
  | .rangeF g f i _ sl _ _ _, st => match C.eval st.f g, st.f.only sl with
    | some (.func (.func gf) first captured), some us =>
      match C.call C.lim gf (first.toList ++ [yieldVal st.h.length] ++ captured.toList) (st.h.push (loopBlk f i us)) with
      | some (_, h') => rangeEnd st.h.length st.f h'
      | none => none
    | _, _ => none

inductive ERes where
  | tmp (t : Nat)
  | cell (t : Nat) (agg : Bool) (size : Nat)

inductive FMode where
  | pure | trunc | full
  /-- Not compiled: its values by a plain function (what stands for it is proved apart). -/
  | nat (N : List Value → Heap → Option (Value × Heap))

structure EFun where
  code : ECode
  results : List ERes
  mode : FMode
  n : Nat

def ERes.get (st : St) : ERes → Option Value
  | .tmp t => st.f.get t
  | .cell t agg size => match st.f.get t with
    | some (.pointer (some ⟨b, o, none⟩)) => match st.h.get b with
      | some k => if agg then (if o + size ≤ k.cells.length then some (.agg ((k.cells.drop o).take size).toArray) else none) else k.cells[o]?
      | none => none
    | _ => none

def retVal : List Value → Value
  | [v] => v
  | vs => .tuple vs.toArray

def argFrame : Nat → List Value → AFrame
  | _, [] => []
  | i, v :: r => (i, v) :: argFrame (i + 1) r

def EFun.run (C : Ctx) (F : EFun) (args : List Value) (h : Heap) : Option (Value × Heap) :=
  if args.length ≤ F.n then
    match F.code.run C ⟨argFrame 0 args, h⟩ with
    | some (.normal, st) | some (.ret, st) => (F.results.mapM (ERes.get st)).map fun vs => (retVal vs, st.h)
    | _ => none
  else none

/-- What a compiled program is: its functions, the package variables that have blocks. -/
structure EProg where
  fn : FuncId → Option EFun
  glob : List Nat
  fuel : Nat

def roundFrame (ps : List Nat) (vs : List Value) (f : AFrame) : AFrame := ((ps.zip vs).reverse) ++ f

/-- One round of a loop over a function. -/
def ERound.run (C : Ctx) (b : Nat) (r : ERound) (us vs : List Value) (h : Heap) : Option (Value × Heap) :=
  match r.assign.run C ⟨roundFrame r.ps vs (r.slots.zip us), h⟩ with
  | some (.normal, st1) => match st1.h.loopSt b, st1.h.setLoop b (-1) with
    | some s, some h1 => if s = 0 then match r.body.run C ⟨st1.f, h1⟩ with
      | some (ex, st2) => match st2.h.setLoop b (exNum ex) with
        | some h2 => some (.bool (decide (ex = .normal)), if r.full then h2 else h2.take h.length)
        | none => none
      | none => none else none
    | _, _ => none
  | _ => none

def EProg.roundOf (E : EProg) (call : Nat → FuncId → List Value → Heap → Option (Value × Heap)) (lim b : Nat) (vs : List Value) (h : Heap) : Option (Value × Heap) :=
  match h.get b with
  | some ⟨.int _ f :: .int _ i :: .int _ _ :: us, true⟩ => match E.fn f.toNat with
    | some F => match lookupN F.code.nodes i.toNat with
      | some r => if vs.length = r.ps.length then ERound.run ⟨call, h.length, if r.full then lim else h.length, !r.full, E.glob, E.fuel, noRound⟩ b r us vs h else none
      | none => none
    | none => none
  | _ => none

def EProg.call (E : EProg) : Nat → Nat → FuncId → List Value → Heap → Option (Value × Heap)
  | 0, _, _, _, _ => none
  | d + 1, lim, f, args, h => match E.fn f with
    | none => none
    | some F => match F.mode with
      | .pure => match F.run ⟨EProg.call E d, h.length, h.length, true, E.glob, E.fuel, EProg.roundOf E (EProg.call E d)⟩ args h.freeze with
        | some (v, h') => match collect h.length [v] h' with
          | some ([v'], bs) => some (v', h ++ bs)
          | _ => none
        | none => none
      | .trunc => match F.run ⟨EProg.call E d, h.length, h.length, true, E.glob, E.fuel, EProg.roundOf E (EProg.call E d)⟩ args h with
        | some (v, h') => match collect h.length [v] h' with
          | some ([v'], bs) => some (v', h'.take h.length ++ bs)
          | _ => none
        | none => none
      | .full => F.run ⟨EProg.call E d, h.length, lim, false, E.glob, E.fuel, EProg.roundOf E (EProg.call E d)⟩ args h
      | .nat N => N args h
end Go.Abs
