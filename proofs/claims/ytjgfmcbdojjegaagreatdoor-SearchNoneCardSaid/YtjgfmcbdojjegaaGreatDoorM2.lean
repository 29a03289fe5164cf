/-
  The abstract machine: what operations do to abstract values and to the heap, and what code does ('W').
-/
import Derived.Test.YtjgfmcbdojjegaaGreatDoorM1
namespace Go.A3

/-- What the machine needs of a type. -/
inductive Ki where
  | bool | int (k : IntKind) | str | ptr (e : Nat) | slice (e : Nat) | arr (n e : Nat) | map (k e : Nat) | struct (fs : List (Nat × Nat)) | func | other
  deriving Inhabited, DecidableEq

structure TyI where
  ki : Ki
  size : Nat
  bytes : Nat
  agg : Bool
  zero : PV
  deriving Inhabited

/-- A constant. -/
def ofC : Value → PV
  | .bool b => .bool b
  | .int k n => .int k n
  | .string s => .str s
  | .pointer none => .nilp
  | .slice none 0 0 => .nils
  | .nilFunc => .nilf
  | .map none => .nilm
  | .nilIface => .nili
  | _ => .und

/-- Can it be told as a constant? -/
def okC : Value → Bool
  | .bool _ | .int _ _ | .string _ | .pointer none | .slice none 0 0 | .nilFunc | .map none | .nilIface => true
  | _ => false

def ofZ : Value → PV
  | .agg cs => .agg (cs.toList.map ofC)
  | v => ofC v

def okZ : Value → Bool
  | .agg cs => cs.toList.all okC
  | v => okC v

def kiOf : TypeDesc → Ki
  | .bool => .bool
  | .int k => .int k
  | .string => .str
  | .pointer e => .ptr e
  | .slice e => .slice e
  | .array n e => .arr n e
  | .map k e => .map k e
  | .struct fs => .struct (fs.toList.map fun f => (f.offset, f.type))
  | .func .. => .func
  | _ => .other

def aggOf : TypeDesc → Bool
  | .struct _ | .array .. => true
  | _ => false

def tyOf (P : Program) (t : TypeId) : TyI :=
  match P.info? t, P.underlying t with
  | some i, some d =>
    match i.zero with
    | some z => if okZ z then ⟨kiOf d, i.size, i.bytes, aggOf d, ofZ z⟩ else ⟨.other, 0, 0, false, .und⟩
    | none => ⟨.other, 0, 0, false, .und⟩
  | _, _ => ⟨.other, 0, 0, false, .und⟩

/-- A program, and what is known of its package-level variables. -/
structure Cx where
  P : Program
  gl : Nat → Option PV

def Cx.ty (X : Cx) (t : TypeId) : TyI := tyOf X.P t

abbrev Env := Nat → PV
def put (e : Env) (d : Option Tmp) (v : PV) : Env :=
  match d with
  | some d => fun t => if t = d then v else e t
  | none => e

@[simp] theorem put_some (e : Env) (d t : Nat) (v : PV) : put e (some d) v t = if t = d then v else e t := rfl
@[simp] theorem put_none (e : Env) (v : PV) : put e none v = e := rfl

def Cx.ev (X : Cx) (e : Env) : Operand → PV
  | .tmp t => e t
  | .const v => ofZ v
  | .global g => match X.gl g with | some x => .ip x 0 | none => .und
  | .func f => .fn (.func f) [] []

/-- Can the operand be told? -/
def Cx.okO (X : Cx) : Operand → Bool
  | .tmp _ | .func _ => true
  | .const v => okZ v
  | .global g => (X.gl g).isSome

def isAg : PV → Bool
  | .agg _ => true
  | _ => false

/-- Cells o .. of an element, as a value of n cells (agg: a struct or an array). -/
def loadE (agg : Bool) (n : Nat) (e : PV) (o : Nat) : Option PV :=
  if agg then
    if isAg e ∧ o = 0 ∧ e.cells.length = n then some e
    else if o + n ≤ e.cells.length then some (.agg ((e.cells.drop o).take n)) else none
  else e.cells[o]?

def setR : List PV → Nat → List PV → List PV
  | cs, _, [] => cs
  | cs, o, v :: vs => setR (cs.set o v) (o + 1) vs

/-- An element with the cells o .. stored anew. -/
def storeE (e : PV) (o : Nat) (v : PV) : Option PV :=
  if o + v.cells.length ≤ e.cells.length ∧ v.cells.all PV.one then
    if o = 0 ∧ isAg e = isAg v ∧ e.cells.length = v.cells.length then some v else some (.agg (setR e.cells o v.cells))
  else none

def Cx.load (X : Cx) (t : TypeId) (H : Heap) (a : PV) : Option PV :=
  if (X.ty t).size = 0 then none else
  match a with
  | .ip e o => loadE (X.ty t).agg (X.ty t).size e o
  | .ptr id i o => match H.bl id with
    | some (.row es _) => match es[i]? with
      | some e => loadE (X.ty t).agg (X.ty t).size e o
      | none => none
    | _ => none
  | _ => none

def Cx.store (X : Cx) (t : TypeId) (H : Heap) (v : PV) : PV → Option Heap
  | .ptr id i o => match H.bl id with
    | some (.row es sz) => match es[i]? with
      | some e => if v.cells.length = (X.ty t).size ∧ 0 < (X.ty t).size then match storeE e o v with
          | some e' => some (H.set id (some (.row (es.set i e') sz)))
          | none => none
        else none
      | none => none
    | _ => none
  | _ => none

def cmpI (op : BinOp) (a b : Int) : Option Bool :=
  match op with
  | .eql => some (a == b) | .neq => some (a != b)
  | .lss => some (decide (a < b)) | .leq => some (decide (a ≤ b)) | .gtr => some (decide (a > b)) | .geq => some (decide (a ≥ b))
  | _ => none

def bitsI (op : BinOp) (k : IntKind) (x y : Int) : Option Int :=
  let a := BitVec.ofInt k.bits x
  let b := BitVec.ofInt k.bits y
  match op with
  | .and => some (k.wrap (a &&& b).toNat)
  | .or => some (k.wrap (a ||| b).toNat)
  | .xor => some (k.wrap (a ^^^ b).toNat)
  | .andNot => some (k.wrap (a &&& ~~~b).toNat)
  | _ => none

def arithI (op : BinOp) (k : IntKind) (a b : Int) : Option PV :=
  match op with
  | .add => some (.int k (k.wrap (a + b)))
  | .sub => some (.int k (k.wrap (a - b)))
  | .mul => some (.int k (k.wrap (a * b)))
  | .quo => if b = 0 then none else some (.int k (k.wrap (a.tdiv b)))
  | .rem => if b = 0 then none else some (.int k (a.tmod b))
  | .and | .or | .xor | .andNot => (bitsI op k a b).map (.int k)
  | _ => (cmpI op a b).map .bool

def shiftI (op : BinOp) (k : IntKind) (a b : Int) : Option PV :=
  if b < 0 then none
  else match op with
    | .shl => some (.int k (k.wrap (a * 2 ^ (min b.toNat k.bits))))
    | .shr => some (.int k (a.fdiv (2 ^ (min b.toNat k.bits))))
    | _ => none

def strO (op : BinOp) (x y : ByteArray) : Option PV :=
  match op with
  | .add => if ((x.size + y.size : Nat) : Int) > IntKind.i64.max then none else some (.str (x ++ y))
  | .eql => some (.bool (x.data.toList == y.data.toList))
  | .neq => some (.bool !(x.data.toList == y.data.toList))
  | .lss => some (.bool (Op.bytesLess x.data.toList y.data.toList))
  | .leq => some (.bool (Op.bytesLess x.data.toList y.data.toList || x.data.toList == y.data.toList))
  | .gtr => some (.bool !(Op.bytesLess x.data.toList y.data.toList || x.data.toList == y.data.toList))
  | .geq => some (.bool !(Op.bytesLess x.data.toList y.data.toList))
  | _ => none

/-- Are two the same, by the type? (Cells of scalars alone.) -/
def eqS (ki : Ki) (x y : PV) : Option Bool :=
  match ki, x, y with
  | .bool, .bool a, .bool b => some (a == b)
  | .int _, .int k a, .int k' b => if k = k' then some (a == b) else none
  | .str, .str a, .str b => some (a == b)
  | .ptr _, .nilp, .nilp => some true
  | .ptr _, .nilp, .ptr .. | .ptr _, .nilp, .ip .. | .ptr _, .ptr .., .nilp | .ptr _, .ip .., .nilp => some false
  | .slice _, .nils, .nils => some true
  | .slice _, .nils, .sl .. | .slice _, .nils, .sm .. | .slice _, .sl .., .nils | .slice _, .sm .., .nils => some false
  | .map .., .nilm, .nilm => some true
  | .map .., .nilm, .mp .. | .map .., .mp .., .nilm => some false
  | .func, .nilf, .nilf => some true
  | .func, .nilf, .fn .. | .func, .fn .., .nilf => some false
  | _, _, _ => none

def Cx.binP (X : Cx) (op : BinOp) (t : TypeId) (x y : PV) : Option PV :=
  match x, y with
  | .int k a, .int k' b =>
    match op with
    | .shl | .shr => shiftI op k a b
    | _ => if k = k' then arithI op k a b else none
  | .str a, .str b => strO op a b
  | x, y =>
    match op with
    | .eql => (eqS (X.ty t).ki x y).map .bool
    | .neq => (eqS (X.ty t).ki x y).map fun b => .bool !b
    | _ => none

def unP (op : UnOp) (x : PV) : Option PV :=
  match op, x with
  | .neg, .int k n => some (.int k (k.wrap (0 - n)))
  | .xor, .int k n => (bitsI .xor k (if k.signed then -1 else k.max) n).map (.int k)
  | .not, .bool b => some (.bool !b)
  | _, _ => none

/-- The elements of a slice, where they can be read. -/
def elems (H : Heap) : PV → Option (List PV)
  | .nils => some []
  | .sl es _ => some es
  | .sm id i n => match H.bl id with
    | some (.row es _) => if i + n ≤ es.length then some ((es.drop i).take n) else none
    | _ => none
  | .sa id i o n => match H.bl id with
    | some (.row es _) => match es[i]? with
      | some e => if o + n ≤ e.cells.length ∧ ((e.cells.drop o).take n).all PV.one then some ((e.cells.drop o).take n) else none
      | none => none
    | _ => none
  | _ => none

def toByte : PV → Option UInt8
  | .int .u8 n => if 0 ≤ n ∧ n < 256 then some (UInt8.ofNat n.toNat) else none
  | _ => none

def Cx.convP (X : Cx) (s d : TypeId) (H : Heap) (x : PV) : Option PV :=
  match (X.ty s).ki, (X.ty d).ki, x with
  | .int _, .int k, .int _ n => some (.int k (k.wrap n))
  | .str, .str, .str s => some (.str s)
  | .slice e, .str, x => if (X.ty e).ki = .int .u8 then match elems H x with
      | some es => (es.mapM toByte).map fun l => .str ⟨l.toArray⟩
      | none => none
    else none
  | _, _, _ => none

def asI : PV → Option Int
  | .int _ n => some n
  | _ => none

def fieldOf (X : Cx) (t : TypeId) (f : Nat) : Option (Nat × Nat) :=
  match (X.ty t).ki with
  | .struct fs => fs[f]?
  | _ => none

def Cx.fieldAddr (X : Cx) (t : TypeId) (f : Nat) (a : PV) : Option PV :=
  match fieldOf X t f with
  | some (off, u) => if (X.ty u).size = 0 then none else match a with
    | .ip e o => some (.ip e (o + off))
    | .ptr id i o => some (.ptr id i (o + off))
    | _ => none
  | none => none

def Cx.field (X : Cx) (t : TypeId) (f : Nat) (a : PV) : Option PV :=
  match fieldOf X t f with
  | some (off, u) => if isAg a then loadE (X.ty u).agg (X.ty u).size a off else none
  | none => none

def Cx.indexAddr (X : Cx) (t : TypeId) (H : Heap) (a ix : PV) : Option PV :=
  match asI ix with
  | some j =>
    match (X.ty t).ki, a with
    | .slice u, .sl es _ => if 0 ≤ j ∧ j < es.length then match es[j.toNat]? with
        | some e => if e.cells.length = (X.ty u).size then some (.ip e 0) else none
        | none => none
      else none
    | .slice u, .sm id i n => if 0 ≤ j ∧ j < n then match H.bl id with
        | some (.row _ sz) => if sz = (X.ty u).size then some (.ptr id (i + j.toNat) 0) else none
        | _ => none
      else none
    | .arr n u, .ip e o => if 0 ≤ j ∧ j < n then some (.ip e (o + j.toNat * (X.ty u).size)) else none
    | .arr n u, .ptr id i o => if 0 ≤ j ∧ j < n then some (.ptr id i (o + j.toNat * (X.ty u).size)) else none
    | _, _ => none
  | none => none

def Cx.index (X : Cx) (t : TypeId) (a ix : PV) : Option PV :=
  match asI ix with
  | some j =>
    match (X.ty t).ki, a with
    | .arr n u, a => if 0 ≤ j ∧ j < n ∧ isAg a then loadE (X.ty u).agg (X.ty u).size a (j.toNat * (X.ty u).size) else none
    | .str, .str s => if 0 ≤ j then match s[j.toNat]? with
        | some b => some (.int .u8 b.toNat)
        | none => none
      else none
    | _, _ => none
  | none => none

/-- A slice's bounds: low, high, most, each with what it is where it is not given. -/
def bnd (x : Option PV) (d : Nat) (y : Nat) : Option Nat :=
  match x with
  | none => some d
  | some v => match asI v with
    | some i => if 0 ≤ i ∧ i ≤ y then some i.toNat else none
    | none => none

def Cx.slice (X : Cx) (t : TypeId) (x : PV) (lo hi mx : Option PV) : Option PV :=
  match (X.ty t).ki, x with
  | .str, .str s => match mx with
    | none => match bnd hi s.size s.size with
      | some h => match bnd lo 0 h with
        | some l => some (.str (s.extract l h))
        | none => none
      | none => none
    | some _ => none
  | .slice _, .nils => match bnd mx 0 0 with
    | some m => match bnd hi 0 m with
      | some h => match bnd lo 0 h with
        | some _ => if mx.isSome && hi.isNone then none else some .nils
        | none => none
      | none => none
    | none => none
  | .slice u, .sl es full => match mx with
    | none => match bnd hi es.length es.length with
      | some h => match bnd lo 0 h with
        | some l => if es.all (fun e => e.cells.length = (X.ty u).size) then some (.sl ((es.drop l).take (h - l)) (full && h = es.length)) else none
        | none => none
      | none => none
    | some m => match bnd (some m) 0 es.length with
      | some m => match bnd hi es.length m with
        | some h => match bnd lo 0 h with
          | some l => if hi.isSome ∧ es.all (fun e => e.cells.length = (X.ty u).size) then some (.sl ((es.drop l).take (h - l)) (m = h)) else none
          | none => none
        | none => none
      | none => none
  | .slice _, .sm id i n => match mx with
    | none => match bnd hi n n with
      | some h => match bnd lo 0 h with
        | some l => if l = 0 then some (.sm id i h) else if l = h then some (.sl [] false) else none
        | none => none
      | none => none
    | some _ => none
  | .arr n u, .ptr id i o => match mx with
    | none => match bnd hi n n with
      | some h => match bnd lo 0 h with
        | some l => if (X.ty u).size = 1 ∧ (l < n ∨ l = 0) then some (.sa id i (o + l) (h - l)) else none
        | none => none
      | none => none
    | some _ => none
  | .arr n u, .ip e o => match mx with
    | none => match bnd hi n n with
      | some h => match bnd lo 0 h with
        | some l => if (X.ty u).size = 1 ∧ l = 0 ∧ o + n ≤ e.cells.length ∧ (e.cells.all PV.one) then some (.sl ((e.cells.drop o).take h) (h = n)) else none
        | none => none
      | none => none
    | some _ => none
  | _, _ => none

/-- A struct's, an array's cells: zero, and the parts. -/
def fillP (place : Nat → Option (Nat × Nat)) (cells : List PV) : List (Nat × PV) → Option (List PV)
  | [] => some cells
  | (i, v) :: rest => match place i with
    | none => none
    | some (off, size) =>
      if v.cells.length = size ∧ off + v.cells.length ≤ cells.length then fillP place (setR cells off v.cells) rest else none

def Cx.build (X : Cx) (t : TypeId) (parts : List (Nat × PV)) : Option PV :=
  match (X.ty t).ki with
  | .struct fs => (fillP (fun i => (fs[i]?).map fun f => (f.1, (X.ty f.2).size)) (X.ty t).zero.cells parts).map .agg
  | .arr _ u => (fillP (fun i => some (i * (X.ty u).size, (X.ty u).size)) (X.ty t).zero.cells parts).map .agg
  | _ => none

def fillS (sz : Nat) (es : List PV) : List (Nat × PV) → Option (List PV)
  | [] => some es
  | (i, v) :: rest => if i < es.length ∧ v.cells.length = sz then fillS sz (es.set i v) rest else none

def Cx.lit (X : Cx) (t : TypeId) (len : Nat) (parts : List (Nat × PV)) : Option (List PV × Nat) :=
  match (X.ty t).ki with
  | .slice u =>
    if len = 0 ∧ parts.isEmpty ∧ 0 < (X.ty u).size then some ([], (X.ty u).size)
    else if 0 < len ∧ len * (X.ty u).size ≤ 2 ^ 24 ∧ 0 < (X.ty u).size ∧ (X.ty u).zero.cells.length = (X.ty u).size then
      (fillS (X.ty u).size (List.replicate len (X.ty u).zero) parts).map fun es => (es, (X.ty u).size)
    else none
  | _ => none

/-! Maps: their keys are strings or whole numbers. -/

def sameK : Ki → PV → PV → Option Bool
  | .str, .str a, .str b => some (a == b)
  | .int _, .int k a, .int k' b => if k = k' then some (a == b) else none
  | _, _, _ => none

def findK (ki : Ki) (key : PV) : List (PV × PV) → Nat → Option (Option (Nat × PV))
  | [], _ => some none
  | (k, v) :: es, i => match sameK ki key k with
    | some true => some (some (i, v))
    | some false => findK ki key es (i + 1)
    | none => none

def plainKey : Ki → PV → Bool
  | .str, .str _ => true
  | .int _, .int _ _ => true
  | _, _ => false

def mapOf (H : Heap) : PV → Option (List (PV × PV))
  | .nilm => some []
  | .mp id => match H.bl id with
    | some (.map es) => some es
    | _ => none
  | _ => none

def Cx.lookup (X : Cx) (t : TypeId) (H : Heap) (m k : PV) (ok : Bool) : Option PV :=
  match (X.ty t).ki with
  | .map kt et => if plainKey (X.ty kt).ki k = true ∧ 0 < (X.ty et).size then
      match mapOf H m with
      | some es => match findK (X.ty kt).ki k es 0 with
        | some (some (_, v)) => some (if ok then .tup [v, .bool true] else v)
        | some none => some (if ok then .tup [(X.ty et).zero, .bool false] else (X.ty et).zero)
        | none => none
      | none => none
    else none
  | _ => none

def Cx.mapUpd (X : Cx) (t : TypeId) (H : Heap) (m k x : PV) : Option Heap :=
  match (X.ty t).ki, m with
  | .map kt _, .mp id => if plainKey (X.ty kt).ki k = true then match H.bl id with
      | some (.map es) => match findK (X.ty kt).ki k es 0 with
        | some (some (i, _)) => some (H.set id (some (.map (es.set i (k, x)))))
        | some none => some (H.set id (some (.map (es ++ [(k, x)]))))
        | none => none
      | _ => none
    else none
  | _, _ => none

/-- What an operation that calls no function makes; b: the id of what it makes anew; mu: literals may change. -/
def Cx.op (X : Cx) (mu : Bool) (e : Env) (H : Heap) (b : Nat) (o : Op) : Option (PV × Heap) :=
  match o with
  | .move x | .assign x => some (X.ev e x, H)
  | .pick c x y => match X.ev e c with
    | .bool t => some (if t then X.ev e x else X.ev e y, H)
    | _ => none
  | .alloc t => if (X.ty t).zero.cells.length = (X.ty t).size ∧ 0 < (X.ty t).size then some (.ptr b 0 0, H.set b (some (.row [(X.ty t).zero] (X.ty t).size))) else none
  | .box _ x => if 0 < (X.ev e x).cells.length then some (.ptr b 0 0, H.set b (some (.row [X.ev e x] (X.ev e x).cells.length))) else none
  | .build t ps => (X.build t (ps.toList.map fun p => (p.1, X.ev e p.2))).map fun v => (v, H)
  | .buildSlice t n ps => match X.lit t n (ps.toList.map fun p => (p.1, X.ev e p.2)) with
    | some (es, sz) => if mu then some (.sm b 0 n, H.set b (some (.row es sz))) else some (.sl es true, H)
    | none => none
  | .load t a => (X.load t H (X.ev e a)).map fun v => (v, H)
  | .store t a v => (X.store t H (X.ev e v) (X.ev e a)).map fun H => (.und, H)
  | .nilCheck x => match X.ev e x with
    | .ptr id i o => some (.ptr id i o, H)
    | .ip y o => some (.ip y o, H)
    | .fn (.func f) a c => some (.fn (.func f) a c, H)
    | _ => none
  | .binOp op t x y _ => (X.binP op t (X.ev e x) (X.ev e y)).map fun v => (v, H)
  | .unOp op _ x => (unP op (X.ev e x)).map fun v => (v, H)
  | .convert s d x => (X.convP s d H (X.ev e x)).map fun v => (v, H)
  | .makeFunc fn fi ca => some (.fn fn (fi.toList.map (X.ev e)) (ca.toList.map (X.ev e)), H)
  | .makeMap _ none => some (.mp b, H.set b (some (.map [])))
  | .makeSlice t n c => match (X.ty t).ki, asI (X.ev e n), asI (X.ev e c) with
    | .slice u, some l, some m =>
      if 0 ≤ l ∧ l ≤ m ∧ m * (X.ty u).bytes ≤ 2 ^ 48 ∧ m < 2 ^ 62 ∧ 0 < (X.ty u).size ∧ (X.ty u).zero.cells.length = (X.ty u).size then
        some (.sm b 0 l.toNat, H.set b (some (.row (List.replicate l.toNat (X.ty u).zero) (X.ty u).size)))
      else none
    | _, _, _ => none
  | .slice t x lo hi mx => (X.slice t (X.ev e x) (lo.map (X.ev e)) (hi.map (X.ev e)) (mx.map (X.ev e))).map fun v => (v, H)
  | .fieldAddr t x f => (X.fieldAddr t f (X.ev e x)).map fun v => (v, H)
  | .field t x f => (X.field t f (X.ev e x)).map fun v => (v, H)
  | .indexAddr t x ix => (X.indexAddr t H (X.ev e x) (X.ev e ix)).map fun v => (v, H)
  | .index t x ix => (X.index t (X.ev e x) (X.ev e ix)).map fun v => (v, H)
  | .extract x i => match X.ev e x with
    | .tup vs => (vs[i]?).map fun v => (v, H)
    | _ => none
  | .lookup t m k ok => (X.lookup t H (X.ev e m) (X.ev e k) ok).map fun v => (v, H)
  | .mapUpdate t m k x => (X.mapUpd t H (X.ev e m) (X.ev e k) (X.ev e x)).map fun H => (.und, H)
  | _ => none

end Go.A3
