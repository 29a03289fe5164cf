/-
  The abstract machine: how a heap lies in a world ('SR'), what a step may change ('Stp'), what a call comes to ('CallsA'), and what code comes to ('W').
-/
import Derived.Test.YtjgfmcbdojjegaaGreatDoorM2
import Derived.Orders
namespace Go.A3

/-- A row of elements as it lies in a block's cells. -/
def RowR (g : Gs) (es : List PV) (sz : Nat) (cs : Array Value) : Prop :=
  ∀ i e, es[i]? = some e → ∃ x, VR g e x ∧ x.cells.size = sz ∧ ∀ j v, x.cells[j]? = some v → cs[i * sz + j]? = some v

/-- A map's entries. -/
def MapR (g : Gs) (es : List (PV × PV)) (ms : List MapEntry) : Prop :=
  LR g (es.map (·.1)) (ms.map (·.key)) ∧ LR g (es.map (·.2)) (ms.map (·.val))

/-- A block of the heap lies at a place. -/
def BlkR (g : Gs) (pl : Pl) : Blk → Prop
  | .row es sz => 0 < sz ∧ pl.sz = sz ∧ ∃ cs ty, g.w.heap[pl.b]? = some (.cells cs ty (0, 0)) ∧ cs.size = pl.tot ∧ RowR g es sz cs
  | .map es => ∃ ms cl, g.w.heap[pl.b]? = some (.map ms cl) ∧ MapR g es ms.toList

/-- The heap lies in the world. -/
structure SR (X : Cx) (g : Gs) (H : Heap) : Prop where
  nx : ∀ id, g.K id → id < H.next
  live : ∀ id, H.bl id ≠ none → g.K id
  blk : ∀ id b, H.bl id = some b → BlkR g (g.σ id) b
  inj : ∀ i j, H.bl i ≠ none → H.bl j ≠ none → (g.σ i).b = (g.σ j).b → i = j
  apart : ∀ id, H.bl id ≠ none → ∀ o, ¬ g.S (g.σ id).b o
  old : ∀ b o, g.S b o → b < g.w.heap.size
  glob : ∀ k e, X.gl k = some e → VR g (.ip e 0) (.pointer (some ⟨k, 0, none⟩))

/-- What a step may do. -/
structure Stp (g : Gs) (H : Heap) (g' : Gs) (H' : Heap) : Prop where
  ext : Ext g g'
  frame : ∀ b, b < g.w.heap.size → (∀ id, H.bl id ≠ none → (g.σ id).b ≠ b) → g'.w.heap[b]? = g.w.heap[b]?
  size : g.w.heap.size ≤ g'.w.heap.size
  range : ∀ id, H'.bl id ≠ none → (∃ i, H.bl i ≠ none ∧ (g.σ i).b = (g'.σ id).b) ∨ g.w.heap.size ≤ (g'.σ id).b
  newS : ∀ b o, g'.S b o → g.S b o ∨ (∃ i, H.bl i ≠ none ∧ (g.σ i).b = b) ∨ g.w.heap.size ≤ b
  io : g'.w.os = g.w.os ∧ g'.w.output = g.w.output

theorem Stp.refl (g : Gs) (H : Heap) : Stp g H g H :=
  ⟨Ext.refl g, fun _ _ _ => rfl, Nat.le_refl _, fun id h => .inl ⟨id, h, rfl⟩, fun _ _ h => .inl h, ⟨rfl, rfl⟩⟩

theorem Stp.trans {g H g' H' g'' H''} (h : Stp g H g' H') (h' : Stp g' H' g'' H'') : Stp g H g'' H'' where
  ext := h.ext.trans h'.ext
  size := Nat.le_trans h.size h'.size
  io := ⟨h'.io.1.trans h.io.1, h'.io.2.trans h.io.2⟩
  frame b hb hn := by
    rw [h'.frame b (Nat.lt_of_lt_of_le hb h.size) (fun id hid e => ?_), h.frame b hb hn]
    rcases h.range id hid with ⟨i, hi, e'⟩ | hle
    · exact hn i hi (e'.trans e)
    · omega
  range id hid := by
    rcases h'.range id hid with ⟨i, hi, e⟩ | hle
    · rcases h.range i hi with ⟨j, hj, e'⟩ | hle'
      · exact .inl ⟨j, hj, e'.trans e⟩
      · exact .inr (e ▸ hle')
    · exact .inr (Nat.le_trans h.size hle)
  newS b o hs := by
    rcases h'.newS b o hs with hs | ⟨i, hi, e⟩ | hle
    · exact h.newS b o hs
    · rcases h.range i hi with ⟨j, hj, e'⟩ | hle'
      · exact .inr (.inl ⟨j, hj, e'.trans e⟩)
      · exact .inr (.inr (e ▸ hle'))
    · exact .inr (.inr (Nat.le_trans h.size hle))

/-- What is not there below n is not there behind it. -/
structure New (n : Nat) (g : Gs) (H : Heap) (g' : Gs) (H' : Heap) : Prop where
  K : ∀ id, id < n → g'.K id → g.K id
  bl : ∀ id, id < n → H.bl id = none → H'.bl id = none
  next : H.next ≤ H'.next

theorem New.refl (n : Nat) (g : Gs) (H : Heap) : New n g H g H := ⟨fun _ _ h => h, fun _ _ h => h, Nat.le_refl _⟩

theorem New.trans {n n' : Nat} {g H g' H' g'' H''} (h : New n g H g' H') (h' : New n' g' H' g'' H'') (hn : n ≤ n') : New n g H g'' H'' :=
  ⟨fun id hi hk => h.K id hi (h'.K id (Nat.lt_of_lt_of_le hi hn) hk), fun id hi h0 => h'.bl id (Nat.lt_of_lt_of_le hi hn) (h.bl id hi h0), Nat.le_trans h.next h'.next⟩

/-- Has the function a body? -/
def okFn (X : Cx) (f : FuncId) : Bool :=
  match X.P.funcs[f]? with
  | some fn => fn.body.isSome && !(fn.name == "runtime.NumGoroutine")
  | none => false

/-- What a call comes to, in whatever world the heap lies. -/
def CallsA (X : Cx) (f : FuncId) (args : List PV) (H : Heap) (Post : PV → Heap → Prop) : Prop :=
  okFn X f = true ∧ ∀ g, SR X g H → ∀ argv : Array Value, LR g args argv.toList →
    Calls X.P f argv g.w fun e w' => ∃ r H' g' v, e = .returned v ∧ g'.w = w' ∧ SR X g' H' ∧ Stp g H g' H' ∧ New H.next g H g' H' ∧ VR g' r v ∧ Post r H'

theorem CallsA.mono {X : Cx} {f : FuncId} {args : List PV} {H : Heap} {Post Post' : PV → Heap → Prop} (h : CallsA X f args H Post)
    (hp : ∀ r H', Post r H' → Post' r H') : CallsA X f args H Post' :=
  ⟨h.1, fun g hs argv ha => (h.2 g hs argv ha).mono fun _ _ ⟨r, H', g', v, h1, h2, h3, h4, h5, h6, h7⟩ => ⟨r, H', g', v, h1, h2, h3, h4, h5, h6, hp _ _ h7⟩⟩

/-- The function that is called, and with what; none: no function of the program. -/
def Cx.callee (X : Cx) (e : Env) (c : Call) : Option (FuncId × List PV) :=
  match c.callee with
  | .value x => match X.ev e x with
    | .fn (.func f) fi ca => some (f, fi ++ c.args.toList.map (X.ev e) ++ ca)
    | _ => none
  | _ => none

/-- What is appended. -/
def srcA (H : Heap) (sz : Nat) (k : Ki) (x : PV) : Option (List PV) :=
  match k, x with
  | .str, .str y => if sz = 1 then some (y.data.toList.map fun (c : UInt8) => PV.int .u8 c.toNat) else none
  | .slice _, x => match elems H x with
    | some new => if new.all (fun v => v.cells.length = sz ∧ v.cells.all PV.one) then some new else none
    | none => none
  | _, _ => none

def isInt : Ki → Bool
  | .int _ => true
  | _ => false

/-- append, to what may change or is full. -/
def Cx.app (X : Cx) (ts : Array TypeId) (H : Heap) (b : Nat) (s x : PV) : Option (PV × Heap) :=
  match ts.toList with
  | [t, t1] => match (X.ty t).ki with
    | .slice u =>
      if isInt (X.ty t1).ki then
        match s, x with
        | .nils, .int .i64 n =>
          if 0 < n ∧ n.toNat * (X.ty u).bytes ≤ 2 ^ 47 ∧ n < 2 ^ 62 ∧ 0 < (X.ty u).size ∧ (X.ty u).zero.cells.length = (X.ty u).size then
            some (.sm b 0 n.toNat, H.set b (some (.row (List.replicate n.toNat (X.ty u).zero) (X.ty u).size)))
          else none
        | _, _ => none
      else
      match srcA H (X.ty u).size (X.ty t1).ki x with
      | some new =>
        match s with
        | .nils => if new.length * (X.ty u).bytes ≤ 2 ^ 47 ∧ new.length < 2 ^ 62 then
            if new.length = 0 then some (.nils, H) else some (.sm b 0 new.length, H.set b (some (.row new (X.ty u).size)))
          else none
        | .sl es true => if (es.length + new.length) * (X.ty u).bytes ≤ 2 ^ 47 ∧ es.length + new.length < 2 ^ 62 ∧ es.all (fun v => v.cells.length = (X.ty u).size) then
            if new.length = 0 then some (.sl es true, H) else some (.sm b 0 (es.length + new.length), H.set b (some (.row (es ++ new) (X.ty u).size)))
          else none
        | .sm id i n => match H.bl id with
          | some (.row es sz) => if sz = (X.ty u).size ∧ i = 0 ∧ n ≤ es.length ∧ (n + new.length) * (X.ty u).bytes ≤ 2 ^ 47 ∧ n + new.length < 2 ^ 62 then
              some (.sm b 0 (n + new.length), (H.set id none).set b (some (.row (es.take n ++ new) sz)))
            else none
          | _ => none
        | _ => none
      | none => none
    | _ => none
  | _ => none

/-- The other built-in functions. -/
def Cx.blt (X : Cx) (b : Builtin) (ts : Array TypeId) (args : List PV) : Option PV :=
  match b, args with
  | .len, [x] => match (ts[0]?).map fun t => (X.ty t).ki, x with
    | some .str, .str s => some (.int .i64 s.size)
    | some (.slice _), .nils => some (.int .i64 0)
    | some (.slice _), .sl es _ => some (.int .i64 es.length)
    | some (.slice _), .sm _ _ n => some (.int .i64 n)
    | some (.slice _), .sa _ _ _ n => some (.int .i64 n)
    | some (.arr n _), _ => some (.int .i64 n)
    | _, _ => none
  | .cap, [x] => match (ts[0]?).map fun t => (X.ty t).ki, x with
    | some (.slice _), .nils => some (.int .i64 0)
    | some (.slice _), .sl es true => some (.int .i64 es.length)
    | _, _ => none
  | .min, [.int k a, .int _ c] => some (.int k (if c < a then c else a))
  | .max, [.int k a, .int _ c] => some (.int k (if c > a then c else a))
  | _, _ => none

/-- How code is left. -/
inductive Xt where
  | normal | exit (id : Nat) | ret

/-- Is an operation carried out? none: that can't be told. -/
def wantedA (ops : List Oper) (e : Env) (o : Oper) : Option Bool :=
  match o.guard with
  | none => some true
  | some (j, want) => match ((ops[j]?).bind (·.dst)).map e with
    | some (.bool b) => some (b == want)
    | some .und => some false
    | _ => none

/-- Where the ids begin of what a region makes anew; and the blocks that nothing in the region changes that may come up beside what looks at them. -/
structure Lw where
  b : Nat
  U : Nat → Prop
  low : ∀ id, U id → id < b

def Lw.all (b : Nat) : Lw := ⟨b, fun id => id < b, fun _ h => h⟩

/-- Does a call beside loads leave what they look at as it is? -/
def keeps (L : Lw) (H H' : Heap) : Prop := ∀ id, L.U id → H'.bl id = H.bl id

/-- Does a value lead into memory of these ids alone? -/
def lowV (U : Nat → Prop) : PV → Prop
  | .ptr id _ _ | .sm id _ _ | .sa id _ _ _ => U id
  | _ => True

def lowOp (X : Cx) (e : Env) (L : Lw) : Op → Prop
  | .load _ a | .indexAddr _ a _ | .convert _ _ a => lowV L.U (X.ev e a)
  | _ => True

/-- What an operation does: a value, a heap, and what must hold if others may come up beside it; or a call. -/
inductive SO where
  | det (v : PV) (H : Heap) (c : Prop)
  | call (f : FuncId) (args : List PV)
  | fail

def afterOp (X : Cx) (e : Env) (base : Lw) (op : Op) (H : Heap) (r : Option (PV × Heap)) : SO :=
  match r with
  | some (v, H') => .det v H' (lowOp X e base op ∧ ∀ id, base.U id → H'.bl id = H.bl id)
  | none => .fail

def stepOf (X : Cx) (mu : Bool) (ops : List Oper) (base : Lw) (i : Nat) (o : Oper) (e : Env) (H : Heap) : SO :=
  match wantedA ops e o with
  | none => .fail
  | some false => .det .und H True
  | some true =>
    match o.op with
    | .call c => match c.callee with
      | .builtin .append => match (c.args.toList.map (X.ev e)) with
        | [s, x] => match X.app c.argTypes H (base.b + i) s x with
          | some (v, H') => .det v H' (lowV (· < base.b) s ∧ lowV (· < base.b) x ∧ ∀ id, base.U id → H'.bl id = H.bl id)
          | none => .fail
        | _ => .fail
      | .builtin b => match X.blt b c.argTypes (c.args.toList.map (X.ev e)) with
        | some v => .det v H True
        | none => .fail
      | _ => match X.callee e c with
        | some (f, args) => .call f args
        | none => .fail
    | op => afterOp X e base op H (X.op mu e H (base.b + i) op)

/-- One operation. free i: operation i meets no other one that it could hinder; base: the ids of what is made anew. -/
def StepP (X : Cx) (mu : Bool) (free : Nat → Bool) (ops : List Oper) (base : Lw) (i : Nat) (o : Oper) (K : Env → Heap → Prop) (e : Env) (H : Heap) : Prop :=
  match stepOf X mu ops base i o e H with
  | .det v H' c => (free i = true ∨ c) ∧ K (put e o.dst v) H'
  | .call f args => CallsA X f args H fun r H' => (free i = true ∨ keeps base H H') ∧ K (put e o.dst r) H'
  | .fail => False

/-- Operations in an order. -/
def WI (X : Cx) (mu : Bool) (free : Nat → Bool) (ops : List Oper) (base : Lw) (Q : Env → Heap → Prop) : List Nat → Env → Heap → Prop
  | [], e, H => Q e H
  | i :: T, e, H => match ops[i]? with
    | some o => StepP X mu free ops base i o (WI X mu free ops base Q T) e H
    | none => False

/-- Operations one behind the other. -/
def WL (X : Cx) (mu : Bool) (free : Nat → Bool) (ops : List Oper) (base : Lw) (Q : Env → Heap → Prop) : List Oper → Nat → Env → Heap → Prop
  | [], _, e, H => Q e H
  | o :: T, i, e, H => StepP X mu free ops base i o (WL X mu free ops base Q T (i + 1)) e H

/-- Operation numbers that must have been carried out ahead of operation i. -/
def ancs (ops : List Oper) : Nat → Nat → List Nat
  | 0, _ => []
  | n + 1, i => match ops[i]? with
    | some o => o.after.toList.flatMap fun d => if Region.binds .any d then d.on :: ancs ops n d.on else []
    | none => []

/-- What an operation is, for the order of its region. -/
inductive Knd where
  | pure | load | make | call | app | act
  deriving DecidableEq

def sortOf (mu : Bool) : Op → Knd
  | .load .. | .convert .. | .indexAddr .. => .load
  | .alloc _ | .box .. | .makeMap .. | .makeSlice .. => .make
  | .buildSlice .. => if mu then .make else .pure
  | .store .. | .lookup .. | .mapUpdate .. | .range .. | .next .. | .entry .. => .act
  | .call { callee := .builtin b, .. } => match b with
    | .len | .cap | .min | .max => .pure
    | .append => .app
    | _ => .act
  | .call _ => .call
  | _ => .pure

/-- Operations i and j may come up in either order. -/
def beside (ops : List Oper) (i j : Nat) : Bool := i != j && !(ancs ops ops.length i).contains j && !(ancs ops ops.length j).contains i

/-- Operation i meets no other one that it could hinder, or be hindered by. -/
def freeOf (mu : Bool) (ops : List Oper) (i : Nat) : Bool :=
  match (ops[i]?).map fun o => sortOf mu o.op with
  | some .pure | some .make | none => true
  | some .load => (List.range ops.length).all fun j => !(beside ops i j) || (match (ops[j]?).map fun o => sortOf mu o.op with | some .pure | some .load | none => true | _ => false)
  | some .app => (List.range ops.length).all fun j => !(beside ops i j) || (match (ops[j]?).map fun o => sortOf mu o.op with | some .load | some .make => false | _ => true)
  | _ => (List.range ops.length).all fun j => !(beside ops i j) || (match (ops[j]?).map fun o => sortOf mu o.op with | some .load => false | _ => true)

/-- An operation that makes something and looks at nothing. -/
def bareB (X : Cx) (o : Oper) : Bool := o.guard.isNone && (match o.op with
  | .alloc t => (X.ty t).zero.cells.length == (X.ty t).size && decide (0 < (X.ty t).size)
  | .makeMap _ none => true
  | _ => false)

def kOk (X : Cx) (mu : Bool) (oi oj : Oper) : Bool :=
  match sortOf mu oj.op, sortOf mu oi.op with
  | .pure, _ => true
  | .call, _ => bareB X oi
  | _, .pure => true
  | .load, _ | .make, .load | .make, .make | .app, .load | .app, .make => true
  | _, _ => false

/-- Two operations do not write what the other one looks at. -/
def apartA (ops : List Oper) (x y : Oper) : Bool := Oper.apart ops.toArray x y

/-- An order of a region's operations from which every other one can be told. -/
def okOrder (X : Cx) (mu : Bool) (ops : List Oper) : List Nat → Bool
  | [] => true
  | j :: T => okOrder X mu ops T && T.all fun i => i != j && !(ancs ops ops.length j).contains i &&
      ((ancs ops ops.length i).contains j || (match ops[i]?, ops[j]? with
        | some oi, some oj => apartA ops oj oi && kOk X mu oi oj
        | _, _ => false))

def okDraw (X : Cx) (mu : Bool) (ops : List Oper) (l : List Nat) : Bool :=
  okOrder X mu ops l && l.length == ops.length && l.all (fun i => decide (i < ops.length)) &&
    (List.range ops.length).all fun i => match ops[i]? with
      | some o => o.after.toList.all fun d => !Region.binds .any d || (decide (d.on < ops.length) && d.on != i)
      | none => true

end Go.A3
