/-
  The abstract machine, reckoned out: a run with a bound on its rounds. (What is laid down is reckoned out first: the kernel is to do this.)
-/
import Derived.Test.YtjgfmcbdojjegaaGreatDoorV1
import Derived.Test.YtjgfmcbdojjegaaGreatDoorV4
import Derived.Test.YtjgfmcbdojjegaaGreatDoorP2
namespace Go.A3

abbrev Ex := Tr PV
def Ex.env (e : Ex) : Env := fun t => match e.get t with
  | some v => v
  | none => .und

/-- The heap, as a tree; dirty: the ids of old blocks that may have changed since the function began; rl, tl: in a region that draws its order, what is looked at and what is changed by those that may come up beside others. -/
structure Sx where
  next : Nat
  bl : Tr Blk
  dirty : List Nat
  rl : List Nat
  tl : List Nat

def Sx.H (s : Sx) : Heap := ⟨s.next, s.bl.get⟩

def listK {α β : Type} : List α → (List α → β) → β
  | [], k => k []
  | x :: xs, k => listK xs fun ys => k (x :: ys)

theorem listK_eq {α β : Type} : ∀ (l : List α) (k : List α → β), listK l k = k l
  | [], _ => rfl
  | x :: xs, k => by rw [listK, listK_eq xs]

/-- A value, reckoned out. -/
def PV.k {β : Type} (v : PV) (k : PV → β) : β :=
  match v with
  | .bool true => k (.bool true)
  | .bool false => k (.bool false)
  | .int kd (.ofNat m) => natK m fun m => k (.int kd (.ofNat m))
  | .int kd (.negSucc m) => natK m fun m => k (.int kd (.negSucc m))
  | .ptr a b c => natK a fun a => natK b fun b => natK c fun c => k (.ptr a b c)
  | .ip e o => natK o fun o => k (.ip e o)
  | .sm a b c => natK a fun a => natK b fun b => natK c fun c => k (.sm a b c)
  | .sa a b c d => natK a fun a => natK b fun b => natK c fun c => natK d fun d => k (.sa a b c d)
  | .mp a => natK a fun a => k (.mp a)
  | .agg cs => listK cs fun cs => k (.agg cs)
  | .tup cs => listK cs fun cs => k (.tup cs)
  | .sl cs f => listK cs fun cs => k (.sl cs f)
  | v => k v

theorem PV.k_eq {β : Type} (v : PV) (f : PV → β) : v.k f = f v := by
  unfold PV.k
  split <;> simp only [natK_eq, listK_eq]

def elK {β : Type} : List PV → (List PV → β) → β
  | [], k => k []
  | x :: xs, k => x.k fun x => elK xs fun ys => k (x :: ys)

theorem elK_eq {β : Type} : ∀ (l : List PV) (k : List PV → β), elK l k = k l
  | [], _ => rfl
  | x :: xs, k => by rw [elK, PV.k_eq, elK_eq xs]

def blkK {β : Type} (b : Option Blk) (k : Option Blk → β) : β :=
  match b with
  | none => k none
  | some (.row es sz) => elK es fun es => k (some (.row es sz))
  | some (.map es) => listK es fun es => k (some (.map es))

theorem blkK_eq {β : Type} (b : Option Blk) (k : Option Blk → β) : blkK b k = k b := by
  unfold blkK
  split <;> simp only [elK_eq, listK_eq]

def ids1 : PV → List Nat
  | .ptr id _ _ | .sm id _ _ | .mp id => [id]
  | _ => []

/-- The blocks that an operation may change. -/
def touch (X : Cx) (mu : Bool) (e : Env) (b : Nat) : Op → List Nat
  | .alloc _ | .box .. | .makeMap .. | .makeSlice .. => [b]
  | .buildSlice .. => bif mu then [b] else []
  | .store _ a _ => ids1 (X.ev e a)
  | .mapUpdate _ m _ _ => ids1 (X.ev e m)
  | .call c => match c.callee with
    | .builtin .append => b :: ((c.args.toList.take 1).flatMap fun x => ids1 (X.ev e x))
    | _ => []
  | _ => []

def lowVB (b : Nat) : PV → Bool
  | .ptr id _ _ | .sm id _ _ | .sa id _ _ _ => Nat.blt id b
  | _ => true

def idsV : PV → List Nat
  | .ptr id _ _ | .sm id _ _ | .sa id _ _ _ => [id]
  | _ => []

/-- The blocks that an operation looks at. -/
def reads (X : Cx) (e : Env) : Op → List Nat
  | .load _ a | .indexAddr _ a _ | .convert _ _ a => idsV (X.ev e a)
  | _ => []

/-- What is appended, and to what, was there ahead of the region. -/
def appB (X : Cx) (e : Env) (b : Nat) : Op → Bool
  | .call c => match c.callee with
    | .builtin .append => c.args.toList.all fun x => lowVB b (X.ev e x)
    | _ => true
  | _ => true

def memB (n : Nat) : List Nat → Bool
  | [] => false
  | x :: l => Nat.beq n x || memB n l

/-- A value, reckoned out with all its parts. -/
def lK {β : Type} (f : PV → (PV → β) → β) : List PV → (List PV → β) → β
  | [], k => k []
  | x :: xs, k => f x fun x => lK f xs fun ys => k (x :: ys)

def deepK {β : Type} : Nat → PV → (PV → β) → β
  | 0, v, k => k v
  | n + 1, v, k => v.k fun v => match v with
    | .agg cs => lK (deepK n) cs fun cs => k (.agg cs)
    | .tup cs => lK (deepK n) cs fun cs => k (.tup cs)
    | .sl cs f => lK (deepK n) cs fun cs => k (.sl cs f)
    | .ip e o => deepK n e fun e => k (.ip e o)
    | .fn f a b => lK (deepK n) a fun a => lK (deepK n) b fun b => k (.fn f a b)
    | v => k v

theorem lK_eq {β : Type} {f : PV → (PV → β) → β} (hf : ∀ v k, f v k = k v) : ∀ (l : List PV) (k : List PV → β), lK f l k = k l
  | [], _ => rfl
  | x :: xs, k => by rw [lK, hf, lK_eq hf xs]

theorem deepK_eq {β : Type} : ∀ (n : Nat) (v : PV) (k : PV → β), deepK n v k = k v
  | 0, _, _ => rfl
  | n + 1, v, k => by
    unfold deepK
    rw [PV.k_eq]
    split <;> simp only [lK_eq (deepK_eq n), deepK_eq n]

def updK {β : Type} : List Nat → Heap → Tr Blk → (Tr Blk → β) → β
  | [], _, t, k => k t
  | id :: l, H, t, k => blkK (H.bl id) fun b => natK id fun id => Tr.setK (id + 1) id b t fun t => updK l H t k

def putK {β : Type} (e : Ex) (d : Option Tmp) (v : PV) (k : Ex → β) : β :=
  match d with
  | some d => v.k fun v => Tr.setK (d + 1) d (some v) e k
  | none => k e

def runOp (X : Cx) (mu : Bool) (call : FuncId → List PV → Sx → Option (PV × Sx)) (n0 : Nat) (fr : Bool) (ops : List Oper) (base : Lw) (i : Nat) (o : Oper) (e : Ex) (s : Sx) : Option (Ex × Sx) :=
  match stepOf X mu ops base i o e.env s.H with
  | .det v H _ =>
    putK e o.dst v fun e' => listK (touch X mu e.env (base.b + i) o.op) fun l => updK l H s.bl fun t => listK ((l.filter fun id => Nat.blt id n0) ++ s.dirty) fun d =>
      bif fr then some (e', ⟨s.next, t, d, s.rl, s.tl⟩)
      else bif appB X e.env base.b o.op then listK (reads X e.env o.op ++ s.rl) fun rl => listK (l ++ s.tl) fun tl => some (e', ⟨s.next, t, d, rl, tl⟩)
      else none
  | .call f args =>
    match call f args s with
    | some (r, s1) => putK e o.dst r fun e' => listK ((s1.dirty.filter fun id => Nat.blt id n0) ++ s.dirty) fun d =>
      bif fr then some (e', ⟨s1.next, s1.bl, d, s.rl, s.tl⟩)
      else listK (s1.dirty ++ s.tl) fun tl => some (e', ⟨s1.next, s1.bl, d, s.rl, tl⟩)
    | none => none
  | .fail => none

def runL (X : Cx) (mu : Bool) (call : FuncId → List PV → Sx → Option (PV × Sx)) (n0 : Nat) (ops : List Oper) (base : Lw) : List (Nat × Bool) → Ex → Sx → Option (Ex × Sx)
  | [], e, s => some (e, s)
  | p :: T, e, s => match ops[p.1]? with
    | some o => match runOp X mu call n0 p.2 ops base p.1 o e s with
      | some q => runL X mu call n0 ops base T q.1 q.2
      | none => none
    | none => none

def runD (X : Cx) (mu : Bool) (call : FuncId → List PV → Sx → Option (PV × Sx)) (n0 : Nat) (ops : List Oper) (base : Lw) : List Oper → Nat → Ex → Sx → Option (Ex × Sx)
  | [], _, e, s => some (e, s)
  | o :: T, i, e, s => match runOp X mu call n0 true ops base i o e s with
    | some q => runD X mu call n0 ops base T (i + 1) q.1 q.2
    | none => none

/-- What is looked at was there ahead of the region, and is not changed in it. -/
def okLogs (b : Nat) (s : Sx) : Bool := s.rl.all fun id => Nat.blt id b && !(memB id s.tl)

def chkL (b : Nat) (r : Option (Ex × Sx)) : Option (Ex × Sx) :=
  match r with
  | some q => bif okLogs b q.2 then some q else none
  | none => none

def toX (r : Option (Ex × Sx)) : Option (Xt × Ex × Sx) :=
  match r with
  | some q => some (.normal, q.1, q.2)
  | none => none

/-- One step into code; rec: what runs the parts. -/
def runS (X : Cx) (mu : Bool) (ord : Nat → List (Nat × Bool)) (call : FuncId → List PV → Sx → Option (PV × Sx)) (n0 : Nat) (rec : Code → Ex → Sx → Option (Xt × Ex × Sx)) : Code → Ex → Sx → Option (Xt × Ex × Sx)
  | .skip, e, s | .label _, e, s => some (.normal, e, s)
  | .region id ops d, e, s =>
    natK (s.next + ops.toList.length) fun nx =>
      bif d then toX (chkL s.next (runL X mu call n0 ops.toList (Lw.all s.next) (ord id) e ⟨nx, s.bl, s.dirty, [], []⟩))
      else toX (runD X mu call n0 ops.toList (Lw.all s.next) ops.toList 0 e ⟨nx, s.bl, s.dirty, [], []⟩)
  | .seq a b, e, s => match rec a e s with
    | some (.normal, e, s) => rec b e s
    | r => r
  | .cond c a b, e, s => match X.ev e.env c with
    | .bool true => rec a e s
    | .bool false => rec b e s
    | _ => none
  | .block id c, e, s => match rec c e s with
    | some (.exit j, e, s) => bif Nat.beq j id then some (.normal, e, s) else some (.exit j, e, s)
    | r => r
  | .loop c, e, s => match rec c e s with
    | some (.normal, e, s) => rec (.loop c) e s
    | r => r
  | .exit id, e, s => some (.exit id, e, s)
  | .ret, e, s => some (.ret, e, s)
  | .scope c, e, s => rec c e s
  | _, _, _ => none

noncomputable def runC (X : Cx) (mu : Bool) (ord : Nat → List (Nat × Bool)) (call : FuncId → List PV → Sx → Option (PV × Sx)) (n0 : Nat) (fuel : Nat) : Code → Ex → Sx → Option (Xt × Ex × Sx) :=
  Nat.rec (fun _ _ _ => none) (fun _ rec => runS X mu ord call n0 rec) fuel

theorem runC_zero {X mu ord call n0} (c : Code) (e : Ex) (s : Sx) : runC X mu ord call n0 0 c e s = none := rfl
theorem runC_succ {X mu ord call n0} (k : Nat) (c : Code) (e : Ex) (s : Sx) : runC X mu ord call n0 (k + 1) c e s = runS X mu ord call n0 (runC X mu ord call n0 k) c e s := rfl

/-- The orders that are named are orders. -/
def okOrds (X : Cx) (mu : Bool) (ord : Nat → List (Nat × Bool)) : Code → Bool
  | .region id ops d => !d || okDrawF X mu ops.toList (masks ops.toList) (ord id)
  | .seq a b | .cond _ a b => okOrds X mu ord a && okOrds X mu ord b
  | .block _ c | .loop c | .scope c => okOrds X mu ord c
  | _ => true

/-- Can the function be told? -/
def okF (X : Cx) (mu : FuncId → Bool) (ord : FuncId → Nat → List (Nat × Bool)) (f : FuncId) : Bool :=
  match X.P.funcs[f]? with
  | some fn => okFn X f && (match fn.body with
    | some c => okCode X fn.ntmps c && okOrds X (mu f) (ord f) c
    | none => false)
  | none => false

def argsK {β : Type} : List PV → Nat → Ex → (Ex → β) → β
  | [], _, e, k => k e
  | v :: l, i, e, k => v.k fun v => natK i fun i => Tr.setK (i + 1) i (some v) e fun e => argsK l (i + 1) e k

def outB (X : Cx) (rs : List ResultVar) (q : Option (Xt × Ex × Sx)) : Option (PV × Sx) :=
  match q with
  | some (.exit _, _, _) => none
  | some (_, e', s') => match outA X rs e'.env s'.H with
    | some r => r.k fun r => some (r, s')
    | none => none
  | none => none

/-- A function's body. -/
noncomputable def runB (X : Cx) (mu : FuncId → Bool) (ord : FuncId → Nat → List (Nat × Bool)) (fuel : Nat) (call : FuncId → List PV → Sx → Option (PV × Sx)) (f : FuncId) (args : List PV) (s : Sx) : Option (PV × Sx) :=
  bif okF X mu ord f then
    match X.P.funcs[f]? with
    | some fn => bif Nat.ble args.length fn.ntmps then
        match fn.body with
        | some c => argsK args 0 .leaf fun e => outB X fn.results.toList (runC X (mu f) (ord f) call s.next fuel c e ⟨s.next, s.bl, [], [], []⟩)
        | none => none
      else none
    | none => none
  else none

/-- How functions are run: those that are to be run by themselves; and how deep each one goes. -/
structure Hint where
  mu : FuncId → Bool
  ord : FuncId → Nat → List (Nat × Bool)
  pu : FuncId → Bool
  rank : FuncId → Nat
  fuel : Nat
  memo : List Known

noncomputable def runF (X : Cx) (h : Hint) (depth : Nat) : FuncId → List PV → Sx → Option (PV × Sx) :=
  Nat.rec (fun _ _ _ => none) (fun n call f args s =>
    match look f args h.memo with
    | some r => some (r, ⟨s.next, s.bl, [], [], []⟩)
    | none =>
    bif Nat.blt (h.rank f) n then call f args s
    else bif h.pu f && idfL args then
      match runB X h.mu h.ord h.fuel call f args ⟨0, .leaf, [], [], []⟩ with
      | some (r, s1) => match frz s1.H 100 r with
        | some r => deepK 100 r fun r => some (r, ⟨s.next, s.bl, [], [], []⟩)
        | none => none
      | none => none
    else runB X h.mu h.ord h.fuel call f args s) depth

end Go.A3
