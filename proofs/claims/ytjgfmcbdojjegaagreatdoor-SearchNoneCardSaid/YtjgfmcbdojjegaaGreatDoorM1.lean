/-
  The abstract machine: values as trees, a small heap of what may change, and their relation to the model's worlds. Plain definitions and the laws that a value's relation outlasts a step.
-/
import Derived.WalkKit
namespace Go.A3

/-- Abstract values. 'sl': a slice whose elements never change any more (full: its capacity is its length). 'ip': a pointer to cell o of an element that never changes. 'ptr', 'sm', 'sa', 'mp': what leads into the heap of what may change. 'und': nothing yet. -/
inductive PV where
  | bool (b : Bool)
  | int (k : IntKind) (n : Int)
  | str (s : ByteArray)
  | nilp | nils | nilf | nilm | nili
  | ptr (id i o : Nat)
  | ip (e : PV) (o : Nat)
  | sl (es : List PV) (full : Bool)
  | sm (id i n : Nat)
  | sa (id i o n : Nat)
  | mp (id : Nat)
  | fn (f : Fn) (first cap : List PV)
  | agg (cs : List PV)
  | tup (vs : List PV)
  | und
  deriving Inhabited

/-- A value's cells. -/
def PV.cells : PV → List PV
  | .agg cs => cs
  | v => [v]

/-- May it lie in one cell? -/
def PV.one : PV → Bool
  | .agg _ | .tup _ | .und => false
  | _ => true

@[simp] theorem PV.cells_agg (cs : List PV) : (PV.agg cs).cells = cs := rfl
@[simp] theorem PV.one_agg (cs : List PV) : (PV.agg cs).one = false := rfl
@[simp] theorem PV.cells_bool (b : Bool) : (PV.bool b).cells = [.bool b] := rfl
@[simp] theorem PV.one_bool (b : Bool) : (PV.bool b).one = true := rfl
@[simp] theorem PV.cells_int (k : IntKind) (n : Int) : (PV.int k n).cells = [.int k n] := rfl
@[simp] theorem PV.one_int (k : IntKind) (n : Int) : (PV.int k n).one = true := rfl
@[simp] theorem PV.cells_str (s : ByteArray) : (PV.str s).cells = [.str s] := rfl
@[simp] theorem PV.one_str (s : ByteArray) : (PV.str s).one = true := rfl
@[simp] theorem PV.cells_nilp  : (PV.nilp).cells = [.nilp] := rfl
@[simp] theorem PV.one_nilp  : (PV.nilp).one = true := rfl
@[simp] theorem PV.cells_nils  : (PV.nils).cells = [.nils] := rfl
@[simp] theorem PV.one_nils  : (PV.nils).one = true := rfl
@[simp] theorem PV.cells_nilf  : (PV.nilf).cells = [.nilf] := rfl
@[simp] theorem PV.one_nilf  : (PV.nilf).one = true := rfl
@[simp] theorem PV.cells_nilm  : (PV.nilm).cells = [.nilm] := rfl
@[simp] theorem PV.one_nilm  : (PV.nilm).one = true := rfl
@[simp] theorem PV.cells_nili  : (PV.nili).cells = [.nili] := rfl
@[simp] theorem PV.one_nili  : (PV.nili).one = true := rfl
@[simp] theorem PV.cells_ptr (a b c : Nat) : (PV.ptr a b c).cells = [.ptr a b c] := rfl
@[simp] theorem PV.one_ptr (a b c : Nat) : (PV.ptr a b c).one = true := rfl
@[simp] theorem PV.cells_ip (e : PV) (o : Nat) : (PV.ip e o).cells = [.ip e o] := rfl
@[simp] theorem PV.one_ip (e : PV) (o : Nat) : (PV.ip e o).one = true := rfl
@[simp] theorem PV.cells_sl (es : List PV) (f : Bool) : (PV.sl es f).cells = [.sl es f] := rfl
@[simp] theorem PV.one_sl (es : List PV) (f : Bool) : (PV.sl es f).one = true := rfl
@[simp] theorem PV.cells_sm (a b c : Nat) : (PV.sm a b c).cells = [.sm a b c] := rfl
@[simp] theorem PV.one_sm (a b c : Nat) : (PV.sm a b c).one = true := rfl
@[simp] theorem PV.cells_sa (a b c d : Nat) : (PV.sa a b c d).cells = [.sa a b c d] := rfl
@[simp] theorem PV.one_sa (a b c d : Nat) : (PV.sa a b c d).one = true := rfl
@[simp] theorem PV.cells_mp (a : Nat) : (PV.mp a).cells = [.mp a] := rfl
@[simp] theorem PV.one_mp (a : Nat) : (PV.mp a).one = true := rfl
@[simp] theorem PV.cells_fn (f : Fn) (a b : List PV) : (PV.fn f a b).cells = [.fn f a b] := rfl
@[simp] theorem PV.one_fn (f : Fn) (a b : List PV) : (PV.fn f a b).one = true := rfl
@[simp] theorem PV.cells_tup (l : List PV) : (PV.tup l).cells = [.tup l] := rfl
@[simp] theorem PV.one_tup (l : List PV) : (PV.tup l).one = false := rfl
@[simp] theorem PV.cells_und  : (PV.und).cells = [.und] := rfl
@[simp] theorem PV.one_und  : (PV.und).one = false := rfl

/-- What may change: rows of elements, maps. -/
inductive Blk where
  | row (es : List PV) (sz : Nat)
  | map (es : List (PV × PV))
  deriving Inhabited

structure Heap where
  next : Nat
  bl : Nat → Option Blk

def Heap.set (H : Heap) (id : Nat) (b : Option Blk) : Heap := { H with bl := fun j => if j = id then b else H.bl j }
def Heap.bump (H : Heap) (n : Nat) : Heap := { H with next := n }

@[simp] theorem Heap.set_bl (H : Heap) (id j : Nat) (b : Option Blk) : (H.set id b).bl j = if j = id then b else H.bl j := rfl
@[simp] theorem Heap.set_next (H : Heap) (id : Nat) (b : Option Blk) : (H.set id b).next = H.next := rfl
@[simp] theorem Heap.bump_bl (H : Heap) (n : Nat) : (H.bump n).bl = H.bl := rfl
@[simp] theorem Heap.bump_next (H : Heap) (n : Nat) : (H.bump n).next = n := rfl

/-- Where an id lies: its block, the cells of an element, the cells of the block. -/
structure Pl where
  b : Nat
  sz : Nat
  tot : Nat
abbrev Mp := Nat → Pl
/-- Cells that never change any more. -/
abbrev St := Nat → Nat → Prop

/-- How far things have come: the ids that were given; where they lie; the cells that never change; the world. -/
structure Gs where
  K : Nat → Prop
  σ : Mp
  S : St
  w : World

/-- These values lie there, and never change. -/
def Lie (g : Gs) (b p : Nat) (l : List Value) : Prop :=
  ∀ j v, l[j]? = some v → g.S b (p + j) ∧ g.w.cell? ⟨b, p + j, none⟩ = some v

mutual
/-- An abstract value and a value of the model.  -/
def VR (g : Gs) : PV → Value → Prop
  | .bool b, v => v = .bool b
  | .int k n, v => v = .int k n
  | .str s, v => v = .string s
  | .nilp, v => v = .pointer none
  | .nils, v => v = .slice none 0 0
  | .nilf, v => v = .nilFunc
  | .nilm, v => v = .map none
  | .nili, v => v = .nilIface
  | .ptr id i o, v => g.K id ∧ v = .pointer (some ⟨(g.σ id).b, i * (g.σ id).sz + o, none⟩)
  | .ip e o, v => ∃ b p x, v = .pointer (some ⟨b, p + o, none⟩) ∧ VR g e x ∧ Lie g b p x.cells.toList
  | .sl es full, v => ∃ b p cap sz, v = .slice (some ⟨b, p, none⟩) es.length cap ∧ es.length ≤ cap ∧ (full = true → cap = es.length) ∧ ESR g es b p sz
  | .sm id i n, v => g.K id ∧ ∃ cap, n ≤ cap ∧ (i + cap) * (g.σ id).sz ≤ (g.σ id).tot ∧ v = .slice (some ⟨(g.σ id).b, i * (g.σ id).sz, none⟩) n cap
  | .sa id i o n, v => g.K id ∧ ∃ cap, n ≤ cap ∧ v = .slice (some ⟨(g.σ id).b, i * (g.σ id).sz + o, none⟩) n cap
  | .mp id, v => g.K id ∧ v = .map (some (g.σ id).b)
  | .fn f first cap, v => ∃ a b, v = .func f a b ∧ LR g first a.toList ∧ LR g cap b.toList
  | .agg cs, v => ∃ a, v = .agg a ∧ LR g cs a.toList
  | .tup cs, v => ∃ a, v = .tuple a ∧ LR g cs a.toList
  | .und, v => v = undef
/-- Values side by side. -/
def LR (g : Gs) : List PV → List Value → Prop
  | [], l => l = []
  | c :: cs, l => ∃ v r, l = v :: r ∧ VR g c v ∧ LR g cs r
/-- Elements that never change, of sz cells each. -/
def ESR (g : Gs) : List PV → Nat → Nat → Nat → Prop
  | [], _, _, _ => True
  | e :: es, b, p, sz => (∃ x, VR g e x ∧ x.cells.size = sz ∧ Lie g b p x.cells.toList) ∧ ESR g es b (p + sz) sz
end

/-- What a step keeps of what is known: ids, stable cells. -/
structure Ext (g g' : Gs) : Prop where
  K : ∀ id, g.K id → g'.K id
  σ : ∀ id, g.K id → g'.σ id = g.σ id
  S : ∀ b p, g.S b p → g'.S b p
  w : ∀ b p, g.S b p → g'.w.cell? ⟨b, p, none⟩ = g.w.cell? ⟨b, p, none⟩

theorem Ext.refl (g : Gs) : Ext g g := ⟨fun _ h => h, fun _ _ => rfl, fun _ _ h => h, fun _ _ _ => rfl⟩

theorem Ext.trans {g g' g'' : Gs} (h : Ext g g') (h' : Ext g' g'') : Ext g g'' :=
  ⟨fun id hi => h'.K id (h.K id hi), fun id hi => (h'.σ id (h.K id hi)).trans (h.σ id hi), fun b p hs => h'.S b p (h.S b p hs), fun b p hs => (h'.w b p (h.S b p hs)).trans (h.w b p hs)⟩

theorem Lie.mono {g g' : Gs} (x : Ext g g') {b p : Nat} {l : List Value} (h : Lie g b p l) : Lie g' b p l :=
  fun j v hj => ⟨x.S _ _ (h j v hj).1, (x.w _ _ (h j v hj).1).trans (h j v hj).2⟩

mutual
theorem VR.mono {g g' : Gs} (x : Ext g g') : ∀ (a : PV) {v : Value}, VR g a v → VR g' a v
  | .bool _, _, h | .int _ _, _, h | .str _, _, h | .nilp, _, h | .nils, _, h | .nilf, _, h | .nilm, _, h | .nili, _, h | .und, _, h => by unfold VR at *; exact h
  | .ptr id i o, v, h => by
    unfold VR at *
    exact ⟨x.K id h.1, by rw [x.σ id h.1]; exact h.2⟩
  | .ip e o, v, h => by
    unfold VR at *
    obtain ⟨b, p, y, h1, h2, h3⟩ := h
    exact ⟨b, p, y, h1, VR.mono x e h2, h3.mono x⟩
  | .sl es full, v, h => by
    unfold VR at *
    obtain ⟨b, p, cap, sz, h1, h2, h3, h4⟩ := h
    exact ⟨b, p, cap, sz, h1, h2, h3, ESR.mono x es h4⟩
  | .sm id i n, v, h | .sa id i o n, v, h | .mp id, v, h => by
    unfold VR at *
    rw [x.σ id h.1]
    exact ⟨x.K id h.1, h.2⟩
  | .fn f first cap, v, h => by
    unfold VR at *
    obtain ⟨a, b, h1, h2, h3⟩ := h
    exact ⟨a, b, h1, LR.mono x first h2, LR.mono x cap h3⟩
  | .agg cs, v, h | .tup cs, v, h => by
    unfold VR at *
    obtain ⟨a, h1, h2⟩ := h
    exact ⟨a, h1, LR.mono x cs h2⟩
theorem LR.mono {g g' : Gs} (x : Ext g g') : ∀ (l : List PV) {vs : List Value}, LR g l vs → LR g' l vs
  | [], _, h => by unfold LR at *; exact h
  | c :: cs, vs, h => by
    unfold LR at *
    obtain ⟨v, r, h1, h2, h3⟩ := h
    exact ⟨v, r, h1, VR.mono x c h2, LR.mono x cs h3⟩
theorem ESR.mono {g g' : Gs} (x : Ext g g') : ∀ (l : List PV) {b p sz : Nat}, ESR g l b p sz → ESR g' l b p sz
  | [], _, _, _, _ => by unfold ESR; trivial
  | e :: es, b, p, sz, h => by
    unfold ESR at *
    obtain ⟨⟨y, h1, h2, h3⟩, h4⟩ := h
    exact ⟨⟨y, VR.mono x e h1, h2, h3.mono x⟩, ESR.mono x es h4⟩
end
end Go.A3
