/-
  The abstract machine is sound: the operations that leave the heap as it is.
-/
import Derived.Test.YtjgfmcbdojjegaaGreatDoorM5
namespace Go.A3

/-- The temporaries. -/
def EnvR (g : Gs) (e : Env) (a : Act) : Prop := ∀ t, VR g (e t) (a.tmps.getD t undef)

theorem EnvR.mono {g g' : Gs} (x : Ext g g') {e : Env} {a : Act} (h : EnvR g e a) : EnvR g' e a := fun t => (h t).mono x

theorem EnvR.put {g : Gs} {e : Env} {a : Act} (h : EnvR g e a) {d : Option Tmp} {v : PV} {x : Value} (hv : VR g v x) (hd : ∀ t, d = some t → t < a.tmps.size) : EnvR g (A3.put e d v) (a.put d x) := by
  cases d with
  | none => exact h
  | some d =>
    intro t
    have hlt := hd d rfl
    by_cases e' : t = d
    · subst e'
      simpa [Act.put, hlt] using hv
    · have := h t
      simpa [Act.put, e', Array.getElem?_setIfInBounds_ne (fun q : d = t => e' q.symm)] using this

theorem ev_ok {X : Cx} {g : Gs} {H : Heap} (hs : SR X g H) {e : Env} {a : Act} (he : EnvR g e a) {x : Operand} (ho : X.okO x = true) : VR g (X.ev e x) (a.eval x) := by
  cases x with
  | tmp t => exact he t
  | const v => exact VR.ofZ ho
  | func f =>
    show VR g (.fn (.func f) [] []) (.func (.func f) #[] #[])
    unfold VR
    exact ⟨_, _, rfl, by unfold LR; rfl, by unfold LR; rfl⟩
  | global k =>
    simp only [Cx.okO] at ho
    obtain ⟨y, hy⟩ := Option.isSome_iff_exists.1 ho
    simp only [Cx.ev, hy, Act.eval]
    exact hs.glob k y hy

theorem evs_ok {X : Cx} {g : Gs} {H : Heap} (hs : SR X g H) {e : Env} {a : Act} (he : EnvR g e a) : ∀ {l : List Operand}, (∀ x ∈ l, X.okO x = true) → LR g (l.map (X.ev e)) (l.map a.eval)
  | [], _ => by unfold LR; rfl
  | x :: l, h => by
    show LR g (X.ev e x :: l.map (X.ev e)) (a.eval x :: l.map a.eval)
    unfold LR
    exact ⟨_, _, rfl, ev_ok hs he (h x (by simp)), evs_ok hs he fun y hy => h y (by simp [hy])⟩

/-- An operation's answer, in a world. -/
def Gives (P : Program) (s : Sem Value) (w : World) (g : Gs) (v : PV) : Prop := ∃ x, s.run P w = .ok x w ∧ VR g v x

theorem bitsI_ok {P : Program} {w : World} {op : BinOp} {k : IntKind} {a b n : Int} (h : bitsI op k a b = some n) : (Op.intBits op k a b).run P w = .ok (.int k n) w := by
  unfold bitsI at h
  unfold Op.intBits
  cases op <;> simp only [Option.some.injEq, reduceCtorEq] at h <;> subst h <;> rfl

theorem arithI_ok {P : Program} {w : World} {g : Gs} {op : BinOp} {k : IntKind} {a b : Int} {v : PV} (t : TypeId) (h : arithI op k a b = some v) (h1 : op ≠ .shl) (h2 : op ≠ .shr) :
    Gives P (binOp op t (.int k a) (.int k b)) w g v := by
  unfold Gives
  unfold arithI at h
  cases op <;> simp [cmpI, bitsI] at h h1 h2 <;> first
    | (subst h; refine ⟨_, ?_, by unfold VR; rfl⟩; simp [binOp, Op.intArith, Op.intCmp, Op.intBits]; done)
    | (obtain ⟨hb, rfl⟩ := h; refine ⟨_, ?_, by unfold VR; rfl⟩; simp [binOp, Op.intDiv, hb]; done)

theorem shiftI_ok {P : Program} {w : World} {g : Gs} {op : BinOp} {k k' : IntKind} {a b : Int} {v : PV} (t : TypeId) (h : shiftI op k a b = some v) (h1 : op = .shl ∨ op = .shr) :
    Gives P (binOp op t (.int k a) (.int k' b)) w g v := by
  unfold Gives
  unfold shiftI at h
  split at h
  · simp at h
  · rename_i hb
    rcases h1 with rfl | rfl <;> simp at h <;> subst h <;> (refine ⟨_, ?_, by unfold VR; rfl⟩; simp [binOp, Op.shift, hb])

theorem strO_ok {P : Program} {w : World} {g : Gs} {op : BinOp} {a b : ByteArray} {v : PV} (t : TypeId) (h : strO op a b = some v) :
    Gives P (binOp op t (.string a) (.string b)) w g v := by
  unfold Gives
  unfold strO at h
  simp only [← ByteArray.toList_eq] at h
  cases op <;> simp at h <;> first
    | (subst h; refine ⟨_, ?_, by unfold VR; rfl⟩; simp [binOp, Op.stringOp]; done)
    | (obtain ⟨hb, rfl⟩ := h
       have : ¬ ((9223372036854775807 : Int) < (a.size : Int) + (b.size : Int)) := by omega
       refine ⟨_, ?_, by unfold VR; rfl⟩
       simp [binOp, Op.stringOp, this])

theorem unP_ok {P : Program} {w : World} {g : Gs} {op : UnOp} {x v : PV} {y : Value} (hx : VR g x y) (h : unP op x = some v) : Gives P (Op.unary op y) w g v := by
  unfold Gives
  unfold unP at h
  split at h
  · unfold VR at hx; subst hx; simp at h; subst h
    refine ⟨_, ?_, by unfold VR; rfl⟩; simp [Op.unary, Op.intArith]
  · unfold VR at hx; subst hx
    rename_i k n
    cases hb : bitsI .xor k (if k.signed then -1 else k.max) n with
    | none => simp [hb] at h
    | some m => simp [hb] at h; subst h; refine ⟨_, ?_, by unfold VR; rfl⟩; simp only [Op.unary]; exact bitsI_ok hb
  · unfold VR at hx; subst hx; simp at h; subst h
    refine ⟨_, ?_, by unfold VR; rfl⟩; simp [Op.unary]
  · simp at h

end Go.A3
