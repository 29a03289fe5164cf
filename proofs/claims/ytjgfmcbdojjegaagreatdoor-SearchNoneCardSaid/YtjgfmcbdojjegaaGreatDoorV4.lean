/-
  Orders of a region's operations, checked fast: what must come ahead of what, as bits of numbers.
-/
import Derived.Test.YtjgfmcbdojjegaaGreatDoorM27
namespace Go.A3

/-- Which operations come directly, or by those that are known, ahead of each one. -/
def lev1 (prev : List Nat) (o : Oper) : Nat := o.after.toList.foldl (fun m d => bif Region.binds .any d then m ||| ((1 <<< d.on) ||| prev.getD d.on 0) else m) 0
def lev (ops : List Oper) (prev : List Nat) : List Nat := ops.map (lev1 prev)

def levs (ops : List Oper) : Nat → List Nat
  | 0 => ops.map fun _ => 0
  | n + 1 => lev ops (levs ops n)

def levF (ops : List Oper) : Nat → List Nat → List Nat
  | 0, m => m
  | n + 1, m => let m' := lev ops m; bif m' == m then m else levF ops n m'

theorem levs_fix {ops : List Oper} {k : Nat} (h : lev ops (levs ops k) = levs ops k) : ∀ n, levs ops (k + n) = levs ops k
  | 0 => rfl
  | n + 1 => by
    show lev ops (levs ops (k + n)) = _
    rw [levs_fix h n, h]

theorem levF_eq {ops : List Oper} : ∀ n k, levF ops n (levs ops k) = levs ops (k + n)
  | 0, k => rfl
  | n + 1, k => by
    unfold levF
    simp only []
    cases h : (lev ops (levs ops k) == levs ops k) with
    | true =>
      simp only [cond_true]
      exact (levs_fix (eq_of_beq h) (n + 1)).symm
    | false =>
      simp only [cond_false]
      have := levF_eq (ops := ops) n (k + 1)
      rw [show k + (n + 1) = k + 1 + n by omega, ← this]
      rfl

theorem one_bit (n x : Nat) : Nat.testBit (1 <<< n) x = decide (n = x) := by
  rw [Nat.shiftLeft_eq, Nat.one_mul, Nat.testBit_two_pow]

theorem foldl_bits (prev : List Nat) (x : Nat) : ∀ (l : List Edge) (m : Nat), Nat.testBit (l.foldl (fun m d => bif Region.binds .any d then m ||| ((1 <<< d.on) ||| prev.getD d.on 0) else m) m) x = true ↔
    Nat.testBit m x = true ∨ ∃ d ∈ l, Region.binds .any d = true ∧ (d.on = x ∨ Nat.testBit (prev.getD d.on 0) x = true)
  | [], m => by simp
  | d :: l, m => by
    rw [List.foldl_cons, foldl_bits prev x l]
    cases hb : Region.binds .any d with
    | true =>
      simp only [cond_true, Nat.testBit_or, Bool.or_eq_true, one_bit, decide_eq_true_eq, List.mem_cons, exists_eq_or_imp, hb, true_and]
      constructor
      · rintro ((h | h) | h)
        · exact .inl h
        · exact .inr (.inl h)
        · exact .inr (.inr h)
      · rintro (h | h | h)
        · exact .inl (.inl h)
        · exact .inl (.inr h)
        · exact .inr h
    | false =>
      simp only [cond_false, List.mem_cons, exists_eq_or_imp, hb]
      simp

theorem ancs_bits {ops : List Oper} : ∀ (n i x : Nat), x ∈ ancs ops n i ↔ Nat.testBit ((levs ops n).getD i 0) x = true
  | 0, i, x => by
    have : (levs ops 0).getD i 0 = 0 := by
      simp only [levs, List.getD_eq_getElem?_getD, List.getElem?_map]
      cases ops[i]? <;> rfl
    rw [this]
    simp [ancs]
  | n + 1, i, x => by
    unfold ancs
    simp only [levs, lev, List.getD_eq_getElem?_getD, List.getElem?_map]
    cases ho : ops[i]? with
    | none => simp
    | some o =>
      simp only [Option.map_some, Option.getD_some, lev1]
      rw [foldl_bits]
      simp only [List.mem_flatMap, Nat.zero_testBit, Bool.false_eq_true, false_or]
      constructor
      · rintro ⟨d, h1, h2⟩
        split at h2
        · rename_i hb
          refine ⟨d, h1, hb, ?_⟩
          rcases List.mem_cons.1 h2 with h | h
          · exact .inl h.symm
          · exact .inr (by have := (ancs_bits n d.on x).1 h; simpa [List.getD_eq_getElem?_getD] using this)
        · simp at h2
      · rintro ⟨d, h1, hb, h2⟩
        refine ⟨d, h1, ?_⟩
        rw [if_pos hb]
        rcases h2 with h | h
        · exact List.mem_cons.2 (.inl h.symm)
        · exact List.mem_cons.2 (.inr ((ancs_bits n d.on x).2 (by simpa [List.getD_eq_getElem?_getD] using h)))

def masks (ops : List Oper) : List Nat := levF ops ops.length (ops.map fun _ => 0)

theorem masks_eq (ops : List Oper) : masks ops = levs ops ops.length := by
  have := levF_eq (ops := ops) ops.length 0
  simpa [masks, levs] using this

/-- Must j come ahead of i? -/
def ancB (ms : List Nat) (i j : Nat) : Bool := Nat.testBit (ms.getD i 0) j

theorem ancB_eq (ops : List Oper) (i j : Nat) : ancB (masks ops) i j = (ancs ops ops.length i).contains j := by
  rw [Bool.eq_iff_iff, List.contains_iff_mem, ancs_bits, ← masks_eq]
  rfl

def okOrderF (X : Cx) (mu : Bool) (ops : List Oper) (ms : List Nat) : List Nat → Bool
  | [] => true
  | j :: T => okOrderF X mu ops ms T && T.all fun i => i != j && !(ancB ms j i) &&
      (ancB ms i j || (match ops[i]?, ops[j]? with
        | some oi, some oj => apartA ops oj oi && kOk X mu oi oj
        | _, _ => false))

theorem okOrderF_eq (X : Cx) (mu : Bool) (ops : List Oper) : ∀ l, okOrderF X mu ops (masks ops) l = okOrder X mu ops l
  | [] => rfl
  | j :: T => by
    unfold okOrderF okOrder
    rw [okOrderF_eq X mu ops T]
    simp only [ancB_eq]
    rfl

def besideF (ms : List Nat) (i j : Nat) : Bool := i != j && !(ancB ms i j) && !(ancB ms j i)

def freeF (mu : Bool) (ops : List Oper) (ms : List Nat) (i : Nat) : Bool :=
  match (ops[i]?).map fun o => sortOf mu o.op with
  | some .pure | some .make | none => true
  | some .load => (List.range ops.length).all fun j => !(besideF ms i j) || (match (ops[j]?).map fun o => sortOf mu o.op with | some .pure | some .load | none => true | _ => false)
  | some .app => (List.range ops.length).all fun j => !(besideF ms i j) || (match (ops[j]?).map fun o => sortOf mu o.op with | some .load | some .make => false | _ => true)
  | _ => (List.range ops.length).all fun j => !(besideF ms i j) || (match (ops[j]?).map fun o => sortOf mu o.op with | some .load => false | _ => true)

theorem freeF_eq (mu : Bool) (ops : List Oper) (i : Nat) : freeF mu ops (masks ops) i = freeOf mu ops i := by
  have : ∀ j, besideF (masks ops) i j = beside ops i j := fun j => by simp only [besideF, beside, ancB_eq]
  unfold freeF freeOf
  simp only [this]
  rfl

/-- The order, and which of its operations meet no other one, are what they should be. -/
def okDrawF (X : Cx) (mu : Bool) (ops : List Oper) (ms : List Nat) (l : List (Nat × Bool)) : Bool :=
  okOrderF X mu ops ms (l.map (·.1)) && (l.map (·.1)).length == ops.length && (l.map (·.1)).all (fun i => decide (i < ops.length)) &&
    ((List.range ops.length).all fun i => match ops[i]? with
      | some o => o.after.toList.all fun d => !Region.binds .any d || (decide (d.on < ops.length) && d.on != i)
      | none => true) && l.all fun p => !p.2 || freeF mu ops ms p.1

theorem okDrawF_ok {X : Cx} {mu : Bool} {ops : List Oper} {l : List (Nat × Bool)} (h : okDrawF X mu ops (masks ops) l = true) : okDraw X mu ops (l.map (·.1)) = true ∧ (l.all fun p => !p.2 || freeOf mu ops p.1) = true := by
  unfold okDrawF at h
  rw [Bool.and_eq_true] at h
  simp only [okOrderF_eq, freeF_eq] at h
  exact h

end Go.A3
