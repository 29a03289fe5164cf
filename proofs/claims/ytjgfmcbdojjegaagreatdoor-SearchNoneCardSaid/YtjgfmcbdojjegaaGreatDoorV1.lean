/-
  Small trees, told by numbers: for runs that are reckoned out. What is laid into them is reckoned out first ('K': what goes on).
-/
namespace Go.A3

inductive Tr (α : Type) where
  | leaf
  | node (l : Tr α) (v : Option α) (r : Tr α)

def Tr.get {α : Type} : Tr α → Nat → Option α
  | .leaf, _ => none
  | .node l v r, n => bif Nat.beq n 0 then v else bif Nat.beq (n % 2) 1 then l.get (n / 2) else r.get (n / 2 - 1)

theorem cond_beq {α : Type} (n m : Nat) (a b : α) : (bif Nat.beq n m then a else b) = if n = m then a else b := by
  by_cases h : n = m
  · subst h; simp
  · rw [if_neg h]
    have : Nat.beq n m = false := by
      cases hq : Nat.beq n m with
      | false => rfl
      | true => exact absurd (Nat.eq_of_beq_eq_true hq) h
    rw [this]; rfl

theorem Tr.get_leaf {α : Type} (n : Nat) : (Tr.leaf : Tr α).get n = none := rfl
theorem Tr.get_node {α : Type} (l r : Tr α) (v : Option α) (n : Nat) : (Tr.node l v r).get n = if n = 0 then v else if n % 2 = 1 then l.get (n / 2) else r.get (n / 2 - 1) := by
  simp only [Tr.get, cond_beq]

def Tr.setF {α : Type} : Nat → Nat → Option α → Tr α → Tr α
  | 0, _, _, t => t
  | f + 1, n, v, .leaf => if n = 0 then .node .leaf v .leaf else if n % 2 = 1 then .node (setF f (n / 2) v .leaf) none .leaf else .node .leaf none (setF f (n / 2 - 1) v .leaf)
  | f + 1, n, v, .node l o r => if n = 0 then .node l v r else if n % 2 = 1 then .node (setF f (n / 2) v l) o r else .node l o (setF f (n / 2 - 1) v r)

def Tr.set {α : Type} (t : Tr α) (n : Nat) (v : Option α) : Tr α := Tr.setF (n + 1) n v t

theorem Tr.get_setF {α : Type} : ∀ (f n m : Nat) (v : Option α) (t : Tr α), n < f → (Tr.setF f n v t).get m = if m = n then v else t.get m := by
  intro f
  induction f with
  | zero => intro n m v t h; omega
  | succ f ih =>
    intro n m v t h
    cases t with
    | leaf =>
      unfold Tr.setF
      by_cases h0 : n = 0
      · rw [if_pos h0]
        by_cases hm : m = n
        · simp [Tr.get_node, hm, h0]
        · have : m ≠ 0 := by omega
          simp [Tr.get_node, Tr.get_leaf, hm, this]
      · rw [if_neg h0]
        by_cases h1 : n % 2 = 1
        · rw [if_pos h1]
          rw [Tr.get_node]
          by_cases hm : m = 0
          · have : m ≠ n := by omega
            simp [hm, Ne.symm h0, Tr.get_leaf]
          · rw [if_neg hm]
            by_cases hm1 : m % 2 = 1
            · rw [if_pos hm1, ih _ _ _ _ (by omega)]
              by_cases q : m = n
              · simp [q]
              · have : m / 2 ≠ n / 2 := by omega
                rw [if_neg this, if_neg q]; rfl
            · rw [if_neg hm1]
              have : m ≠ n := by omega
              rw [if_neg this]; rfl
        · rw [if_neg h1]
          rw [Tr.get_node]
          by_cases hm : m = 0
          · have : m ≠ n := by omega
            simp [hm, Ne.symm h0, Tr.get_leaf]
          · rw [if_neg hm]
            by_cases hm1 : m % 2 = 1
            · rw [if_pos hm1]
              have : m ≠ n := by omega
              rw [if_neg this]; rfl
            · rw [if_neg hm1, ih _ _ _ _ (by omega)]
              by_cases q : m = n
              · simp [q]
              · have : m / 2 - 1 ≠ n / 2 - 1 := by omega
                rw [if_neg this, if_neg q]; rfl
    | node l o r =>
      unfold Tr.setF
      by_cases h0 : n = 0
      · rw [if_pos h0]
        rw [Tr.get_node, Tr.get_node]
        by_cases hm : m = n
        · simp [hm, h0]
        · have : m ≠ 0 := by omega
          simp [hm, this]
      · rw [if_neg h0]
        by_cases h1 : n % 2 = 1
        · rw [if_pos h1]
          rw [Tr.get_node, Tr.get_node]
          by_cases hm : m = 0
          · have : m ≠ n := by omega
            simp [hm, Ne.symm h0]
          · rw [if_neg hm, if_neg hm]
            by_cases hm1 : m % 2 = 1
            · rw [if_pos hm1, if_pos hm1, ih _ _ _ _ (by omega)]
              by_cases q : m = n
              · simp [q]
              · have : m / 2 ≠ n / 2 := by omega
                rw [if_neg this, if_neg q]
            · rw [if_neg hm1, if_neg hm1]
              have : m ≠ n := by omega
              rw [if_neg this]
        · rw [if_neg h1]
          rw [Tr.get_node, Tr.get_node]
          by_cases hm : m = 0
          · have : m ≠ n := by omega
            simp [hm, Ne.symm h0]
          · rw [if_neg hm, if_neg hm]
            by_cases hm1 : m % 2 = 1
            · rw [if_pos hm1, if_pos hm1]
              have : m ≠ n := by omega
              rw [if_neg this]
            · rw [if_neg hm1, if_neg hm1, ih _ _ _ _ (by omega)]
              by_cases q : m = n
              · simp [q]
              · have : m / 2 - 1 ≠ n / 2 - 1 := by omega
                rw [if_neg this, if_neg q]

@[simp] theorem Tr.get_set {α : Type} (t : Tr α) (n m : Nat) (v : Option α) : (t.set n v).get m = if m = n then v else t.get m := Tr.get_setF _ _ _ _ _ (by omega)

/-- A number, reckoned out. -/
def natK {β : Type} (n : Nat) (k : Nat → β) : β :=
  match n with
  | 0 => k 0
  | m + 1 => k (m + 1)

theorem natK_eq {β : Type} (n : Nat) (k : Nat → β) : natK n k = k n := by cases n <;> rfl

def Tr.setK {α β : Type} : Nat → Nat → Option α → Tr α → (Tr α → β) → β
  | 0, _, _, t, k => k t
  | f + 1, n, v, .leaf, k => bif Nat.beq n 0 then k (.node .leaf v .leaf)
    else bif Nat.beq (n % 2) 1 then natK (n / 2) fun m => setK f m v .leaf fun t => k (.node t none .leaf)
    else natK (n / 2 - 1) fun m => setK f m v .leaf fun t => k (.node .leaf none t)
  | f + 1, n, v, .node l o r, k => bif Nat.beq n 0 then k (.node l v r)
    else bif Nat.beq (n % 2) 1 then natK (n / 2) fun m => setK f m v l fun t => k (.node t o r)
    else natK (n / 2 - 1) fun m => setK f m v r fun t => k (.node l o t)

theorem Tr.setK_eq {α β : Type} : ∀ (f n : Nat) (v : Option α) (t : Tr α) (k : Tr α → β), Tr.setK f n v t k = k (Tr.setF f n v t) := by
  intro f
  induction f with
  | zero => intro n v t k; rfl
  | succ f ih =>
    intro n v t k
    cases t <;> simp only [Tr.setK, Tr.setF, natK_eq, cond_beq, ih] <;> ((repeat' split) <;> rfl)

end Go.A3
