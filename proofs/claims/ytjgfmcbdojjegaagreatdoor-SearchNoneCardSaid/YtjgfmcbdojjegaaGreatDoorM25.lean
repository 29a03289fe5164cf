/-
  The abstract machine: what code comes to; and that it is sound.
-/
import Derived.Test.YtjgfmcbdojjegaaGreatDoorM24
import Derived.Scope
namespace Go.A3

variable {X : Cx} {mu : Bool} {n : Nat}

/-- Nothing runs, but one looks at things anew: what was mutable is frozen, what is not needed any more is let go. -/
def Ghost (X : Cx) (n : Nat) (e : Env) (H : Heap) (e' : Env) (H' : Heap) : Prop :=
  ∀ g a, Rel X n g e H a → ∃ g', g'.w = g.w ∧ Rel X n g' e' H' a ∧ Reg H.next g H g' H'

theorem Ghost.refl (e : Env) (H : Heap) : Ghost X n e H e H := fun g _ h => ⟨g, rfl, h, Reg.refl _ _ _⟩

theorem Ghost.next {e : Env} {H : Heap} {e' : Env} {H' : Heap} (h : Ghost X n e H e' H') {g : Gs} {a : Act} (hr : Rel X n g e H a) : H.next ≤ H'.next := by
  obtain ⟨g', _, _, h3⟩ := h g a hr
  exact h3.new.next

theorem Ghost.trans {e : Env} {H : Heap} {e' : Env} {H' : Heap} {e'' : Env} {H'' : Heap} (h : Ghost X n e H e' H') (h' : Ghost X n e' H' e'' H'') : Ghost X n e H e'' H'' := fun g a hr => by
  obtain ⟨g1, h1, h2, h3⟩ := h g a hr
  obtain ⟨g2, k1, k2, k3⟩ := h' g1 a h2
  exact ⟨g2, k1.trans h1, k2, h3.trans k3 h3.new.next⟩

/-- What code comes to. -/
def W (X : Cx) (mu : Bool) (n : Nat) : Code → (Xt → Env → Heap → Prop) → Env → Heap → Prop
  | .skip, Q, e, H | .label _, Q, e, H => Q .normal e H
  | .region _ ops d, Q, e, H =>
    if d then ∃ l U, ∃ hU : (∀ id, U id → id < H.next), okDraw X mu ops.toList l = true ∧ WI X mu (freeOf mu ops.toList) ops.toList ⟨H.next, U, hU⟩ (Q .normal) l e (H.bump (H.next + ops.size))
    else WL X mu (fun _ => true) ops.toList (Lw.all H.next) (Q .normal) ops.toList 0 e (H.bump (H.next + ops.size))
  | .seq a b, Q, e, H => W X mu n a (fun x e H => match x with | .normal => W X mu n b Q e H | x => Q x e H) e H
  | .cond c a b, Q, e, H => match X.ev e c with
    | .bool t => if t then W X mu n a Q e H else W X mu n b Q e H
    | _ => False
  | .block id c, Q, e, H => W X mu n c (fun x e H => match x with | .exit j => if j = id then Q .normal e H else Q (.exit j) e H | x => Q x e H) e H
  | .loop c, Q, e, H => ∃ (I : Env → Heap → Prop) (μ : Env → Heap → Nat), (∃ e0 H0, Ghost X n e H e0 H0 ∧ I e0 H0) ∧
      ∀ e H, I e H → W X mu n c (fun x e' H' => match x with | .normal => ∃ e2 H2, Ghost X n e' H' e2 H2 ∧ I e2 H2 ∧ μ e2 H2 < μ e H | x => Q x e' H') e H
  | .exit id, Q, e, H => Q (.exit id) e H
  | .ret, Q, e, H => Q .ret e H
  | .scope c, Q, e, H => W X mu n c Q e H
  | _, _, _, _ => False

/-- Can the code be told? -/
def okCode (X : Cx) (n : Nat) : Code → Bool
  | .skip | .label _ | .exit _ | .ret => true
  | .region _ ops _ => ops.toList.all (okOper X n)
  | .seq a b => okCode X n a && okCode X n b
  | .cond c a b => X.okO c && (okCode X n a && okCode X n b)
  | .block _ c | .loop c | .scope c => okCode X n c
  | _ => false

def Xt.out : Xt → Exit
  | .normal => .normal
  | .exit id => .exit id
  | .ret => .ret

theorem least {p : Nat → Prop} : ∀ n, p n → ∃ m, p m ∧ ∀ k, p k → m ≤ k := by
  intro n
  induction n using Nat.strongRecOn with
  | _ n ih =>
    intro hp
    by_cases q : ∃ k, k < n ∧ p k
    · obtain ⟨k, hk, hpk⟩ := q
      exact ih k hk hpk
    · exact ⟨n, hp, fun k hk => Nat.le_of_not_lt fun h => q ⟨k, h, hk⟩⟩

/-- A loop, its states told by something of one's own. -/
theorem wp_loop_rel {P : Program} {ι : Type} {Q : Exit → Act → World → Prop} {c : Code} (I : ι → Act → World → Prop) (μ : ι → Nat) {i : ι} {a : Act} {w : World} (h0 : I i a w)
    (round : ∀ i a w, I i a w → c.wp P (Exit.then (fun a' w' => ∃ j, I j a' w' ∧ μ j < μ i) Q) a w) : (Code.loop c).wp P Q a w := by
  have key : ∀ a w, (∃ i, I i a w) → ∃ m, (∃ i, I i a w ∧ μ i = m) ∧ ∀ k, (∃ i, I i a w ∧ μ i = k) → m ≤ k := by
    rintro a w ⟨i, hi⟩
    exact least (p := fun m => ∃ i, I i a w ∧ μ i = m) (μ i) ⟨i, hi, rfl⟩
  classical
  let ν : Act → World → Nat := fun a w => if h : ∃ i, I i a w then Classical.choose (key a w h) else 0
  have hν : ∀ a w (h : ∃ i, I i a w), (∃ i, I i a w ∧ μ i = ν a w) ∧ ∀ k, (∃ i, I i a w ∧ μ i = k) → ν a w ≤ k := by
    intro a w h
    have := Classical.choose_spec (key a w h)
    simpa only [ν, dif_pos h] using this
  refine wp_loop (fun a w => ∃ i, I i a w) ν ⟨i, h0⟩ fun a w hi => ?_
  obtain ⟨⟨j, hj, hjm⟩, _⟩ := hν a w hi
  refine wp_mono (round j a w hj) ?_
  intro x a' w' hx
  cases x with
  | normal =>
    obtain ⟨k, hk, hlt⟩ := hx
    refine ⟨⟨k, hk⟩, ?_⟩
    have := (hν a' w' ⟨k, hk⟩).2 (μ k) ⟨k, hk, rfl⟩
    omega
  | _ => exact hx

/-- **What the machine says of code holds of it.** -/
theorem W_ok (hm : X.P.follows .mixedOrders = true) : ∀ (c : Code), okCode X n c = true → ∀ (Q : Xt → Env → Heap → Prop) (Q' : Exit → Act → World → Prop) (g : Gs) (e : Env) (H : Heap) (a : Act), Rel X n g e H a → W X mu n c Q e H →
    (∀ x g' e' H' a', Rel X n g' e' H' a' → Reg H.next g H g' H' → Q x e' H' → Q' x.out a' g'.w) → c.wp X.P Q' a g.w := by
  intro c
  induction c with
  | skip => intro _ Q Q' g e H a hr h hq; exact wp_skip (hq .normal g e H a hr (Reg.refl _ _ _) h)
  | label l => intro _ Q Q' g e H a hr h hq; exact wp_label (hq .normal g e H a hr (Reg.refl _ _ _) h)
  | exit id => intro _ Q Q' g e H a hr h hq; exact wp_exit (hq (.exit id) g e H a hr (Reg.refl _ _ _) h)
  | ret => intro _ Q Q' g e H a hr h hq; exact wp_ret (hq .ret g e H a hr (Reg.refl _ _ _) h)
  | region id ops d =>
    intro hok Q Q' g e H a hr h hq
    have hok' : ∀ o ∈ ops.toList, okOper X n o = true := List.all_eq_true.1 hok
    cases d with
    | true =>
      unfold W at h
      simp only [if_true] at h
      obtain ⟨l, U, hU, h1, h2⟩ := h
      exact region_draw hm hok' hr hU h1 h2 fun g' e' H' a' k1 k2 k3 => hq .normal g' e' H' a' k1 k2 k3
    | false =>
      unfold W at h
      exact region_ok hok' hr (by simpa using h) fun g' e' H' a' k1 k2 k3 => hq .normal g' e' H' a' k1 k2 k3
  | seq x y ihx ihy =>
    intro hok Q Q' g e H a hr h hq
    unfold okCode at hok
    simp only [Bool.and_eq_true] at hok
    unfold W at h
    refine wp_seq (ihx hok.1 _ _ g e H a hr h ?_)
    intro x g' e' H' a' k1 k2 k3
    cases x with
    | normal => exact ihy hok.2 Q Q' g' e' H' a' k1 k3 fun x g'' e'' H'' a'' m1 m2 m3 => hq x g'' e'' H'' a'' m1 (k2.trans m2 k2.new.next) m3
    | exit j => exact hq (.exit j) g' e' H' a' k1 k2 k3
    | ret => exact hq .ret g' e' H' a' k1 k2 k3
  | cond c x y ihx ihy =>
    intro hok Q Q' g e H a hr h hq
    unfold okCode at hok
    simp only [Bool.and_eq_true] at hok
    unfold W at h
    have hv := ev_ok hr.sr hr.env hok.1
    split at h
    · rename_i t ht
      rw [ht] at hv
      unfold VR at hv
      refine wp_cond hv ?_
      cases t with
      | true => simp only [if_true] at h ⊢; exact ihx hok.2.1 Q Q' g e H a hr h hq
      | false => simp only [Bool.false_eq_true, if_false] at h ⊢; exact ihy hok.2.2 Q Q' g e H a hr h hq
    · exact h.elim
  | block id c ih =>
    intro hok Q Q' g e H a hr h hq
    unfold W at h
    refine wp_block (ih (by simpa [okCode] using hok) _ _ g e H a hr h ?_)
    intro x g' e' H' a' k1 k2 k3
    cases x with
    | normal => exact hq .normal g' e' H' a' k1 k2 k3
    | exit j =>
      simp only [Xt.out, Exit.inBlock]
      simp only [] at k3
      split at k3
      · rename_i q; rw [if_pos q]; exact hq .normal g' e' H' a' k1 k2 k3
      · rename_i q; rw [if_neg q]; exact hq (.exit j) g' e' H' a' k1 k2 k3
    | ret => exact hq .ret g' e' H' a' k1 k2 k3
  | loop c ih =>
    intro hok Q Q' g e H a hr h hq
    unfold W at h
    obtain ⟨I, μ, ⟨e0, H0, hg, hI⟩, hround⟩ := h
    obtain ⟨g0, w0, r0, s0⟩ := hg g a hr
    refine wp_loop_rel (ι := Gs × Env × Heap) (fun s a w => w = s.1.w ∧ Rel X n s.1 s.2.1 s.2.2 a ∧ I s.2.1 s.2.2 ∧ Reg H.next g H s.1 s.2.2) (fun s => μ s.2.1 s.2.2) (i := (g0, e0, H0)) ⟨w0.symm, r0, hI, s0⟩ ?_
    rintro ⟨g1, e1, H1⟩ a1 w1 ⟨rfl, r1, i1, s1⟩
    refine ih (by simpa [okCode] using hok) _ _ g1 e1 H1 a1 r1 (hround e1 H1 i1) ?_
    intro x g' e' H' a' k1 k2 k3
    cases x with
    | normal =>
      obtain ⟨e2, H2, q1, q2, q3⟩ := k3
      obtain ⟨g2, w2, r2, s2⟩ := q1 g' a' k1
      exact ⟨(g2, e2, H2), ⟨w2.symm, r2, q2, (s1.trans k2 s1.new.next).trans s2 (Nat.le_trans s1.new.next k2.new.next)⟩, q3⟩
    | exit j => exact hq (.exit j) g' e' H' a' k1 (s1.trans k2 s1.new.next) k3
    | ret => exact hq .ret g' e' H' a' k1 (s1.trans k2 s1.new.next) k3
  | scope c ih =>
    intro hok Q Q' g e H a hr h hq
    unfold W at h
    refine wp_scope_straight (ih (by simpa [okCode] using hok) Q _ g e H a hr h ?_)
    intro x g' e' H' a' k1 k2 k3
    cases x with
    | normal => exact hq .normal g' e' H' a' k1 k2 k3
    | exit j => exact hq (.exit j) g' e' H' a' k1 k2 k3
    | ret => exact hq .ret g' e' H' a' k1 k2 k3
  | _ => intro hok; simp [okCode] at hok

end Go.A3
