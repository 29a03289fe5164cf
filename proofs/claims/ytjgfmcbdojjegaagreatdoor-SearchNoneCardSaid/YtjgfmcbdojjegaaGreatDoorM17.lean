/-
  The abstract machine is sound: regions whose order is fixed.
-/
import Derived.Test.YtjgfmcbdojjegaaGreatDoorM16
import Derived.Scope
namespace Go.A3

/-- From one state to a later one: what is new lies at ids from m on. -/
structure Reg (m : Nat) (g : Gs) (H : Heap) (g' : Gs) (H' : Heap) : Prop where
  stp : Stp g H g' H'
  new : New m g H g' H'

theorem Reg.refl (m : Nat) (g : Gs) (H : Heap) : Reg m g H g H := ⟨Stp.refl g H, New.refl m g H⟩
theorem Reg.trans {m m' : Nat} {g H g' H' g'' H''} (h : Reg m g H g' H') (h' : Reg m' g' H' g'' H'') (hm : m ≤ m') : Reg m g H g'' H'' := ⟨h.stp.trans h'.stp, h.new.trans h'.new hm⟩

theorem Went.reg {m b base : Nat} {g H g' H'} (h : Went m b g H g' H') (h1 : base ≤ b) (h2 : base ≤ m) : Reg base g H g' H' :=
  ⟨h.stp, ⟨fun id hi hk => h.K id (by omega) (by omega) hk, fun id hi h0 => h.bl id (by omega) (by omega) h0, h.next⟩⟩

/-- The ids of what is still to be made are free. -/
structure Free (base : Nat) (todo : Nat → Prop) (n : Nat) (g : Gs) (H : Heap) : Prop where
  K : ∀ j, todo j → j < n → ¬ g.K (base + j)
  bl : ∀ j, todo j → j < n → H.bl (base + j) = none
  next : base + n ≤ H.next

theorem Free.step {base n i : Nat} {todo todo' : Nat → Prop} {g H g' H'} (h : Free base todo n g H) (hw : Went H.next (base + i) g H g' H') (ht : ∀ j, todo' j → todo j ∧ j ≠ i) : Free base todo' n g' H' :=
  ⟨fun j hj hn hk => h.K j (ht j hj).1 hn (hw.K _ (by have := h.next; omega) (by have := (ht j hj).2; omega) hk),
   fun j hj hn => hw.bl _ (by have := h.next; omega) (by have := (ht j hj).2; omega) (h.bl j (ht j hj).1 hn),
   Nat.le_trans h.next hw.next⟩

theorem WL_ok {X : Cx} {n : Nat} {mu : Bool} {free : Nat → Bool} {ops : Array Oper} (hok : ∀ o ∈ ops.toList, okOper X n o = true) {base : Lw} {Q : Env → Heap → Prop} {Q' : Exit → Act → World → Prop} :
    ∀ (T : List Oper) (i : Nat), ops.toList.drop i = T → ∀ (g : Gs) (e : Env) (H : Heap) (a : Act), Rel X n g e H a → Free base.b (fun j => i ≤ j) ops.size g H →
      WL X mu free ops.toList base Q T i e H → (∀ g' e' H' a', Rel X n g' e' H' a' → Reg base.b g H g' H' → Q e' H' → Q' .normal a' g'.w) → wpOps X.P ops Q' (List.range' i T.length) a g.w
  | [], i, hd, g, e, H, a, hr, hf, h, hq => hq g e H a hr (Reg.refl _ _ _) h
  | o :: T, i, hd, g, e, H, a, hr, hf, h, hq => by
    have ho : ops[i]? = some o := by
      have : (ops.toList.drop i)[0]? = some o := by rw [hd]; rfl
      rw [List.getElem?_drop] at this
      simpa using this
    have hi : i < ops.size := (Array.getElem?_eq_some_iff.1 ho).1
    have hT : ops.toList.drop (i + 1) = T := by
      rw [← List.drop_drop, hd]; rfl
    show wpOps X.P ops Q' (i :: List.range' (i + 1) T.length) a g.w
    rw [wpOps_cons]
    refine step_ok hr ho (hok o (by simpa using Array.mem_of_getElem? ho)) (hf.K i (Nat.le_refl _) hi) (hf.bl i (Nat.le_refl _) hi) (by have := hf.next; omega) h fun g' e' H' a' hr' hw hK => ?_
    refine WL_ok hok T (i + 1) hT g' e' H' a' hr' (hf.step hw fun j hj => ⟨by omega, by omega⟩) hK fun g'' e'' H'' a'' hr'' hreg hQ => hq g'' e'' H'' a'' hr'' ?_ hQ
    exact (hw.reg (by omega) (by have := hf.next; omega)).trans hreg (Nat.le_refl _)

theorem SR.bump {X : Cx} {g : Gs} {H : Heap} (hs : SR X g H) {m : Nat} (hm : H.next ≤ m) : SR X g (H.bump m) :=
  ⟨fun id hk => Nat.lt_of_lt_of_le (hs.nx id hk) hm, hs.live, hs.blk, hs.inj, hs.apart, hs.old, hs.glob⟩

theorem Stp.bump (g : Gs) (H : Heap) (m : Nat) : Stp g H g (H.bump m) := ⟨Ext.refl g, fun _ _ _ => rfl, Nat.le_refl _, fun id h => .inl ⟨id, h, rfl⟩, fun _ _ h => .inl h, ⟨rfl, rfl⟩⟩

theorem Free.bump {X : Cx} {g : Gs} {H : Heap} (hs : SR X g H) (n : Nat) (todo : Nat → Prop) : Free H.next todo n g (H.bump (H.next + n)) :=
  ⟨fun j _ _ hk => by have := hs.nx _ hk; omega, fun j _ _ => by
    cases h : H.bl (H.next + j) with
    | none => exact h
    | some b => have := hs.nx _ (hs.live _ (by rw [h]; simp)); omega, Nat.le_refl _⟩

/-- A region whose order is fixed. -/
theorem region_ok {X : Cx} {n : Nat} {mu : Bool} {free : Nat → Bool} {ops : Array Oper} (hok : ∀ o ∈ ops.toList, okOper X n o = true) {g : Gs} {e : Env} {H : Heap} {a : Act} (hr : Rel X n g e H a) {Q : Env → Heap → Prop} {Q' : Exit → Act → World → Prop} {id : Nat}
    (h : WL X mu free ops.toList (Lw.all H.next) Q ops.toList 0 e (H.bump (H.next + ops.size)))
    (hq : ∀ g' e' H' a', Rel X n g' e' H' a' → Reg H.next g H g' H' → Q e' H' → Q' .normal a' g'.w) : (Code.region id ops false).wp X.P Q' a g.w := by
  refine wp_region ?_
  have := WL_ok hok (Q' := Q') ops.toList 0 (by simp) g e (H.bump (H.next + ops.size)) a ⟨hr.sr.bump (by omega), hr.env, hr.defers, hr.size⟩ (Free.bump hr.sr ops.size _) h
    (fun g' e' H' a' hr' hreg hQ => hq g' e' H' a' hr' ⟨(Stp.bump g H _).trans hreg.stp, ⟨hreg.new.K, hreg.new.bl, Nat.le_trans (by simp) hreg.new.next⟩⟩ hQ)
  simpa [List.range_eq_range'] using this

end Go.A3
