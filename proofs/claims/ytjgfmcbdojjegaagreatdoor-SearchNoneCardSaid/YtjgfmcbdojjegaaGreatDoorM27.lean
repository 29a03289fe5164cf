/-
  The abstract machine: what was mutable is frozen, what is not needed any more is let go.
-/
import Derived.Test.YtjgfmcbdojjegaaGreatDoorM26
namespace Go.A3

variable {X : Cx}

theorem SR.drop {g : Gs} {H : Heap} (hs : SR X g H) (p : Nat → Bool) : SR X g ⟨H.next, fun id => if p id then none else H.bl id⟩ := by
  have up : ∀ id, (if p id then none else H.bl id) ≠ none → H.bl id ≠ none := by
    intro id h
    split at h
    · simp at h
    · exact h
  refine ⟨hs.nx, fun id h => hs.live id (up id h), fun id b h => ?_, fun i j hi hj => hs.inj i j (up i hi) (up j hj), fun id h => hs.apart id (up id h), hs.old, hs.glob⟩
  simp only [] at h
  split at h
  · simp at h
  · exact hs.blk id b h

theorem Reg.drop {g : Gs} {H : Heap} (p : Nat → Bool) : Reg H.next g H g ⟨H.next, fun id => if p id then none else H.bl id⟩ := by
  refine ⟨⟨Ext.refl g, fun _ _ _ => rfl, Nat.le_refl _, fun id h => .inl ⟨id, ?_, rfl⟩, fun _ _ h => .inl h, ⟨rfl, rfl⟩⟩, ⟨fun _ _ h => h, fun id _ h => ?_, Nat.le_refl _⟩⟩
  · simp only [] at h
    split at h
    · simp at h
    · exact h
  · simp only []
    split
    · rfl
    · exact h

/-- The heap without some of its blocks. -/
def Heap.less (H : Heap) (p : Nat → Bool) : Heap := ⟨H.next, fun id => if p id then none else H.bl id⟩

theorem Ghost.drop {n : Nat} (e : Env) (H : Heap) (p : Nat → Bool) : Ghost X n e H e (H.less p) := fun g _ hr =>
  ⟨g, rfl, ⟨hr.sr.drop p, hr.env, hr.defers, hr.size⟩, Reg.drop p⟩

theorem GhostV.drop (r : PV) (H : Heap) (p : Nat → Bool) : GhostV X r H r (H.less p) := fun g _ hs hv => ⟨g, rfl, hs.drop p, hv, Reg.drop p⟩

theorem GhostV.trans {r r' r'' : PV} {H H' H'' : Heap} (h : GhostV X r H r' H') (h' : GhostV X r' H' r'' H'') : GhostV X r H r'' H'' := fun g v hs hv => by
  obtain ⟨g1, h1, h2, h3, h4⟩ := h g v hs hv
  obtain ⟨g2, k1, k2, k3, k4⟩ := h' g1 v h2 h3
  exact ⟨g2, k1.trans h1, k2, k3, h4.trans k4 h4.new.next⟩

/-- A row's cells never change any more. -/
def Gs.freeze (g : Gs) (id : Nat) : Gs := { g with S := fun b o => g.S b o ∨ b = (g.σ id).b }

theorem Ext.freeze (g : Gs) (id : Nat) : Ext g (g.freeze id) := ⟨fun _ h => h, fun _ _ => rfl, fun _ _ h => .inl h, fun _ _ _ => rfl⟩

theorem SR.freeze {g : Gs} {H : Heap} (hs : SR X g H) {id : Nat} {k : Blk} (hb : H.bl id = some k) : SR X (g.freeze id) (H.set id none) := by
  have up : ∀ j, (H.set id none).bl j ≠ none → j ≠ id ∧ H.bl j ≠ none := by
    intro j h
    simp only [Heap.set_bl] at h
    split at h
    · simp at h
    · rename_i q; exact ⟨q, h⟩
  refine ⟨hs.nx, fun j h => hs.live j (up j h).2, fun j b h => ?_, fun i j hi hj => hs.inj i j (up i hi).2 (up j hj).2, fun j h o hS => ?_, fun b o hS => ?_, fun k e hk => (hs.glob k e hk).mono (Ext.freeze g id)⟩
  · have := up j (by rw [h]; simp)
    simp only [Heap.set_bl, if_neg this.1] at h
    exact (hs.blk j b h).mono (Ext.freeze g id) rfl
  · rcases hS with hS | hS
    · exact hs.apart j (up j h).2 o hS
    · exact (up j h).1 (hs.inj j id (up j h).2 (by rw [hb]; simp) hS)
  · rcases hS with hS | hS
    · exact hs.old b o hS
    · rw [hS]; exact (hs.blk id k hb).lt

theorem Reg.freeze {g : Gs} {H : Heap} {id : Nat} {k : Blk} (hb : H.bl id = some k) : Reg H.next g H (g.freeze id) (H.set id none) := by
  refine ⟨⟨Ext.freeze g id, fun _ _ _ => rfl, Nat.le_refl _, fun j h => .inl ⟨j, ?_, rfl⟩, fun b o hS => ?_, ⟨rfl, rfl⟩⟩, ⟨fun _ _ h => h, fun j _ h => ?_, Nat.le_refl _⟩⟩
  · simp only [Heap.set_bl] at h
    split at h
    · simp at h
    · exact h
  · rcases hS with hS | hS
    · exact .inl hS
    · exact .inr (.inl ⟨id, by rw [hb]; simp, hS.symm⟩)
  · simp only [Heap.set_bl]
    split
    · rfl
    · exact h

/-- A frozen row's elements lie there for ever. -/
theorem SR.lie {g : Gs} {H : Heap} (hs : SR X g H) {id i sz : Nat} {es : List PV} {e : PV} (hb : H.bl id = some (.row es sz)) (he : es[i]? = some e) :
    ∃ x, VR (g.freeze id) e x ∧ x.cells.size = sz ∧ Lie (g.freeze id) (g.σ id).b (i * (g.σ id).sz) x.cells.toList := by
  obtain ⟨x, h1, h2, h3⟩ := hs.elem hb he
  exact ⟨x, h1.mono (Ext.freeze g id), h2, fun j v hj => ⟨.inr rfl, h3 j v hj⟩⟩

theorem esr_of {g : Gs} {b sz : Nat} : ∀ (l : List PV) (p : Nat), (∀ j e, l[j]? = some e → ∃ x, VR g e x ∧ x.cells.size = sz ∧ Lie g b (p + j * sz) x.cells.toList) → ESR g l b p sz
  | [], _, _ => by unfold ESR; trivial
  | e :: l, p, h => by
    unfold ESR
    refine ⟨by simpa using h 0 e rfl, esr_of l (p + sz) fun j e' he => ?_⟩
    obtain ⟨x, h1, h2, h3⟩ := h (j + 1) e' (by simpa using he)
    refine ⟨x, h1, h2, ?_⟩
    have : p + sz + j * sz = p + (j + 1) * sz := by rw [Nat.add_mul]; omega
    rw [this]
    exact h3

/-- A frozen row's slices. -/
theorem SR.freeze_sl {g : Gs} {H : Heap} (hs : SR X g H) {id i n sz : Nat} {es : List PV} (hb : H.bl id = some (.row es sz)) (hi : i + n ≤ es.length) {v : Value} (hv : VR g (.sm id i n) v) :
    VR (g.freeze id) (.sl ((es.drop i).take n) false) v := by
  have hsz : (g.σ id).sz = sz := (hs.blk id _ hb).2.1
  unfold VR at hv ⊢
  obtain ⟨_, cap, h1, _, rfl⟩ := hv
  have hl : ((es.drop i).take n).length = n := by simp; omega
  refine ⟨(g.σ id).b, i * sz, cap, sz, by rw [hl, hsz], by omega, by simp, esr_of _ _ fun j e he => ?_⟩
  have hj : es[i + j]? = some e := by
    rw [List.getElem?_take] at he
    split at he
    · rw [List.getElem?_drop] at he; exact he
    · simp at he
  obtain ⟨x, h2, h3, h4⟩ := hs.lie hb hj
  refine ⟨x, h2, h3, ?_⟩
  rw [hsz, Nat.add_mul] at h4
  exact h4

/-- A pointer into a frozen row. -/
theorem SR.freeze_ptr {g : Gs} {H : Heap} (hs : SR X g H) {id i o sz : Nat} {es : List PV} {e : PV} (hb : H.bl id = some (.row es sz)) (he : es[i]? = some e) {v : Value} (hv : VR g (.ptr id i o) v) :
    VR (g.freeze id) (.ip e o) v := by
  unfold VR at hv ⊢
  obtain ⟨x, h2, h3, h4⟩ := hs.lie hb he
  exact ⟨(g.σ id).b, i * (g.σ id).sz, x, hv.2, h2, h4⟩

/-- A result that is a slice of a row made here is frozen. -/
theorem GhostV.sl {H : Heap} {id i n sz : Nat} {es : List PV} (hb : H.bl id = some (.row es sz)) (hi : i + n ≤ es.length) : GhostV X (.sm id i n) H (.sl ((es.drop i).take n) false) (H.set id none) :=
  fun g _ hs hv => ⟨g.freeze id, rfl, hs.freeze hb, hs.freeze_sl hb hi hv, Reg.freeze hb⟩

/-- Values are looked at anew, and what they lead to is frozen. r, H: the blocks that are still there. -/
inductive Thaw (X : Cx) : PV → PV → Nat → Heap → Prop where
  | same (x : PV) (id : Nat) (H : Heap) : Thaw X x x id H
  | sl (id i n sz : Nat) (es : List PV) (H : Heap) (hb : H.bl id = some (.row es sz)) (hi : i + n ≤ es.length) : Thaw X (.sm id i n) (.sl ((es.drop i).take n) false) id H
  | ptr (id i o sz : Nat) (es : List PV) (e : PV) (H : Heap) (hb : H.bl id = some (.row es sz)) (he : es[i]? = some e) : Thaw X (.ptr id i o) (.ip e o) id H

theorem Thaw.ok {x y : PV} {id : Nat} {H : Heap} (h : Thaw X x y id H) {g : Gs} (hs : SR X g H) {v : Value} (hv : VR g x v) : VR (g.freeze id) y v := by
  cases h with
  | same => exact hv.mono (Ext.freeze g id)
  | sl => exact hs.freeze_sl (by assumption) (by assumption) hv
  | ptr => exact hs.freeze_ptr (by assumption) (by assumption) hv

/-- A block is frozen. -/
theorem Ghost.freeze {n : Nat} {e e' : Env} {H : Heap} {id : Nat} {k : Blk} (hb : H.bl id = some k) (h : ∀ t, Thaw X (e t) (e' t) id H) : Ghost X n e H e' (H.set id none) := fun g _ hr =>
  ⟨g.freeze id, rfl, ⟨hr.sr.freeze hb, fun t => (h t).ok hr.sr (hr.env t), hr.defers, hr.size⟩, Reg.freeze hb⟩

/-- Parts of a result are frozen. -/
theorem GhostV.tup {xs ys : List PV} {H : Heap} {id : Nat} {k : Blk} (hb : H.bl id = some k) (hl : xs.length = ys.length) (h : ∀ (j : Nat) (x y : PV), xs[j]? = some x → ys[j]? = some y → Thaw X x y id H) :
    GhostV X (.tup xs) H (.tup ys) (H.set id none) := fun g v hs hv => by
  refine ⟨g.freeze id, rfl, hs.freeze hb, ?_, Reg.freeze hb⟩
  unfold VR at hv ⊢
  obtain ⟨a, rfl, hl'⟩ := hv
  refine ⟨a, rfl, LR.mk (by rw [hl'.length, hl]) fun j y w hy hw => ?_⟩
  have hlt : j < xs.length := by
    have := (List.getElem?_eq_some_iff.1 hy).1
    omega
  obtain ⟨w', h1, h2⟩ := hl'.get (List.getElem?_eq_getElem hlt)
  rw [h1] at hw
  obtain rfl := Option.some.inj hw
  exact (h j _ _ (List.getElem?_eq_getElem hlt) hy).ok hs h2

end Go.A3
