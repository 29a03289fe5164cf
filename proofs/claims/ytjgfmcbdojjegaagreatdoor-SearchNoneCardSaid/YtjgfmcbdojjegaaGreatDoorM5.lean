/-
  The abstract machine is sound: what a step does to the worlds in which a heap lies.
-/
import Derived.Test.YtjgfmcbdojjegaaGreatDoorM4
namespace Go.A3

theorem RowR.mono {g g' : Gs} (x : Ext g g') {es : List PV} {sz : Nat} {cs : Array Value} (h : RowR g es sz cs) : RowR g' es sz cs :=
  fun i e he => let ⟨v, h1, h2, h3⟩ := h i e he; ⟨v, h1.mono x, h2, h3⟩

theorem MapR.mono {g g' : Gs} (x : Ext g g') {es : List (PV × PV)} {ms : List MapEntry} (h : MapR g es ms) : MapR g' es ms :=
  ⟨h.1.mono x, h.2.mono x⟩

theorem BlkR.mono {g g' : Gs} (x : Ext g g') {pl : Pl} (hw : g'.w.heap[pl.b]? = g.w.heap[pl.b]?) {b : Blk} (h : BlkR g pl b) : BlkR g' pl b := by
  cases b with
  | row es sz =>
    obtain ⟨h1, h2, cs, ty, h3, h4, h5⟩ := h
    exact ⟨h1, h2, cs, ty, by rw [hw, h3], h4, h5.mono x⟩
  | map es =>
    obtain ⟨ms, cl, h1, h2⟩ := h
    exact ⟨ms, cl, by rw [hw, h1], h2.mono x⟩

theorem BlkR.lt {g : Gs} {pl : Pl} {b : Blk} (h : BlkR g pl b) : pl.b < g.w.heap.size := by
  cases b with
  | row es sz =>
    obtain ⟨_, _, cs, ty, h3, _⟩ := h
    exact (Array.getElem?_eq_some_iff.1 h3).1
  | map es =>
    obtain ⟨ms, cl, h1, _⟩ := h
    exact (Array.getElem?_eq_some_iff.1 h1).1

theorem SR.lt {X : Cx} {g : Gs} {H : Heap} (hs : SR X g H) {id : Nat} (h : H.bl id ≠ none) : (g.σ id).b < g.w.heap.size := by
  cases hb : H.bl id with
  | none => exact absurd hb h
  | some b => exact (hs.blk id b hb).lt

theorem cell?_of_heap {w w' : World} {b p : Nat} (h : w'.heap[b]? = w.heap[b]?) : w'.cell? ⟨b, p, none⟩ = w.cell? ⟨b, p, none⟩ := by
  simp [World.cell?, h]

/-- A world with the same memory. -/
theorem SR.same {X : Cx} {g : Gs} {H : Heap} (hs : SR X g H) {w' : World} (h : w'.heap = g.w.heap) (hio : w'.os = g.w.os ∧ w'.output = g.w.output) :
    SR X { g with w := w' } H ∧ Stp g H { g with w := w' } H := by
  have x : Ext g { g with w := w' } := ⟨fun _ h => h, fun _ _ => rfl, fun _ _ h => h, fun b p _ => cell?_of_heap (by simp [h])⟩
  refine ⟨⟨hs.nx, hs.live, fun id b hb => (hs.blk id b hb).mono x (by simp [h]), hs.inj, hs.apart, fun b o hS => ?_, fun k e hk => (hs.glob k e hk).mono x⟩,
    ⟨x, fun b _ _ => by simp [h], by simp [h], fun id hid => .inl ⟨id, hid, rfl⟩, fun _ _ h => .inl h, hio⟩⟩
  have := hs.old b o hS
  simpa [h] using this

/-- A block is made anew, or changed, or grows: at the id b, at the place pl. -/
def Gs.put (g : Gs) (b : Nat) (pl : Pl) (w' : World) : Gs := ⟨fun j => g.K j ∨ j = b, fun j => if j = b then pl else g.σ j, g.S, w'⟩

theorem SR.put {X : Cx} {g : Gs} {H : Heap} (hs : SR X g H) (b : Nat) (pl : Pl) (w' : World) (H' : Heap) (blk : Blk)
    (hb : H'.bl b = some blk) (hj : ∀ j, j ≠ b → H'.bl j = H.bl j ∨ H'.bl j = none)
    (hbn : b < H'.next) (hn : H.next ≤ H'.next)
    (hK : ¬ g.K b ∨ (g.K b ∧ pl = g.σ b))
    (hheap : ∀ k, k < g.w.heap.size → k ≠ pl.b → w'.heap[k]? = g.w.heap[k]?) (hsize : g.w.heap.size ≤ w'.heap.size) (hio : w'.os = g.w.os ∧ w'.output = g.w.output)
    (hpl : g.w.heap.size ≤ pl.b ∨ ∃ i, H.bl i ≠ none ∧ (g.σ i).b = pl.b ∧ (i = b ∨ H'.bl i = none))
    (hblk : Ext g (g.put b pl w') → BlkR (g.put b pl w') pl blk) :
    SR X (g.put b pl w') H' ∧ Stp g H (g.put b pl w') H' ∧ (∀ id, (g.put b pl w').K id → g.K id ∨ id = b) := by
  have hSne : ∀ c o, g.S c o → c ≠ pl.b := by
    intro c o hS e
    rcases hpl with h | ⟨i, hi, h, _⟩
    · have := hs.old c o hS; omega
    · exact hs.apart i hi o (by rw [h, ← e]; exact hS)
  have x : Ext g (g.put b pl w') := by
    refine ⟨fun _ h => .inl h, fun id hid => ?_, fun _ _ h => h, fun c p hS => cell?_of_heap (hheap c (hs.old c p hS) (hSne c p hS))⟩
    show (if id = b then pl else g.σ id) = g.σ id
    split
    · rename_i e
      rcases hK with h | ⟨_, h⟩
      · exact absurd (e ▸ hid) h
      · rw [h, e]
    · rfl
  have hold : ∀ j, j ≠ b → H'.bl j ≠ none → H'.bl j = H.bl j ∧ H.bl j ≠ none := by
    intro j hjb hne
    rcases hj j hjb with h | h
    · exact ⟨h, h ▸ hne⟩
    · exact absurd h hne
  have hne : ∀ j, j ≠ b → H'.bl j ≠ none → (g.σ j).b ≠ pl.b := by
    intro j hjb hjn e
    have hjl := hold j hjb hjn
    rcases hpl with h | ⟨i, hi, h, h'⟩
    · have := hs.lt hjl.2; omega
    · have := hs.inj i j hi hjl.2 (by rw [h, e])
      subst this
      rcases h' with h' | h'
      · exact hjb h'
      · exact hjn h'
  have hσ : ∀ j, j ≠ b → (g.put b pl w').σ j = g.σ j := fun j h => if_neg h
  have hσb : (g.put b pl w').σ b = pl := if_pos rfl
  refine ⟨⟨?_, ?_, ?_, ?_, ?_, ?_, ?_⟩, ⟨x, ?_, hsize, ?_, fun _ _ h => .inl h, hio⟩, fun id h => h⟩
  · rintro id (h | rfl)
    · exact Nat.lt_of_lt_of_le (hs.nx id h) hn
    · exact hbn
  · intro id hid
    by_cases e : id = b
    · exact .inr e
    · exact .inl (hs.live id (hold id e hid).2)
  · intro id k hk
    by_cases e : id = b
    · subst e
      rw [hb] at hk
      simp only [Option.some.injEq] at hk
      subst hk
      rw [hσb]
      exact hblk x
    · have hl := hold id e (by rw [hk]; simp)
      rw [hσ id e]
      exact (hs.blk id k (by rw [← hl.1, hk])).mono x (hheap _ (hs.lt hl.2) (hne id e (by rw [hk]; simp)))
  · intro i j hi hj' e
    by_cases ei : i = b
    · by_cases ej : j = b
      · rw [ei, ej]
      · subst ei
        rw [hσb, hσ j ej] at e
        exact absurd e.symm (hne j ej hj')
    · by_cases ej : j = b
      · subst ej
        rw [hσb, hσ i ei] at e
        exact absurd e (hne i ei hi)
      · rw [hσ i ei, hσ j ej] at e
        exact hs.inj i j (hold i ei hi).2 (hold j ej hj').2 e
  · intro id hid o hS
    by_cases e : id = b
    · subst e
      rw [hσb] at hS
      exact hSne _ o hS rfl
    · rw [hσ id e] at hS
      exact hs.apart id (hold id e hid).2 o hS
  · intro c o hS
    exact Nat.lt_of_lt_of_le (hs.old c o hS) hsize
  · intro k e hk
    exact (hs.glob k e hk).mono x
  · intro c hc hn'
    refine hheap c hc fun e => ?_
    rcases hpl with h | ⟨i, hi, h, _⟩
    · omega
    · exact hn' i hi (by rw [h, e])
  · intro id hid
    by_cases e : id = b
    · subst e
      rw [hσb]
      rcases hpl with h | ⟨i, hi, h, _⟩
      · exact .inr h
      · exact .inl ⟨i, hi, h⟩
    · rw [hσ id e]
      exact .inl ⟨id, (hold id e hid).2, rfl⟩

/-- A row is made anew, in a new block. -/
theorem SR.push {X : Cx} {g : Gs} {H : Heap} (hs : SR X g H) (b : Nat) (es : List PV) (sz : Nat) (cs : Array Value) (ty : TypeId) (w0 : World) (hw0 : w0.heap = g.w.heap) (hio : w0.os = g.w.os ∧ w0.output = g.w.output)
    (H' : Heap) (hb : H'.bl b = some (.row es sz)) (hj : ∀ j, j ≠ b → H'.bl j = H.bl j ∨ H'.bl j = none) (hbn : b < H'.next) (hn : H.next ≤ H'.next) (hK : ¬ g.K b)
    (hsz : 0 < sz) (hr : RowR g es sz cs) :
    let g' := g.put b ⟨g.w.heap.size, sz, cs.size⟩ { w0 with heap := w0.heap.push (.cells cs ty) }
    SR X g' H' ∧ Stp g H g' H' ∧ (∀ id, g'.K id → g.K id ∨ id = b) :=
  hs.put b _ _ H' _ hb hj hbn hn (.inl hK) (fun k hk _ => by simp [hw0, Array.getElem?_push, Nat.ne_of_lt hk]) (by simp [hw0]) hio (.inl (Nat.le_refl _))
    (fun x => ⟨hsz, rfl, cs, ty, by simp [Gs.put, hw0], rfl, hr.mono x⟩)

end Go.A3
