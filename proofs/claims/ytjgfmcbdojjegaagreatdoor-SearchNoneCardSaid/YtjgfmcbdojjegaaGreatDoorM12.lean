/-
  The abstract machine is sound: stores and appends.
-/
import Derived.Test.YtjgfmcbdojjegaaGreatDoorM11
namespace Go.A3

/-! ### Stores -/

theorem heap_setCells : ∀ (vs : List Value) (w : World) (b o : Nat) (cs : Array Value) (ty : TypeId), w.heap[b]? = some (.cells cs ty (0, 0)) →
    (w.setCells b o vs).heap[b]? = some (.cells (setA cs o vs) ty (0, 0)) ∧ (w.setCells b o vs).heap.size = w.heap.size ∧ ∀ k, k ≠ b → (w.setCells b o vs).heap[k]? = w.heap[k]?
  | [], w, b, o, cs, ty, h => ⟨h, rfl, fun _ _ => rfl⟩
  | v :: vs, w, b, o, cs, ty, h => by
    have h1 : (w.setCell ⟨b, o, none⟩ v).heap[b]? = some (.cells (cs.setIfInBounds o v) ty (0, 0)) := heap_setCell_same w b o cs ty v h
    obtain ⟨q1, q2, q3⟩ := heap_setCells vs (w.setCell ⟨b, o, none⟩ v) b (o + 1) _ ty h1
    refine ⟨q1, ?_, fun k hk => ?_⟩
    · show ((w.setCell ⟨b, o, none⟩ v).setCells b (o + 1) vs).heap.size = _
      rw [q2]; simp [World.setCell]
    · show ((w.setCell ⟨b, o, none⟩ v).setCells b (o + 1) vs).heap[k]? = _
      rw [q3 k hk]
      exact heap_setCell_other w ⟨b, o, none⟩ k v hk

theorem io_setCells : ∀ (vs : List Value) (w : World) (b o : Nat), (w.setCells b o vs).os = w.os ∧ (w.setCells b o vs).output = w.output
  | [], _, _, _ => ⟨rfl, rfl⟩
  | v :: vs, w, b, o => by
    obtain ⟨h1, h2⟩ := io_setCells vs (w.setCell ⟨b, o, none⟩ v) b (o + 1)
    exact ⟨h1.trans rfl, h2.trans rfl⟩

theorem row_len {g : Gs} {es : List PV} {sz : Nat} {cs : Array Value} (h : RowR g es sz cs) (hz : 0 < sz) : es.length * sz ≤ cs.size := by
  cases hes : es.length with
  | zero => simp
  | succ n =>
    obtain ⟨x, _, h2, h3⟩ := h n _ (List.getElem?_eq_getElem (by omega))
    have hv : x.cells[sz - 1]? = some x.cells[sz - 1] := Array.getElem?_eq_getElem (by omega)
    have := (Array.getElem?_eq_some_iff.1 (h3 _ _ hv)).1
    rw [Nat.succ_mul]
    omega

theorem store_cells {X : Cx} {w : World} {b o : Nat} {t : Nat} {x : Value} {cs : Array Value} {ty : TypeId} (hh : w.heap[b]? = some (.cells cs ty (0, 0))) (hs : (X.ty t).size = x.cells.size) (hp : 0 < (X.ty t).size)
    (ho : o + x.cells.size ≤ cs.size) (h1 : ∀ v ∈ x.cells.toList, v.oneCell' = true) : (Instr.storeAt t (.pointer (some ⟨b, o, none⟩)) x).run X.P w = .ok () (w.setCells b o x.cells.toList) := by
  obtain ⟨i, d, z, hi, hd, hzz, hok, et⟩ := tyOf_known (P := X.P) (t := t) (.inr hp)
  have hsi : i.size = x.cells.size := by
    rw [← hs]; unfold Cx.ty; rw [et]
  have := run_storeAt_mid (P := X.P) w b o t x.cells (fun j hj => by
    have : o + j < cs.size := by omega
    simp [World.cell?, World.frozen?, hh, this]) (by rw [hi]; simp [hsi]) (by rw [Array.all_eq_true_iff_forall_mem]; intro v hv; exact h1 v (by simpa using hv))
  rw [← this]
  have e : (Value.agg x.cells).cells = x.cells := rfl
  simp only [Instr.storeAt, Instr.sureAddr, storeVar, e]

theorem storeE_ok {g : Gs} {e v e' : PV} {x y : Value} {o : Nat} (h : storeE e o v = some e') (hx : VR g e x) (hy : VR g v y) :
    ∃ x', VR g e' x' ∧ x'.cells.size = x.cells.size ∧ o + y.cells.size ≤ x.cells.size ∧ (∀ c ∈ y.cells.toList, c.oneCell' = true) ∧ x'.cells = setA x.cells o y.cells.toList := by
  unfold storeE at h
  split at h
  · rename_i hc
    obtain ⟨hle, hone⟩ := hc
    have hsx := hx.size
    have hsy := hy.size
    have hones : ∀ c ∈ y.cells.toList, c.oneCell' = true := by
      intro c hc
      obtain ⟨j, hj⟩ := List.mem_iff_getElem?.1 hc
      have hjl : j < v.cells.length := by
        have := (List.getElem?_eq_some_iff.1 hj).1
        simp at this; omega
      obtain ⟨c', q1, q2⟩ := hy.cells.get (List.getElem?_eq_getElem hjl)
      rw [hj] at q1
      simp at q1; subst q1
      exact q2.one (List.all_eq_true.1 hone _ (List.getElem_mem hjl))
    split at h
    · rename_i hw
      obtain ⟨rfl, hag, hlen⟩ := hw
      simp at h; subst h
      refine ⟨y, hy, by omega, by omega, hones, ?_⟩
      apply Array.ext_getElem?
      intro k
      rw [setA_get _ _ _ _ (by simp; omega)]
      by_cases hk : k < y.cells.size
      · rw [if_pos (by simp; omega)]; simp
      · rw [if_neg (by simp; omega), Array.getElem?_eq_none (by omega), Array.getElem?_eq_none (by omega)]
    · simp at h; subst h
      have hlr := hx.cells.set hy.cells hle
      exact ⟨.agg (setA x.cells o y.cells.toList), by unfold VR; exact ⟨_, rfl, hlr⟩, by simp [Value.cells, setA_size], by omega, hones, rfl⟩
  · simp at h

theorem setA_setA (cs : Array Value) (o i : Nat) (x : Array Value) (y : List Value) (hx : ∀ j v, x[j]? = some v → cs[i + j]? = some v) (hi : i + x.size ≤ cs.size) (ho : o + y.length ≤ x.size) :
    setA cs (i + o) y = setA cs i (setA x o y).toList := by
  apply Array.ext_getElem?
  intro k
  rw [setA_get _ _ _ _ (by omega), setA_get _ _ _ _ (by simp [setA_size]; omega)]
  simp only [Array.length_toList, setA_size]
  by_cases h1 : i ≤ k ∧ k < i + x.size
  · rw [if_pos h1]
    simp only [Array.getElem?_toList]
    rw [setA_get _ _ _ _ ho]
    by_cases h2 : i + o ≤ k ∧ k < i + o + y.length
    · rw [if_pos h2, if_pos (by omega)]
      congr 1; omega
    · rw [if_neg h2, if_neg (by omega)]
      have hlt : k - i < x.size := by omega
      have := hx (k - i) x[k - i] (Array.getElem?_eq_getElem hlt)
      rw [show i + (k - i) = k by omega] at this
      rw [this, Array.getElem?_eq_getElem hlt]
  · rw [if_neg h1, if_neg (by omega)]

theorem store_ok {X : Cx} {g : Gs} {H H' : Heap} (hs : SR X g H) {b t : Nat} {a v : PV} {p y : Value} (ha : VR g a p) (hy : VR g v y) (h : X.store t H v a = some H') :
    ∃ g', (Instr.storeAt t p y).run X.P g.w = .ok () g'.w ∧ SR X g' H' ∧ Stp g H g' H' ∧ (∀ id, g'.K id → g.K id ∨ id = b) ∧ (∀ j, j ≠ b → H.bl j = none → H'.bl j = none) ∧ H'.next = H.next := by
  unfold Cx.store at h
  split at h
  · rename_i id i o
    unfold VR at ha
    obtain ⟨hK, rfl⟩ := ha
    split at h
    · rename_i es sz hb
      split at h
      · rename_i e he
        split at h
        · rename_i hc
          split at h
          · rename_i e' hse
            simp at h; subst h
            obtain ⟨hz, hsz, cs, ty, hh, htot, hr⟩ := hs.blk id _ hb
            obtain ⟨x, h1, h2, h3⟩ := hr i e he
            obtain ⟨x', q1, q2, q3, q4, q5⟩ := storeE_ok hse h1 hy
            have hil : i < es.length := (List.getElem?_eq_some_iff.1 he).1
            have hrl := row_len hr hz
            have hle : (i + 1) * sz ≤ es.length * sz := Nat.mul_le_mul_right _ hil
            rw [Nat.succ_mul] at hle
            have hrun := store_cells (X := X) (w := g.w) (b := (g.σ id).b) (o := i * sz + o) (t := t) (x := y) hh (by rw [← hc.1, hy.size]) hc.2 (by omega) q4
            obtain ⟨r1, r2, r3⟩ := heap_setCells y.cells.toList g.w (g.σ id).b (i * sz + o) cs ty hh
            have hset : setA cs (i * sz + o) y.cells.toList = setA cs (i * sz) x'.cells.toList := by
              rw [q5]
              exact setA_setA cs o (i * sz) x.cells y.cells.toList h3 (by omega) (by simp; omega)
            have hbn : id < H.next := hs.nx id hK
            obtain ⟨s1, s2, s3⟩ := hs.put id (g.σ id) (g.w.setCells (g.σ id).b (i * sz + o) y.cells.toList) (H.set id (some (.row (es.set i e') sz))) (.row (es.set i e') sz) (by simp) set_keep hbn (Nat.le_refl _) (.inr ⟨hK, rfl⟩)
              (fun k _ hk => r3 k hk) (by rw [r2]; exact Nat.le_refl _) (io_setCells _ _ _ _) (.inr ⟨id, by rw [hb]; simp, rfl, .inl rfl⟩)
              (fun x0 => by
                refine ⟨hz, hsz, setA cs (i * sz + o) y.cells.toList, ty, r1, by rw [setA_size, htot], ?_⟩
                rw [hset]
                exact (hr.set hrl hil q1 (by omega)).mono x0)
            refine ⟨_, by rw [hsz]; exact hrun, s1, s2, fun j hj => (s3 j hj).elim .inl (fun e => .inl (e ▸ hK)), fun j _ h0 => ?_, rfl⟩
            have : j ≠ id := fun e => by rw [e, hb] at h0; simp at h0
            simp [this, h0]
          · simp at h
        · simp at h
      · simp at h
    · simp at h
  · simp at h

end Go.A3
