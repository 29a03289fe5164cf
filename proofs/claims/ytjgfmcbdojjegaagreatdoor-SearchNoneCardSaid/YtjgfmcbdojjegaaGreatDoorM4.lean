/-
  The abstract machine is sound: laws on values, cells, worlds; loads and stores.
-/
import Derived.Test.YtjgfmcbdojjegaaGreatDoorM3
import Derived.Deep.MidRow
import Derived.Deep.AppendSrc
namespace Go.A3

theorem LR.length {g : Gs} : ∀ {l : List PV} {vs : List Value}, LR g l vs → vs.length = l.length
  | [], vs, h => by unfold LR at h; simp [h]
  | c :: cs, vs, h => by
    unfold LR at h
    obtain ⟨v, r, rfl, _, h3⟩ := h
    simp [LR.length h3]

theorem LR.get {g : Gs} : ∀ {l : List PV} {vs : List Value}, LR g l vs → ∀ {j : Nat} {c : PV}, l[j]? = some c → ∃ v, vs[j]? = some v ∧ VR g c v
  | [], _, _, _, _, hj => by simp at hj
  | c :: cs, vs, h, j, d, hj => by
    unfold LR at h
    obtain ⟨v, r, rfl, h2, h3⟩ := h
    cases j with
    | zero => simp at hj; subst hj; exact ⟨v, by simp, h2⟩
    | succ j => simp at hj; simpa using LR.get h3 hj

theorem LR.mk {g : Gs} : ∀ {l : List PV} {vs : List Value}, vs.length = l.length → (∀ (j : Nat) (c : PV) (v : Value), l[j]? = some c → vs[j]? = some v → VR g c v) → LR g l vs
  | [], vs, hl, _ => by unfold LR; simpa using hl
  | c :: cs, vs, hl, h => by
    cases vs with
    | nil => simp at hl
    | cons v r =>
      unfold LR
      exact ⟨v, r, rfl, h 0 c v (by simp) (by simp), LR.mk (by simpa using hl) (fun j c' v' h1 h2 => h (j + 1) c' v' (by simpa using h1) (by simpa using h2))⟩

theorem LR.map {g : Gs} {α : Type} (f : α → PV) (k : α → Value) : ∀ (l : List α), (∀ x ∈ l, VR g (f x) (k x)) → LR g (l.map f) (l.map k)
  | [], _ => by unfold LR; rfl
  | x :: l, h => by
    show LR g (f x :: l.map f) (k x :: l.map k)
    unfold LR
    exact ⟨_, _, rfl, h x (by simp), LR.map f k l (fun y hy => h y (by simp [hy]))⟩

theorem LR.append {g : Gs} : ∀ {a : List PV} {va : List Value} {b : List PV} {vb : List Value}, LR g a va → LR g b vb → LR g (a ++ b) (va ++ vb)
  | [], va, b, vb, h, h' => by unfold LR at h; subst h; exact h'
  | c :: cs, va, b, vb, h, h' => by
    unfold LR at h
    obtain ⟨v, r, rfl, h2, h3⟩ := h
    show LR g (c :: (cs ++ b)) (v :: (r ++ vb))
    unfold LR
    exact ⟨v, _, rfl, h2, LR.append h3 h'⟩

theorem VR.nonagg {g : Gs} {e : PV} {x : Value} (h : VR g e x) (he : isAg e = false) : x.cells = #[x] ∧ e.cells = [e] := by
  cases e <;> unfold VR at h <;> first
    | (simp [isAg] at he; done)
    | (subst h; exact ⟨rfl, rfl⟩)
    | (obtain ⟨_, rfl⟩ := h; exact ⟨rfl, rfl⟩)
    | (obtain ⟨_, _, _, rfl, _⟩ := h; exact ⟨rfl, rfl⟩)
    | (obtain ⟨_, _, _, _, rfl, _⟩ := h; exact ⟨rfl, rfl⟩)
    | (obtain ⟨_, _, _, _, rfl⟩ := h; exact ⟨rfl, rfl⟩)
    | (obtain ⟨_, _, _, rfl⟩ := h; exact ⟨rfl, rfl⟩)
    | (obtain ⟨_, _, rfl, _⟩ := h; exact ⟨rfl, rfl⟩)
    | (obtain ⟨_, rfl, _⟩ := h; exact ⟨rfl, rfl⟩)

/-- A value's cells are the abstract value's. -/
theorem VR.cells {g : Gs} {e : PV} {x : Value} (h : VR g e x) : LR g e.cells x.cells.toList := by
  by_cases he : isAg e = true
  · cases e <;> simp [isAg] at he
    unfold VR at h
    obtain ⟨a, rfl, ha⟩ := h
    exact ha
  · have he : isAg e = false := by simpa using he
    obtain ⟨h1, h2⟩ := h.nonagg he
    rw [h1, h2]
    show LR g [e] [x]
    unfold LR
    exact ⟨x, [], rfl, h, by unfold LR; rfl⟩

theorem VR.size {g : Gs} {e : PV} {x : Value} (h : VR g e x) : x.cells.size = e.cells.length := by
  have := h.cells.length
  simpa using this

theorem VR.cell {g : Gs} {e : PV} {x : Value} (h : VR g e x) {j : Nat} {c : PV} (hj : e.cells[j]? = some c) : ∃ v, x.cells[j]? = some v ∧ VR g c v := by
  obtain ⟨v, h1, h2⟩ := h.cells.get hj
  exact ⟨v, by simpa using h1, h2⟩

theorem VR.isAg {g : Gs} {e : PV} {x : Value} (h : VR g e x) (he : A3.isAg e = true) : ∃ a, x = .agg a ∧ LR g e.cells a.toList := by
  cases e <;> simp [A3.isAg] at he
  unfold VR at h
  exact h

theorem VR.one {g : Gs} {e : PV} {x : Value} (h : VR g e x) (he : e.one = true) : x.oneCell' = true := by
  cases e <;> unfold VR at h <;> first
    | (simp at he; done)
    | (subst h; rfl)
    | (obtain ⟨_, rfl⟩ := h; rfl)
    | (obtain ⟨_, _, _, rfl, _⟩ := h; rfl)
    | (obtain ⟨_, _, _, _, rfl, _⟩ := h; rfl)
    | (obtain ⟨_, _, _, _, rfl⟩ := h; rfl)
    | (obtain ⟨_, _, _, rfl⟩ := h; rfl)
    | (obtain ⟨_, _, rfl, _⟩ := h; rfl)

/-! ### Types -/

theorem tyOf_known {P : Program} {t : TypeId} (h : (tyOf P t).ki ≠ .other ∨ 0 < (tyOf P t).size) :
    ∃ i d z, P.info? t = some i ∧ P.underlying t = some d ∧ i.zero = some z ∧ okZ z = true ∧
      tyOf P t = ⟨kiOf d, i.size, i.bytes, aggOf d, ofZ z⟩ := by
  unfold tyOf at *
  cases hi : P.info? t with
  | none => simp [hi] at h
  | some i =>
    cases hd : P.underlying t with
    | none => simp [hi, hd] at h
    | some d =>
      cases hz : i.zero with
      | none => simp [hi, hd, hz] at h
      | some z =>
        by_cases ho : okZ z = true
        · exact ⟨i, d, z, rfl, rfl, hz, ho, by simp [hz, ho]⟩
        · simp [hi, hd, hz, ho] at h

theorem tyOf_slice {P : Program} {t u : TypeId} (h : (tyOf P t).ki = .slice u) : P.underlying t = some (.slice u) := by
  obtain ⟨i, d, z, _, hd, _, _, e⟩ := tyOf_known (P := P) (t := t) (.inl (by rw [h]; simp))
  rw [e] at h
  cases d <;> simp [kiOf] at h
  subst h; exact hd
theorem tyOf_arr {P : Program} {t n u : Nat} (h : (tyOf P t).ki = .arr n u) : P.underlying t = some (.array n u) := by
  obtain ⟨i, d, z, _, hd, _, _, e⟩ := tyOf_known (P := P) (t := t) (.inl (by rw [h]; simp))
  rw [e] at h
  cases d <;> simp [kiOf] at h
  obtain ⟨rfl, rfl⟩ := h; exact hd
theorem tyOf_map {P : Program} {t n u : Nat} (h : (tyOf P t).ki = .map n u) : P.underlying t = some (.map n u) := by
  obtain ⟨i, d, z, _, hd, _, _, e⟩ := tyOf_known (P := P) (t := t) (.inl (by rw [h]; simp))
  rw [e] at h
  cases d <;> simp [kiOf] at h
  obtain ⟨rfl, rfl⟩ := h; exact hd
theorem tyOf_int {P : Program} {t : TypeId} {k : IntKind} (h : (tyOf P t).ki = .int k) : P.underlying t = some (.int k) := by
  obtain ⟨i, d, z, _, hd, _, _, e⟩ := tyOf_known (P := P) (t := t) (.inl (by rw [h]; simp))
  rw [e] at h
  cases d <;> simp [kiOf] at h
  subst h; exact hd
theorem tyOf_ptr {P : Program} {t u : TypeId} (h : (tyOf P t).ki = .ptr u) : P.underlying t = some (.pointer u) := by
  obtain ⟨i, d, z, _, hd, _, _, e⟩ := tyOf_known (P := P) (t := t) (.inl (by rw [h]; simp))
  rw [e] at h
  cases d <;> simp [kiOf] at h
  subst h; exact hd
theorem tyOf_bool {P : Program} {t : TypeId} (h : (tyOf P t).ki = .bool) : P.underlying t = some .bool := by
  obtain ⟨i, d, z, _, hd, _, _, e⟩ := tyOf_known (P := P) (t := t) (.inl (by rw [h]; simp))
  rw [e] at h
  cases d <;> simp [kiOf] at h
  exact hd
theorem tyOf_str {P : Program} {t : TypeId} (h : (tyOf P t).ki = .str) : P.underlying t = some .string := by
  obtain ⟨i, d, z, _, hd, _, _, e⟩ := tyOf_known (P := P) (t := t) (.inl (by rw [h]; simp))
  rw [e] at h
  cases d <;> simp [kiOf] at h
  exact hd
theorem tyOf_func {P : Program} {t : TypeId} (h : (tyOf P t).ki = .func) : ∃ a b c, P.underlying t = some (.func a b c) := by
  obtain ⟨i, d, z, _, hd, _, _, e⟩ := tyOf_known (P := P) (t := t) (.inl (by rw [h]; simp))
  rw [e] at h
  cases d <;> simp [kiOf] at h
  exact ⟨_, _, _, hd⟩
theorem tyOf_struct {P : Program} {t : TypeId} {fs : List (Nat × Nat)} (h : (tyOf P t).ki = .struct fs) : ∃ a, P.underlying t = some (.struct a) ∧ fs = a.toList.map fun f => (f.offset, f.type) := by
  obtain ⟨i, d, z, _, hd, _, _, e⟩ := tyOf_known (P := P) (t := t) (.inl (by rw [h]; simp))
  rw [e] at h
  cases d <;> simp [kiOf] at h
  exact ⟨_, hd, h.symm⟩

theorem run_size {P : Program} {t : TypeId} (h : 0 < (tyOf P t).size) (w : World) : (sizeOf t).run P w = .ok (tyOf P t).size w := by
  obtain ⟨i, d, z, hi, _, _, _, e⟩ := tyOf_known (P := P) (t := t) (.inr h)
  rw [e]
  simp [sizeOf, typeInfo, hi]

theorem VR.ofC {g : Gs} {v : Value} (h : okC v = true) : VR g (A3.ofC v) v := by
  cases v <;> first
    | (simp [okC] at h; done)
    | (simp [A3.ofC, VR]; done)
    | skip
  case pointer a => cases a with
    | none => simp [A3.ofC, VR]
    | some a => simp [okC] at h
  case slice a n c => cases a with
    | none => cases n <;> cases c <;> first | (simp [okC] at h; done) | simp [A3.ofC, VR]
    | some a => simp [okC] at h
  case map r => cases r with
    | none => simp [A3.ofC, VR]
    | some a => simp [okC] at h

theorem VR.ofZ {g : Gs} {v : Value} (h : okZ v = true) : VR g (A3.ofZ v) v := by
  cases v <;> first
    | (simp only [okZ] at h; simp only [A3.ofZ]; exact VR.ofC h)
    | skip
  case agg cs =>
    simp only [okZ, List.all_eq_true] at h
    simp only [A3.ofZ]
    unfold VR
    exact ⟨cs, rfl, by
      have := LR.map (g := g) A3.ofC (fun v : Value => v) cs.toList (fun x hx => VR.ofC (h x hx))
      simpa using this⟩

/-! ### Loads -/

theorem load_ok {X : Cx} {g : Gs} {t : TypeId} {e r : PV} {x : Value} {b p o : Nat} (hx : VR g e x) (hc : g.w.rangeAt b p x.cells.toList)
    (hs : 0 < (X.ty t).size) (hl : loadE (X.ty t).agg (X.ty t).size e o = some r) :
    ∃ y, (Instr.loadAt t (.pointer (some ⟨b, p + o, none⟩))).run X.P g.w = .ok y g.w ∧ VR g r y := by
  obtain ⟨i, d, z, hi, hd, hz, _, et⟩ := tyOf_known (P := X.P) (t := t) (.inr hs)
  unfold Cx.ty at *
  rw [et] at hs hl
  simp only [loadE] at hl
  by_cases ha : aggOf d = true
  · simp only [ha, if_true] at hl
    have hrow : d.isRow = true := by revert ha; cases d <;> simp [aggOf]
    split at hl
    · rename_i hw
      obtain ⟨hw1, rfl, hw3⟩ := hw
      simp only [Option.some.injEq] at hl
      subst hl
      obtain ⟨a, rfl, hla⟩ := hx.isAg hw1
      refine ⟨.agg a, ?_, hx⟩
      have := run_loadAt_mid (P := X.P) g.w b (p + 0) t a.toList d (by simpa [Value.cells] using hc) hd hrow (by rw [hi]; have := hla.length; simp at this hw3 ⊢; omega)
      simpa using this
    · split at hl
      · rename_i hle
        simp only [Option.some.injEq] at hl
        subst hl
        have hlen := hx.cells.length
        refine ⟨.agg ((x.cells.toList.drop o).take i.size).toArray, ?_, ?_⟩
        · refine run_loadAt_mid (P := X.P) g.w b (p + o) t _ d (fun j v hj => ?_) hd hrow ?_
          · have : x.cells.toList[o + j]? = some v := by
              rw [List.getElem?_take] at hj
              split at hj
              · simpa [List.getElem?_drop] using hj
              · simp at hj
            have := hc (o + j) v this
            rwa [← Nat.add_assoc] at this
          · rw [hi]; simp at hlen hle ⊢; omega
        · unfold VR
          refine ⟨_, rfl, LR.mk ?_ ?_⟩
          · simp at hlen hle ⊢; omega
          · intro j c v h1 h2
            simp only [List.getElem?_take] at h1 h2
            split at h1
            · simp only [List.getElem?_drop] at h1 h2
              obtain ⟨v', h3, h4⟩ := hx.cells.get h1
              rename_i hji
              simp [hji] at h2
              simp [h2] at h3
              subst h3; exact h4
            · simp at h1
      · simp at hl
  · simp only [ha] at hl
    obtain ⟨v, hv, hr⟩ := hx.cell hl
    refine ⟨v, ?_, hr⟩
    have hcell : g.w.cell? ⟨b, p + o, none⟩ = some v := hc o v (by simpa using hv)
    have hagg : (isAgg t).run X.P g.w = .ok false g.w := by
      unfold isAgg
      rw [Sem.run_bind, run_underlying hd]
      revert ha
      cases d <;> simp [aggOf]
    simp [Instr.loadAt, Instr.sureAddr, loadVar, hagg, hcell]

theorem Lie.range {g : Gs} {b p : Nat} {l : List Value} (h : Lie g b p l) : g.w.rangeAt b p l := fun j v hj => (h j v hj).2

/-- An element of a row lies in its block. -/
theorem SR.elem {X : Cx} {g : Gs} {H : Heap} (hs : SR X g H) {id i sz : Nat} {es : List PV} {e : PV} (hb : H.bl id = some (.row es sz)) (he : es[i]? = some e) :
    ∃ x, VR g e x ∧ x.cells.size = sz ∧ g.w.rangeAt (g.σ id).b (i * (g.σ id).sz) x.cells.toList := by
  obtain ⟨_, hsz, cs, ty, hh, htot, hr⟩ := hs.blk id _ hb
  obtain ⟨x, h1, h2, h3⟩ := hr i e he
  refine ⟨x, h1, h2, fun j v hj => ?_⟩
  rw [hsz]
  have := h3 j v (by simpa using hj)
  simp [World.cell?, hh, this]

theorem Cx.load_ok {X : Cx} {g : Gs} {H : Heap} (hs : SR X g H) {t : TypeId} {a r : PV} {v : Value} (ha : VR g a v) (hl : X.load t H a = some r) :
    ∃ y, (Instr.loadAt t v).run X.P g.w = .ok y g.w ∧ VR g r y := by
  unfold Cx.load at hl
  split at hl
  · simp at hl
  rename_i hz0
  have hz : 0 < (X.ty t).size := by omega
  split at hl
  · rename_i e o
    unfold VR at ha
    obtain ⟨b, p, x, rfl, h2, h3⟩ := ha
    exact A3.load_ok h2 h3.range hz hl
  · rename_i id i o
    unfold VR at ha
    obtain ⟨_, rfl⟩ := ha
    split at hl
    · rename_i es sz hb
      split at hl
      · rename_i e he
        obtain ⟨x, h1, _, h3⟩ := hs.elem hb he
        exact A3.load_ok h1 h3 hz hl
      · simp at hl
    · simp at hl
  · simp at hl

end Go.A3
