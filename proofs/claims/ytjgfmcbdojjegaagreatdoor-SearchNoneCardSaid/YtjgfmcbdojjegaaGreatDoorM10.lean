/-
  The abstract machine is sound: append.
-/
import Derived.Test.YtjgfmcbdojjegaaGreatDoorM9
namespace Go.A3

theorem flat_get {f : Value → List Value} {sz : Nat} : ∀ {xs : List Value}, (∀ x ∈ xs, (f x).length = sz) → ∀ {i : Nat} {x : Value} {j : Nat}, xs[i]? = some x → j < sz → (xs.flatMap f)[i * sz + j]? = (f x)[j]?
  | [], _, _, _, _, h, _ => by simp at h
  | y :: xs, hl, i, x, j, h, hj => by
    have hy := hl y (by simp)
    cases i with
    | zero =>
      simp at h; subst h
      simp only [List.flatMap_cons, Nat.zero_mul, Nat.zero_add]
      rw [List.getElem?_append_left (by omega)]
    | succ i =>
      simp at h
      simp only [List.flatMap_cons]
      rw [List.getElem?_append_right (by rw [hy, Nat.succ_mul]; omega), hy]
      have : (i + 1) * sz + j - sz = i * sz + j := by rw [Nat.succ_mul]; omega
      rw [this]
      exact flat_get (fun x hx => hl x (by simp [hx])) h hj

theorem flat_inv {f : Value → List Value} {sz : Nat} : ∀ {xs : List Value}, (∀ x ∈ xs, (f x).length = sz) → ∀ {k : Nat} {v : Value}, (xs.flatMap f)[k]? = some v →
    ∃ i j x, k = i * sz + j ∧ j < sz ∧ xs[i]? = some x ∧ (f x)[j]? = some v
  | [], _, _, _, h => by simp at h
  | y :: xs, hl, k, v, h => by
    have hy := hl y (by simp)
    simp only [List.flatMap_cons] at h
    by_cases hk : k < sz
    · rw [List.getElem?_append_left (by omega)] at h
      exact ⟨0, k, y, by simp, hk, by simp, h⟩
    · rw [List.getElem?_append_right (by omega), hy] at h
      obtain ⟨i, j, x, h1, h2, h3, h4⟩ := flat_inv (fun x hx => hl x (by simp [hx])) h
      exact ⟨i + 1, j, x, by rw [Nat.succ_mul]; omega, h2, by simpa using h3, h4⟩

theorem flat_length {f : Value → List Value} {sz : Nat} : ∀ {xs : List Value}, (∀ x ∈ xs, (f x).length = sz) → (xs.flatMap f).length = xs.length * sz
  | [], _ => by simp
  | y :: xs, hl => by
    simp only [List.flatMap_cons, List.length_append, List.length_cons]
    rw [flat_length fun x hx => hl x (by simp [hx]), hl y (by simp), Nat.succ_mul]
    omega

/-- Elements, as they lie one behind the other. -/
structure Flat (g : Gs) (es : List PV) (sz : Nat) (vs : List Value) : Prop where
  len : vs.length = es.length * sz
  row : RowR g es sz vs.toArray
  cov : ∀ (k : Nat) (v : Value), vs[k]? = some v → ∃ (i j : Nat) (e c : PV), es[i]? = some e ∧ e.cells[j]? = some c ∧ VR g c v

theorem Flat.mk' {g : Gs} {es : List PV} {sz : Nat} {xs : List Value} (h : LR g es xs) (hs : ∀ x ∈ xs, x.cells.size = sz) : Flat g es sz (xs.flatMap fun x => x.cells.toList) := by
  have hs' : ∀ x ∈ xs, (x.cells.toList).length = sz := fun x hx => by simpa using hs x hx
  refine ⟨by rw [flat_length hs', h.length], ?_, ?_⟩
  · intro i e he
    obtain ⟨x, h1, h2⟩ := h.get he
    have hx := hs x (List.mem_of_getElem? h1)
    refine ⟨x, h2, hx, fun j v hj => ?_⟩
    have hjs : j < sz := by rw [← hx]; exact (Array.getElem?_eq_some_iff.1 hj).1
    have := flat_get hs' h1 hjs
    simp only [List.getElem?_toArray]
    rw [this]
    simpa using hj
  · intro k v hk
    obtain ⟨i, j, x, h1, h2, h3, h4⟩ := flat_inv hs' hk
    obtain ⟨e, he⟩ : ∃ e, es[i]? = some e := by
      have := (List.getElem?_eq_some_iff.1 h3).1
      rw [h.length] at this
      exact ⟨_, List.getElem?_eq_getElem this⟩
    obtain ⟨x', q1, q2⟩ := h.get he
    rw [h3] at q1
    simp at q1; subst q1
    have hc := q2.cells
    have hjl : j < e.cells.length := by
      have := (List.getElem?_eq_some_iff.1 h4).1
      rw [← hc.length]; exact this
    obtain ⟨v', p1, p2⟩ := hc.get (List.getElem?_eq_getElem hjl)
    rw [h4] at p1
    simp at p1; subst p1
    exact ⟨i, j, e, _, he, List.getElem?_eq_getElem hjl, p2⟩

theorem exists_list {Q : Nat → PV → Value → Prop} : ∀ {es : List PV}, (∀ (j : Nat) (e : PV), es[j]? = some e → ∃ x, Q j e x) →
    ∃ xs : List Value, xs.length = es.length ∧ ∀ (j : Nat) (e : PV) (x : Value), es[j]? = some e → xs[j]? = some x → Q j e x
  | [], _ => ⟨[], rfl, by simp⟩
  | d :: es, h => by
    obtain ⟨x, hx⟩ := h 0 d (by simp)
    obtain ⟨xs, h1, h2⟩ := exists_list (Q := fun j => Q (j + 1)) (es := es) fun j e hj => h (j + 1) e (by simpa using hj)
    refine ⟨x :: xs, by simp [h1], fun j e y hj hy => ?_⟩
    cases j with
    | zero => simp at hj hy; subst hj hy; exact hx
    | succ j => exact h2 j e y (by simpa using hj) (by simpa using hy)

/-- What can be read of a slice lies somewhere. -/
theorem elems_ok {X : Cx} {g : Gs} {H : Heap} (hs : SR X g H) {x : PV} {a : Value} (hx : VR g x a) {es : List PV} (h : elems H x = some es) {sz : Nat} (hsz : ∀ e ∈ es, e.cells.length = sz) :
    ∃ vs cap, Flat g es sz vs ∧ ((∃ b p, a = .slice (some ⟨b, p, none⟩) es.length cap ∧ es.length ≤ cap ∧ g.w.rangeAt b p vs) ∨ (a = .slice none 0 0 ∧ vs = [] ∧ es = [])) := by
  have key : ∀ (xs : List Value) (b p : Nat), LR g es xs → (∀ (i : Nat) (x : Value), xs[i]? = some x → g.w.rangeAt b (p + i * sz) x.cells.toList) → Flat g es sz (xs.flatMap fun x => x.cells.toList) ∧ g.w.rangeAt b p (xs.flatMap fun x => x.cells.toList) := by
    intro xs b p hl hr
    have hs' : ∀ x ∈ xs, x.cells.size = sz := by
      intro x hx
      obtain ⟨i, hi⟩ := List.mem_iff_getElem?.1 hx
      obtain ⟨e, he⟩ : ∃ e, es[i]? = some e := by
        have := (List.getElem?_eq_some_iff.1 hi).1
        rw [hl.length] at this
        exact ⟨_, List.getElem?_eq_getElem this⟩
      obtain ⟨x', q1, q2⟩ := hl.get he
      rw [hi] at q1
      simp at q1; subst q1
      rw [q2.size, hsz e (List.mem_of_getElem? he)]
    refine ⟨Flat.mk' hl hs', fun k v hk => ?_⟩
    obtain ⟨i, j, x, h1, h2, h3, h4⟩ := flat_inv (fun x hx => by simpa using hs' x hx) hk
    have := hr i x h3 j v h4
    rw [h1, ← Nat.add_assoc]; exact this
  unfold elems at h
  split at h
  · simp at h; subst h
    unfold VR at hx; subst hx
    exact ⟨[], 0, ⟨by simp, fun i e he => by simp at he, fun k v hk => by simp at hk⟩, .inr ⟨rfl, rfl, rfl⟩⟩
  · rename_i es' full
    simp at h; subst h
    unfold VR at hx
    obtain ⟨b, p, cap, sz', rfl, h1, h2, h3⟩ := hx
    have hex : ∃ xs, LR g es' xs ∧ ∀ (i : Nat) (x : Value), xs[i]? = some x → g.w.rangeAt b (p + i * sz) x.cells.toList := by
      clear h1 h2 key
      induction es' generalizing p with
      | nil => exact ⟨[], by unfold LR; rfl, by simp⟩
      | cons e es' ih =>
        unfold ESR at h3
        obtain ⟨⟨x, q1, q2, q3⟩, q4⟩ := h3
        have hse : sz' = sz := by rw [← q2, q1.size, hsz e (by simp)]
        obtain ⟨xs, r1, r2⟩ := ih (fun e he => hsz e (by simp [he])) (p + sz') q4
        refine ⟨x :: xs, by unfold LR; exact ⟨x, xs, rfl, q1, r1⟩, fun i y hy => ?_⟩
        cases i with
        | zero => simp at hy; subst hy; simpa using q3.range
        | succ i =>
          simp at hy
          have := r2 i y hy
          rw [hse] at this
          rw [Nat.succ_mul, Nat.add_comm (i * sz), ← Nat.add_assoc]
          exact this
    obtain ⟨xs, r1, r2⟩ := hex
    obtain ⟨k1, k2⟩ := key xs b p r1 r2
    exact ⟨_, cap, k1, .inl ⟨b, p, rfl, h1, k2⟩⟩
  · rename_i id i n
    split at h
    · rename_i rows sz' hb
      split at h
      · rename_i hin
        simp at h; subst h
        unfold VR at hx
        obtain ⟨hK, cap, h1, h2, rfl⟩ := hx
        obtain ⟨_, hsz', _⟩ := hs.blk id _ hb
        have hlen : ((rows.drop i).take n).length = n := by simp; omega
        have hel : ∀ (j : Nat) (e : PV), ((rows.drop i).take n)[j]? = some e → ∃ x, VR g e x ∧ x.cells.size = sz' ∧ g.w.rangeAt (g.σ id).b ((i + j) * (g.σ id).sz) x.cells.toList := by
          intro j e hj
          rw [List.getElem?_take] at hj
          split at hj
          · rw [List.getElem?_drop] at hj
            exact hs.elem hb hj
          · simp at hj
        have hex : ∃ xs : List Value, LR g ((rows.drop i).take n) xs ∧ ∀ (j : Nat) (x : Value), xs[j]? = some x → g.w.rangeAt (g.σ id).b ((i * (g.σ id).sz) + j * sz) x.cells.toList := by
          obtain ⟨xs, q1, q2⟩ := exists_list hel
          refine ⟨xs, LR.mk q1 fun j c v hj hv => (q2 j c v hj hv).1, fun j x hx => ?_⟩
          have hjl : j < ((rows.drop i).take n).length := by
            rw [← q1]; exact (List.getElem?_eq_some_iff.1 hx).1
          obtain ⟨p1, p2, p3⟩ := q2 j _ x (List.getElem?_eq_getElem hjl) hx
          have hse : (g.σ id).sz = sz := by
            rw [hsz', ← p2, p1.size]
            exact hsz _ (List.getElem_mem hjl)
          rw [Nat.add_mul, show j * (g.σ id).sz = j * sz from by rw [hse]] at p3
          exact p3
        obtain ⟨xs, r1, r2⟩ := hex
        obtain ⟨k1, k2⟩ := key xs _ _ r1 r2
        exact ⟨_, cap, k1, .inl ⟨_, _, by rw [hlen], by rw [hlen]; exact h1, k2⟩⟩
      · simp at h
    · simp at h
  · rename_i id i o n
    split at h
    · rename_i rows sz' hb
      split at h
      · rename_i e he
        split at h
        · rename_i hin
          simp at h; subst h
          unfold VR at hx
          obtain ⟨hK, cap, h1, rfl⟩ := hx
          obtain ⟨y, p1, p2, p3⟩ := hs.elem hb he
          have hlen : ((e.cells.drop o).take n).length = n := by simp; omega
          have hyl := p1.cells.length
          by_cases hn0 : n = 0
          · subst hn0
            refine ⟨[], cap, ⟨by simp, fun i e he => by simp at he, fun k v hk => by simp at hk⟩, .inl ⟨(g.σ id).b, i * (g.σ id).sz + o, by simp, by simp, fun j v hj => by simp at hj⟩⟩
          have hex : LR g ((e.cells.drop o).take n) ((y.cells.toList.drop o).take n) := by
            refine LR.mk (by simp at hyl ⊢; omega) fun j c v hj hv => ?_
            rw [List.getElem?_take] at hj hv
            split at hj
            · rename_i hjn
              rw [if_pos hjn] at hv
              rw [List.getElem?_drop] at hj hv
              obtain ⟨v', q1, q2⟩ := p1.cells.get hj
              rw [hv] at q1
              simp at q1; subst q1; exact q2
            · simp at hj
          have hag : ∀ (j : Nat) (x : Value), ((y.cells.toList.drop o).take n)[j]? = some x → x.cells = #[x] ∧ sz = 1 := by
            intro j x hj
            have hjl : j < ((e.cells.drop o).take n).length := by
              have := (List.getElem?_eq_some_iff.1 hj).1
              rw [hex.length] at this
              exact this
            obtain ⟨x', q1, q2⟩ := hex.get (List.getElem?_eq_getElem hjl)
            rw [hj] at q1
            simp at q1; subst q1
            have hm := List.getElem_mem hjl
            have hd := List.all_eq_true.1 hin.2 _ hm
            have hg : isAg ((e.cells.drop o).take n)[j] = false := by
              revert hd
              cases ((e.cells.drop o).take n)[j] <;> simp [isAg]
            obtain ⟨r1, r2⟩ := q2.nonagg hg
            exact ⟨r1, by rw [← hsz _ hm, r2]; rfl⟩
          obtain ⟨k1, k2⟩ := key _ (g.σ id).b (i * (g.σ id).sz + o) hex (fun j x hj => by
            obtain ⟨r1, r2⟩ := hag j x hj
            rw [r1, r2]
            intro jj vv hjj
            cases jj with
            | zero =>
              simp at hjj; subst hjj
              rw [List.getElem?_take] at hj
              split at hj
              · rw [List.getElem?_drop] at hj
                have := p3 (o + j) x hj
                simpa [Nat.add_assoc] using this
              · simp at hj
            | succ m => simp at hjj)
          exact ⟨_, cap, k1, .inl ⟨_, _, by rw [hlen], by rw [hlen]; exact h1, k2⟩⟩
        · simp at h
      · simp at h
    · simp at h
  · simp at h

end Go.A3
