/-
  The abstract machine is sound: what makes memory, and what writes it.
-/
import Derived.Test.YtjgfmcbdojjegaaGreatDoorM8
import Derived.Great.BuildSlice
namespace Go.A3

/-! ### Cells that are set -/

def setA : Array Value → Nat → List Value → Array Value
  | cs, _, [] => cs
  | cs, o, v :: vs => setA (cs.setIfInBounds o v) (o + 1) vs

theorem setA_size : ∀ (vs : List Value) (cs : Array Value) (o : Nat), (setA cs o vs).size = cs.size
  | [], _, _ => rfl
  | v :: vs, cs, o => by simp [setA, setA_size vs]

theorem setA_get : ∀ (vs : List Value) (cs : Array Value) (o k : Nat), o + vs.length ≤ cs.size →
    (setA cs o vs)[k]? = if o ≤ k ∧ k < o + vs.length then vs[k - o]? else cs[k]?
  | [], cs, o, k, _ => by
    rw [if_neg (by simp only [List.length_nil]; omega)]
    rfl
  | v :: vs, cs, o, k, h => by
    simp only [List.length_cons] at h
    rw [setA, setA_get vs _ _ _ (by simp; omega)]
    by_cases e : k = o
    · subst e
      have : ¬ (k + 1 ≤ k ∧ k < k + 1 + vs.length) := by omega
      have hk : k < cs.size := by omega
      rw [if_neg this, if_pos (by simp)]
      simp [hk]
    · by_cases h1 : o + 1 ≤ k ∧ k < o + 1 + vs.length
      · rw [if_pos h1, if_pos (by simp; omega)]
        have : k - o = (k - (o + 1)) + 1 := by omega
        rw [this]
        simp
      · rw [if_neg h1, if_neg (by simp; omega)]
        rw [Array.getElem?_setIfInBounds_ne (by omega)]

theorem foldl_setA : ∀ (l : List Value) (cs : Array Value) (off k : Nat), (l.zipIdx k).foldl (fun (cs : Array Value) (p : Value × Nat) => cs.setIfInBounds (off + p.2) p.1) cs = setA cs (off + k) l
  | [], _, _, _ => rfl
  | v :: l, cs, off, k => by
    simp only [List.zipIdx_cons, List.foldl_cons, setA]
    rw [foldl_setA l _ off (k + 1), Nat.add_assoc]

theorem foldl_setA' (c : Array Value) (cs : Array Value) (off : Nat) : c.zipIdx.foldl (fun cs (x, j) => cs.setIfInBounds (off + j) x) cs = setA cs off c.toList := by
  have := foldl_setA c.toList cs off 0
  rw [Nat.add_zero] at this
  rw [← this, ← Array.foldl_toList, Array.toList_zipIdx]

theorem setR_length : ∀ (vs cs : List PV) (o : Nat), (setR cs o vs).length = cs.length
  | [], _, _ => rfl
  | v :: vs, cs, o => by simp [setR, setR_length vs]

theorem setR_get : ∀ (vs cs : List PV) (o k : Nat), o + vs.length ≤ cs.length →
    (setR cs o vs)[k]? = if o ≤ k ∧ k < o + vs.length then vs[k - o]? else cs[k]?
  | [], cs, o, k, _ => by
    rw [if_neg (by simp only [List.length_nil]; omega)]
    rfl
  | v :: vs, cs, o, k, h => by
    simp only [List.length_cons] at h
    rw [setR, setR_get vs _ _ _ (by simp; omega)]
    by_cases e : k = o
    · subst e
      have : ¬ (k + 1 ≤ k ∧ k < k + 1 + vs.length) := by omega
      have hk : k < cs.length := by omega
      rw [if_neg this, if_pos (by simp)]
      simp [hk]
    · by_cases h1 : o + 1 ≤ k ∧ k < o + 1 + vs.length
      · rw [if_pos h1, if_pos (by simp; omega)]
        have : k - o = (k - (o + 1)) + 1 := by omega
        rw [this]
        simp
      · rw [if_neg h1, if_neg (by simp; omega)]
        rw [List.getElem?_set_ne (by omega)]

theorem LR.set {g : Gs} {cs vs : List PV} {a : Array Value} {l : List Value} {o : Nat} (h : LR g cs a.toList) (hv : LR g vs l) (ho : o + vs.length ≤ cs.length) : LR g (setR cs o vs) (setA a o l).toList := by
  have h1 := h.length
  have h2 := hv.length
  refine LR.mk (by simp [setA_size, setR_length] at h1 ⊢; exact h1) fun j c v hj hj' => ?_
  rw [setR_get _ _ _ _ ho] at hj
  have hj' : (setA a o l)[j]? = some v := by simpa using hj'
  rw [setA_get _ _ _ _ (by simp at h1; omega), h2] at hj'
  split at hj
  · rename_i hb
    rw [if_pos hb] at hj'
    obtain ⟨v', q1, q2⟩ := hv.get hj
    rw [hj'] at q1
    simp at q1; subst q1; exact q2
  · rename_i hb
    rw [if_neg hb] at hj'
    obtain ⟨v', q1, q2⟩ := h.get hj
    simp at q1
    rw [hj'] at q1
    simp at q1; subst q1; exact q2

/-- Parts side by side. -/
def PR (g : Gs) (ps : List (Nat × PV)) (vs : List (Nat × Value)) : Prop :=
  ps.map (·.1) = vs.map (·.1) ∧ LR g (ps.map (·.2)) (vs.map (·.2))

theorem PR.cons {g : Gs} {i : Nat} {p : PV} {ps : List (Nat × PV)} {vs : List (Nat × Value)} (h : PR g ((i, p) :: ps) vs) : ∃ v r, vs = (i, v) :: r ∧ VR g p v ∧ PR g ps r := by
  obtain ⟨h1, h2⟩ := h
  cases vs with
  | nil => simp at h1
  | cons x r =>
    simp at h1
    simp only [List.map_cons] at h2
    unfold LR at h2
    obtain ⟨v, r', e, h3, h4⟩ := h2
    simp at e
    obtain ⟨rfl, rfl⟩ := e
    refine ⟨x.2, r, by rw [h1.1], h3, h1.2, h4⟩

theorem PR.nil {g : Gs} {vs : List (Nat × Value)} (h : PR g [] vs) : vs = [] := by
  have := h.1
  simpa using this.symm

theorem fill_ok {g : Gs} {place place' : Nat → Option (Nat × Nat)} (hp : ∀ i p, place i = some p → place' i = some p) : ∀ {ps : List (Nat × PV)} {cs out : List PV} {vs : List (Nat × Value)} {a : Array Value},
    fillP place cs ps = some out → LR g cs a.toList → PR g ps vs → ∃ a', Instr.fill place' a vs = some a' ∧ LR g out a'.toList
  | [], cs, out, vs, a, h, hc, hv => by
    rw [hv.nil]
    simp [fillP] at h; subst h
    exact ⟨a, rfl, hc⟩
  | (i, p) :: ps, cs, out, vs, a, h, hc, hv => by
    obtain ⟨v, r, rfl, h1, h2⟩ := hv.cons
    unfold fillP at h
    cases hi : place i with
    | none => simp [hi] at h
    | some q =>
      obtain ⟨off, size⟩ := q
      simp only [hi] at h
      split at h
      · rename_i hb
        have hl := hc.length
        have hsz := h1.size
        obtain ⟨a', q1, q2⟩ := fill_ok hp h (hc.set h1.cells hb.2) h2
        refine ⟨a', ?_, q2⟩
        unfold Instr.fill
        simp only [hp i _ hi]
        have c1 : ¬ (v.cells.size ≠ size || off + v.cells.size > a.size) = true := by
          simp at hl ⊢; omega
        rw [if_neg c1, foldl_setA']
        exact q1
      · simp at h

theorem build_ok {X : Cx} {g : Gs} {t : Nat} {ps : List (Nat × PV)} {vs : Array (Nat × Value)} {v : PV} (hv : PR g ps vs.toList) (hk : (X.ty t).ki ≠ .other)
    (hz : ∀ fs, (X.ty t).ki = .struct fs → ∀ f ∈ fs, 0 < (X.ty f.2).size) (hz' : ∀ n u, (X.ty t).ki = .arr n u → 0 < (X.ty u).size) (h : X.build t ps = some v) : Gives X.P (Instr.build t vs) g.w g v := by
  obtain ⟨i, d, z, hi, hd, hzz, hok, et⟩ := tyOf_known (P := X.P) (t := t) (.inl hk)
  have hzero : LR g (X.ty t).zero.cells z.cells.toList := by
    have : (X.ty t).zero = ofZ z := by unfold Cx.ty; rw [et]
    rw [this]
    exact (VR.ofZ hok).cells
  unfold Cx.build at h
  split at h
  · rename_i fs hks
    obtain ⟨fa, hu, rfl⟩ := tyOf_struct hks
    cases hf : fillP (fun i => ((fa.toList.map fun f => (f.offset, f.type))[i]?).map fun f => (f.1, (X.ty f.2).size)) (X.ty t).zero.cells ps with
    | none => rw [hf] at h; simp at h
    | some out =>
      rw [hf] at h
      simp at h; subst h
      have hm : fa.toList.mapM (fun f => (X.P.info? f.type).map fun i => (f.offset, i.size)) = some (fa.toList.map fun f => (f.offset, (X.ty f.type).size)) := by
        have hall : ∀ f ∈ fa.toList, (X.P.info? f.type).map (fun i => (f.offset, i.size)) = some (f.offset, (X.ty f.type).size) := by
          intro f hfm
          have := hz _ hks (f.offset, f.type) (List.mem_map.2 ⟨f, hfm, rfl⟩)
          obtain ⟨i', d', z', hi', _, _, _, et'⟩ := tyOf_known (P := X.P) (t := f.type) (.inr this)
          unfold Cx.ty
          rw [hi', et']
          rfl
        revert hall
        generalize fa.toList = l
        intro hall
        induction l with
        | nil => rfl
        | cons f l ih => simp [List.mapM_cons, hall f (by simp), ih (fun x hx => hall x (by simp [hx]))]
      obtain ⟨a', q1, q2⟩ := fill_ok (place' := fun k => (fa.toList.map fun f => (f.offset, (X.ty f.type).size)).toArray[k]?) (fun k p hp => by
        simp at hp ⊢
        obtain ⟨f, h1, h2⟩ := hp
        exact ⟨f, h1, h2⟩) hf hzero hv
      refine ⟨.agg a', run_build g.w t vs a' ?_, by unfold VR; exact ⟨a', rfl, q2⟩⟩
      unfold Program.built
      simp only [hi, hu, hzz, hm, q1]
  · rename_i n u hks
    have hu := tyOf_arr hks
    obtain ⟨i', d', z', hi', _, _, _, et'⟩ := tyOf_known (P := X.P) (t := u) (.inr (hz' n u hks))
    have hsu : (X.ty u).size = i'.size := by unfold Cx.ty; rw [et']
    cases hf : fillP (fun i => some (i * (X.ty u).size, (X.ty u).size)) (X.ty t).zero.cells ps with
    | none => rw [hf] at h; simp at h
    | some out =>
      rw [hf] at h
      simp at h; subst h
      obtain ⟨a', q1, q2⟩ := fill_ok (place' := fun k => some (k * i'.size, i'.size)) (fun k p hp => by rw [← hp, hsu]) hf hzero hv
      refine ⟨.agg a', run_build g.w t vs a' ?_, by unfold VR; exact ⟨a', rfl, q2⟩⟩
      unfold Program.built
      simp only [hi, hu, hzz, hi', q1]
  · simp at h

end Go.A3
