/-
  The abstract machine is sound: two neighbours of a region change places.
-/
import Derived.Test.YtjgfmcbdojjegaaGreatDoorM20
namespace Go.A3

variable {X : Cx} {mu : Bool} {fr : Nat → Bool} {ops : Array Oper} {base : Lw}

/-- Which kinds may come up in either order, and call nothing. -/
def KOk (mu : Bool) (fr : Nat → Bool) (i j : Nat) (oi oj : Oper) : Prop :=
  sortOf mu oj.op = .pure ∨ sortOf mu oi.op = .pure ∨ (sortOf mu oj.op = .load ∧ sortOf mu oi.op = .load) ∨ (sortOf mu oj.op = .make ∧ sortOf mu oi.op = .make) ∨
  (sortOf mu oj.op = .load ∧ sortOf mu oi.op = .make ∧ fr j = false) ∨ (sortOf mu oj.op = .make ∧ sortOf mu oi.op = .load ∧ fr i = false) ∨
  (fr j = false ∧ fr i = false ∧ ((sortOf mu oj.op = .call ∧ sortOf mu oi.op = .load) ∨ (sortOf mu oj.op = .load ∧ sortOf mu oi.op = .call) ∨ (sortOf mu oj.op = .app ∧ sortOf mu oi.op = .load) ∨
    (sortOf mu oj.op = .load ∧ sortOf mu oi.op = .app) ∨ (sortOf mu oj.op = .load ∧ sortOf mu oi.op = .act))) ∨
  (sortOf mu oj.op = .app ∧ sortOf mu oi.op = .make ∧ fr j = false) ∨ sortOf mu oj.op = .call

theorem opIds_of_low {i : Nat} {o : Oper} {e : Env} {c : Prop} {H2 H : Heap} (hl : c → wantedA ops.toList e o = some true → lowOp X e base o.op) (hc : c) (hb : ∀ id, base.U id → H2.bl id = H.bl id) (_ : i = i) : wantedA ops.toList e o = some true → ∀ j, opIds X e o.op j → H2.bl j = H.bl j :=
  fun hw j hj => hb j (opIds_low (hl hc hw) hj)

theorem still_id {o : Oper} {b : Nat} {s : Heap → SO} {v : PV} {H H' : Heap} {c : Prop} (hk : sortOf mu o.op = .pure) (h : Still (sortOf mu o.op = .make) b s) (hs : s H = .det v H' c) : H' = H ∧ ∀ H2, ∃ c2, s H2 = .det v H2 c2 ∧ c2 := by
  rcases h with h | ⟨v', F, hF, h⟩
  · rw [h H] at hs; simp at hs
  · have hFid : F = fun H => H := by
      rcases hF with h | ⟨h, _⟩
      · exact h
      · rw [hk] at h; simp at h
    subst hFid
    obtain ⟨c', h1, _⟩ := h H
    rw [hs] at h1
    simp only [SO.det.injEq] at h1
    obtain ⟨rfl, rfl, _⟩ := h1
    exact ⟨rfl, h⟩

theorem still_det {o : Oper} {b : Nat} {s : Heap → SO} {v : PV} {H H' : Heap} {c : Prop} (h : Still (sortOf mu o.op = .make) b s) (hs : s H = .det v H' c) :
    ∃ F : Heap → Heap, H' = F H ∧ (F = (fun H => H) ∨ ∃ k, F = fun H => H.set b (some k)) ∧ ∀ H2, ∃ c2, s H2 = .det v (F H2) c2 ∧ c2 := by
  rcases h with h | ⟨v', F, hF, h⟩
  · rw [h H] at hs; simp at hs
  · obtain ⟨c', h1, _⟩ := h H
    rw [hs] at h1
    simp only [SO.det.injEq] at h1
    obtain ⟨rfl, rfl, _⟩ := h1
    exact ⟨F, rfl, hF.imp id fun h => h.2, h⟩

/-- Two that call nothing. -/
theorem comm_det {i j : Nat} {oi oj : Oper} {e : Env} {H Hj Hi : Heap} {vj vi : PV} {cj ci : Prop} (hne : i ≠ j) (hk : KOk mu fr i j oi oj)
    (hj : stepOf X mu ops.toList base j oj e H = .det vj Hj cj) (hcj : fr j = true ∨ cj) (hi : stepOf X mu ops.toList base i oi e Hj = .det vi Hi ci) (hci : fr i = true ∨ ci) :
    ∃ Hi' ci' cj', stepOf X mu ops.toList base i oi e H = .det vi Hi' ci' ∧ (fr i = true ∨ ci') ∧ stepOf X mu ops.toList base j oj e Hi' = .det vj Hi cj' ∧ (fr j = true ∨ cj') := by
  have nocall : ∀ {k : Nat} {o : Oper} {H H' : Heap} {v : PV} {c : Prop}, sortOf mu o.op = .call → stepOf X mu ops.toList base k o e H = .det v H' c → ∀ H2, stepOf X mu ops.toList base k o e H2 = .det v H2 True ∧ H' = H := by
    intro k o H H' v c hs h H2
    cases hw : wantedA ops.toList e o with
    | none => unfold stepOf at h; rw [hw] at h; simp at h
    | some b =>
      cases b with
      | false =>
        unfold stepOf at h ⊢
        rw [hw] at h ⊢
        simp only [SO.det.injEq] at h
        obtain ⟨rfl, rfl, _⟩ := h
        exact ⟨rfl, rfl⟩
      | true =>
        unfold stepOf at h
        rw [hw] at h
        cases hop : o.op <;> rw [hop] at hs h <;> (try (simp [sortOf] at hs; done))
        case buildSlice => cases mu <;> simp [sortOf] at hs
        case call c =>
          obtain ⟨cal, ar, ts⟩ := c
          cases cal with
          | value x => simp only [] at h; split at h <;> simp at h
          | invoke x y => simp only [] at h; split at h <;> simp at h
          | builtin b => cases b <;> simp [sortOf] at hs
  have simple : ∀ Hi' ci' cj', stepOf X mu ops.toList base i oi e H = .det vi Hi' ci' → (fr i = true ∨ ci') → stepOf X mu ops.toList base j oj e Hi' = .det vj Hi cj' → (fr j = true ∨ cj') → _ := fun Hi' ci' cj' a b c d => (⟨Hi', ci', cj', a, b, c, d⟩ : ∃ Hi' ci' cj', stepOf X mu ops.toList base i oi e H = .det vi Hi' ci' ∧ (fr i = true ∨ ci') ∧ stepOf X mu ops.toList base j oj e Hi' = .det vj Hi cj' ∧ (fr j = true ∨ cj'))
  have hbij : base.b + i ≠ base.b + j := by omega
  rcases hk with hk | hk | ⟨hk, hk'⟩ | ⟨hk, hk'⟩ | ⟨hk, hk', hf⟩ | ⟨hk, hk', hf⟩ | ⟨hfj, hfi, hk⟩ | ⟨hk, hk', hf⟩ | hk
  · obtain ⟨rfl, hst⟩ := still_id hk (step_still (X := X) e (.inl hk)) hj
    obtain ⟨c2, h2, hc2⟩ := hst Hi
    exact simple Hi ci c2 hi hci h2 (.inr hc2)
  · obtain ⟨rfl, hst⟩ := still_id hk (step_still (X := X) e (.inl hk)) hi
    obtain ⟨c2, h2, hc2⟩ := hst H
    exact simple H c2 cj h2 (.inr hc2) hj hcj
  · rcases step_look (X := X) (ops := ops.toList) (base := base) (i := j) (e := e) (H := H) (H2 := H) hk (fun _ _ _ => rfl) with ⟨h, _⟩ | ⟨v, c, h, _, _⟩
    · rw [hj] at h; simp at h
    · rw [hj] at h
      simp only [SO.det.injEq] at h
      obtain ⟨rfl, rfl, rfl⟩ := h
      rcases step_look (X := X) (ops := ops.toList) (base := base) (i := i) (e := e) (H := Hj) (H2 := Hj) hk' (fun _ _ _ => rfl) with ⟨h, _⟩ | ⟨v, c, h, _, _⟩
      · rw [hi] at h; simp at h
      · rw [hi] at h
        simp only [SO.det.injEq] at h
        obtain ⟨rfl, rfl, rfl⟩ := h
        exact simple _ _ _ hi hci hj hcj
  · obtain ⟨Fj, rfl, hFj, hsj⟩ := still_det (step_still (X := X) e (.inr hk)) hj
    obtain ⟨Fi, rfl, hFi, hsi⟩ := still_det (step_still (X := X) e (.inr hk')) hi
    obtain ⟨c1, h1, hc1⟩ := hsi H
    obtain ⟨c2, h2, hc2⟩ := hsj (Fi H)
    refine simple (Fi H) c1 c2 h1 (.inr hc1) ?_ (.inr hc2)
    rw [h2]
    congr 1
    rcases hFj with rfl | ⟨kj, rfl⟩ <;> rcases hFi with rfl | ⟨ki, rfl⟩ <;> first | rfl | exact Heap.set_comm _ hbij _ _
  · obtain ⟨Fi, rfl, hFi, hsi⟩ := still_det (step_still (X := X) e (.inr hk')) hi
    obtain ⟨c1, h1, hc1⟩ := hsi H
    have hcj' : cj := hcj.resolve_left (by simp [hf])
    rcases step_look (X := X) (ops := ops.toList) (base := base) (i := j) (e := e) (H := H) (H2 := H) hk (fun _ _ _ => rfl) with ⟨h, _⟩ | ⟨v, c, h, _, hl⟩
    · rw [hj] at h; simp at h
    · rw [hj] at h
      simp only [SO.det.injEq] at h
      obtain ⟨rfl, rfl, rfl⟩ := h
      have hb : ∀ id, base.U id → (Fi Hj).bl id = Hj.bl id := by
        intro id hid
        rcases hFi with rfl | ⟨k, rfl⟩
        · rfl
        · have := base.low id hid; simp; omega
      rcases step_look (X := X) (ops := ops.toList) (base := base) (i := j) (e := e) (H := Hj) (H2 := Fi Hj) hk (opIds_of_low (i := 0) hl hcj' hb rfl) with ⟨h, _⟩ | ⟨v, c, h, h', _⟩
      · rw [hj] at h; simp at h
      · rw [hj] at h
        simp only [SO.det.injEq] at h
        obtain ⟨rfl, _, rfl⟩ := h
        exact simple _ c1 _ h1 (.inr hc1) h' hcj
  · obtain ⟨Fj, rfl, hFj, hsj⟩ := still_det (step_still (X := X) e (.inr hk)) hj
    have hci' : ci := hci.resolve_left (by simp [hf])
    rcases step_look (X := X) (ops := ops.toList) (base := base) (i := i) (e := e) (H := Fj H) (H2 := Fj H) hk' (fun _ _ _ => rfl) with ⟨h, _⟩ | ⟨v, c, h, _, hl⟩
    · rw [hi] at h; simp at h
    · rw [hi] at h
      simp only [SO.det.injEq] at h
      obtain ⟨rfl, rfl, rfl⟩ := h
      have hb : ∀ id, base.U id → H.bl id = (Fj H).bl id := by
        intro id hid
        rcases hFj with rfl | ⟨k, rfl⟩
        · rfl
        · have := base.low id hid; simp; omega
      rcases step_look (X := X) (ops := ops.toList) (base := base) (i := i) (e := e) (H := Fj H) (H2 := H) hk' (opIds_of_low (i := 0) hl hci' hb rfl) with ⟨h, _⟩ | ⟨v, c, h, h', _⟩
      · rw [hi] at h; simp at h
      · rw [hi] at h
        simp only [SO.det.injEq] at h
        obtain ⟨rfl, _, rfl⟩ := h
        obtain ⟨c2, h2, hc2⟩ := hsj H
        exact simple _ _ c2 h' hci h2 (.inr hc2)
  · have hcj' : cj := hcj.resolve_left (by simp [hfj])
    have hci' : ci := hci.resolve_left (by simp [hfi])
    -- a load in front
    have loadj : sortOf mu oj.op = .load → (∀ Hx, stepOf X mu ops.toList base i oi e H = .det vi Hx ci → ∀ id, base.U id → Hx.bl id = H.bl id) →
        ∃ Hi' ci' cj', stepOf X mu ops.toList base i oi e H = .det vi Hi' ci' ∧ (fr i = true ∨ ci') ∧ stepOf X mu ops.toList base j oj e Hi' = .det vj Hi cj' ∧ (fr j = true ∨ cj') := by
      intro hk hb
      rcases step_look (X := X) (ops := ops.toList) (base := base) (i := j) (e := e) (H := H) (H2 := H) hk (fun _ _ _ => rfl) with ⟨h, _⟩ | ⟨v, c, h, _, hl⟩
      · rw [hj] at h; simp at h
      · rw [hj] at h
        simp only [SO.det.injEq] at h
        obtain ⟨rfl, rfl, rfl⟩ := h
        rcases step_look (X := X) (ops := ops.toList) (base := base) (i := j) (e := e) (H := Hj) (H2 := Hi) hk (opIds_of_low (i := 0) hl hcj' (hb _ hi) rfl) with ⟨h, _⟩ | ⟨v, c, h, h', _⟩
        · rw [hj] at h; simp at h
        · rw [hj] at h
          simp only [SO.det.injEq] at h
          obtain ⟨rfl, _, rfl⟩ := h
          exact simple _ _ _ hi hci h' hcj
    -- a load behind
    have loadi : sortOf mu oi.op = .load → (∀ id, base.U id → Hj.bl id = H.bl id) →
        ∃ Hi' ci' cj', stepOf X mu ops.toList base i oi e H = .det vi Hi' ci' ∧ (fr i = true ∨ ci') ∧ stepOf X mu ops.toList base j oj e Hi' = .det vj Hi cj' ∧ (fr j = true ∨ cj') := by
      intro hk' hb
      rcases step_look (X := X) (ops := ops.toList) (base := base) (i := i) (e := e) (H := Hj) (H2 := Hj) hk' (fun _ _ _ => rfl) with ⟨h, _⟩ | ⟨v, c, h, _, hl⟩
      · rw [hi] at h; simp at h
      · rw [hi] at h
        simp only [SO.det.injEq] at h
        obtain ⟨rfl, rfl, rfl⟩ := h
        rcases step_look (X := X) (ops := ops.toList) (base := base) (i := i) (e := e) (H := Hi) (H2 := H) hk' (opIds_of_low (i := 0) hl hci' (fun id hid => (hb id hid).symm) rfl) with ⟨h, _⟩ | ⟨v, c, h, h', _⟩
        · rw [hi] at h; simp at h
        · rw [hi] at h
          simp only [SO.det.injEq] at h
          obtain ⟨rfl, _, rfl⟩ := h
          exact simple _ _ _ h' hci hj hcj
    rcases hk with ⟨hk, hk'⟩ | ⟨hk, hk'⟩ | ⟨hk, hk'⟩ | ⟨hk, hk'⟩ | ⟨hk, hk'⟩
    · obtain ⟨_, rfl⟩ := nocall hk hj H
      exact loadi hk' fun _ _ => rfl
    · obtain ⟨h1, h2⟩ := nocall hk' hi H
      exact loadj hk fun Hx hx id hid => by
        obtain ⟨_, h4⟩ := nocall hk' hx H
        rw [h4]
    · exact loadi hk' fun id hid => (step_app hk hj).1 hcj' id hid
    · exact loadj hk fun Hx hx id hid => (step_app hk' hx).1 hci' id hid
    · exact loadj hk fun Hx hx id hid => step_act hk' hx hci' id hid
  · obtain ⟨Fi, rfl, hFi, hsi⟩ := still_det (step_still (X := X) e (.inr hk')) hi
    obtain ⟨c1, h1, hc1⟩ := hsi H
    rcases hFi with rfl | ⟨k, rfl⟩
    · exact simple H c1 cj h1 (.inr hc1) hj hcj
    · obtain ⟨c', h2, hc2⟩ := (step_app hk hj).2 i (some k) hne (hcj.resolve_left (by simp [hf]))
      exact simple _ c1 c' h1 (.inr hc1) h2 (hcj.imp_right hc2)
  · obtain ⟨h1, rfl⟩ := nocall hk hj H
    obtain ⟨h2, _⟩ := nocall hk hj Hi
    exact simple Hi ci True hi hci h2 (.inr trivial)

end Go.A3
