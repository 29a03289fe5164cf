/-
  The abstract machine is sound: two neighbours of a region change places.
-/
import Derived.Test.YtjgfmcbdojjegaaGreatDoorM18
namespace Go.A3

variable {X : Cx} {mu : Bool} {fr : Nat → Bool} {ops : Array Oper} {base : Lw}

theorem Heap.ext {H H' : Heap} (h1 : H.next = H'.next) (h2 : ∀ j, H.bl j = H'.bl j) : H = H' := by
  cases H; cases H'
  simp only [Heap.mk.injEq]
  exact ⟨h1, funext h2⟩

theorem Heap.set_comm (H : Heap) {a b : Nat} (h : a ≠ b) (x y : Option Blk) : (H.set a x).set b y = (H.set b y).set a x := by
  refine Heap.ext rfl fun j => ?_
  simp only [Heap.set_bl]
  by_cases h1 : j = a
  · have : j ≠ b := fun q => h (h1.symm.trans q)
    rw [if_neg this, if_pos h1, if_pos h1]
  · by_cases h2 : j = b
    · rw [if_pos h2, if_neg h1, if_pos h2]
    · rw [if_neg h2, if_neg h1, if_neg h1, if_neg h2]

theorem srcA_congr {H H2 : Heap} {sz : Nat} {k : Ki} {x : PV} (h : ∀ j, topId x j → H2.bl j = H.bl j) : srcA H2 sz k x = srcA H sz k x := by
  unfold srcA
  cases k <;> cases x <;> (try rfl) <;> simp only [elems_congr h]

theorem app_set {X : Cx} {ts : Array TypeId} {H H' : Heap} {b c : Nat} {s x v : PV} {k : Option Blk} (hbc : b ≠ c) (hs : ∀ j, topId s j → j ≠ c) (hx : ∀ j, topId x j → j ≠ c) (h : X.app ts H b s x = some (v, H')) :
    X.app ts (H.set c k) b s x = some (v, H'.set c k) := by
  obtain ⟨l⟩ := ts
  unfold Cx.app at h ⊢
  split at h
  case h_2 => simp at h
  rename_i t t1 hts
  have hts : l = [t, t1] := hts
  subst hts
  split at h
  case h_2 => simp at h
  rename_i u hk
  have hsrc : srcA (H.set c k) (X.ty u).size (X.ty t1).ki x = srcA H (X.ty u).size (X.ty t1).ki x := srcA_congr fun j hj => by simp [hx j hj]
  rw [hsrc]
  split at h
  · rename_i hint
    rw [if_pos hint]
    split at h
    · split at h
      · rename_i hc
        simp at h
        simp only [if_pos hc]
        rw [← h.1, ← h.2, Heap.set_comm _ hbc]
      · simp at h
    · simp at h
  rename_i hint
  rw [if_neg hint]
  split at h
  case h_2 => simp at h
  rename_i new hnew
  split at h
  · split at h
    · rename_i hc
      rw [if_pos hc]
      split at h
      · rename_i h0
        simp at h
        rw [if_pos h0, ← h.1, ← h.2]
      · rename_i h0
        simp at h
        rw [if_neg h0, ← h.1, ← h.2, Heap.set_comm _ hbc]
    · simp at h
  · split at h
    · rename_i hc
      rw [if_pos hc]
      split at h
      · rename_i h0
        simp at h
        rw [if_pos h0, ← h.1, ← h.2]
      · rename_i h0
        simp at h
        rw [if_neg h0, ← h.1, ← h.2, Heap.set_comm _ hbc]
    · simp at h
  · rename_i id i m
    have hid : id ≠ c := hs id rfl
    simp only [Heap.set_bl, if_neg hid]
    split at h
    · rename_i es sz hb
      split at h
      · rename_i hc
        simp at h
        rw [if_pos hc, ← h.1, ← h.2, Heap.set_comm _ hbc, Heap.set_comm _ hid]
      · simp at h
    · simp at h
  · simp at h

/-- What an append leaves alone. -/
theorem step_app {i : Nat} {o : Oper} {e : Env} {H H' : Heap} {v : PV} {c : Prop} (hk : sortOf mu o.op = .app) (h : stepOf X mu ops.toList base i o e H = .det v H' c) : (c → ∀ id, base.U id → H'.bl id = H.bl id) ∧
    ∀ (j : Nat) (k : Option Blk), j ≠ i → c → ∃ c', stepOf X mu ops.toList base i o e (H.set (base.b + j) k) = .det v (H'.set (base.b + j) k) c' ∧ (c → c') := by
  cases hw : wantedA ops.toList e o with
  | none => unfold stepOf at h; rw [hw] at h; simp at h
  | some b =>
    cases b with
    | false =>
      unfold stepOf at h ⊢
      rw [hw] at h
      simp only [SO.det.injEq] at h
      obtain ⟨rfl, rfl, rfl⟩ := h
      exact ⟨fun _ _ _ => rfl, fun j k _ _ => ⟨True, by rw [hw], fun h => h⟩⟩
    | true =>
      have hc : ∃ ar ts, o.op = .call ⟨.builtin .append, ar, ts⟩ := by
        cases hop : o.op <;> rw [hop] at hk <;> (try (simp [sortOf] at hk; done))
        case buildSlice => cases mu <;> simp [sortOf] at hk
        case call c =>
          obtain ⟨cal, ar, ts⟩ := c
          cases cal with
          | value x => simp [sortOf] at hk
          | invoke x y => simp [sortOf] at hk
          | builtin b => cases b <;> simp [sortOf] at hk; exact ⟨ar, ts, rfl⟩
      obtain ⟨ar, ts, hop⟩ := hc
      unfold stepOf at h ⊢
      rw [hw] at h
      simp only [hop] at h ⊢
      split at h
      · rename_i s x hsx
        split at h
        · rename_i v' H1 happ
          simp only [SO.det.injEq] at h
          obtain ⟨rfl, rfl, rfl⟩ := h
          refine ⟨fun h => h.2.2, fun j k hj hcc => ?_⟩
          have hb : base.b + i ≠ base.b + j := by omega
          have := app_set (X := X) (k := k) hb (fun q hq => by have := topId_low hcc.1 hq; omega) (fun q hq => by have := topId_low hcc.2.1 hq; omega) happ
          refine ⟨lowV (· < base.b) s ∧ lowV (· < base.b) x ∧ ∀ id, base.U id → (H1.set (base.b + j) k).bl id = (H.set (base.b + j) k).bl id, by rw [hw]; simp only [this], fun hcc => ⟨hcc.1, hcc.2.1, fun id hid => ?_⟩⟩
          simp only [Heap.set_bl]
          rw [hcc.2.2 id hid]
        · simp at h
      · simp at h

/-- What a store leaves alone. -/
theorem step_act {i : Nat} {o : Oper} {e : Env} {H H' : Heap} {v : PV} {c : Prop} (hk : sortOf mu o.op = .act) (h : stepOf X mu ops.toList base i o e H = .det v H' c) : c → ∀ id, base.U id → H'.bl id = H.bl id := by
  unfold stepOf at h
  split at h
  · simp at h
  · simp only [SO.det.injEq] at h
    obtain ⟨rfl, rfl, rfl⟩ := h
    exact fun _ _ _ => rfl
  · split at h
    · rename_i cc hc
      obtain ⟨cal, ar, ts⟩ := cc
      rw [hc] at hk
      cases cal with
      | value x => simp [sortOf] at hk
      | invoke x y => simp [sortOf] at hk
      | builtin b =>
        cases b <;> simp only [] at h <;> first
          | (simp [sortOf] at hk; done)
          | (split at h
             · simp only [SO.det.injEq] at h
               obtain ⟨rfl, rfl, rfl⟩ := h
               exact fun _ _ _ => rfl
             · simp at h)
    · unfold afterOp at h
      split at h
      · simp only [SO.det.injEq] at h
        obtain ⟨rfl, rfl, rfl⟩ := h
        exact fun q => q.2
      · simp at h

end Go.A3
