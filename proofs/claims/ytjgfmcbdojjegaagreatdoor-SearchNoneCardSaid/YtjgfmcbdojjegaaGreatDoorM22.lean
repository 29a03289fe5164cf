/-
  The abstract machine is sound: two neighbours of a region change places, calls included.
-/
import Derived.Test.YtjgfmcbdojjegaaGreatDoorM21
namespace Go.A3

variable {X : Cx} {mu : Bool} {fr : Nat → Bool} {ops : Array Oper} {base : Lw}

/-- A step that calls nothing makes nothing but what lies at b. -/
structure Keep (b : Nat) (H H' : Heap) : Prop where
  next : H'.next = H.next
  bl : ∀ id, id ≠ b → H.bl id = none → H'.bl id = none

theorem Keep.refl (b : Nat) (H : Heap) : Keep b H H := ⟨rfl, fun _ _ h => h⟩
theorem Keep.set (b : Nat) (H : Heap) (k : Option Blk) : Keep b H (H.set b k) := ⟨rfl, fun id hne h => by simp [hne, h]⟩
theorem Keep.map {b : Nat} {H H' : Heap} {r : Option PV} {v : PV} (h : r.map (fun v => (v, H)) = some (v, H')) : Keep b H H' := by
  cases r with
  | none => simp at h
  | some y => simp at h; rw [← h.2]; exact Keep.refl _ _

theorem store_keep {t : TypeId} {H H' : Heap} {v p : PV} {b : Nat} (h : X.store t H v p = some H') : Keep b H H' := by
  unfold Cx.store at h
  split at h
  case h_2 => simp at h
  split at h
  case h_2 => simp at h
  rename_i hb
  split at h
  case h_2 => simp at h
  split at h
  · split at h
    · simp at h
      subst h
      refine ⟨rfl, fun j _ hj => ?_⟩
      simp only [Heap.set_bl]
      split
      · rename_i hq
        subst hq; rw [hb] at hj; simp at hj
      · exact hj
    · simp at h
  · simp at h

theorem mapUpd_keep {t : TypeId} {H H' : Heap} {m k x : PV} {b : Nat} (h : X.mapUpd t H m k x = some H') : Keep b H H' := by
  unfold Cx.mapUpd at h
  split at h
  · rename_i kt et id hki
    split at h
    · split at h
      · rename_i es hb
        have key : ∀ es', Keep b H (H.set id (some (.map es'))) := fun es' => ⟨rfl, fun j _ hj => by
          simp only [Heap.set_bl]
          split
          · rename_i hq
            subst hq; rw [hb] at hj; simp at hj
          · exact hj⟩
        split at h
        · simp at h; subst h; exact key _
        · simp at h; subst h; exact key _
        · simp at h
      · simp at h
    · simp at h
  · simp at h

theorem op_keep {e : Env} {H H' : Heap} {b : Nat} {o : Op} {v : PV} (h : X.op mu e H b o = some (v, H')) : Keep b H H' := by
  unfold Cx.op at h
  cases o <;> simp only [] at h <;> first
    | (simp at h; done)
    | exact Keep.map h
    | (simp only [Option.some.injEq, Prod.mk.injEq] at h; rw [← h.2]; first | exact Keep.refl _ _ | exact Keep.set _ _ _)
    | ((repeat' split at h) <;> first
        | (simp at h; done)
        | exact Keep.map h
        | (simp only [Option.some.injEq, Prod.mk.injEq] at h; rw [← h.2]; first | exact Keep.refl _ _ | exact Keep.set _ _ _))
    | skip
  case makeMap t r =>
    cases r <;> simp at h
    rw [← h.2]; exact Keep.set _ _ _
  case store t a x =>
    cases hs : X.store t H (X.ev e x) (X.ev e a) with
    | none => rw [hs] at h; simp at h
    | some H1 => rw [hs] at h; simp at h; rw [← h.2]; exact store_keep hs

  case mapUpdate t m k x =>
    cases hs : X.mapUpd t H (X.ev e m) (X.ev e k) (X.ev e x) with
    | none => rw [hs] at h; simp at h
    | some H1 => rw [hs] at h; simp at h; rw [← h.2]; exact mapUpd_keep hs

theorem app_keep {ts : Array TypeId} {H H' : Heap} {b : Nat} {s x v : PV} (h : X.app ts H b s x = some (v, H')) : Keep b H H' := by
  unfold Cx.app at h
  (repeat' split at h) <;> first
    | (simp at h; done)
    | (simp only [Option.some.injEq, Prod.mk.injEq] at h; rw [← h.2]; first | exact Keep.refl _ _ | exact Keep.set _ _ _ | exact ⟨rfl, fun id hne h0 => by simp only [Heap.set_bl, if_neg hne, h0]; split <;> rfl⟩)

theorem stepOf_keep {i : Nat} {o : Oper} {e : Env} {H H' : Heap} {v : PV} {c : Prop} (h : stepOf X mu ops.toList base i o e H = .det v H' c) : Keep (base.b + i) H H' := by
  unfold stepOf at h
  split at h
  · simp at h
  · simp only [SO.det.injEq] at h
    rw [← h.2.1]; exact Keep.refl _ _
  · split at h
    · split at h
      · split at h
        · split at h
          · rename_i happ
            simp only [SO.det.injEq] at h
            rw [← h.2.1]; exact app_keep happ
          · simp at h
        · simp at h
      · split at h
        · simp only [SO.det.injEq] at h
          rw [← h.2.1]; exact Keep.refl _ _
        · simp at h
      · split at h <;> simp at h
    · unfold afterOp at h
      split at h
      · rename_i hop
        simp only [SO.det.injEq] at h
        rw [← h.2.1]; exact op_keep hop
      · simp at h

theorem stepOf_call {i : Nat} {o : Oper} {e : Env} {H : Heap} {f : FuncId} {args : List PV} (h : stepOf X mu ops.toList base i o e H = .call f args) :
    sortOf mu o.op = .call ∧ ∀ H2, stepOf X mu ops.toList base i o e H2 = .call f args := by
  unfold stepOf at h ⊢
  split at h
  · simp at h
  · simp at h
  · split at h
    · rename_i c hc
      obtain ⟨cal, ar, ts⟩ := c
      split at h
      · split at h
        · split at h <;> simp at h
        · simp at h
      · split at h <;> simp at h
      · rename_i hn1 hn2
        simp only [] at hn1 hn2
        refine ⟨?_, fun H2 => ?_⟩
        · rw [hc]; cases cal with
          | builtin b => exact (hn2 b rfl).elim
          | value x => rfl
          | invoke x y => rfl
        · cases cal with
          | builtin b => exact (hn2 b rfl).elim
          | value x => simpa only [hc] using h
          | invoke x y => simpa only [hc] using h
    · unfold afterOp at h
      split at h <;> simp at h

theorem CallsA.new {f : FuncId} {args : List PV} {H : Heap} {Post : PV → Heap → Prop} (h : CallsA X f args H Post) :
    CallsA X f args H fun r H' => Post r H' ∧ H.next ≤ H'.next ∧ ∀ id, id < H.next → H.bl id = none → H'.bl id = none :=
  ⟨h.1, fun g hs argv ha => (h.2 g hs argv ha).mono fun _ _ ⟨r, H', g', v, h1, h2, h3, h4, h5, h6, h7⟩ => ⟨r, H', g', v, h1, h2, h3, h4, h5, h6, h7, h5.next, h5.bl⟩⟩

/-- A call leaves alone what is not in its reach. -/
theorem CallsA.frame {f : FuncId} {args : List PV} {H : Heap} {Post : PV → Heap → Prop} (h : CallsA X f args H Post) {b : Nat} {k : Blk} (h0 : H.bl b = none) (hb : b < H.next) :
    CallsA X f args (H.set b (some k)) fun r H'' => ∃ H1, Post r H1 ∧ H1.bl b = none ∧ H'' = H1.set b (some k) := by
  refine ⟨h.1, fun g hs argv ha => ?_⟩
  have up : ∀ id, H.bl id ≠ none → (H.set b (some k)).bl id ≠ none := by
    intro id hid
    simp only [Heap.set_bl]
    split
    · simp
    · exact hid
  have hbb : (H.set b (some k)).bl b = some k := by simp
  have hne : ∀ id, H.bl id ≠ none → id ≠ b := by
    rintro id hid rfl
    exact hid h0
  have hs0 : SR X g H := by
    refine ⟨hs.nx, fun id hid => hs.live id (up id hid), fun id b' hid => hs.blk id b' ?_, fun i j hi hj => hs.inj i j (up i hi) (up j hj), fun id hid => hs.apart id (up id hid), hs.old, hs.glob⟩
    simp only [Heap.set_bl]
    rw [if_neg (hne id (by rw [hid]; simp)), hid]
  have hKb : g.K b := hs.live b (by rw [hbb]; simp)
  have hblk := hs.blk b k hbb
  have hlt := hblk.lt
  have hfar : ∀ id, H.bl id ≠ none → (g.σ id).b ≠ (g.σ b).b := by
    intro id hid q
    exact hne id hid (hs.inj id b (up id hid) (by rw [hbb]; simp) q)
  refine (h.2 g hs0 argv ha).mono ?_
  rintro en w' ⟨r, H1, g', v, h1, h2, hs', hst, hnew, hv, hp⟩
  have hσ : g'.σ b = g.σ b := hst.ext.σ b hKb
  have hH1 : H1.bl b = none := hnew.bl b hb h0
  have hne1 : ∀ id, H1.bl id ≠ none → id ≠ b := by
    rintro id hid rfl
    exact hid hH1
  have hfar1 : ∀ id, H1.bl id ≠ none → (g'.σ id).b ≠ (g.σ b).b := by
    intro id hid q
    rcases hst.range id hid with ⟨i, hi, e'⟩ | hle
    · exact hfar i hi (e'.trans q)
    · omega
  have low : ∀ id, id ≠ b → (H1.set b (some k)).bl id ≠ none → H1.bl id ≠ none := by
    intro id hid hl
    simp only [Heap.set_bl] at hl
    rwa [if_neg hid] at hl
  refine ⟨r, H1.set b (some k), g', v, h1, h2, ⟨hs'.nx, fun id hid => ?_, fun id b' hid => ?_, fun i j hi hj q => ?_, fun id hid o hS => ?_, hs'.old, hs'.glob⟩, ⟨hst.ext, fun c hc hn => ?_, hst.size, fun id hid => ?_, fun c o hS => ?_, hst.io⟩, ⟨hnew.K, fun id hid hn => ?_, hnew.next⟩, hv, H1, hp, hH1, rfl⟩
  · by_cases q : id = b
    · subst q; exact hst.ext.K _ hKb
    · exact hs'.live id (low id q hid)
  · by_cases q : id = b
    · subst q
      simp at hid
      subst hid
      rw [hσ]
      exact hblk.mono hst.ext (hst.frame _ hlt fun id hid => hfar id hid)
    · simp only [Heap.set_bl] at hid
      rw [if_neg q] at hid
      exact hs'.blk id b' hid
  · by_cases qi : i = b
    · by_cases qj : j = b
      · rw [qi, qj]
      · rw [qi, hσ] at q
        exact (hfar1 j (low j qj hj) q.symm).elim
    · by_cases qj : j = b
      · rw [qj, hσ] at q
        exact (hfar1 i (low i qi hi) q).elim
      · exact hs'.inj i j (low i qi hi) (low j qj hj) q
  · by_cases q : id = b
    · subst q
      rw [hσ] at hS
      rcases hst.newS _ _ hS with hS | ⟨i, hi, e'⟩ | hle
      · exact hs.apart id (by rw [hbb]; simp) o hS
      · exact hfar i hi e'
      · omega
    · exact hs'.apart id (low id q hid) o hS
  · exact hst.frame c hc fun id hid => hn id (up id hid)
  · by_cases q : id = b
    · subst q
      exact .inl ⟨id, by rw [hbb]; simp, by rw [hσ]⟩
    · rcases hst.range id (low id q hid) with ⟨i, hi, e'⟩ | hle
      · exact .inl ⟨i, up i hi, e'⟩
      · exact .inr hle
  · rcases hst.newS c o hS with hS | ⟨i, hi, e'⟩ | hle
    · exact .inl hS
    · exact .inr (.inl ⟨i, up i hi, e'⟩)
    · exact .inr (.inr hle)
  · have q : id ≠ b := by
      rintro rfl
      rw [hbb] at hn; simp at hn
    simp only [Heap.set_bl, if_neg q] at hn ⊢
    exact hnew.bl id hid hn

/-- What is still to be made is not there yet. -/
structure Inv (base n : Nat) (l : List Nat) (H : Heap) : Prop where
  next : base + n ≤ H.next
  bl : ∀ i ∈ l, i < n ∧ H.bl (base + i) = none

theorem Inv.keep {n i : Nat} {l : List Nat} {H H' : Heap} (h : Inv base.b n l H) (k : Keep (base.b + i) H H') (hi : i ∉ l) : Inv base.b n l H' :=
  ⟨by rw [k.next]; exact h.next, fun j hj => ⟨(h.bl j hj).1, k.bl _ (by have : j ≠ i := fun q => hi (q ▸ hj); omega) (h.bl j hj).2⟩⟩

theorem Inv.tail {n i : Nat} {l : List Nat} {H : Heap} (h : Inv base.b n (i :: l) H) : Inv base.b n l H :=
  ⟨h.next, fun j hj => h.bl j (.tail _ hj)⟩

theorem StepP.inv {n i : Nat} {o : Oper} {K K2 : Env → Heap → Prop} {e : Env} {H : Heap} {l : List Nat} (hI : Inv base.b n l H) (hi : i ∉ l) (h : StepP X mu fr ops.toList base i o K e H)
    (hk : ∀ e' H', Inv base.b n l H' → K e' H' → K2 e' H') : StepP X mu fr ops.toList base i o K2 e H := by
  unfold StepP at h ⊢
  split at h
  · rename_i v H' c hs
    exact ⟨h.1, hk _ _ (hI.keep (stepOf_keep hs) hi) h.2⟩
  · rename_i f args hs
    refine h.new.mono ?_
    rintro r H' ⟨⟨h1, h2⟩, h3, h4⟩
    exact ⟨h1, hk _ _ ⟨Nat.le_trans hI.next h3, fun j hj => ⟨(hI.bl j hj).1, h4 _ (by have := (hI.bl j hj).1; have := hI.next; omega) (hI.bl j hj).2⟩⟩ h2⟩
  · exact h.elim

end Go.A3
