/-
  Functions that take, and hand out, nothing that may change: their calls stand by themselves, whatever else the heap holds.
-/
import Derived.Test.YtjgfmcbdojjegaaGreatDoorM27
namespace Go.A3

variable {X : Cx}

mutual
/-- Does a value lead to nothing that may change? -/
def idf : PV → Bool
  | .ptr .. | .sm .. | .sa .. | .mp _ => false
  | .ip e _ => idf e
  | .sl es _ => idfL es
  | .fn _ a b => idfL a && idfL b
  | .agg cs => idfL cs
  | .tup vs => idfL vs
  | _ => true
def idfL : List PV → Bool
  | [] => true
  | v :: l => idf v && idfL l
end

mutual
theorem VR.free {g g' : Gs} (hS : g'.S = g.S) (hw : g'.w = g.w) : ∀ (a : PV) {v : Value}, idf a = true → VR g a v → VR g' a v
  | .bool _, _, _, h | .int _ _, _, _, h | .str _, _, _, h | .nilp, _, _, h | .nils, _, _, h | .nilf, _, _, h | .nilm, _, _, h | .nili, _, _, h | .und, _, _, h => by unfold VR at *; exact h
  | .ptr _ _ _, _, hf, _ | .sm _ _ _, _, hf, _ | .sa _ _ _ _, _, hf, _ | .mp _, _, hf, _ => by simp [idf] at hf
  | .ip e o, v, hf, h => by
    simp only [idf] at hf
    unfold VR at *
    obtain ⟨b, p, y, h1, h2, h3⟩ := h
    exact ⟨b, p, y, h1, VR.free hS hw e hf h2, fun j u hj => by rw [hS, hw]; exact h3 j u hj⟩
  | .sl es full, v, hf, h => by
    simp only [idf] at hf
    unfold VR at *
    obtain ⟨b, p, cap, sz, h1, h2, h3, h4⟩ := h
    exact ⟨b, p, cap, sz, h1, h2, h3, ESR.free hS hw es hf h4⟩
  | .fn f first cap, v, hf, h => by
    simp only [idf, Bool.and_eq_true] at hf
    unfold VR at *
    obtain ⟨a, b, h1, h2, h3⟩ := h
    exact ⟨a, b, h1, LR.free hS hw first hf.1 h2, LR.free hS hw cap hf.2 h3⟩
  | .agg cs, v, hf, h | .tup cs, v, hf, h => by
    simp only [idf] at hf
    unfold VR at *
    obtain ⟨a, h1, h2⟩ := h
    exact ⟨a, h1, LR.free hS hw cs hf h2⟩
theorem LR.free {g g' : Gs} (hS : g'.S = g.S) (hw : g'.w = g.w) : ∀ (l : List PV) {vs : List Value}, idfL l = true → LR g l vs → LR g' l vs
  | [], _, _, h => by unfold LR at *; exact h
  | c :: cs, vs, hf, h => by
    simp only [idfL, Bool.and_eq_true] at hf
    unfold LR at *
    obtain ⟨v, r, h1, h2, h3⟩ := h
    exact ⟨v, r, h1, VR.free hS hw c hf.1 h2, LR.free hS hw cs hf.2 h3⟩
theorem ESR.free {g g' : Gs} (hS : g'.S = g.S) (hw : g'.w = g.w) : ∀ (l : List PV) {b p sz : Nat}, idfL l = true → ESR g l b p sz → ESR g' l b p sz
  | [], _, _, _, _, _ => by unfold ESR; trivial
  | e :: es, b, p, sz, hf, h => by
    simp only [idfL, Bool.and_eq_true] at hf
    unfold ESR at *
    obtain ⟨⟨y, h1, h2, h3⟩, h4⟩ := h
    exact ⟨⟨y, VR.free hS hw e hf.1 h1, h2, fun j u hj => by rw [hS, hw]; exact h3 j u hj⟩, ESR.free hS hw es hf.2 h4⟩
end

/-- Nothing at all. -/
def Heap.nil : Heap := ⟨0, fun _ => none⟩

/-- What is known of package-level variables leads to nothing that may change. -/
def GlFree (X : Cx) : Prop := ∀ k e, X.gl k = some e → idf e = true

/-- **A call that stands by itself.** -/
theorem CallsA.lift (hgl : GlFree X) {f : FuncId} {args : List PV} (ha : idfL args = true) {Post : PV → Heap → Prop} (h : CallsA X f args Heap.nil Post) (hr : ∀ r H', Post r H' → idf r = true) (H : Heap) :
    CallsA X f args H fun r H' => (∃ H0, Post r H0) ∧ H' = H := by
  refine ⟨h.1, fun g hs argv hargs => ?_⟩
  have hs0 : SR X { g with K := fun _ => False } Heap.nil :=
    ⟨fun _ q => q.elim, fun _ q => absurd rfl q, fun _ _ q => by simp [Heap.nil] at q, fun _ _ q => absurd rfl q, fun _ q => absurd rfl q, hs.old,
      fun k e hk => VR.free (g := g) (g' := { g with K := fun _ => False }) rfl rfl (.ip e 0) (by simp only [idf]; exact hgl k e hk) (hs.glob k e hk)⟩
  refine (h.2 { g with K := fun _ => False } hs0 argv (LR.free (g := g) (g' := { g with K := fun _ => False }) rfl rfl args ha hargs)).mono ?_
  rintro e w' ⟨r, H0', g', v, rfl, hw, hsr, hst, _, hv, hp⟩
  have hfr := hr r H0' hp
  have hframe : ∀ b, b < g.w.heap.size → g'.w.heap[b]? = g.w.heap[b]? := fun b hb => hst.frame b hb fun _ q => absurd rfl q
  have hnewS : ∀ b o, g'.S b o → g.S b o ∨ g.w.heap.size ≤ b := by
    intro b o q
    rcases hst.newS b o q with q | ⟨i, q, _⟩ | q
    · exact .inl q
    · exact absurd rfl q
    · exact .inr q
  let g2 : Gs := { g' with K := g.K, σ := g.σ }
  have x : Ext g g2 := ⟨fun _ q => q, fun _ _ => rfl, hst.ext.S, hst.ext.w⟩
  refine ⟨r, H, g2, v, rfl, hw, ⟨hs.nx, hs.live, fun id b hb => (hs.blk id b hb).mono x (hframe _ (hs.blk id b hb).lt), hs.inj, fun id hid o q => ?_, hsr.old, fun k e hk => ?_⟩,
    ⟨x, fun b hb _ => hframe b hb, hst.size, fun id hid => .inl ⟨id, hid, rfl⟩, fun b o q => ?_, hst.io⟩, ⟨fun _ _ q => q, fun _ _ q => q, Nat.le_refl _⟩, VR.free (g := g') (g' := g2) rfl rfl r hfr hv, ⟨H0', hp⟩, rfl⟩
  · rcases hnewS _ _ q with q | q
    · exact hs.apart id hid o q
    · have := hs.lt hid
      have q : g.w.heap.size ≤ (g.σ id).b := q
      omega
  · exact VR.free (g := g') (g' := g2) rfl rfl (.ip e 0) (by simp only [idf]; exact hgl k e hk) (hsr.glob k e hk)
  · rcases hnewS _ _ q with q | q
    · exact .inl q
    · exact .inr (.inr q)

/-! ### What is handed out is frozen, all of it. -/

def optL {α β : Type} (f : α → Option β) : List α → Option (List β)
  | [] => some []
  | x :: xs => match f x with
    | some y => match optL f xs with
      | some ys => some (y :: ys)
      | none => none
    | none => none

/-- A value with all that it leads to. -/
def frz (H : Heap) : Nat → PV → Option PV
  | 0, _ => none
  | n + 1, v => match v with
    | .ptr id i o => match H.bl id with
      | some (.row es _) => match es[i]? with
        | some e => (frz H n e).map fun e => .ip e o
        | none => none
      | _ => none
    | .sm id i k => match H.bl id with
      | some (.row es _) => if i + k ≤ es.length then (optL (frz H n) ((es.drop i).take k)).map fun es => .sl es false else none
      | _ => none
    | .sa .. | .mp _ => none
    | .ip e o => (frz H n e).map fun e => .ip e o
    | .sl es f => (optL (frz H n) es).map fun es => .sl es f
    | .fn f a b => match optL (frz H n) a, optL (frz H n) b with
      | some a, some b => some (.fn f a b)
      | _, _ => none
    | .agg cs => (optL (frz H n) cs).map .agg
    | .tup cs => (optL (frz H n) cs).map .tup
    | v => some v

def Gs.frz (g : Gs) (H : Heap) : Gs := { g with S := fun b o => g.S b o ∨ ∃ id, H.bl id ≠ none ∧ b = (g.σ id).b }

theorem Ext.frz (g : Gs) (H : Heap) : Ext g (g.frz H) := ⟨fun _ h => h, fun _ _ => rfl, fun _ _ h => .inl h, fun _ _ _ => rfl⟩

theorem optL_len {α β : Type} {f : α → Option β} : ∀ {l : List α} {l' : List β}, optL f l = some l' → l'.length = l.length
  | [], l', h => by simp [optL] at h; simp [h]
  | x :: xs, l', h => by
    unfold optL at h
    split at h
    · split at h
      · rename_i ys hys
        simp at h; subst h
        simp [optL_len hys]
      · simp at h
    · simp at h

theorem optL_get {α β : Type} {f : α → Option β} : ∀ {l : List α} {l' : List β}, optL f l = some l' → ∀ (j : Nat) (y : β), l'[j]? = some y → ∃ x, l[j]? = some x ∧ f x = some y
  | [], l', h, j, y, hj => by simp [optL] at h; subst h; simp at hj
  | x :: xs, l', h, j, y, hj => by
    unfold optL at h
    split at h
    · rename_i y0 hy0
      split at h
      · rename_i ys hys
        simp at h; subst h
        cases j with
        | zero => simp at hj; subst hj; exact ⟨x, by simp, hy0⟩
        | succ j => simp at hj; obtain ⟨z, h1, h2⟩ := optL_get hys j y hj; exact ⟨z, by simpa using h1, h2⟩
      · simp at h
    · simp at h

theorem idfL_all : ∀ {l : List PV}, (∀ (j : Nat) (y : PV), l[j]? = some y → idf y = true) → idfL l = true
  | [], _ => rfl
  | v :: l, h => by
    unfold idfL
    rw [h 0 v (by simp), idfL_all fun j y hj => h (j + 1) y (by simpa using hj)]
    rfl

theorem frz_ok {g : Gs} {H : Heap} (hs : SR X g H) : ∀ (n : Nat) (a a' : PV), A3.frz H n a = some a' → idf a' = true ∧ ∀ v, VR g a v → VR (g.frz H) a' v
  | 0, a, a', h => by simp [A3.frz] at h
  | n + 1, a, a', h => by
    have ih := frz_ok hs n
    have list : ∀ {l l' : List PV}, optL (A3.frz H n) l = some l' → idfL l' = true ∧ ∀ vs, LR g l vs → LR (g.frz H) l' vs := by
      intro l l' h
      refine ⟨idfL_all fun j y hj => ?_, fun vs hv => LR.mk (by rw [hv.length, optL_len h]) fun j c v hj hv' => ?_⟩
      · obtain ⟨x, _, h2⟩ := optL_get h j y hj
        exact (ih x y h2).1
      · obtain ⟨x, h1, h2⟩ := optL_get h j c hj
        obtain ⟨u, h3, h4⟩ := hv.get h1
        rw [h3] at hv'
        obtain rfl := Option.some.inj hv'
        exact (ih x c h2).2 _ h4
    unfold A3.frz at h
    split at h
    · rename_i id i o
      split at h
      · rename_i es sz hb
        split at h
        · rename_i e he
          cases hq : A3.frz H n e with
          | none => rw [hq] at h; simp at h
          | some e' =>
            rw [hq] at h; simp at h; subst h
            obtain ⟨h1, h2⟩ := ih e e' hq
            refine ⟨by simp only [idf]; exact h1, fun v hv => ?_⟩
            unfold VR at hv ⊢
            obtain ⟨x, k1, _, k3⟩ := hs.elem hb he
            exact ⟨(g.σ id).b, i * (g.σ id).sz, x, hv.2, h2 x k1, fun j u hj => ⟨.inr ⟨id, by rw [hb]; simp, rfl⟩, k3 j u hj⟩⟩
        · simp at h
      · simp at h
    · rename_i id i k
      split at h
      · rename_i es sz hb
        split at h
        · rename_i hle
          cases hq : optL (A3.frz H n) ((es.drop i).take k) with
          | none => rw [hq] at h; simp at h
          | some es' =>
            rw [hq] at h; simp at h; subst h
            obtain ⟨h1, _⟩ := list hq
            refine ⟨by simp only [idf]; exact h1, fun v hv => ?_⟩
            have hsz : (g.σ id).sz = sz := (hs.blk id _ hb).2.1
            unfold VR at hv ⊢
            obtain ⟨_, cap, c1, _, rfl⟩ := hv
            have hl : es'.length = k := by rw [optL_len hq]; simp; omega
            refine ⟨(g.σ id).b, i * sz, cap, sz, by rw [hl, hsz], by omega, by simp, ESR.mk fun j e hj => ?_⟩
            obtain ⟨y, k1, k2⟩ := optL_get hq j e hj
            have hj' : es[i + j]? = some y := by
              rw [List.getElem?_take] at k1
              split at k1
              · rw [List.getElem?_drop] at k1; exact k1
              · simp at k1
            obtain ⟨x, q1, q2, q3⟩ := hs.elem hb hj'
            refine ⟨x, (ih y e k2).2 x q1, q2, fun jj u hjj => ⟨.inr ⟨id, by rw [hb]; simp, rfl⟩, ?_⟩⟩
            have := q3 jj u hjj
            rw [hsz, Nat.add_mul] at this
            exact this
        · simp at h
      · simp at h
    · simp at h
    · simp at h
    · rename_i e o
      cases hq : A3.frz H n e with
      | none => rw [hq] at h; simp at h
      | some e' =>
        rw [hq] at h; simp at h; subst h
        obtain ⟨h1, h2⟩ := ih e e' hq
        refine ⟨by simp only [idf]; exact h1, fun v hv => ?_⟩
        unfold VR at hv ⊢
        obtain ⟨b, p, x, k1, k2, k3⟩ := hv
        exact ⟨b, p, x, k1, h2 x k2, k3.mono (Ext.frz g H)⟩
    · rename_i es f
      cases hq : optL (A3.frz H n) es with
      | none => rw [hq] at h; simp at h
      | some es' =>
        rw [hq] at h; simp at h; subst h
        refine ⟨by simp only [idf]; exact (list hq).1, fun v hv => ?_⟩
        unfold VR at hv ⊢
        obtain ⟨b, p, cap, sz, k1, k2, k3, k4⟩ := hv
        have hl := optL_len hq
        refine ⟨b, p, cap, sz, by rw [hl]; exact k1, by rw [hl]; exact k2, by rw [hl]; exact k3, ESR.mk fun j e hj => ?_⟩
        obtain ⟨y, q1, q2⟩ := optL_get hq j e hj
        obtain ⟨x, r1, r2, r3⟩ := k4.get q1
        exact ⟨x, (ih y e q2).2 x r1, r2, r3.mono (Ext.frz g H)⟩
    · rename_i f fa fb
      split at h
      · rename_i a1 b1 ha hb
        simp at h; subst h
        refine ⟨by simp only [idf, Bool.and_eq_true]; exact ⟨(list ha).1, (list hb).1⟩, fun v hv => ?_⟩
        unfold VR at hv ⊢
        obtain ⟨p, q, k1, k2, k3⟩ := hv
        exact ⟨p, q, k1, (list ha).2 _ k2, (list hb).2 _ k3⟩
      · simp at h
    · rename_i cs
      cases hq : optL (A3.frz H n) cs with
      | none => rw [hq] at h; simp at h
      | some es' =>
        rw [hq] at h; simp at h; subst h
        refine ⟨by simp only [idf]; exact (list hq).1, fun v hv => ?_⟩
        unfold VR at hv ⊢
        obtain ⟨p, k1, k2⟩ := hv
        exact ⟨p, k1, (list hq).2 _ k2⟩
    · rename_i cs
      cases hq : optL (A3.frz H n) cs with
      | none => rw [hq] at h; simp at h
      | some es' =>
        rw [hq] at h; simp at h; subst h
        refine ⟨by simp only [idf]; exact (list hq).1, fun v hv => ?_⟩
        unfold VR at hv ⊢
        obtain ⟨p, k1, k2⟩ := hv
        exact ⟨p, k1, (list hq).2 _ k2⟩
    · rename_i n1 n2 n3 n4 n5 n6 n7 n8 n9
      simp at h; subst h
      cases a <;> first
        | exact ⟨rfl, fun v hv => by unfold VR at *; exact hv⟩
        | exact absurd rfl (n1 _ _ _)
        | exact absurd rfl (n2 _ _ _)
        | exact absurd rfl (n3 _ _ _ _)
        | exact absurd rfl (n4 _)
        | exact absurd rfl (n5 _ _)
        | exact absurd rfl (n6 _ _)
        | exact absurd rfl (n7 _ _ _)
        | exact absurd rfl (n8 _)
        | exact absurd rfl (n9 _)

/-- What is handed out is frozen, and all else is let go. -/
theorem GhostV.frz {r r' : PV} {H : Heap} {n : Nat} (h : A3.frz H n r = some r') : GhostV X r H r' ⟨H.next, fun _ => none⟩ := fun g v hs hv => by
  obtain ⟨_, h2⟩ := frz_ok hs n r r' h
  refine ⟨g.frz H, rfl, ⟨hs.nx, fun _ q => absurd rfl q, fun _ _ q => by simp at q, fun _ _ q => absurd rfl q, fun _ q => absurd rfl q, fun b o q => ?_, fun k e hk => (hs.glob k e hk).mono (Ext.frz g H)⟩, h2 v hv,
    ⟨⟨Ext.frz g H, fun _ _ _ => rfl, Nat.le_refl _, fun _ q => absurd rfl q, fun b o q => ?_, ⟨rfl, rfl⟩⟩, ⟨fun _ _ q => q, fun _ _ _ => rfl, Nat.le_refl _⟩⟩⟩
  · rcases q with q | ⟨id, q, rfl⟩
    · exact hs.old b o q
    · exact hs.lt q
  · rcases q with q | ⟨id, q, rfl⟩
    · exact .inl q
    · exact .inr (.inl ⟨id, q, rfl⟩)

/-- A call's result looked at anew. -/
theorem CallsA.ghost {f : FuncId} {args : List PV} {H : Heap} {Post Post' : PV → Heap → Prop} (h : CallsA X f args H Post) (hp : ∀ r H', Post r H' → ∃ r' H'', GhostV X r H' r' H'' ∧ Post' r' H'') : CallsA X f args H Post' :=
  ⟨h.1, fun g hs argv ha => (h.2 g hs argv ha).mono fun _ _ ⟨r, H', g', v, h1, h2, h3, h4, h5, h6, h7⟩ => by
    obtain ⟨r', H'', k1, k2⟩ := hp r H' h7
    obtain ⟨g'', m1, m2, m3, m4⟩ := k1 g' v h3 h6
    have := (Reg.mk h4 h5).trans m4 h5.next
    exact ⟨r', H'', g'', v, h1, m1.trans h2, m2, this.stp, this.new, m3, k2⟩⟩

/-- A call of a function that takes, and hands out, nothing that may change: it leaves the heap as it is. -/
def Pure (X : Cx) (f : FuncId) (args : List PV) (r : PV) : Prop := ∀ H, CallsA X f args H fun r' H' => r' = r ∧ H' = H

theorem Pure.of (hgl : GlFree X) {f : FuncId} {args : List PV} {r : PV} (ha : idfL args = true) (h : CallsA X f args Heap.nil fun r0 H' => ∃ n, A3.frz H' n r0 = some r) : Pure X f args r := fun H => by
  have h1 : CallsA X f args Heap.nil fun r' _ => r' = r ∧ idf r = true := by
    obtain ⟨h0, h1⟩ := h
    refine ⟨h0, fun g hs argv hargs => (h1 g hs argv hargs).mono ?_⟩
    rintro _ _ ⟨r0, H', g', v, k1, k2, k3, k4, k5, k6, n, k7⟩
    obtain ⟨g'', m1, m2, m3, m4⟩ := (GhostV.frz k7) g' v k3 k6
    have := (Reg.mk k4 k5).trans m4 k5.next
    exact ⟨r, _, g'', v, k1, m1.trans k2, m2, this.stp, this.new, m3, rfl, (frz_ok k3 n r0 r k7).1⟩
  exact (CallsA.lift hgl ha h1 (fun r' _ q => by rw [q.1]; exact q.2) H).mono fun r' H' ⟨⟨_, q, _⟩, q2⟩ => ⟨q, q2⟩

end Go.A3
