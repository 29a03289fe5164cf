/-
  The abstract machine is sound: regions that draw their order.
-/
import Derived.Test.YtjgfmcbdojjegaaGreatDoorM22
namespace Go.A3

variable {X : Cx} {mu : Bool} {fr : Nat → Bool} {ops : Array Oper} {base : Lw}

theorem StepP_det {i : Nat} {o : Oper} {K : Env → Heap → Prop} {e : Env} {H H' : Heap} {v : PV} {c : Prop} (h : stepOf X mu ops.toList base i o e H = .det v H' c) :
    StepP X mu fr ops.toList base i o K e H ↔ (fr i = true ∨ c) ∧ K (put e o.dst v) H' := by
  unfold StepP; rw [h]

theorem StepP_call {i : Nat} {o : Oper} {K : Env → Heap → Prop} {e : Env} {H : Heap} {f : FuncId} {args : List PV} (h : stepOf X mu ops.toList base i o e H = .call f args) :
    StepP X mu fr ops.toList base i o K e H ↔ CallsA X f args H fun r H' => (fr i = true ∨ keeps base H H') ∧ K (put e o.dst r) H' := by
  unfold StepP; rw [h]

theorem StepP_fail {i : Nat} {o : Oper} {K : Env → Heap → Prop} {e : Env} {H : Heap} (h : stepOf X mu ops.toList base i o e H = .fail) :
    StepP X mu fr ops.toList base i o K e H ↔ False := by
  unfold StepP; rw [h]

/-- An operation that makes something and looks at nothing. -/
theorem bare_det {i : Nat} {o : Oper} (h : bareB X o = true) : ∃ v k, ∀ e H, ∃ c, stepOf X mu ops.toList base i o e H = .det v (H.set (base.b + i) (some k)) c ∧ c := by
  unfold bareB at h
  simp only [Bool.and_eq_true] at h
  obtain ⟨hg, h⟩ := h
  have hw : ∀ e, wantedA ops.toList e o = some true := by
    intro e
    unfold wantedA
    cases q : o.guard with
    | none => rfl
    | some y => rw [q] at hg; simp at hg
  split at h
  · rename_i t hop
    simp only [Bool.and_eq_true, beq_iff_eq, decide_eq_true_eq] at h
    refine ⟨.ptr (base.b + i) 0 0, .row [(X.ty t).zero] (X.ty t).size, fun e H => ⟨lowOp X e base o.op ∧ ∀ id, base.U id → (H.set (base.b + i) (some (.row [(X.ty t).zero] (X.ty t).size))).bl id = H.bl id, ?_, ?_, fun id hid => ?_⟩⟩
    · unfold stepOf
      rw [hw]
      simp only [hop]
      unfold afterOp Cx.op
      simp [h.1, h.2]
    · rw [hop]; trivial
    · have := base.low id hid; simp; intro q; omega
  · rename_i t hop
    refine ⟨.mp (base.b + i), .map [], fun e H => ⟨lowOp X e base o.op ∧ ∀ id, base.U id → (H.set (base.b + i) (some (.map []))).bl id = H.bl id, ?_, ?_, fun id hid => ?_⟩⟩
    · unfold stepOf
      rw [hw]
      simp only [hop]
      unfold afterOp Cx.op
      simp
    · rw [hop]; trivial
    · have := base.low id hid; simp; intro q; omega
  · simp at h

/-- Two operations, j ahead of i, that may change places. -/
structure Swap (X : Cx) (mu : Bool) (fr : Nat → Bool) (ops : Array Oper) (i j : Nat) (oi oj : Oper) : Prop where
  ne : i ≠ j
  apart : oj.apart ops oi = true
  k : kOk X mu oi oj = true
  kk : KOk mu fr i j oi oj
  low : sortOf mu oj.op = .load → sortOf mu oi.op = .call → fr i = false ∧ fr j = false

/-- **Two neighbours change places.** -/
theorem swapP {i j : Nat} {oi oj : Oper} (sw : Swap X mu fr ops i j oi oj) {K : Env → Heap → Prop} {e : Env} {H : Heap} (hb : base.b ≤ H.next) (hin : base.b + i < H.next) (h0 : H.bl (base.b + i) = none)
    (h : StepP X mu fr ops.toList base j oj (fun e H => StepP X mu fr ops.toList base i oi K e H) e H) :
    StepP X mu fr ops.toList base i oi (fun e H => StepP X mu fr ops.toList base j oj K e H) e H := by
  obtain ⟨a1, a2, a3⟩ := Oper.apart_spec sw.apart
  cases hj : stepOf X mu ops.toList base j oj e H with
  | fail => exact ((StepP_fail hj).1 h).elim
  | det vj Hj cj =>
    obtain ⟨hcj, h⟩ := (StepP_det hj).1 h
    have hput : stepOf X mu ops.toList base i oi (put e oj.dst vj) Hj = stepOf X mu ops.toList base i oi e Hj := stepOf_put a1
    cases hi : stepOf X mu ops.toList base i oi e Hj with
    | fail => exact ((StepP_fail (hput.trans hi)).1 h).elim
    | det vi Hi ci =>
      obtain ⟨hci, h⟩ := (StepP_det (hput.trans hi)).1 h
      obtain ⟨Hi', ci', cj', q1, q2, q3, q4⟩ := comm_det sw.ne sw.kk hj hcj hi hci
      refine (StepP_det q1).2 ⟨q2, (StepP_det ((stepOf_put a3).trans q3)).2 ⟨q4, ?_⟩⟩
      rw [← put_comm a2]
      exact h
    | call f args =>
      obtain ⟨hs, hany⟩ := stepOf_call hi
      have hcall := (StepP_call (hput.trans hi)).1 h
      have hsort : sortOf mu oj.op = .pure ∨ sortOf mu oj.op = .load := by
        have hk := sw.k
        unfold kOk at hk
        rw [hs] at hk
        cases q : sortOf mu oj.op <;> rw [q] at hk <;> simp at hk ⊢
        unfold bareB at hk
        simp only [Bool.and_eq_true] at hk
        split at hk
        · rename_i hop; rw [hop] at hs; simp [sortOf] at hs
        · rename_i hop; rw [hop] at hs; simp [sortOf] at hs
        · simp at hk
      rcases hsort with hp | hp
      · obtain ⟨rfl, hst⟩ := still_id hp (step_still (X := X) e (.inl hp)) hj
        refine (StepP_call (hany Hj)).2 (hcall.mono ?_)
        rintro r H' ⟨p1, p2⟩
        obtain ⟨c2, h2, hc2⟩ := hst H'
        refine ⟨p1, (StepP_det ((stepOf_put a3).trans h2)).2 ⟨.inr hc2, ?_⟩⟩
        rw [← put_comm a2]
        exact p2
      · obtain ⟨hfi, hfj⟩ := sw.low hp hs
        have hcj' : cj := hcj.resolve_left (by simp [hfj])
        rcases step_look (X := X) (ops := ops.toList) (base := base) (i := j) (e := e) (H := H) (H2 := H) hp (fun _ _ _ => rfl) with ⟨q, _⟩ | ⟨v, c, q, _, hl⟩
        · rw [hj] at q; simp at q
        · rw [hj] at q
          simp only [SO.det.injEq] at q
          obtain ⟨rfl, rfl, rfl⟩ := q
          refine (StepP_call (hany Hj)).2 (hcall.mono ?_)
          rintro r H' ⟨p1, p2⟩
          have hkeep : keeps base Hj H' := p1.resolve_left (by simp [hfi])
          rcases step_look (X := X) (ops := ops.toList) (base := base) (i := j) (e := e) (H := Hj) (H2 := H') hp (opIds_of_low (i := 0) hl hcj' (fun id hid => hkeep id (by omega)) rfl) with ⟨q, _⟩ | ⟨v, c, q, q', _⟩
          · rw [hj] at q; simp at q
          · rw [hj] at q
            simp only [SO.det.injEq] at q
            obtain ⟨rfl, _, rfl⟩ := q
            refine ⟨p1, (StepP_det ((stepOf_put a3).trans q')).2 ⟨hcj, ?_⟩⟩
            rw [← put_comm a2]
            exact p2
  | call f args =>
    obtain ⟨hs, hany⟩ := stepOf_call hj
    have hcall := (StepP_call hj).1 h
    have hbare : bareB X oi = true := by
      have hk := sw.k
      unfold kOk at hk
      rw [hs] at hk
      simpa using hk
    obtain ⟨v, k, hdet⟩ := bare_det (mu := mu) (ops := ops) (base := base) (i := i) hbare
    obtain ⟨c, q1, hc⟩ := hdet e H
    refine (StepP_det q1).2 ⟨.inr hc, (StepP_call ((stepOf_put a3).trans (hany _))).2 ((hcall.frame h0 hin).mono ?_)⟩
    rintro r H'' ⟨H1, ⟨p1, p2⟩, p3, rfl⟩
    refine ⟨p1.imp id fun hk id hid => ?_, ?_⟩
    · simp only [Heap.set_bl]
      rw [hk id hid]
    · obtain ⟨c', q2, _⟩ := hdet (put e oj.dst r) H1
      have := ((StepP_det q2).1 p2).2
      rw [← put_comm a2]
      exact this

theorem WI_cons {i : Nat} {o : Oper} (ho : ops[i]? = some o) {Q : Env → Heap → Prop} {T : List Nat} : WI X mu fr ops.toList base Q (i :: T) = StepP X mu fr ops.toList base i o (WI X mu fr ops.toList base Q T) := by
  funext e H
  have : ops.toList[i]? = some o := by simpa using ho
  simp only [WI, this]

/-- An operation comes to the front. -/
theorem moveP {n i : Nat} {oi : Oper} (hoi : ops[i]? = some oi) {Q : Env → Heap → Prop} {B : List Nat} : ∀ (A : List Nat) (e : Env) (H : Heap), (∀ j ∈ A, ∃ oj, ops[j]? = some oj ∧ Swap X mu fr ops i j oi oj) → (A ++ i :: B).Nodup →
    Inv base.b n (A ++ i :: B) H → WI X mu fr ops.toList base Q (A ++ i :: B) e H → WI X mu fr ops.toList base Q (i :: (A ++ B)) e H
  | [], e, H, _, _, _, h => h
  | j :: A, e, H, hs, hn, hI, h => by
    obtain ⟨oj, hoj, sw⟩ := hs j (by simp)
    rw [List.cons_append] at hI hn h
    rw [WI_cons hoj] at h
    have hn' := List.nodup_cons.1 hn
    have hii := hI.bl i (by simp)
    rw [List.cons_append, WI_cons hoi]
    rw [show WI X mu fr ops.toList base Q (j :: (A ++ B)) = fun e H => StepP X mu fr ops.toList base j oj (WI X mu fr ops.toList base Q (A ++ B)) e H from WI_cons hoj]
    refine swapP sw (Nat.le_trans (Nat.le_add_right _ _) hI.next) (Nat.lt_of_lt_of_le (by omega) hI.next) hii.2 ?_
    refine h.inv hI.tail hn'.1 fun e' H' hI' hw => ?_
    have := moveP hoi A e' H' (fun k hk => hs k (by simp [hk])) hn'.2 hI' hw
    rwa [WI_cons hoi] at this

end Go.A3
