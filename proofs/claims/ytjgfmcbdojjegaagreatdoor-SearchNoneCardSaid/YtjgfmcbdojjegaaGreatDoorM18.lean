/-
  The abstract machine is sound: what operations of a region do beside one another.
-/
import Derived.Test.YtjgfmcbdojjegaaGreatDoorM17
namespace Go.A3

/-! ### An operation looks at its operands alone -/

theorem ev_congr {X : Cx} {e e' : Env} {x : Operand} (h : ∀ t, x = .tmp t → e t = e' t) : X.ev e x = X.ev e' x := by
  cases x with
  | tmp t => exact h t rfl
  | _ => rfl

theorem op_congr {X : Cx} {mu : Bool} {e e' : Env} {H : Heap} {b : Nat} {o : Op} (h : ∀ x ∈ o.operands, X.ev e x = X.ev e' x) : X.op mu e H b o = X.op mu e' H b o := by
  unfold Cx.op
  have hm : ∀ (l : List Operand), (∀ x ∈ l, X.ev e x = X.ev e' x) → l.map (X.ev e) = l.map (X.ev e') := fun l hl => List.map_congr_left hl
  have hp : ∀ (l : List (Nat × Operand)), (∀ x ∈ l, X.ev e x.2 = X.ev e' x.2) → (l.map fun p => (p.1, X.ev e p.2)) = l.map fun p => (p.1, X.ev e' p.2) := fun l hl => List.map_congr_left fun x hx => by rw [hl x hx]
  have ho : ∀ (x : Option Operand), (∀ y, x = some y → X.ev e y = X.ev e' y) → x.map (X.ev e) = x.map (X.ev e') := fun x hx => by cases x with | none => rfl | some y => simp [hx y rfl]
  cases o <;> (try rfl) <;> (try dsimp only)
  case move x => rw [h x (by simp [Op.operands])]
  case assign x => rw [h x (by simp [Op.operands])]
  case pick c x y => rw [h c (by simp [Op.operands]), h x (by simp [Op.operands]), h y (by simp [Op.operands])]
  case box t x => rw [h x (by simp [Op.operands])]
  case build t ps => rw [hp _ fun x hx => h x.2 (by simp [Op.operands]; exact ⟨x.1, by simpa using hx⟩)]
  case buildSlice t n ps => rw [hp _ fun x hx => h x.2 (by simp [Op.operands]; exact ⟨x.1, by simpa using hx⟩)]
  case load t x => rw [h x (by simp [Op.operands])]
  case store t x y => rw [h x (by simp [Op.operands]), h y (by simp [Op.operands])]
  case nilCheck x => rw [h x (by simp [Op.operands])]
  case binOp op t x y t2 => rw [h x (by simp [Op.operands]), h y (by simp [Op.operands])]
  case unOp op t x => rw [h x (by simp [Op.operands])]
  case convert s d x => rw [h x (by simp [Op.operands])]
  case makeFunc f fi ca => rw [hm _ fun x hx => h x (by simp [Op.operands]; exact .inl (by simpa using hx)), hm _ fun x hx => h x (by simp [Op.operands]; exact .inr (by simpa using hx))]
  case makeMap t r => cases r <;> rfl
  case makeSlice t n c => rw [h n (by simp [Op.operands]), h c (by simp [Op.operands])]
  case slice t x lo hi mx => rw [h x (by simp [Op.operands]), ho lo fun y q => h y (by simp [Op.operands, q]), ho hi fun y q => h y (by simp [Op.operands, q]), ho mx fun y q => h y (by simp [Op.operands, q])]
  case fieldAddr t x f => rw [h x (by simp [Op.operands])]
  case field t x f => rw [h x (by simp [Op.operands])]
  case indexAddr t x ix => rw [h x (by simp [Op.operands]), h ix (by simp [Op.operands])]
  case index t x ix => rw [h x (by simp [Op.operands]), h ix (by simp [Op.operands])]
  case extract x i => rw [h x (by simp [Op.operands])]
  case lookup t m k ok => rw [h m (by simp [Op.operands]), h k (by simp [Op.operands])]
  case mapUpdate t m k x => rw [h m (by simp [Op.operands]), h k (by simp [Op.operands]), h x (by simp [Op.operands])]

theorem stepOf_congr {X : Cx} {mu : Bool} {ops : Array Oper} {base : Lw} {i : Nat} {o : Oper} {e e' : Env} {H : Heap} (h : ∀ t, t ∈ o.looksAt ops → e' t = e t) :
    stepOf X mu ops.toList base i o e' H = stepOf X mu ops.toList base i o e H := by
  have hop : ∀ x ∈ o.op.operands, X.ev e' x = X.ev e x := by
    intro x hx
    refine ev_congr fun t q => h t ?_
    unfold Oper.looksAt
    refine List.mem_append_left _ (List.mem_filterMap.2 ⟨x, by simpa using hx, by rw [q]⟩)
  have hw : wantedA ops.toList e' o = wantedA ops.toList e o := by
    unfold wantedA
    cases hg : o.guard with
    | none => rfl
    | some q =>
      obtain ⟨j, want⟩ := q
      simp only []
      cases hd : (ops.toList[j]?).bind (·.dst) with
      | none => rfl
      | some u =>
        have : e' u = e u := by
          refine h u ?_
          unfold Oper.looksAt
          refine List.mem_append_right _ ?_
          rw [hg]
          simp only []
          have : (ops[j]?).bind (·.dst) = some u := by simpa using hd
          rw [this]
          simp
        simp [this]
  unfold stepOf
  rw [hw]
  split
  · rfl
  · rfl
  · split
    · rename_i c hc
      have hargs : c.args.toList.map (X.ev e') = c.args.toList.map (X.ev e) := List.map_congr_left fun x hx => hop x (by rw [hc]; simp [Op.operands, Call.operands]; exact .inr (by simpa using hx))
      have hcal : X.callee e' c = X.callee e c := by
        unfold Cx.callee
        split
        · rename_i x hx
          rw [hop x (by rw [hc]; simp [Op.operands, Call.operands, hx]), hargs]
        · rfl
      rw [hargs, hcal]
    · have hl : lowOp X e' base o.op = lowOp X e base o.op := by
        unfold lowOp
        split
        · rename_i hq
          rw [hop _ (by rw [hq]; simp [Op.operands])]
        · rename_i hq
          rw [hop _ (by rw [hq]; simp [Op.operands])]
        · rename_i hq
          rw [hop _ (by rw [hq]; simp [Op.operands])]
        · rfl
      rw [op_congr (e := e') (e' := e) (o := o.op) hop]
      unfold afterOp
      rw [hl]

/-! ### What an operation asks of the heap -/

/-- The id that a value leads to. -/
def topId : PV → Nat → Prop
  | .ptr id _ _, j | .sm id _ _, j | .sa id _ _ _, j => j = id
  | _, _ => False

theorem topId_low {U : Nat → Prop} {v : PV} (h : lowV U v) {j : Nat} (hj : topId v j) : U j := by
  cases v <;> simp [topId, lowV] at * <;> (subst hj; exact h)

theorem topId_K {g : Gs} {v : PV} {x : Value} (h : VR g v x) {j : Nat} (hj : topId v j) : g.K j := by
  cases v <;> simp [topId] at hj <;> unfold VR at h <;> subst hj <;> exact h.1

theorem elems_congr {H H2 : Heap} {x : PV} (h : ∀ j, topId x j → H2.bl j = H.bl j) : elems H2 x = elems H x := by
  unfold elems
  cases x <;> (try rfl)
  case sm id i n => simp only []; rw [h id rfl]
  case sa id i o n => simp only []; rw [h id rfl]

theorem load_congr {X : Cx} {t : Nat} {H H2 : Heap} {x : PV} (h : ∀ j, topId x j → H2.bl j = H.bl j) : X.load t H2 x = X.load t H x := by
  unfold Cx.load
  cases x <;> (try rfl)
  case ptr id i o => simp only []; rw [h id rfl]

theorem indexAddr_congr {X : Cx} {t : Nat} {H H2 : Heap} {x ix : PV} (h : ∀ j, topId x j → H2.bl j = H.bl j) : X.indexAddr t H2 x ix = X.indexAddr t H x ix := by
  unfold Cx.indexAddr
  cases asI ix with
  | none => rfl
  | some j =>
    cases (X.ty t).ki <;> cases x <;> (try rfl)
    simp only []
    rw [h _ rfl]

theorem conv_congr {X : Cx} {s d : Nat} {H H2 : Heap} {x : PV} (h : ∀ j, topId x j → H2.bl j = H.bl j) : X.convP s d H2 x = X.convP s d H x := by
  unfold Cx.convP
  cases (X.ty s).ki <;> cases (X.ty d).ki <;> cases x <;> (try rfl) <;> simp only [elems_congr h]

/-- The ids that an operation that loads looks at. -/
def opIds (X : Cx) (e : Env) : Op → Nat → Prop
  | .load _ a, j | .indexAddr _ a _, j | .convert _ _ a, j => topId (X.ev e a) j
  | _, _ => False

theorem opIds_low {X : Cx} {e : Env} {b : Lw} {o : Op} (h : lowOp X e b o) {j : Nat} (hj : opIds X e o j) : b.U j := by
  cases o <;> simp [opIds] at hj <;> exact topId_low h hj

theorem opIds_K {X : Cx} {g : Gs} {H : Heap} (hs : SR X g H) {e : Env} {a : Act} (he : EnvR g e a) {o : Op} (hO : ∀ x ∈ o.operands, X.okO x = true) {j : Nat} (hj : opIds X e o j) : g.K j := by
  cases o <;> simp [opIds] at hj <;> exact topId_K (ev_ok hs he (hO _ (by simp [Op.operands]))) hj

/-- Operations that ask nothing of the heap: what they come to, heap by heap. -/
def Still (mk : Prop) (b : Nat) (s : Heap → SO) : Prop :=
  (∀ H, s H = .fail) ∨ ∃ v, ∃ F : Heap → Heap, (F = (fun H => H) ∨ (mk ∧ ∃ k, F = fun H => H.set b (some k))) ∧ ∀ H, ∃ c, s H = .det v (F H) c ∧ c

theorem still_pure {X : Cx} {e : Env} {base : Lw} {i : Nat} {op : Op} {f : Heap → Option (PV × Heap)} {mk : Prop} (r : Option PV) (hl : lowOp X e base op) (hr : ∀ H, f H = r.map fun v => (v, H)) : Still mk (base.b + i) fun H => afterOp X e base op H (f H) := by
  cases r with
  | none => exact .inl fun H => by show afterOp X e base op H (f H) = _; rw [hr H]; rfl
  | some v => exact .inr ⟨v, fun H => H, .inl rfl, fun H => ⟨lowOp X e base op ∧ ∀ id, base.U id → H.bl id = H.bl id, by show afterOp X e base op H (f H) = _; rw [hr H]; rfl, hl, fun _ _ => rfl⟩⟩

theorem still_make {X : Cx} {e : Env} {base : Lw} {i : Nat} {op : Op} {f : Heap → Option (PV × Heap)} {mk : Prop} (hm : mk) (r : Option (PV × Blk)) (hl : lowOp X e base op) (hr : ∀ H, f H = r.map fun v => (v.1, H.set (base.b + i) (some v.2))) : Still mk (base.b + i) fun H => afterOp X e base op H (f H) := by
  cases r with
  | none => exact .inl fun H => by show afterOp X e base op H (f H) = _; rw [hr H]; rfl
  | some v => exact .inr ⟨v.1, fun H => H.set (base.b + i) (some v.2), .inr ⟨hm, v.2, rfl⟩, fun H => ⟨lowOp X e base op ∧ ∀ id, base.U id → (H.set (base.b + i) (some v.2)).bl id = H.bl id, by show afterOp X e base op H (f H) = _; rw [hr H]; rfl, hl, fun id hid => by have := base.low id hid; simp; intro q; omega⟩⟩

theorem op_still {X : Cx} {mu : Bool} {base : Lw} {i : Nat} {op : Op} (e : Env) (hk : sortOf mu op = .pure ∨ sortOf mu op = .make) (hnc : ∀ c, op ≠ .call c) : Still (sortOf mu op = .make) (base.b + i) fun H => afterOp X e base op H (X.op mu e H (base.b + i) op) := by
  cases op <;> (try (simp [sortOf] at hk; done)) <;> (try exact .inl fun H => rfl)
  case move x => exact still_pure (some (X.ev e x)) trivial fun H => rfl
  case assign x => exact still_pure (some (X.ev e x)) trivial fun H => rfl
  case pick c x y =>
    refine still_pure (match X.ev e c with | .bool t => some (if t then X.ev e x else X.ev e y) | _ => none) trivial fun H => ?_
    unfold Cx.op; simp only []; split <;> simp_all
  case alloc t =>
    refine still_make rfl (if (X.ty t).zero.cells.length = (X.ty t).size ∧ 0 < (X.ty t).size then some (.ptr (base.b + i) 0 0, .row [(X.ty t).zero] (X.ty t).size) else none) trivial fun H => ?_
    unfold Cx.op; simp only []; split <;> simp_all
  case box t x =>
    refine still_make rfl (if 0 < (X.ev e x).cells.length then some (.ptr (base.b + i) 0 0, .row [X.ev e x] (X.ev e x).cells.length) else none) trivial fun H => ?_
    unfold Cx.op; simp only []; split <;> simp_all
  case build t ps => exact still_pure _ trivial fun H => rfl
  case buildSlice t n ps =>
    cases mu with
    | true =>
      refine still_make rfl (match X.lit t n (ps.toList.map fun p => (p.1, X.ev e p.2)) with | some (es, sz) => some (.sm (base.b + i) 0 n, .row es sz) | none => none) trivial fun H => ?_
      unfold Cx.op; simp only []; split <;> simp_all
    | false =>
      refine still_pure (match X.lit t n (ps.toList.map fun p => (p.1, X.ev e p.2)) with | some (es, sz) => some (.sl es true) | none => none) trivial fun H => ?_
      unfold Cx.op; simp only []; split <;> simp_all
  case nilCheck x =>
    refine still_pure (match X.ev e x with | .ptr id i o => some (.ptr id i o) | .ip y o => some (.ip y o) | .fn (.func f) a c => some (.fn (.func f) a c) | _ => none) trivial fun H => ?_
    unfold Cx.op; simp only []; split <;> simp_all
  case binOp op t x y t2 => exact still_pure _ trivial fun H => rfl
  case unOp op t x => exact still_pure _ trivial fun H => rfl
  case makeFunc f fi ca => exact still_pure (some _) trivial fun H => rfl
  case makeMap t r => cases r with
    | none => exact still_make rfl (some (.mp (base.b + i), .map [])) trivial fun H => rfl
    | some r => exact .inl fun H => rfl
  case makeSlice t n c =>
    refine still_make rfl (match (X.ty t).ki, asI (X.ev e n), asI (X.ev e c) with
      | .slice u, some l, some m =>
        if 0 ≤ l ∧ l ≤ m ∧ m * (X.ty u).bytes ≤ 2 ^ 48 ∧ m < 2 ^ 62 ∧ 0 < (X.ty u).size ∧ (X.ty u).zero.cells.length = (X.ty u).size then
          some (.sm (base.b + i) 0 l.toNat, .row (List.replicate l.toNat (X.ty u).zero) (X.ty u).size)
        else none
      | _, _, _ => none) trivial fun H => ?_
    unfold Cx.op; simp only []; split
    · split <;> simp_all
    · simp_all
  case slice t x lo hi mx => exact still_pure _ trivial fun H => rfl
  case fieldAddr t x f => exact still_pure _ trivial fun H => rfl
  case field t x f => exact still_pure _ trivial fun H => rfl
  case index t x ix => exact still_pure _ trivial fun H => rfl
  case extract x j =>
    refine still_pure (match X.ev e x with | .tup vs => vs[j]? | _ => none) trivial fun H => ?_
    unfold Cx.op; simp only []; split <;> simp_all

theorem step_still {X : Cx} {mu : Bool} {ops : List Oper} {base : Lw} {i : Nat} {o : Oper} (e : Env) (hk : sortOf mu o.op = .pure ∨ sortOf mu o.op = .make) : Still (sortOf mu o.op = .make) (base.b + i) (stepOf X mu ops base i o e) := by
  cases hw : wantedA ops e o with
  | none => exact .inl fun H => by unfold stepOf; rw [hw]
  | some b =>
    cases b with
    | false => exact .inr ⟨.und, fun H => H, .inl rfl, fun H => ⟨True, by unfold stepOf; rw [hw], trivial⟩⟩
    | true =>
      by_cases hc : ∃ c, o.op = .call c
      · obtain ⟨c, hc⟩ := hc
        rw [hc] at hk
        obtain ⟨cal, ar, ts⟩ := c
        cases cal with
        | value x => simp [sortOf] at hk
        | invoke x y => simp [sortOf] at hk
        | builtin b =>
          have hb : b ≠ .append := by rintro rfl; simp [sortOf] at hk
          cases hv : X.blt b ts (ar.toList.map (X.ev e)) with
          | none => exact .inl fun H => by unfold stepOf; rw [hw]; simp only [hc]; cases b <;> simp_all
          | some v => exact .inr ⟨v, fun H => H, .inl rfl, fun H => ⟨True, by unfold stepOf; rw [hw]; simp only [hc]; cases b <;> simp_all, trivial⟩⟩
      · have hnc : ∀ c, o.op ≠ .call c := fun c q => hc ⟨c, q⟩
        have := op_still (X := X) (base := base) (i := i) e hk hnc
        have he : stepOf X mu ops base i o e = fun H => afterOp X e base o.op H (X.op mu e H (base.b + i) o.op) := by
          funext H
          unfold stepOf
          rw [hw]
          cases hop : o.op <;> first | exact (hnc _ hop).elim | rfl
        rw [he]
        exact this

/-- Operations that look at the heap. -/
theorem step_look {X : Cx} {mu : Bool} {ops : List Oper} {base : Lw} {i : Nat} {o : Oper} {e : Env} {H H2 : Heap} (hk : sortOf mu o.op = .load) (h : wantedA ops e o = some true → ∀ j, opIds X e o.op j → H2.bl j = H.bl j) :
    (stepOf X mu ops base i o e H = .fail ∧ stepOf X mu ops base i o e H2 = .fail) ∨
      ∃ v c, stepOf X mu ops base i o e H = .det v H c ∧ stepOf X mu ops base i o e H2 = .det v H2 c ∧ (c → wantedA ops e o = some true → lowOp X e base o.op) := by
  cases hw : wantedA ops e o with
  | none => exact .inl ⟨by unfold stepOf; rw [hw], by unfold stepOf; rw [hw]⟩
  | some b =>
    cases b with
    | false => exact .inr ⟨.und, True, by unfold stepOf; rw [hw], by unfold stepOf; rw [hw], fun _ q => by simp at q⟩
    | true =>
      have key : ∀ (r : Option PV), X.op mu e H (base.b + i) o.op = r.map (fun v => (v, H)) → X.op mu e H2 (base.b + i) o.op = r.map (fun v => (v, H2)) →
          (afterOp X e base o.op H (X.op mu e H (base.b + i) o.op) = .fail ∧ afterOp X e base o.op H2 (X.op mu e H2 (base.b + i) o.op) = .fail) ∨
          ∃ v c, afterOp X e base o.op H (X.op mu e H (base.b + i) o.op) = .det v H c ∧ afterOp X e base o.op H2 (X.op mu e H2 (base.b + i) o.op) = .det v H2 c ∧ (c → some true = some true → lowOp X e base o.op) := by
        intro r h1 h2
        rw [h1, h2]
        cases r with
        | none => exact .inl ⟨rfl, rfl⟩
        | some v => exact .inr ⟨v, lowOp X e base o.op, by simp [afterOp], by simp [afterOp], fun q _ => q⟩
      have hs : ∀ H, (∀ c, o.op ≠ .call c) → stepOf X mu ops base i o e H = afterOp X e base o.op H (X.op mu e H (base.b + i) o.op) := by
        intro H hnc
        unfold stepOf
        rw [hw]
        cases hop : o.op <;> first | exact (hnc _ hop).elim | rfl
      have h := h hw
      have hnc : ∀ c, o.op ≠ .call c := by
        rintro ⟨cal, ar, ts⟩ hc
        rw [hc] at hk
        cases cal with
        | builtin b => cases b <;> simp [sortOf] at hk
        | value x => simp [sortOf] at hk
        | invoke x y => simp [sortOf] at hk
      rw [hs H hnc, hs H2 hnc]
      cases hop : o.op <;> rw [hop] at hk key h <;> (try (simp [sortOf] at hk; done))
      case load t x => exact key (X.load t H (X.ev e x)) rfl (by unfold Cx.op; simp only []; rw [load_congr h])
      case convert s d x => exact key (X.convP s d H (X.ev e x)) rfl (by unfold Cx.op; simp only []; rw [conv_congr h])
      case indexAddr t x ix => exact key (X.indexAddr t H (X.ev e x) (X.ev e ix)) rfl (by unfold Cx.op; simp only []; rw [indexAddr_congr h])
      case buildSlice t n ps => cases mu <;> simp [sortOf] at hk
      case call c => exact (hnc c hop).elim


theorem stepOf_put {X : Cx} {mu : Bool} {ops : Array Oper} {base : Lw} {i : Nat} {o : Oper} {e : Env} {d : Option Tmp} {v : PV} {H : Heap} (h : ∀ t, d = some t → t ∉ o.looksAt ops) :
    stepOf X mu ops.toList base i o (put e d v) H = stepOf X mu ops.toList base i o e H :=
  stepOf_congr fun t ht => by
    cases d with
    | none => rfl
    | some d =>
      have : t ≠ d := by rintro rfl; exact h t rfl ht
      simp [this]

theorem put_comm {e : Env} {x y : Option Tmp} {v u : PV} (h : ∀ d, x = some d → y ≠ some d) : put (put e x v) y u = put (put e y u) x v := by
  cases x with
  | none => rfl
  | some d =>
    cases y with
    | none => rfl
    | some d' =>
      have hne : d ≠ d' := fun q => h d rfl (by rw [q])
      funext t
      simp only [put_some]
      by_cases h1 : t = d'
      · have h2 : t ≠ d := fun q => hne (q.symm.trans h1)
        rw [if_pos h1, if_neg h2, if_pos h1]
      · rw [if_neg h1]
        by_cases h2 : t = d
        · rw [if_pos h2, if_pos h2]
        · rw [if_neg h2, if_neg h2, if_neg h1]

end Go.A3
