/-
  The abstract machine is sound: one operation of a region, calls included.
-/
import Derived.Test.YtjgfmcbdojjegaaGreatDoorM15
import Derived.Orders
namespace Go.A3

theorem wantedA_ok {g : Gs} {e : Env} {a : Act} (he : EnvR g e a) {ops : Array Oper} {o : Oper} {b : Bool} (h : wantedA ops.toList e o = some b) : Region.wanted o (yielded ops a.tmps) = b := by
  unfold wantedA at h
  unfold Region.wanted
  cases hg : o.guard with
  | none => simp [hg] at h; simp [h]
  | some q =>
    obtain ⟨j, want⟩ := q
    simp only [hg] at h ⊢
    cases hd : (ops.toList[j]?).bind (·.dst) with
    | none => rw [hd] at h; simp at h
    | some d =>
      have hd' : (ops[j]?).bind (·.dst) = some d := by simpa using hd
      have hv := he d
      rw [hd] at h
      simp only [Option.map_some] at h
      unfold yielded
      simp only [hd', Option.bind_some]
      split at h
      · rename_i c hc
        simp at hc h
        rw [hc] at hv
        unfold VR at hv
        have : a.tmps[d]? = some (.bool c) := by
          cases hq : a.tmps[d]? with
          | none => simp [hq, undef] at hv
          | some x => simp [hq] at hv; rw [hv]
        rw [this]
        simp [← h]
      · rename_i hc
        simp at hc h
        rw [hc] at hv
        unfold VR at hv
        subst h
        cases hq : a.tmps[d]? with
        | none => simp
        | some x => simp [hq] at hv; rw [hv]; simp [undef]
      · simp at h

theorem blt_ok {X : Cx} {w : World} {g : Gs} {b : Builtin} {ts : Array TypeId} {args : List PV} {vs : List Value} (hl : LR g args vs) {v : PV} (h : X.blt b ts args = some v) (ty : TypeId) (cs : Array Bool) :
    ∃ x, (builtin b ts ty cs vs.toArray).run X.P w = .ok (.value x) w ∧ VR g v x := by
  unfold Cx.blt at h
  split at h
  · rename_i x
    unfold LR at hl
    obtain ⟨y, r, rfl, hy, hr⟩ := hl
    unfold LR at hr
    subst hr
    cases ht : ts[0]? with
    | none => simp [ht] at h
    | some t =>
      simp only [ht, Option.map_some] at h
      split at h <;> rename_i hk <;> (try (simp at h; done)) <;> simp at hk <;> simp at h <;> subst h
      · unfold VR at hy; subst hy
        exact ⟨.int .i64 _, by simp [builtin, Builtin.len_, ht, run_underlying (tyOf_str hk), goInt]; rfl, by unfold VR; rfl⟩
      · unfold VR at hy; subst hy
        exact ⟨.int .i64 0, by simp [builtin, Builtin.len_, ht, run_underlying (tyOf_slice hk), goInt], by unfold VR; rfl⟩
      · unfold VR at hy
        obtain ⟨_, _, _, _, rfl, _⟩ := hy
        exact ⟨.int .i64 _, by simp [builtin, Builtin.len_, ht, run_underlying (tyOf_slice hk), goInt]; rfl, by unfold VR; rfl⟩
      · unfold VR at hy
        obtain ⟨_, _, _, _, rfl⟩ := hy
        exact ⟨.int .i64 _, by simp [builtin, Builtin.len_, ht, run_underlying (tyOf_slice hk), goInt]; rfl, by unfold VR; rfl⟩
      · unfold VR at hy
        obtain ⟨_, _, _, rfl⟩ := hy
        exact ⟨.int .i64 _, by simp [builtin, Builtin.len_, ht, run_underlying (tyOf_slice hk), goInt]; rfl, by unfold VR; rfl⟩
      · exact ⟨.int .i64 _, by simp [builtin, Builtin.len_, ht, run_underlying (tyOf_arr hk), goInt]; rfl, by unfold VR; rfl⟩
  · rename_i x
    unfold LR at hl
    obtain ⟨y, r, rfl, hy, hr⟩ := hl
    unfold LR at hr
    subst hr
    cases ht : ts[0]? with
    | none => simp [ht] at h
    | some t =>
      simp only [ht, Option.map_some] at h
      split at h <;> rename_i hk <;> (try (simp at h; done)) <;> simp at hk <;> simp at h <;> subst h
      · unfold VR at hy; subst hy
        exact ⟨.int .i64 0, by simp [builtin, Builtin.cap_, ht, run_underlying (tyOf_slice hk), goInt], by unfold VR; rfl⟩
      · unfold VR at hy
        obtain ⟨_, _, c, _, rfl, _, hc, _⟩ := hy
        exact ⟨.int .i64 _, by simp [builtin, Builtin.cap_, ht, run_underlying (tyOf_slice hk), goInt, hc]; rfl, by unfold VR; rfl⟩
  · rename_i k p k' q
    unfold LR at hl
    obtain ⟨y, r, rfl, hy, hr⟩ := hl
    unfold LR at hr
    obtain ⟨y', r', rfl, hy', hr⟩ := hr
    unfold LR at hr
    subst hr
    unfold VR at hy hy'
    subst hy hy'
    simp at h; subst h
    exact ⟨_, by simp [builtin, Builtin.min_, Builtin.min2]; rfl, by unfold VR; rfl⟩
  · rename_i k p k' q
    unfold LR at hl
    obtain ⟨y, r, rfl, hy, hr⟩ := hl
    unfold LR at hr
    obtain ⟨y', r', rfl, hy', hr⟩ := hr
    unfold LR at hr
    subst hr
    unfold VR at hy hy'
    subst hy hy'
    simp at h; subst h
    exact ⟨_, by simp [builtin, Builtin.max_, Builtin.max2]; rfl, by unfold VR; rfl⟩
  · simp at h

/-- What holds of a state of things. -/
structure Rel (X : Cx) (n : Nat) (g : Gs) (e : Env) (H : Heap) (a : Act) : Prop where
  sr : SR X g H
  env : EnvR g e a
  defers : a.defers = []
  size : a.tmps.size = n

/-- How things went from one state to a later one: what is new lies at ids from m on, or at the id b. -/
structure Went (m b : Nat) (g : Gs) (H : Heap) (g' : Gs) (H' : Heap) : Prop where
  stp : Stp g H g' H'
  K : ∀ id, id < m → id ≠ b → g'.K id → g.K id
  bl : ∀ id, id < m → id ≠ b → H.bl id = none → H'.bl id = none
  next : H.next ≤ H'.next

theorem act_size (a : Act) (d : Option Tmp) (v : Value) : (a.put d v).tmps.size = a.tmps.size := by
  cases d <;> simp [Act.put]

theorem act_defers (a : Act) (d : Option Tmp) (v : Value) : (a.put d v).defers = a.defers := by
  cases d <;> rfl

/-- Can an operation of a region be told? -/
def okOper (X : Cx) (n : Nat) (o : Oper) : Bool := okOp X o.op && (match o.dst with | some d => decide (d < n) | none => true)

theorem okOper_dst {X : Cx} {n : Nat} {o : Oper} (h : okOper X n o = true) : ∀ t, o.dst = some t → t < n := by
  unfold okOper at h
  intro t ht
  simp [ht] at h
  exact h.2

theorem Rel.put {X : Cx} {n : Nat} {g g' : Gs} {e : Env} {H H' : Heap} {a : Act} (h : Rel X n g e H a) (hs : SR X g' H') (x : Ext g g') {d : Option Tmp} {v : PV} {y : Value} (hv : VR g' v y) (hd : ∀ t, d = some t → t < n) :
    Rel X n g' (A3.put e d v) H' (a.put d y) :=
  ⟨hs, (h.env.mono x).put hv (fun t ht => by rw [h.size]; exact hd t ht), by rw [act_defers, h.defers], by rw [act_size, h.size]⟩

/-- **One operation that calls no function of the program.** -/
theorem step_det {X : Cx} {n : Nat} {g : Gs} {e : Env} {H : Heap} {a : Act} (hr : Rel X n g e H a) {mu : Bool} {ops : Array Oper} {base : Lw} {i : Nat} {o : Oper} (ho : ops[i]? = some o) (hok : okOper X n o = true)
    (hK : ¬ g.K (base.b + i)) (hbl : H.bl (base.b + i) = none) (hbn : base.b + i < H.next) {v : PV} {H' : Heap} {c : Prop} (h : stepOf X mu ops.toList base i o e H = .det v H' c) :
    ∃ g' x, Rel X n g' (A3.put e o.dst v) H' (a.put o.dst x) ∧ Went H.next (base.b + i) g H g' H' ∧ VR g' v x ∧ H'.next = H.next ∧ ∀ K' Q', K' (a.put o.dst x) g'.w → wpOp X.P ops Q' i K' a g.w := by
  have hd := okOper_dst hok
  have hokop : okOp X o.op = true := by unfold okOper at hok; simp at hok; exact hok.1
  have hO : ∀ x ∈ o.op.operands, X.okO x = true := by
    unfold okOp at hokop
    simp only [Bool.and_eq_true] at hokop
    intro x hx
    exact (Array.all_eq_true_iff_forall_mem.1 hokop.1) x hx
  have hw0 : Went H.next (base.b + i) g H g H := ⟨Stp.refl g H, fun _ _ _ h => h, fun _ _ _ h => h, Nat.le_refl _⟩
  unfold stepOf at h
  split at h
  · simp at h
  · rename_i hw
    simp only [SO.det.injEq] at h
    obtain ⟨rfl, rfl, _⟩ := h
    refine ⟨g, undef, hr.put hr.sr (Ext.refl g) (by unfold VR; rfl) hd, hw0, by unfold VR; rfl, rfl, fun K' Q' hk => ?_⟩
    unfold wpOp
    simp only [ho]
    rw [wantedA_ok hr.env hw]
    simpa using hk
  · rename_i hw
    have opR : ∀ {v : PV} {H' : Heap}, OpR X g H (base.b + i) a o v H' → ∃ g' x, Rel X n g' (A3.put e o.dst v) H' (a.put o.dst x) ∧ Went H.next (base.b + i) g H g' H' ∧ VR g' v x ∧ H'.next = H.next ∧ ∀ K' Q', K' (a.put o.dst x) g'.w → wpOp X.P ops Q' i K' a g.w := by
      rintro v H' ⟨g', x, h1, h2, h3, h4, h5, h6, h7⟩
      refine ⟨g', x, hr.put h2 h3.ext h4 hd, ⟨h3, fun id _ hne hid => (h5 id hid).resolve_right hne, fun id _ hne h0 => h6 id hne h0, by rw [h7]; exact Nat.le_refl _⟩, h4, h7, fun K' Q' hk => ?_⟩
      unfold wpOp
      simp only [ho]
      rw [wantedA_ok hr.env hw]
      simp only [if_true]
      exact .inl (h1 K' Q' hk)
    split at h
    · rename_i c hc
      have hargs : LR g (c.args.toList.map (X.ev e)) (c.args.toList.map a.eval) := evs_ok hr.sr hr.env fun x hx => hO x (by rw [hc]; simp [Op.operands, Call.operands]; exact .inr (by simpa using hx))
      split at h
      · rename_i hcal
        split at h
        · rename_i s x hsx
          split at h
          · rename_i v' H1 happ
            simp only [SO.det.injEq] at h
            obtain ⟨rfl, rfl, _⟩ := h
            rw [hsx] at hargs
            unfold LR at hargs
            obtain ⟨sv, r, hr1, hsv, hr2⟩ := hargs
            unfold LR at hr2
            obtain ⟨xv, r', rfl, hxv, hr3⟩ := hr2
            unfold LR at hr3
            subst hr3
            have hty : ∀ u, (∃ t, c.argTypes[0]? = some t ∧ (X.ty t).ki = .slice u) → 0 < (X.ty u).size ∧ (X.ty u).zero.cells.length = (X.ty u).size := by
              rintro u ⟨t, ht, hku⟩
              unfold okOp at hokop
              simp only [hc, hcal, Bool.and_eq_true] at hokop
              have hm : t ∈ c.argTypes.toList.take 1 := by
                refine List.mem_of_getElem? (i := 0) ?_
                simpa using ht
              have := List.all_eq_true.1 hokop.2 t hm
              unfold okEl at this
              rw [hku] at this
              exact okTy_iff this
            have := app_ok hr.sr (ty := o.type) hK hbl hbn hsv hxv hty happ
            refine opR (this.op ?_)
            have hmap : c.args.map a.eval = #[sv, xv] := by
              apply Array.ext'
              simpa using hr1
            simp [execOp, hc, resolve, hcal, invoke, builtin, hmap]
          · simp at h
        · simp at h
      · rename_i b hcal
        split at h
        · rename_i v' hv
          simp only [SO.det.injEq] at h
          obtain ⟨rfl, rfl, _⟩ := h
          obtain ⟨x, h1, h2⟩ := blt_ok (X := X) (w := g.w) hargs hv o.type (c.args.map fun | .const _ => true | _ => false)
          refine opR ⟨g, x, does_value ?_, hr.sr, Stp.refl g H, h2, fun _ h => .inl h, fun _ _ h => h, rfl⟩
          have hmap : (c.args.toList.map a.eval).toArray = c.args.map a.eval := by
            apply Array.ext'
            simp
          rw [hmap] at h1
          simp [execOp, hc, resolve, hcal, invoke]
          exact h1
        · simp at h
      · split at h <;> simp at h
    · unfold afterOp at h
      split at h
      · rename_i v' H1 hop
        simp only [SO.det.injEq] at h
        obtain ⟨rfl, rfl, _⟩ := h
        exact opR (op_ok hr.sr hr.env hK hbn o hokop hop)
      · simp at h

/-- **One call.** -/
theorem step_call {X : Cx} {n : Nat} {g : Gs} {e : Env} {H : Heap} {a : Act} (hr : Rel X n g e H a) {mu : Bool} {ops : Array Oper} {base : Lw} {i : Nat} {o : Oper} (ho : ops[i]? = some o) (hok : okOper X n o = true)
    {f : FuncId} {args : List PV} (h : stepOf X mu ops.toList base i o e H = .call f args) (hfn : okFn X f = true) :
    ∃ argv : Array Value, LR g args argv.toList ∧ ∀ (R : Value → World → Prop) K' Q', Calls X.P f argv g.w (fun e w' => ∃ v, e = .returned v ∧ R v w') → (∀ v w', R v w' → K' (a.put o.dst v) w') → wpOp X.P ops Q' i K' a g.w := by
  have hokop : okOp X o.op = true := by unfold okOper at hok; simp at hok; exact hok.1
  have hO : ∀ x ∈ o.op.operands, X.okO x = true := by
    unfold okOp at hokop
    simp only [Bool.and_eq_true] at hokop
    intro x hx
    exact (Array.all_eq_true_iff_forall_mem.1 hokop.1) x hx
  unfold stepOf at h
  split at h
  · simp at h
  · simp at h
  · rename_i hw
    split at h
    · rename_i c hc
      have hargs : LR g (c.args.toList.map (X.ev e)) (c.args.toList.map a.eval) := evs_ok hr.sr hr.env fun x hx => hO x (by rw [hc]; simp [Op.operands, Call.operands]; exact .inr (by simpa using hx))
      split at h
      · split at h
        · split at h <;> simp at h
        · simp at h
      · split at h <;> simp at h
      · split at h
        · rename_i f0 args0 hcl
          simp only [SO.call.injEq] at h
          obtain ⟨rfl, rfl⟩ := h
          unfold Cx.callee at hcl
          split at hcl
          case h_2 => simp at hcl
          rename_i x hx
          split at hcl
          case h_2 => simp at hcl
          rename_i f' fi ca hfv
          simp at hcl
          obtain ⟨rfl, rfl⟩ := hcl
          have hxv := ev_ok hr.sr hr.env (hO x (by rw [hc]; simp [Op.operands, Call.operands, hx]))
          rw [hfv] at hxv
          unfold VR at hxv
          obtain ⟨av, bv, hval, hl1, hl2⟩ := hxv
          have hrun : (execOp a.eval o).run X.P g.w = .ok (.enter f' (av ++ c.args.map a.eval ++ bv)) g.w := by
            unfold okFn at hfn
            cases hf : X.P.funcs[f']? with
            | none => simp [hf] at hfn
            | some fn =>
              simp [hf] at hfn
              simp [execOp, hc, resolve, hx, hval, Deferred.ofValue, invoke, callFunc, hf, hfn.2]
              cases hb : fn.body with
              | none => simp [hb] at hfn
              | some body => simp
          have hall : LR g (fi ++ (c.args.toList.map (X.ev e) ++ ca)) (av ++ c.args.map a.eval ++ bv).toList := by
            simp only [Array.toList_append, Array.toList_map, List.append_assoc]
            exact hl1.append (hargs.append hl2)
          refine ⟨av ++ c.args.map a.eval ++ bv, by simpa using hall, fun R K' Q' hcalls hk => ?_⟩
          unfold wpOp
          simp only [ho]
          rw [wantedA_ok hr.env hw]
          simp only [if_true]
          left
          unfold Oper.wp
          rw [hrun]
          simp only [Oper.upon]
          refine hcalls.mono ?_
          rintro en w' ⟨v, rfl, hR⟩
          exact hk v w' hR
        · simp at h
    · unfold afterOp at h
      split at h <;> simp at h

/-- **One operation.** -/
theorem step_ok {X : Cx} {n : Nat} {g : Gs} {e : Env} {H : Heap} {a : Act} (hr : Rel X n g e H a) {mu : Bool} {free : Nat → Bool} {ops : Array Oper} {base : Lw} {i : Nat} {o : Oper} (ho : ops[i]? = some o) (hok : okOper X n o = true)
    (hK : ¬ g.K (base.b + i)) (hbl : H.bl (base.b + i) = none) (hbn : base.b + i < H.next) {K : Env → Heap → Prop} (h : StepP X mu free ops.toList base i o K e H) {K' : Act → World → Prop} {Q' : Exit → Act → World → Prop}
    (hk : ∀ g' e' H' a', Rel X n g' e' H' a' → Went H.next (base.b + i) g H g' H' → K e' H' → K' a' g'.w) : wpOp X.P ops Q' i K' a g.w := by
  unfold StepP at h
  split at h
  · rename_i v H' c hs
    obtain ⟨g', x, h1, h2, _, _, h3⟩ := step_det hr ho hok hK hbl hbn hs
    exact h3 _ _ (hk g' _ _ _ h1 h2 h.2)
  · rename_i f args hs
    obtain ⟨argv, h1, h2⟩ := step_call hr ho hok hs h.1
    refine h2 (fun v w' => ∃ r H' g', g'.w = w' ∧ SR X g' H' ∧ Stp g H g' H' ∧ New H.next g H g' H' ∧ VR g' r v ∧ K (A3.put e o.dst r) H') _ _ ((h.2 g hr.sr argv h1).mono ?_) ?_
    · rintro en w' ⟨r, H', g', v, rfl, q0, q1, q2, q3, q4, q5⟩
      exact ⟨v, rfl, r, H', g', q0, q1, q2, q3, q4, q5.2⟩
    · rintro v w' ⟨r, H', g', rfl, q1, q2, q3, q4, q5⟩
      exact hk g' _ _ _ (hr.put q1 q2.ext q4 (okOper_dst hok)) ⟨q2, fun id hi _ hid => q3.K id hi hid, fun id hi _ h0 => q3.bl id hi h0, q3.next⟩ q5
  · exact h.elim

end Go.A3
