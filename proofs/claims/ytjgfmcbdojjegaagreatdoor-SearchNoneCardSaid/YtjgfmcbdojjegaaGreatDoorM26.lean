/-
  The abstract machine is sound: calls.
-/
import Derived.Test.YtjgfmcbdojjegaaGreatDoorM25
namespace Go.A3

variable {X : Cx} {mu : Bool}

/-- Where a function begins. -/
def entry (args : List PV) : Env := fun t => args.getD t .und

def resA (X : Cx) (e : Env) (H : Heap) : ResultVar → Option PV
  | .tmp t => some (e t)
  | .cell a t => X.load t H (e a)

def outA (X : Cx) (rs : List ResultVar) (e : Env) (H : Heap) : Option PV :=
  match rs with
  | [r] => resA X e H r
  | rs => (rs.mapM (resA X e H)).map .tup

/-- What lies in a result variable. -/
def resM (a : Act) : ResultVar → Sem Value
  | .tmp t => pure (a.tmps.getD t undef)
  | .cell x t => do loadVar t (← asAddr (a.tmps.getD x undef))

theorem loadAt_as {P : Program} {w w' : World} {t : TypeId} {v y : Value} (h : (Instr.loadAt t v).run P w = .ok y w') : (do loadVar t (← asAddr v) : Sem Value).run P w = .ok y w' := by
  unfold Instr.loadAt at h
  simp only [Sem.run_bind] at h ⊢
  cases v with
  | pointer p =>
    cases p with
    | some a => simpa [Instr.sureAddr, asAddr] using h
    | none => simp [Instr.sureAddr] at h
  | _ => simp [Instr.sureAddr] at h

theorem resA_ok {g : Gs} {e : Env} {H : Heap} {a : Act} (hs : SR X g H) (he : EnvR g e a) {r : ResultVar} {v : PV} (h : resA X e H r = some v) :
    ∃ y, (resM a r).run X.P g.w = .ok y g.w ∧ VR g v y := by
  cases r with
  | tmp t =>
    simp only [resA, Option.some.injEq] at h
    subst h
    exact ⟨_, rfl, he t⟩
  | cell x t =>
    simp only [resA] at h
    obtain ⟨y, h1, h2⟩ := Cx.load_ok hs (he x) h
    exact ⟨y, loadAt_as h1, h2⟩

theorem resL_ok {g : Gs} {e : Env} {H : Heap} {a : Act} (hs : SR X g H) (he : EnvR g e a) : ∀ (rs : List ResultVar) (vs : List PV), rs.mapM (resA X e H) = some vs →
    ∃ ys, (rs.mapM (resM a)).run X.P g.w = .ok ys g.w ∧ LR g vs ys ∧ ys.length = rs.length
  | [], vs, h => by
    simp at h
    subst h
    exact ⟨[], rfl, by unfold LR; rfl, rfl⟩
  | r :: rs, vs, h => by
    rw [List.mapM_cons] at h
    cases h1 : resA X e H r with
    | none => rw [h1] at h; simp at h
    | some v =>
      cases h2 : rs.mapM (resA X e H) with
      | none => rw [h1, h2] at h; simp at h
      | some us =>
        rw [h1, h2] at h
        simp at h
        subst h
        obtain ⟨y, k1, k2⟩ := resA_ok hs he h1
        obtain ⟨ys, k3, k4, k5⟩ := resL_ok hs he rs us h2
        refine ⟨y :: ys, ?_, by unfold LR; exact ⟨y, ys, rfl, k2, k4⟩, by simp [k5]⟩
        rw [List.mapM_cons]
        simp [k1, k3]

/-- What a function hands out. -/
theorem outA_ok {g : Gs} {e : Env} {H : Heap} {a : Act} (hs : SR X g H) (he : EnvR g e a) {fn : Func} {v : PV} (h : outA X fn.results.toList e H = some v) :
    ∃ y, (results fn a.tmps).run X.P g.w = .ok y g.w ∧ VR g v y := by
  have hf : results fn a.tmps = (do
      let vs ← fn.results.mapM (resM a)
      pure (if h : vs.size = 1 then vs[0] else .tuple vs)) := by
    unfold results
    congr 1
  rw [hf, Array.mapM_eq_mapM_toList]
  unfold outA at h
  split at h
  · rename_i r hr
    obtain ⟨y, k1, k2⟩ := resA_ok hs he h
    refine ⟨y, ?_, k2⟩
    rw [hr]
    simp [k1]
  · rename_i hne
    cases hm : fn.results.toList.mapM (resA X e H) with
    | none => rw [hm] at h; simp at h
    | some vs =>
      rw [hm] at h
      simp at h
      subst h
      obtain ⟨ys, k1, k2, k3⟩ := resL_ok hs he _ _ hm
      refine ⟨.tuple ys.toArray, ?_, by unfold VR; exact ⟨_, rfl, by simpa using k2⟩⟩
      have : ¬ ys.length = 1 := by
        rw [k3]
        intro q
        match hq : fn.results.toList with
        | [r] => exact hne r hq
        | [] => rw [hq] at q; simp at q
        | _ :: _ :: _ => rw [hq] at q; simp at q
      simp [k1, this]

/-- Nothing runs, but one looks at a result anew. -/
def GhostV (X : Cx) (r : PV) (H : Heap) (r' : PV) (H' : Heap) : Prop :=
  ∀ g v, SR X g H → VR g r v → ∃ g', g'.w = g.w ∧ SR X g' H' ∧ VR g' r' v ∧ Reg H.next g H g' H'

theorem GhostV.refl (r : PV) (H : Heap) : GhostV X r H r H := fun g _ h hv => ⟨g, rfl, h, hv, Reg.refl _ _ _⟩

/-- What a body comes to. -/
def outP (X : Cx) (rs : List ResultVar) (Post : PV → Heap → Prop) : Xt → Env → Heap → Prop
  | .exit _, _, _ => False
  | _, e, H => ∃ r r' H', outA X rs e H = some r ∧ GhostV X r H r' H' ∧ Post r' H'

/-- Can the function be told? -/
def okBody (X : Cx) (fn : Func) : Bool := match fn.body with
  | some c => okCode X fn.ntmps c
  | none => false

/-- **What the machine says of a function's body holds of its calls.** -/
theorem calls_W (hm : X.P.follows .mixedOrders = true) {f : FuncId} {fn : Func} {c : Code} (hf : X.P.funcs[f]? = some fn) (hb : fn.body = some c) (hfn : okFn X f = true) (hok : okCode X fn.ntmps c = true)
    {args : List PV} (hn : args.length ≤ fn.ntmps) {H : Heap} {Post : PV → Heap → Prop} (h : W X mu fn.ntmps c (outP X fn.results.toList Post) (entry args) H) : CallsA X f args H Post := by
  refine ⟨hfn, fun g hs argv ha => ?_⟩
  have hlen : argv.size = args.length := by
    have := ha.length
    simpa using this
  refine calls_of_wp hf hb ?_
  refine W_ok hm c hok _ _ g (entry args) H _ ⟨hs, fun t => ?_, rfl, by simp; omega⟩ h ?_
  · unfold entry
    by_cases q : t < args.length
    · have h1 : args[t]? = some args[t] := List.getElem?_eq_getElem q
      obtain ⟨v, hv, hv'⟩ := ha.get h1
      have hv2 : argv[t]? = some v := by simpa using hv
      simp only [List.getD_eq_getElem?_getD, h1, Option.getD_some]
      rw [Array.getD_eq_getD_getElem?, Array.getElem?_append, if_pos (by omega), hv2]
      exact hv'
    · have h1 : args[t]? = none := List.getElem?_eq_none (by omega)
      simp only [List.getD_eq_getElem?_getD, h1, Option.getD_none]
      rw [Array.getD_eq_getD_getElem?, Array.getElem?_append, if_neg (by omega)]
      unfold VR
      by_cases q2 : t - argv.size < fn.ntmps - argv.size
      · simp [q2]
      · simp [q2]
  · intro x g' e' H' a' k1 k2 k3
    have fin : ∀ (e' : Env) (H' : Heap), Rel X fn.ntmps g' e' H' a' → Reg H.next g H g' H' → (∃ r r' H'', outA X fn.results.toList e' H' = some r ∧ GhostV X r H' r' H'' ∧ Post r' H'') →
        a'.defers = [] ∧ ∃ v, (results fn a'.tmps).run X.P g'.w = .ok v g'.w ∧ ∃ r H' g'' v', Ending.returned v = .returned v' ∧ g''.w = g'.w ∧ SR X g'' H' ∧ Stp g H g'' H' ∧ New H.next g H g'' H' ∧ VR g'' r v' ∧ Post r H' := by
      rintro e' H' k1 k2 ⟨r, r', H'', h1, h2, h3⟩
      obtain ⟨y, q1, q2⟩ := outA_ok k1.sr k1.env h1
      obtain ⟨g'', q3, q4, q5, q6⟩ := h2 g' y k1.sr q2
      have := k2.trans q6 k2.new.next
      exact ⟨k1.defers, y, q1, r', H'', g'', y, rfl, q3, q4, this.stp, this.new, q5, h3⟩
    cases x with
    | normal => exact fin e' H' k1 k2 k3
    | ret => exact fin e' H' k1 k2 k3
    | exit j => exact k3.elim

end Go.A3
