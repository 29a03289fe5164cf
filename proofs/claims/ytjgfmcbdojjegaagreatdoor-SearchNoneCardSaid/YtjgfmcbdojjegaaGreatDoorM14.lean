/-
  The abstract machine is sound: every operation that calls no function of the program.
-/
import Derived.Test.YtjgfmcbdojjegaaGreatDoorM13
import Derived.Test.YtjgfmcbdojjegaaGreatDoorM29
namespace Go.A3

/-- The operation leaves this value, and this world. -/
def Does (P : Program) (o : Oper) (a : Act) (w : World) (x : Value) (w' : World) : Prop :=
  ∀ K Q, K (a.put o.dst x) w' → o.wp P a w K Q

theorem does_value {P : Program} {o : Oper} {a : Act} {w w' : World} {x : Value} (h : (execOp a.eval o).run P w = .ok (.value x) w') : Does P o a w x w' := by
  intro K Q hk
  unfold Oper.wp
  rw [h]
  exact hk

theorem does_skip {P : Program} {o : Oper} {a : Act} {w w' : World} (h : (execOp a.eval o).run P w = .ok .skip w') : Does P o a w undef w' := by
  intro K Q hk
  unfold Oper.wp
  rw [h]
  exact hk

/-- What an operation comes to. -/
def OpR (X : Cx) (g : Gs) (H : Heap) (b : Nat) (a : Act) (o : Oper) (v : PV) (H' : Heap) : Prop :=
  ∃ g' x, Does X.P o a g.w x g'.w ∧ SR X g' H' ∧ Stp g H g' H' ∧ VR g' v x ∧ (∀ id, g'.K id → g.K id ∨ id = b) ∧ (∀ j, j ≠ b → H.bl j = none → H'.bl j = none) ∧ H'.next = H.next

theorem Mk.op {X : Cx} {g : Gs} {H H' : Heap} {b : Nat} {a : Act} {o : Oper} {v : PV} {s : Sem Value} (h : Mk X g H b v H' s) (he : execOp a.eval o = (do pure (.value (← s)))) : OpR X g H b a o v H' := by
  obtain ⟨g', x, h1, h2⟩ := h
  exact ⟨g', x, does_value (by rw [he]; simp [h1]), h2⟩

def okTy (X : Cx) (u : Nat) : Bool := decide (0 < (X.ty u).size) && (X.ty u).zero.cells.length == (X.ty u).size

def okEl (X : Cx) (t : Nat) : Bool :=
  match (X.ty t).ki with
  | .slice u | .arr _ u => okTy X u
  | _ => true

/-- Can the operation be told? -/
def okOp (X : Cx) (o : Op) : Bool :=
  o.operands.all X.okO && match o with
  | .indexAddr t _ _ | .slice t _ _ _ _ | .index t _ _ => okEl X t
  | .field t _ f => match fieldOf X t f with | some (_, u) => okTy X u | none => true
  | .build t _ => (match (X.ty t).ki with | .struct fs => fs.all fun f => okTy X f.2 | .arr _ u => okTy X u | _ => false)
  | .call c => match c.callee with
    | .builtin .append => (c.argTypes.toList.take 1).all (okEl X)
    | _ => true
  | _ => true

theorem okTy_iff {X : Cx} {u : Nat} (h : okTy X u = true) : 0 < (X.ty u).size ∧ (X.ty u).zero.cells.length = (X.ty u).size := by
  unfold okTy at h
  simpa using h

theorem okEl_pos {X : Cx} {t : Nat} (h : okEl X t = true) : ∀ u, ((X.ty t).ki = .slice u ∨ ∃ n, (X.ty t).ki = .arr n u) → 0 < (X.ty u).size := by
  intro u hu
  unfold okEl at h
  rcases hu with hu | ⟨n, hu⟩ <;> (rw [hu] at h; exact (okTy_iff h).1)

theorem parts_ok {X : Cx} {g : Gs} {H : Heap} (hs : SR X g H) {e : Env} {a : Act} (he : EnvR g e a) : ∀ {l : List (Nat × Operand)}, (∀ x ∈ l, X.okO x.2 = true) → PR g (l.map fun p => (p.1, X.ev e p.2)) (l.map fun p => (p.1, a.eval p.2)) := by
  intro l h
  refine ⟨by simp, ?_⟩
  have := LR.map (g := g) (fun p : Nat × Operand => X.ev e p.2) (fun p => a.eval p.2) l fun p hp => ev_ok hs he (h p hp)
  simpa [List.map_map, Function.comp_def] using this

theorem conv_ok {X : Cx} {g : Gs} {H : Heap} (hs : SR X g H) {s d : Nat} {x v : PV} {a : Value} (hx : VR g x a) (h : X.convP s d H x = some v) : Gives X.P (convert s d a) g.w g v := by
  unfold Cx.convP at h
  split at h
  · rename_i k1 k kk n hk1 hk2
    unfold VR at hx; subst hx
    simp at h; subst h
    refine ⟨.int k (k.wrap n), ?_, by unfold VR; rfl⟩
    simp [convert, run_underlying (tyOf_int hk1), run_underlying (tyOf_int hk2), Conv.intToInt]
  · rename_i y hk1 hk2
    unfold VR at hx; subst hx
    simp at h; subst h
    refine ⟨.string y, ?_, by unfold VR; rfl⟩
    simp [convert, run_underlying (tyOf_str hk1), run_underlying (tyOf_str hk2)]
  · rename_i e hk1 hk2
    split at h
    · rename_i hke
      split at h
      · rename_i es hes
        cases hm : es.mapM toByte with
        | none => rw [hm] at h; simp at h
        | some l =>
          rw [hm] at h
          simp at h; subst h
          have key : ∀ (es : List PV) (l : List UInt8), es.mapM toByte = some l → es = l.map fun c => PV.int .u8 (c.toNat : Int) := by
            intro es
            induction es with
            | nil => intro l h; simp at h; subst h; rfl
            | cons c es ih =>
              intro l h
              simp only [List.mapM_cons, Option.bind_eq_bind, Option.pure_def] at h
              cases hc : toByte c with
              | none => simp [hc] at h
              | some b =>
                cases hr : es.mapM toByte with
                | none => simp [hc, hr] at h
                | some r =>
                  simp [hc, hr] at h
                  subst h
                  rw [ih r hr]
                  unfold toByte at hc
                  split at hc
                  · split at hc
                    · rename_i n hn
                      simp at hc; subst hc
                      simp only [List.map_cons, List.cons.injEq, PV.int.injEq, true_and, and_true]
                      have : n.toNat < 256 := by omega
                      simp [Nat.mod_eq_of_lt this]
                      omega
                    · simp at hc
                  · simp at hc
          have hes' := key es l hm
          obtain ⟨vs, cap, h1, h2⟩ := elems_ok (sz := 1) hs hx hes (fun c hc => by
            rw [hes'] at hc
            obtain ⟨b, _, rfl⟩ := List.mem_map.1 hc
            rfl)
          have hvs : vs = (l.map fun c => (c.toNat : Int)).map (Value.int .u8) := by
            apply List.ext_getElem?
            intro k
            have hl := h1.len
            rw [hes'] at hl h1
            simp at hl
            by_cases hk : k < l.length
            · obtain ⟨x, q1, q2, q3⟩ := h1.row k (.int .u8 (l[k].toNat : Int)) (by simp [hk])
              unfold VR at q1; subst q1
              have := q3 0 (.int .u8 (l[k].toNat : Int)) (by simp [Value.cells])
              simp at this
              simp [hk, this]
            · simp [hk, hl]
          have hpush : ∀ (l : List UInt8) (acc : ByteArray), (l.map fun c => (c.toNat : Int)).foldl (fun r n => r.push (UInt8.ofNat n.toNat)) acc = ⟨(acc.data.toList ++ l).toArray⟩ := by
            intro l
            induction l with
            | nil => intro acc; simp
            | cons c l ih =>
              intro acc
              simp only [List.map_cons, List.foldl_cons]
              rw [ih]
              simp [ByteArray.push]
          have hconv : (Conv.bytesToString a).run X.P g.w = .ok (.string ⟨l.toArray⟩) g.w := by
            rcases h2 with ⟨b, p, rfl, hc, hr⟩ | ⟨rfl, rfl, rfl⟩
            · have hl := h1.len
              rw [hes', hvs] at hl
              have := run_bytesToString (P := X.P) g.w ⟨b, p, none⟩ es.length cap (l.map fun c => (c.toNat : Int)) (by
                have := run_loadCells_list (P := X.P) g.w ⟨b, p, none⟩ vs (fun j v hj => by rw [add_none]; exact hr j v hj)
                rw [h1.len, Nat.mul_one] at this
                rw [this, hvs])
              rw [this, hpush]
              rfl
            · have : l = [] := by
                cases l with
                | nil => rfl
                | cons c l => simp at hes'
              subst this
              simp [Conv.bytesToString]
              rfl
          refine ⟨.string ⟨l.toArray⟩, ?_, by unfold VR; rfl⟩
          have hu1 := run_underlying (tyOf_slice hk1) g.w
          have hu2 := run_underlying (tyOf_str hk2) g.w
          have hu3 := run_underlying (tyOf_int hke) g.w
          rcases h2 with ⟨b, p, rfl, hc, hr⟩ | ⟨rfl, rfl, rfl⟩ <;> simp [convert, hu1, hu2, hu3, hconv]
      · simp at h
    · simp at h
  · simp at h

end Go.A3
