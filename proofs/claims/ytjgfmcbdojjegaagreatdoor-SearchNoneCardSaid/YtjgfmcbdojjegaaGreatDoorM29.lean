/-
  The abstract machine is sound: maps.
-/
import Derived.Test.YtjgfmcbdojjegaaGreatDoorM12
import Derived.MapKept
namespace Go.A3

theorem sameK_ok {g : Gs} {P : Program} {t : TypeId} {x y : PV} {a b : Value} {r : Bool} {d : TypeDesc} (hx : VR g x a) (hy : VR g y b) (h : sameK (tyOf P t).ki x y = some r) (hd : P.underlying t = some d) :
    Instr.sameNow d a b = some r := by
  unfold sameK at h
  split at h <;> rename_i hk
  · have := tyOf_str hk
    rw [hd] at this
    simp at this; subst this
    unfold VR at hx hy; subst hx hy
    exact h
  · have := tyOf_int hk
    rw [hd] at this
    simp at this; subst this
    unfold VR at hx hy; subst hx hy
    exact h
  · simp at h

theorem ba_eq {a b : ByteArray} (h : (a == b) = true) : a = b := by
  cases a; cases b
  have h : (_ == _) = true := h
  exact congrArg _ (eq_of_beq h)

theorem ba_refl (a : ByteArray) : (a == a) = true := by
  cases a
  rename_i x
  show (x == x) = true
  simp

theorem sameNow_bits {d : TypeDesc} {a b : Value} (h : Instr.sameNow d a b = some true) : Instr.sameBits 10000 b a = true := by
  unfold Instr.sameNow at h
  split at h
  · split at h
    · rename_i k _ hk
      subst hk
      simp at h
      subst h
      simp [Instr.sameBits]
    · simp at h
  · simp only [Option.some.injEq] at h; rw [ba_eq h]; simp [Instr.sameBits, ba_refl]
  · simp only [Option.some.injEq] at h; rw [eq_of_beq h]; simp [Instr.sameBits]
  · simp at h

theorem findK_ok {g : Gs} {P : Program} {t : TypeId} {d : TypeDesc} (hd : P.underlying t = some d) {k : PV} {kv : Value} (hk : VR g k kv) : ∀ {es : List (PV × PV)} {ms : List MapEntry} {i : Nat} {r : Option (Nat × PV)},
    MapR g es ms → findK (tyOf P t).ki k es i = some r →
    (r = none ∧ Instr.findNow d kv ms i = some none) ∨ ∃ j v y, r = some (i + j, v) ∧ Instr.findNow d kv ms i = some (some (i + j, y)) ∧ VR g v y ∧ ∃ m, ms[j]? = some m ∧ Instr.sameBits 10000 m.key kv = true
  | [], ms, i, r, hm, h => by
    obtain ⟨h1, h2⟩ := hm
    simp [findK] at h; subst h
    unfold LR at h1
    cases ms with
    | nil => exact .inl ⟨rfl, rfl⟩
    | cons m ms => simp at h1
  | (q, v) :: es, ms, i, r, hm, h => by
    obtain ⟨h1, h2⟩ := hm
    simp only [List.map_cons] at h1 h2
    unfold LR at h1 h2
    obtain ⟨a, ra, e1, va, la⟩ := h1
    obtain ⟨b, rb, e2, vb, lb⟩ := h2
    cases ms with
    | nil => simp at e1
    | cons m ms =>
      simp only [List.map_cons, List.cons.injEq] at e1 e2
      obtain ⟨rfl, rfl⟩ := e1
      obtain ⟨rfl, rfl⟩ := e2
      unfold findK at h
      split at h
      · rename_i hs
        have := sameK_ok hk va hs hd
        simp at h; subst h
        exact .inr ⟨0, v, m.val, rfl, by unfold Instr.findNow; rw [this]; rfl, vb, m, by simp, sameNow_bits this⟩
      · rename_i hs
        have := sameK_ok hk va hs hd
        rcases findK_ok hd hk (es := es) (ms := ms) ⟨la, lb⟩ h with ⟨q1, q2⟩ | ⟨j, v', y, q1, q2, q3, m', q4, q5⟩
        · exact .inl ⟨q1, by unfold Instr.findNow; rw [this]; exact q2⟩
        · refine .inr ⟨j + 1, v', y, by rw [q1]; congr 2; omega, by unfold Instr.findNow; rw [this]; simp only []; rw [q2]; congr 3; omega, q3, m', by simpa using q4, q5⟩
      · simp at h

theorem plain_check {g : Gs} {P : Program} {t : TypeId} {k : PV} {kv : Value} (hk : VR g k kv) (h : plainKey (tyOf P t).ki k = true) (b : Bool) (w : World) : (Instr.checkKey b 10000 t kv).run P w = .ok () w ∧ ∃ d, P.underlying t = some d := by
  unfold plainKey at h
  split at h <;> rename_i hki
  · have hd := tyOf_str hki
    unfold VR at hk; subst hk
    exact ⟨by rw [show 10000 = 9999 + 1 from rfl]; unfold Instr.checkKey; rw [Sem.run_bind, run_underlying hd]; rfl, _, hd⟩
  · have hd := tyOf_int hki
    unfold VR at hk; subst hk
    exact ⟨by rw [show 10000 = 9999 + 1 from rfl]; unfold Instr.checkKey; rw [Sem.run_bind, run_underlying hd]; rfl, _, hd⟩
  · simp at h

theorem run_zero {X : Cx} {t : TypeId} (h : 0 < (X.ty t).size) {g : Gs} (w : World) : ∃ z, (zeroValue t).run X.P w = .ok z w ∧ VR g (X.ty t).zero z := by
  obtain ⟨i, d, z, hi, _, hz, ho, e⟩ := tyOf_known (P := X.P) (t := t) (.inr h)
  unfold Cx.ty
  rw [e]
  refine ⟨z, ?_, VR.ofZ ho⟩
  simp [zeroValue, typeInfo, hi, hz]

theorem lookup_ok {X : Cx} {g : Gs} {H : Heap} (hs : SR X g H) {t : TypeId} {m k v : PV} {mv kv : Value} {ok : Bool} (hm : VR g m mv) (hk : VR g k kv) (h : X.lookup t H m k ok = some v) : Gives X.P (Instr.lookup t mv kv ok) g.w g v := by
  unfold Cx.lookup at h
  split at h
  case h_2 => simp at h
  rename_i kt et hki
  have hu := tyOf_map hki
  split at h
  case isFalse => simp at h
  rename_i hc
  split at h
  case h_2 => simp at h
  rename_i es hes
  obtain ⟨z, hz, hzv⟩ := run_zero (g := g) hc.2 g.w
  -- the entries
  have key : ∃ ms : Array MapEntry, MapR g es ms.toList ∧ ∀ s : Array MapEntry → Sem Value, (do
      let es ← match mv with
        | .map none => pure #[]
        | .map (some r) => do
          let .map es _ ← getObj r | stuck "Lookup: map expected"
          pure es
        | _ => stuck "Lookup: map expected"
      s es : Sem Value).run X.P g.w = (s ms).run X.P g.w := by
    unfold mapOf at hes
    split at hes
    · unfold VR at hm; subst hm
      simp at hes; subst hes
      exact ⟨#[], ⟨by simp [LR], by simp [LR]⟩, fun s => by simp⟩
    · rename_i id
      unfold VR at hm
      obtain ⟨hK, rfl⟩ := hm
      split at hes
      · rename_i es' hb
        simp at hes; subst hes
        obtain ⟨ms, cl, h1, h2⟩ := hs.blk id _ hb
        exact ⟨ms, h2, fun s => by simp [MapKept.run_getObj_map h1]⟩
      · simp at hes
    · simp at hes
  obtain ⟨ms, hmr, hrun⟩ := key
  obtain ⟨hchk, d, hd⟩ := plain_check hk hc.1 ms.isEmpty g.w
  have hf : ∃ r, findK (X.ty kt).ki k es 0 = some r := by
    cases hq : findK (X.ty kt).ki k es 0 with
    | none => rw [hq] at h; simp at h
    | some r => exact ⟨r, rfl⟩
  obtain ⟨r, hr⟩ := hf
  rw [hr] at h
  have hl : (Instr.lookup t mv kv ok).run X.P g.w = ((do
      Instr.checkKey ms.isEmpty 10000 kt kv
      let (v, ok') ← match ← Instr.findKey kt kv ms.toList with
        | some (_, v) => pure (v, true)
        | none => pure (← zeroValue et, false)
      pure (if ok then .tuple #[v, .bool ok'] else v)) : Sem Value).run X.P g.w := by
    unfold Instr.lookup
    rw [Sem.run_bind, run_underlying hu]
    simp only [Result.andThen_ok]
    exact hrun _
  unfold Gives
  rw [hl, Sem.run_bind, hchk]
  simp only [Result.andThen_ok]
  rcases findK_ok (P := X.P) hd hk hmr hr with ⟨rfl, q⟩ | ⟨j, v', y, rfl, q, q2, _⟩
  · have hfk : (Instr.findKey kt kv ms.toList).run X.P g.w = .ok none g.w := by
      unfold Instr.findKey
      rw [Sem.run_bind, run_underlying hd]
      simp [q]
    simp only [Option.some.injEq] at h
    subst h
    refine ⟨if ok then .tuple #[z, .bool false] else z, by simp [hfk, hz], ?_⟩
    cases ok
    · exact hzv
    · simp only [if_true]
      unfold VR
      exact ⟨_, rfl, by simp only [LR]; exact ⟨_, _, rfl, hzv, _, _, rfl, by simp [VR], rfl⟩⟩
  · have hfk : (Instr.findKey kt kv ms.toList).run X.P g.w = .ok (some (0 + j, y)) g.w := by
      unfold Instr.findKey
      rw [Sem.run_bind, run_underlying hd]
      simp [q]
    simp only [Option.some.injEq] at h
    subst h
    refine ⟨if ok then .tuple #[y, .bool true] else y, by simp [hfk], ?_⟩
    cases ok
    · exact q2
    · simp only [if_true]
      unfold VR
      exact ⟨_, rfl, by simp only [LR]; exact ⟨_, _, rfl, q2, _, _, rfl, by simp [VR], rfl⟩⟩

theorem MapR.set {g : Gs} {es : List (PV × PV)} {ms : List MapEntry} (h : MapR g es ms) (j : Nat) {k x : PV} {kv xv : Value} (hk : VR g k kv) (hx : VR g x xv) :
    MapR g (es.set j (k, x)) (ms.modify j fun e => { e with key := kv, val := xv }) := by
  have hl := h.1.length
  simp at hl
  refine ⟨LR.mk (by simp [hl]) ?_, LR.mk (by simp [hl]) ?_⟩
  · intro i c v h1 h2
    simp only [List.getElem?_map, List.getElem?_set, List.getElem?_modify] at h1 h2
    by_cases e : j = i
    · subst e
      by_cases hj : j < es.length
      · simp [hj] at h1
        have hj' : j < ms.length := by omega
        simp [hj'] at h2
        subst h1 h2
        exact hk
      · simp [hj] at h1
    · simp [e] at h1 h2
      obtain ⟨p, hp⟩ := h1
      obtain ⟨m, hm, rfl⟩ := h2
      obtain ⟨v', q1, q2⟩ := h.1.get (j := i) (c := c) (by simp [hp])
      simp [hm] at q1
      rw [q1]; exact q2
  · intro i c v h1 h2
    simp only [List.getElem?_map, List.getElem?_set, List.getElem?_modify] at h1 h2
    by_cases e : j = i
    · subst e
      by_cases hj : j < es.length
      · simp [hj] at h1
        have hj' : j < ms.length := by omega
        simp [hj'] at h2
        subst h1 h2
        exact hx
      · simp [hj] at h1
    · simp [e] at h1 h2
      obtain ⟨p, hp⟩ := h1
      obtain ⟨m, hm, rfl⟩ := h2
      obtain ⟨v', q1, q2⟩ := h.2.get (j := i) (c := c) (by simp [hp])
      simp [hm] at q1
      rw [q1]; exact q2

theorem MapR.push {g : Gs} {es : List (PV × PV)} {ms : List MapEntry} (h : MapR g es ms) {k x : PV} {kv xv : Value} (hk : VR g k kv) (hx : VR g x xv) (c : Nat) :
    MapR g (es ++ [(k, x)]) (ms ++ [{ key := kv, val := xv, born := c }]) := by
  constructor
  · simp only [List.map_append, List.map_cons, List.map_nil]
    exact h.1.append (by simp only [LR]; exact ⟨_, _, rfl, hk, rfl⟩)
  · simp only [List.map_append, List.map_cons, List.map_nil]
    exact h.2.append (by simp only [LR]; exact ⟨_, _, rfl, hx, rfl⟩)

theorem mapPut_ok {X : Cx} {g : Gs} {H : Heap} (hs : SR X g H) {b id : Nat} {es es' : List (PV × PV)} {ms ms' : Array MapEntry} {cl cl' : Nat} (hb : H.bl id = some (.map es)) (hh : g.w.heap[(g.σ id).b]? = some (.map ms cl)) (hm : MapR g es' ms'.toList) :
    ∃ g', (setObj (g.σ id).b (.map ms' cl')).run X.P g.w = .ok () g'.w ∧ SR X g' (H.set id (some (.map es'))) ∧ Stp g H g' (H.set id (some (.map es'))) ∧ (∀ j, g'.K j → g.K j ∨ j = b) ∧ (∀ j, j ≠ b → H.bl j = none → (H.set id (some (.map es'))).bl j = none) := by
  have hK : g.K id := hs.live id (by rw [hb]; simp)
  have hlt := (Array.getElem?_eq_some_iff.1 hh).1
  obtain ⟨s1, s2, s3⟩ := hs.put id (g.σ id) { g.w with heap := g.w.heap.setIfInBounds (g.σ id).b (.map ms' cl') } (H.set id (some (.map es'))) (.map es') (by simp) (fun j hj => .inl (by simp [hj])) (hs.nx id hK) (Nat.le_refl _) (.inr ⟨hK, rfl⟩)
    (fun k _ hk => by simp [Ne.symm hk]) (by simp) ⟨rfl, rfl⟩ (.inr ⟨id, by rw [hb]; simp, rfl, .inl rfl⟩)
    (fun x0 => ⟨ms', cl', by simp [Gs.put, hlt], hm.mono x0⟩)
  refine ⟨_, MapKept.run_setObj_map (P := X.P) _ hh, s1, s2, fun j hj => (s3 j hj).elim .inl (fun e => .inl (e ▸ hK)), fun j _ h0 => ?_⟩
  have : j ≠ id := fun e => by rw [e, hb] at h0; simp at h0
  simp [this, h0]

theorem mapUpd_ok {X : Cx} {g : Gs} {H H' : Heap} (hs : SR X g H) {b t : Nat} {m k x : PV} {mv kv xv : Value} (hm : VR g m mv) (hk : VR g k kv) (hx : VR g x xv) (h : X.mapUpd t H m k x = some H') :
    ∃ g', (Instr.mapUpdate t mv kv xv).run X.P g.w = .ok () g'.w ∧ SR X g' H' ∧ Stp g H g' H' ∧ (∀ id, g'.K id → g.K id ∨ id = b) ∧ (∀ j, j ≠ b → H.bl j = none → H'.bl j = none) ∧ H'.next = H.next := by
  unfold Cx.mapUpd at h
  split at h
  case h_2 => simp at h
  rename_i kt et id hki
  have hu := tyOf_map hki
  split at h
  case isFalse => simp at h
  rename_i hp
  split at h
  case h_2 => simp at h
  rename_i es hb
  obtain ⟨ms, cl, hh, hmr⟩ := hs.blk id _ hb
  unfold VR at hm
  obtain ⟨hK, rfl⟩ := hm
  obtain ⟨hchk, d, hd⟩ := plain_check hk hp false g.w
  have hf : ∃ r, findK (X.ty kt).ki k es 0 = some r := by
    cases hq : findK (X.ty kt).ki k es 0 with
    | none => rw [hq] at h; simp at h
    | some r => exact ⟨r, rfl⟩
  obtain ⟨r, hr⟩ := hf
  rw [hr] at h
  rcases findK_ok (P := X.P) hd hk hmr hr with ⟨rfl, q⟩ | ⟨j, v', y, rfl, q, q2, m', q3, q4⟩
  · have hfk : (Instr.findKey kt kv ms.toList).run X.P g.w = .ok none g.w := by
      unfold Instr.findKey
      rw [Sem.run_bind, run_underlying hd]
      simp [q]
    simp only [Option.some.injEq] at h
    subst h
    obtain ⟨g', h1, h2, h3, h4, h5⟩ := mapPut_ok (b := b) (es' := es ++ [(k, x)]) (ms' := ms.push { key := kv, val := xv, born := cl }) (cl' := cl + 1) hs hb hh (by simpa using hmr.push hk hx cl)
    exact ⟨g', by simp [Instr.mapUpdate, run_underlying hu, MapKept.run_getObj_map hh, hchk, hfk, h1], h2, h3, h4, h5, rfl⟩
  · have hfk : (Instr.findKey kt kv ms.toList).run X.P g.w = .ok (some (0 + j, y)) g.w := by
      unfold Instr.findKey
      rw [Sem.run_bind, run_underlying hd]
      simp [q]
    simp only [Option.some.injEq, Nat.zero_add] at h
    subst h
    obtain ⟨g', h1, h2, h3, h4, h5⟩ := mapPut_ok (b := b) (es' := es.set j (k, x)) (ms' := ms.modify j fun e => { e with key := kv, val := xv }) (cl' := cl) hs hb hh (by simpa using hmr.set j hk hx)
    have hj : ms[j]? = some m' := by simpa using q3
    refine ⟨g', ?_, h2, h3, h4, h5, rfl⟩
    simp [Instr.mapUpdate, run_underlying hu, MapKept.run_getObj_map hh, hchk, hfk, hj, Instr.keyThatStays, q4, h1]

end Go.A3
