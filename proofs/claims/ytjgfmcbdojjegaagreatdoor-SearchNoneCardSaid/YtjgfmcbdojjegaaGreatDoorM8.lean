/-
  The abstract machine is sound: indexes, slices, literals.
-/
import Derived.Test.YtjgfmcbdojjegaaGreatDoorM7
namespace Go.A3

theorem ESR.get {g : Gs} : ∀ {es : List PV} {b p sz : Nat}, ESR g es b p sz → ∀ {j : Nat} {e : PV}, es[j]? = some e →
    ∃ x, VR g e x ∧ x.cells.size = sz ∧ Lie g b (p + j * sz) x.cells.toList
  | [], _, _, _, _, _, _, hj => by simp at hj
  | d :: es, b, p, sz, h, j, e, hj => by
    unfold ESR at h
    obtain ⟨⟨x, h1, h2, h3⟩, h4⟩ := h
    cases j with
    | zero => simp at hj; subst hj; exact ⟨x, h1, h2, by simpa using h3⟩
    | succ j =>
      simp at hj
      obtain ⟨y, q1, q2, q3⟩ := ESR.get h4 hj
      exact ⟨y, q1, q2, by rw [Nat.succ_mul, Nat.add_comm (j * sz), ← Nat.add_assoc]; exact q3⟩

theorem ESR.mk {g : Gs} : ∀ {es : List PV} {b p sz : Nat}, (∀ (j : Nat) (e : PV), es[j]? = some e → ∃ x, VR g e x ∧ x.cells.size = sz ∧ Lie g b (p + j * sz) x.cells.toList) → ESR g es b p sz
  | [], _, _, _, _ => by unfold ESR; trivial
  | d :: es, b, p, sz, h => by
    unfold ESR
    refine ⟨?_, ESR.mk fun j e hj => ?_⟩
    · obtain ⟨x, h1, h2, h3⟩ := h 0 d (by simp)
      exact ⟨x, h1, h2, by simpa using h3⟩
    · obtain ⟨x, h1, h2, h3⟩ := h (j + 1) e (by simpa using hj)
      exact ⟨x, h1, h2, by rw [Nat.succ_mul, Nat.add_comm (j * sz), ← Nat.add_assoc] at h3; exact h3⟩

theorem indexAddr_ok {X : Cx} {g : Gs} {H : Heap} (hs : SR X g H) {t : Nat} {x ix v : PV} {a i : Value} (hx : VR g x a) (hi : VR g ix i)
    (hz : ∀ u, ((X.ty t).ki = .slice u ∨ ∃ n, (X.ty t).ki = .arr n u) → 0 < (X.ty u).size) (h : X.indexAddr t H x ix = some v) : Gives X.P (Instr.indexAt t a i) g.w g v := by
  unfold Cx.indexAddr at h
  split at h
  case h_2 => simp at h
  rename_i j hj
  obtain ⟨k, rfl⟩ := asI_ok hi hj
  split at h
  · rename_i u es full hk
    have hsz := run_size (P := X.P) (t := u) (hz u (.inl hk)) g.w
    have hu := tyOf_slice hk
    unfold VR at hx
    obtain ⟨b, p, cap, sz, rfl, h1, h2, h3⟩ := hx
    split at h
    · rename_i hb
      split at h
      · rename_i e he
        split at h
        · rename_i hlen
          simp at h; subst h
          obtain ⟨y, q1, q2, q3⟩ := h3.get he
          have : sz = (X.ty u).size := by rw [← q2, q1.size, hlen]
          subst this
          refine ⟨.pointer (some ⟨b, p + j.toNat * (X.ty u).size, none⟩), ?_, by unfold VR; exact ⟨b, _, y, rfl, q1, q3⟩⟩
          have hb2 : j < (es.length : Int) := hb.2
          have hsz' : (sizeOf u).run X.P g.w = .ok (X.ty u).size g.w := hsz
          simp [Instr.indexAt, asIntOf, run_underlying hu, hb.1, hb2, hsz', add_none]
        · simp at h
      · simp at h
    · simp at h
  · rename_i u id i0 n hk
    have hsz := run_size (P := X.P) (t := u) (hz u (.inl hk)) g.w
    have hu := tyOf_slice hk
    unfold VR at hx
    obtain ⟨hK, cap, h1, h2, rfl⟩ := hx
    split at h
    · rename_i hb
      split at h
      · rename_i es sz hbl
        split at h
        · rename_i hse
          simp at h; subst h
          have hσ : (g.σ id).sz = (X.ty u).size := by rw [← hse]; exact (hs.blk id _ hbl).2.1
          refine ⟨.pointer (some ⟨(g.σ id).b, i0 * (g.σ id).sz + j.toNat * (X.ty u).size, none⟩), ?_, by unfold VR; exact ⟨hK, by rw [hσ, Nat.add_mul]; rfl⟩⟩
          have hb2 : j < (n : Int) := hb.2
          have hsz' : (sizeOf u).run X.P g.w = .ok (X.ty u).size g.w := hsz
          simp [Instr.indexAt, asIntOf, run_underlying hu, hb.1, hb2, hsz', add_none]
        · simp at h
      · simp at h
    · simp at h
  · rename_i n u e o hk
    have hsz := run_size (P := X.P) (t := u) (hz u (.inr ⟨n, hk⟩)) g.w
    have hu := tyOf_arr hk
    unfold VR at hx
    obtain ⟨b, p, y, rfl, h1, h2⟩ := hx
    split at h
    · rename_i hb
      simp at h; subst h
      refine ⟨.pointer (some ⟨b, p + o + j.toNat * (X.ty u).size, none⟩), ?_, by unfold VR; exact ⟨b, p, y, by rw [Nat.add_assoc], h1, h2⟩⟩
      have hb2 : j < (n : Int) := hb.2
      have hsz' : (sizeOf u).run X.P g.w = .ok (X.ty u).size g.w := hsz
      simp [Instr.indexAt, asIntOf, run_underlying hu, hb.1, hb2, hsz', add_none, Instr.sureAddr]
    · simp at h
  · rename_i n u id i0 o hk
    have hsz := run_size (P := X.P) (t := u) (hz u (.inr ⟨n, hk⟩)) g.w
    have hu := tyOf_arr hk
    unfold VR at hx
    obtain ⟨hK, rfl⟩ := hx
    split at h
    · rename_i hb
      simp at h; subst h
      refine ⟨.pointer (some ⟨(g.σ id).b, i0 * (g.σ id).sz + o + j.toNat * (X.ty u).size, none⟩), ?_, by unfold VR; exact ⟨hK, by rw [Nat.add_assoc]⟩⟩
      have hb2 : j < (n : Int) := hb.2
      have hsz' : (sizeOf u).run X.P g.w = .ok (X.ty u).size g.w := hsz
      simp [Instr.indexAt, asIntOf, run_underlying hu, hb.1, hb2, hsz', add_none, Instr.sureAddr]
    · simp at h
  · simp at h

theorem index_ok {X : Cx} {w : World} {g : Gs} {t : Nat} {x ix v : PV} {a i : Value} (hx : VR g x a) (hi : VR g ix i)
    (hz : ∀ u n, (X.ty t).ki = .arr n u → 0 < (X.ty u).size) (h : X.index t x ix = some v) : Gives X.P (Instr.index t a i) w g v := by
  unfold Cx.index at h
  split at h
  case h_2 => simp at h
  rename_i j hj
  obtain ⟨k, rfl⟩ := asI_ok hi hj
  split at h
  · rename_i n u hk
    have hu := tyOf_arr hk
    split at h
    · rename_i hb
      obtain ⟨cs, rfl, _⟩ := hx.isAg hb.2.2
      have hsz' : (sizeOf u).run X.P w = .ok (X.ty u).size w := run_size (P := X.P) (t := u) (hz u n hk) w
      obtain ⟨y, h3, h4⟩ := part_ok (w := w) hx (hz u n hk) h
      have hb2 : j < (n : Int) := hb.2.1
      exact ⟨y, by simp [Instr.index, asIntOf, run_underlying hu, hb.1, hb2, hsz', h3], h4⟩
    · simp at h
  · rename_i s hk
    have hu := tyOf_str hk
    unfold VR at hx; subst hx
    split at h
    · rename_i hb
      split at h
      · rename_i c hc
        simp at h; subst h
        exact ⟨.int .u8 c.toNat, by simp [Instr.index, asIntOf, run_underlying hu, hb, hc], by unfold VR; rfl⟩
      · simp at h
    · simp at h
  · simp at h

/-- A bound, as the model takes it. -/
def sbS (a : Option Value) (d y : Nat) (code : BoundsCode) : Sem Nat :=
  match a with
  | some v => Instr.sliceBound v y code
  | none => pure d

theorem bnd_ok {P : Program} {w : World} {g : Gs} {x : Option PV} {a : Option Value} {y d r : Nat} {code : BoundsCode} (hx : ∀ v, x = some v → ∃ u, a = some u ∧ VR g v u) (hn : x = none → a = none)
    (h : bnd x d y = some r) : (sbS a d y code).run P w = .ok r w ∧ (a.isSome → r ≤ y) ∧ (a = none → r = d) := by
  unfold bnd at h
  split at h
  · simp at h; subst h
    rw [hn rfl]
    exact ⟨by simp [sbS], by simp, by simp⟩
  · rename_i v
    obtain ⟨u, rfl, hu⟩ := hx v rfl
    split at h
    · rename_i i hi
      obtain ⟨k, rfl⟩ := asI_ok hu hi
      split at h
      · rename_i hb
        simp at h; subst h
        refine ⟨?_, fun _ => by omega, by simp⟩
        simp [sbS, Instr.sliceBound, asIntOf, hb.1, hb.2]
      · simp at h
    · simp at h

theorem bnd_up {x : Option PV} {d y y' r : Nat} (h : bnd x d y = some r) (hy : y ≤ y') : bnd x d y' = some r := by
  unfold bnd at *
  split at h
  · exact h
  · split at h
    · split at h
      · rename_i hb
        rw [if_pos ⟨hb.1, by omega⟩]; exact h
      · simp at h
    · simp at h

/-- A slice's bounds, no greatest capacity given. -/
theorem bounds2_ok {P : Program} {w : World} {g : Gs} {isS : Bool} {len cap h l : Nat} {lo hi : Option PV} {alo ahi : Option Value}
    (xlo : ∀ v, lo = some v → ∃ u, alo = some u ∧ VR g v u) (nlo : lo = none → alo = none) (xhi : ∀ v, hi = some v → ∃ u, ahi = some u ∧ VR g v u) (nhi : hi = none → ahi = none)
    (hh : bnd hi len cap = some h) (hl : bnd lo 0 h = some l) : (Instr.sliceBounds isS len cap alo ahi none).run P w = .ok (l, h, cap) w := by
  have h1 := (bnd_ok (P := P) (w := w) (code := if isS then .sliceAcap else .sliceAlen) xhi nhi hh).1
  have h2 := (bnd_ok (P := P) (w := w) (code := .sliceB) xlo nlo hl).1
  unfold Instr.sliceBounds
  unfold sbS at h1 h2
  cases ahi <;> cases alo <;> simp_all

theorem bounds3_ok {P : Program} {w : World} {g : Gs} {isS : Bool} {len cap h l m : Nat} {lo hi mx : Option PV} {alo ahi amx : Option Value}
    (xlo : ∀ v, lo = some v → ∃ u, alo = some u ∧ VR g v u) (nlo : lo = none → alo = none) (xhi : ∀ v, hi = some v → ∃ u, ahi = some u ∧ VR g v u) (nhi : hi = none → ahi = none)
    (xmx : ∀ v, mx = some v → ∃ u, amx = some u ∧ VR g v u) (nmx : mx = none → amx = none) (hs : hi.isSome = true) (hsm : mx.isSome = true)
    (hm : bnd mx cap cap = some m) (hh : bnd hi len m = some h) (hl : bnd lo 0 h = some l) : (Instr.sliceBounds isS len cap alo ahi amx).run P w = .ok (l, h, m) w := by
  have h0 := (bnd_ok (P := P) (w := w) (code := if isS then .slice3Acap else .slice3Alen) xmx nmx hm).1
  have h1 := (bnd_ok (P := P) (w := w) (code := .slice3B) xhi nhi hh).1
  have h2 := (bnd_ok (P := P) (w := w) (code := .slice3C) xlo nlo hl).1
  unfold Instr.sliceBounds
  unfold sbS at h0 h1 h2
  obtain ⟨vm, rfl⟩ := Option.isSome_iff_exists.1 hsm
  obtain ⟨vh, rfl⟩ := Option.isSome_iff_exists.1 hs
  obtain ⟨um, rfl, _⟩ := xmx _ rfl
  obtain ⟨uh, rfl, _⟩ := xhi _ rfl
  cases alo <;> simp_all

theorem bnd_le {x : Option PV} {d y r : Nat} (h : bnd x d y = some r) (hd : d ≤ y) : r ≤ y := by
  unfold bnd at h
  split at h
  · simp at h; omega
  · split at h
    · split at h
      · simp at h; omega
      · simp at h
    · simp at h

theorem sl_part {X : Cx} {g : Gs} {u : Nat} {es : List PV} {b p cap sz l h : Nat} (hz : es.all (fun e => e.cells.length = (X.ty u).size) = true) (hc : h ≤ cap) (hlh : l ≤ h) (hh : h ≤ es.length)
    (hr : ESR g es b p sz) (full : Bool) (cap' : Nat) (hcap : h - l ≤ cap') (hf : full = true → cap' = h - l) :
    VR g (.sl ((es.drop l).take (h - l)) full) (.slice (if cap = l then some ⟨b, p, none⟩ else (some ⟨b, p, none⟩ : Option Addr).map (·.add (l * (X.ty u).size))) (h - l) cap') := by
  have hlen : ((es.drop l).take (h - l)).length = h - l := by simp; omega
  unfold VR
  by_cases e : cap = l
  · subst e
    have h0 : h - cap = 0 := by omega
    refine ⟨b, p, cap', sz, by rw [if_pos rfl, hlen], by rw [hlen]; exact hcap, fun q => by rw [hlen]; exact hf q, ?_⟩
    rw [h0]
    simp
    unfold ESR
    trivial
  · refine ⟨b, p + l * (X.ty u).size, cap', sz, by simp [e, hlen, add_none], by rw [hlen]; exact hcap, fun q => by rw [hlen]; exact hf q, ESR.mk fun j d hj => ?_⟩
    rw [List.getElem?_take] at hj
    split at hj
    · rw [List.getElem?_drop] at hj
      obtain ⟨y, q1, q2, q3⟩ := hr.get hj
      have : sz = (X.ty u).size := by
        have := List.all_eq_true.1 hz d (List.mem_of_getElem? hj)
        simp at this
        rw [← q2, q1.size, this]
      subst this
      exact ⟨y, q1, q2, by rw [Nat.add_assoc, ← Nat.add_mul]; exact q3⟩
    · simp at hj

theorem opt_ok {g : Gs} {X : Cx} {H : Heap} (hs : SR X g H) {e : Env} {a : Act} (he : EnvR g e a) {x : Option Operand} (ho : ∀ o, x = some o → X.okO o = true) :
    (∀ v, x.map (X.ev e) = some v → ∃ u, x.map a.eval = some u ∧ VR g v u) ∧ (x.map (X.ev e) = none → x.map a.eval = none) := by
  cases x with
  | none => exact ⟨by simp, by simp⟩
  | some o => exact ⟨fun v hv => ⟨a.eval o, by simp, by simp at hv; subst hv; exact ev_ok hs he (ho o rfl)⟩, by simp⟩

theorem slice_ok {X : Cx} {g : Gs} {t : Nat} {x v : PV} {lo hi mx : Option PV} {a : Value} {alo ahi amx : Option Value} (hx : VR g x a)
    (xlo : ∀ v, lo = some v → ∃ u, alo = some u ∧ VR g v u) (nlo : lo = none → alo = none) (xhi : ∀ v, hi = some v → ∃ u, ahi = some u ∧ VR g v u) (nhi : hi = none → ahi = none)
    (xmx : ∀ v, mx = some v → ∃ u, amx = some u ∧ VR g v u) (nmx : mx = none → amx = none)
    (hz : ∀ u, ((X.ty t).ki = .slice u ∨ ∃ n, (X.ty t).ki = .arr n u) → 0 < (X.ty u).size) (h : X.slice t x lo hi mx = some v) :
    Gives X.P (Instr.sliceAt t a alo ahi amx) g.w g v := by
  unfold Cx.slice at h
  split at h
  · rename_i s hk
    have hu := tyOf_str hk
    unfold VR at hx; subst hx
    split at h
    · split at h
      · rename_i h' hh
        split at h
        · rename_i l hl
          simp at h; subst h
          have hb := bounds2_ok (P := X.P) (w := g.w) (isS := false) xlo nlo xhi nhi hh hl
          refine ⟨.string (s.extract l h'), ?_, by unfold VR; rfl⟩
          simp [Instr.sliceAt, Instr.slice, run_underlying hu, nmx rfl, hb]
        · simp at h
      · simp at h
    · simp at h
  · rename_i u hk
    have hu := tyOf_slice hk
    unfold VR at hx; subst hx
    have hsz' : (sizeOf u).run X.P g.w = .ok (X.ty u).size g.w := run_size (P := X.P) (t := u) (hz u (.inl hk)) g.w
    split at h
    · rename_i m hm
      split at h
      · rename_i h' hh
        split at h
        · rename_i l hl
          split at h
          · simp at h
          rename_i hmh
          simp at h; subst h
          have hm0 : m = 0 := by have := bnd_le hm (Nat.le_refl 0); omega
          subst hm0
          have hh0 : h' = 0 := by have := bnd_le hh (Nat.le_refl 0); omega
          subst hh0
          have hl0 : l = 0 := by have := bnd_le hl (Nat.le_refl 0); omega
          subst hl0
          have hb : (Instr.sliceBounds true 0 0 alo ahi amx).run X.P g.w = .ok (0, 0, 0) g.w := by
            cases mx with
            | none => rw [nmx rfl]; exact bounds2_ok xlo nlo xhi nhi hh hl
            | some y =>
              cases hi with
              | none => simp at hmh
              | some z => exact bounds3_ok xlo nlo xhi nhi xmx nmx rfl rfl hm hh hl
          refine ⟨.slice none 0 0, ?_, by unfold VR; rfl⟩
          simp [Instr.sliceAt, Instr.slice, run_underlying hu, hb, hsz']
        · simp at h
      · simp at h
    · simp at h
  · rename_i u es full hk
    have hu := tyOf_slice hk
    have hsz' : (sizeOf u).run X.P g.w = .ok (X.ty u).size g.w := run_size (P := X.P) (t := u) (hz u (.inl hk)) g.w
    unfold VR at hx
    obtain ⟨b, p, cap, sz, rfl, h1, h2, h3⟩ := hx
    split at h
    · split at h
      · rename_i h' hh
        split at h
        · rename_i l hl
          split at h
          · rename_i hall
            simp at h; subst h
            have hhl := bnd_le hh (Nat.le_refl _)
            have hll := bnd_le hl (Nat.zero_le _)
            have hb := bounds2_ok (P := X.P) (w := g.w) (isS := true) xlo nlo xhi nhi (bnd_up hh h1) hl
            refine ⟨_, by simp only [Instr.sliceAt, Sem.run_bind, run_underlying hu, Result.andThen_ok, Instr.slice, nmx rfl, hb, hsz', Sem.run_pure]; rfl, ?_⟩
            exact sl_part (X := X) hall (Nat.le_trans hhl h1) hll hhl h3 _ (cap - l) (by omega) (fun q => by simp at q; have := h2 q.1; omega)
          · simp at h
        · simp at h
      · simp at h
    · rename_i mv
      split at h
      · rename_i m hm
        split at h
        · rename_i h' hh
          split at h
          · rename_i l hl
            split at h
            · rename_i hall
              simp at h; subst h
              have hml := bnd_le hm (Nat.zero_le _)
              obtain ⟨his, hall⟩ := hall
              have hhm : h' ≤ m := by
                obtain ⟨hv, rfl⟩ := Option.isSome_iff_exists.1 his
                unfold bnd at hh
                simp only [] at hh
                split at hh
                · split at hh
                  · simp at hh; omega
                  · simp at hh
                · simp at hh
              have hll := bnd_le hl (Nat.zero_le _)
              have hm' : bnd (some mv) cap cap = some m := by
                have := bnd_up hm h1
                unfold bnd at this ⊢
                exact this
              have hh' : bnd hi es.length m = some h' := hh
              have hb := bounds3_ok (P := X.P) (w := g.w) (isS := true) xlo nlo xhi nhi xmx nmx his rfl hm' hh' hl
              refine ⟨_, by simp only [Instr.sliceAt, Sem.run_bind, run_underlying hu, Result.andThen_ok, Instr.slice, hb, hsz', Sem.run_pure]; rfl, ?_⟩
              exact sl_part (X := X) hall (cap := m) (by omega) hll (by omega) h3 _ (m - l) (by omega) (fun q => by simp at q; omega)
            · simp at h
          · simp at h
        · simp at h
      · simp at h
  · rename_i u id i0 n hk
    have hu := tyOf_slice hk
    have hsz' : (sizeOf u).run X.P g.w = .ok (X.ty u).size g.w := run_size (P := X.P) (t := u) (hz u (.inl hk)) g.w
    unfold VR at hx
    obtain ⟨hK, cap, h1, h2, rfl⟩ := hx
    split at h
    · split at h
      · rename_i h' hh
        split at h
        · rename_i l hl
          have hhl := bnd_le hh (Nat.le_refl _)
          have hll := bnd_le hl (Nat.zero_le _)
          have hb := bounds2_ok (P := X.P) (w := g.w) (isS := true) xlo nlo xhi nhi (bnd_up hh h1) hl
          refine ⟨_, by simp only [Instr.sliceAt, Sem.run_bind, run_underlying hu, Result.andThen_ok, Instr.slice, nmx rfl, hb, hsz', Sem.run_pure]; rfl, ?_⟩
          split at h
          · rename_i hl0
            simp at h; subst h
            subst hl0
            unfold VR
            refine ⟨hK, cap, by omega, h2, ?_⟩
            by_cases e : cap = 0
            · simp [e]
            · have e' : ¬ (0 = cap) := by omega
              simp [e, add_none]
          · rename_i hl0
            split at h
            · rename_i hlh
              simp at h; subst h
              subst hlh
              unfold VR
              refine ⟨(g.σ id).b, if cap = l then i0 * (g.σ id).sz else i0 * (g.σ id).sz + l * (X.ty u).size, cap - l, 1, ?_, by simp, by simp, by unfold ESR; trivial⟩
              by_cases e : cap = l
              · simp [e]
              · simp [e, add_none]
            · simp at h
        · simp at h
      · simp at h
    · simp at h
  · rename_i n u id i0 o hk
    have hu := tyOf_arr hk
    have hsz' : (sizeOf u).run X.P g.w = .ok (X.ty u).size g.w := run_size (P := X.P) (t := u) (hz u (.inr ⟨n, hk⟩)) g.w
    unfold VR at hx
    obtain ⟨hK, rfl⟩ := hx
    split at h
    · split at h
      · rename_i h' hh
        split at h
        · rename_i l hl
          split at h
          · rename_i hcond
            simp at h; subst h
            have hb := bounds2_ok (P := X.P) (w := g.w) (isS := false) xlo nlo xhi nhi hh hl
            have hhl := bnd_le hh (Nat.le_refl _)
            have hll := bnd_le hl (Nat.zero_le _)
            refine ⟨.slice (some ⟨(g.σ id).b, i0 * (g.σ id).sz + (o + l), none⟩) (h' - l) (n - l), ?_, by unfold VR; exact ⟨hK, n - l, by omega, rfl⟩⟩
            rw [hcond.1] at hsz'
            simp only [Instr.sliceAt, Sem.run_bind, run_underlying hu, Result.andThen_ok, Instr.sureAddr, nmx rfl, hb, hsz', Sem.run_pure, Nat.mul_one, add_none]
            by_cases e : n = l
            · have hl0 : l = 0 := by omega
              simp [e, hl0]
            · simp [e, Nat.add_assoc]
          · simp at h
        · simp at h
      · simp at h
    · simp at h
  · rename_i n u e o hk
    have hu := tyOf_arr hk
    have hsz' : (sizeOf u).run X.P g.w = .ok (X.ty u).size g.w := run_size (P := X.P) (t := u) (hz u (.inr ⟨n, hk⟩)) g.w
    unfold VR at hx
    obtain ⟨b, p, y, rfl, h1, h2⟩ := hx
    split at h
    · split at h
      · rename_i h' hh
        split at h
        · rename_i l hl
          split at h
          · rename_i hcond
            simp at h; subst h
            obtain ⟨hs1, rfl, hon, hone⟩ := hcond
            have hb := bounds2_ok (P := X.P) (w := g.w) (isS := false) xlo nlo xhi nhi hh hl
            have hhl := bnd_le hh (Nat.le_refl _)
            refine ⟨.slice (some ⟨b, p + o, none⟩) h' n, ?_, ?_⟩
            · rw [hs1] at hsz'
              simp [Instr.sliceAt, run_underlying hu, Instr.sureAddr, nmx rfl, hb, hsz', add_none]
            · have hlen : ((e.cells.drop o).take h').length = h' := by simp; omega
              unfold VR
              refine ⟨b, p + o, n, 1, by rw [hlen], by rw [hlen]; exact hhl, fun q => by rw [hlen]; simp at q; exact q.symm, ESR.mk fun j d hj => ?_⟩
              rw [List.getElem?_take] at hj
              split at hj
              · rw [List.getElem?_drop] at hj
                obtain ⟨z, q1, q2⟩ := h1.cell hj
                have hd : d.one = true := List.all_eq_true.1 hone d (List.mem_of_getElem? hj)
                have hag : isAg d = false := by cases d <;> first | rfl | simp at hd
                obtain ⟨q3, q4⟩ := q2.nonagg hag
                refine ⟨z, q2, by rw [q3]; rfl, ?_⟩
                rw [q3]
                intro jj vv hjj
                cases jj with
                | zero =>
                  simp at hjj; subst hjj
                  have := h2 (o + j) z (by simpa using q1)
                  simpa [Nat.add_assoc] using this
                | succ n => simp at hjj
              · simp at hj
          · simp at h
        · simp at h
      · simp at h
    · simp at h
  · simp at h

end Go.A3
