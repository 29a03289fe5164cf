/-
  The abstract machine is sound: comparisons, addresses, parts, slices.
-/
import Derived.Test.YtjgfmcbdojjegaaGreatDoorM6
namespace Go.A3

theorem eqGuard_ok {P : Program} {w : World} (op : BinOp) (t : TypeId) (x y : Operand) {a b : Value} (h1 : ¬ (a = .nilIface ∧ b = .nilIface)) (h2 : ∀ u v, ¬ (a = .agg u ∧ b = .agg v)) : (eqGuard op t x y a b).run P w = .ok () w := by
  unfold eqGuard
  cases op <;> cases a <;> cases b <;> first
    | rfl
    | exact absurd ⟨rfl, rfl⟩ h1
    | exact absurd ⟨rfl, rfl⟩ (h2 _ _)

def numS : Value → Bool
  | .int .. | .string _ | .float .. | .complex .. => true
  | _ => false

theorem binOp_eql (t : TypeId) {a b : Value} (h : numS a = false) : binOp .eql t a b = (do pure (.bool (← Op.equal t a b))) := by
  cases a <;> cases b <;> first
    | (simp [numS] at h; done)
    | rfl

theorem binOp_neq (t : TypeId) {a b : Value} (h : numS a = false) : binOp .neq t a b = (do pure (.bool !(← Op.equal t a b))) := by
  cases a <;> cases b <;> first
    | (simp [numS] at h; done)
    | rfl

theorem eqS_ok {X : Cx} {w : World} {g : Gs} {t : TypeId} {x y : PV} {a b : Value} {r : Bool} (hx : VR g x a) (hy : VR g y b) (h : eqS (X.ty t).ki x y = some r) (d : Nat) :
    (Op.equalIn (d + 1) t a b).run X.P w = .ok r w ∧ ¬ (a = .nilIface ∧ b = .nilIface) ∧ (∀ u v, ¬ (a = .agg u ∧ b = .agg v)) ∧
      (numS a = false ∨ (∃ k n k' m, x = .int k n ∧ y = .int k' m) ∨ ∃ s s', x = .str s ∧ y = .str s') := by
  unfold eqS at h
  unfold Cx.ty at h
  split at h <;> rename_i hk <;> (try (simp at h; done)) <;> unfold VR at hx hy
  · subst hx hy; simp at h; subst h
    exact ⟨by simp [Op.equalIn, run_underlying (tyOf_bool hk)], by simp, by simp, by simp [numS]⟩
  · rename_i k0 _ _ _ _ _
    subst hx hy
    split at h
    · rename_i hkk; subst hkk; simp at h; subst h
      exact ⟨by simp [Op.equalIn, run_underlying (tyOf_int hk)], by simp, by simp, by simp [numS]⟩
    · simp at h
  · subst hx hy; simp at h; subst h
    exact ⟨by simp [Op.equalIn, run_underlying (tyOf_str hk)], by simp, by simp, by simp [numS]⟩
  · subst hx hy; simp at h; subst h
    exact ⟨by simp [Op.equalIn, run_underlying (tyOf_ptr hk)], by simp, by simp, by simp [numS]⟩
  · obtain ⟨_, rfl⟩ := hy; subst hx; simp at h; subst h
    exact ⟨by simp [Op.equalIn, run_underlying (tyOf_ptr hk)], by simp, by simp, by simp [numS]⟩
  · obtain ⟨_, _, _, rfl, _⟩ := hy; subst hx; simp at h; subst h
    exact ⟨by simp [Op.equalIn, run_underlying (tyOf_ptr hk)], by simp, by simp, by simp [numS]⟩
  · obtain ⟨_, rfl⟩ := hx; subst hy; simp at h; subst h
    exact ⟨by simp [Op.equalIn, run_underlying (tyOf_ptr hk)], by simp, by simp, by simp [numS]⟩
  · obtain ⟨_, _, _, rfl, _⟩ := hx; subst hy; simp at h; subst h
    exact ⟨by simp [Op.equalIn, run_underlying (tyOf_ptr hk)], by simp, by simp, by simp [numS]⟩
  · subst hx hy; simp at h; subst h
    exact ⟨by simp [Op.equalIn, run_underlying (tyOf_slice hk)], by simp, by simp, by simp [numS]⟩
  · obtain ⟨_, _, _, _, rfl, _⟩ := hy; subst hx; simp at h; subst h
    exact ⟨by simp [Op.equalIn, run_underlying (tyOf_slice hk)], by simp, by simp, by simp [numS]⟩
  · obtain ⟨_, _, _, _, rfl⟩ := hy; subst hx; simp at h; subst h
    exact ⟨by simp [Op.equalIn, run_underlying (tyOf_slice hk)], by simp, by simp, by simp [numS]⟩
  · obtain ⟨_, _, _, _, rfl, _⟩ := hx; subst hy; simp at h; subst h
    exact ⟨by simp [Op.equalIn, run_underlying (tyOf_slice hk)], by simp, by simp, by simp [numS]⟩
  · obtain ⟨_, _, _, _, rfl⟩ := hx; subst hy; simp at h; subst h
    exact ⟨by simp [Op.equalIn, run_underlying (tyOf_slice hk)], by simp, by simp, by simp [numS]⟩
  · subst hx hy; simp at h; subst h
    exact ⟨by simp [Op.equalIn, run_underlying (tyOf_map hk)], by simp, by simp, by simp [numS]⟩
  · obtain ⟨_, rfl⟩ := hy; subst hx; simp at h; subst h
    exact ⟨by simp [Op.equalIn, run_underlying (tyOf_map hk)], by simp, by simp, by simp [numS]⟩
  · obtain ⟨_, rfl⟩ := hx; subst hy; simp at h; subst h
    exact ⟨by simp [Op.equalIn, run_underlying (tyOf_map hk)], by simp, by simp, by simp [numS]⟩
  · obtain ⟨p, q, s, hf⟩ := tyOf_func hk
    subst hx hy; simp at h; subst h
    exact ⟨by simp [Op.equalIn, run_underlying hf], by simp, by simp, by simp [numS]⟩
  · obtain ⟨p, q, s, hf⟩ := tyOf_func hk
    obtain ⟨_, _, rfl, _⟩ := hy; subst hx; simp at h; subst h
    exact ⟨by simp [Op.equalIn, run_underlying hf], by simp, by simp, by simp [numS]⟩
  · obtain ⟨p, q, s, hf⟩ := tyOf_func hk
    obtain ⟨_, _, rfl, _⟩ := hx; subst hy; simp at h; subst h
    exact ⟨by simp [Op.equalIn, run_underlying hf], by simp, by simp, by simp [numS]⟩


theorem binP_ok {X : Cx} {w : World} {g : Gs} {op : BinOp} {t : TypeId} {x y v : PV} {a b : Value} (p q : Operand) (hx : VR g x a) (hy : VR g y b) (h : X.binP op t x y = some v) :
    Gives X.P (do eqGuard op t p q a b; binOp op t a b) w g v := by
  unfold Cx.binP at h
  split at h
  · unfold VR at hx hy; subst hx hy
    have hg : ∀ k n k' m, (eqGuard op t p q (.int k n) (.int k' m)).run X.P w = .ok () w := fun _ _ _ _ => eqGuard_ok op t p q (by simp) (by simp)
    rename_i k n k' m
    obtain ⟨z, h1, h2⟩ : Gives X.P (binOp op t (.int k n) (.int k' m)) w g v := by
      split at h
      · exact shiftI_ok t h (.inl rfl)
      · exact shiftI_ok t h (.inr rfl)
      · split at h
        · rename_i n1 n2 hk
          subst hk
          exact arithI_ok t h (fun q => n1 q) (fun q => n2 q)
        · simp at h
    exact ⟨z, by rw [Sem.run_bind, hg]; exact h1, h2⟩
  · unfold VR at hx hy; subst hx hy
    obtain ⟨z, h1, h2⟩ := strO_ok (P := X.P) (w := w) (g := g) t h
    exact ⟨z, by rw [Sem.run_bind, eqGuard_ok op t p q (by simp) (by simp)]; exact h1, h2⟩
  · rename_i n1 n2
    split at h
    · cases he : eqS (X.ty t).ki x y with
      | none => simp [he] at h
      | some r =>
        simp [he] at h; subst h
        obtain ⟨h1, h2, h3, h4⟩ := eqS_ok (w := w) hx hy he 9999
        have h1 : (Op.equal t a b).run X.P w = .ok r w := h1
        have hn : numS a = false := by
          rcases h4 with h4 | ⟨k, n, k', m, rfl, rfl⟩ | ⟨s, s', rfl, rfl⟩
          · exact h4
          · exact (n1 _ _ _ _ rfl rfl).elim
          · exact (n2 _ _ rfl rfl).elim
        exact ⟨.bool r, by rw [Sem.run_bind, eqGuard_ok _ t p q h2 h3, binOp_eql t hn]; simp [h1], by unfold VR; rfl⟩
    · cases he : eqS (X.ty t).ki x y with
      | none => simp [he] at h
      | some r =>
        simp [he] at h; subst h
        obtain ⟨h1, h2, h3, h4⟩ := eqS_ok (w := w) hx hy he 9999
        have h1 : (Op.equal t a b).run X.P w = .ok r w := h1
        have hn : numS a = false := by
          rcases h4 with h4 | ⟨k, n, k', m, rfl, rfl⟩ | ⟨s, s', rfl, rfl⟩
          · exact h4
          · exact (n1 _ _ _ _ rfl rfl).elim
          · exact (n2 _ _ rfl rfl).elim
        exact ⟨.bool !r, by rw [Sem.run_bind, eqGuard_ok _ t p q h2 h3, binOp_neq t hn]; simp [h1], by unfold VR; rfl⟩
    · simp at h

/-! ### Addresses and parts -/

theorem add_none (b p n : Nat) : (⟨b, p, none⟩ : Addr).add n = ⟨b, p + n, none⟩ := by
  unfold Addr.add; split <;> simp_all

theorem asI_ok {g : Gs} {x : PV} {a : Value} {j : Int} (hx : VR g x a) (h : asI x = some j) : ∃ k, a = .int k j := by
  unfold asI at h
  split at h
  · unfold VR at hx; simp at h; subst h; exact ⟨_, hx⟩
  · simp at h

theorem fieldOf_ok {X : Cx} {t f off u : Nat} (h : fieldOf X t f = some (off, u)) : ∃ fs fd, X.P.underlying t = some (.struct fs) ∧ fs[f]? = some fd ∧ fd.offset = off ∧ fd.type = u := by
  unfold fieldOf at h
  split at h
  · rename_i fs hk
    obtain ⟨a, h1, rfl⟩ := tyOf_struct hk
    simp at h
    obtain ⟨fd, h2, h3, h4⟩ := h
    exact ⟨a, fd, h1, h2, h3, h4⟩
  · simp at h

theorem fieldAddr_ok {X : Cx} {w : World} {g : Gs} {t f : Nat} {x v : PV} {a : Value} (hx : VR g x a) (h : X.fieldAddr t f x = some v) : Gives X.P (Instr.fieldAt t a f) w g v := by
  unfold Cx.fieldAddr at h
  split at h
  · rename_i off u hf
    obtain ⟨fs, fd, h1, h2, rfl, rfl⟩ := fieldOf_ok hf
    split at h
    · simp at h
    rename_i hz
    have hsz := run_size (P := X.P) (t := fd.type) (by unfold Cx.ty at hz; omega) w
    unfold Cx.ty at hz
    split at h
    · simp at h; subst h
      unfold VR at hx
      obtain ⟨b, p, y, rfl, h4, h5⟩ := hx
      exact ⟨_, by simp [Instr.fieldAt, run_underlying h1, h2, Instr.sureAddr, fieldPlace, hsz, hz, add_none]; rfl, by unfold VR; exact ⟨b, p, y, by rw [Nat.add_assoc], h4, h5⟩⟩
    · simp at h; subst h
      unfold VR at hx
      obtain ⟨hk, rfl⟩ := hx
      exact ⟨_, by simp [Instr.fieldAt, run_underlying h1, h2, Instr.sureAddr, fieldPlace, hsz, hz, add_none]; rfl, by unfold VR; exact ⟨hk, by rw [Nat.add_assoc]⟩⟩
    · simp at h
  · simp at h

/-- A part of an aggregate. -/
theorem part_ok {X : Cx} {w : World} {g : Gs} {u off : Nat} {e v : PV} {cs : Array Value} (hx : VR g e (.agg cs)) (hs : 0 < (X.ty u).size)
    (h : loadE (X.ty u).agg (X.ty u).size e off = some v) : Gives X.P (part u cs off) w g v := by
  obtain ⟨i, d, z, hi, hd, hz, _, et⟩ := tyOf_known (P := X.P) (t := u) (.inr hs)
  have hsz := run_size (P := X.P) (t := u) hs w
  unfold Cx.ty at *
  rw [et] at hs h hsz
  simp only [loadE] at h
  have hlr := hx.cells
  have hlen := hlr.length
  simp only [Value.cells] at hlr hlen
  by_cases ha : aggOf d = true
  · have hagg : (isAgg u).run X.P w = .ok true w := by
      unfold isAgg
      rw [Sem.run_bind, run_underlying hd]
      revert ha
      cases d <;> simp [aggOf]
    simp only [ha, if_true] at h
    split at h
    · rename_i hw
      obtain ⟨_, rfl, h3⟩ := hw
      simp at h; subst h
      refine ⟨.agg cs, ?_, hx⟩
      simp only [] at h3 hsz
      simp [part, hagg, hsz]
      simp at hlen
      omega
    · split at h
      · rename_i hle
        simp at h; subst h
        refine ⟨.agg (cs.extract off (off + i.size)), by simp only [] at hsz; simp [part, hagg, hsz], ?_⟩
        unfold VR
        refine ⟨_, rfl, LR.mk ?_ ?_⟩
        · simp at hlen hle ⊢; omega
        · intro j c v h1 h2
          simp only [List.getElem?_take] at h1
          split at h1
          · rename_i hji
            simp only [List.getElem?_drop] at h1
            obtain ⟨v', h3, h4⟩ := hlr.get h1
            simp at h2 h3
            have : j < min (off + i.size) cs.size - off := by simp at hlen hle; omega
            simp only [List.getElem?_take, hji, if_true, List.getElem?_drop] at h2
            simp at h2
            rw [h2] at h3
            simp at h3
            subst h3; exact h4
          · simp at h1
      · simp at h
  · have hagg : (isAgg u).run X.P w = .ok false w := by
      unfold isAgg
      rw [Sem.run_bind, run_underlying hd]
      revert ha
      cases d <;> simp [aggOf]
    simp only [ha] at h
    obtain ⟨v', h3, h4⟩ := hlr.get h
    simp at h3
    exact ⟨v', by simp [part, hagg, h3], h4⟩

theorem field_ok {X : Cx} {w : World} {g : Gs} {t f : Nat} {x v : PV} {a : Value} (hx : VR g x a) (hs : ∀ off u, fieldOf X t f = some (off, u) → 0 < (X.ty u).size) (h : X.field t f x = some v) : Gives X.P (Instr.field t a f) w g v := by
  unfold Cx.field at h
  split at h
  · rename_i off u hf
    obtain ⟨fs, fd, h1, h2, rfl, rfl⟩ := fieldOf_ok hf
    split at h
    · rename_i hg
      obtain ⟨cs, rfl, _⟩ := hx.isAg hg
      obtain ⟨y, h3, h4⟩ := part_ok (w := w) hx (hs _ _ hf) h
      exact ⟨y, by simp [Instr.field, run_underlying h1, h2, asAgg, h3], h4⟩
    · simp at h
  · simp at h

end Go.A3
