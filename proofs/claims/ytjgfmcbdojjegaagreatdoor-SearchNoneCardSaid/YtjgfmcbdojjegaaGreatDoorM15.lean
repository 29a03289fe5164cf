/-
  The abstract machine is sound: operations, all in all.
-/
import Derived.Test.YtjgfmcbdojjegaaGreatDoorM14
namespace Go.A3

theorem Gives.op {X : Cx} {g : Gs} {H : Heap} {b : Nat} {a : Act} {o : Oper} {v : PV} {s : Sem Value} (hs : SR X g H) (h : Gives X.P s g.w g v) (he : execOp a.eval o = (do pure (.value (← s)))) : OpR X g H b a o v H := (Gives.mk hs h).op he

theorem op_ok {X : Cx} {g : Gs} {H H' : Heap} (hs : SR X g H) {e : Env} {a : Act} (he : EnvR g e a) {b : Nat} (hK : ¬ g.K b) (hbn : b < H.next) {mu : Bool} (o : Oper) (hok : okOp X o.op = true) {v : PV}
    (h : X.op mu e H b o.op = some (v, H')) : OpR X g H b a o v H' := by
  unfold okOp at hok
  simp only [Bool.and_eq_true] at hok
  obtain ⟨hop, hty⟩ := hok
  have hO : ∀ x ∈ o.op.operands, X.okO x = true := fun x hx => (Array.all_eq_true_iff_forall_mem.1 hop) x hx
  have hE : ∀ x ∈ o.op.operands, VR g (X.ev e x) (a.eval x) := fun x hx => ev_ok hs he (hO x hx)
  unfold Cx.op at h
  cases hop' : o.op <;> simp only [hop'] at h hO hE hty <;> (try (simp at h; done))
  case move x =>
    simp at h; obtain ⟨rfl, rfl⟩ := h
    exact Gives.op (s := pure (a.eval x)) hs ⟨a.eval x, rfl, hE x (by simp [Op.operands])⟩ (by simp [execOp, hop'])
  case assign x =>
    simp at h; obtain ⟨rfl, rfl⟩ := h
    exact Gives.op (s := pure (a.eval x)) hs ⟨a.eval x, rfl, hE x (by simp [Op.operands])⟩ (by simp [execOp, hop'])
  case pick c x y =>
    have hc := hE c (by simp [Op.operands])
    have hx := hE x (by simp [Op.operands])
    have hy := hE y (by simp [Op.operands])
    split at h
    · rename_i t ht
      rw [ht] at hc
      unfold VR at hc
      simp at h; obtain ⟨rfl, rfl⟩ := h
      refine Gives.op (s := do pure (if ← asBool (a.eval c) then a.eval x else a.eval y)) hs ⟨if t then a.eval x else a.eval y, by rw [hc]; simp [asBool], ?_⟩ (by simp [execOp, hop'])
      cases t
      · exact hy
      · exact hx
    · simp at h
  case alloc t =>
    split at h
    · rename_i hz
      simp at h; obtain ⟨rfl, rfl⟩ := h
      exact (alloc_ok hs hK hbn hz.1 hz.2).op (by simp [execOp, hop'])
    · simp at h
  case box t x =>
    split at h
    · rename_i hz
      simp at h; obtain ⟨rfl, rfl⟩ := h
      exact (box_ok hs hK hbn (hE x (by simp [Op.operands])) hz t).op (by simp [execOp, hop'])
    · simp at h
  case build t ps =>
    have hp := parts_ok hs he (l := ps.toList) (fun x hx => hO x.2 (by simp [Op.operands]; exact ⟨x.1, by simpa using hx⟩))
    cases hb : X.build t (ps.toList.map fun p => (p.1, X.ev e p.2)) with
    | none => simp [hb] at h
    | some w =>
      simp [hb] at h; obtain ⟨rfl, rfl⟩ := h
      have hk : (X.ty t).ki ≠ .other := by intro q; rw [q] at hty; simp at hty
      refine Gives.op hs (build_ok (vs := ps.map fun (i, x) => (i, a.eval x)) (by simpa using hp) hk (fun fs hfs f hf => ?_) (fun n u hu => ?_) hb) (by simp [execOp, hop'])
      · rw [hfs] at hty
        exact (okTy_iff (List.all_eq_true.1 hty f hf)).1
      · rw [hu] at hty
        exact (okTy_iff hty).1
  case buildSlice t n ps =>
    have hp := parts_ok hs he (l := ps.toList) (fun x hx => hO x.2 (by simp [Op.operands]; exact ⟨x.1, by simpa using hx⟩))
    split at h
    · rename_i es sz hl
      obtain ⟨q1, q2⟩ := lit_ok hs hK hbn (vs := ps.map fun (i, x) => (i, a.eval x)) (by simpa using hp) hl
      split at h
      · simp at h; obtain ⟨rfl, rfl⟩ := h
        exact q1.op (by simp [execOp, hop'])
      · simp at h; obtain ⟨rfl, rfl⟩ := h
        exact q2.op (by simp [execOp, hop'])
    · simp at h
  case load t x =>
    cases hl : X.load t H (X.ev e x) with
    | none => simp [hl] at h
    | some w =>
      simp [hl] at h; obtain ⟨rfl, rfl⟩ := h
      obtain ⟨y, h1, h2⟩ := Cx.load_ok hs (hE x (by simp [Op.operands])) hl
      exact Gives.op hs ⟨y, h1, h2⟩ (by simp [execOp, hop'])
  case store t x y =>
    cases hl : X.store t H (X.ev e y) (X.ev e x) with
    | none => simp [hl] at h
    | some w =>
      simp [hl] at h; obtain ⟨rfl, rfl⟩ := h
      obtain ⟨g', h1, h2, h3, h4⟩ := store_ok (b := b) hs (hE x (by simp [Op.operands])) (hE y (by simp [Op.operands])) hl
      exact ⟨g', undef, does_skip (by simp [execOp, hop', h1]), h2, h3, by unfold VR; rfl, h4⟩
  case nilCheck x =>
    have hx := hE x (by simp [Op.operands])
    split at h
    · rename_i id i o' hx'
      simp at h; obtain ⟨rfl, rfl⟩ := h
      rw [hx'] at hx
      have hx0 := hx
      unfold VR at hx
      obtain ⟨_, hv⟩ := hx
      exact Gives.op (s := pure (a.eval x)) hs ⟨_, rfl, hx0⟩ (by simp [execOp, hop', hv])
    · rename_i y o' hx'
      simp at h; obtain ⟨rfl, rfl⟩ := h
      rw [hx'] at hx
      have hx0 := hx
      unfold VR at hx
      obtain ⟨_, _, _, hv, _⟩ := hx
      exact Gives.op (s := pure (a.eval x)) hs ⟨_, rfl, hx0⟩ (by simp [execOp, hop', hv])
    · rename_i f fi ca hx'
      simp at h; obtain ⟨rfl, rfl⟩ := h
      rw [hx'] at hx
      have hx0 := hx
      unfold VR at hx
      obtain ⟨_, _, hv, _⟩ := hx
      exact Gives.op (s := pure (a.eval x)) hs ⟨_, rfl, hx0⟩ (by simp [execOp, hop', hv])
    · simp at h
  case binOp op t x y t2 =>
    cases hl : X.binP op t (X.ev e x) (X.ev e y) with
    | none => simp [hl] at h
    | some w =>
      simp [hl] at h; obtain ⟨rfl, rfl⟩ := h
      exact Gives.op hs (binP_ok x y (hE x (by simp [Op.operands])) (hE y (by simp [Op.operands])) hl) (by simp [execOp, hop'])
  case unOp op t x =>
    cases hl : unP op (X.ev e x) with
    | none => simp [hl] at h
    | some w =>
      simp [hl] at h; obtain ⟨rfl, rfl⟩ := h
      exact Gives.op hs (unP_ok (hE x (by simp [Op.operands])) hl) (by simp [execOp, hop'])
  case convert s d x =>
    cases hl : X.convP s d H (X.ev e x) with
    | none => simp [hl] at h
    | some w =>
      simp [hl] at h; obtain ⟨rfl, rfl⟩ := h
      exact Gives.op hs (conv_ok hs (hE x (by simp [Op.operands])) hl) (by simp [execOp, hop'])
  case makeFunc f fi ca =>
    simp at h; obtain ⟨rfl, rfl⟩ := h
    refine Gives.op (s := pure (.func f (fi.map a.eval) (ca.map a.eval))) hs ⟨_, rfl, ?_⟩ (by simp [execOp, hop', Instr.makeFunc])
    unfold VR
    refine ⟨_, _, rfl, ?_, ?_⟩
    · have := evs_ok hs he (l := fi.toList) (fun x hx => hO x (by simp [Op.operands]; exact .inl (by simpa using hx)))
      simpa using this
    · have := evs_ok hs he (l := ca.toList) (fun x hx => hO x (by simp [Op.operands]; exact .inr (by simpa using hx)))
      simpa using this
  case makeMap t r =>
    cases r with
    | some r => simp at h
    | none =>
      simp at h; obtain ⟨rfl, rfl⟩ := h
      exact (makeMap_ok (t := t) hs hK hbn).op (by simp [execOp, hop'])
  case makeSlice t n c =>
    have hn := hE n (by simp [Op.operands])
    have hc := hE c (by simp [Op.operands])
    split at h
    · rename_i u l m hk hl hm
      split at h
      · rename_i hb
        simp at h; obtain ⟨rfl, rfl⟩ := h
        obtain ⟨k1, q1⟩ := asI_ok hn hl
        obtain ⟨k2, q2⟩ := asI_ok hc hm
        have := makeSlice_ok hs hK hbn hk (kl := k1) (km := k2) hb.1 hb.2.1 hb.2.2.1 hb.2.2.2.1 hb.2.2.2.2.1 hb.2.2.2.2.2
        exact this.op (by simp [execOp, hop', q1, q2])
      · simp at h
    · simp at h
  case slice t x lo hi mx =>
    cases hl : X.slice t (X.ev e x) (lo.map (X.ev e)) (hi.map (X.ev e)) (mx.map (X.ev e)) with
    | none => simp [hl] at h
    | some w =>
      simp [hl] at h; obtain ⟨rfl, rfl⟩ := h
      obtain ⟨a1, a2⟩ := opt_ok hs he (x := lo) (fun o q => hO o (by simp [Op.operands, q]))
      obtain ⟨b1, b2⟩ := opt_ok hs he (x := hi) (fun o q => hO o (by simp [Op.operands, q]))
      obtain ⟨c1, c2⟩ := opt_ok hs he (x := mx) (fun o q => hO o (by simp [Op.operands, q]))
      exact Gives.op hs (slice_ok (hE x (by simp [Op.operands])) a1 a2 b1 b2 c1 c2 (okEl_pos hty) hl) (by simp [execOp, hop'])
  case fieldAddr t x f =>
    cases hl : X.fieldAddr t f (X.ev e x) with
    | none => simp [hl] at h
    | some w =>
      simp [hl] at h; obtain ⟨rfl, rfl⟩ := h
      exact Gives.op hs (fieldAddr_ok (hE x (by simp [Op.operands])) hl) (by simp [execOp, hop'])
  case field t x f =>
    cases hl : X.field t f (X.ev e x) with
    | none => simp [hl] at h
    | some w =>
      simp [hl] at h; obtain ⟨rfl, rfl⟩ := h
      exact Gives.op hs (field_ok (hE x (by simp [Op.operands])) (fun off u hf => by rw [hf] at hty; exact (okTy_iff hty).1) hl) (by simp [execOp, hop'])
  case indexAddr t x ix =>
    cases hl : X.indexAddr t H (X.ev e x) (X.ev e ix) with
    | none => simp [hl] at h
    | some w =>
      simp [hl] at h; obtain ⟨rfl, rfl⟩ := h
      exact Gives.op hs (indexAddr_ok hs (hE x (by simp [Op.operands])) (hE ix (by simp [Op.operands])) (okEl_pos hty) hl) (by simp [execOp, hop'])
  case index t x ix =>
    cases hl : X.index t (X.ev e x) (X.ev e ix) with
    | none => simp [hl] at h
    | some w =>
      simp [hl] at h; obtain ⟨rfl, rfl⟩ := h
      exact Gives.op hs (index_ok (hE x (by simp [Op.operands])) (hE ix (by simp [Op.operands])) (fun u n hu => okEl_pos hty u (.inr ⟨n, hu⟩)) hl) (by simp [execOp, hop'])
  case extract x i =>
    have hx := hE x (by simp [Op.operands])
    split at h
    · rename_i vs hvs
      rw [hvs] at hx
      unfold VR at hx
      obtain ⟨cs, hcs, hl⟩ := hx
      cases hv : vs[i]? with
      | none => simp [hv] at h
      | some w =>
        simp [hv] at h; obtain ⟨rfl, rfl⟩ := h
        obtain ⟨y, q1, q2⟩ := hl.get hv
        simp at q1
        exact Gives.op (s := Instr.extract (a.eval x) i) hs ⟨y, by simp [Instr.extract, hcs, q1], q2⟩ (by simp [execOp, hop'])
    · simp at h
  case lookup t m k ok =>
    cases hl : X.lookup t H (X.ev e m) (X.ev e k) ok with
    | none => simp [hl] at h
    | some w =>
      simp [hl] at h; obtain ⟨rfl, rfl⟩ := h
      exact Gives.op hs (lookup_ok hs (hE m (by simp [Op.operands])) (hE k (by simp [Op.operands])) hl) (by simp [execOp, hop'])
  case mapUpdate t m k x =>
    cases hl : X.mapUpd t H (X.ev e m) (X.ev e k) (X.ev e x) with
    | none => simp [hl] at h
    | some w =>
      simp [hl] at h; obtain ⟨rfl, rfl⟩ := h
      obtain ⟨g', h1, h2, h3, h4⟩ := mapUpd_ok (b := b) hs (hE m (by simp [Op.operands])) (hE k (by simp [Op.operands])) (hE x (by simp [Op.operands])) hl
      exact ⟨g', undef, does_skip (by simp [execOp, hop', h1]), h2, h3, by unfold VR; rfl, h4⟩

end Go.A3
