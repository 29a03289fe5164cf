/-
  The abstract machine is sound: append, the other built-in functions, conversions.
-/
import Derived.Test.YtjgfmcbdojjegaaGreatDoorM12
import Derived.Deep.Upon
namespace Go.A3

theorem nextslicecap_le (n c : Nat) (h : c < n) : Builtin.nextslicecap n c ≤ 2 * n := by
  unfold Builtin.nextslicecap
  split
  · omega
  · split
    · omega
    · simp only [Builtin.growBy]
      repeat' split
      all_goals omega

/-- What is appended, as the model takes it. -/
theorem src_ok {X : Cx} {g : Gs} {H : Heap} (hs : SR X g H) {sz : Nat} {t1 : Nat} {x : PV} {a : Value} (hx : VR g x a) {new : List PV} (hz : 0 < sz) (h : srcA H sz (X.ty t1).ki x = some new) :
    ∃ news, Flat g new sz news ∧ Src X.P sz t1 a new.length news g.w ∧ (∀ e ∈ new, e.cells.length = sz) := by
  unfold srcA at h
  split at h
  · rename_i y hk
    split at h
    · rename_i h1
      simp at h; subst h
      subst h1
      unfold VR at hx; subst hx
      have hl : (y.data.toList.map fun (c : UInt8) => PV.int .u8 c.toNat).length = y.size := by
        rw [List.length_map, Array.length_toList]; rfl
      have hLR : LR g (y.data.toList.map fun (c : UInt8) => PV.int .u8 c.toNat) (byteCells y) := LR.map _ _ _ fun c _ => by unfold VR; rfl
      have hone : ∀ u ∈ byteCells y, u.cells.size = 1 := by
        intro u hu
        unfold byteCells at hu
        obtain ⟨c, _, rfl⟩ := List.mem_map.1 hu
        rfl
      have hF := Flat.mk' (sz := 1) hLR hone
      have he : ((byteCells y).flatMap fun x => x.cells.toList) = byteCells y := by
        unfold byteCells
        rw [List.flatMap_map]
        generalize y.data.toList = l
        induction l with
        | nil => rfl
        | cons c l ih => simp [List.flatMap_cons, Value.cells] at ih ⊢; exact ih
      rw [he] at hF
      refine ⟨byteCells y, hF, ?_, ?_⟩
      · rw [hl]; exact Src.ofString g.w (tyOf_str hk) y
      · intro e hm
        obtain ⟨c, _, rfl⟩ := List.mem_map.1 hm
        rfl
    · simp at h
  · rename_i u hk
    split at h
    · rename_i es hes
      split at h
      · rename_i hall
        simp at h; subst h
        have hall' : ∀ e ∈ es, e.cells.length = sz ∧ ∀ c ∈ e.cells, c.one = true := by
          intro e he
          have := List.all_eq_true.1 hall e he
          simp at this
          exact this
        obtain ⟨vs, cap, h1, h2⟩ := elems_ok hs hx hes (fun e he => (hall' e he).1)
        have h1' : ∀ v ∈ vs, v.oneCell' = true := by
          intro v hv
          obtain ⟨k, hk⟩ := List.mem_iff_getElem?.1 hv
          obtain ⟨i, j, e, c, q1, q2, q3⟩ := h1.cov k v hk
          exact q3.one ((hall' e (List.mem_of_getElem? q1)).2 c (List.mem_of_getElem? q2))
        refine ⟨vs, h1, ?_, fun e he => (hall' e he).1⟩
        rcases h2 with ⟨b, p, rfl, hc, hr⟩ | ⟨rfl, rfl, rfl⟩
        · exact Src.ofSlice g.w (tyOf_slice hk) ⟨b, p, none⟩ _ _ vs h1.len (fun j v hj => by rw [add_none]; exact hr j v hj) h1'
        · exact Src.ofNil g.w (tyOf_slice hk) 0
      · simp at h
    · simp at h
  · simp at h

theorem RowR.of_flat {g : Gs} {es new : List PV} {sz : Nat} {olds news : List Value} (ho : Flat g es sz olds) (hn : Flat g new sz news) (rest : Array Value) : RowR g (es ++ new) sz ((olds ++ news).toArray ++ rest) := by
  intro i e he
  have hlo := ho.len
  by_cases hi : i < es.length
  · rw [List.getElem?_append_left hi] at he
    obtain ⟨x, h1, h2, h3⟩ := ho.row i e he
    refine ⟨x, h1, h2, fun j v hj => ?_⟩
    have hjs : j < sz := by rw [← h2]; exact (Array.getElem?_eq_some_iff.1 hj).1
    have hle : (i + 1) * sz ≤ es.length * sz := Nat.mul_le_mul_right _ hi
    rw [Nat.succ_mul] at hle
    have := h3 j v hj
    simp at this
    rw [Array.getElem?_append_left (by simp; omega)]
    simp
    rw [List.getElem?_append_left (by omega)]
    exact this
  · rw [List.getElem?_append_right (by omega)] at he
    obtain ⟨x, h1, h2, h3⟩ := hn.row _ e he
    refine ⟨x, h1, h2, fun j v hj => ?_⟩
    have hjs : j < sz := by rw [← h2]; exact (Array.getElem?_eq_some_iff.1 hj).1
    have hil : i - es.length < new.length := (List.getElem?_eq_some_iff.1 he).1
    have hle : (i - es.length + 1) * sz ≤ new.length * sz := Nat.mul_le_mul_right _ hil
    rw [Nat.succ_mul] at hle
    have hln := hn.len
    have heq : i * sz = es.length * sz + (i - es.length) * sz := by rw [← Nat.add_mul]; congr 1; omega
    have := h3 j v hj
    simp at this
    rw [Array.getElem?_append_left (by simp; omega)]
    simp
    rw [List.getElem?_append_right (by omega), show i * sz + j - olds.length = (i - es.length) * sz + j by omega]
    exact this

theorem RowR.room {g : Gs} {es new : List PV} {sz : Nat} {cs : Array Value} {news : List Value} (hr : RowR g es sz cs) (hn : Flat g new sz news) (hroom : (es.length + new.length) * sz ≤ cs.size) :
    RowR g (es ++ new) sz (setA cs (es.length * sz) news) := by
  have hln := hn.len
  rw [Nat.add_mul] at hroom
  intro i e he
  by_cases hi : i < es.length
  · rw [List.getElem?_append_left hi] at he
    obtain ⟨x, h1, h2, h3⟩ := hr i e he
    refine ⟨x, h1, h2, fun j v hj => ?_⟩
    have hjs : j < sz := by rw [← h2]; exact (Array.getElem?_eq_some_iff.1 hj).1
    have hle : (i + 1) * sz ≤ es.length * sz := Nat.mul_le_mul_right _ hi
    rw [Nat.succ_mul] at hle
    rw [setA_get _ _ _ _ (by omega), if_neg (by omega)]
    exact h3 j v hj
  · rw [List.getElem?_append_right (by omega)] at he
    obtain ⟨x, h1, h2, h3⟩ := hn.row _ e he
    refine ⟨x, h1, h2, fun j v hj => ?_⟩
    have hjs : j < sz := by rw [← h2]; exact (Array.getElem?_eq_some_iff.1 hj).1
    have hil : i - es.length < new.length := (List.getElem?_eq_some_iff.1 he).1
    have hle : (i - es.length + 1) * sz ≤ new.length * sz := Nat.mul_le_mul_right _ hil
    rw [Nat.succ_mul] at hle
    have heq : i * sz = es.length * sz + (i - es.length) * sz := by rw [← Nat.add_mul]; congr 1; omega
    have := h3 j v hj
    simp at this
    rw [setA_get _ _ _ _ (by omega), if_pos (by omega), show i * sz + j - es.length * sz = (i - es.length) * sz + j by omega]
    exact this

/-- append where a new row is made. -/
theorem app_grow {X : Cx} {g : Gs} {H H' : Heap} (hs : SR X g H) {b t t1 ty u : Nat} (hK : ¬ g.K b) (hbn : b < H'.next) (hn' : H.next ≤ H'.next) (hk : (X.ty t).ki = .slice u) (hz : 0 < (X.ty u).size) (hzc : (X.ty u).zero.cells.length = (X.ty u).size)
    {es new : List PV} {base : Option Addr} {cap : Nat} {x : Value} {olds news : List Value} (hold : ∀ w', w'.heap = g.w.heap → (Builtin.firstCells (X.ty u).size es.length (.slice base es.length cap)).run X.P w' = .ok olds.toArray w')
    (hfo : Flat g es (X.ty u).size olds) (hfn : Flat g new (X.ty u).size news) (hsrc : Src X.P (X.ty u).size t1 x new.length news g.w) (hcap : cap < es.length + new.length)
    (hb1 : (es.length + new.length) * (X.ty u).bytes ≤ 2 ^ 47) (hb2 : es.length + new.length < 2 ^ 62)
    (hb : H'.bl b = some (.row (es ++ new) (X.ty u).size)) (hj : ∀ j, j ≠ b → H'.bl j = H.bl j ∨ H'.bl j = none) (hnx : H'.next = H.next) :
    Mk X g H b (.sm b 0 (es.length + new.length)) H' (Builtin.append_ #[t, t1] ty #[.slice base es.length cap, x]) := by
  obtain ⟨i, d, z, hi, hd, hzz, hok, et⟩ := tyOf_known (P := X.P) (t := u) (.inr hz)
  have hty : X.ty u = ⟨kiOf d, i.size, i.bytes, aggOf d, ofZ z⟩ := et
  have hzero : VR g (ofZ z) z := VR.ofZ hok
  rw [hty] at hz hzc hold hfo hfn hsrc hb1 hb
  simp only [] at hz hzc hold hfo hfn hsrc hb1 hb
  have hfit : Builtin.nextslicecap (es.length + new.length) cap * i.bytes ≤ 281474976710656 := by
    have h1 := nextslicecap_le (es.length + new.length) cap hcap
    have h2 := Nat.mul_le_mul_right i.bytes h1
    rw [Nat.mul_assoc] at h2
    omega
  have hrun := run_append_grow_src (P := X.P) g.w t t1 ty u i z (tyOf_slice hk) hi hzz base es.length cap olds (hold _ rfl) x new.length news hsrc hcap (by omega) hfit
  obtain ⟨q1, q2, q3⟩ := hs.push b (es ++ new) i.size ((olds ++ news).toArray ++ Builtin.zeroCells z.cells (grownCap g.w (es.length + new.length) cap u - (es.length + new.length))) u g.w.drew rfl ⟨rfl, rfl⟩ H' hb hj hbn hn' hK hz (RowR.of_flat hfo hfn _)
  refine ⟨_, _, hrun, q1, q2, ?_, q3, fun j hj' h0 => (hj j hj').elim (fun h => h.trans h0) id, hnx⟩
  have hge := grownCap_ge g.w (es.length + new.length) cap u
  unfold VR
  refine ⟨.inr rfl, grownCap g.w (es.length + new.length) cap u, hge, ?_, by simp [Gs.put]⟩
  have hl1 := hfo.len
  have hl2 := hfn.len
  have hzs : z.cells.size = i.size := by rw [hzero.size, hzc]
  simp only [Gs.put, if_true, Array.size_append, List.size_toArray, List.length_append, hl1, hl2, size_zeroCells, hzs, Nat.zero_add]
  rw [← Nat.add_mul, ← Nat.add_mul]
  exact Nat.mul_le_mul_right _ (by omega)


theorem Flat.nil (g : Gs) (sz : Nat) : Flat g [] sz [] := ⟨by simp, fun i e he => by simp at he, fun k v hk => by simp at hk⟩

/-- A row's elements are looked at anew. -/
theorem SR.again {X : Cx} {g : Gs} {H : Heap} (hs : SR X g H) {id sz : Nat} {es es' : List PV} (hb : H.bl id = some (.row es sz)) (h : ∀ (i : Nat) (e' : PV), es'[i]? = some e' → ∃ e, es[i]? = some e ∧ ∀ x, VR g e x → VR g e' x) : SR X g (H.set id (some (.row es' sz))) := by
  have live : ∀ j, (H.set id (some (.row es' sz))).bl j ≠ none → H.bl j ≠ none := by
    intro j hj
    simp only [Heap.set_bl] at hj
    split at hj
    · rename_i q; rw [q, hb]; simp
    · exact hj
  refine ⟨hs.nx, fun j hj => hs.live j (live j hj), fun j b hj => ?_, fun i j hi hj => hs.inj i j (live i hi) (live j hj), fun j hj => hs.apart j (live j hj), hs.old, hs.glob⟩
  simp only [Heap.set_bl] at hj
  split at hj
  · rename_i q
    subst q
    simp only [Option.some.injEq] at hj
    subst hj
    obtain ⟨h1, h2, cs, ty, h3, h4, h5⟩ := hs.blk j _ hb
    refine ⟨h1, h2, cs, ty, h3, h4, fun i e' he' => ?_⟩
    obtain ⟨e, he, hv⟩ := h i e' he'
    obtain ⟨x, k1, k2, k3⟩ := h5 i e he
    exact ⟨x, hv x k1, k2, k3⟩
  · exact hs.blk j b hj


theorem Mk.forget {X : Cx} {g : Gs} {H H1 H' : Heap} {b : Nat} {v : PV} {s : Sem Value} (h : Mk X g H1 b v H' s) (he : ∀ j, H1.bl j = none ↔ H.bl j = none) (hn : H1.next = H.next) : Mk X g H b v H' s := by
  obtain ⟨g', x, h1, h2, h3, h4, h5, h6, h7⟩ := h
  refine ⟨g', x, h1, h2, ⟨h3.ext, fun c hc hno => h3.frame c hc fun id hid => hno id fun q => hid ((he id).2 q), h3.size, fun id hid => ?_, fun c o hS => ?_, h3.io⟩, h4, h5, fun j hj h0 => h6 j hj ((he j).2 h0), h7.trans hn⟩
  · rcases h3.range id hid with ⟨i, hi, e⟩ | hle
    · exact .inl ⟨i, fun q => hi ((he i).2 q), e⟩
    · exact .inr hle
  · rcases h3.newS c o hS with hS | ⟨i, hi, e⟩ | hle
    · exact .inl hS
    · exact .inr (.inl ⟨i, fun q => hi ((he i).2 q), e⟩)
    · exact .inr (.inr hle)

theorem app_sm {X : Cx} {g : Gs} {H : Heap} (hs : SR X g H) {b ty : Nat} (hK : ¬ g.K b) (hbl : H.bl b = none) (hbn : b < H.next) {t t1 u id : Nat} {sv xv : Value} {es new : List PV} {news : List Value} (hk : (X.ty t).ki = .slice u) (hz : 0 < (X.ty u).size) (hzc : (X.ty u).zero.cells.length = (X.ty u).size)
    (hbk : H.bl id = some (.row es (X.ty u).size)) (hsv : VR g (.sm id 0 es.length) sv) (hF : Flat g new (X.ty u).size news) (hS : Src X.P (X.ty u).size t1 xv new.length news g.w)
    (hb1 : (es.length + new.length) * (X.ty u).bytes ≤ 2 ^ 47) (hb2 : es.length + new.length < 2 ^ 62) :
    Mk X g H b (.sm b 0 (es.length + new.length)) ((H.set id none).set b (some (.row (es ++ new) (X.ty u).size))) (Builtin.append_ #[t, t1] ty #[sv, xv]) := by
  obtain ⟨i, d, z, hi, hd, hzi, hok, et⟩ := tyOf_known (P := X.P) (t := u) (.inr hz)
  have hsz : (X.ty u).size = i.size := by unfold Cx.ty; rw [et]
  have hne : id ≠ b := fun e => by rw [e, hbl] at hbk; simp at hbk
  have hsv' := hsv
  unfold VR at hsv'
  obtain ⟨hKid, cap, hc1, hc2, rfl⟩ := hsv'
  obtain ⟨_, hsz0, cs, cty, hh, htot, hr⟩ := hs.blk id _ hbk
  have hj : ∀ j, j ≠ b → ((H.set id none).set b (some (.row (es ++ new) (X.ty u).size))).bl j = H.bl j ∨ ((H.set id none).set b (some (.row (es ++ new) (X.ty u).size))).bl j = none := by
    intro j hjb
    by_cases e : j = id
    · exact .inr (by simp [e, hne])
    · exact .inl (by simp [hjb, e])
  rw [hsz0] at hc2
  simp only [Nat.zero_mul, Nat.zero_add] at hc2 ⊢
  by_cases hroom : es.length + new.length ≤ cap
  · have hroom' : (es.length + new.length) * (X.ty u).size ≤ cs.size := by
      rw [htot]
      exact Nat.le_trans (Nat.mul_le_mul_right _ hroom) hc2
    have hr2 := hroom'
    rw [Nat.add_mul] at hr2
    have hln := hF.len
    have hrun := run_append_room_src (P := X.P) g.w t t1 ty u i (tyOf_slice hk) hi (g.σ id).b 0 es.length cap xv new.length news (hsz ▸ hS) hroom
      (fun j hj => by
        rw [← hsz]
        have hlt : 0 + es.length * (X.ty u).size + j < cs.size := by omega
        simp only [World.cell?, hh, Option.isSome_none, Bool.false_eq_true, if_false]
        simpa using hlt)
      (fun j hj => by simp [World.frozen?, hh])
    obtain ⟨r1, r2, r3⟩ := heap_setCells news g.w (g.σ id).b (0 + es.length * i.size) cs cty hh
    rw [Nat.zero_add, ← hsz] at r1 r2 r3 hrun
    obtain ⟨s1, s2, s3⟩ := hs.put b (g.σ id) (g.w.setCells (g.σ id).b (es.length * (X.ty u).size) news) ((H.set id none).set b (some (.row (es ++ new) (X.ty u).size))) (.row (es ++ new) (X.ty u).size) (by simp) hj hbn (Nat.le_refl _) (.inl hK)
      (fun k _ hk => r3 k hk) (by rw [r2]; exact Nat.le_refl _) (io_setCells _ _ _ _) (.inr ⟨id, by rw [hbk]; simp, rfl, .inr (by simp [hne])⟩)
      (fun x0 => ⟨hz, hsz0, _, cty, r1, by rw [setA_size, htot], (hr.room hF hroom').mono x0⟩)
    refine ⟨_, .slice (some ⟨(g.σ id).b, 0, none⟩) (es.length + new.length) cap, hrun, s1, s2, ?_, s3, fun j hj' h0 => (hj j hj').elim (fun h => h.trans h0) (fun h => h), rfl⟩
    · unfold VR
      refine ⟨.inr rfl, cap, hroom, ?_, ?_⟩
      · simp only [Gs.put, if_true, Nat.zero_add]
        rw [hsz0]; exact hc2
      · simp [Gs.put]
  · obtain ⟨vs, cap', h1, h2⟩ := elems_ok (sz := (X.ty u).size) hs hsv (es := es) (by simp [elems, hbk]) (fun e he => by
      obtain ⟨k, hk⟩ := List.mem_iff_getElem?.1 he
      obtain ⟨x, q1, q2, _⟩ := hr k e hk
      rw [← q1.size, q2])
    rcases h2 with ⟨b', p', he, hc, hrr⟩ | ⟨he, _⟩
    · simp only [Value.slice.injEq, Option.some.injEq] at he
      obtain ⟨he1, _, rfl⟩ := he
      simp only [Nat.zero_mul] at he1
      rw [he1]
      refine app_grow (H' := (H.set id none).set b (some (.row (es ++ new) (X.ty u).size))) (cap := cap) hs hK hbn (Nat.le_refl _) hk hz hzc (olds := vs) (fun w' hw' => ?_) h1 hF hS (by omega) hb1 hb2 (by simp) hj rfl
      refine run_firstCells_some w' _ _ _ _ _ vs h1.len fun j v hj => ?_
      rw [add_none, cell?_of_heap (w := g.w) (by rw [hw'])]
      exact hrr j v hj
    · simp at he

theorem zeroCells_get {z : Array Value} {n k : Nat} (h : k < n * z.size) : (Builtin.zeroCells z n)[k]? = some z[k % z.size]! := by
  simp [Builtin.zeroCells, h]

theorem RowR.zeroes {g : Gs} {e : PV} {x : Value} (h : VR g e x) (n : Nat) (rest : Array Value) : RowR g (List.replicate n e) x.cells.size (Builtin.zeroCells x.cells n ++ rest) := by
  intro i e' he'
  have hi : i < n := by
    have := (List.getElem?_eq_some_iff.1 he').1
    simpa using this
  have : e' = e := by
    rw [List.getElem?_replicate, if_pos hi] at he'
    simpa using he'.symm
  subst this
  refine ⟨x, h, rfl, fun j v hj => ?_⟩
  have hjs : j < x.cells.size := (Array.getElem?_eq_some_iff.1 hj).1
  have hlt : i * x.cells.size + j < n * x.cells.size := by
    have := Nat.mul_le_mul_right x.cells.size (Nat.succ_le_of_lt hi)
    rw [Nat.succ_mul] at this
    omega
  have hs : (Builtin.zeroCells x.cells n).size = n * x.cells.size := by simp [Builtin.zeroCells]
  rw [Array.getElem?_append_left (by omega), zeroCells_get hlt]
  rw [Nat.mul_comm, Nat.mul_add_mod, Nat.mod_eq_of_lt hjs]
  obtain ⟨h1, h2⟩ := Array.getElem?_eq_some_iff.1 hj
  simp [h1, h2]

theorem app_zeros {X : Cx} {g : Gs} {H : Heap} (hs : SR X g H) {b ty : Nat} (hK : ¬ g.K b) (hbn : b < H.next) {t t1 u : Nat} {kk : IntKind} {n : Int} (hk : (X.ty t).ki = .slice u) (hk1 : (X.ty t1).ki = .int kk) (hz : 0 < (X.ty u).size) (hzc : (X.ty u).zero.cells.length = (X.ty u).size)
    (h0 : 0 < n) (hb1 : n.toNat * (X.ty u).bytes ≤ 2 ^ 47) (hb2 : n < 2 ^ 62) :
    Mk X g H b (.sm b 0 n.toNat) (H.set b (some (.row (List.replicate n.toNat (X.ty u).zero) (X.ty u).size))) (Builtin.append_ #[t, t1] ty #[.slice none 0 0, .int .i64 n]) := by
  obtain ⟨i, d, z, hi, hd, hzz, hok, et⟩ := tyOf_known (P := X.P) (t := u) (.inr hz)
  have hty : X.ty u = ⟨kiOf d, i.size, i.bytes, aggOf d, ofZ z⟩ := et
  have hzero : VR g (ofZ z) z := VR.ofZ hok
  rw [hty] at hz hzc hb1 ⊢
  simp only [] at hz hzc hb1 ⊢
  obtain ⟨m, rfl⟩ := Int.eq_ofNat_of_zero_le (Int.le_of_lt h0)
  simp only [Int.toNat_natCast] at hb1 ⊢
  have hm : 0 < m := by omega
  have hzs : z.cells.size = i.size := by rw [hzero.size, hzc]
  have hns : Builtin.nextslicecap m 0 = m := by
    unfold Builtin.nextslicecap
    rw [if_pos (by omega)]
  have hrun : (Builtin.append_ #[t, t1] ty #[.slice none 0 0, .int .i64 (m : Int)]).run X.P g.w =
      .ok (.slice (some ⟨g.w.heap.size, 0, none⟩) m (grownCap g.w m 0 u)) (g.w.drew.alloc (.cells (Builtin.zeroCells z.cells m ++ Builtin.zeroCells z.cells (grownCap g.w m 0 u - m)) u)) := by
    have hw : IntKind.i64.wrap (m : Int) = m := by
      unfold IntKind.wrap
      simp [IntKind.signed, IntKind.bits] at *
      omega
    have c1 : ¬ ((281474976710656 : Int) < (m : Int) * (i.bytes : Int)) := by
      have : ((m * i.bytes : Nat) : Int) ≤ ((2 ^ 47 : Nat) : Int) := Int.ofNat_le.2 hb1
      rw [Int.natCast_mul] at this
      omega
    have c2 : ¬ ((m : Int) < 0) := by omega
    have c3 : ¬ (m = 0) := by omega
    have c5 : ¬ ((9223372036854775807 : Int) < (m : Int)) := by omega
    have c6 : ¬ (281474976710656 < m * i.bytes) := by omega
    simp [Builtin.append_, run_underlying (tyOf_slice hk), run_underlying (tyOf_int hk1), sizeOf, typeInfo, zeroValue, hi, hzz, asInt, asIntOf, hw, c1, c2, c3, c5, c6, hns, Question.forced, Builtin.firstCells, newRow, grownCap]
    intro q
    rcases Nat.mul_eq_zero.1 q with q | q <;> omega
  obtain ⟨q1, q2, q3⟩ := hs.push b (List.replicate m (ofZ z)) i.size (Builtin.zeroCells z.cells m ++ Builtin.zeroCells z.cells (grownCap g.w m 0 u - m)) u g.w.drew rfl ⟨rfl, rfl⟩ (H.set b (some (.row (List.replicate m (ofZ z)) i.size))) (by simp) set_keep hbn (Nat.le_refl _) hK hz
    (by rw [← hzs]; exact RowR.zeroes hzero m _)
  refine ⟨_, _, hrun, q1, q2, ?_, q3, fun j hj' h0 => by simp [hj', h0], rfl⟩
  have hge := grownCap_ge g.w m 0 u
  unfold VR
  refine ⟨.inr rfl, grownCap g.w m 0 u, hge, ?_, by simp [Gs.put]⟩
  have hsz1 : (Builtin.zeroCells z.cells m).size = m * i.size := by simp [Builtin.zeroCells, hzs]
  simp only [Gs.put, if_true, Array.size_append, hsz1, size_zeroCells, hzs, Nat.zero_add]
  rw [← Nat.add_mul]
  exact Nat.mul_le_mul_right _ (by omega)

theorem isInt_iff {k : Ki} (h : isInt k = true) : ∃ q, k = .int q := by
  cases k <;> simp [isInt] at h
  exact ⟨_, rfl⟩

theorem app_ok {X : Cx} {g : Gs} {H H' : Heap} (hs : SR X g H) {b ty : Nat} (hK : ¬ g.K b) (hbl : H.bl b = none) (hbn : b < H.next) {ts : Array TypeId} {s x v : PV} {sv xv : Value} (hsv : VR g s sv) (hxv : VR g x xv)
    (hzz : ∀ u, (∃ t, ts[0]? = some t ∧ (X.ty t).ki = .slice u) → 0 < (X.ty u).size ∧ (X.ty u).zero.cells.length = (X.ty u).size) (h : X.app ts H b s x = some (v, H')) :
    Mk X g H b v H' (Builtin.append_ ts ty #[sv, xv]) := by
  unfold Cx.app at h
  split at h
  case h_2 => simp at h
  rename_i t t1 hts
  obtain rfl : ts = #[t, t1] := by
    apply Array.ext'
    simpa using hts
  split at h
  case h_2 => simp at h
  rename_i u hk
  obtain ⟨hz, hzc⟩ := hzz u ⟨t, by simp, hk⟩
  split at h
  · rename_i hint
    obtain ⟨kk, hk1⟩ := isInt_iff hint
    split at h
    · rename_i n
      split at h
      · rename_i hb
        simp at h
        obtain ⟨rfl, rfl⟩ := h
        unfold VR at hsv hxv
        subst hsv hxv
        exact app_zeros hs hK hbn hk hk1 hz hzc hb.1 hb.2.1 hb.2.2.1
      · simp at h
    · simp at h
  split at h
  case h_2 => simp at h
  rename_i new hnew
  obtain ⟨news, hF, hS, hlen⟩ := src_ok hs hxv hz hnew
  obtain ⟨i, d, z, hi, hd, hzi, hok, et⟩ := tyOf_known (P := X.P) (t := u) (.inr hz)
  have hsz : (X.ty u).size = i.size := by unfold Cx.ty; rw [et]
  split at h
  · unfold VR at hsv; subst hsv
    split at h
    · rename_i hb
      split at h
      · rename_i h0
        simp at h
        obtain ⟨rfl, rfl⟩ := h
        have hnews : news = [] := by
          have := hF.len
          rw [h0] at this
          simpa using this
        subst hnews
        rw [h0, hsz] at hS
        exact Gives.mk hs ⟨_, run_append_nothing g.w t t1 ty u i (tyOf_slice hk) hi none 0 0 (Nat.le_refl _) xv hS, by unfold VR; rfl⟩
      · rename_i h0
        simp at h
        obtain ⟨rfl, rfl⟩ := h
        have := app_grow hs (b := b) (t := t) (t1 := t1) (ty := ty) (es := []) (new := new) (base := none) (cap := 0) (olds := []) (x := xv) (news := news) (H' := H.set b (some (.row new (X.ty u).size))) hK hbn (Nat.le_refl _) hk hz hzc
          (fun w' _ => run_firstCells_none w' _ _ _ _) (Flat.nil g _) hF hS (by simp; omega) (by simpa using hb.1) (by simpa using hb.2) (by simp) set_keep rfl
        simpa using this
    · simp at h
  · rename_i es
    split at h
    · rename_i hb
      have hall : ∀ e ∈ es, e.cells.length = (X.ty u).size := fun e he => by
        have := List.all_eq_true.1 hb.2.2 e he
        simpa using this
      obtain ⟨vs, cap, h1, h2⟩ := elems_ok (sz := (X.ty u).size) hs hsv (es := es) (by rfl) hall
      have hsv' := hsv
      unfold VR at hsv'
      obtain ⟨b0, p0, cap0, sz0, rfl, hc1, hc2, _⟩ := hsv'
      rcases h2 with ⟨b', p', he, hc, hr⟩ | ⟨he, _⟩
      · simp only [Value.slice.injEq, Option.some.injEq] at he
        obtain ⟨he1, _, rfl⟩ := he
        have hcap := hc2 rfl
        subst hcap
        split at h
        · rename_i h0
          simp at h
          obtain ⟨rfl, rfl⟩ := h
          have hnews : news = [] := by
            have := hF.len
            rw [h0] at this
            simpa using this
          subst hnews
          rw [h0, hsz] at hS
          exact Gives.mk hs ⟨_, run_append_nothing g.w t t1 ty u i (tyOf_slice hk) hi _ _ _ (Nat.le_refl _) xv hS, hsv⟩
        · rename_i h0
          simp at h
          obtain ⟨rfl, rfl⟩ := h
          rw [he1]
          refine app_grow (H' := H.set b (some (.row (es ++ new) (X.ty u).size))) (cap := es.length) hs hK hbn (Nat.le_refl _) hk hz hzc (olds := vs) (fun w' hw' => ?_) h1 hF hS (by omega) hb.1 hb.2.1 (by simp) set_keep rfl
          refine run_firstCells_some w' _ _ _ _ _ vs h1.len fun j v hj => ?_
          rw [add_none, cell?_of_heap (w := g.w) (by rw [hw'])]
          exact hr j v hj
      · simp at he
    · simp at h
  · rename_i id i0 n
    split at h
    · rename_i es sz hbk
      split at h
      · rename_i hb
        obtain ⟨rfl, rfl, hnl, hb1, hb2⟩ := hb
        simp at h
        obtain ⟨rfl, rfl⟩ := h
        have hne : id ≠ b := fun e => by rw [e, hbl] at hbk; simp at hbk
        have hlen : (es.take n).length = n := by simp; omega
        have hs1 := hs.again (es' := es.take n) hbk (by
          intro i e' he'
          rw [List.getElem?_take] at he'
          split at he'
          · exact ⟨e', he', fun x h => h⟩
          · simp at he')
        have := app_sm (b := b) (ty := ty) (t := t) (t1 := t1) (id := id) (es := es.take n) (new := new) hs1 hK (by simp only [Heap.set_bl, if_neg (Ne.symm hne)]; exact hbl) hbn hk hz hzc (by simp) (by rw [hlen]; exact hsv) hF hS (by rw [hlen]; exact hb1) (by rw [hlen]; exact hb2)
        rw [hlen] at this
        have heq : ((H.set id (some (.row (es.take n) (X.ty u).size))).set id none).set b (some (.row (es.take n ++ new) (X.ty u).size)) = (H.set id none).set b (some (.row (es.take n ++ new) (X.ty u).size)) := by
          simp only [Heap.set, Heap.mk.injEq, true_and]
          funext j
          by_cases q : j = b
          · simp [q]
          · by_cases q2 : j = id
            · simp [q2]
            · simp [q, q2]
        rw [heq] at this
        exact this.forget (fun j => by
          by_cases q : j = id
          · simp [q, hbk]
          · simp [q]) rfl
      · simp at h
    · simp at h
  · simp at h

end Go.A3
