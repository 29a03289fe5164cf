/-
  The abstract machine is sound: regions that draw their order.
-/
import Derived.Test.YtjgfmcbdojjegaaGreatDoorM23
namespace Go.A3

variable {X : Cx} {mu : Bool} {fr : Nat → Bool} {ops : Array Oper} {base : Lw}

/-- What an order says of two operations, j ahead of i. -/
def Ord (X : Cx) (mu : Bool) (ops : Array Oper) (j i : Nat) : Prop :=
  i ≠ j ∧ i ∉ ancs ops.toList ops.toList.length j ∧
    (j ∈ ancs ops.toList ops.toList.length i ∨ ∃ oi oj, ops[i]? = some oi ∧ ops[j]? = some oj ∧ oj.apart ops oi = true ∧ kOk X mu oi oj = true)

theorem okOrder_pair : ∀ (l : List Nat), okOrder X mu ops.toList l = true → l.Pairwise (Ord X mu ops)
  | [], _ => .nil
  | j :: T, h => by
    unfold okOrder at h
    simp only [Bool.and_eq_true] at h
    refine .cons (fun i hi => ?_) (okOrder_pair T h.1)
    have := List.all_eq_true.1 h.2 i hi
    simp only [Bool.and_eq_true, bne_iff_ne, Bool.not_eq_true', Bool.or_eq_true] at this
    obtain ⟨⟨h1, h2⟩, h3⟩ := this
    refine ⟨h1, by simpa using h2, h3.imp (by simp) fun q => ?_⟩
    split at q
    · rename_i oi oj hoi hoj
      simp only [Bool.and_eq_true, apartA] at q
      refine ⟨oi, oj, by simpa using hoi, by simpa using hoj, by simpa using q.1, q.2⟩
    · simp at q

/-- What freedom says. -/
theorem free_of {i j : Nat} {oi oj : Oper} (hi : ops[i]? = some oi) (hj : ops[j]? = some oj) (hb : beside ops.toList i j = true) :
    (sortOf mu oi.op = .load → sortOf mu oj.op ≠ .pure → sortOf mu oj.op ≠ .load → freeOf mu ops.toList i = false) ∧
    (sortOf mu oi.op = .app → sortOf mu oj.op = .make → freeOf mu ops.toList i = false) ∧
    (sortOf mu oi.op = .app ∨ sortOf mu oi.op = .call ∨ sortOf mu oi.op = .act → sortOf mu oj.op = .load → freeOf mu ops.toList i = false) := by
  have hi' : ops.toList[i]? = some oi := by simpa using hi
  have hj' : ops.toList[j]? = some oj := by simpa using hj
  have hlt : j ∈ List.range ops.toList.length := by
    rw [List.mem_range]
    exact (List.getElem?_eq_some_iff.1 hj').1
  unfold freeOf
  rw [hi']
  simp only [Option.map_some]
  refine ⟨fun h1 h2 h3 => ?_, fun h1 h2 => ?_, fun h1 h2 => ?_⟩
  · rw [h1]
    simp only []
    rw [List.all_eq_false]
    refine ⟨j, hlt, ?_⟩
    rw [hb, hj']
    simp only [Option.map_some]
    cases q : sortOf mu oj.op <;> simp_all
  · rw [h1]
    simp only []
    rw [List.all_eq_false]
    refine ⟨j, hlt, ?_⟩
    rw [hb, hj']
    simp only [Option.map_some]
    rw [h2]
    simp
  · rcases h1 with h1 | h1 | h1 <;> rw [h1] <;> simp only [] <;> rw [List.all_eq_false] <;> refine ⟨j, hlt, ?_⟩ <;> rw [hb, hj'] <;> simp only [Option.map_some] <;> rw [h2] <;> simp

theorem beside_iff {i j : Nat} : beside ops.toList i j = true ↔ i ≠ j ∧ j ∉ ancs ops.toList ops.toList.length i ∧ i ∉ ancs ops.toList ops.toList.length j := by
  unfold beside
  simp [and_assoc]

theorem swap_of {i j : Nat} {oi oj : Oper} (hi : ops[i]? = some oi) (hj : ops[j]? = some oj) (h1 : i ≠ j) (h2 : j ∉ ancs ops.toList ops.toList.length i) (h3 : i ∉ ancs ops.toList ops.toList.length j)
    (ha : oj.apart ops oi = true) (hk : kOk X mu oi oj = true) : Swap X mu (freeOf mu ops.toList) ops i j oi oj := by
  have b1 : beside ops.toList i j = true := beside_iff.2 ⟨h1, h2, h3⟩
  have b2 : beside ops.toList j i = true := beside_iff.2 ⟨h1.symm, h3, h2⟩
  obtain ⟨fi1, fi2, fi3⟩ := free_of (mu := mu) hi hj b1
  obtain ⟨fj1, fj2, fj3⟩ := free_of (mu := mu) hj hi b2
  refine ⟨h1, ha, hk, ?_, fun p q => ⟨fi3 (.inr (.inl q)) p, fj1 p (by rw [q]; simp) (by rw [q]; simp)⟩⟩
  unfold kOk at hk
  unfold KOk
  cases p : sortOf mu oj.op <;> cases q : sortOf mu oi.op <;> rw [p, q] at hk <;> simp at hk <;> simp_all

/-- What was carried out is closed: what comes ahead of it was carried out. -/
def Shut (ops : Array Oper) (listed : Array Bool) : Prop :=
  ∀ k o, listed.getD k false = true → ops[k]? = some o → ∀ d ∈ o.after, Region.binds .any d = true → listed.getD d.on false = true

theorem ancs_shut {listed : Array Bool} (h : Shut ops listed) : ∀ (n i : Nat), (∀ o, ops[i]? = some o → ∀ d ∈ o.after, Region.binds .any d = true → listed.getD d.on false = true) → ∀ x ∈ ancs ops.toList n i, listed.getD x false = true
  | 0, _, _, x, hx => by simp [ancs] at hx
  | n + 1, i, hi, x, hx => by
    unfold ancs at hx
    cases ho : ops.toList[i]? with
    | none => rw [ho] at hx; simp at hx
    | some o =>
      have ho' : ops[i]? = some o := by simpa using ho
      rw [ho] at hx
      simp only [List.mem_flatMap] at hx
      obtain ⟨d, hd, hx⟩ := hx
      split at hx
      · rename_i hb
        have hl := hi o ho' d (by simpa using hd) hb
        rcases List.mem_cons.1 hx with rfl | hx
        · exact hl
        · exact ancs_shut h n d.on (fun o' ho' d' hd' hb' => h d.on o' hl ho' d' hd' hb') x hx
      · simp at hx

theorem getD_tf {listed : Array Bool} {j : Nat} (h : listed.getD j true = false) : listed.getD j false = false := by
  cases q : listed[j]? with
  | none => simp [q] at h
  | some b => simp [q] at h ⊢; exact h

theorem getD_size {listed : Array Bool} {j : Nat} (h : listed.getD j true = true) (hj : j < listed.size) : listed.getD j false = true := by
  cases q : listed[j]? with
  | none => simp at q; omega
  | some b => simp [q] at h ⊢; exact h

/-- **In every order.** -/
theorem draw_ok {n : Nat} (hok : ∀ o ∈ ops.toList, okOper X n o = true) (hdep : ∀ i o, ops[i]? = some o → ∀ d ∈ o.after, Region.binds .any d = true → d.on < ops.size ∧ d.on ≠ i) {Q : Env → Heap → Prop} {Q' : Exit → Act → World → Prop} :
    ∀ (m : Nat) (l : List Nat) (listed : Array Bool) (g : Gs) (e : Env) (H : Heap) (a : Act), l.length = m → l.Pairwise (Ord X mu ops) → (∀ i ∈ l, i < ops.size) → listed.size = ops.size → (∀ i, i < ops.size → (listed.getD i true = false ↔ i ∈ l)) → Shut ops listed →
      Rel X n g e H a → Free base.b (fun j => j ∈ l) ops.size g H → WI X mu (freeOf mu ops.toList) ops.toList base Q l e H →
      (∀ g' e' H' a', Rel X n g' e' H' a' → Reg base.b g H g' H' → Q e' H' → Q' .normal a' g'.w) → wpAny X.P .any ops Q' m listed a g.w := by
  intro m
  induction m with
  | zero =>
    intro l listed g e H a hl hp hlt hsz hm hsh hr hf h hq
    have : l = [] := List.length_eq_zero_iff.1 hl
    subst this
    refine ⟨?_, hq g e H a hr (Reg.refl _ _ _) h⟩
    rw [List.eq_nil_iff_forall_not_mem]
    intro i hi
    obtain ⟨h0, o, ho, _⟩ := mem_ready.1 hi
    have := (hm i (Array.getElem?_eq_some_iff.1 ho).1).1 h0
    simp at this
  | succ m ih =>
    intro l listed g e H a hl hp hlt hsz hm hsh hr hf h hq
    have hnd : l.Nodup := hp.imp fun q => q.1.symm
    refine ⟨fun hnil => ?_, fun i hi => ?_⟩
    · exfalso
      cases l with
      | nil => simp at hl
      | cons j T =>
        have hj := hlt j (by simp)
        have hoj : ops[j]? = some ops[j] := Array.getElem?_eq_getElem hj
        have : j ∈ Region.ready .any ops listed := by
          rw [mem_ready]
          refine ⟨(hm j hj).2 (by simp), ops[j], hoj, fun d hd hb => ?_⟩
          obtain ⟨d1, d2⟩ := hdep j _ hoj d hd hb
          have hanc : d.on ∈ ancs ops.toList ops.toList.length j := by
            have hne : ops.toList.length = (ops.toList.length - 1) + 1 := by simp; omega
            rw [hne]
            unfold ancs
            have : ops.toList[j]? = some ops[j] := by simp
            rw [this]
            simp only [List.mem_flatMap]
            exact ⟨d, by simpa using hd, by rw [if_pos hb]; simp⟩
          have hnl : d.on ∉ j :: T := by
            intro hin
            rcases List.mem_cons.1 hin with q | q
            · exact d2 q
            · exact ((List.pairwise_cons.1 hp).1 _ q).2.1 hanc
          refine getD_size ?_ (by omega)
          cases q : listed.getD d.on true with
          | true => rfl
          | false => exact (hnl ((hm _ d1).1 q)).elim
        rw [hnil] at this
        simp at this
    · obtain ⟨hi0, o, ho, hdeps⟩ := mem_ready.1 hi
      have hin : i < ops.size := (Array.getElem?_eq_some_iff.1 ho).1
      have hil := (hm i hin).1 hi0
      obtain ⟨A, B, rfl⟩ := List.append_of_mem hil
      have hanc : ∀ x ∈ ancs ops.toList ops.toList.length i, listed.getD x false = true := ancs_shut hsh _ i fun o' ho' => by
        rw [ho] at ho'
        obtain rfl := Option.some.inj ho'
        exact hdeps
      have hsw : ∀ j ∈ A, ∃ oj, ops[j]? = some oj ∧ Swap X mu (freeOf mu ops.toList) ops i j o oj := by
        intro j hj
        have hj0 : listed.getD j true = false := (hm j (hlt j (by simp [hj]))).2 (by simp [hj])
        have hna : j ∉ ancs ops.toList ops.toList.length i := by
          intro q
          have := hanc j q
          rw [getD_tf hj0] at this
          simp at this
        obtain ⟨o1, o2, o3⟩ := (List.pairwise_append.1 hp).2.2 j hj i (by simp)
        obtain ⟨oi, oj, h1, h2, h3, h4⟩ := o3.resolve_left hna
        rw [ho] at h1
        obtain rfl := Option.some.inj h1
        exact ⟨oj, h2, swap_of ho h2 o1 hna o2 h3 h4⟩
      have hI : Inv base.b ops.size (A ++ i :: B) H := ⟨hf.next, fun k hk => ⟨hlt k hk, hf.bl k hk (hlt k hk)⟩⟩
      have h := moveP ho A e H hsw hnd hI h
      rw [WI_cons ho] at h
      have hsub : (A ++ B).Sublist (A ++ i :: B) := List.Sublist.append (List.Sublist.refl A) (List.sublist_cons_self i B)
      have hnot : i ∉ A ++ B := by
        intro q
        have := (List.perm_middle.nodup_iff).1 hnd
        exact (List.nodup_cons.1 this).1 q
      refine step_ok hr ho (hok o (by simpa using Array.mem_of_getElem? ho)) (hf.K i hil hin) (hf.bl i hil hin) (by have := hf.next; omega) h fun g' e' H' a' hr' hw hK => ?_
      refine ih (A ++ B) (listed.setIfInBounds i true) g' e' H' a' (by simp at hl ⊢; omega) (hp.sublist hsub) (fun k hk => hlt k (hsub.subset hk)) (by simpa using hsz) (fun k hk => ?_) (fun k o' hk ho' d hd hb => ?_) hr'
        (hf.step hw fun k hk => ⟨hsub.subset hk, fun q => hnot (q ▸ hk)⟩) hK fun g'' e'' H'' a'' hr'' hreg hQ => hq g'' e'' H'' a'' hr'' ?_ hQ
      · by_cases q : i = k
        · subst q
          simp [hsz, hin]
          simpa using hnot
        · rw [getD_set_ne true q, hm k hk]
          simp [Ne.symm q]
      · by_cases q : i = k
        · subst q
          rw [ho] at ho'
          obtain rfl := Option.some.inj ho'
          exact getD_set_true (hdeps d hd hb)
        · rw [getD_set_ne false q] at hk
          exact getD_set_true (hsh k o' hk ho' d hd hb)
      · exact (hw.reg (by omega) (by have := hf.next; omega)).trans hreg (Nat.le_refl _)

theorem pigeons : ∀ (n : Nat) (l : List Nat), l.Nodup → (∀ i ∈ l, i < n) → l.length ≤ n
  | 0, l, _, h => by
    cases l with
    | nil => simp
    | cons x T => have := h x (by simp); omega
  | n + 1, l, hn, h => by
    by_cases q : n ∈ l
    · have h1 := pigeons n (l.erase n) (hn.erase n) fun i hi => by
        have := (hn.mem_erase_iff).1 hi
        have := h i this.2
        omega
      rw [List.length_erase_of_mem q] at h1
      omega
    · have := pigeons n l hn fun i hi => by
        have h1 := h i hi
        have : i ≠ n := fun r => q (r ▸ hi)
        omega
      omega

/-- The world has drawn. -/
theorem Ext.drawn (g : Gs) (k : Nat) : Ext g { g with w := { g.w with drawn := k } } := ⟨fun _ h => h, fun _ _ => rfl, fun _ _ h => h, fun _ _ _ => rfl⟩

theorem Reg.drawn (m : Nat) (g : Gs) (H : Heap) (k : Nat) : Reg m g H { g with w := { g.w with drawn := k } } H :=
  ⟨⟨Ext.drawn g k, fun _ _ _ => rfl, Nat.le_refl _, fun id h => .inl ⟨id, h, rfl⟩, fun _ _ h => .inl h, ⟨rfl, rfl⟩⟩, ⟨fun _ _ h => h, fun _ _ h => h, Nat.le_refl _⟩⟩

theorem Rel.drawn {n : Nat} {g : Gs} {e : Env} {H : Heap} {a : Act} (h : Rel X n g e H a) (k : Nat) : Rel X n { g with w := { g.w with drawn := k } } e H a :=
  ⟨⟨h.sr.nx, h.sr.live, fun id b hb => (h.sr.blk id b hb).mono (Ext.drawn g k) rfl, h.sr.inj, h.sr.apart, h.sr.old, fun k' e' hk => (h.sr.glob k' e' hk).mono (Ext.drawn g k)⟩, h.env.mono (Ext.drawn g k), h.defers, h.size⟩

/-- **A region that draws its order.** -/
theorem region_draw (hm : X.P.follows .mixedOrders = true) {n : Nat} (hok : ∀ o ∈ ops.toList, okOper X n o = true) {g : Gs} {e : Env} {H : Heap} {a : Act} (hr : Rel X n g e H a) {l : List Nat} {U : Nat → Prop} (hU : ∀ id, U id → id < H.next) {Q : Env → Heap → Prop} {Q' : Exit → Act → World → Prop} {id : Nat}
    (hl : okDraw X mu ops.toList l = true) (h : WI X mu (freeOf mu ops.toList) ops.toList ⟨H.next, U, hU⟩ Q l e (H.bump (H.next + ops.size)))
    (hq : ∀ g' e' H' a', Rel X n g' e' H' a' → Reg H.next g H g' H' → Q e' H' → Q' .normal a' g'.w) : (Code.region id ops true).wp X.P Q' a g.w := by
  refine wp_region_any hm ?_
  unfold okDraw at hl
  simp only [Bool.and_eq_true] at hl
  obtain ⟨⟨⟨h1, h2⟩, h3⟩, h4⟩ := hl
  have hp := okOrder_pair l h1
  have hlen : l.length = ops.size := by simpa using h2
  have hlt : ∀ i ∈ l, i < ops.size := fun i hi => by simpa using List.all_eq_true.1 h3 i hi
  have hnd : l.Nodup := hp.imp fun q => q.1.symm
  have hall : ∀ i, i < ops.size → i ∈ l := by
    intro i hi
    by_cases q : i ∈ l
    · exact q
    · have := pigeons ops.size (i :: l) (List.nodup_cons.2 ⟨q, hnd⟩) fun k hk => by
        rcases List.mem_cons.1 hk with rfl | hk
        · exact hi
        · exact hlt k hk
      simp at this
      omega
  have hdep : ∀ i o, ops[i]? = some o → ∀ d ∈ o.after, Region.binds .any d = true → d.on < ops.size ∧ d.on ≠ i := by
    intro i o ho d hd hb
    have hi : i < ops.toList.length := by simpa using (Array.getElem?_eq_some_iff.1 ho).1
    have := List.all_eq_true.1 h4 i (List.mem_range.2 hi)
    have ho' : ops.toList[i]? = some o := by simpa using ho
    rw [ho'] at this
    have := List.all_eq_true.1 this d (by simpa using hd)
    rw [hb] at this
    simpa using this
  have := draw_ok (mu := mu) (base := ⟨H.next, U, hU⟩) hok hdep (Q := Q) (Q' := Q') ops.size l (Array.replicate ops.size false) { g with w := { g.w with drawn := g.w.drawn + 1 } } e (H.bump (H.next + ops.size)) a hlen hp hlt (by simp)
    (fun i hi => by simp [hi, hall i hi]) (fun k o hk => by
      exfalso
      by_cases q : k < ops.size
      · simp [q] at hk
      · simp [q] at hk) ?_ ?_ h ?_
  · exact this
  · have := hr.drawn (g.w.drawn + 1)
    exact ⟨this.sr.bump (by omega), this.env, this.defers, this.size⟩
  · exact Free.bump (hr.drawn (g.w.drawn + 1)).sr ops.size _
  · intro g' e' H' a' hr' hreg hQ
    refine hq g' e' H' a' hr' ?_ hQ
    have h0 := Reg.drawn H.next g H (g.w.drawn + 1)
    refine h0.trans ⟨(Stp.bump _ H _).trans hreg.stp, ⟨hreg.new.K, hreg.new.bl, Nat.le_trans (by simp) hreg.new.next⟩⟩ (Nat.le_refl _)

end Go.A3
