/-
  The abstract machine is sound: new memory, stores, append.
-/
import Derived.Test.YtjgfmcbdojjegaaGreatDoorM10
import Derived.Laws.MakeOwn
namespace Go.A3

/-- What an operation comes to that may make something at the id b. -/
def Mk (X : Cx) (g : Gs) (H : Heap) (b : Nat) (v : PV) (H' : Heap) (s : Sem Value) : Prop :=
  ∃ g' x, s.run X.P g.w = .ok x g'.w ∧ SR X g' H' ∧ Stp g H g' H' ∧ VR g' v x ∧ (∀ id, g'.K id → g.K id ∨ id = b) ∧ (∀ j, j ≠ b → H.bl j = none → H'.bl j = none) ∧ H'.next = H.next

theorem Gives.mk {X : Cx} {g : Gs} {H : Heap} {b : Nat} {v : PV} {s : Sem Value} (hs : SR X g H) (h : Gives X.P s g.w g v) : Mk X g H b v H s := by
  obtain ⟨x, h1, h2⟩ := h
  exact ⟨g, x, h1, hs, Stp.refl g H, h2, fun _ h => .inl h, fun _ _ h => h, rfl⟩

theorem RowR.single {g : Gs} {e : PV} {x : Value} (h : VR g e x) : RowR g [e] x.cells.size x.cells := by
  intro i d hd
  cases i with
  | zero => simp at hd; subst hd; exact ⟨x, h, rfl, fun j v hj => by simpa using hj⟩
  | succ i => simp at hd

theorem set_keep {H : Heap} {b : Nat} {k : Option Blk} : ∀ j, j ≠ b → (H.set b k).bl j = H.bl j ∨ (H.set b k).bl j = none := fun j hj => .inl (by simp [hj])

theorem newRow_ok {X : Cx} {g : Gs} {H : Heap} (hs : SR X g H) {b : Nat} (hK : ¬ g.K b) (hbn : b < H.next) {e : PV} {x : Value} (hx : VR g e x) (hz : 0 < e.cells.length) (t : TypeId) :
    Mk X g H b (.ptr b 0 0) (H.set b (some (.row [e] e.cells.length))) (do pure (.pointer (some (← newVar t x)))) := by
  have hsz := hx.size
  obtain ⟨h1, h2, h3⟩ := hs.push b [e] e.cells.length x.cells t g.w rfl ⟨rfl, rfl⟩ (H.set b (some (.row [e] e.cells.length))) (by simp) set_keep hbn (Nat.le_refl _) hK hz (hsz ▸ RowR.single hx)
  refine ⟨_, .pointer (some ⟨g.w.heap.size, 0, none⟩), ?_, h1, h2, ?_, h3, fun j hj h0 => by simp [hj, h0], rfl⟩
  · simp [newVar, newRow, Gs.put]
  · unfold VR
    exact ⟨.inr rfl, by simp [Gs.put]⟩

theorem alloc_ok {X : Cx} {g : Gs} {H : Heap} (hs : SR X g H) {b t : Nat} (hK : ¬ g.K b) (hbn : b < H.next) (h1 : (X.ty t).zero.cells.length = (X.ty t).size) (h2 : 0 < (X.ty t).size) :
    Mk X g H b (.ptr b 0 0) (H.set b (some (.row [(X.ty t).zero] (X.ty t).size))) (Instr.alloc t true (.tuple #[])) := by
  obtain ⟨i, d, z, hi, hd, hzz, hok, et⟩ := tyOf_known (P := X.P) (t := t) (.inr h2)
  have hzero : VR g (X.ty t).zero z := by
    have : (X.ty t).zero = ofZ z := by unfold Cx.ty; rw [et]
    rw [this]
    exact VR.ofZ hok
  have := newRow_ok hs hK hbn hzero (by omega) t
  rw [h1] at this
  obtain ⟨g', x, q1, q2⟩ := this
  refine ⟨g', x, ?_, q2⟩
  rw [← q1]
  simp [Instr.alloc, zeroValue, typeInfo, hi, hzz]

theorem box_ok {X : Cx} {g : Gs} {H : Heap} (hs : SR X g H) {b : Nat} (hK : ¬ g.K b) (hbn : b < H.next) {e : PV} {x : Value} (hx : VR g e x) (hz : 0 < e.cells.length) (t : TypeId) :
    Mk X g H b (.ptr b 0 0) (H.set b (some (.row [e] e.cells.length))) (Instr.box t x) := newRow_ok hs hK hbn hx hz t

/-! ### Rows made anew -/

theorem zeros_get {z : Array Value} {n k : Nat} (h : k < n) (hz : 0 < z.size) : (madeCells z n)[k]? = z[k % z.size]? := by
  have hlt : k % z.size < z.size := Nat.mod_lt _ hz
  simp [madeCells, h, hlt]

theorem RowR.zeros {g : Gs} {e : PV} {x : Value} (h : VR g e x) (l n : Nat) (hz : 0 < x.cells.size) (hl : l * x.cells.size ≤ n) : RowR g (List.replicate l e) x.cells.size (madeCells x.cells n) := by
  intro i d hd
  rw [List.getElem?_replicate] at hd
  split at hd
  · rename_i hil
    simp at hd; subst hd
    refine ⟨x, h, rfl, fun j v hj => ?_⟩
    have hjs : j < x.cells.size := (Array.getElem?_eq_some_iff.1 hj).1
    have : i * x.cells.size + j < n := by
      have : (i + 1) * x.cells.size ≤ l * x.cells.size := Nat.mul_le_mul_right _ hil
      rw [Nat.succ_mul] at this
      omega
    rw [zeros_get this hz, Nat.mul_comm, Nat.mul_add_mod, Nat.mod_eq_of_lt hjs]
    exact hj
  · simp at hd

theorem makeSlice_ok {X : Cx} {g : Gs} {H : Heap} (hs : SR X g H) {b t u : Nat} (hK : ¬ g.K b) (hbn : b < H.next) (hk : (X.ty t).ki = .slice u) {l m : Int} {kl km : IntKind}
    (h0 : 0 ≤ l) (hlm : l ≤ m) (hb : m * (X.ty u).bytes ≤ 2 ^ 48) (hm : m < 2 ^ 62) (h2 : 0 < (X.ty u).size) (h1 : (X.ty u).zero.cells.length = (X.ty u).size) :
    Mk X g H b (.sm b 0 l.toNat) (H.set b (some (.row (List.replicate l.toNat (X.ty u).zero) (X.ty u).size))) (Instr.makeSlice t (.int kl l) (.int km m)) := by
  obtain ⟨i, d, z, hi, hd, hzz, hok, et⟩ := tyOf_known (P := X.P) (t := u) (.inr h2)
  have hty : X.ty u = ⟨kiOf d, i.size, i.bytes, aggOf d, ofZ z⟩ := et
  have hzero : VR g (ofZ z) z := VR.ofZ hok
  rw [hty] at hb h1 h2 ⊢
  simp only [] at hb h1 h2 ⊢
  have hsz : z.cells.size = i.size := by rw [hzero.size, h1]
  have hle : l.toNat * i.size ≤ m.toNat * i.size := Nat.mul_le_mul_right _ (by omega)
  have hrow : RowR g (List.replicate l.toNat (ofZ z)) i.size (madeCells z.cells (m.toNat * i.size)) := by
    have := RowR.zeros hzero l.toNat (m.toNat * i.size) (by omega) (by rw [hsz]; exact hle)
    rwa [hsz] at this
  obtain ⟨q1, q2, q3⟩ := hs.push b _ i.size _ u g.w rfl ⟨rfl, rfl⟩ (H.set b (some (.row (List.replicate l.toNat (ofZ z)) i.size))) (by simp) set_keep hbn (Nat.le_refl _) hK h2 hrow
  refine ⟨_, _, run_make g.w t u i z (tyOf_slice hk) hi hzz kl km l m h0 hlm (by rw [Int.mul_comm]; omega) (by omega), q1, q2, ?_, q3, fun j hj h0 => by simp [hj, h0], rfl⟩
  unfold VR
  refine ⟨.inr rfl, m.toNat, by omega, ?_, by simp [Gs.put]⟩
  simp [Gs.put, size_madeCells]

theorem makeMap_ok {X : Cx} {g : Gs} {H : Heap} (hs : SR X g H) {b t : Nat} (hK : ¬ g.K b) (hbn : b < H.next) : Mk X g H b (.mp b) (H.set b (some (.map []))) (Instr.makeMap t none) := by
  obtain ⟨q1, q2, q3⟩ := hs.put b ⟨g.w.heap.size, 0, 0⟩ { g.w with heap := g.w.heap.push (.map #[] 0) } (H.set b (some (.map []))) (.map []) (by simp) set_keep hbn (Nat.le_refl _) (.inl hK)
    (fun k hk _ => by simp [Array.getElem?_push, Nat.ne_of_lt hk]) (by simp) ⟨rfl, rfl⟩ (.inl (Nat.le_refl _)) (fun x => ⟨#[], 0, by show (g.w.heap.push (.map #[] 0))[g.w.heap.size]? = _; simp, by simp [MapR, LR]⟩)
  refine ⟨_, .map (some g.w.heap.size), by simp [Instr.makeMap, Gs.put], q1, q2, ?_, q3, fun j hj h0 => by simp [hj, h0], rfl⟩
  unfold VR
  exact ⟨.inr rfl, by simp [Gs.put]⟩

/-- A row that never changes. -/
theorem SR.fresh {X : Cx} {g : Gs} {H : Heap} (hs : SR X g H) (cs : Array Value) (ty : TypeId) :
    let g' : Gs := ⟨g.K, g.σ, fun c o => g.S c o ∨ c = g.w.heap.size, { g.w with heap := g.w.heap.push (.cells cs ty) }⟩
    SR X g' H ∧ Stp g H g' H := by
  intro g'
  have hcell : ∀ c p, c < g.w.heap.size → g'.w.cell? ⟨c, p, none⟩ = g.w.cell? ⟨c, p, none⟩ := fun c p hc => cell?_of_heap (by simp [g', Array.getElem?_push, Nat.ne_of_lt hc])
  have x : Ext g g' := ⟨fun _ h => h, fun _ _ => rfl, fun _ _ h => .inl h, fun c p hS => hcell c p (hs.old c p hS)⟩
  refine ⟨⟨hs.nx, hs.live, fun id k hk => (hs.blk id k hk).mono x ?_, hs.inj, fun id hid o hS => ?_, fun c o hS => ?_, fun k e hk => (hs.glob k e hk).mono x⟩, ⟨x, fun c hc _ => ?_, by simp [g'], fun id hid => .inl ⟨id, hid, rfl⟩, fun c o hS => ?_, ⟨rfl, rfl⟩⟩⟩
  · have := (hs.blk id k hk).lt
    simp [g', Array.getElem?_push, Nat.ne_of_lt this]
  · rcases hS with hS | hS
    · exact hs.apart id hid o hS
    · have := hs.lt hid
      have hS : (g.σ id).b = g.w.heap.size := hS
      omega
  · rcases hS with hS | hS
    · have := hs.old c o hS
      simp [g']; omega
    · simp [g', hS]
  · simp [g', Array.getElem?_push, Nat.ne_of_lt hc]
  · rcases hS with hS | hS
    · exact .inl hS
    · exact .inr (.inr (by omega))

theorem RowR.lie {g g' : Gs} (x : Ext g g') {es : List PV} {sz : Nat} {cs : Array Value} {c : Nat} (h : RowR g es sz cs) (hS : ∀ o, g'.S c o) (hc : ∃ ty fr, g'.w.heap[c]? = some (.cells cs ty fr)) : ESR g' es c 0 sz := by
  refine ESR.mk fun j e hj => ?_
  obtain ⟨y, h1, h2, h3⟩ := h j e hj
  obtain ⟨ty, fr, hc⟩ := hc
  refine ⟨y, h1.mono x, h2, fun i v hi => ⟨hS _, ?_⟩⟩
  have := h3 i v (by simpa using hi)
  simp only [World.cell?, hc, Nat.zero_add]
  simpa using this

theorem RowR.set {g : Gs} {es : List PV} {sz : Nat} {cs : Array Value} (h : RowR g es sz cs) (hl : es.length * sz ≤ cs.size) {i : Nat} {e : PV} {x : Value} (hi : i < es.length) (hx : VR g e x) (hs : x.cells.size = sz) :
    RowR g (es.set i e) sz (setA cs (i * sz) x.cells.toList) := by
  have hin : ∀ k, k < es.length → k * sz + sz ≤ cs.size := by
    intro k hk
    have : (k + 1) * sz ≤ es.length * sz := Nat.mul_le_mul_right _ hk
    rw [Nat.succ_mul] at this
    omega
  intro k d hd
  rw [List.getElem?_set] at hd
  have hisz := hin i hi
  split at hd
  · rename_i e'
    subst e'
    simp at hd; subst hd
    refine ⟨x, hx, hs, fun j v hj => ?_⟩
    have hjs : j < x.cells.size := (Array.getElem?_eq_some_iff.1 hj).1
    rw [setA_get _ _ _ _ (by simp; omega), if_pos (by simp; omega), Nat.add_sub_cancel_left]
    simpa using hj
  · rename_i hne
    obtain ⟨y, h1, h2, h3⟩ := h k d hd
    refine ⟨y, h1, h2, fun j v hj => ?_⟩
    have hjs : j < sz := by rw [← h2]; exact (Array.getElem?_eq_some_iff.1 hj).1
    rw [setA_get _ _ _ _ (by simp; omega), if_neg ?_]
    · exact h3 j v hj
    · simp only [Array.length_toList, hs]
      rintro ⟨a1, a2⟩
      rcases Nat.lt_or_gt_of_ne hne with hlt | hgt
      · have : (i + 1) * sz ≤ k * sz := Nat.mul_le_mul_right _ hlt
        rw [Nat.succ_mul] at this
        omega
      · have : (k + 1) * sz ≤ i * sz := Nat.mul_le_mul_right _ hgt
        rw [Nat.succ_mul] at this
        omega

theorem fillS_ok {g : Gs} {sz : Nat} : ∀ {ps : List (Nat × PV)} {es out : List PV} {vs : List (Nat × Value)} {cs : Array Value}, fillS sz es ps = some out → RowR g es sz cs → cs.size = es.length * sz → PR g ps vs →
    ∃ cs', Instr.fill (fun i => some (i * sz, sz)) cs vs = some cs' ∧ RowR g out sz cs' ∧ out.length = es.length
  | [], es, out, vs, cs, h, hr, _, hv => by
    rw [hv.nil]
    simp [fillS] at h; subst h
    exact ⟨cs, rfl, hr, rfl⟩
  | (i, p) :: ps, es, out, vs, cs, h, hr, hc, hv => by
    obtain ⟨v, r, rfl, h1, h2⟩ := hv.cons
    unfold fillS at h
    split at h
    · rename_i hb
      have hsz := h1.size
      have hle : (i + 1) * sz ≤ es.length * sz := Nat.mul_le_mul_right _ hb.1
      rw [Nat.succ_mul] at hle
      obtain ⟨cs', q1, q2, q3⟩ := fillS_ok h (hr.set (by omega) hb.1 h1 (by omega)) (by rw [setA_size, hc]; simp) h2
      refine ⟨cs', ?_, q2, by simpa using q3⟩
      unfold Instr.fill
      have c1 : ¬ (v.cells.size ≠ sz || i * sz + v.cells.size > cs.size) = true := by simp; omega
      simp only []
      rw [if_neg c1, foldl_setA']
      exact q1
    · simp at h

theorem lit_ok {X : Cx} {g : Gs} {H : Heap} (hs : SR X g H) {b t n : Nat} (hK : ¬ g.K b) (hbn : b < H.next) {ps : List (Nat × PV)} {vs : Array (Nat × Value)} (hv : PR g ps vs.toList) {es : List PV} {sz : Nat} (h : X.lit t n ps = some (es, sz)) :
    Mk X g H b (.sm b 0 n) (H.set b (some (.row es sz))) (Instr.buildSlice t n vs) ∧ Mk X g H b (.sl es true) H (Instr.buildSlice t n vs) := by
  unfold Cx.lit at h
  split at h
  · rename_i u hk
    split at h
    · rename_i hb
      obtain ⟨rfl, hp, hb2⟩ := hb
      simp at h
      obtain ⟨rfl, rfl⟩ := h
      have hps : ps = [] := by simpa using hp
      subst hps
      have hvs : vs = #[] := by
        apply Array.ext'
        exact hv.nil
      subst hvs
      have hsz := run_size (P := X.P) (t := u) hb2 g.w
      have hrun : (Instr.buildSlice t 0 #[]).run X.P g.w = .ok (.slice (some ⟨g.w.heap.size, 0, none⟩) 0 0) { g.w with heap := g.w.heap.push (.cells #[] u) } := by
        simp [Instr.buildSlice, run_underlying (tyOf_slice hk), hsz, Instr.fill, newRow, Array.range_zero']
      constructor
      · obtain ⟨r1, r2, r3⟩ := hs.push b [] (X.ty u).size #[] u g.w rfl ⟨rfl, rfl⟩ (H.set b (some (.row [] (X.ty u).size))) (by simp) set_keep hbn (Nat.le_refl _) hK hb2 (fun i e he => by simp at he)
        refine ⟨_, _, hrun, r1, r2, ?_, r3, fun j hj h0 => by simp [hj, h0], rfl⟩
        unfold VR
        exact ⟨.inr rfl, 0, Nat.le_refl _, by simp [Gs.put], by simp [Gs.put]⟩
      · obtain ⟨r1, r2⟩ := hs.fresh #[] u
        refine ⟨_, _, hrun, r1, r2, ?_, fun _ h => .inl h, fun _ _ h => h, rfl⟩
        unfold VR
        exact ⟨g.w.heap.size, 0, 0, 0, rfl, Nat.le_refl _, fun _ => rfl, by unfold ESR; trivial⟩
    split at h
    · rename_i hb
      obtain ⟨hn, hb1, hb2, hb3⟩ := hb
      obtain ⟨i, d, z, hi, hd, hzz, hok, et⟩ := tyOf_known (P := X.P) (t := u) (.inr hb2)
      have hty : X.ty u = ⟨kiOf d, i.size, i.bytes, aggOf d, ofZ z⟩ := et
      have hzero : VR g (ofZ z) z := VR.ofZ hok
      rw [hty] at hb1 hb2 hb3 h
      simp only [] at hb1 hb2 hb3 h
      have hzs : z.cells.size = i.size := by rw [hzero.size, hb3]
      cases hf : fillS i.size (List.replicate n (ofZ z)) ps with
      | none => rw [hf] at h; simp at h
      | some out =>
        rw [hf] at h
        simp at h
        obtain ⟨rfl, rfl⟩ := h
        have hrow : RowR g (List.replicate n (ofZ z)) i.size (madeCells z.cells (n * i.size)) := by
          have := RowR.zeros hzero n (n * i.size) (by omega) (by rw [hzs]; exact Nat.le_refl _)
          rwa [hzs] at this
        obtain ⟨cs', q1, q2, q3⟩ := fillS_ok hf hrow (by simp [size_madeCells]) hv
        have hcs : cs'.size = n * i.size := by
          have : ∀ (l : List (Nat × Value)) (a a' : Array Value) (pl : Nat → Option (Nat × Nat)), Instr.fill pl a l = some a' → a'.size = a.size := by
            intro l
            induction l with
            | nil => intro a a' pl h; simp [Instr.fill] at h; rw [h]
            | cons x l ih =>
              intro a a' pl h
              unfold Instr.fill at h
              split at h
              · simp at h
              · split at h
                · simp at h
                · rw [ih _ _ _ h, foldl_setA', setA_size]
          rw [this _ _ _ _ q1, size_madeCells]
        have hrun := run_buildSlice g.w t u n vs cs' i z (tyOf_slice hk) hi hzz (by omega) (by have := Nat.mul_pos hn hb2; omega) q1
        have hlen : out.length = n := by simpa using q3
        constructor
        · obtain ⟨r1, r2, r3⟩ := hs.push b out i.size cs' u g.w rfl ⟨rfl, rfl⟩ (H.set b (some (.row out i.size))) (by simp) set_keep hbn (Nat.le_refl _) hK hb2 q2
          refine ⟨_, _, hrun, r1, r2, ?_, r3, fun j hj h0 => by simp [hj, h0], rfl⟩
          unfold VR
          exact ⟨.inr rfl, n, Nat.le_refl _, by simp [Gs.put, hcs], by simp [Gs.put]⟩
        · obtain ⟨r1, r2⟩ := hs.fresh cs' u
          refine ⟨_, _, hrun, r1, r2, ?_, fun _ h => .inl h, fun _ _ h => h, rfl⟩
          unfold VR
          refine ⟨g.w.heap.size, 0, n, i.size, by rw [hlen], by omega, fun _ => hlen.symm, ?_⟩
          exact q2.lie r2.ext (fun o => .inr rfl) ⟨u, _, by simp; rfl⟩
    · simp at h
  · simp at h

end Go.A3
