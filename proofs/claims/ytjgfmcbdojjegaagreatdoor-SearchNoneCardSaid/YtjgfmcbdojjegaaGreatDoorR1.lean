/-
  What the listed package-level variables hold when a call begins; and the state in which the abstract machine begins.
-/
import Derived.Test.YtjgfmcbdojjegaaGreatDoorL1
import Derived.LaidMore
import Derived.ProofKit
import Derived.OpenShut
import Derived.RowKit
import Derived.ChangeSame
import Derived.ChangeVars
import Derived.Stop.Joined
namespace Go.A3

mutual
/-- The cells of a datum of plain literals. -/
def litC : DataW Unit → List Value
  | .lit (.int k n) => [.int k n]
  | .lit (.bool b) => [.bool b]
  | .lit (.string l) => [.string ⟨l.toArray⟩]
  | .agg ds => litCL ds
  | _ => []
def litCL : List (DataW Unit) → List Value
  | [] => []
  | d :: ds => litC d ++ litCL ds
end

theorem litCL_eq : ∀ (l : List (DataW Unit)), litCL l = (l.map litC).flatten
  | [] => by unfold litCL; rfl
  | d :: l => by unfold litCL; rw [litCL_eq l]; rfl

/-- Parts one behind the other: where they end. -/
def ends : Nat → List (Nat × Nat) → Option Nat
  | off, [] => some off
  | off, p :: r => if p.1 = off then ends (off + p.2) r else none

theorem slices_eq {cs : List Value} : ∀ (l : List (Nat × Nat)) (ys : List (List Value)) (off : Nat), ends off l = some cs.length → ys.length = l.length →
    (∀ (i : Nat) (p : Nat × Nat), l[i]? = some p → ys[i]? = some ((cs.drop p.1).take p.2)) → ys.flatten = cs.drop off
  | [], ys, off, he, hl, _ => by
    simp only [ends, Option.some.injEq] at he
    simp at hl
    subst hl he
    simp
  | p :: r, ys, off, he, hl, h => by
    unfold ends at he
    split at he
    · rename_i hp
      cases ys with
      | nil => simp at hl
      | cons y ys =>
        have h0 := h 0 p rfl
        simp at h0
        rw [List.flatten_cons, slices_eq r ys (off + p.2) he (by simpa using hl) (fun i q hq => by simpa using h (i + 1) q (by simpa using hq)), h0, hp]
        rw [← List.drop_drop, List.take_append_drop]
    · simp at he

/-- A type of plain literals, its parts one behind the other. -/
def plainTy (P : Program) : Nat → TypeId → Bool
  | 0, _ => false
  | n + 1, t => match P.underlying t with
    | some .bool | some (.int _) | some .string => true
    | some (.struct fs) => (match ends 0 (fs.toList.map fun f => (f.offset, P.cellsOf f.type)) with | some k => k == P.cellsOf t | none => false) && fs.toList.all fun f => plainTy P n f.type
    | some (.array k e) => (match ends 0 ((List.range k).map fun i => (i * P.cellsOf e, P.cellsOf e)) with | some k => k == P.cellsOf t | none => false) && plainTy P n e
    | _ => false

theorem lit_of_trod {P : Program} {enc : TypeId × Value → Unit} {w : World} {base : Nat} {sp : Nat → Bool} {held : Bool} : ∀ (n : Nat) (t : TypeId), plainTy P n t = true → ∀ (fuel : Nat) (cs : List Value) (x : DataW Unit × List MemPlace),
    DataW.trod enc P w base sp held fuel t cs = some x → litC x.1 = cs
  | 0, t, h, _, _, _, _ => by simp [plainTy] at h
  | n + 1, t, h, fuel, cs, x, hx => by
    unfold plainTy at h
    split at h
    · rename_i ht
      obtain ⟨b, rfl, rfl⟩ := DataW.trod_bool ht hx
      simp [litC]
    · rename_i k ht
      obtain ⟨m, rfl, rfl, _⟩ := DataW.trod_int ht hx
      simp [litC]
    · rename_i ht
      obtain ⟨s, rfl, rfl, _⟩ := DataW.trod_string ht hx
      simp [litC]
    · rename_i fs ht
      obtain ⟨xs, m, _, rfl, hl, hlen, hf⟩ := DataW.trod_struct ht hx
      simp only [Bool.and_eq_true] at h
      split at h
      · rename_i k hk
        have hk' : k = P.cellsOf t := by simpa using h.1
        simp only [litC]
        rw [litCL_eq, List.map_map]
        have := slices_eq (cs := cs) (fs.toList.map fun f => (f.offset, P.cellsOf f.type)) (xs.map fun x => litC x.1) 0 (by rw [hk, hk', hl]) (by simp [hlen]) (fun i p hp => by
          simp only [List.getElem?_map, Option.map_eq_some_iff] at hp ⊢
          obtain ⟨f, hf1, rfl⟩ := hp
          have h1 := hf i f (by simpa using hf1)
          cases hxi : xs[i]? with
          | none =>
            have : i < fs.size := by simpa using (List.getElem?_eq_some_iff.1 hf1).1
            rw [List.getElem?_eq_none_iff] at hxi
            omega
          | some y =>
            rw [hxi] at h1
            exact ⟨y, rfl, lit_of_trod n f.type (List.all_eq_true.1 h.2 f (List.mem_of_getElem? hf1)) _ _ _ h1⟩)
        rw [List.drop_zero] at this
        exact this
      · simp at h
    · rename_i k e ht
      obtain ⟨xs, m, _, rfl, hl, hlen, hf⟩ := DataW.trod_array ht hx
      simp only [Bool.and_eq_true] at h
      split at h
      · rename_i k' hk
        have hk' : k' = P.cellsOf t := by simpa using h.1
        simp only [litC]
        rw [litCL_eq, List.map_map]
        have := slices_eq (cs := cs) ((List.range k).map fun i => (i * P.cellsOf e, P.cellsOf e)) (xs.map fun x => litC x.1) 0 (by rw [hk, hk', hl]) (by simp [hlen]) (fun i p hp => by
          simp only [List.getElem?_map, Option.map_eq_some_iff] at hp ⊢
          obtain ⟨j, hj, rfl⟩ := hp
          have hik : i < k := by
            have := (List.getElem?_eq_some_iff.1 hj).1
            simpa using this
          have hij : j = i := by
            rw [List.getElem?_range hik] at hj
            simpa using hj.symm
          subst hij
          have h1 := hf j hik
          cases hxi : xs[j]? with
          | none =>
            rw [List.getElem?_eq_none_iff] at hxi
            omega
          | some y =>
            rw [hxi] at h1
            exact ⟨y, rfl, lit_of_trod n e h.2 _ _ _ h1⟩)
        rw [List.drop_zero] at this
        exact this
      · simp at h
    · simp at h

theorem lr_lits {g : Gs} (l : List Value) (h : l.all okC = true) : LR g (l.map ofC) l := by
  have := LR.map (g := g) ofC (fun v : Value => v) l fun x hx => VR.ofC (List.all_eq_true.1 h x hx)
  simpa using this

theorem block_of_cell {w : World} {b o : Nat} {v : Value} (h : w.cell? ⟨b, o, none⟩ = some v) : b < w.heap.size := by
  by_cases q : b < w.heap.size
  · exact q
  · have : w.heap[b]? = none := by simp; omega
    simp [World.cell?, this] at h

/-- What was there is as it was. -/
theorem kept_of_stp {g g' : Gs} {H' : Heap} (h : Stp g Heap.nil g' H') (may : MemPlace → Prop) : g.w.keptBut g'.w may := by
  refine ⟨h.io.1, h.io.2, fun i hi => ?_⟩
  rw [h.frame i hi fun _ q => absurd rfl q]
  cases g.w.heap[i]? with
  | none => rfl
  | some o => cases o <;> first | rfl | exact ⟨rfl, rfl, rfl, fun _ _ => rfl⟩ | exact .inr ⟨rfl, rfl⟩

end Go.A3

namespace Go.Proofs.YtjgfmcbdojjegaaGreatDoor
open Go Go.A3

def laid2 : List (String × DataW Unit) := [("gnomon/expr.kinds", Rows.laid_gnomon_expr_kinds), ("gnomon/lex.kept", Rows.laid_gnomon_lex_kept)]

theorem gKinds : Tryz.prog.globalNamed "gnomon/expr.kinds" = some 0 := by kernel_rfl
theorem gKept : Tryz.prog.globalNamed "gnomon/lex.kept" = some 1 := by kernel_rfl
theorem tKinds : (Tryz.prog.globals[0]?).map (·.type) = some 473 := by kernel_rfl
theorem tKept : (Tryz.prog.globals[1]?).map (·.type) = some 484 := by kernel_rfl

/-- The cells that the two variables hold. -/
theorem of_laid {W : World} (h : laidMetH Tryz.prog laid2 W) : (∀ j : Nat, W.cell? ⟨0, j, none⟩ = (litC Rows.laid_gnomon_expr_kinds)[j]?) ∧ ∀ j : Nat, W.cell? ⟨1, j, none⟩ = (litC Rows.laid_gnomon_lex_kept)[j]? := by
  rw [MakeChecks.laidMetH_plain _ _ _ (by kernel_rfl)] at h
  obtain ⟨ps, ⟨g0, t0, cs0, f0, p0, q0, hg0, ht0, hv0, hd0, ⟨g1, t1, cs1, f1, p1, q1, hg1, ht1, hv1, hd1, _, _⟩, _⟩, _, _⟩ := h
  obtain rfl := Option.some.inj (gKinds.symm.trans hg0)
  obtain rfl := Option.some.inj (gKept.symm.trans hg1)
  obtain rfl := Option.some.inj (tKinds.symm.trans ht0)
  obtain rfl := Option.some.inj (tKept.symm.trans ht1)
  have e0 := lit_of_trod 3 473 (by kernel_rfl) _ _ _ hd0
  have e1 := lit_of_trod 3 484 (by kernel_rfl) _ _ _ hd1
  refine ⟨fun j => ?_, fun j => ?_⟩
  · rw [World.var?_cell hg0 hv0 j, e0]; simp
  · rw [World.var?_cell hg1 hv1 j, e1]; simp

/-- The state in which the abstract machine begins, where no argument leads into memory. -/
theorem start {W : World} (h : laidMetH Tryz.prog laid2 W) : ∃ g : Gs, g.w = W ∧ SR XP g Heap.nil := by
  obtain ⟨h0, h1⟩ := of_laid h
  have z0 : W.cell? ⟨0, 0, none⟩ = some (.int .i64 0) := by rw [h0]; kernel_rfl
  have z1 : ∃ v, W.cell? ⟨1, 0, none⟩ = some v := by
    rw [h1]
    exact ⟨((litC Rows.laid_gnomon_lex_kept)[0]?).getD undef, by kernel_rfl⟩
  obtain ⟨v1, z1⟩ := z1
  have key : ∀ (b : Nat) (l : List Value) (e : PV), (∀ j : Nat, W.cell? ⟨b, j, none⟩ = l[j]?) → (b = 0 ∨ b = 1) → l.all okC = true → e = .agg (l.map ofC) →
      VR ⟨fun _ => False, fun _ => ⟨0, 0, 0⟩, fun b _ => b = 0 ∨ b = 1, W⟩ (.ip e 0) (.pointer (some ⟨b, 0, none⟩)) := by
    intro b l e hc hb hl he
    subst he
    unfold VR
    refine ⟨b, 0, .agg l.toArray, rfl, ?_, fun j v hj => ⟨hb, ?_⟩⟩
    · unfold VR
      exact ⟨_, rfl, by simpa using lr_lits l hl⟩
    · have := hc j
      simp only [Value.cells] at hj
      rw [Nat.zero_add]
      exact this.trans (by simpa using hj)
  refine ⟨⟨fun _ => False, fun _ => ⟨0, 0, 0⟩, fun b _ => b = 0 ∨ b = 1, W⟩, rfl, ⟨fun _ q => q.elim, fun _ q => absurd rfl q, fun _ _ q => by simp [Heap.nil] at q, fun _ _ q => absurd rfl q, fun _ q => absurd rfl q, fun b o q => ?_, fun k e hk => ?_⟩⟩
  · rcases q with rfl | rfl
    · exact block_of_cell z0
    · exact block_of_cell z1
  · match k, hk with
    | 0, hk =>
      simp only [XP, glP, Option.some.injEq] at hk
      subst hk
      exact key 0 (litC Rows.laid_gnomon_expr_kinds) _ h0 (.inl rfl) (by kernel_rfl) (by kernel_rfl)
    | 1, hk =>
      simp only [XP, glP, Option.some.injEq] at hk
      subst hk
      exact key 1 (litC Rows.laid_gnomon_lex_kept) _ h1 (.inr rfl) (by kernel_rfl) (by kernel_rfl)
    | k + 2, hk => simp [XP, glP] at hk

end Go.Proofs.YtjgfmcbdojjegaaGreatDoor
