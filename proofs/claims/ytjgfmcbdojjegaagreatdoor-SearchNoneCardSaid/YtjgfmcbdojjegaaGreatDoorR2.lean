/-
  PROVED: 'gnomonlaw17.SearchNone' returns true for every input, and leaves what was handed in as it was; the two listed package-level variables are tied to the program's text.
  Conditions: those of the given statement alone.
-/
import Derived.Test.YtjgfmcbdojjegaaGreatDoorRows
import Derived.Test.YtjgfmcbdojjegaaGreatDoorCards
import Derived.Test.YtjgfmcbdojjegaaGreatDoorTie
import Derived.Test.YtjgfmcbdojjegaaGreatDoorR1
import Derived.Test.YtjgfmcbdojjegaaGreatDoorN2
import Derived.Test.YtjgfmcbdojjegaaGreatDoorFc
import Derived.Test.YtjgfmcbdojjegaaGreatDoorFm
namespace Go.Proofs.YtjgfmcbdojjegaaGreatDoor
open Go Go.A3 Go.ChangeShapes Go.WideShapes Go.ChangeAt Go.RowKit

theorem own : ownKnob Tryz.prog.godebug = none := by kernel_rfl

/-- The walk: the Go text returns true. -/
theorem none_walk (n : Int) (W : World) (h : laidMetH Tryz.prog laid2 W) :
    Calls Tryz.prog 6 #[.int .i64 n] W fun e W' => e = .returned (.bool true) ∧ ∀ may, W.keptBut W' may := by
  obtain ⟨g, rfl, hs⟩ := start h
  have ha : LR g [PV.int .i64 n] (#[Value.int .i64 n] : Array Value).toList := by
    show LR g [PV.int .i64 n] [Value.int .i64 n]
    unfold LR
    exact ⟨_, _, rfl, by unfold VR; rfl, by unfold LR; rfl⟩
  refine ((none_ok n).2 g hs _ ha).mono ?_
  rintro e w' ⟨r, H', g', v, rfl, rfl, _, hst, _, hv, rfl⟩
  unfold VR at hv
  subst hv
  exact ⟨rfl, fun may => kept_of_stp hst may⟩

/-- The door's own heap meets the condition: three closed facts. -/
theorem door_met (os : Os) (args : Array Value) : laidMetH Tryz.prog laid2 ((World.doorLaid Tryz.prog 33 os).forCall (fun _ _ => 0) ⟨#[], args, []⟩).memory :=
  laidMetH_of_parts3 (fuel := 8) (laidMet_of_run' 8 (by kernel_rfl) (by kernel_rfl)) (by kernel_rfl) (by kernel_rfl)

set_option maxRecDepth 100000 in
theorem none_lifted (os : Os) (started : os.Started) (H : Type) (enc : TypeId × Value → H) :
    ReturnsInHanded {} Tryz.checked os 6 .any (fun w args => (Rows.searchNoneSpec.pre enc Tryz.prog Tryz.f6 [] false w args ∧ laidMetH Tryz.prog laid2 w) ∧ sizedMet enc Tryz.prog Tryz.f6 (OpenSpec.ofChange Rows.searchNoneSpec) false w args)
      (Rows.searchNoneSpec.post enc Tryz.prog Tryz.f6 false true false false) := by
  refine returnsInHanded_of_change_and (C := Tryz.checked) (X := fun w _ => laidMetH Tryz.prog laid2 w) (fun _ _ _ hh h => h.of_heap hh) own started (by kernel_rfl) Tryz.func6
    (ChangeSpec.witness_shaped (enc := enc) (C := Tryz.checked) (os := os) (X := fun w _ => laidMetH Tryz.prog laid2 w) false (World.doorLaid Tryz.prog 33 os) #[.int .i64 0] 8 rfl (World.shaped_of_RefB (by kernel_rfl) (by kernel_rfl)) (by kernel_rfl) (by kernel_rfl) (by kernel_rfl) (door_met os _)) ?_
  intro W base args ds gs before hval0 hW _ _ hL _
  have hval : ∀ (j : Nat) t v, Tryz.f6.params[j]? = some t → args[j]? = some v → Value.okWide Tryz.prog W .any base t v := hval0
  have hW' := hW
  obtain ⟨p, q, hA0, hV, rfl, hfz, hnd⟩ := hW
  have hA : DataW.TrodAll enc Tryz.prog W 0 (fun _ => true) true Tryz.f6.params.toList args.toList ds p := hA0
  rw [Tryz.params6] at hA hval
  obtain ⟨v0, d0, rfl, rfl, h0⟩ := trodAll_one hA
  obtain ⟨rfl, rfl⟩ := trodVars_none hV
  obtain ⟨a0, rfl, rfl, rfl, w0⟩ := open_int Tryz.underlying3 (hval 0 3 v0 rfl rfl) h0
  clear hA0 hval0
  refine (none_walk a0 W hL).mono fun e W' ⟨he, hk⟩ => ?_
  subst he
  have e1 : Rows.searchNoneSpec.fn H ([.lit (.int .i64 a0)] ++ []) = { results := [.lit (.bool true)], args := [.lit (.int .i64 a0)] } := by simp [Rows.searchNoneSpec]
  refine ⟨_, rfl, _, _, _, [], [], [], hW', ?_, ?_, ?_, hk _, fun h => by cases h⟩
  · rw [e1]; exact trodAll_mk1 (shut_bool Tryz.underlying4 true)
  · rw [e1]; exact trodAll_mk1 (shut_int Tryz.underlying3 w0)
  · rw [e1]; rfl

theorem none_wrap : Tryz.f6.isWrapper Tryz.prog Rows.searchNoneRow.wrapper Rows.searchNoneRow.mainSum := by
  unfold Func.isWrapper
  first | (rw [if_pos (by decide +kernel)]; kernel_rfl) | (rw [if_neg (by decide +kernel)]; exact ⟨rfl, rfl⟩)

theorem none_inst : Tryz.f6.isInstance Tryz.prog Rows.searchNoneRow.origin Rows.searchNoneRow.targs := of_decide_eq_true (by kernel_rfl)

theorem searchNone_holds : Rows.SearchNoneSaid :=
  OpenClaim.holds_of_wide 6 Tryz.f6 rfl rfl rfl rfl rfl rfl rfl ⟨rfl, rfl, rfl, rfl, rfl⟩ rfl rfl rfl rfl rfl Fnone.named Tryz.func6 Fnone.closed none_inst none_wrap
    (fun os started H enc _ => none_lifted os started H enc)

theorem none_in (f : FuncId) (fn : Func) (hf : Tryz.prog.funcNamed "gnomon/gnomonlaw17.SearchNone" = some f) (hfn : Tryz.prog.funcs[f]? = some fn) :
    false = Tryz.prog.looks [] ∧ ∀ (j : Nat) t, fn.params[j]? = some t → Tryz.prog.wantsStandIn t = false := by
  obtain rfl : f = 6 := Option.some.inj (Fnone.named.symm.trans hf) |>.symm
  obtain rfl : fn = Tryz.f6 := (Option.some.inj (Tryz.func6.symm.trans hfn)).symm
  exact ⟨Fnone.looks, fun j t ht => by
    rw [Tryz.params6] at ht
    have h3 : t = 3 := by
      rcases j with _ | j
      · simpa using ht.symm
      · simp at ht
    subst h3
    exact (show Tryz.prog.wantsStandIn 3 = false by kernel_rfl)⟩

/-- ████ THE STATEMENT: the tied card. -/
theorem searchNone_card : Rows.SearchNoneCardSaid :=
  Claim7.holds_tied_plain_at .later [] [.data, .widerDeep] true (true, "da6c0a9273f47fa64cd44f13fbb97ba169915f8d2f673cc341c6fa44c9269d6f") false
    searchNone_holds (fun _ h => by cases h) Fnone.text (fun _ h => by cases h) searchNone_row_tie rfl ⟨rfl, rfl⟩ Fnone.main rfl none_in Fnone.goes
#print axioms searchNone_card
end Go.Proofs.YtjgfmcbdojjegaaGreatDoor
