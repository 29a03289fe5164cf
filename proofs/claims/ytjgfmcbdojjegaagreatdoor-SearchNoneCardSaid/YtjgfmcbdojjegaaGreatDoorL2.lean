/-
  The closed run 'live' of the seat's law package: it answers true.
-/
import Derived.Test.YtjgfmcbdojjegaaGreatDoorK4
namespace Go.Proofs.YtjgfmcbdojjegaaGreatDoor
open Go Go.A3

def isT : Option (PV × Sx) → Bool
  | some (.bool true, _) => true
  | _ => false

theorem isT_ok {q : Option (PV × Sx)} (h : isT q = true) : ∃ s, q = some (.bool true, s) := by
  unfold isT at h
  split at h
  · exact ⟨_, rfl⟩
  · simp at h

theorem live_run : isT (runF XP (hintM tab43) 30 10 [] ⟨0, .leaf, [], [], []⟩) = true := by kernel_rfl

/-- **live**: true, whatever else there is. -/
theorem live_ok (H : Heap) : CallsA XP 10 [] H fun r H' => r = .bool true ∧ H' = H := by
  obtain ⟨s, hs⟩ := isT_ok live_run
  have h := ((runF_ok XP_any XP_free (h := hintM tab43) ok43 30).1 _ _ _ _ _ hs).1
  refine (CallsA.lift XP_free rfl h (fun r H' q => by rw [q.1]; rfl) H).mono ?_
  rintro r H' ⟨⟨H0, q, _⟩, q2⟩
  exact ⟨q, q2⟩

end Go.Proofs.YtjgfmcbdojjegaaGreatDoor
