/-
  SearchNone's run: a nil search answers as it must, and live is true.
-/
import Derived.Test.YtjgfmcbdojjegaaGreatDoorL2
namespace Go.Proofs.YtjgfmcbdojjegaaGreatDoor
open Go Go.A3

def tabN : List Known := ⟨10, [], .bool true⟩ :: tab43
theorem okN : AllPure XP tabN := ⟨live_ok, ok43⟩

def noneHint : Hint := { liveHint with
  rank := fun f => bif Nat.beq f 6 then 25 else bif Nat.beq f 20 then 5 else (liveRanks >>> (8 * f)) % 256
  ord := fun f r => bif Nat.beq f 20 then [(0, true), (1, true), (2, true), (3, true), (6, true), (7, true), (8, true), (9, true), (4, true), (10, false), (5, false), (11, true), (12, true), (13, true), (14, true)] else ordOf liveOrders f r
  memo := tabN }

theorem none_run0 : isT (runF XP noneHint 30 6 [.int .i64 (.ofNat 0)] ⟨0, .leaf, [], [], []⟩) = true := by kernel_rfl
theorem none_run1 (m : Nat) : isT (runF XP noneHint 30 6 [.int .i64 (.ofNat (m + 1))] ⟨0, .leaf, [], [], []⟩) = true := by kernel_rfl
theorem none_run2 : isT (runF XP noneHint 30 6 [.int .i64 (.negSucc 0)] ⟨0, .leaf, [], [], []⟩) = true := by kernel_rfl
theorem none_run3 (m : Nat) : isT (runF XP noneHint 30 6 [.int .i64 (.negSucc (m + 1))] ⟨0, .leaf, [], [], []⟩) = true := by kernel_rfl

theorem none_run (n : Int) : isT (runF XP noneHint 30 6 [.int .i64 n] ⟨0, .leaf, [], [], []⟩) = true := by
  match n with
  | .ofNat 0 => exact none_run0
  | .ofNat (m + 1) => exact none_run1 m
  | .negSucc 0 => exact none_run2
  | .negSucc (m + 1) => exact none_run3 m

/-- **SearchNone**: true. -/
theorem none_ok (n : Int) : CallsA XP 6 [.int .i64 n] Heap.nil fun r _ => r = .bool true := by
  obtain ⟨s, hs⟩ := isT_ok (none_run n)
  exact (((runF_ok XP_any XP_free (h := noneHint) okN 30).1 _ _ _ _ _ hs).1).mono fun r H' q => q.1

end Go.Proofs.YtjgfmcbdojjegaaGreatDoor
