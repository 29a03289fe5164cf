/-
  More closed facts of the row of 'SearchNone'.
-/
import Derived.Test.YtjgfmcbdojjegaaGreatDoorRows
import Derived.JoinedOf
import Derived.KernelRfl
import Derived.SevenTiedAt
namespace Go.Proofs.YtjgfmcbdojjegaaGreatDoor.Fnone
open Go
set_option maxRecDepth 100000
theorem named : Tryz.prog.funcNamed "gnomon/gnomonlaw17.SearchNone" = some 6 := by kernel_rfl
theorem main : Tryz.prog.mainIs = some (true, "da6c0a9273f47fa64cd44f13fbb97ba169915f8d2f673cc341c6fa44c9269d6f".toList) := by kernel_rfl
theorem looks : false = Tryz.prog.looks [] := by kernel_rfl
theorem goes : false = Rows.searchNoneRow.goesBy Tryz.prog := by kernel_rfl
theorem text : Rows.searchNoneRow.wfByText (OpenSpec.ofChange Rows.searchNoneSpec) = true := by kernel_rfl
end Go.Proofs.YtjgfmcbdojjegaaGreatDoor.Fnone
