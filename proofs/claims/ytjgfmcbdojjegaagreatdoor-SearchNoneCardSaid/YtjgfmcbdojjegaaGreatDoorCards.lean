/-
  DERIVED. GIVEN WITH THE SEED: THE CARDS: each row of YtjgfmcbdojjegaaGreatDoorRows.lean that lists a variable, with what it lists TIED to the program's text (the seventh form; the later family's looks); each row that meets fmt, with fmt's text TOLD by the authors' own Lean function (tested against real Go, not proved from fmt's source: count such statements apart). THE CARD IS WHAT COUNTS. Prove the row's statement (the work); the ties are given (YtjgfmcbdojjegaaGreatDoorTie.lean); close each card by the builder's one call (the guide's Derived/Test/ToyasCard.lean, 'card_holds'). Laid BY PROGRAM, IN A SANDBOX (cutbox-door.mjs). By AI agents, Wed Nov 11 2026. No macro, syntax, notation, axiom, sorry.
-/
import Derived.Test.YtjgfmcbdojjegaaGreatDoorRows
import GoSem.ClaimSeven
namespace Go.Proofs.YtjgfmcbdojjegaaGreatDoor
namespace Rows

/-- THE TIED CARD OF 'gnomonlaw17.SearchStore'. -/
def searchStoreCard : Claim7 := { stood := { row := searchStoreRow, standIns := [], harness := (true, "da6c0a9273f47fa64cd44f13fbb97ba169915f8d2f673cc341c6fa44c9269d6f"), looks := false }, kinds := [], alts := [], laidByText := true, laidKinds := [.data, .widerDeep], laidTests := true, laidLooks := .later }
def SearchStoreCardSaid : Prop := Claim7.holds Tryz.pinned (.plain (OpenSpec.ofChange searchStoreSpec)) searchStoreCard

/-- THE TIED CARD OF 'gnomonlaw17.SearchOwn'. -/
def searchOwnCard : Claim7 := { stood := { row := searchOwnRow, standIns := [], harness := (true, "da6c0a9273f47fa64cd44f13fbb97ba169915f8d2f673cc341c6fa44c9269d6f"), looks := false }, kinds := [], alts := [], laidByText := true, laidKinds := [.data, .widerDeep], laidTests := true, laidLooks := .later }
def SearchOwnCardSaid : Prop := Claim7.holds Tryz.pinned (.plain (OpenSpec.ofChange searchOwnSpec)) searchOwnCard

/-- THE TIED CARD OF 'gnomonlaw17.SearchPlays'. -/
def searchPlaysCard : Claim7 := { stood := { row := searchPlaysRow, standIns := [], harness := (true, "da6c0a9273f47fa64cd44f13fbb97ba169915f8d2f673cc341c6fa44c9269d6f"), looks := false }, kinds := [], alts := [], laidByText := true, laidKinds := [.data, .widerDeep], laidTests := true, laidLooks := .later }
def SearchPlaysCardSaid : Prop := Claim7.holds Tryz.pinned (.plain (OpenSpec.ofChange searchPlaysSpec)) searchPlaysCard

/-- THE TIED CARD OF 'gnomonlaw17.SearchNone'. -/
def searchNoneCard : Claim7 := { stood := { row := searchNoneRow, standIns := [], harness := (true, "da6c0a9273f47fa64cd44f13fbb97ba169915f8d2f673cc341c6fa44c9269d6f"), looks := false }, kinds := [], alts := [], laidByText := true, laidKinds := [.data, .widerDeep], laidTests := true, laidLooks := .later }
def SearchNoneCardSaid : Prop := Claim7.holds Tryz.pinned (.plain (OpenSpec.ofChange searchNoneSpec)) searchNoneCard

/-- THE TIED CARD OF 'gnomonlaw17.SearchRuns'. -/
def searchRunsCard : Claim7 := { stood := { row := searchRunsRow, standIns := [], harness := (true, "da6c0a9273f47fa64cd44f13fbb97ba169915f8d2f673cc341c6fa44c9269d6f"), looks := false }, kinds := [], alts := [], laidByText := true, laidKinds := [.data, .widerDeep], laidTests := true, laidLooks := .later }
def SearchRunsCardSaid : Prop := Claim7.holds Tryz.pinned (.plain (OpenSpec.ofChange searchRunsSpec)) searchRunsCard

/-- THE SECOND FORM's CARD OF 'gnomonlaw17.SearchStore'. -/
def searchStoreUptoCard : Claim7 := { stood := { row := searchStoreUptoRow, standIns := [], harness := (true, "da6c0a9273f47fa64cd44f13fbb97ba169915f8d2f673cc341c6fa44c9269d6f"), looks := false }, kinds := [], alts := [], laidByText := true, laidKinds := [.data, .widerDeep], laidTests := true, laidLooks := .later }
def SearchStoreUptoCardSaid : Prop := Claim7.holds Tryz.pinned (.plain (OpenSpec.upto searchStoreSpec)) searchStoreUptoCard

/-- THE SECOND FORM's CARD OF 'gnomonlaw17.SearchOwn'. -/
def searchOwnUptoCard : Claim7 := { stood := { row := searchOwnUptoRow, standIns := [], harness := (true, "da6c0a9273f47fa64cd44f13fbb97ba169915f8d2f673cc341c6fa44c9269d6f"), looks := false }, kinds := [], alts := [], laidByText := true, laidKinds := [.data, .widerDeep], laidTests := true, laidLooks := .later }
def SearchOwnUptoCardSaid : Prop := Claim7.holds Tryz.pinned (.plain (OpenSpec.upto searchOwnSpec)) searchOwnUptoCard

/-- THE SECOND FORM's CARD OF 'gnomonlaw17.SearchPlays'. -/
def searchPlaysUptoCard : Claim7 := { stood := { row := searchPlaysUptoRow, standIns := [], harness := (true, "da6c0a9273f47fa64cd44f13fbb97ba169915f8d2f673cc341c6fa44c9269d6f"), looks := false }, kinds := [], alts := [], laidByText := true, laidKinds := [.data, .widerDeep], laidTests := true, laidLooks := .later }
def SearchPlaysUptoCardSaid : Prop := Claim7.holds Tryz.pinned (.plain (OpenSpec.upto searchPlaysSpec)) searchPlaysUptoCard

/-- THE SECOND FORM's CARD OF 'gnomonlaw17.SearchNone'. -/
def searchNoneUptoCard : Claim7 := { stood := { row := searchNoneUptoRow, standIns := [], harness := (true, "da6c0a9273f47fa64cd44f13fbb97ba169915f8d2f673cc341c6fa44c9269d6f"), looks := false }, kinds := [], alts := [], laidByText := true, laidKinds := [.data, .widerDeep], laidTests := true, laidLooks := .later }
def SearchNoneUptoCardSaid : Prop := Claim7.holds Tryz.pinned (.plain (OpenSpec.upto searchNoneSpec)) searchNoneUptoCard

/-- THE SECOND FORM's CARD OF 'gnomonlaw17.SearchRuns'. -/
def searchRunsUptoCard : Claim7 := { stood := { row := searchRunsUptoRow, standIns := [], harness := (true, "da6c0a9273f47fa64cd44f13fbb97ba169915f8d2f673cc341c6fa44c9269d6f"), looks := false }, kinds := [], alts := [], laidByText := true, laidKinds := [.data, .widerDeep], laidTests := true, laidLooks := .later }
def SearchRunsUptoCardSaid : Prop := Claim7.holds Tryz.pinned (.plain (OpenSpec.upto searchRunsSpec)) searchRunsUptoCard
end Rows
end Go.Proofs.YtjgfmcbdojjegaaGreatDoor
