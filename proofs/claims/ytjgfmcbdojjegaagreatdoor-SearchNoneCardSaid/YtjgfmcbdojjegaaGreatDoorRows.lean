/-
  NARROWER THAN 'FOR EVERY INPUT', by the rows' own cells (each row's printed sentence says how): SearchStore: laid · SearchOwn: laid · SearchPlays: laid · SearchNone: laid · SearchRuns: laid.
  DERIVED. THE GIVEN ROWS OF THIS SEAT. 5 by the template 'for every input the law returns true; each argument reads behind the call as it read before'; 0 by the template 'total and deterministic' (their statements: YtjgfmcbdojjegaaGreatDoorTotals.lean).
  GIVEN WITH THE SEED: the statements are not yours to turn. If you find one false, say at which input.
  Laid BY PROGRAM, IN A SANDBOX (cutbox-rows.mjs): the forced cells as the released guide's own fill.sh prints them over the translation 13d3c7512258ace1… (all of the seat's roots in one cut). By AI agents, Wed Nov 11 2026. No macro, syntax, notation, axiom, sorry.
-/
import Derived.Test.YtjgfmcbdojjegaaGreatDoorChecked
import GoSem.Claim
import GoSem.ClaimJoined
import GoSem.ClaimMapViews
import Derived.JoinedTies
import Derived.KernelRfl
namespace Go.Proofs.YtjgfmcbdojjegaaGreatDoor
/- THE CELL 'sum', in the pinned program and in every row, IS THE sha256 OF THE DUMP (.gsa) THAT YtjgfmcbdojjegaaGreatDoorProg.lean LOADS. Nothing in Lean hashes anything: it is a label: what it is worth is what the hold of that sum in a sandbox is worth. -/
noncomputable def Tryz.pinned : Pinned := { name := "ytjgfmcbdojjegaagreatdoor", sum := "13d3c7512258ace12c82137264f23c32d96e70af14448f7765ea753d90640968", checked := Tryz.checked }
namespace Rows
def none {H : Type} : Left H := { results := [], args := [] }

/- WHAT THE LISTED PACKAGE-LEVEL VARIABLES READ AS WHEN THE CALL BEGINS. Each datum BY PROGRAM (the guide's laid-datum.mjs) off the statement by which the dump's own 'gosem.cut.vars' lays the variable. In a bare row this is a premise. The card (YtjgfmcbdojjegaaGreatDoorCards.lean) ties it to the program's text. -/
def laid_gnomon_expr_kinds {H : Type} : DataW H := .agg [.agg [.lit (.int .i64 0), .lit (.bool false), .lit (.bool false), .lit (.string []), .lit (.int .i64 0)], .agg [.lit (.int .i64 0), .lit (.bool false), .lit (.bool false), .lit (.string []), .lit (.int .i64 9)], .agg [.lit (.int .i64 0), .lit (.bool false), .lit (.bool false), .lit (.string []), .lit (.int .i64 9)], .agg [.lit (.int .i64 1), .lit (.bool false), .lit (.bool false), .lit (.string [45]), .lit (.int .i64 6)], .agg [.lit (.int .i64 2), .lit (.bool false), .lit (.bool false), .lit (.string [43]), .lit (.int .i64 4)], .agg [.lit (.int .i64 2), .lit (.bool false), .lit (.bool false), .lit (.string [45]), .lit (.int .i64 4)], .agg [.lit (.int .i64 2), .lit (.bool false), .lit (.bool false), .lit (.string [42]), .lit (.int .i64 5)], .agg [.lit (.int .i64 0), .lit (.bool true), .lit (.bool false), .lit (.string [116, 114, 117, 101]), .lit (.int .i64 9)], .agg [.lit (.int .i64 2), .lit (.bool true), .lit (.bool false), .lit (.string [60]), .lit (.int .i64 3)], .agg [.lit (.int .i64 2), .lit (.bool true), .lit (.bool false), .lit (.string [60, 61]), .lit (.int .i64 3)], .agg [.lit (.int .i64 2), .lit (.bool true), .lit (.bool false), .lit (.string [61, 61]), .lit (.int .i64 3)], .agg [.lit (.int .i64 2), .lit (.bool true), .lit (.bool false), .lit (.string [33, 61]), .lit (.int .i64 3)], .agg [.lit (.int .i64 1), .lit (.bool true), .lit (.bool true), .lit (.string [33]), .lit (.int .i64 9)], .agg [.lit (.int .i64 2), .lit (.bool true), .lit (.bool true), .lit (.string [38, 38]), .lit (.int .i64 2)], .agg [.lit (.int .i64 2), .lit (.bool true), .lit (.bool true), .lit (.string [124, 124]), .lit (.int .i64 1)]]
def laid_gnomon_lex_kept {H : Type} : DataW H := .agg [.lit (.string [99, 108, 111, 99, 107]), .lit (.string [105, 110, 116]), .lit (.string [99, 104, 97, 110]), .lit (.string [97, 117, 116, 111]), .lit (.string [108, 111, 99]), .lit (.string [101, 100, 103, 101]), .lit (.string [105, 110]), .lit (.string [105, 110, 118]), .lit (.string [119, 104, 101, 110]), .lit (.string [115, 121, 110, 99]), .lit (.string [100, 111]), .lit (.string [117, 114, 103, 101, 110, 116]), .lit (.string [99, 111, 109, 109, 105, 116, 116, 101, 100]), .lit (.string [116, 114, 117, 101]), .lit (.string [114, 101, 97, 99, 104]), .lit (.string [110, 101, 118, 101, 114])]

/-- 'gnomonlaw17.SearchStore': WHATEVER THE INPUT: true; the input reads as it did. -/
def searchStoreSpec : ChangeSpec := { name := "searchStore", fn := fun _ => fun
  | [d1, d2] => { results := [.lit (.bool true)], args := [d1, d2] }
  | _ => none }
def searchStoreRow : OpenClaim := { program := "ytjgfmcbdojjegaagreatdoor", sum := "13d3c7512258ace12c82137264f23c32d96e70af14448f7765ea753d90640968", func := "gnomon/gnomonlaw17.SearchStore", spec := "searchStore", unfollowed := true, recurses := true, named := ["gnomon/lex.kept", "gnomon/expr.kinds"], apart := false, laid := [("gnomon/expr.kinds", laid_gnomon_expr_kinds), ("gnomon/lex.kept", laid_gnomon_lex_kept)] }
def SearchStoreSaid : Prop := searchStoreRow.holds Tryz.pinned (OpenSpec.ofChange searchStoreSpec)

/-- ITS FALSE NEIGHBOUR: 'it returns false'. Refute it at one input. -/
def searchStoreWrong : ChangeSpec := { name := "searchStore", fn := fun _ => fun
  | [d1, d2] => { results := [.lit (.bool false)], args := [d1, d2] }
  | _ => none }
def SearchStoreWrongFalsely : Prop := searchStoreRow.holds Tryz.pinned (OpenSpec.ofChange searchStoreWrong)

/-- 'gnomonlaw17.SearchOwn': WHATEVER THE INPUT: true; the input reads as it did. -/
def searchOwnSpec : ChangeSpec := { name := "searchOwn", fn := fun _ => fun
  | [d1, d2] => { results := [.lit (.bool true)], args := [d1, d2] }
  | _ => none }
def searchOwnRow : OpenClaim := { program := "ytjgfmcbdojjegaagreatdoor", sum := "13d3c7512258ace12c82137264f23c32d96e70af14448f7765ea753d90640968", func := "gnomon/gnomonlaw17.SearchOwn", spec := "searchOwn", unfollowed := true, recurses := true, named := ["gnomon/lex.kept", "gnomon/expr.kinds"], apart := false, laid := [("gnomon/expr.kinds", laid_gnomon_expr_kinds), ("gnomon/lex.kept", laid_gnomon_lex_kept)] }
def SearchOwnSaid : Prop := searchOwnRow.holds Tryz.pinned (OpenSpec.ofChange searchOwnSpec)

/-- ITS FALSE NEIGHBOUR: 'it returns false'. Refute it at one input. -/
def searchOwnWrong : ChangeSpec := { name := "searchOwn", fn := fun _ => fun
  | [d1, d2] => { results := [.lit (.bool false)], args := [d1, d2] }
  | _ => none }
def SearchOwnWrongFalsely : Prop := searchOwnRow.holds Tryz.pinned (OpenSpec.ofChange searchOwnWrong)

/-- 'gnomonlaw17.SearchPlays': WHATEVER THE INPUT: true; the input reads as it did. -/
def searchPlaysSpec : ChangeSpec := { name := "searchPlays", fn := fun _ => fun
  | [d1, d2] => { results := [.lit (.bool true)], args := [d1, d2] }
  | _ => none }
def searchPlaysRow : OpenClaim := { program := "ytjgfmcbdojjegaagreatdoor", sum := "13d3c7512258ace12c82137264f23c32d96e70af14448f7765ea753d90640968", func := "gnomon/gnomonlaw17.SearchPlays", spec := "searchPlays", unfollowed := true, recurses := true, named := ["gnomon/lex.kept", "gnomon/expr.kinds"], apart := false, laid := [("gnomon/expr.kinds", laid_gnomon_expr_kinds), ("gnomon/lex.kept", laid_gnomon_lex_kept)] }
def SearchPlaysSaid : Prop := searchPlaysRow.holds Tryz.pinned (OpenSpec.ofChange searchPlaysSpec)

/-- ITS FALSE NEIGHBOUR: 'it returns false'. Refute it at one input. -/
def searchPlaysWrong : ChangeSpec := { name := "searchPlays", fn := fun _ => fun
  | [d1, d2] => { results := [.lit (.bool false)], args := [d1, d2] }
  | _ => none }
def SearchPlaysWrongFalsely : Prop := searchPlaysRow.holds Tryz.pinned (OpenSpec.ofChange searchPlaysWrong)

/-- 'gnomonlaw17.SearchNone': WHATEVER THE INPUT: true; the input reads as it did. -/
def searchNoneSpec : ChangeSpec := { name := "searchNone", fn := fun _ => fun
  | [d] => { results := [.lit (.bool true)], args := [d] }
  | _ => none }
def searchNoneRow : OpenClaim := { program := "ytjgfmcbdojjegaagreatdoor", sum := "13d3c7512258ace12c82137264f23c32d96e70af14448f7765ea753d90640968", func := "gnomon/gnomonlaw17.SearchNone", spec := "searchNone", unfollowed := true, recurses := true, named := ["gnomon/lex.kept", "gnomon/expr.kinds"], apart := false, laid := [("gnomon/expr.kinds", laid_gnomon_expr_kinds), ("gnomon/lex.kept", laid_gnomon_lex_kept)] }
def SearchNoneSaid : Prop := searchNoneRow.holds Tryz.pinned (OpenSpec.ofChange searchNoneSpec)

/-- ITS FALSE NEIGHBOUR: 'it returns false'. Refute it at one input. -/
def searchNoneWrong : ChangeSpec := { name := "searchNone", fn := fun _ => fun
  | [d] => { results := [.lit (.bool false)], args := [d] }
  | _ => none }
def SearchNoneWrongFalsely : Prop := searchNoneRow.holds Tryz.pinned (OpenSpec.ofChange searchNoneWrong)

/-- 'gnomonlaw17.SearchRuns': WHATEVER THE INPUT: true; the input reads as it did. -/
def searchRunsSpec : ChangeSpec := { name := "searchRuns", fn := fun _ => fun
  | [d1, d2, d3] => { results := [.lit (.bool true)], args := [d1, d2, d3] }
  | _ => none }
def searchRunsRow : OpenClaim := { program := "ytjgfmcbdojjegaagreatdoor", sum := "13d3c7512258ace12c82137264f23c32d96e70af14448f7765ea753d90640968", func := "gnomon/gnomonlaw17.SearchRuns", spec := "searchRuns", inPlace := ["math/bits.Sub64", "math/bits.Add64"], unfollowed := true, recurses := true, named := ["gnomon/lex.kept", "gnomon/expr.kinds"], apart := false, laid := [("gnomon/expr.kinds", laid_gnomon_expr_kinds), ("gnomon/lex.kept", laid_gnomon_lex_kept)] }
def SearchRunsSaid : Prop := searchRunsRow.holds Tryz.pinned (OpenSpec.ofChange searchRunsSpec)

/-- ITS FALSE NEIGHBOUR: 'it returns false'. Refute it at one input. -/
def searchRunsWrong : ChangeSpec := { name := "searchRuns", fn := fun _ => fun
  | [d1, d2, d3] => { results := [.lit (.bool false)], args := [d1, d2, d3] }
  | _ => none }
def SearchRunsWrongFalsely : Prop := searchRunsRow.holds Tryz.pinned (OpenSpec.ofChange searchRunsWrong)

/- THE SECOND FORM. 'bulk': how many values and letters a reading holds, each counted each time it is reached (what is shared counts as often as it is met; a slice's spare places count too). A statement '..UptoSaid' is the law's where the arguments, and the package variables that the reading takes, are together of bulk at most 1048576: NARROWER than '..Said'. Prove '..Said' where nothing that the law and all that it calls make is longer than what came in: it says more and counts as full. Else prove '..UptoSaid'. A law counts once. -/
mutual
def uptoBulk {H : Type} : DataW H → Nat
  | .lit (.string bytes) => bytes.length + 1
  | .lit _ => 1
  | .nil => 1
  | .ptr d => uptoBulk d + 1
  | .slice elems spare => uptoBulkAll elems + uptoBulkAll spare + 1
  | .agg parts => uptoBulkAll parts + 1
  | .iface _ d => uptoBulk d + 1
  | .map entries => uptoBulkEntries entries + 1
  | .held _ => 1
def uptoBulkAll {H : Type} : List (DataW H) → Nat
  | [] => 0
  | d :: r => uptoBulk d + uptoBulkAll r
def uptoBulkEntries {H : Type} : List (Lit × DataW H) → Nat
  | [] => 0
  | x :: r => uptoBulkEntry x + uptoBulkEntries r
def uptoBulkEntry {H : Type} : Lit × DataW H → Nat
  | (.string bytes, d) => bytes.length + uptoBulk d + 1
  | (_, d) => uptoBulk d + 1
 end
def uptoSmall : (H : Type) → List (DataW H) → Bool := fun _ ds => decide (uptoBulkAll ds ≤ 1048576)
def OpenSpec.upto (s : _root_.Go.ChangeSpec) : _root_.Go.OpenSpec := { _root_.Go.OpenSpec.ofChange s with cond := some uptoSmall }

/-- 'gnomonlaw17.SearchStore', WHERE WHAT IT READS IS OF BULK AT MOST 1048576: true; the input reads as it did. -/
def searchStoreUptoRow : OpenClaim := { program := "ytjgfmcbdojjegaagreatdoor", sum := "13d3c7512258ace12c82137264f23c32d96e70af14448f7765ea753d90640968", func := "gnomon/gnomonlaw17.SearchStore", spec := "searchStore", unfollowed := true, recurses := true, named := ["gnomon/lex.kept", "gnomon/expr.kinds"], apart := false, laid := [("gnomon/expr.kinds", laid_gnomon_expr_kinds), ("gnomon/lex.kept", laid_gnomon_lex_kept)], narrowed := true }
def SearchStoreUptoSaid : Prop := searchStoreUptoRow.holds Tryz.pinned (OpenSpec.upto searchStoreSpec)

/-- 'gnomonlaw17.SearchOwn', WHERE WHAT IT READS IS OF BULK AT MOST 1048576: true; the input reads as it did. -/
def searchOwnUptoRow : OpenClaim := { program := "ytjgfmcbdojjegaagreatdoor", sum := "13d3c7512258ace12c82137264f23c32d96e70af14448f7765ea753d90640968", func := "gnomon/gnomonlaw17.SearchOwn", spec := "searchOwn", unfollowed := true, recurses := true, named := ["gnomon/lex.kept", "gnomon/expr.kinds"], apart := false, laid := [("gnomon/expr.kinds", laid_gnomon_expr_kinds), ("gnomon/lex.kept", laid_gnomon_lex_kept)], narrowed := true }
def SearchOwnUptoSaid : Prop := searchOwnUptoRow.holds Tryz.pinned (OpenSpec.upto searchOwnSpec)

/-- 'gnomonlaw17.SearchPlays', WHERE WHAT IT READS IS OF BULK AT MOST 1048576: true; the input reads as it did. -/
def searchPlaysUptoRow : OpenClaim := { program := "ytjgfmcbdojjegaagreatdoor", sum := "13d3c7512258ace12c82137264f23c32d96e70af14448f7765ea753d90640968", func := "gnomon/gnomonlaw17.SearchPlays", spec := "searchPlays", unfollowed := true, recurses := true, named := ["gnomon/lex.kept", "gnomon/expr.kinds"], apart := false, laid := [("gnomon/expr.kinds", laid_gnomon_expr_kinds), ("gnomon/lex.kept", laid_gnomon_lex_kept)], narrowed := true }
def SearchPlaysUptoSaid : Prop := searchPlaysUptoRow.holds Tryz.pinned (OpenSpec.upto searchPlaysSpec)

/-- 'gnomonlaw17.SearchNone', WHERE WHAT IT READS IS OF BULK AT MOST 1048576: true; the input reads as it did. -/
def searchNoneUptoRow : OpenClaim := { program := "ytjgfmcbdojjegaagreatdoor", sum := "13d3c7512258ace12c82137264f23c32d96e70af14448f7765ea753d90640968", func := "gnomon/gnomonlaw17.SearchNone", spec := "searchNone", unfollowed := true, recurses := true, named := ["gnomon/lex.kept", "gnomon/expr.kinds"], apart := false, laid := [("gnomon/expr.kinds", laid_gnomon_expr_kinds), ("gnomon/lex.kept", laid_gnomon_lex_kept)], narrowed := true }
def SearchNoneUptoSaid : Prop := searchNoneUptoRow.holds Tryz.pinned (OpenSpec.upto searchNoneSpec)

/-- 'gnomonlaw17.SearchRuns', WHERE WHAT IT READS IS OF BULK AT MOST 1048576: true; the input reads as it did. -/
def searchRunsUptoRow : OpenClaim := { program := "ytjgfmcbdojjegaagreatdoor", sum := "13d3c7512258ace12c82137264f23c32d96e70af14448f7765ea753d90640968", func := "gnomon/gnomonlaw17.SearchRuns", spec := "searchRuns", inPlace := ["math/bits.Sub64", "math/bits.Add64"], unfollowed := true, recurses := true, named := ["gnomon/lex.kept", "gnomon/expr.kinds"], apart := false, laid := [("gnomon/expr.kinds", laid_gnomon_expr_kinds), ("gnomon/lex.kept", laid_gnomon_lex_kept)], narrowed := true }
def SearchRunsUptoSaid : Prop := searchRunsUptoRow.holds Tryz.pinned (OpenSpec.upto searchRunsSpec)

end Rows
end Go.Proofs.YtjgfmcbdojjegaaGreatDoor
