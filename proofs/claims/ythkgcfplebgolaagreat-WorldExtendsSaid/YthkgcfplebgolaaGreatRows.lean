/-
  NARROWER THAN 'FOR EVERY INPUT', by the rows' own cells (each row's printed sentence says how): UnifyWorks: loops · UnifyMatches: loops · UnifyEqual: loops · UnifySolution: loops · UnifyTypes: loops · UnifyAsks: loops · SearchHeights: loops · SearchRules: loops · SearchSolves: loops · SearchFirst: loops · WorldExtends: loops · WorldCuts: loops · WorldMatches: loops · WorldMore: loops.
  DERIVED. THE GIVEN ROWS OF THIS SEAT. 14 by the template 'for every input the law returns true; each argument reads behind the call as it read before'; 0 by the template 'total and deterministic' (their statements: YthkgcfplebgolaaGreatTotals.lean).
  GIVEN WITH THE SEED: the statements are not yours to turn. If you find one false, say at which input.
  Laid BY PROGRAM, IN A SANDBOX (cutbox-rows.mjs): the forced cells as the released guide's own fill.sh prints them over the translation 63c59ff629811244… (all of the seat's roots in one cut). By AI agents, Wed Nov 11 2026. No macro, syntax, notation, axiom, sorry.
-/
import Derived.Test.YthkgcfplebgolaaGreatChecked
import GoSem.Claim
import GoSem.ClaimJoined
import GoSem.ClaimMapViews
import Derived.JoinedTies
import Derived.KernelRfl
namespace Go.Proofs.YthkgcfplebgolaaGreat
/- THE CELL 'sum', in the pinned program and in every row, IS THE sha256 OF THE DUMP (.gsa) THAT YthkgcfplebgolaaGreatProg.lean LOADS. Nothing in Lean hashes anything: it is a label: what it is worth is what the hold of that sum in a sandbox is worth. -/
noncomputable def Tryz.pinned : Pinned := { name := "ythkgcfplebgolaagreat", sum := "63c59ff629811244110c22a42324f5494ba5b392274810f48815234e9153ffb8", checked := Tryz.checked }
namespace Rows
def none {H : Type} : Left H := { results := [], args := [] }

/-- 'trusslaw09.UnifyWorks': WHATEVER THE INPUT: true; the input reads as it did. -/
def unifyWorksSpec : ChangeSpec := { name := "unifyWorks", fn := fun _ => fun
  | [d] => { results := [.lit (.bool true)], args := [d] }
  | _ => none }
def unifyWorksRow : OpenClaim := { program := "ythkgcfplebgolaagreat", sum := "63c59ff629811244110c22a42324f5494ba5b392274810f48815234e9153ffb8", func := "truss/trusslaw09.UnifyWorks", spec := "unifyWorks", unfollowed := true, recurses := true, loops := true, apart := false }
def UnifyWorksSaid : Prop := unifyWorksRow.holds Tryz.pinned (OpenSpec.ofChange unifyWorksSpec)

/-- ITS FALSE NEIGHBOUR: 'it returns false'. Refute it at one input. -/
def unifyWorksWrong : ChangeSpec := { name := "unifyWorks", fn := fun _ => fun
  | [d] => { results := [.lit (.bool false)], args := [d] }
  | _ => none }
def UnifyWorksWrongFalsely : Prop := unifyWorksRow.holds Tryz.pinned (OpenSpec.ofChange unifyWorksWrong)

/-- 'trusslaw09.UnifyMatches': WHATEVER THE INPUT: true; the input reads as it did. -/
def unifyMatchesSpec : ChangeSpec := { name := "unifyMatches", fn := fun _ => fun
  | [d1, d2] => { results := [.lit (.bool true)], args := [d1, d2] }
  | _ => none }
def unifyMatchesRow : OpenClaim := { program := "ythkgcfplebgolaagreat", sum := "63c59ff629811244110c22a42324f5494ba5b392274810f48815234e9153ffb8", func := "truss/trusslaw09.UnifyMatches", spec := "unifyMatches", unfollowed := true, recurses := true, loops := true, apart := false }
def UnifyMatchesSaid : Prop := unifyMatchesRow.holds Tryz.pinned (OpenSpec.ofChange unifyMatchesSpec)

/-- ITS FALSE NEIGHBOUR: 'it returns false'. Refute it at one input. -/
def unifyMatchesWrong : ChangeSpec := { name := "unifyMatches", fn := fun _ => fun
  | [d1, d2] => { results := [.lit (.bool false)], args := [d1, d2] }
  | _ => none }
def UnifyMatchesWrongFalsely : Prop := unifyMatchesRow.holds Tryz.pinned (OpenSpec.ofChange unifyMatchesWrong)

/-- 'trusslaw09.UnifyEqual': WHATEVER THE INPUT: true; the input reads as it did. -/
def unifyEqualSpec : ChangeSpec := { name := "unifyEqual", fn := fun _ => fun
  | [d] => { results := [.lit (.bool true)], args := [d] }
  | _ => none }
def unifyEqualRow : OpenClaim := { program := "ythkgcfplebgolaagreat", sum := "63c59ff629811244110c22a42324f5494ba5b392274810f48815234e9153ffb8", func := "truss/trusslaw09.UnifyEqual", spec := "unifyEqual", unfollowed := true, recurses := true, loops := true, apart := false }
def UnifyEqualSaid : Prop := unifyEqualRow.holds Tryz.pinned (OpenSpec.ofChange unifyEqualSpec)

/-- ITS FALSE NEIGHBOUR: 'it returns false'. Refute it at one input. -/
def unifyEqualWrong : ChangeSpec := { name := "unifyEqual", fn := fun _ => fun
  | [d] => { results := [.lit (.bool false)], args := [d] }
  | _ => none }
def UnifyEqualWrongFalsely : Prop := unifyEqualRow.holds Tryz.pinned (OpenSpec.ofChange unifyEqualWrong)

/-- 'trusslaw09.UnifySolution': WHATEVER THE INPUT: true; the input reads as it did. -/
def unifySolutionSpec : ChangeSpec := { name := "unifySolution", fn := fun _ => fun
  | [d] => { results := [.lit (.bool true)], args := [d] }
  | _ => none }
def unifySolutionRow : OpenClaim := { program := "ythkgcfplebgolaagreat", sum := "63c59ff629811244110c22a42324f5494ba5b392274810f48815234e9153ffb8", func := "truss/trusslaw09.UnifySolution", spec := "unifySolution", unfollowed := true, recurses := true, loops := true, apart := false }
def UnifySolutionSaid : Prop := unifySolutionRow.holds Tryz.pinned (OpenSpec.ofChange unifySolutionSpec)

/-- ITS FALSE NEIGHBOUR: 'it returns false'. Refute it at one input. -/
def unifySolutionWrong : ChangeSpec := { name := "unifySolution", fn := fun _ => fun
  | [d] => { results := [.lit (.bool false)], args := [d] }
  | _ => none }
def UnifySolutionWrongFalsely : Prop := unifySolutionRow.holds Tryz.pinned (OpenSpec.ofChange unifySolutionWrong)

/-- 'trusslaw09.UnifyTypes': WHATEVER THE INPUT: true; the input reads as it did. -/
def unifyTypesSpec : ChangeSpec := { name := "unifyTypes", fn := fun _ => fun
  | [d1, d2] => { results := [.lit (.bool true)], args := [d1, d2] }
  | _ => none }
def unifyTypesRow : OpenClaim := { program := "ythkgcfplebgolaagreat", sum := "63c59ff629811244110c22a42324f5494ba5b392274810f48815234e9153ffb8", func := "truss/trusslaw09.UnifyTypes", spec := "unifyTypes", unfollowed := true, recurses := true, loops := true, apart := false }
def UnifyTypesSaid : Prop := unifyTypesRow.holds Tryz.pinned (OpenSpec.ofChange unifyTypesSpec)

/-- ITS FALSE NEIGHBOUR: 'it returns false'. Refute it at one input. -/
def unifyTypesWrong : ChangeSpec := { name := "unifyTypes", fn := fun _ => fun
  | [d1, d2] => { results := [.lit (.bool false)], args := [d1, d2] }
  | _ => none }
def UnifyTypesWrongFalsely : Prop := unifyTypesRow.holds Tryz.pinned (OpenSpec.ofChange unifyTypesWrong)

/-- 'trusslaw09.UnifyAsks': WHATEVER THE INPUT: true; the input reads as it did. -/
def unifyAsksSpec : ChangeSpec := { name := "unifyAsks", fn := fun _ => fun
  | [d1, d2, d3] => { results := [.lit (.bool true)], args := [d1, d2, d3] }
  | _ => none }
def unifyAsksRow : OpenClaim := { program := "ythkgcfplebgolaagreat", sum := "63c59ff629811244110c22a42324f5494ba5b392274810f48815234e9153ffb8", func := "truss/trusslaw09.UnifyAsks", spec := "unifyAsks", unfollowed := true, recurses := true, loops := true, apart := false }
def UnifyAsksSaid : Prop := unifyAsksRow.holds Tryz.pinned (OpenSpec.ofChange unifyAsksSpec)

/-- ITS FALSE NEIGHBOUR: 'it returns false'. Refute it at one input. -/
def unifyAsksWrong : ChangeSpec := { name := "unifyAsks", fn := fun _ => fun
  | [d1, d2, d3] => { results := [.lit (.bool false)], args := [d1, d2, d3] }
  | _ => none }
def UnifyAsksWrongFalsely : Prop := unifyAsksRow.holds Tryz.pinned (OpenSpec.ofChange unifyAsksWrong)

/-- 'trusslaw13.SearchHeights': WHATEVER THE INPUT: true; the input reads as it did. -/
def searchHeightsSpec : ChangeSpec := { name := "searchHeights", fn := fun _ => fun
  | [d1, d2, d3] => { results := [.lit (.bool true)], args := [d1, d2, d3] }
  | _ => none }
def searchHeightsRow : OpenClaim := { program := "ythkgcfplebgolaagreat", sum := "63c59ff629811244110c22a42324f5494ba5b392274810f48815234e9153ffb8", func := "truss/trusslaw13.SearchHeights", spec := "searchHeights", unfollowed := true, recurses := true, loops := true, apart := false }
def SearchHeightsSaid : Prop := searchHeightsRow.holds Tryz.pinned (OpenSpec.ofChange searchHeightsSpec)

/-- ITS FALSE NEIGHBOUR: 'it returns false'. Refute it at one input. -/
def searchHeightsWrong : ChangeSpec := { name := "searchHeights", fn := fun _ => fun
  | [d1, d2, d3] => { results := [.lit (.bool false)], args := [d1, d2, d3] }
  | _ => none }
def SearchHeightsWrongFalsely : Prop := searchHeightsRow.holds Tryz.pinned (OpenSpec.ofChange searchHeightsWrong)

/-- 'trusslaw13.SearchRules': WHATEVER THE INPUT: true; the input reads as it did. -/
def searchRulesSpec : ChangeSpec := { name := "searchRules", fn := fun _ => fun
  | [d1, d2, d3] => { results := [.lit (.bool true)], args := [d1, d2, d3] }
  | _ => none }
def searchRulesRow : OpenClaim := { program := "ythkgcfplebgolaagreat", sum := "63c59ff629811244110c22a42324f5494ba5b392274810f48815234e9153ffb8", func := "truss/trusslaw13.SearchRules", spec := "searchRules", unfollowed := true, recurses := true, loops := true, apart := false }
def SearchRulesSaid : Prop := searchRulesRow.holds Tryz.pinned (OpenSpec.ofChange searchRulesSpec)

/-- ITS FALSE NEIGHBOUR: 'it returns false'. Refute it at one input. -/
def searchRulesWrong : ChangeSpec := { name := "searchRules", fn := fun _ => fun
  | [d1, d2, d3] => { results := [.lit (.bool false)], args := [d1, d2, d3] }
  | _ => none }
def SearchRulesWrongFalsely : Prop := searchRulesRow.holds Tryz.pinned (OpenSpec.ofChange searchRulesWrong)

/-- 'trusslaw13.SearchSolves': WHATEVER THE INPUT: true; the input reads as it did. -/
def searchSolvesSpec : ChangeSpec := { name := "searchSolves", fn := fun _ => fun
  | [d1, d2] => { results := [.lit (.bool true)], args := [d1, d2] }
  | _ => none }
def searchSolvesRow : OpenClaim := { program := "ythkgcfplebgolaagreat", sum := "63c59ff629811244110c22a42324f5494ba5b392274810f48815234e9153ffb8", func := "truss/trusslaw13.SearchSolves", spec := "searchSolves", unfollowed := true, recurses := true, loops := true, apart := false }
def SearchSolvesSaid : Prop := searchSolvesRow.holds Tryz.pinned (OpenSpec.ofChange searchSolvesSpec)

/-- ITS FALSE NEIGHBOUR: 'it returns false'. Refute it at one input. -/
def searchSolvesWrong : ChangeSpec := { name := "searchSolves", fn := fun _ => fun
  | [d1, d2] => { results := [.lit (.bool false)], args := [d1, d2] }
  | _ => none }
def SearchSolvesWrongFalsely : Prop := searchSolvesRow.holds Tryz.pinned (OpenSpec.ofChange searchSolvesWrong)

/-- 'trusslaw13.SearchFirst': WHATEVER THE INPUT: true; the input reads as it did. -/
def searchFirstSpec : ChangeSpec := { name := "searchFirst", fn := fun _ => fun
  | [d] => { results := [.lit (.bool true)], args := [d] }
  | _ => none }
def searchFirstRow : OpenClaim := { program := "ythkgcfplebgolaagreat", sum := "63c59ff629811244110c22a42324f5494ba5b392274810f48815234e9153ffb8", func := "truss/trusslaw13.SearchFirst", spec := "searchFirst", unfollowed := true, recurses := true, loops := true, apart := false }
def SearchFirstSaid : Prop := searchFirstRow.holds Tryz.pinned (OpenSpec.ofChange searchFirstSpec)

/-- ITS FALSE NEIGHBOUR: 'it returns false'. Refute it at one input. -/
def searchFirstWrong : ChangeSpec := { name := "searchFirst", fn := fun _ => fun
  | [d] => { results := [.lit (.bool false)], args := [d] }
  | _ => none }
def SearchFirstWrongFalsely : Prop := searchFirstRow.holds Tryz.pinned (OpenSpec.ofChange searchFirstWrong)

/-- 'trusslaw16.WorldExtends': WHATEVER THE INPUT: true; the input reads as it did. -/
def worldExtendsSpec : ChangeSpec := { name := "worldExtends", fn := fun _ => fun
  | [d1, d2] => { results := [.lit (.bool true)], args := [d1, d2] }
  | _ => none }
def worldExtendsRow : OpenClaim := { program := "ythkgcfplebgolaagreat", sum := "63c59ff629811244110c22a42324f5494ba5b392274810f48815234e9153ffb8", func := "truss/trusslaw16.WorldExtends", spec := "worldExtends", unfollowed := true, recurses := true, loops := true, apart := false }
def WorldExtendsSaid : Prop := worldExtendsRow.holds Tryz.pinned (OpenSpec.ofChange worldExtendsSpec)

/-- ITS FALSE NEIGHBOUR: 'it returns false'. Refute it at one input. -/
def worldExtendsWrong : ChangeSpec := { name := "worldExtends", fn := fun _ => fun
  | [d1, d2] => { results := [.lit (.bool false)], args := [d1, d2] }
  | _ => none }
def WorldExtendsWrongFalsely : Prop := worldExtendsRow.holds Tryz.pinned (OpenSpec.ofChange worldExtendsWrong)

/-- 'trusslaw16.WorldCuts': WHATEVER THE INPUT: true; the input reads as it did. -/
def worldCutsSpec : ChangeSpec := { name := "worldCuts", fn := fun _ => fun
  | [d] => { results := [.lit (.bool true)], args := [d] }
  | _ => none }
def worldCutsRow : OpenClaim := { program := "ythkgcfplebgolaagreat", sum := "63c59ff629811244110c22a42324f5494ba5b392274810f48815234e9153ffb8", func := "truss/trusslaw16.WorldCuts", spec := "worldCuts", unfollowed := true, recurses := true, loops := true, apart := false }
def WorldCutsSaid : Prop := worldCutsRow.holds Tryz.pinned (OpenSpec.ofChange worldCutsSpec)

/-- ITS FALSE NEIGHBOUR: 'it returns false'. Refute it at one input. -/
def worldCutsWrong : ChangeSpec := { name := "worldCuts", fn := fun _ => fun
  | [d] => { results := [.lit (.bool false)], args := [d] }
  | _ => none }
def WorldCutsWrongFalsely : Prop := worldCutsRow.holds Tryz.pinned (OpenSpec.ofChange worldCutsWrong)

/-- 'trusslaw16.WorldMatches': WHATEVER THE INPUT: true; the input reads as it did. -/
def worldMatchesSpec : ChangeSpec := { name := "worldMatches", fn := fun _ => fun
  | [d1, d2, d3] => { results := [.lit (.bool true)], args := [d1, d2, d3] }
  | _ => none }
def worldMatchesRow : OpenClaim := { program := "ythkgcfplebgolaagreat", sum := "63c59ff629811244110c22a42324f5494ba5b392274810f48815234e9153ffb8", func := "truss/trusslaw16.WorldMatches", spec := "worldMatches", unfollowed := true, recurses := true, loops := true, apart := false }
def WorldMatchesSaid : Prop := worldMatchesRow.holds Tryz.pinned (OpenSpec.ofChange worldMatchesSpec)

/-- ITS FALSE NEIGHBOUR: 'it returns false'. Refute it at one input. -/
def worldMatchesWrong : ChangeSpec := { name := "worldMatches", fn := fun _ => fun
  | [d1, d2, d3] => { results := [.lit (.bool false)], args := [d1, d2, d3] }
  | _ => none }
def WorldMatchesWrongFalsely : Prop := worldMatchesRow.holds Tryz.pinned (OpenSpec.ofChange worldMatchesWrong)

/-- 'trusslaw16.WorldMore': WHATEVER THE INPUT: true; the input reads as it did. -/
def worldMoreSpec : ChangeSpec := { name := "worldMore", fn := fun _ => fun
  | [d1, d2] => { results := [.lit (.bool true)], args := [d1, d2] }
  | _ => none }
def worldMoreRow : OpenClaim := { program := "ythkgcfplebgolaagreat", sum := "63c59ff629811244110c22a42324f5494ba5b392274810f48815234e9153ffb8", func := "truss/trusslaw16.WorldMore", spec := "worldMore", unfollowed := true, recurses := true, loops := true, apart := false }
def WorldMoreSaid : Prop := worldMoreRow.holds Tryz.pinned (OpenSpec.ofChange worldMoreSpec)

/-- ITS FALSE NEIGHBOUR: 'it returns false'. Refute it at one input. -/
def worldMoreWrong : ChangeSpec := { name := "worldMore", fn := fun _ => fun
  | [d1, d2] => { results := [.lit (.bool false)], args := [d1, d2] }
  | _ => none }
def WorldMoreWrongFalsely : Prop := worldMoreRow.holds Tryz.pinned (OpenSpec.ofChange worldMoreWrong)

/- THE SECOND FORM. 'bulk': how many values and letters a reading holds, each counted each time it is reached (what is shared counts as often as it is met; a slice's spare places count too). A statement '..UptoSaid' is the law's where the arguments, and the package variables that the reading takes, are together of bulk at most 1048576: NARROWER than '..Said'. Prove '..Said' where nothing that the law and all that it calls make is longer than what came in: it says more and counts as full. Else prove '..UptoSaid'. A law counts once. -/
mutual
def uptoBulk {H : Type} : DataW H → Nat
  | .lit (.string bytes) => bytes.length + 1
  | .lit _ => 1
  | .nil => 1
  | .ptr d => uptoBulk d + 1
  | .slice elems spare => uptoBulkAll elems + uptoBulkAll spare + 1
  | .agg parts => uptoBulkAll parts + 1
  | .iface _ d => uptoBulk d + 1
  | .map entries => uptoBulkEntries entries + 1
  | .held _ => 1
def uptoBulkAll {H : Type} : List (DataW H) → Nat
  | [] => 0
  | d :: r => uptoBulk d + uptoBulkAll r
def uptoBulkEntries {H : Type} : List (Lit × DataW H) → Nat
  | [] => 0
  | x :: r => uptoBulkEntry x + uptoBulkEntries r
def uptoBulkEntry {H : Type} : Lit × DataW H → Nat
  | (.string bytes, d) => bytes.length + uptoBulk d + 1
  | (_, d) => uptoBulk d + 1
 end
def uptoSmall : (H : Type) → List (DataW H) → Bool := fun _ ds => decide (uptoBulkAll ds ≤ 1048576)
def OpenSpec.upto (s : _root_.Go.ChangeSpec) : _root_.Go.OpenSpec := { _root_.Go.OpenSpec.ofChange s with cond := some uptoSmall }

/-- 'trusslaw09.UnifyWorks', WHERE WHAT IT READS IS OF BULK AT MOST 1048576: true; the input reads as it did. -/
def unifyWorksUptoRow : OpenClaim := { program := "ythkgcfplebgolaagreat", sum := "63c59ff629811244110c22a42324f5494ba5b392274810f48815234e9153ffb8", func := "truss/trusslaw09.UnifyWorks", spec := "unifyWorks", unfollowed := true, recurses := true, loops := true, apart := false, narrowed := true }
def UnifyWorksUptoSaid : Prop := unifyWorksUptoRow.holds Tryz.pinned (OpenSpec.upto unifyWorksSpec)

/-- 'trusslaw09.UnifyMatches', WHERE WHAT IT READS IS OF BULK AT MOST 1048576: true; the input reads as it did. -/
def unifyMatchesUptoRow : OpenClaim := { program := "ythkgcfplebgolaagreat", sum := "63c59ff629811244110c22a42324f5494ba5b392274810f48815234e9153ffb8", func := "truss/trusslaw09.UnifyMatches", spec := "unifyMatches", unfollowed := true, recurses := true, loops := true, apart := false, narrowed := true }
def UnifyMatchesUptoSaid : Prop := unifyMatchesUptoRow.holds Tryz.pinned (OpenSpec.upto unifyMatchesSpec)

/-- 'trusslaw09.UnifyEqual', WHERE WHAT IT READS IS OF BULK AT MOST 1048576: true; the input reads as it did. -/
def unifyEqualUptoRow : OpenClaim := { program := "ythkgcfplebgolaagreat", sum := "63c59ff629811244110c22a42324f5494ba5b392274810f48815234e9153ffb8", func := "truss/trusslaw09.UnifyEqual", spec := "unifyEqual", unfollowed := true, recurses := true, loops := true, apart := false, narrowed := true }
def UnifyEqualUptoSaid : Prop := unifyEqualUptoRow.holds Tryz.pinned (OpenSpec.upto unifyEqualSpec)

/-- 'trusslaw09.UnifySolution', WHERE WHAT IT READS IS OF BULK AT MOST 1048576: true; the input reads as it did. -/
def unifySolutionUptoRow : OpenClaim := { program := "ythkgcfplebgolaagreat", sum := "63c59ff629811244110c22a42324f5494ba5b392274810f48815234e9153ffb8", func := "truss/trusslaw09.UnifySolution", spec := "unifySolution", unfollowed := true, recurses := true, loops := true, apart := false, narrowed := true }
def UnifySolutionUptoSaid : Prop := unifySolutionUptoRow.holds Tryz.pinned (OpenSpec.upto unifySolutionSpec)

/-- 'trusslaw09.UnifyTypes', WHERE WHAT IT READS IS OF BULK AT MOST 1048576: true; the input reads as it did. -/
def unifyTypesUptoRow : OpenClaim := { program := "ythkgcfplebgolaagreat", sum := "63c59ff629811244110c22a42324f5494ba5b392274810f48815234e9153ffb8", func := "truss/trusslaw09.UnifyTypes", spec := "unifyTypes", unfollowed := true, recurses := true, loops := true, apart := false, narrowed := true }
def UnifyTypesUptoSaid : Prop := unifyTypesUptoRow.holds Tryz.pinned (OpenSpec.upto unifyTypesSpec)

/-- 'trusslaw09.UnifyAsks', WHERE WHAT IT READS IS OF BULK AT MOST 1048576: true; the input reads as it did. -/
def unifyAsksUptoRow : OpenClaim := { program := "ythkgcfplebgolaagreat", sum := "63c59ff629811244110c22a42324f5494ba5b392274810f48815234e9153ffb8", func := "truss/trusslaw09.UnifyAsks", spec := "unifyAsks", unfollowed := true, recurses := true, loops := true, apart := false, narrowed := true }
def UnifyAsksUptoSaid : Prop := unifyAsksUptoRow.holds Tryz.pinned (OpenSpec.upto unifyAsksSpec)

/-- 'trusslaw13.SearchHeights', WHERE WHAT IT READS IS OF BULK AT MOST 1048576: true; the input reads as it did. -/
def searchHeightsUptoRow : OpenClaim := { program := "ythkgcfplebgolaagreat", sum := "63c59ff629811244110c22a42324f5494ba5b392274810f48815234e9153ffb8", func := "truss/trusslaw13.SearchHeights", spec := "searchHeights", unfollowed := true, recurses := true, loops := true, apart := false, narrowed := true }
def SearchHeightsUptoSaid : Prop := searchHeightsUptoRow.holds Tryz.pinned (OpenSpec.upto searchHeightsSpec)

/-- 'trusslaw13.SearchRules', WHERE WHAT IT READS IS OF BULK AT MOST 1048576: true; the input reads as it did. -/
def searchRulesUptoRow : OpenClaim := { program := "ythkgcfplebgolaagreat", sum := "63c59ff629811244110c22a42324f5494ba5b392274810f48815234e9153ffb8", func := "truss/trusslaw13.SearchRules", spec := "searchRules", unfollowed := true, recurses := true, loops := true, apart := false, narrowed := true }
def SearchRulesUptoSaid : Prop := searchRulesUptoRow.holds Tryz.pinned (OpenSpec.upto searchRulesSpec)

/-- 'trusslaw13.SearchSolves', WHERE WHAT IT READS IS OF BULK AT MOST 1048576: true; the input reads as it did. -/
def searchSolvesUptoRow : OpenClaim := { program := "ythkgcfplebgolaagreat", sum := "63c59ff629811244110c22a42324f5494ba5b392274810f48815234e9153ffb8", func := "truss/trusslaw13.SearchSolves", spec := "searchSolves", unfollowed := true, recurses := true, loops := true, apart := false, narrowed := true }
def SearchSolvesUptoSaid : Prop := searchSolvesUptoRow.holds Tryz.pinned (OpenSpec.upto searchSolvesSpec)

/-- 'trusslaw13.SearchFirst', WHERE WHAT IT READS IS OF BULK AT MOST 1048576: true; the input reads as it did. -/
def searchFirstUptoRow : OpenClaim := { program := "ythkgcfplebgolaagreat", sum := "63c59ff629811244110c22a42324f5494ba5b392274810f48815234e9153ffb8", func := "truss/trusslaw13.SearchFirst", spec := "searchFirst", unfollowed := true, recurses := true, loops := true, apart := false, narrowed := true }
def SearchFirstUptoSaid : Prop := searchFirstUptoRow.holds Tryz.pinned (OpenSpec.upto searchFirstSpec)

/-- 'trusslaw16.WorldExtends', WHERE WHAT IT READS IS OF BULK AT MOST 1048576: true; the input reads as it did. -/
def worldExtendsUptoRow : OpenClaim := { program := "ythkgcfplebgolaagreat", sum := "63c59ff629811244110c22a42324f5494ba5b392274810f48815234e9153ffb8", func := "truss/trusslaw16.WorldExtends", spec := "worldExtends", unfollowed := true, recurses := true, loops := true, apart := false, narrowed := true }
def WorldExtendsUptoSaid : Prop := worldExtendsUptoRow.holds Tryz.pinned (OpenSpec.upto worldExtendsSpec)

/-- 'trusslaw16.WorldCuts', WHERE WHAT IT READS IS OF BULK AT MOST 1048576: true; the input reads as it did. -/
def worldCutsUptoRow : OpenClaim := { program := "ythkgcfplebgolaagreat", sum := "63c59ff629811244110c22a42324f5494ba5b392274810f48815234e9153ffb8", func := "truss/trusslaw16.WorldCuts", spec := "worldCuts", unfollowed := true, recurses := true, loops := true, apart := false, narrowed := true }
def WorldCutsUptoSaid : Prop := worldCutsUptoRow.holds Tryz.pinned (OpenSpec.upto worldCutsSpec)

/-- 'trusslaw16.WorldMatches', WHERE WHAT IT READS IS OF BULK AT MOST 1048576: true; the input reads as it did. -/
def worldMatchesUptoRow : OpenClaim := { program := "ythkgcfplebgolaagreat", sum := "63c59ff629811244110c22a42324f5494ba5b392274810f48815234e9153ffb8", func := "truss/trusslaw16.WorldMatches", spec := "worldMatches", unfollowed := true, recurses := true, loops := true, apart := false, narrowed := true }
def WorldMatchesUptoSaid : Prop := worldMatchesUptoRow.holds Tryz.pinned (OpenSpec.upto worldMatchesSpec)

/-- 'trusslaw16.WorldMore', WHERE WHAT IT READS IS OF BULK AT MOST 1048576: true; the input reads as it did. -/
def worldMoreUptoRow : OpenClaim := { program := "ythkgcfplebgolaagreat", sum := "63c59ff629811244110c22a42324f5494ba5b392274810f48815234e9153ffb8", func := "truss/trusslaw16.WorldMore", spec := "worldMore", unfollowed := true, recurses := true, loops := true, apart := false, narrowed := true }
def WorldMoreUptoSaid : Prop := worldMoreUptoRow.holds Tryz.pinned (OpenSpec.upto worldMoreSpec)

end Rows
end Go.Proofs.YthkgcfplebgolaaGreat
