/-
  NARROWER THAN 'FOR EVERY INPUT', by the rows' own cells (each row's printed sentence says how): ModeReads: loops · ModeAny: loops · ModeChecks: loops · ModeFree: loops · ModeStrict: loops.
  DERIVED. THE GIVEN ROWS OF THIS SEAT. 5 by the template 'for every input the law returns true; each argument reads behind the call as it read before'; 0 by the template 'total and deterministic' (their statements: YtogicnodmgdnbaaGreatTotals.lean).
  GIVEN WITH THE SEED: the statements are not yours to turn. If you find one false, say at which input.
  Laid BY PROGRAM, IN A SANDBOX (cutbox-rows.mjs): the forced cells as the released guide's own fill.sh prints them over the translation 2e8c60c61f164e88… (all of the seat's roots in one cut). By AI agents, Wed Nov 11 2026. No macro, syntax, notation, axiom, sorry.
-/
import Derived.Test.YtogicnodmgdnbaaGreatChecked
import GoSem.Claim
import GoSem.ClaimJoined
import GoSem.ClaimMapViews
import Derived.JoinedTies
import Derived.KernelRfl
namespace Go.Proofs.YtogicnodmgdnbaaGreat
/- THE CELL 'sum', in the pinned program and in every row, IS THE sha256 OF THE DUMP (.gsa) THAT YtogicnodmgdnbaaGreatProg.lean LOADS. Nothing in Lean hashes anything: it is a label: what it is worth is what the hold of that sum in a sandbox is worth. -/
noncomputable def Tryz.pinned : Pinned := { name := "ytogicnodmgdnbaagreat", sum := "2e8c60c61f164e88b391ce07a7be20d03e7a9bcd0424ec7c74dd73384b999cfb", checked := Tryz.checked }
namespace Rows
def none {H : Type} : Left H := { results := [], args := [] }

/-- 'trusslaw14.ModeReads': WHATEVER THE INPUT: true; the input reads as it did. -/
def modeReadsSpec : ChangeSpec := { name := "modeReads", fn := fun _ => fun
  | [d1, d2] => { results := [.lit (.bool true)], args := [d1, d2] }
  | _ => none }
def modeReadsRow : OpenClaim := { program := "ytogicnodmgdnbaagreat", sum := "2e8c60c61f164e88b391ce07a7be20d03e7a9bcd0424ec7c74dd73384b999cfb", func := "truss/trusslaw14.ModeReads", spec := "modeReads", unfollowed := true, recurses := true, loops := true, apart := false }
def ModeReadsSaid : Prop := modeReadsRow.holds Tryz.pinned (OpenSpec.ofChange modeReadsSpec)

/-- ITS FALSE NEIGHBOUR: 'it returns false'. Refute it at one input. -/
def modeReadsWrong : ChangeSpec := { name := "modeReads", fn := fun _ => fun
  | [d1, d2] => { results := [.lit (.bool false)], args := [d1, d2] }
  | _ => none }
def ModeReadsWrongFalsely : Prop := modeReadsRow.holds Tryz.pinned (OpenSpec.ofChange modeReadsWrong)

/-- 'trusslaw14.ModeAny': WHATEVER THE INPUT: true; the input reads as it did. -/
def modeAnySpec : ChangeSpec := { name := "modeAny", fn := fun _ => fun
  | [d1, d2] => { results := [.lit (.bool true)], args := [d1, d2] }
  | _ => none }
def modeAnyRow : OpenClaim := { program := "ytogicnodmgdnbaagreat", sum := "2e8c60c61f164e88b391ce07a7be20d03e7a9bcd0424ec7c74dd73384b999cfb", func := "truss/trusslaw14.ModeAny", spec := "modeAny", unfollowed := true, recurses := true, loops := true, apart := false }
def ModeAnySaid : Prop := modeAnyRow.holds Tryz.pinned (OpenSpec.ofChange modeAnySpec)

/-- ITS FALSE NEIGHBOUR: 'it returns false'. Refute it at one input. -/
def modeAnyWrong : ChangeSpec := { name := "modeAny", fn := fun _ => fun
  | [d1, d2] => { results := [.lit (.bool false)], args := [d1, d2] }
  | _ => none }
def ModeAnyWrongFalsely : Prop := modeAnyRow.holds Tryz.pinned (OpenSpec.ofChange modeAnyWrong)

/-- 'trusslaw14.ModeChecks': WHATEVER THE INPUT: true; the input reads as it did. -/
def modeChecksSpec : ChangeSpec := { name := "modeChecks", fn := fun _ => fun
  | [d1, d2, d3] => { results := [.lit (.bool true)], args := [d1, d2, d3] }
  | _ => none }
def modeChecksRow : OpenClaim := { program := "ytogicnodmgdnbaagreat", sum := "2e8c60c61f164e88b391ce07a7be20d03e7a9bcd0424ec7c74dd73384b999cfb", func := "truss/trusslaw14.ModeChecks", spec := "modeChecks", unfollowed := true, recurses := true, loops := true, apart := false }
def ModeChecksSaid : Prop := modeChecksRow.holds Tryz.pinned (OpenSpec.ofChange modeChecksSpec)

/-- ITS FALSE NEIGHBOUR: 'it returns false'. Refute it at one input. -/
def modeChecksWrong : ChangeSpec := { name := "modeChecks", fn := fun _ => fun
  | [d1, d2, d3] => { results := [.lit (.bool false)], args := [d1, d2, d3] }
  | _ => none }
def ModeChecksWrongFalsely : Prop := modeChecksRow.holds Tryz.pinned (OpenSpec.ofChange modeChecksWrong)

/-- 'trusslaw14.ModeFree': WHATEVER THE INPUT: true; the input reads as it did. -/
def modeFreeSpec : ChangeSpec := { name := "modeFree", fn := fun _ => fun
  | [d1, d2] => { results := [.lit (.bool true)], args := [d1, d2] }
  | _ => none }
def modeFreeRow : OpenClaim := { program := "ytogicnodmgdnbaagreat", sum := "2e8c60c61f164e88b391ce07a7be20d03e7a9bcd0424ec7c74dd73384b999cfb", func := "truss/trusslaw14.ModeFree", spec := "modeFree", unfollowed := true, recurses := true, loops := true, apart := false }
def ModeFreeSaid : Prop := modeFreeRow.holds Tryz.pinned (OpenSpec.ofChange modeFreeSpec)

/-- ITS FALSE NEIGHBOUR: 'it returns false'. Refute it at one input. -/
def modeFreeWrong : ChangeSpec := { name := "modeFree", fn := fun _ => fun
  | [d1, d2] => { results := [.lit (.bool false)], args := [d1, d2] }
  | _ => none }
def ModeFreeWrongFalsely : Prop := modeFreeRow.holds Tryz.pinned (OpenSpec.ofChange modeFreeWrong)

/-- 'trusslaw14.ModeStrict': WHATEVER THE INPUT: true; the input reads as it did. -/
def modeStrictSpec : ChangeSpec := { name := "modeStrict", fn := fun _ => fun
  | [d1, d2, d3] => { results := [.lit (.bool true)], args := [d1, d2, d3] }
  | _ => none }
def modeStrictRow : OpenClaim := { program := "ytogicnodmgdnbaagreat", sum := "2e8c60c61f164e88b391ce07a7be20d03e7a9bcd0424ec7c74dd73384b999cfb", func := "truss/trusslaw14.ModeStrict", spec := "modeStrict", unfollowed := true, recurses := true, loops := true, apart := false }
def ModeStrictSaid : Prop := modeStrictRow.holds Tryz.pinned (OpenSpec.ofChange modeStrictSpec)

/-- ITS FALSE NEIGHBOUR: 'it returns false'. Refute it at one input. -/
def modeStrictWrong : ChangeSpec := { name := "modeStrict", fn := fun _ => fun
  | [d1, d2, d3] => { results := [.lit (.bool false)], args := [d1, d2, d3] }
  | _ => none }
def ModeStrictWrongFalsely : Prop := modeStrictRow.holds Tryz.pinned (OpenSpec.ofChange modeStrictWrong)

/- THE SECOND FORM. 'bulk': how many values and letters a reading holds, each counted each time it is reached (what is shared counts as often as it is met; a slice's spare places count too). A statement '..UptoSaid' is the law's where the arguments, and the package variables that the reading takes, are together of bulk at most 1048576: NARROWER than '..Said'. Prove '..Said' where nothing that the law and all that it calls make is longer than what came in: it says more and counts as full. Else prove '..UptoSaid'. A law counts once. -/
mutual
def uptoBulk {H : Type} : DataW H → Nat
  | .lit (.string bytes) => bytes.length + 1
  | .lit _ => 1
  | .nil => 1
  | .ptr d => uptoBulk d + 1
  | .slice elems spare => uptoBulkAll elems + uptoBulkAll spare + 1
  | .agg parts => uptoBulkAll parts + 1
  | .iface _ d => uptoBulk d + 1
  | .map entries => uptoBulkEntries entries + 1
  | .held _ => 1
def uptoBulkAll {H : Type} : List (DataW H) → Nat
  | [] => 0
  | d :: r => uptoBulk d + uptoBulkAll r
def uptoBulkEntries {H : Type} : List (Lit × DataW H) → Nat
  | [] => 0
  | x :: r => uptoBulkEntry x + uptoBulkEntries r
def uptoBulkEntry {H : Type} : Lit × DataW H → Nat
  | (.string bytes, d) => bytes.length + uptoBulk d + 1
  | (_, d) => uptoBulk d + 1
 end
def uptoSmall : (H : Type) → List (DataW H) → Bool := fun _ ds => decide (uptoBulkAll ds ≤ 1048576)
def OpenSpec.upto (s : _root_.Go.ChangeSpec) : _root_.Go.OpenSpec := { _root_.Go.OpenSpec.ofChange s with cond := some uptoSmall }

/-- 'trusslaw14.ModeReads', WHERE WHAT IT READS IS OF BULK AT MOST 1048576: true; the input reads as it did. -/
def modeReadsUptoRow : OpenClaim := { program := "ytogicnodmgdnbaagreat", sum := "2e8c60c61f164e88b391ce07a7be20d03e7a9bcd0424ec7c74dd73384b999cfb", func := "truss/trusslaw14.ModeReads", spec := "modeReads", unfollowed := true, recurses := true, loops := true, apart := false, narrowed := true }
def ModeReadsUptoSaid : Prop := modeReadsUptoRow.holds Tryz.pinned (OpenSpec.upto modeReadsSpec)

/-- 'trusslaw14.ModeAny', WHERE WHAT IT READS IS OF BULK AT MOST 1048576: true; the input reads as it did. -/
def modeAnyUptoRow : OpenClaim := { program := "ytogicnodmgdnbaagreat", sum := "2e8c60c61f164e88b391ce07a7be20d03e7a9bcd0424ec7c74dd73384b999cfb", func := "truss/trusslaw14.ModeAny", spec := "modeAny", unfollowed := true, recurses := true, loops := true, apart := false, narrowed := true }
def ModeAnyUptoSaid : Prop := modeAnyUptoRow.holds Tryz.pinned (OpenSpec.upto modeAnySpec)

/-- 'trusslaw14.ModeChecks', WHERE WHAT IT READS IS OF BULK AT MOST 1048576: true; the input reads as it did. -/
def modeChecksUptoRow : OpenClaim := { program := "ytogicnodmgdnbaagreat", sum := "2e8c60c61f164e88b391ce07a7be20d03e7a9bcd0424ec7c74dd73384b999cfb", func := "truss/trusslaw14.ModeChecks", spec := "modeChecks", unfollowed := true, recurses := true, loops := true, apart := false, narrowed := true }
def ModeChecksUptoSaid : Prop := modeChecksUptoRow.holds Tryz.pinned (OpenSpec.upto modeChecksSpec)

/-- 'trusslaw14.ModeFree', WHERE WHAT IT READS IS OF BULK AT MOST 1048576: true; the input reads as it did. -/
def modeFreeUptoRow : OpenClaim := { program := "ytogicnodmgdnbaagreat", sum := "2e8c60c61f164e88b391ce07a7be20d03e7a9bcd0424ec7c74dd73384b999cfb", func := "truss/trusslaw14.ModeFree", spec := "modeFree", unfollowed := true, recurses := true, loops := true, apart := false, narrowed := true }
def ModeFreeUptoSaid : Prop := modeFreeUptoRow.holds Tryz.pinned (OpenSpec.upto modeFreeSpec)

/-- 'trusslaw14.ModeStrict', WHERE WHAT IT READS IS OF BULK AT MOST 1048576: true; the input reads as it did. -/
def modeStrictUptoRow : OpenClaim := { program := "ytogicnodmgdnbaagreat", sum := "2e8c60c61f164e88b391ce07a7be20d03e7a9bcd0424ec7c74dd73384b999cfb", func := "truss/trusslaw14.ModeStrict", spec := "modeStrict", unfollowed := true, recurses := true, loops := true, apart := false, narrowed := true }
def ModeStrictUptoSaid : Prop := modeStrictUptoRow.holds Tryz.pinned (OpenSpec.upto modeStrictSpec)

end Rows
end Go.Proofs.YtogicnodmgdnbaaGreat
