/-
  NARROWER THAN 'FOR EVERY INPUT', by the rows' own cells (each row's printed sentence says how): OrderCompares: loops · OrderSmaller: loops · OrderLonger: loops · OrderParts: loops · OrderLists: loops · OrderSim: loops.
  DERIVED. THE GIVEN ROWS OF THIS SEAT. 6 by the template 'for every input the law returns true; each argument reads behind the call as it read before'; 0 by the template 'total and deterministic' (their statements: YtjjgfenincdgpaaTotals.lean).
  GIVEN WITH THE SEED: the statements are not yours to turn. If you find one false, say at which input.
  Laid BY PROGRAM, IN A SANDBOX (cutbox-rows.mjs): the forced cells as the released guide's own fill.sh prints them over the translation 2b39557b6468d910… (all of the seat's roots in one cut). By AI agents, Wed Nov 11 2026. No macro, syntax, notation, axiom, sorry.
-/
import Derived.Test.YtjjgfenincdgpaaChecked
import GoSem.Claim
import GoSem.ClaimJoined
import GoSem.ClaimMapViews
import Derived.JoinedTies
import Derived.KernelRfl
namespace Go.Proofs.Ytjjgfenincdgpaa
/- THE CELL 'sum', in the pinned program and in every row, IS THE sha256 OF THE DUMP (.gsa) THAT YtjjgfenincdgpaaProg.lean LOADS. Nothing in Lean hashes anything: it is a label: what it is worth is what the hold of that sum in a sandbox is worth. -/
noncomputable def Try.pinned : Pinned := { name := "ytjjgfenincdgpaa", sum := "2b39557b6468d910651c66b5576613cc01a4b0dcc510a34dfb9b639e1803f34c", checked := Try.checked }
namespace Rows
def none {H : Type} : Left H := { results := [], args := [] }

/-- 'trusslaw15.OrderCompares': WHATEVER THE INPUT: true; the input reads as it did. -/
def orderComparesSpec : ChangeSpec := { name := "orderCompares", fn := fun _ => fun
  | [d1, d2, d3, d4] => { results := [.lit (.bool true)], args := [d1, d2, d3, d4] }
  | _ => none }
def orderComparesRow : OpenClaim := { program := "ytjjgfenincdgpaa", sum := "2b39557b6468d910651c66b5576613cc01a4b0dcc510a34dfb9b639e1803f34c", func := "truss/trusslaw15.OrderCompares", spec := "orderCompares", unfollowed := true, recurses := true, loops := true, apart := false }
def OrderComparesSaid : Prop := orderComparesRow.holds Try.pinned (OpenSpec.ofChange orderComparesSpec)

/-- ITS FALSE NEIGHBOUR: 'it returns false'. Refute it at one input. -/
def orderComparesWrong : ChangeSpec := { name := "orderCompares", fn := fun _ => fun
  | [d1, d2, d3, d4] => { results := [.lit (.bool false)], args := [d1, d2, d3, d4] }
  | _ => none }
def OrderComparesWrongFalsely : Prop := orderComparesRow.holds Try.pinned (OpenSpec.ofChange orderComparesWrong)

/-- 'trusslaw15.OrderSmaller': WHATEVER THE INPUT: true; the input reads as it did. -/
def orderSmallerSpec : ChangeSpec := { name := "orderSmaller", fn := fun _ => fun
  | [d1, d2, d3, d4] => { results := [.lit (.bool true)], args := [d1, d2, d3, d4] }
  | _ => none }
def orderSmallerRow : OpenClaim := { program := "ytjjgfenincdgpaa", sum := "2b39557b6468d910651c66b5576613cc01a4b0dcc510a34dfb9b639e1803f34c", func := "truss/trusslaw15.OrderSmaller", spec := "orderSmaller", unfollowed := true, recurses := true, loops := true, apart := false }
def OrderSmallerSaid : Prop := orderSmallerRow.holds Try.pinned (OpenSpec.ofChange orderSmallerSpec)

/-- ITS FALSE NEIGHBOUR: 'it returns false'. Refute it at one input. -/
def orderSmallerWrong : ChangeSpec := { name := "orderSmaller", fn := fun _ => fun
  | [d1, d2, d3, d4] => { results := [.lit (.bool false)], args := [d1, d2, d3, d4] }
  | _ => none }
def OrderSmallerWrongFalsely : Prop := orderSmallerRow.holds Try.pinned (OpenSpec.ofChange orderSmallerWrong)

/-- 'trusslaw15.OrderLonger': WHATEVER THE INPUT: true; the input reads as it did. -/
def orderLongerSpec : ChangeSpec := { name := "orderLonger", fn := fun _ => fun
  | [d1, d2, d3, d4] => { results := [.lit (.bool true)], args := [d1, d2, d3, d4] }
  | _ => none }
def orderLongerRow : OpenClaim := { program := "ytjjgfenincdgpaa", sum := "2b39557b6468d910651c66b5576613cc01a4b0dcc510a34dfb9b639e1803f34c", func := "truss/trusslaw15.OrderLonger", spec := "orderLonger", unfollowed := true, recurses := true, loops := true, apart := false }
def OrderLongerSaid : Prop := orderLongerRow.holds Try.pinned (OpenSpec.ofChange orderLongerSpec)

/-- ITS FALSE NEIGHBOUR: 'it returns false'. Refute it at one input. -/
def orderLongerWrong : ChangeSpec := { name := "orderLonger", fn := fun _ => fun
  | [d1, d2, d3, d4] => { results := [.lit (.bool false)], args := [d1, d2, d3, d4] }
  | _ => none }
def OrderLongerWrongFalsely : Prop := orderLongerRow.holds Try.pinned (OpenSpec.ofChange orderLongerWrong)

/-- 'trusslaw15.OrderParts': WHATEVER THE INPUT: true; the input reads as it did. -/
def orderPartsSpec : ChangeSpec := { name := "orderParts", fn := fun _ => fun
  | [d1, d2, d3, d4] => { results := [.lit (.bool true)], args := [d1, d2, d3, d4] }
  | _ => none }
def orderPartsRow : OpenClaim := { program := "ytjjgfenincdgpaa", sum := "2b39557b6468d910651c66b5576613cc01a4b0dcc510a34dfb9b639e1803f34c", func := "truss/trusslaw15.OrderParts", spec := "orderParts", unfollowed := true, recurses := true, loops := true, apart := false }
def OrderPartsSaid : Prop := orderPartsRow.holds Try.pinned (OpenSpec.ofChange orderPartsSpec)

/-- ITS FALSE NEIGHBOUR: 'it returns false'. Refute it at one input. -/
def orderPartsWrong : ChangeSpec := { name := "orderParts", fn := fun _ => fun
  | [d1, d2, d3, d4] => { results := [.lit (.bool false)], args := [d1, d2, d3, d4] }
  | _ => none }
def OrderPartsWrongFalsely : Prop := orderPartsRow.holds Try.pinned (OpenSpec.ofChange orderPartsWrong)

/-- 'trusslaw15.OrderLists': WHATEVER THE INPUT: true; the input reads as it did. -/
def orderListsSpec : ChangeSpec := { name := "orderLists", fn := fun _ => fun
  | [d1, d2, d3, d4] => { results := [.lit (.bool true)], args := [d1, d2, d3, d4] }
  | _ => none }
def orderListsRow : OpenClaim := { program := "ytjjgfenincdgpaa", sum := "2b39557b6468d910651c66b5576613cc01a4b0dcc510a34dfb9b639e1803f34c", func := "truss/trusslaw15.OrderLists", spec := "orderLists", unfollowed := true, recurses := true, loops := true, apart := false }
def OrderListsSaid : Prop := orderListsRow.holds Try.pinned (OpenSpec.ofChange orderListsSpec)

/-- ITS FALSE NEIGHBOUR: 'it returns false'. Refute it at one input. -/
def orderListsWrong : ChangeSpec := { name := "orderLists", fn := fun _ => fun
  | [d1, d2, d3, d4] => { results := [.lit (.bool false)], args := [d1, d2, d3, d4] }
  | _ => none }
def OrderListsWrongFalsely : Prop := orderListsRow.holds Try.pinned (OpenSpec.ofChange orderListsWrong)

/-- 'trusslaw15.OrderSim': WHATEVER THE INPUT: true; the input reads as it did. -/
def orderSimSpec : ChangeSpec := { name := "orderSim", fn := fun _ => fun
  | [d1, d2, d3] => { results := [.lit (.bool true)], args := [d1, d2, d3] }
  | _ => none }
def orderSimRow : OpenClaim := { program := "ytjjgfenincdgpaa", sum := "2b39557b6468d910651c66b5576613cc01a4b0dcc510a34dfb9b639e1803f34c", func := "truss/trusslaw15.OrderSim", spec := "orderSim", unfollowed := true, recurses := true, loops := true, apart := false }
def OrderSimSaid : Prop := orderSimRow.holds Try.pinned (OpenSpec.ofChange orderSimSpec)

/-- ITS FALSE NEIGHBOUR: 'it returns false'. Refute it at one input. -/
def orderSimWrong : ChangeSpec := { name := "orderSim", fn := fun _ => fun
  | [d1, d2, d3] => { results := [.lit (.bool false)], args := [d1, d2, d3] }
  | _ => none }
def OrderSimWrongFalsely : Prop := orderSimRow.holds Try.pinned (OpenSpec.ofChange orderSimWrong)

/- THE SECOND FORM. 'bulk': how many values and letters a reading holds, each counted each time it is reached (what is shared counts as often as it is met; a slice's spare places count too). A statement '..UptoSaid' is the law's where the arguments, and the package variables that the reading takes, are together of bulk at most 1048576: NARROWER than '..Said'. Prove '..Said' where nothing that the law and all that it calls make is longer than what came in: it says more and counts as full. Else prove '..UptoSaid'. A law counts once. -/
mutual
def uptoBulk {H : Type} : DataW H → Nat
  | .lit (.string bytes) => bytes.length + 1
  | .lit _ => 1
  | .nil => 1
  | .ptr d => uptoBulk d + 1
  | .slice elems spare => uptoBulkAll elems + uptoBulkAll spare + 1
  | .agg parts => uptoBulkAll parts + 1
  | .iface _ d => uptoBulk d + 1
  | .map entries => uptoBulkEntries entries + 1
  | .held _ => 1
def uptoBulkAll {H : Type} : List (DataW H) → Nat
  | [] => 0
  | d :: r => uptoBulk d + uptoBulkAll r
def uptoBulkEntries {H : Type} : List (Lit × DataW H) → Nat
  | [] => 0
  | x :: r => uptoBulkEntry x + uptoBulkEntries r
def uptoBulkEntry {H : Type} : Lit × DataW H → Nat
  | (.string bytes, d) => bytes.length + uptoBulk d + 1
  | (_, d) => uptoBulk d + 1
 end
def uptoSmall : (H : Type) → List (DataW H) → Bool := fun _ ds => decide (uptoBulkAll ds ≤ 1048576)
def OpenSpec.upto (s : _root_.Go.ChangeSpec) : _root_.Go.OpenSpec := { _root_.Go.OpenSpec.ofChange s with cond := some uptoSmall }

/-- 'trusslaw15.OrderCompares', WHERE WHAT IT READS IS OF BULK AT MOST 1048576: true; the input reads as it did. -/
def orderComparesUptoRow : OpenClaim := { program := "ytjjgfenincdgpaa", sum := "2b39557b6468d910651c66b5576613cc01a4b0dcc510a34dfb9b639e1803f34c", func := "truss/trusslaw15.OrderCompares", spec := "orderCompares", unfollowed := true, recurses := true, loops := true, apart := false, narrowed := true }
def OrderComparesUptoSaid : Prop := orderComparesUptoRow.holds Try.pinned (OpenSpec.upto orderComparesSpec)

/-- 'trusslaw15.OrderSmaller', WHERE WHAT IT READS IS OF BULK AT MOST 1048576: true; the input reads as it did. -/
def orderSmallerUptoRow : OpenClaim := { program := "ytjjgfenincdgpaa", sum := "2b39557b6468d910651c66b5576613cc01a4b0dcc510a34dfb9b639e1803f34c", func := "truss/trusslaw15.OrderSmaller", spec := "orderSmaller", unfollowed := true, recurses := true, loops := true, apart := false, narrowed := true }
def OrderSmallerUptoSaid : Prop := orderSmallerUptoRow.holds Try.pinned (OpenSpec.upto orderSmallerSpec)

/-- 'trusslaw15.OrderLonger', WHERE WHAT IT READS IS OF BULK AT MOST 1048576: true; the input reads as it did. -/
def orderLongerUptoRow : OpenClaim := { program := "ytjjgfenincdgpaa", sum := "2b39557b6468d910651c66b5576613cc01a4b0dcc510a34dfb9b639e1803f34c", func := "truss/trusslaw15.OrderLonger", spec := "orderLonger", unfollowed := true, recurses := true, loops := true, apart := false, narrowed := true }
def OrderLongerUptoSaid : Prop := orderLongerUptoRow.holds Try.pinned (OpenSpec.upto orderLongerSpec)

/-- 'trusslaw15.OrderParts', WHERE WHAT IT READS IS OF BULK AT MOST 1048576: true; the input reads as it did. -/
def orderPartsUptoRow : OpenClaim := { program := "ytjjgfenincdgpaa", sum := "2b39557b6468d910651c66b5576613cc01a4b0dcc510a34dfb9b639e1803f34c", func := "truss/trusslaw15.OrderParts", spec := "orderParts", unfollowed := true, recurses := true, loops := true, apart := false, narrowed := true }
def OrderPartsUptoSaid : Prop := orderPartsUptoRow.holds Try.pinned (OpenSpec.upto orderPartsSpec)

/-- 'trusslaw15.OrderLists', WHERE WHAT IT READS IS OF BULK AT MOST 1048576: true; the input reads as it did. -/
def orderListsUptoRow : OpenClaim := { program := "ytjjgfenincdgpaa", sum := "2b39557b6468d910651c66b5576613cc01a4b0dcc510a34dfb9b639e1803f34c", func := "truss/trusslaw15.OrderLists", spec := "orderLists", unfollowed := true, recurses := true, loops := true, apart := false, narrowed := true }
def OrderListsUptoSaid : Prop := orderListsUptoRow.holds Try.pinned (OpenSpec.upto orderListsSpec)

/-- 'trusslaw15.OrderSim', WHERE WHAT IT READS IS OF BULK AT MOST 1048576: true; the input reads as it did. -/
def orderSimUptoRow : OpenClaim := { program := "ytjjgfenincdgpaa", sum := "2b39557b6468d910651c66b5576613cc01a4b0dcc510a34dfb9b639e1803f34c", func := "truss/trusslaw15.OrderSim", spec := "orderSim", unfollowed := true, recurses := true, loops := true, apart := false, narrowed := true }
def OrderSimUptoSaid : Prop := orderSimUptoRow.holds Try.pinned (OpenSpec.upto orderSimSpec)

end Rows
end Go.Proofs.Ytjjgfenincdgpaa
