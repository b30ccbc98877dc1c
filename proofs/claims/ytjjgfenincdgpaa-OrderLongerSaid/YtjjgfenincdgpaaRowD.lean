/- OrderLonger answers true at every input, and its arguments read as they did. No condition. -/
import Derived.Test.YtjjgfenincdgpaaLawG
import Derived.Test.YtjjgfenincdgpaaRowKit
namespace Go.Proofs.Ytjjgfenincdgpaa
open Go.Tr Go
open Go.ChangeShapes Go.WideShapes Go.ChangeAt Go.RowKit
set_option maxRecDepth 10000

set_option maxRecDepth 100000 in
theorem orderLonger_lifted (os : Os) (started : os.Started) (H : Type) (enc : TypeId × Value → H) :
    ReturnsInHanded {} Try.checked os 5 .any (Rows.orderLongerSpec.pre6 enc Try.prog Try.f5 Rows.orderLongerRow.domain false) (Rows.orderLongerSpec.post enc Try.prog Try.f5 false true false false) := by
  refine returnsInHanded_of_change_sized (C := Try.checked) own started (by kernel_rfl) Try.func5
    (ChangeSpec.witness6 (enc := enc) (C := Try.checked) false ⟨#[], #[.int .i64 0, .int .i64 0, .agg #[.int .i64 0, .int .i64 0, .int .i64 0, .slice none 0 0], .agg #[.int .i64 0, .int .i64 0, .int .i64 0, .slice none 0 0]], []⟩ 8 (by kernel_rfl) (by kernel_rfl) (by kernel_rfl) (by kernel_rfl)) ?_
  intro W base args ds gs before hval hW _ hsz _
  have hW' := hW
  obtain ⟨p, q, hA0, hV, rfl, _, _⟩ := hW
  have hA : DataW.TrodAll enc Try.prog W 0 (fun _ => true) true Try.f5.params.toList args.toList ds p := hA0
  rw [Try.params5] at hA hval
  have hsz : (DataW.weightsEach Try.prog ([3, 3, 24, 24] ++ []) (ds ++ gs)).all (· ≤ reachBytes) = true := by
    have := hsz
    rw [Try.params5] at this
    exact this
  obtain ⟨n, fx, t, u, a1, a2, c1, c2, rfl, hr⟩ := args_four hval hA hsz
  obtain ⟨rfl, rfl⟩ := trodVars_none hV
  refine ((orderLonger_spec n fx t u a1 a2 c1 c2).calls Try.call5 (W := W) hr).mono ?_
  rintro e W' ⟨r, out, rfl, ⟨rfl, rfl⟩, hx⟩
  refine ⟨_, rfl, post_true kids full hW' rfl ?_ ?_ (by kernel_rfl) Try.underlying4 hx⟩
  · rw [Try.params5]
    decide +kernel
  · intro ds hl
    rw [Try.params5] at hl
    match ds, hl with
    | [_, _, _, _], _ => rfl

theorem orderLonger_holds : Rows.OrderLongerSaid :=
  OpenClaim.holds_of_wide 5 Try.f5 rfl rfl rfl rfl rfl rfl rfl ⟨rfl, rfl, rfl, rfl, rfl⟩ rfl rfl rfl rfl rfl (by kernel_rfl) Try.func5 (by kernel_rfl)
    (of_decide_eq_true (by kernel_rfl)) (by unfold Func.isWrapper; first | (rw [if_pos (by decide +kernel)]; kernel_rfl) | (rw [if_neg (by decide +kernel)]; exact ⟨rfl, rfl⟩))
    (fun os started H enc _ => orderLonger_lifted os started H enc)
#print axioms orderLonger_holds
end Go.Proofs.Ytjjgfenincdgpaa
