/- OrderCompares answers true at every input, and its arguments read as they did. No condition. -/
import Derived.Test.YtjjgfenincdgpaaLawC
import Derived.Test.YtjjgfenincdgpaaReads
import Derived.Test.YtjjgfenincdgpaaRows
import Derived.SizedLaws
import Derived.Handed
import Derived.WalkKit
namespace Go.Proofs.Ytjjgfenincdgpaa
open Go.Tr Go
open Go.ChangeShapes Go.WideShapes Go.ChangeAt Go.RowKit
set_option maxRecDepth 10000

theorem own : ownKnob Try.prog.godebug = none := by kernel_rfl
theorem kids : Kids Try.prog (· < Try.prog.types.size) := kids_rows (by kernel_rfl) (by kernel_rfl)
theorem full : ∀ t e, t < Try.prog.types.size → Try.prog.underlying t = some (.slice e) → 0 < Try.prog.cellsOf e := slices_full_of Try.prog (by kernel_rfl)

theorem all_le {l : List Nat} (h : l.all (· ≤ reachBytes) = true) : ∀ y ∈ l, y ≤ reachBytes := fun y hy => by simpa using List.all_eq_true.1 h y hy

set_option maxRecDepth 100000 in
theorem orderCompares_lifted (os : Os) (started : os.Started) (H : Type) (enc : TypeId × Value → H) :
    ReturnsInHanded {} Try.checked os 3 .any (Rows.orderComparesSpec.pre6 enc Try.prog Try.f3 Rows.orderComparesRow.domain false) (Rows.orderComparesSpec.post enc Try.prog Try.f3 false true false false) := by
  refine returnsInHanded_of_change_sized (C := Try.checked) own started (by kernel_rfl) Try.func3
    (ChangeSpec.witness6 (enc := enc) (C := Try.checked) false ⟨#[], #[.int .i64 0, .int .i64 0, .agg #[.int .i64 0, .int .i64 0, .int .i64 0, .slice none 0 0], .agg #[.int .i64 0, .int .i64 0, .int .i64 0, .slice none 0 0]], []⟩ 8 (by kernel_rfl) (by kernel_rfl) (by kernel_rfl) (by kernel_rfl)) ?_
  intro W base args ds gs before hval hW _ hsz _
  have hW' := hW
  obtain ⟨p, q, hA0, hV, rfl, _, _⟩ := hW
  have hA : DataW.TrodAll enc Try.prog W 0 (fun _ => true) true Try.f3.params.toList args.toList ds p := hA0
  rw [Try.params3] at hA hval
  have hsz : (DataW.weightsEach Try.prog ([3, 3, 24, 24] ++ []) (ds ++ gs)).all (· ≤ reachBytes) = true := by
    have := hsz
    rw [Try.params3] at this
    exact this
  obtain ⟨v0, vs0, d0, ds0, p0, q0, ha0, rfl, rfl, h0, r0⟩ := trodAll_cons hA
  obtain ⟨v1, vs1, d1, ds1, p1, q1, rfl, rfl, rfl, h1, r1⟩ := trodAll_cons r0
  obtain ⟨v2, vs2, d2, ds2, p2, q2, rfl, rfl, rfl, h2, r2⟩ := trodAll_cons r1
  obtain ⟨v3, vs3, d3, ds3, p3, q3, rfl, rfl, rfl, h3, r3⟩ := trodAll_cons r2
  obtain ⟨rfl, rfl, rfl⟩ := trodAll_nil r3
  obtain ⟨rfl, rfl⟩ := trodVars_none hV
  obtain rfl : args = #[v0, v1, v2, v3] := by rw [← Array.toList_inj, ha0]
  have hw := all_le hsz
  simp only [List.append_nil, DataW.weightsEach, List.mem_append] at hw
  obtain ⟨n, rfl, _⟩ := arg_int (hval 0 _ _ rfl rfl) h0
  obtain ⟨fx, rfl, _⟩ := arg_int (hval 1 _ _ rfl rfl) h1
  obtain ⟨t, a1, c1, rfl, e1⟩ := arg_term (hval 2 _ _ rfl rfl) h2 (fun y hy => hw y (.inr (.inr (.inl hy))))
  obtain ⟨u, a2, c2, rfl, e2⟩ := arg_term (hval 3 _ _ rfl rfl) h3 (fun y hy => hw y (.inr (.inr (.inr hy))))
  refine ((orderCompares_spec n fx t u a1 a2 c1 c2).calls Try.call3 (W := W) ?_).mono ?_
  · intro r hr
    simp only [List.mem_cons, List.not_mem_nil, or_false] at hr
    rcases hr with rfl | rfl
    · exact e1
    · exact e2
  rintro e W' ⟨r, out, rfl, ⟨rfl, rfl⟩, hx⟩
  refine ⟨_, rfl, post_true kids full hW' rfl ?_ ?_ (by kernel_rfl) Try.underlying4 hx⟩
  · rw [Try.params3]
    decide +kernel
  · intro ds hl
    rw [Try.params3] at hl
    match ds, hl with
    | [_, _, _, _], _ => rfl

theorem orderCompares_holds : Rows.OrderComparesSaid :=
  OpenClaim.holds_of_wide 3 Try.f3 rfl rfl rfl rfl rfl rfl rfl ⟨rfl, rfl, rfl, rfl, rfl⟩ rfl rfl rfl rfl rfl (by kernel_rfl) Try.func3 (by kernel_rfl)
    (of_decide_eq_true (by kernel_rfl)) (by unfold Func.isWrapper; first | (rw [if_pos (by decide +kernel)]; kernel_rfl) | (rw [if_neg (by decide +kernel)]; exact ⟨rfl, rfl⟩))
    (fun os started H enc _ => orderCompares_lifted os started H enc)
#print axioms orderCompares_holds
end Go.Proofs.Ytjjgfenincdgpaa
