/- OrderSim answers true at every input, and its arguments read as they did. No condition. -/
import Derived.Test.YtjjgfenincdgpaaLawI
import Derived.Test.YtjjgfenincdgpaaReadsB
namespace Go.Proofs.Ytjjgfenincdgpaa
open Go.Tr Go
open Go.ChangeShapes Go.WideShapes Go.ChangeAt Go.RowKit
set_option maxRecDepth 10000

set_option maxRecDepth 100000 in
theorem orderSim_lifted (os : Os) (started : os.Started) (H : Type) (enc : TypeId × Value → H) :
    ReturnsInHanded {} Try.checked os 8 .any (Rows.orderSimSpec.pre6 enc Try.prog Try.f8 Rows.orderSimRow.domain false) (Rows.orderSimSpec.post enc Try.prog Try.f8 false true false false) := by
  refine returnsInHanded_of_change_sized (C := Try.checked) own started (by kernel_rfl) Try.func8
    (ChangeSpec.witness6 (enc := enc) (C := Try.checked) false ⟨#[], #[.slice none 0 0, .agg #[.int .i64 0, .int .i64 0], .agg #[.slice none 0 0, .slice none 0 0]], []⟩ 8 (by kernel_rfl) (by kernel_rfl) (by kernel_rfl) (by kernel_rfl)) ?_
  intro W base args ds gs before hval hW _ hsz _
  have hW' := hW
  obtain ⟨p, q, hA0, hV, rfl, _, _⟩ := hW
  have hA : DataW.TrodAll enc Try.prog W 0 (fun _ => true) true Try.f8.params.toList args.toList ds p := hA0
  rw [Try.params8] at hA hval
  have hsz : (DataW.weightsEach Try.prog ([50, 42, 43] ++ []) (ds ++ gs)).all (· ≤ reachBytes) = true := by
    have := hsz
    rw [Try.params8] at this
    exact this
  obtain ⟨v0, vs0, d0, ds0, p0, q0, ha0, rfl, rfl, h0, r0⟩ := trodAll_cons hA
  obtain ⟨v1, vs1, d1, ds1, p1, q1, rfl, rfl, rfl, h1, r1⟩ := trodAll_cons r0
  obtain ⟨v2, vs2, d2, ds2, p2, q2, rfl, rfl, rfl, h2, r2⟩ := trodAll_cons r1
  obtain ⟨rfl, rfl, rfl⟩ := trodAll_nil r2
  obtain ⟨rfl, rfl⟩ := trodVars_none hV
  obtain rfl : args = #[v0, v1, v2] := by rw [← Array.toList_inj, ha0]
  have hw := all_le hsz
  simp only [List.append_nil, DataW.weightsEach, List.mem_append] at hw
  obtain ⟨l, a0, c0, rfl, e1⟩ := arg_ints (hval 0 _ _ rfl rfl) h0 (fun y hy => hw y (.inl hy))
  obtain ⟨n, fx, rfl⟩ := arg_pair (hval 1 _ _ rfl rfl) h1
  obtain ⟨A, B, a3, a4, c3, c4, rfl, e3, e4⟩ := arg_lists (hval 2 _ _ rfl rfl) h2 (fun y hy => hw y (.inr (.inr hy)))
  have hr : ∀ r ∈ [intsR l a0 c0, (Value.slice a3 (Tm.encL A).length c3, D.sl 4 (Tm.encL A)), (Value.slice a4 (Tm.encL B).length c4, D.sl 4 (Tm.encL B))], Rep (fun _ => True) W r.1 r.2 := by
    intro r hr
    simp only [List.mem_cons, List.not_mem_nil, or_false] at hr
    rcases hr with rfl | rfl | rfl
    · exact e1
    · exact e3
    · exact e4
  refine ((orderSim_spec l n fx A B a0 a3 a4 c0 c3 c4).calls Try.call8 (W := W) hr).mono ?_
  rintro e W' ⟨r, out, rfl, ⟨rfl, rfl⟩, hx⟩
  refine ⟨_, rfl, post_true kids full hW' rfl ?_ ?_ (by kernel_rfl) Try.underlying4 hx⟩
  · rw [Try.params8]
    decide +kernel
  · intro ds hl
    rw [Try.params8] at hl
    match ds, hl with
    | [_, _, _], _ => rfl

theorem orderSim_holds : Rows.OrderSimSaid :=
  OpenClaim.holds_of_wide 8 Try.f8 rfl rfl rfl rfl rfl rfl rfl ⟨rfl, rfl, rfl, rfl, rfl⟩ rfl rfl rfl rfl rfl (by kernel_rfl) Try.func8 (by kernel_rfl)
    (of_decide_eq_true (by kernel_rfl)) (by unfold Func.isWrapper; first | (rw [if_pos (by decide +kernel)]; kernel_rfl) | (rw [if_neg (by decide +kernel)]; exact ⟨rfl, rfl⟩))
    (fun os started H enc _ => orderSim_lifted os started H enc)
#print axioms orderSim_holds
end Go.Proofs.Ytjjgfenincdgpaa
