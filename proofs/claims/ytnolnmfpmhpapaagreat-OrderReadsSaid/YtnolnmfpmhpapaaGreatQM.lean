/- Merged texts: RowReads. OrderReads answers true at every input, and its arguments read as they did. No condition. -/
import Derived.Test.YtnolnmfpmhpapaaGreatQL
/-! RowReads -/
section
namespace Go.Proofs.YtnolnmfpmhpapaaGreat
open Go.Tr Go
open Go.ChangeShapes Go.WideShapes Go.ChangeAt Go.RowKit
set_option maxRecDepth 10000

theorem sigB_of {sig : List Dc} (h : okD (.sl 6 (Dc.encL sig))) : sigB sig := by
  simp only [okD] at h
  rw [Dc.encL_length] at h
  refine ⟨h.1, fun d hd => ?_⟩
  have h1 := okL_mem h.2 (List.mem_map_of_mem (f := Dc.enc) hd)
  simp only [okD, okL] at h1
  refine shT_of d.cls ?_
  rw [Tm.enc_eq]
  simp only [okD, okL]
  exact h1.2.1

theorem orderReads_spec (sig : List Dc) (x : It) (a2 : Option Addr) (c2 : Nat) (a4 : Option Addr) (c4 : Nat) (a5 : Option Addr) (c5 : Nat) :
    Pure Tryz.prog (fnS 3) [(.v (.slice a2 ((Dc.encL sig).length) c2)), itS x a4 c4 a5 c5] [(.slice a2 ((Dc.encL sig).length) c2, .sl 6 (Dc.encL sig)), rwR x.raw a4 c4, itR x a5 c5] (fun r out => r = bS true ∧ out = []) := by
  refine Meets.of_ok fun hok => ?_
  have hb : sigB sig := sigB_of (hok _ (List.mem_cons_self ..))
  obtain ⟨N, h⟩ := orderReads_ev sig x hb
  exact W15_OrderReads_spec N sig x a2 c2 a4 c4 a5 c5 _ (h N (Nat.le_refl _))

set_option maxRecDepth 100000 in
theorem orderReads_lifted (os : Os) (started : os.Started) (H : Type) (enc : TypeId × Value → H) :
    ReturnsInHanded {} Tryz.checked os 3 .any (Rows.orderReadsSpec.pre6 enc Tryz.prog Tryz.f3 Rows.orderReadsRow.domain false) (Rows.orderReadsSpec.post enc Tryz.prog Tryz.f3 false true false false) := by
  refine returnsInHanded_of_change_sized (C := Tryz.checked) own started (by kernel_rfl) Tryz.func3
    (ChangeSpec.witness6 (enc := enc) (C := Tryz.checked) false ⟨#[], #[.slice none 0 0, .agg #[.string ⟨#[]⟩, .string ⟨#[]⟩, .int .i64 0, .string ⟨#[]⟩, .slice none 0 0, .slice none 0 0]], []⟩ 8 (by kernel_rfl) (by kernel_rfl) (by kernel_rfl) (by kernel_rfl)) ?_
  intro W base args ds gs before hval hW _ hsz _
  have hW' := hW
  obtain ⟨p, q, hA0, hV, rfl, _, _⟩ := hW
  have hA : DataW.TrodAll enc Tryz.prog W 0 (fun _ => true) true Tryz.f3.params.toList args.toList ds p := hA0
  rw [Tryz.params3] at hA hval
  have hsz : (DataW.weightsEach Tryz.prog ([22, 28] ++ []) (ds ++ gs)).all (· ≤ reachBytes) = true := by
    have := hsz
    rw [Tryz.params3] at this
    exact this
  obtain ⟨v0, vs0, d0, ds0, p0, q0, ha0, rfl, rfl, h0, r0⟩ := trodAll_cons hA
  obtain ⟨v1, vs1, d1, ds1, p1, q1, rfl, rfl, rfl, h1, r1⟩ := trodAll_cons r0
  obtain ⟨rfl, rfl, rfl⟩ := trodAll_nil r1
  obtain ⟨rfl, rfl⟩ := trodVars_none hV
  obtain rfl : args = #[v0, v1] := by rw [← Array.toList_inj, ha0]
  have hw := all_le hsz
  simp only [List.append_nil, DataW.weightsEach, List.mem_append] at hw
  obtain ⟨sig, a2, c2, rfl, e2⟩ := argl_Dc (hval 0 _ _ rfl rfl) h0 (fun y hy => hw y (.inl hy))
  obtain ⟨x, a4, c4, a5, c5, rfl, e4, e5⟩ := arg_It (hval 1 _ _ rfl rfl) h1 (fun y hy => hw y (.inr hy))
  refine ((orderReads_spec sig x a2 c2 a4 c4 a5 c5).calls Tryz.call3 (W := W) ?_).mono ?_
  · intro r hr
    simp only [List.mem_cons, List.not_mem_nil, or_false] at hr
    rcases hr with rfl | rfl | rfl
    · exact e2
    · exact e4
    · exact e5
  rintro e W' ⟨r, out, rfl, ⟨rfl, rfl⟩, hx⟩
  refine ⟨_, rfl, post_true kids full hW' rfl ?_ ?_ (by kernel_rfl) Tryz.underlying4 hx⟩
  · rw [Tryz.params3]
    decide +kernel
  · intro ds hl
    rw [Tryz.params3] at hl
    match ds, hl with
    | [_, _], _ => rfl

theorem orderReads_holds : Rows.OrderReadsSaid :=
  OpenClaim.holds_of_wide 3 Tryz.f3 rfl rfl rfl rfl rfl rfl rfl ⟨rfl, rfl, rfl, rfl, rfl⟩ rfl rfl rfl rfl rfl (by kernel_rfl) Tryz.func3 (by kernel_rfl)
    (of_decide_eq_true (by kernel_rfl)) (by unfold Func.isWrapper; first | (rw [if_pos (by decide +kernel)]; kernel_rfl) | (rw [if_neg (by decide +kernel)]; exact ⟨rfl, rfl⟩))
    (fun os started H enc _ => orderReads_lifted os started H enc)
#print axioms orderReads_holds
end Go.Proofs.YtnolnmfpmhpapaaGreat
end
