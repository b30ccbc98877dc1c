/- How the four arguments of the first laws read, and what their rows ask. Condition: each slice that is met weighs no more than the form's own reach. -/
import Derived.Test.YtjjgfenincdgpaaReads
import Derived.Test.YtjjgfenincdgpaaRows
import Derived.SizedLaws
import Derived.Handed
import Derived.WalkKit
namespace Go.Proofs.Ytjjgfenincdgpaa
open Go.Tr Go
open Go.ChangeShapes Go.WideShapes Go.ChangeAt Go.RowKit
set_option maxRecDepth 10000

theorem own : ownKnob Try.prog.godebug = none := by kernel_rfl
theorem kids : Kids Try.prog (· < Try.prog.types.size) := kids_rows (by kernel_rfl) (by kernel_rfl)
theorem full : ∀ t e, t < Try.prog.types.size → Try.prog.underlying t = some (.slice e) → 0 < Try.prog.cellsOf e := slices_full_of Try.prog (by kernel_rfl)

theorem all_le {l : List Nat} (h : l.all (· ≤ reachBytes) = true) : ∀ y ∈ l, y ≤ reachBytes := fun y hy => by simpa using List.all_eq_true.1 h y hy

section
variable {H : Type} {enc : TypeId × Value → H} {W : World}

theorem args_four {base : Nat} {args : Array Value} {ds gs : List (DataW H)} {p : List MemPlace} (hval : ∀ (j : Nat) t v, (#[3, 3, 24, 24] : Array TypeId)[j]? = some t → args[j]? = some v → Value.okWide Try.prog W .any base t v)
    (hA : DataW.TrodAll enc Try.prog W 0 (fun _ => true) true [3, 3, 24, 24] args.toList ds p) (hsz : (DataW.weightsEach Try.prog ([3, 3, 24, 24] ++ []) (ds ++ gs)).all (· ≤ reachBytes) = true) :
    ∃ (n fx : Int) (t u : Tm) (a1 a2 : Option Addr) (c1 c2 : Nat), args = (SV.denL [] [iS n, iS fx, tmS t a1 c1, tmS u a2 c2]).toArray ∧ ∀ r ∈ [tmR t a1 c1, tmR u a2 c2], Rep (fun _ => True) W r.1 r.2 := by
  obtain ⟨v0, vs0, d0, ds0, p0, q0, ha0, rfl, rfl, h0, r0⟩ := trodAll_cons hA
  obtain ⟨v1, vs1, d1, ds1, p1, q1, rfl, rfl, rfl, h1, r1⟩ := trodAll_cons r0
  obtain ⟨v2, vs2, d2, ds2, p2, q2, rfl, rfl, rfl, h2, r2⟩ := trodAll_cons r1
  obtain ⟨v3, vs3, d3, ds3, p3, q3, rfl, rfl, rfl, h3, r3⟩ := trodAll_cons r2
  obtain ⟨rfl, rfl, rfl⟩ := trodAll_nil r3
  obtain rfl : args = #[v0, v1, v2, v3] := by rw [← Array.toList_inj, ha0]
  have hw := all_le hsz
  simp only [List.append_nil, List.cons_append, List.nil_append, DataW.weightsEach, List.mem_append] at hw
  obtain ⟨n, rfl, _⟩ := arg_int (hval 0 _ _ rfl rfl) h0
  obtain ⟨fx, rfl, _⟩ := arg_int (hval 1 _ _ rfl rfl) h1
  obtain ⟨t, a1, c1, rfl, e1⟩ := arg_term (hval 2 _ _ rfl rfl) h2 (fun y hy => hw y (.inr (.inr (.inl hy))))
  obtain ⟨u, a2, c2, rfl, e2⟩ := arg_term (hval 3 _ _ rfl rfl) h3 (fun y hy => hw y (.inr (.inr (.inr hy))))
  refine ⟨n, fx, t, u, a1, a2, c1, c2, rfl, ?_⟩
  intro r hr
  simp only [List.mem_cons, List.not_mem_nil, or_false] at hr
  rcases hr with rfl | rfl
  · exact e1
  · exact e2
end
end Go.Proofs.Ytjjgfenincdgpaa
