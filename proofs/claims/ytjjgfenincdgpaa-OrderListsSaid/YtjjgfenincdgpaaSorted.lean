/- The contract of slices.Sort at a slice of ints that the run has made: it is sorted in its place. Condition: fewer than 2^62 elements. -/
import Derived.Test.YtjjgfenincdgpaaSortLay
import Derived.Test.YtjjgfenincdgpaaTermC
import Derived.Sort.OwnSortedInts
namespace Go.Proofs.Ytjjgfenincdgpaa
open Go.Tr Go
set_option maxRecDepth 10000

theorem repE_ints {J : Nat → Prop} {w : World} : ∀ (ks : List Int) (cs : List Value), RepE J w 1 (ks.map (D.int .i64)) cs ↔ cs.take ks.length = ks.map (Value.int .i64)
  | [], cs => by simp [RepE]
  | k :: ks, cs => by
    simp only [List.map_cons, RepE, repE_ints ks, RepC, List.length_cons]
    cases cs with
    | nil => simp
    | cons c cs => simp

def sorted (ks : List Int) : List Int := ks.mergeSort fun x y => decide (x ≤ y)

theorem sorted_perm {l l' : List Int} (h : l.Perm l') : sorted l = sorted l' := by
  have tr : ∀ a b c : Int, decide (a ≤ b) = true → decide (b ≤ c) = true → decide (a ≤ c) = true := by simp; omega
  have tot : ∀ a b : Int, (decide (a ≤ b) || decide (b ≤ a)) = true := by simp; omega
  refine List.Perm.eq_of_pairwise (le := fun x y : Int => x ≤ y) ?_ ?_ ?_ (((List.mergeSort_perm l _).trans h).trans (List.mergeSort_perm l' _).symm)
  · intro a b _ _ h1 h2; omega
  · exact (List.pairwise_mergeSort tr tot l).imp (by simp)
  · exact (List.pairwise_mergeSort tr tot l').imp (by simp)

theorem sort_some (ks : List Int) (b cap : Nat) (hlen : ks.length < 4611686018427387904) :
    Meets Try.prog (fnS 71) [.v (.slice (some ⟨b, 0, none⟩) ks.length cap)] ⟨[], [⟨.slice (some ⟨b, 0, none⟩) ks.length cap, 1, 3, ks.map (D.int .i64)⟩], []⟩
      (fun o S' => o = .ret (.tup []) ∧ S' = ⟨[], [⟨.slice (some ⟨b, 0, none⟩) ks.length cap, 1, 3, (sorted ks).map (D.int .i64)⟩], []⟩) := by
  intro J ℓ w hG hJ
  have hl : ℓ = [] := by have := hG.len; simpa using this
  subst hl
  have hacc := hG.accs _ (List.mem_singleton.2 rfl)
  rcases hacc with ⟨hv, _⟩ | ⟨g, cp, c, hv, hgb, hcs, hle, hre⟩
  · cases hv
  simp only [List.length_map, Value.slice.injEq, Option.some.injEq, Addr.mk.injEq, and_true, true_and] at hv
  obtain ⟨rfl, rfl⟩ := hv
  simp only [List.length_map] at hle
  have ht := (repE_ints ks c.toList).1 hre
  refine ⟨.enter 71 #[.slice (some ⟨b, 0, none⟩) ks.length cap], ?_, ?_⟩
  · simp only [Cal.sem, SV.den, SV.denL, Deferred.ofValue, Sem.run_bind, Sem.run_pure, Result.andThen_ok, invoke]
    exact Try.call71 _ _
  · have hc := Any.slices_Sort_int sortLays b 0 cap ks w (holds_of_blockI hgb ht) (lt_of_get hgb) hlen
    refine CallsIn.mono ((callsIn_wide (n := 0)).2 hc) ?_
    rintro e w' ⟨rfl, n, os, rfl⟩
    have hsl : (sorted ks).length = ks.length := by simp [sorted, List.length_mergeSort]
    have hgr := grownBy_sortedI (w := w) (g := b) (n := n) (os := os) (sorted ks).toArray
    have hhs := heap_sortedI (n := n) (os := os) (sorted ks).toArray hgb
    have hgood := hG.regrow (j := 0) (a' := ⟨.slice (some ⟨b, 0, none⟩) ks.length cap, 1, 3, (sorted ks).map (D.int .i64)⟩) (w' := Go.Sort.grow (Go.Sort.putRow (Value.int .i64) (Go.Sort.ahead w n) b 0 (sorted ks).toArray) os) hJ rfl hgr.size
      (fun x hx hm => hgr.block x hx (fun e => hm (by simp only [Option.some.injEq] at e; simp [accBlk, e]))) (by simp [accBlk]) (fun x hx => ?_) (fun J' hj => ?_)
    · refine ⟨[], .ret (.tup []), _, rfl, rfl, List.prefix_refl _, ⟨hgr.os, hgr.output, hgr.size, fun x hx hm => hgr.block x hx (fun e => hm ?_)⟩, hgood.1, hgood.2, rfl, rfl⟩
      simp only [Option.some.injEq] at e
      simp [mutS, mutL, accBlk, e]
    · simp [accBlk] at hx
      subst hx
      exact ⟨.inl (by simp [accBlk]), lt_of_get hhs⟩
    · refine .inr ⟨b, cap, _, by simp [hsl], hhs, by simp [Go.Sort.putCells, hcs], by simp [hsl]; exact hle, ?_⟩
      rw [repE_ints, hsl, ← hsl]
      exact take_putCellsI c (sorted ks) (by rw [hsl, hcs]; simp; exact hle.1)

abbrev nilS : SV := .v (.slice none 0 0)

theorem insertion_none : Pure Try.prog (fnS 77) [nilS, iS 0, iS 0] [] (fun r out => r = .tup [] ∧ out = []) := by
  refine spec_of_body (N := 49) (m := 0) (dt := drawsOf [(4, .node [0, 1, 2, 3, 4, 5, 6, 7, 8, 9, 10, 11, 12] [(13, .leaf [14])], [13]), (6, .node [0, 1, 2, 3, 4, 5, 6, 7, 8, 9, 10, 11, 12, 13, 14] [(15, .node [16] [(17, .leaf [])])], [17])]) [] ttOK Try.func77 rfl Try.call77 Try.ntmps77 rfl rfl rfl mixed (by kernel_rfl) ?_
  refine AtLoop.mk ⟨Unit, fun _ => [(6, iS 1), (2, iS 0)], fun _ => ⟨[], [], []⟩, fun _ => True, fun _ => 0, (), trivial, ⟨rfl, rfl, trivial⟩, StLe.refl _, fun _ _ => ⟨rfl, rfl⟩, ?_⟩
  intro _ _
  refine AtIf.mk (fun h => by cases h) (fun _ => ?_)
  exact AtRet.pure [] rfl (by simp) ⟨rfl, rfl⟩

theorem pdq_none (lim : Int) : Pure Try.prog (fnS 75) [nilS, iS 0, iS 0, iS lim] [] (fun r out => r = .tup [] ∧ out = []) := by
  refine spec_of_body (N := 134) (m := 0) (dt := drawsOf [(17, .node [0, 1, 2, 3, 4, 5, 6, 7, 8, 9, 10, 11] [(12, .leaf [13, 14])], [12])]) [] ttOK Try.func75 rfl Try.call75 Try.ntmps75 rfl rfl rfl mixed (by kernel_rfl) ?_
  refine AtLoop.mk ⟨Unit, fun _ => [(0, nilS), (1, iS 0), (2, iS 0)], fun _ => ⟨[], [], []⟩, fun _ => True, fun _ => 0, (), trivial, ⟨rfl, rfl, rfl, trivial⟩, StLe.refl _, fun _ _ => ⟨rfl, rfl⟩, ?_⟩
  intro _ _
  refine AtIf.mk (fun _ => ?_) (fun h => by cases h)
  refine insertion_none.at (by simp) rfl rfl ?_
  rintro r out ⟨rfl, rfl⟩
  exact AtRet.pure [] rfl (by simp) ⟨rfl, rfl⟩

theorem len64_zero : Pure Try.prog (fnS 87) [.v (.int .u64 0)] [] (fun r out => r = iS 0 ∧ out = []) := by
  refine spec_of_body (N := 25) (m := 0) (dt := fun _ => none) [] ttOK Try.func87 rfl Try.call87 Try.ntmps87 rfl rfl rfl mixed (by kernel_rfl) ?_
  refine AtIf.mk (fun h => by cases h) (fun _ => ?_)
  refine AtIf.mk (fun h => by cases h) (fun _ => ?_)
  refine AtIf.mk (fun h => by cases h) (fun _ => ?_)
  refine AtSem.val (.v (.int .u8 0)) rfl (fun _ _ => by kernel_rfl) ?_
  refine AtPure.val (.v (.int .u8 0)) rfl (fun _ _ => by kernel_rfl) ?_
  refine AtSem.val (.v (.int .i64 0)) rfl (fun _ _ => by kernel_rfl) ?_
  exact AtRet.pure [] rfl (by simp) ⟨rfl, rfl⟩

theorem len_zero : Pure Try.prog (fnS 76) [.v (.int .u64 0)] [] (fun r out => r = iS 0 ∧ out = []) := by
  refine spec_of_body (N := 8) (m := 0) (dt := fun _ => none) [] ttOK Try.func76 rfl Try.call76 Try.ntmps76 rfl rfl rfl mixed (by kernel_rfl) ?_
  refine AtIf.mk (fun h => by cases h) (fun _ => ?_)
  refine len64_zero.at (by simp) rfl rfl ?_
  rintro r out ⟨rfl, rfl⟩
  exact AtRet.pure [] rfl (by simp) ⟨rfl, rfl⟩

theorem sort_none : Pure Try.prog (fnS 71) [nilS] [] (fun r out => r = .tup [] ∧ out = []) := by
  refine spec_of_body (N := 11) (m := 0) (dt := fun _ => none) [] ttOK Try.func71 rfl Try.call71 Try.ntmps71 rfl rfl rfl mixed (by kernel_rfl) ?_
  refine AtSem.val (.v (.int .u64 0)) rfl (fun _ _ => by kernel_rfl) ?_
  refine len_zero.at (by simp) rfl rfl ?_
  rintro r out ⟨rfl, rfl⟩
  refine (pdq_none 0).at (by simp) rfl rfl ?_
  rintro r out ⟨rfl, rfl⟩
  exact AtRet.pure [] rfl (by simp) ⟨rfl, rfl⟩

/-- What may grow is nil, or lies in a block. -/
theorem acc_cases {P : Program} {cl : Cal} {args : List SV} {v : Value} {k : Nat} {T : TypeId} {ds : List D} {R : Out → St → Prop} (h1 : v = .slice none 0 0 → ds = [] → Meets P cl args ⟨[], [⟨v, k, T, ds⟩], []⟩ R) (h2 : ∀ b cap, v = .slice (some ⟨b, 0, none⟩) ds.length cap → Meets P cl args ⟨[], [⟨v, k, T, ds⟩], []⟩ R) : Meets P cl args ⟨[], [⟨v, k, T, ds⟩], []⟩ R := by
  intro J ℓ w hG hJ
  rcases hG.accs _ (List.mem_singleton.2 rfl) with ⟨hv, hd⟩ | ⟨b, cap, c, hv, _⟩
  · exact h1 hv hd J ℓ w hG hJ
  · exact h2 b cap hv J ℓ w hG hJ

theorem sort_spec (ks : List Int) (v : Value) (hlen : ks.length < 4611686018427387904) :
    Meets Try.prog (fnS 71) [.v v] ⟨[], [⟨v, 1, 3, ks.map (D.int .i64)⟩], []⟩ (fun o S' => o = .ret (.tup []) ∧ S' = ⟨[], [⟨v, 1, 3, (sorted ks).map (D.int .i64)⟩], []⟩) := by
  refine acc_cases (fun hv hd => ?_) (fun b cap hv => ?_)
  · have hk : ks = [] := by simpa using hd
    subst hv hk
    refine sort_none.at (by simp) rfl rfl ?_
    rintro r out ⟨rfl, rfl⟩
    exact ⟨rfl, by simp [sorted]⟩
  · rw [List.length_map] at hv
    subst hv
    exact sort_some ks b cap hlen

theorem collect_spec (l : List (Int × Value)) (hL : l.length ≤ 1000000) :
    Meets Try.prog (fnS 70) [.fn (.func 72) [] [.loc 1 0]] ⟨[.obj (mapO .i64 l), .cells 95 [.mp 0]], [], []⟩
      (fun o S' => ∃ (ks : List Int) (v : Value), ks.Perm (l.map (·.1)) ∧ o = .ret (.v v) ∧ S' = ⟨[.obj (mapO .i64 l), .cells 95 [.mp 0]], [⟨v, 1, 3, ks.map (D.int .i64)⟩], []⟩) := by
  refine spec_of_body (N := 5) (m := 2) (dt := fun _ => none) [] ttOK Try.func70 rfl Try.call70 Try.ntmps70 rfl rfl rfl mixed (by kernel_rfl) ?_
  refine (Meets.nilAcc 1 3 (appendSeq_spec l hL)).frame0 [] [] rfl (by simp) ?_ (by simp) rfl rfl ?_
  · intro q hq
    simp only [List.mem_cons, List.not_mem_nil, or_false] at hq
    rcases hq with rfl | rfl <;> rfl
  rintro o s' ⟨ks, v, hp, rfl, rfl⟩
  refine ⟨rfl, ?_⟩
  exact ret_keep [.obj (mapO .i64 l), .cells 95 [.mp 0]] rfl rfl rfl rfl rfl ⟨ks, v, hp, rfl, rfl⟩

theorem sorted_spec (l : List (Int × Value)) (hL : l.length ≤ 1000000) :
    Meets Try.prog (fnS 66) [.fn (.func 72) [] [.loc 1 0]] ⟨[.obj (mapO .i64 l), .cells 95 [.mp 0]], [], []⟩
      (fun o S' => ∃ (v : Value), o = .ret (.v v) ∧ S' = ⟨[.obj (mapO .i64 l), .cells 95 [.mp 0]], [⟨v, 1, 3, (sorted (l.map (·.1))).map (D.int .i64)⟩], []⟩) := by
  refine spec_of_body (N := 9) (m := 2) (dt := fun _ => none) [] ttOK Try.func66 rfl Try.call66 Try.ntmps66 rfl rfl rfl mixed (by kernel_rfl) ?_
  refine (collect_spec l hL).frame0 [] [] rfl (by simp) ?_ (by simp) rfl rfl ?_
  · intro q hq
    simp only [List.mem_cons, List.not_mem_nil, or_false] at hq
    rcases hq with rfl | rfl <;> rfl
  rintro o s' ⟨ks, v, hp, rfl, rfl⟩
  refine ⟨rfl, ?_⟩
  have hks : ks.length ≤ 1000000 := by rw [hp.length_eq, List.length_map]; exact hL
  refine (sort_spec ks v (by omega)).frame0 [.obj (mapO .i64 l), .cells 95 [.mp 0]] [] rfl (by simp) (by simp) (by simp) rfl rfl ?_
  rintro o s' ⟨rfl, rfl⟩
  refine ⟨rfl, ?_⟩
  refine ret_keep [.obj (mapO .i64 l), .cells 95 [.mp 0]] rfl rfl rfl rfl rfl ⟨v, rfl, ?_⟩
  have hs : sorted ks = sorted (l.map (·.1)) := sorted_perm hp
  rw [hs]; rfl
end Go.Proofs.Ytjjgfenincdgpaa
