/- The laws OrderSmaller and OrderParts: they answer true. Condition: the arguments read as terms. -/
import Derived.Test.YtjjgfenincdgpaaLawD
namespace Go.Proofs.Ytjjgfenincdgpaa
open Go.Tr Go
set_option maxRecDepth 10000

theorem compareE_good {n fx : Int} {a b : Tm} (hs : isScopeF n fx = true) (ha : isObjectF a n = true) (hb : isObjectF b n = true) : compareE n fx a b = (cmpF fx a b, 0) := by
  rw [compareE_eq, lawFree_eq, lawFree_eq, if_pos ⟨hs, ha, hb⟩]
theorem compareE_bad {n fx : Int} {a b : Tm} (h : ¬ (isScopeF n fx = true ∧ isObjectF a n = true ∧ isObjectF b n = true)) : compareE n fx a b = (0, 2) := by
  rw [compareE, if_neg h]

theorem nodes_count {t : Tm} (h : isProper t = true) : nodesF t 600 = t.count := by
  have := (isProper_iff t).1 h
  rw [nodesF_count t 600 (by omega)]
  omega

/-- Two bools are compared. -/
theorem at_boolNe {x y : Operand} {a b : Bool} {S : St} {K : SV → St → Prop} (h : K (bS (a != b)) S) : AtPure Try.prog (fun ℓ => do eqGuard .neq 4 x y ((bS a).den ℓ) ((bS b).den ℓ); binOp .neq 4 ((bS a).den ℓ) ((bS b).den ℓ)) S K := by
  refine AtPure.val _ rfl (fun ℓ w => ?_) h
  cases a <;> cases b <;> kernel_rfl

theorem orderSmaller_spec (n fx : Int) (t u : Tm) (a1 a2 : Option Addr) (c1 c2 : Nat) : Pure Try.prog (fnS 4) [iS n, iS fx, tmS t a1 c1, tmS u a2 c2] [tmR t a1 c1, tmR u a2 c2] (fun r out => r = bS true ∧ out = []) := by
  refine spec_of_body (N := 99) (m := 0) (dt := fun _ => none) [] ttOK Try.func4 rfl Try.call4 Try.ntmps4 rfl rfl rfl mixed (by kernel_rfl) ?_
  refine (Compare_spec n fx t u a1 a2 c1 c2).at (by simp) rfl rfl ?_
  rintro r out ⟨rfl, rfl⟩
  by_cases hc : isScopeF n fx = true ∧ isObjectF t n = true ∧ isObjectF u n = true
  rotate_left
  · rw [compareE_bad hc]
    refine AtIf.mk (fun _ => ?_) (fun h => by cases h)
    refine AtGuard.mk (fun _ => ?_) (fun h => by cases h)
    refine awake_spec.at (by simp) rfl rfl ?_
    rintro r out ⟨rfl, rfl⟩
    exact AtRet.pure [] rfl (by simp) ⟨rfl, rfl⟩
  obtain ⟨hs, ht, hu⟩ := hc
  have htp := isObjectF_proper ht
  have hup := isObjectF_proper hu
  have htp2 := (isProper_iff t).1 htp
  have hup2 := (isProper_iff u).1 hup
  rw [compareE_good hs ht hu]
  refine AtIf.mk (fun h => by cases h) (fun _ => ?_)
  refine (Compare_spec n fx u t a2 a1 c2 c1).at (by simp) rfl rfl ?_
  rintro r out ⟨rfl, rfl⟩
  rw [compareE_good hs hu ht]
  refine (Compare_spec n fx t t a1 a1 c1 c1).at (by simp) rfl rfl ?_
  rintro r out ⟨rfl, rfl⟩
  rw [compareE_good hs ht ht, (cmpF_one fx t t).2 rfl]
  refine (size_spec t a1 c1 (by omega)).at (by simp) rfl rfl ?_
  rintro r out ⟨rfl, rfl⟩
  refine (size_spec u a2 c2 (by omega)).at (by simp) rfl rfl ?_
  rintro r out ⟨rfl, rfl⟩
  rw [nodes_count htp, nodes_count hup]
  refine AtGuard.mk (fun _ => ?_) (fun h => by cases h)
  refine (refSame_spec t u a1 a2 c1 c2).at (by simp) rfl rfl ?_
  rintro r out ⟨rfl, rfl⟩
  have e1 : sameF t u = (cmpF fx t u == 1) := by
    rw [Bool.eq_iff_iff, sameF_iff, beq_iff_eq, cmpF_one]
  have e2 : (cmpF fx u t == 1) = (cmpF fx t u == 1) := by
    rw [Bool.eq_iff_iff, beq_iff_eq, beq_iff_eq, cmpF_one, cmpF_one]
    exact ⟨fun h => h.symm, fun h => h.symm⟩
  refine at_boolNe ?_
  refine AtGuard.mk (fun h0 => ?_) (fun h0 => ?_)
  rotate_left
  · exfalso
    rw [e1] at h0
    simp at h0
  refine at_boolNe ?_
  refine AtIf.mk (fun h => ?_) (fun _ => ?_)
  · exfalso
    have h : ((cmpF fx u t == 1) != (cmpF fx t u == 1)) = true := h
    rw [e2] at h
    simp at h
  have hfin : (cmpF fx t u != 2 || (decide ((t.count : Int) < u.count) && cmpF fx u t == 0)) = true := by
    by_cases h2 : cmpF fx t u = 2
    · have h3 := (cmpF_two hup2.1 h2).1
      have h4 : cmpF fx u t = 0 := by
        rcases cmpF_cases fx u t with h4 | h4 | h4
        · exact h4
        · rw [cmpF_one] at h4
          subst h4
          omega
        · have := (cmpF_two htp2.1 h4).1
          omega
      rw [h2, h4]
      simp
      exact h3
    · simp [h2]
  refine AtGuard.mk (fun _ => ?_) (fun h => ?_)
  rotate_left
  · exfalso
    have h : (cmpF fx t u != 2 || (decide ((t.count : Int) < u.count) && cmpF fx u t == 0)) = false := h
    rw [hfin] at h
    cases h
  refine awake_spec.at (by simp) rfl rfl ?_
  rintro r out ⟨rfl, rfl⟩
  exact AtRet.pure [] rfl (by simp) ⟨rfl, rfl⟩

theorem under_four (i : Int) : under 4 i = 0 := by rw [under, if_neg (by omega)]

theorem fvL_app {n : Int} : ∀ (us : List Tm) (i : Nat), (∀ x ∈ us, isObjectF x n = true) → ∀ y ∈ fvL 4 us i 0, y < n
  | [], i, _, y, hy => by simp [fvL] at hy
  | u :: us, i, h, y, hy => by
    simp only [fvL, under_four, Int.add_zero, List.mem_append] at hy
    rcases hy with hy | hy
    · exact ((isObjectF_iff u n).1 (h u (by simp))).2 y hy
    · exact fvL_app us (i + 1) (fun x hx => h x (by simp [hx])) y hy

theorem object_app {m n : Int} {us : List Tm} (hp : isProper (.mk 4 2 m us) = true) (h : ∀ x ∈ us, isObjectF x n = true) : isObjectF (.mk 4 2 m us) n = true := by
  rw [isObjectF_iff]
  refine ⟨hp, fun x hx => ?_⟩
  simp only [fvF] at hx
  rw [if_neg (by rintro ⟨_, h, _⟩; exact absurd h (by decide)), List.nil_append] at hx
  exact fvL_app us 0 h x hx

theorem cmpF_app {fx m : Int} {a : Tm} {us : List Tm} (h : anyF fx a us 0 = true) (hne : a ≠ .mk 4 2 m us) : cmpF fx a (.mk 4 2 m us) = 2 := by
  unfold cmpF
  rw [if_neg (by rw [sameF_iff]; exact hne), if_pos (less_app fx a 2 m us rfl h)]

theorem orderParts_spec (n fx : Int) (t u : Tm) (a1 a2 : Option Addr) (c1 c2 : Nat) : Pure Try.prog (fnS 6) [iS n, iS fx, tmS t a1 c1, tmS u a2 c2] [tmR t a1 c1, tmR u a2 c2] (fun r out => r = bS true ∧ out = []) := by
  refine spec_of_body (N := 92) (m := 0) (dt := drawsOf [(9, .node [0, 1, 2, 3] [(4, .node [] [(5, .node [] [(6, .leaf [7, 8, 9, 10, 11])])])], [6])]) [] ttOK Try.func6 rfl Try.call6 Try.ntmps6 rfl rfl rfl mixed (by kernel_rfl) ?_
  refine (Compare_spec n fx t u a1 a2 c1 c2).at (by simp) rfl rfl ?_
  rintro r out ⟨rfl, rfl⟩
  by_cases hc : isScopeF n fx = true ∧ isObjectF t n = true ∧ isObjectF u n = true
  rotate_left
  · rw [compareE_bad hc]
    refine AtIf.mk (fun _ => ?_) (fun h => by cases h)
    refine awake_spec.at (by simp) rfl rfl ?_
    rintro r out ⟨rfl, rfl⟩
    exact AtRet.pure [] rfl (by simp) ⟨rfl, rfl⟩
  obtain ⟨hs, ht, hu⟩ := hc
  have htp2 := (isProper_iff t).1 (isObjectF_proper ht)
  have hup2 := (isProper_iff u).1 (isObjectF_proper hu)
  rw [compareE_good hs ht hu]
  refine AtIf.mk (fun h => by cases h) (fun _ => ?_)
  refine at_build ttOK 48 [u.enc, t.enc] rfl (by kernel_rfl) ⟨⟨rfl, rfl, rfl, RepS_tm (a := a2) (c := c2) (by simp)⟩, ⟨rfl, rfl, rfl, RepS_tm (a := a1) (c := c1) (by simp)⟩, trivial⟩ rfl (by decide) (by decide) ?_
  intro a3
  refine (app_spec 2 1 [u, t] a3 2).at (by simp) rfl rfl ?_
  rintro r out ⟨rfl, rfl⟩
  refine (refProper_spec (.mk 4 2 1 [u, t]) a3 2).at (by simp [Tm.args, Tm.encL]) rfl rfl ?_
  rintro r out ⟨rfl, rfl⟩
  rw [refProper_eq]
  refine AtIf.mk (fun _ => ?_) (fun hp => ?_)
  · refine awake_spec.at (by simp) rfl rfl ?_
    rintro r out ⟨rfl, rfl⟩
    exact AtRet.pure [] rfl (by simp) ⟨rfl, rfl⟩
  have hp : isProper (.mk 4 2 1 [u, t]) = true := by simpa using hp
  have hpp := (isProper_iff (.mk 4 2 1 [u, t])).1 hp
  simp only [okAll, okAllL, Tm.count, Tm.countL, Tm.height, Tm.heightL, Bool.and_eq_true, List.length_cons, List.length_nil] at hpp
  have hp1 : isProper (.mk 4 2 1 [u]) = true := by
    rw [isProper_iff]
    simp only [okAll, okAllL, Tm.count, Tm.countL, Tm.height, Tm.heightL, Bool.and_eq_true, List.length_cons, List.length_nil]
    refine ⟨⟨rfl, hpp.1.2.1, trivial⟩, by omega, by omega⟩
  have ho2 : isObjectF (.mk 4 2 1 [u, t]) n = true := object_app hp (by intro x hx; simp at hx; rcases hx with rfl | rfl; exact hu; exact ht)
  have ho1 : isObjectF (.mk 4 2 1 [u]) n = true := object_app hp1 (by intro x hx; simp at hx; subst hx; exact hu)
  have ne_of : ∀ {x y : Tm}, x.count < y.count → x ≠ y := fun h e => by subst e; omega
  have hx : cmpF fx t (.mk 4 2 1 [u, t]) = 2 := by
    refine cmpF_app ?_ (ne_of (by simp only [Tm.count, Tm.countL]; omega))
    rw [anyF_cons, anyF_cons, inB_refl fx t htp2.1]
    simp
  have hy : cmpF fx u (.mk 4 2 1 [u, t]) = 2 := by
    refine cmpF_app ?_ (ne_of (by simp only [Tm.count, Tm.countL]; omega))
    rw [anyF_cons, inB_refl fx u hup2.1]
    simp
  have hz : cmpF fx t u = 0 ∨ cmpF fx t (.mk 4 2 1 [u]) = 2 := by
    rcases cmpF_cases fx t u with h | h | h
    · exact .inl h
    · right
      rw [cmpF_one] at h
      subst h
      refine cmpF_app ?_ (ne_of (by simp only [Tm.count, Tm.countL]; omega))
      rw [anyF_cons, inB_refl fx t htp2.1]
      simp
    · right
      obtain ⟨h1, h2⟩ := cmpF_two hup2.1 h
      refine cmpF_app ?_ (ne_of (by simp only [Tm.count, Tm.countL]; omega))
      rw [anyF_cons, inB_less hup2.1 h2]
      simp
  refine (Compare_spec n fx t (.mk 4 2 1 [u, t]) a1 a3 c1 2).at (by simp [Tm.args, Tm.encL]) rfl rfl ?_
  rintro r out ⟨rfl, rfl⟩
  rw [compareE_good hs ht ho2, hx]
  refine (Compare_spec n fx u (.mk 4 2 1 [u, t]) a2 a3 c2 2).at (by simp [Tm.args, Tm.encL]) rfl rfl ?_
  rintro r out ⟨rfl, rfl⟩
  rw [compareE_good hs hu ho2, hy]
  refine at_build ttOK 48 [u.enc] rfl (by kernel_rfl) ⟨⟨rfl, rfl, rfl, RepS_tm (a := a2) (c := c2) (by simp)⟩, trivial⟩ rfl (by decide) (by decide) ?_
  intro a4
  refine ⟨fun _ _ h => h, ?_⟩
  refine (app_spec 2 1 [u] a4 1).at (by simp) rfl rfl ?_
  rintro r out ⟨rfl, rfl⟩
  refine ⟨fun _ _ h => h, ?_⟩
  refine (Compare_spec n fx t (.mk 4 2 1 [u]) a1 a4 c1 1).at (by simp [Tm.args, Tm.encL]) rfl rfl ?_
  rintro r out ⟨rfl, rfl⟩
  rw [compareE_good hs ht ho1]
  have hfin : ((cmpF fx t u == 0) || (cmpF fx t (.mk 4 2 1 [u]) == 2)) = true := by
    rcases hz with h | h <;> simp [h]
  refine AtGuard.mk (fun _ => ?_) (fun h => ?_)
  rotate_left
  · exfalso
    have h : ((cmpF fx t u == 0) || (cmpF fx t (.mk 4 2 1 [u]) == 2)) = false := h
    rw [hfin] at h
    cases h
  refine awake_spec.at (by simp) rfl rfl ?_
  rintro r out ⟨rfl, rfl⟩
  exact AtRet.pure [] rfl (by simp) ⟨rfl, rfl⟩
end Go.Proofs.Ytjjgfenincdgpaa
