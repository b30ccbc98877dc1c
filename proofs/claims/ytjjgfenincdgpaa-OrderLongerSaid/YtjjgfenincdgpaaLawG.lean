/- The law OrderLonger: it answers true. Condition: the arguments read as terms. -/
import Derived.Test.YtjjgfenincdgpaaLawF
namespace Go.Proofs.Ytjjgfenincdgpaa
open Go.Tr Go
set_option maxRecDepth 10000

mutual
theorem fv_sh : ∀ (t : Tm) (k : Int), okAll t = true → ∀ x ∈ fvF (sh t k) k, x - 1 ∈ fvF t k
  | .mk o h n us, k, hok, x, hx => by
    have hus : okAllL us = true := by simp only [okAll, Bool.and_eq_true] at hok; exact hok.2
    rw [sh_mk hok] at hx
    simp only [fvF, List.mem_append] at hx ⊢
    rcases hx with hx | hx
    · left
      by_cases h1 : (o = 4 ∧ h = 1) ∧ n ≥ k
      · rw [if_pos h1, if_pos ⟨h1.1.1, h1.1.2, by omega⟩] at hx
        rw [if_pos ⟨h1.1.1, h1.1.2, h1.2⟩]
        simp only [List.mem_singleton] at hx ⊢
        omega
      · rw [if_neg h1, if_neg (fun hh => h1 ⟨⟨hh.1, hh.2.1⟩, hh.2.2⟩)] at hx
        simp at hx
    · exact .inr (fv_shL o us 0 k hus x hx)
theorem fv_shL : ∀ (o : Int) (us : List Tm) (i : Nat) (k : Int), okAllL us = true → ∀ x ∈ fvL o (movedL o us i 1 k) i k, x - 1 ∈ fvL o us i k
  | _, [], _, _, _, x, hx => by simp [movedL, fvL] at hx
  | o, u :: us, i, k, hok, x, hx => by
    simp only [okAllL, Bool.and_eq_true] at hok
    simp only [movedL, fvL, List.mem_append] at hx ⊢
    rcases hx with hx | hx
    · exact .inl (fv_sh u (k + under o i) hok.1 x hx)
    · exact .inr (fv_shL o us (i + 1) k hok.2 x hx)
 end

theorem object_sh {t : Tm} {n : Int} (h : isObjectF t n = true) (hp : isProper (sh t 0) = true) : isObjectF (sh t 0) (n + 1) = true := by
  obtain ⟨h1, h2⟩ := (isObjectF_iff t n).1 h
  rw [isObjectF_iff]
  refine ⟨hp, fun x hx => ?_⟩
  have := h2 _ (fv_sh t 0 ((isProper_iff t).1 h1).1 x hx)
  omega

theorem object_more {t : Tm} {n : Int} (h : isObjectF t n = true) : isObjectF t (n + 1) = true := by
  obtain ⟨h1, h2⟩ := (isObjectF_iff t n).1 h
  rw [isObjectF_iff]
  refine ⟨h1, fun x hx => ?_⟩
  have := h2 x hx
  omega

theorem cmpF_sh {fx : Int} {a b : Tm} (ha : okAll a = true) (hb : okAll b = true) (hf : 0 ≤ fx) (h : cmpF fx a b ≠ 0) : cmpF (fx + 1) (sh a 0) (sh b 0) = cmpF fx a b := by
  rcases cmpF_cases fx a b with h1 | h1 | h1
  · exact absurd h1 h
  · rw [h1]
    rw [cmpF_one] at h1 ⊢
    rw [h1]
  · obtain ⟨h2, h3⟩ := cmpF_two hb h1
    rw [h1]
    obtain ⟨hs1, hs2, hs3⟩ := stripF_spec b.height b (Nat.le_refl _) hb
    have hls := lessF_strip fx a b.height b (Nat.le_refl _) (okAll_lamOK b hb) 0 0
    have hss := sh_strip b.height b (Nat.le_refl _) hb 0
    have hls2 := lessF_strip (fx + 1) (sh a 0) (sh b 0).height (sh b 0) (Nat.le_refl _) (sh_lamOK b 0 (okAll_lamOK b hb)) 0 0
    rw [Nat.zero_add] at hls hls2
    rw [hss] at hls2
    simp only at hls2
    have h4 := (less_sh fx a ha hf (stripF b).1.height).2 (stripF b).1 (stripF b).2 0 (Nat.le_refl _) hs3 hs1 (by rw [← hls]; exact h3)
    have ec : (0 : Int) + ((stripF b).2 : Int) = ((0 + (stripF b).2 : Nat) : Int) := by omega
    rw [ec] at hls2
    rw [← hls2] at h4
    unfold cmpF
    rw [if_neg, if_pos h4]
    rw [sameF_iff]
    intro e
    have h5 := sh_count a 0
    have h6 := sh_count b 0
    rw [e] at h5
    omega

theorem shift_one {t : Tm} (hp : isProper t = true) : shiftF t 1 0 = if isProper (sh t 0) = false then (tm0, 5) else (sh t 0, 0) := by
  rw [shiftF, if_neg (by simp [hp]), if_neg (by omega)]

theorem orderLonger_spec (n fx : Int) (t u : Tm) (a1 a2 : Option Addr) (c1 c2 : Nat) : Pure Try.prog (fnS 5) [iS n, iS fx, tmS t a1 c1, tmS u a2 c2] [tmR t a1 c1, tmR u a2 c2] (fun r out => r = bS true ∧ out = []) := by
  refine spec_of_body (N := 93) (m := 0) (dt := fun _ => none) [] ttOK Try.func5 rfl Try.call5 Try.ntmps5 rfl rfl rfl mixed (by kernel_rfl) ?_
  refine (Compare_spec n fx t u a1 a2 c1 c2).at (by simp) rfl rfl ?_
  rintro r out ⟨rfl, rfl⟩
  by_cases hc : isScopeF n fx = true ∧ isObjectF t n = true ∧ isObjectF u n = true
  rotate_left
  · rw [compareE_bad hc]
    refine AtIf.mk (fun _ => ?_) (fun h => by cases h)
    refine awake_spec.at (by simp) rfl rfl ?_
    rintro r out ⟨rfl, rfl⟩
    exact AtRet.pure [] rfl (by simp) ⟨rfl, rfl⟩
  obtain ⟨hs, ht, hu⟩ := hc
  have htp := isObjectF_proper ht
  have hup := isObjectF_proper hu
  have htp2 := (isProper_iff t).1 htp
  have hup2 := (isProper_iff u).1 hup
  rw [compareE_good hs ht hu]
  have hs2 := hs
  simp only [isScopeF, Bool.and_eq_true, decide_eq_true_eq] at hs2
  refine AtIf.mk (fun _ => ?_) (fun h => ?_)
  · refine awake_spec.at (by simp) rfl rfl ?_
    rintro r out ⟨rfl, rfl⟩
    exact AtRet.pure [] rfl (by simp) ⟨rfl, rfl⟩
  have h25 : ¬ n > 25 := by simpa using h
  have hw1 : IntKind.i64.wrap (n + 1) = n + 1 := wrap_i64 (by omega) (by omega)
  have hw2 : IntKind.i64.wrap (fx + 1) = fx + 1 := wrap_i64 (by omega) (by omega)
  have hsA : isScopeF (n + 1) fx = true := by simp only [isScopeF, Bool.and_eq_true, decide_eq_true_eq]; omega
  have hsB : isScopeF (n + 1) (fx + 1) = true := by simp only [isScopeF, Bool.and_eq_true, decide_eq_true_eq]; omega
  refine (Compare_spec (IntKind.i64.wrap (n + 1)) fx t u a1 a2 c1 c2).at (by simp) rfl rfl ?_
  rintro r out ⟨rfl, rfl⟩
  rw [hw1, compareE_good hsA (object_more ht) (object_more hu)]
  refine (shift_spec t 1 0 a1 c1).at (by simp) rfl rfl ?_
  rw [shift_one htp]
  rintro r out ⟨a3, c3, rfl, rfl⟩
  refine (shift_spec u 1 0 a2 c2).at (by simp) rfl rfl ?_
  rw [shift_one hup]
  rintro r out ⟨a4, c4, rfl, rfl⟩
  cases hx : isProper (sh t 0) with
  | false =>
    rw [if_pos rfl]
    refine AtIf.mk (fun _ => ?_) (fun h => by cases h)
    refine awake_spec.at (by simp) rfl rfl ?_
    rintro r out ⟨rfl, rfl⟩
    exact AtRet.pure [] rfl (by simp) ⟨rfl, rfl⟩
  | true =>
  rw [if_neg (by decide)]
  cases hy : isProper (sh u 0) with
  | false =>
    rw [if_pos rfl]
    refine AtIf.mk (fun _ => ?_) (fun h => by cases h)
    refine awake_spec.at (by simp) rfl rfl ?_
    rintro r out ⟨rfl, rfl⟩
    exact AtRet.pure [] rfl (by simp) ⟨rfl, rfl⟩
  | true =>
  rw [if_neg (by decide)]
  refine AtIf.mk (fun h => by cases h) (fun _ => ?_)
  refine (Compare_spec (IntKind.i64.wrap (n + 1)) (IntKind.i64.wrap (fx + 1)) (sh t 0) (sh u 0) a3 a4 c3 c4).at (by simp) rfl rfl ?_
  rintro r out ⟨rfl, rfl⟩
  rw [hw1, hw2, compareE_good hsB (object_sh ht hx) (object_sh hu hy)]
  have hfin : ((cmpF fx t u == 0) || (cmpF (fx + 1) (sh t 0) (sh u 0) == cmpF fx t u)) = true := by
    by_cases h : cmpF fx t u = 0
    · simp [h]
    · rw [cmpF_sh htp2.1 hup2.1 (by omega) h]
      simp
  refine AtGuard.mk (fun _ => ?_) (fun h => ?_)
  rotate_left
  · exfalso
    have h : ((((0 : Int) == 0 && cmpF fx t u == cmpF fx t u) && (0 : Int) == 0) && ((cmpF fx t u == 0) || (cmpF (fx + 1) (sh t 0) (sh u 0) == cmpF fx t u))) = false := h
    rw [hfin] at h
    simp at h
  refine awake_spec.at (by simp) rfl rfl ?_
  rintro r out ⟨rfl, rfl⟩
  exact AtRet.pure [] rfl (by simp) ⟨rfl, rfl⟩
end Go.Proofs.Ytjjgfenincdgpaa
