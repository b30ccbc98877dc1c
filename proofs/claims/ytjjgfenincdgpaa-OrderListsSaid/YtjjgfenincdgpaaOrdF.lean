/- Proper terms in plain words; the contract of order.Compare. Condition: the arguments read as terms. -/
import Derived.Test.YtjjgfenincdgpaaOrdE
namespace Go.Proofs.Ytjjgfenincdgpaa
open Go.Tr Go
set_option maxRecDepth 10000

mutual
/-- Each node is built as nodes are. -/
def okAll : Tm → Bool
  | .mk o h n us => okNode o h n us.length && okAllL us
def okAllL : List Tm → Bool
  | [] => true
  | u :: us => okAll u && okAllL us
 end

theorem okAllL_mem : ∀ {us : List Tm} {u : Tm}, okAllL us = true → u ∈ us → okAll u = true
  | [], u, _, h => by simp at h
  | v :: us, u, h, hm => by
    simp only [okAllL, Bool.and_eq_true] at h
    rcases List.mem_cons.1 hm with e | e
    · subst e; exact h.1
    · exact okAllL_mem h.2 e

theorem okAll_arg {t u : Tm} (h : okAll t = true) (hu : u ∈ t.args) : okAll u = true := by
  cases t; simp only [okAll, Bool.and_eq_true] at h; exact okAllL_mem h.2 hu

mutual
theorem Tm.count_pos : ∀ t : Tm, 1 ≤ t.count
  | .mk _ _ _ us => by simp only [Tm.count]; omega
theorem Tm.height_pos : ∀ t : Tm, 1 ≤ t.height
  | .mk _ _ _ us => by simp only [Tm.height]; omega
 end

mutual
theorem properF_iff : ∀ (t : Tm) (d k : Int), (properF t d k).1 = true ↔ okAll t = true ∧ k + t.count ≤ 600 ∧ d + t.height ≤ 41
  | .mk o h n us, d, k => by
    have hl := properL_iff us (d + 1) (k + 1)
    simp only [properF, Tm.count, Tm.height, okAll, Bool.and_eq_true]
    by_cases h1 : 600 < k + 1 ∨ 40 < d
    · rw [if_pos h1]
      simp only [Bool.false_eq_true, false_iff]
      omega
    · rw [if_neg h1]
      by_cases h2 : okNode o h n us.length = true
      · rw [if_pos h2, hl]
        simp only [h2, true_and]
        constructor
        · rintro ⟨h3, h4, h5⟩
          refine ⟨h3, ?_, ?_⟩
          · rcases h4 with h4 | rfl
            · omega
            · simp only [Tm.countL]; omega
          rcases h5 with rfl | h5
          · simp only [Tm.heightL]; omega
          · omega
        · rintro ⟨h3, h4, h5⟩
          exact ⟨h3, .inl (by omega), .inr (by omega)⟩
      · rw [if_neg h2]
        simp [h2]
theorem properL_iff : ∀ (us : List Tm) (d k : Int), (properL us d k).1 = true ↔ okAllL us = true ∧ (k + Tm.countL us ≤ 600 ∨ us = []) ∧ (us = [] ∨ d + Tm.heightL us ≤ 41)
  | [], d, k => by simp [properL, okAllL]
  | u :: us, d, k => by
    have h1 := properF_iff u d k
    have hc := fun h => properF_count u d k h
    have hp := Tm.count_pos u
    have hq := Tm.height_pos u
    simp only [properL, okAllL, Tm.countL, Tm.heightL, Bool.and_eq_true]
    cases hu : properF u d k with
    | mk b k' =>
      rw [hu] at h1 hc
      cases b with
      | false =>
        simp only [Bool.false_eq_true, false_iff] at h1 ⊢
        rintro ⟨⟨h2, h3⟩, h4, h5⟩
        simp at h4 h5
        exact h1 ⟨h2, by omega, by omega⟩
      | true =>
        have h1 := h1.1 rfl
        have hk := (hc rfl).1
        simp only at hk
        subst hk
        simp only
        rw [properL_iff us d (k + u.count)]
        simp only [h1.1, true_and, reduceCtorEq, or_false, false_or]
        constructor
        · rintro ⟨h2, h3, h4⟩
          refine ⟨h2, ?_, ?_⟩
          · rcases h3 with h3 | rfl
            · omega
            · simp only [Tm.countL]; omega
          · rcases h4 with rfl | h4
            · simp only [Tm.heightL]; omega
            · omega
        · rintro ⟨h2, h3, h4⟩
          exact ⟨h2, .inl (by omega), .inr (by omega)⟩
 end

theorem isProper_iff (t : Tm) : isProper t = true ↔ okAll t = true ∧ t.count ≤ 600 ∧ t.height ≤ 40 := by
  rw [isProper, properF_iff]
  constructor
  · rintro ⟨h1, h2, h3⟩; exact ⟨h1, by omega, by omega⟩
  · rintro ⟨h1, h2, h3⟩; exact ⟨h1, by omega, by omega⟩

mutual
theorem okAll_lamOK : ∀ t : Tm, okAll t = true → lamOK t = true
  | .mk o h n us, hp => by
    simp only [okAll, Bool.and_eq_true] at hp
    simp only [lamOK, Bool.and_eq_true, Bool.or_eq_true, bne_iff_ne]
    refine ⟨?_, okAllL_lamOK us hp.2⟩
    by_cases ho : o = 3
    · right
      subst ho
      have := hp.1
      cases us with
      | nil => simp [okNode] at this
      | cons u us => rfl
    · exact .inl ho
theorem okAllL_lamOK : ∀ us : List Tm, okAllL us = true → lamOKL us = true
  | [], _ => rfl
  | u :: us, hp => by
    simp only [okAllL, Bool.and_eq_true] at hp
    simp only [lamOKL, Bool.and_eq_true]
    exact ⟨okAll_lamOK u hp.1, okAllL_lamOK us hp.2⟩
 end

theorem isObjectF_proper {t : Tm} {n : Int} (h : isObjectF t n = true) : isProper t = true := by
  simp only [isObjectF, Bool.and_eq_true] at h; exact h.1

/-- What order.Compare answers. -/
def compareE (n fx : Int) (a b : Tm) : Int × Int := if isScopeF n fx = true ∧ isObjectF a n = true ∧ isObjectF b n = true then (compareF fx a b, 0) else (0, 2)

theorem Compare_spec (n fx : Int) (a b : Tm) (a1 a2 : Option Addr) (c1 c2 : Nat) :
    Pure Try.prog (fnS 9) [iS n, iS fx, tmS a a1 c1, tmS b a2 c2] [tmR a a1 c1, tmR b a2 c2] (fun r out => r = .tup [iS (compareE n fx a b).1, iS (compareE n fx a b).2] ∧ out = []) := by
  refine spec_of_body (N := 32) (m := 0) (dt := fun _ => none) [] ttOK Try.func9 rfl Try.call9 Try.ntmps9 rfl rfl rfl mixed (by kernel_rfl) ?_
  refine (isScope_spec n fx).at (by simp) rfl rfl ?_
  rintro r out ⟨rfl, rfl⟩
  have bad : ¬ (isScopeF n fx = true ∧ isObjectF a n = true ∧ isObjectF b n = true) → compareE n fx a b = (0, 2) := fun h => by rw [compareE, if_neg h]
  refine AtGuard.mk (fun h1 => ?_) (fun h1 => ?_)
  rotate_left
  · have h1 : isScopeF n fx = false := by simpa using h1
    refine AtGuard.mk (fun h2 => by simp at h2) (fun h2 => ?_)
    refine AtIf.mk (fun h3 => ?_) (fun h3 => by simp at h3)
    rw [bad (by simp [h1])]
    exact AtRet.pure [] rfl (by simp) ⟨rfl, rfl⟩
  have h1 : isScopeF n fx = true := by simpa using h1
  refine (isObject_spec a a1 c1 n).at (by simp) rfl rfl ?_
  rintro r out ⟨rfl, rfl⟩
  refine AtGuard.mk (fun h2 => ?_) (fun h2 => ?_)
  rotate_left
  · have h2 : isObjectF a n = false := by simpa [h1] using h2
    refine AtIf.mk (fun h3 => ?_) (fun h3 => by simp at h3)
    rw [bad (by simp [h2])]
    exact AtRet.pure [] rfl (by simp) ⟨rfl, rfl⟩
  have h2 : isObjectF a n = true := by simpa [h1] using h2
  refine (isObject_spec b a2 c2 n).at (by simp) rfl rfl ?_
  rintro r out ⟨rfl, rfl⟩
  refine AtIf.mk (fun h3 => ?_) (fun h3 => ?_)
  · have h3 : isObjectF b n = false := by simpa [h1, h2] using h3
    rw [bad (by simp [h3])]
    exact AtRet.pure [] rfl (by simp) ⟨rfl, rfl⟩
  have h3 : isObjectF b n = true := by simpa [h1, h2] using h3
  have hp := (isProper_iff b).1 (isObjectF_proper h3)
  refine (compare_spec n fx a b a1 a2 c1 c2 (okAll_lamOK b hp.1) (by omega)).at (by simp) rfl rfl ?_
  rintro r out ⟨rfl, rfl⟩
  rw [compareE, if_pos ⟨h1, h2, h3⟩]
  exact AtRet.pure [] rfl (by simp) ⟨rfl, rfl⟩
end Go.Proofs.Ytjjgfenincdgpaa
