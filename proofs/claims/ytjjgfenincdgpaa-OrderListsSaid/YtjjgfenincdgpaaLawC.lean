/- The contracts of trusslaw15.awake and of the law OrderCompares: it answers true. Condition: the arguments read as terms. -/
import Derived.Test.YtjjgfenincdgpaaLawB
import Derived.Test.YtjjgfenincdgpaaFwQ
namespace Go.Proofs.Ytjjgfenincdgpaa
open Go.Tr Go
set_option maxRecDepth 10000

def tmX : Tm := .mk 4 1 0 []
def tmC : Tm := .mk 4 2 2 [tmX]

theorem cmpXC : compareE 1 0 tmX tmC = (2, 0) := by rw [compareE_eq]; decide +kernel
theorem cmpCC : compareE 1 0 tmC tmC = (1, 0) := by rw [compareE_eq]; decide +kernel
theorem cmpCX : compareE 1 0 tmC tmX = (0, 0) := by rw [compareE_eq]; decide +kernel

theorem awake_spec : Pure Try.prog (fnS 11) [] [] (fun r out => r = bS true ∧ out = []) := by
  refine Meets.nilRep 3 ?_
  refine Meets.nilRep 4 ?_
  refine spec_of_body (N := 59) (m := 0) (dt := fun _ => none) [] ttOK Try.func11 rfl Try.call11 Try.ntmps11 rfl rfl rfl mixed (by kernel_rfl) ?_
  refine (app_spec 1 0 [] none 0).at (by simp) rfl rfl ?_
  rintro r out ⟨rfl, rfl⟩
  refine at_build ttOK 48 [tmX.enc] rfl (by kernel_rfl) ⟨⟨rfl, rfl, rfl, RepS_tm (t := tmX) (a := none) (c := 0) (List.mem_cons_self ..)⟩, trivial⟩ rfl (by decide) (by decide) ?_
  intro a
  refine (app_spec 2 2 [tmX] a 1).at (by simp) rfl rfl ?_
  rintro r out ⟨rfl, rfl⟩
  refine (Compare_spec 1 0 tmX tmC none a 0 1).at ?_ rfl rfl ?_
  · intro p hp
    simp only [List.mem_cons, List.not_mem_nil, or_false] at hp
    rcases hp with rfl | rfl
    · exact List.mem_cons_self ..
    · exact List.mem_cons_of_mem _ (List.mem_cons_of_mem _ (List.mem_cons_self ..))
  rw [cmpXC]
  rintro r out ⟨rfl, rfl⟩
  refine (Compare_spec 1 0 tmC tmC a a 1 1).at ?_ rfl rfl ?_
  · intro p hp
    simp only [List.mem_cons, List.not_mem_nil, or_false] at hp
    rcases hp with rfl | rfl
    · exact List.mem_cons_of_mem _ (List.mem_cons_of_mem _ (List.mem_cons_self ..))
    · exact List.mem_cons_of_mem _ (List.mem_cons_of_mem _ (List.mem_cons_self ..))
  rw [cmpCC]
  rintro r out ⟨rfl, rfl⟩
  refine (Compare_spec 1 0 tmC tmX a none 1 0).at ?_ rfl rfl ?_
  · intro p hp
    simp only [List.mem_cons, List.not_mem_nil, or_false] at hp
    rcases hp with rfl | rfl
    · exact List.mem_cons_of_mem _ (List.mem_cons_of_mem _ (List.mem_cons_self ..))
    · exact List.mem_cons_self ..
  rw [cmpCX]
  rintro r out ⟨rfl, rfl⟩
  refine AtGuard.mk (fun _ => ?_) (fun h => by cases h)
  refine (similar_spec (.mk 1 0 []) (.mk 1 3 []) none none 0 0).at ?_ rfl rfl ?_
  · intro p hp
    simp only [List.mem_cons, List.not_mem_nil, or_false] at hp
    rcases hp with rfl | rfl
    · exact List.mem_cons_of_mem _ (List.mem_cons_self ..)
    · exact List.mem_cons_of_mem _ (List.mem_cons_self ..)
  rintro r out ⟨rfl, rfl⟩
  refine AtIf.mk (fun h => by cases h) (fun _ => ?_)
  exact AtRet.pure [] rfl (by simp) ⟨rfl, rfl⟩

/-- What OrderCompares asks of its numbers. -/
theorem isScopeF_not {n fx : Int} : isScopeF n fx = !(((decide (n < 0) || decide (n > 30)) || decide (fx < 0)) || decide (fx > n)) := by
  rw [Bool.eq_iff_iff]
  simp [isScopeF]

theorem orderCompares_spec (n fx : Int) (t u : Tm) (a1 a2 : Option Addr) (c1 c2 : Nat) : Pure Try.prog (fnS 3) [iS n, iS fx, tmS t a1 c1, tmS u a2 c2] [tmR t a1 c1, tmR u a2 c2] (fun r out => r = bS true ∧ out = []) := by
  refine spec_of_body (N := 68) (m := 0) (dt := fun _ => none) [] ttOK Try.func3 rfl Try.call3 Try.ntmps3 rfl rfl rfl mixed (by kernel_rfl) ?_
  refine (Compare_spec n fx t u a1 a2 c1 c2).at (by simp) rfl rfl ?_
  rintro r out ⟨rfl, rfl⟩
  have hE := compareE_eq n fx t u
  have hsc := @isScopeF_not n fx
  by_cases hc : isScopeF n fx = true ∧ lawFree t n = true ∧ lawFree u n = true
  · rw [if_pos hc] at hE
    rw [hE]
    obtain ⟨hs, ht, hu⟩ := hc
    rw [hs] at hsc
    refine AtGuard.mk (fun h1 => ?_) (fun h1 => ?_)
    rotate_left
    · exfalso
      have h1 : (decide (n < 0) || decide (n > 30) || decide (fx < 0) || decide (fx > n)) = true := h1
      rw [h1] at hsc
      cases hsc
    rw [show (decide (n < 0) || decide (n > 30) || decide (fx < 0) || decide (fx > n)) = false from h1]
    refine (lawFree_spec t n a1 c1).at (by simp) rfl rfl ?_
    rintro r out ⟨rfl, rfl⟩
    rw [ht]
    refine AtGuard.mk (fun _ => ?_) (fun h => by cases h)
    refine (lawFree_spec u n a2 c2).at (by simp) rfl rfl ?_
    rintro r out ⟨rfl, rfl⟩
    rw [hu]
    refine AtIf.mk (fun h => by cases h) (fun _ => ?_)
    have htp := (isProper_iff t).1 ((lawFree_iff t n).1 ht).1
    have hup := (isProper_iff u).1 ((lawFree_iff u n).1 hu).1
    simp only [isScopeF, Bool.and_eq_true, decide_eq_true_eq] at hs
    refine (refCompare_spec fx t u a1 a2 c1 c2 htp.1 (by omega) hup.1 (by omega) (by omega) (by omega)).at (by simp) rfl rfl ?_
    rintro r out ⟨rfl, rfl⟩
    refine AtGuard.mk (fun _ => ?_) (fun h => by simp at h)
    refine awake_spec.at (by simp) rfl rfl ?_
    rintro r out ⟨rfl, rfl⟩
    refine AtRet.pure [] rfl (by simp) ⟨?_, rfl⟩
    simp
  · rw [if_neg hc] at hE
    rw [hE]
    refine AtGuard.mk (fun h1 => ?_) (fun h1 => ?_)
    rotate_left
    · rw [show (decide (n < 0) || decide (n > 30) || decide (fx < 0) || decide (fx > n)) = true from h1]
      refine AtGuard.mk (fun h => by cases h) (fun _ => ?_)
      refine AtIf.mk (fun _ => ?_) (fun h => by cases h)
      refine AtGuard.mk (fun _ => ?_) (fun h => by cases h)
      refine awake_spec.at (by simp) rfl rfl ?_
      rintro r out ⟨rfl, rfl⟩
      exact AtRet.pure [] rfl (by simp) ⟨rfl, rfl⟩
    have h1 : (decide (n < 0) || decide (n > 30) || decide (fx < 0) || decide (fx > n)) = false := h1
    rw [h1] at hsc ⊢
    refine (lawFree_spec t n a1 c1).at (by simp) rfl rfl ?_
    rintro r out ⟨rfl, rfl⟩
    cases ht : lawFree t n with
    | false =>
      refine AtGuard.mk (fun h => by cases h) (fun _ => ?_)
      refine AtIf.mk (fun _ => ?_) (fun h => by cases h)
      refine AtGuard.mk (fun _ => ?_) (fun h => by cases h)
      refine awake_spec.at (by simp) rfl rfl ?_
      rintro r out ⟨rfl, rfl⟩
      exact AtRet.pure [] rfl (by simp) ⟨rfl, rfl⟩
    | true =>
      refine AtGuard.mk (fun _ => ?_) (fun h => by cases h)
      refine (lawFree_spec u n a2 c2).at (by simp) rfl rfl ?_
      rintro r out ⟨rfl, rfl⟩
      cases hu : lawFree u n with
      | true => exact (hc ⟨hsc, ht, hu⟩).elim
      | false =>
        refine AtIf.mk (fun _ => ?_) (fun h => by cases h)
        refine AtGuard.mk (fun _ => ?_) (fun h => by cases h)
        refine awake_spec.at (by simp) rfl rfl ?_
        rintro r out ⟨rfl, rfl⟩
        exact AtRet.pure [] rfl (by simp) ⟨rfl, rfl⟩
end Go.Proofs.Ytjjgfenincdgpaa
