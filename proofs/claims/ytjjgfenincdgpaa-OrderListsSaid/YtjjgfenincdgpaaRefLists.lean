/- The contract of trussref15.Lists, and the plain law: the program's answer is the reference's. Conditions: the order fits the lists; the lists' terms are built as terms are. -/
import Derived.Test.YtjjgfenincdgpaaShapesD
import Derived.Test.YtjjgfenincdgpaaLawD
namespace Go.Proofs.Ytjjgfenincdgpaa
open Go.Tr Go
set_option maxRecDepth 10000

section
variable (fx : Int) (A B : List Tm)
mutual
/-- What two lists are by an order, for the reference. -/
def refO : Od → Int
  | .mk o n ps => if o = 1 then cmpF fx (A.getD n.toNat tm0) (B.getD n.toNat tm0) else refLs o ps false
def refLs : Int → List Od → Bool → Int
  | _, [], sm => if sm then 2 else 1
  | o, p :: ps, sm => if o = 2 ∧ refO p ≠ 1 then refO p else if refO p = 0 then 0 else refLs o ps (sm || refO p == 2)
 end
theorem refO_eq (t : Od) : refO fx A B t = if t.op = 1 then cmpF fx (A.getD t.n.toNat tm0) (B.getD t.n.toNat tm0) else refLs fx A B t.op t.parts false := by cases t; rfl
end

theorem refLists_spec (fx : Int) (A B : List Tm) (a1 a2 : Option Addr) (c1 c2 : Nat) (m : Nat) (hA : m ≤ A.length) (hB : m ≤ B.length) (hAl : ∀ x ∈ A, okAll x = true ∧ x.height ≤ 1000000) (hBl : ∀ x ∈ B, okAll x = true ∧ x.height ≤ 1000000) (hf0 : 0 ≤ fx) (hf1 : fx ≤ 1000000) (t : Od) :
    ∀ (a0 a3 : Option Addr) (c0 c3 : Nat), fitO m t →
    Pure Try.prog (fnS 23) [odS t a0 c0, odS t a3 c3, iS fx, .v (.slice a1 (Tm.encL A).length c1), .v (.slice a2 (Tm.encL B).length c2)] [odR t a0 c0, odR t a3 c3, (.slice a1 (Tm.encL A).length c1, .sl 4 (Tm.encL A)), (.slice a2 (Tm.encL B).length c2, .sl 4 (Tm.encL B))] (fun r out => r = iS (refO fx A B t) ∧ out = []) := by
  induction t using Od.ind with
  | h t ih =>
  intro a0 a3 c0 c3 hfit
  refine Meets.of_ok fun hok => ?_
  have hBd : (Od.encL t.parts).length ≤ 1152921504606846976 := (hok _ (List.mem_cons_self ..)).1
  have hlen := Od.encL_length t.parts
  have hF := refO_eq fx A B t
  rw [fitO_eq] at hfit
  refine spec_of_body (N := 66) (m := 0) (dt := drawsOf [(2, .node [0, 1, 2, 3, 4, 5, 6, 7, 8, 9, 10] [(11, .leaf [12])], [11]), (7, .node [0, 1, 2, 3, 4, 5, 6, 7, 8, 9, 10, 11, 12] [(13, .leaf [14])], [13])]) [] ttOK Try.func23 rfl Try.call23 Try.ntmps23 rfl rfl rfl mixed (by kernel_rfl) ?_
  refine AtIf.mk (fun h1 => ?_) (fun h1 => ?_)
  · have h1 : t.op = 1 := by simpa using h1
    rw [if_pos h1] at hF hfit
    obtain ⟨x, hx⟩ : ∃ x, A[t.n.toNat]? = some x := ⟨_, List.getElem?_eq_getElem (by omega)⟩
    obtain ⟨y, hy⟩ : ∃ y, B[t.n.toNat]? = some y := ⟨_, List.getElem?_eq_getElem (by omega)⟩
    refine at_index ttOK 2 rfl rfl rfl rfl hfit.1 (Tm.encL_get hx) ?_
    intro b1 d1 _ _
    refine at_index ttOK 3 rfl rfl rfl rfl hfit.1 (Tm.encL_get hy) ?_
    intro b2 d2 _ _
    have hxl := hAl x (List.mem_of_getElem? hx)
    have hyl := hBl y (List.mem_of_getElem? hy)
    refine (refCompare_spec fx x y b1 b2 d1 d2 hxl.1 hxl.2 hyl.1 hyl.2 hf0 hf1).at (by simp) rfl rfl ?_
    rintro r out ⟨rfl, rfl⟩
    refine AtRet.pure [] rfl (by simp) ⟨?_, rfl⟩
    rw [hF, List.getD_eq_getElem?_getD, List.getD_eq_getElem?_getD, hx, hy]
    rfl
  have h1 : ¬ t.op = 1 := by simpa using h1
  rw [if_neg h1] at hF hfit
  refine AtLoop.mk ⟨Nat × Bool, fun x => [(12, iS x.1), (11, bS x.2), (5, .loc 0 0), (6, .loc 1 0), (2, iS fx), (3, .v (.slice a1 (Tm.encL A).length c1)), (4, .v (.slice a2 (Tm.encL B).length c2))],
    fun _ => ⟨[.cells 41 [iS t.op, iS t.n, .v (.slice a0 (Od.encL t.parts).length c0)], .cells 41 [iS t.op, iS t.n, .v (.slice a3 (Od.encL t.parts).length c3)]], [], [odR t a0 c0, odR t a3 c3, (.slice a1 (Tm.encL A).length c1, .sl 4 (Tm.encL A)), (.slice a2 (Tm.encL B).length c2, .sl 4 (Tm.encL B))]⟩,
    fun x => x.1 ≤ t.parts.length ∧ refO fx A B t = refLs fx A B t.op (t.parts.drop x.1) x.2, fun x => t.parts.length - x.1, (0, false), ⟨Nat.zero_le _, hF⟩, ⟨rfl, rfl, rfl, rfl, rfl, rfl, rfl, trivial⟩, StLe.refl _, fun _ _ => ⟨rfl, rfl⟩, ?_⟩
  rintro ⟨i, sm⟩ ⟨hi, hinv⟩
  simp only at hi hinv ⊢
  refine AtIf.mk (fun h3 => ?_) (fun h3 => ?_)
  rotate_left
  · simp only [decide_eq_false_iff_not, hlen] at h3
    rw [List.drop_of_length_le (by omega), refLs] at hinv
    refine AtIf.mk (fun h4 => ?_) (fun h4 => ?_)
    · have h4 : sm = true := h4
      exact AtRet.pure [] rfl (by simp) ⟨by rw [hinv, h4]; rfl, rfl⟩
    · have h4 : sm = false := h4
      exact AtRet.pure [] rfl (by simp) ⟨by rw [hinv, h4]; rfl, rfl⟩
  simp only [decide_eq_true_eq, hlen] at h3
  obtain ⟨x, hx⟩ : ∃ x, t.parts[i]? = some x := ⟨_, List.getElem?_eq_getElem (by omega)⟩
  have hxm := List.mem_of_getElem? hx
  have hw3 : IntKind.i64.wrap (i + 1) = ((i + 1 : Nat) : Int) := wrap_i64 (by omega) (by omega)
  rw [drop_cons hx, refLs] at hinv
  refine at_index ttOK 0 rfl rfl rfl rfl (by omega) (by rw [Int.toNat_natCast]; exact Od.encL_get hx) ?_
  intro b1 d1 _ _
  refine at_index ttOK 1 rfl rfl rfl rfl (by omega) (by rw [Int.toNat_natCast]; exact Od.encL_get hx) ?_
  intro b2 d2 _ _
  refine (ih x hxm b1 b2 d1 d2 (fitL_mem hfit hxm)).at ?_ rfl rfl ?_
  · intro p hp
    simp only [List.mem_cons, List.not_mem_nil, or_false] at hp
    rcases hp with rfl | rfl | rfl | rfl <;> simp
  rintro r out ⟨rfl, rfl⟩
  generalize refO fx A B x = v at hinv ⊢
  refine AtIf.mk (fun h4 => ?_) (fun h4 => ?_)
  · have h4 : t.op = 2 ∧ v ≠ 1 := by simpa using h4
    rw [if_pos h4] at hinv
    exact AtRet.pure [] rfl (by simp) ⟨by rw [hinv], rfl⟩
  have h4 : ¬ (t.op = 2 ∧ v ≠ 1) := by
    intro hh
    simp [hh.1, hh.2] at h4
  rw [if_neg h4] at hinv
  refine AtIf.mk (fun h5 => ?_) (fun h5 => ?_)
  · have h5 : v = 0 := by simpa using h5
    rw [if_pos h5] at hinv
    exact AtRet.pure [] rfl (by simp) ⟨by rw [hinv], rfl⟩
  have h5 : ¬ v = 0 := by simpa using h5
  rw [if_neg h5] at hinv
  refine AtIf.mk (fun h6 => ?_) (fun h6 => ?_)
  · have h6 : (v == 2) = true := h6
    rw [h6, Bool.or_true] at hinv
    exact ⟨(i + 1, true), ⟨by omega, hinv⟩, by simp only; omega, ⟨by rw [← hw3]; rfl, rfl, rfl, rfl, rfl, rfl, rfl, trivial⟩, StLe.to _ _ rfl (by simp) rfl rfl⟩
  · have h6 : (v == 2) = false := h6
    rw [h6, Bool.or_false] at hinv
    exact ⟨(i + 1, sm), ⟨by omega, hinv⟩, by simp only; omega, ⟨by rw [← hw3]; rfl, rfl, rfl, rfl, rfl, rfl, rfl, trivial⟩, StLe.to _ _ rfl (by simp) rfl rfl⟩

section
variable (fx : Int) (A B : List Tm)
mutual
theorem refO_cases : ∀ (t : Od), refO fx A B t = 0 ∨ refO fx A B t = 1 ∨ refO fx A B t = 2
  | .mk o n ps => by
    simp only [refO]
    split
    · exact cmpF_cases ..
    · exact refLs_cases o ps false
theorem refLs_cases : ∀ (o : Int) (ps : List Od) (sm : Bool), refLs fx A B o ps sm = 0 ∨ refLs fx A B o ps sm = 1 ∨ refLs fx A B o ps sm = 2
  | o, [], sm => by cases sm <;> simp [refLs]
  | o, p :: ps, sm => by
    have h1 := refO_cases p
    simp only [refLs]
    split
    · exact h1
    · split
      · exact .inl rfl
      · exact refLs_cases o ps _
 end

end

structure ListsOK (fx : Int) (A B : List Tm) (m : Nat) : Prop where
  a : m ≤ A.length
  b : m ≤ B.length
  al : ∀ x ∈ A, okAll x = true ∧ x.height ≤ 1000
  bl : ∀ x ∈ B, okAll x = true ∧ x.height ≤ 1000
  f0 : 0 ≤ fx
  f1 : fx ≤ 1000000

mutual
/-- The program's answer is the reference's. -/
theorem cmpO_refO {fx : Int} {A B : List Tm} {m : Nat} (H : ListsOK fx A B m) : ∀ (t : Od), fitO m t → cmpO fx A B t = refO fx A B t
  | .mk o n ps, hfit => by
    simp only [fitO] at hfit
    simp only [cmpO, refO]
    by_cases h1 : o = 1
    · rw [if_pos h1] at hfit ⊢
      rw [if_pos h1]
      have hA := H.a
      have hB := H.b
      obtain ⟨x, hx⟩ : ∃ x, A[n.toNat]? = some x := ⟨_, List.getElem?_eq_getElem (by omega)⟩
      obtain ⟨y, hy⟩ : ∃ y, B[n.toNat]? = some y := ⟨_, List.getElem?_eq_getElem (by omega)⟩
      have hxl := H.al x (List.mem_of_getElem? hx)
      have hyl := H.bl y (List.mem_of_getElem? hy)
      rw [List.getD_eq_getElem?_getD, List.getD_eq_getElem?_getD, hx, hy]
      exact compareF_eq fx x hxl.1 (by omega) H.f0 H.f1 y hyl.1 hyl.2
    · rw [if_neg h1] at hfit ⊢
      rw [if_neg h1]
      by_cases h2 : o = 2
      · rw [if_pos h2, h2]
        exact lexO_refLs H ps hfit
      · rw [if_neg h2]
        exact simO_refLs H o h2 ps false hfit
theorem lexO_refLs {fx : Int} {A B : List Tm} {m : Nat} (H : ListsOK fx A B m) : ∀ (ps : List Od), fitL m ps → lexO fx A B ps = refLs fx A B 2 ps false
  | [], _ => rfl
  | p :: ps, hfit => by
    simp only [fitL] at hfit
    simp only [lexO, refLs, cmpO_refO H p hfit.1]
    by_cases h : refO fx A B p ≠ 1
    · rw [if_pos h, if_pos ⟨trivial, h⟩]
    · rw [if_neg h, if_neg (fun hh => h hh.2)]
      have h : refO fx A B p = 1 := by omega
      rw [h, if_neg (by decide)]
      exact lexO_refLs H ps hfit.2
theorem simO_refLs {fx : Int} {A B : List Tm} {m : Nat} (H : ListsOK fx A B m) (o : Int) (ho : o ≠ 2) : ∀ (ps : List Od) (sm : Bool), fitL m ps → simO fx A B ps (if sm then 2 else 1) = refLs fx A B o ps sm
  | [], sm, _ => rfl
  | p :: ps, sm, hfit => by
    simp only [fitL] at hfit
    simp only [simO, refLs, cmpO_refO H p hfit.1]
    have hno : ¬ (o = 2 ∧ refO fx A B p ≠ 1) := fun hh => ho hh.1
    have hih := simO_refLs H o ho ps (sm || refO fx A B p == 2) hfit.2
    rw [if_neg hno]
    by_cases h0 : refO fx A B p = 0
    · rw [if_pos h0, if_pos h0]
    · rw [if_neg h0, if_neg h0, ← hih]
      congr 1
      rcases refO_cases fx A B p with h | h | h
      · exact absurd h h0
      · rw [h]; cases sm <;> rfl
      · rw [h]; cases sm <;> rfl
 end
end Go.Proofs.Ytjjgfenincdgpaa
