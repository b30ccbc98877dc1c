/- The contracts of the shapes' compare, and of order.Lists. Conditions: the arguments read as orders and terms; compare: the order fits the lists. -/
import Derived.Test.YtjjgfenincdgpaaShapesC
import Derived.Test.YtjjgfenincdgpaaLawB
namespace Go.Proofs.Ytjjgfenincdgpaa
open Go.Tr Go
set_option maxRecDepth 10000

theorem mArg (v : Value) (xs : Array Value) (w : World) : (callMethod (.iface 82 v) "truss/order.compare" xs).run Try.prog w = .ok (.enter 110 (#[v] ++ xs)) w := by kernel_rfl
theorem mLex (v : Value) (xs : Array Value) (w : World) : (callMethod (.iface 84 v) "truss/order.compare" xs).run Try.prog w = .ok (.enter 111 (#[v] ++ xs)) w := by kernel_rfl
theorem mSim (v : Value) (xs : Array Value) (w : World) : (callMethod (.iface 85 v) "truss/order.compare" xs).run Try.prog w = .ok (.enter 112 (#[v] ++ xs)) w := by kernel_rfl

section
variable (fx : Int) (A B : List Tm)
mutual
/-- What two lists are by an order, for the program. -/
def cmpO : Od → Int
  | .mk o n ps => if o = 1 then compareF fx (A.getD n.toNat tm0) (B.getD n.toNat tm0) else if o = 2 then lexO ps else simO ps 1
def lexO : List Od → Int
  | [] => 1
  | p :: ps => if cmpO p ≠ 1 then cmpO p else lexO ps
def simO : List Od → Int → Int
  | [], out => out
  | p :: ps, out => if cmpO p = 0 then 0 else simO ps (if cmpO p > out then cmpO p else out)
 end
theorem cmpO_eq (t : Od) : cmpO fx A B t = if t.op = 1 then compareF fx (A.getD t.n.toNat tm0) (B.getD t.n.toNat tm0) else if t.op = 2 then lexO fx A B t.parts else simO fx A B t.parts 1 := by cases t; rfl
end

mutual
/-- An order of so many arguments. -/
def fitO (m : Nat) : Od → Prop
  | .mk o n ps => if o = 1 then 0 ≤ n ∧ n < m else fitL m ps
def fitL (m : Nat) : List Od → Prop
  | [] => True
  | p :: ps => fitO m p ∧ fitL m ps
 end
theorem fitL_mem {m : Nat} : ∀ {ps : List Od} {p : Od}, fitL m ps → p ∈ ps → fitO m p
  | [], p, _, h => by simp at h
  | q :: ps, p, h, hm => by
    simp only [fitL] at h
    rcases List.mem_cons.1 hm with e | e
    · subst e; exact h.1
    · exact fitL_mem h.2 e
theorem fitO_eq (m : Nat) (t : Od) : fitO m t = if t.op = 1 then 0 ≤ t.n ∧ t.n < m else fitL m t.parts := by cases t; rfl

theorem cmp_spec (N fx : Int) (A B : List Tm) (a1 a2 : Option Addr) (c1 c2 : Nat) (m : Nat) (hA : m ≤ A.length) (hB : m ≤ B.length) (hBl : ∀ x ∈ B, lamOK x = true ∧ x.height ≤ 1000000) (t : Od) :
    ∀ (s : SV) (q : Value × D), fitO m t → ShapeIs t s q →
    Pure Try.prog (.meth s "truss/order.compare") [.agg [iS N, iS fx], .v (.slice a1 (Tm.encL A).length c1), .v (.slice a2 (Tm.encL B).length c2)] [q, (.slice a1 (Tm.encL A).length c1, .sl 4 (Tm.encL A)), (.slice a2 (Tm.encL B).length c2, .sl 4 (Tm.encL B))] (fun r out => r = iS (cmpO fx A B t) ∧ out = []) := by
  induction t using Od.ind with
  | h t ih =>
  intro s q hfit hsh
  rw [fitO_eq] at hfit
  have hF := cmpO_eq fx A B t
  -- what stands in a list of shapes
  rcases hsh with ⟨h1, rfl⟩ | ⟨h1, a, c, rfl, rfl⟩ | ⟨⟨h1, h2⟩, a, c, rfl, rfl⟩
  · rw [if_pos h1] at hF hfit
    refine Meets.meth mArg Try.call110 ?_
    refine spec_of_body (N := 19) (m := 0) (dt := drawsOf [(1, .node [0, 1, 2, 3, 4, 5, 6, 7, 8] [(9, .leaf [10])], [9])]) [] ttOK Try.func110 rfl Try.call110 Try.ntmps110 rfl rfl rfl mixed (by kernel_rfl) ?_
    obtain ⟨x, hx⟩ : ∃ x, A[t.n.toNat]? = some x := ⟨_, List.getElem?_eq_getElem (by omega)⟩
    obtain ⟨y, hy⟩ : ∃ y, B[t.n.toNat]? = some y := ⟨_, List.getElem?_eq_getElem (by omega)⟩
    refine at_index ttOK 1 rfl rfl rfl rfl hfit.1 (Tm.encL_get hx) ?_
    intro b1 d1 _ _
    refine at_index ttOK 2 rfl rfl rfl rfl hfit.1 (Tm.encL_get hy) ?_
    intro b2 d2 _ _
    have hyl := hBl y (List.mem_of_getElem? hy)
    refine (compare_spec N fx x y b1 b2 d1 d2 hyl.1 hyl.2).at (by simp) rfl rfl ?_
    rintro r out ⟨rfl, rfl⟩
    refine AtRet.pure [] rfl (by simp) ⟨?_, rfl⟩
    rw [hF, List.getD_eq_getElem?_getD, List.getD_eq_getElem?_getD, hx, hy]
    rfl
  · rw [if_neg (by omega), if_pos h1] at hF
    rw [if_neg (by omega)] at hfit
    refine Meets.meth mLex Try.call111 ?_
    refine Meets.of_ok fun hok => ?_
    have hBd : (shDL t.parts).length ≤ 1152921504606846976 := (hok _ (List.mem_cons_self ..)).1
    have hlen := shDL_length t.parts
    refine spec_of_body (N := 27) (m := 0) (dt := fun _ => none) [3,3] ttOK Try.func111 rfl Try.call111 Try.ntmps111 rfl rfl rfl mixed (by kernel_rfl) ?_
    refine AtLoop.mk ⟨Nat, fun i => [(14, iS i), (13, iS (shDL t.parts).length), (12, .v (.slice a (shDL t.parts).length c)), (5, .loc 0 0), (2, .v (.slice a1 (Tm.encL A).length c1)), (3, .v (.slice a2 (Tm.encL B).length c2))],
      fun _ => ⟨[.cells 54 [iS N, iS fx]], [], [(.slice a (shDL t.parts).length c, .sl 1 (shDL t.parts)), (.slice a1 (Tm.encL A).length c1, .sl 4 (Tm.encL A)), (.slice a2 (Tm.encL B).length c2, .sl 4 (Tm.encL B))]⟩,
      fun i => i ≤ t.parts.length ∧ cmpO fx A B t = lexO fx A B (t.parts.drop i), fun i => t.parts.length - i, 0, ⟨Nat.zero_le _, hF⟩, ⟨rfl, rfl, rfl, rfl, rfl, rfl, trivial⟩, StLe.refl _, fun _ _ => ⟨rfl, rfl⟩, ?_⟩
    rintro i ⟨hi, hinv⟩
    refine AtIf.mk (fun h3 => ?_) (fun h3 => ?_)
    rotate_left
    · simp only [decide_eq_false_iff_not, hlen] at h3
      rw [List.drop_of_length_le (by omega)] at hinv
      exact AtRet.pure [] rfl (by simp) ⟨by rw [hinv]; rfl, rfl⟩
    simp only [decide_eq_true_eq, hlen] at h3
    obtain ⟨x, hx⟩ : ∃ x, t.parts[i]? = some x := ⟨_, List.getElem?_eq_getElem (by omega)⟩
    have hxm := List.mem_of_getElem? hx
    rw [drop_cons hx, lexO] at hinv
    refine AtCut.mk ⟨Unit, fun _ => [(14, iS i), (13, iS (shDL t.parts).length), (12, .v (.slice a (shDL t.parts).length c)), (5, .loc 0 0), (2, .v (.slice a1 (Tm.encL A).length c1)), (3, .v (.slice a2 (Tm.encL B).length c2))],
      fun _ => ⟨[.cells 54 [iS N, iS fx]], [], [(.slice a (shDL t.parts).length c, .sl 1 (shDL t.parts)), (.slice a1 (Tm.encL A).length c1, .sl 4 (Tm.encL A)), (.slice a2 (Tm.encL B).length c2, .sl 4 (Tm.encL B))]⟩,
      fun _ => cmpO fx A B t = lexO fx A B (t.parts.drop (i + 1)), fun _ _ => ⟨rfl, rfl⟩, ?_, ?_⟩
    rotate_left
    · intro _ hnext
      have hw3 : IntKind.i64.wrap (i + 1) = ((i + 1 : Nat) : Int) := wrap_i64 (by omega) (by omega)
      exact ⟨i + 1, ⟨by omega, hnext⟩, by simp only; omega, ⟨by rw [← hw3]; rfl, rfl, rfl, rfl, rfl, rfl, trivial⟩, StLe.refl _⟩
    refine AtCut.mk ⟨SV × (Value × D), fun y => [(10, y.1), (14, iS i), (13, iS (shDL t.parts).length), (12, .v (.slice a (shDL t.parts).length c)), (5, .loc 0 0), (2, .v (.slice a1 (Tm.encL A).length c1)), (3, .v (.slice a2 (Tm.encL B).length c2))],
      fun y => ⟨[.cells 54 [iS N, iS fx]], [], [(.slice a (shDL t.parts).length c, .sl 1 (shDL t.parts)), (.slice a1 (Tm.encL A).length c1, .sl 4 (Tm.encL A)), (.slice a2 (Tm.encL B).length c2, .sl 4 (Tm.encL B)), y.2]⟩,
      fun y => ShapeIs x y.1 y.2, fun y hy => ⟨by simp [envWf, SV.wf, SV.wf_mono (show 0 ≤ 1 by omega) y.1 hy.one.2.2]; rfl, rfl⟩, ?_, ?_⟩
    · refine at_index ttOK 0 rfl rfl rfl rfl (by omega) (by rw [Int.toNat_natCast]; exact shDL_get hx) ?_
      rw [shD_eq]
      by_cases e1 : x.op = 1
      · rw [if_pos e1]
        exact ⟨(.ifc 82 (iS x.n), (.slice a (shDL t.parts).length c, .sl 1 (shDL t.parts))), .inl ⟨e1, rfl⟩, ⟨rfl, rfl, rfl, rfl, rfl, rfl, rfl, trivial⟩, StLe.to _ _ rfl (by simp) rfl rfl⟩
      · rw [if_neg e1]
        intro b3 d3 _ _
        by_cases e2 : x.op = 2
        · rw [if_pos e2]
          exact ⟨(.ifc 84 (.v (.slice b3 (shDL x.parts).length d3)), (.slice b3 (shDL x.parts).length d3, .sl 1 (shDL x.parts))), .inr (.inl ⟨e2, b3, d3, rfl, rfl⟩), ⟨rfl, rfl, rfl, rfl, rfl, rfl, rfl, trivial⟩, StLe.to _ _ rfl (by simp) rfl rfl⟩
        · rw [if_neg e2]
          exact ⟨(.ifc 85 (.v (.slice b3 (shDL x.parts).length d3)), (.slice b3 (shDL x.parts).length d3, .sl 1 (shDL x.parts))), .inr (.inr ⟨⟨e1, e2⟩, b3, d3, rfl, rfl⟩), ⟨rfl, rfl, rfl, rfl, rfl, rfl, rfl, trivial⟩, StLe.to _ _ rfl (by simp) rfl rfl⟩
    rintro ⟨s', q'⟩ hsx
    refine (ih x hxm s' q' (fitL_mem hfit hxm) hsx).at (by simp) rfl (by have := hsx.one.2.2; simpa [Cal.wf] using this) ?_
    rintro r out ⟨rfl, rfl⟩
    refine AtIf.mk (fun h4 => ?_) (fun h4 => ?_)
    · have h4 : cmpO fx A B x ≠ 1 := by simpa using h4
      rw [if_pos h4] at hinv
      exact AtRet.pure [] rfl (by simp) ⟨by rw [hinv], rfl⟩
    · have h4 : ¬ cmpO fx A B x ≠ 1 := by simpa using h4
      rw [if_neg h4] at hinv
      exact ⟨(), hinv, ⟨rfl, rfl, rfl, rfl, rfl, rfl, trivial⟩, StLe.to _ _ rfl (by simp) rfl rfl⟩
  · rw [if_neg h1, if_neg h2] at hF
    rw [if_neg h1] at hfit
    refine Meets.meth mSim Try.call112 ?_
    refine Meets.of_ok fun hok => ?_
    have hBd : (shDL t.parts).length ≤ 1152921504606846976 := (hok _ (List.mem_cons_self ..)).1
    have hlen := shDL_length t.parts
    refine spec_of_body (N := 31) (m := 0) (dt := fun _ => none) [4,4] ttOK Try.func112 rfl Try.call112 Try.ntmps112 rfl rfl rfl mixed (by kernel_rfl) ?_
    refine AtLoop.mk ⟨Nat × Int, fun x => [(15, iS x.1), (9, iS x.2), (14, iS (shDL t.parts).length), (13, .v (.slice a (shDL t.parts).length c)), (5, .loc 0 0), (2, .v (.slice a1 (Tm.encL A).length c1)), (3, .v (.slice a2 (Tm.encL B).length c2))],
      fun _ => ⟨[.cells 54 [iS N, iS fx]], [], [(.slice a (shDL t.parts).length c, .sl 1 (shDL t.parts)), (.slice a1 (Tm.encL A).length c1, .sl 4 (Tm.encL A)), (.slice a2 (Tm.encL B).length c2, .sl 4 (Tm.encL B))]⟩,
      fun x => x.1 ≤ t.parts.length ∧ cmpO fx A B t = simO fx A B (t.parts.drop x.1) x.2, fun x => t.parts.length - x.1, (0, 1), ⟨Nat.zero_le _, hF⟩, ⟨rfl, rfl, rfl, rfl, rfl, rfl, rfl, trivial⟩, StLe.refl _, fun _ _ => ⟨rfl, rfl⟩, ?_⟩
    rintro ⟨i, res⟩ ⟨hi, hinv⟩
    simp only at hi hinv ⊢
    refine AtIf.mk (fun h3 => ?_) (fun h3 => ?_)
    rotate_left
    · simp only [decide_eq_false_iff_not, hlen] at h3
      rw [List.drop_of_length_le (by omega)] at hinv
      exact AtRet.pure [] rfl (by simp) ⟨by rw [hinv]; rfl, rfl⟩
    simp only [decide_eq_true_eq, hlen] at h3
    obtain ⟨x, hx⟩ : ∃ x, t.parts[i]? = some x := ⟨_, List.getElem?_eq_getElem (by omega)⟩
    have hxm := List.mem_of_getElem? hx
    rw [drop_cons hx, simO] at hinv
    refine AtCut.mk ⟨Int, fun res => [(15, iS i), (9, iS res), (14, iS (shDL t.parts).length), (13, .v (.slice a (shDL t.parts).length c)), (5, .loc 0 0), (2, .v (.slice a1 (Tm.encL A).length c1)), (3, .v (.slice a2 (Tm.encL B).length c2))],
      fun _ => ⟨[.cells 54 [iS N, iS fx]], [], [(.slice a (shDL t.parts).length c, .sl 1 (shDL t.parts)), (.slice a1 (Tm.encL A).length c1, .sl 4 (Tm.encL A)), (.slice a2 (Tm.encL B).length c2, .sl 4 (Tm.encL B))]⟩,
      fun res => cmpO fx A B t = simO fx A B (t.parts.drop (i + 1)) res, fun _ _ => ⟨rfl, rfl⟩, ?_, ?_⟩
    rotate_left
    · intro res hnext
      have hw3 : IntKind.i64.wrap (i + 1) = ((i + 1 : Nat) : Int) := wrap_i64 (by omega) (by omega)
      exact ⟨(i + 1, res), ⟨by omega, hnext⟩, by simp only; omega, ⟨by rw [← hw3]; rfl, rfl, rfl, rfl, rfl, rfl, rfl, trivial⟩, StLe.refl _⟩
    refine AtCut.mk ⟨SV × (Value × D), fun y => [(11, y.1), (15, iS i), (9, iS res), (14, iS (shDL t.parts).length), (13, .v (.slice a (shDL t.parts).length c)), (5, .loc 0 0), (2, .v (.slice a1 (Tm.encL A).length c1)), (3, .v (.slice a2 (Tm.encL B).length c2))],
      fun y => ⟨[.cells 54 [iS N, iS fx]], [], [(.slice a (shDL t.parts).length c, .sl 1 (shDL t.parts)), (.slice a1 (Tm.encL A).length c1, .sl 4 (Tm.encL A)), (.slice a2 (Tm.encL B).length c2, .sl 4 (Tm.encL B)), y.2]⟩,
      fun y => ShapeIs x y.1 y.2, fun y hy => ⟨by simp [envWf, SV.wf, SV.wf_mono (show 0 ≤ 1 by omega) y.1 hy.one.2.2]; rfl, rfl⟩, ?_, ?_⟩
    · refine at_index ttOK 0 rfl rfl rfl rfl (by omega) (by rw [Int.toNat_natCast]; exact shDL_get hx) ?_
      rw [shD_eq]
      by_cases e1 : x.op = 1
      · rw [if_pos e1]
        exact ⟨(.ifc 82 (iS x.n), (.slice a (shDL t.parts).length c, .sl 1 (shDL t.parts))), .inl ⟨e1, rfl⟩, ⟨rfl, rfl, rfl, rfl, rfl, rfl, rfl, rfl, trivial⟩, StLe.to _ _ rfl (by simp) rfl rfl⟩
      · rw [if_neg e1]
        intro b3 d3 _ _
        by_cases e2 : x.op = 2
        · rw [if_pos e2]
          exact ⟨(.ifc 84 (.v (.slice b3 (shDL x.parts).length d3)), (.slice b3 (shDL x.parts).length d3, .sl 1 (shDL x.parts))), .inr (.inl ⟨e2, b3, d3, rfl, rfl⟩), ⟨rfl, rfl, rfl, rfl, rfl, rfl, rfl, rfl, trivial⟩, StLe.to _ _ rfl (by simp) rfl rfl⟩
        · rw [if_neg e2]
          exact ⟨(.ifc 85 (.v (.slice b3 (shDL x.parts).length d3)), (.slice b3 (shDL x.parts).length d3, .sl 1 (shDL x.parts))), .inr (.inr ⟨⟨e1, e2⟩, b3, d3, rfl, rfl⟩), ⟨rfl, rfl, rfl, rfl, rfl, rfl, rfl, rfl, trivial⟩, StLe.to _ _ rfl (by simp) rfl rfl⟩
    rintro ⟨s', q'⟩ hsx
    refine (ih x hxm s' q' (fitL_mem hfit hxm) hsx).at (by simp) rfl (by have := hsx.one.2.2; simpa [Cal.wf] using this) ?_
    rintro r out ⟨rfl, rfl⟩
    refine AtIf.mk (fun h4 => ?_) (fun h4 => ?_)
    · have h4 : cmpO fx A B x = 0 := by simpa using h4
      rw [if_pos h4] at hinv
      exact AtRet.pure [] rfl (by simp) ⟨by rw [hinv], rfl⟩
    · have h4 : ¬ cmpO fx A B x = 0 := by simpa using h4
      rw [if_neg h4] at hinv
      refine at_max ?_
      exact ⟨(if cmpO fx A B x > res then cmpO fx A B x else res), hinv, ⟨rfl, rfl, rfl, rfl, rfl, rfl, rfl, trivial⟩, StLe.to _ _ rfl (by simp) rfl rfl⟩

mutual
theorem right_fit (m : Nat) : ∀ (t : Od) (d : Int), rightF m t d = true → fitO m t ∧ smallO t
  | .mk o n ps, d, h => by
    simp only [rightF] at h
    simp only [fitO, smallO]
    split at h
    · rename_i h1
      simp only [Bool.and_eq_true, decide_eq_true_eq, List.isEmpty_iff] at h
      obtain ⟨⟨⟨h2, h3⟩, h4⟩, h5⟩ := h
      subst h4
      rw [if_pos h1]
      exact ⟨⟨h2, h3⟩, by simp, trivial⟩
    · rename_i h1
      split at h
      · rename_i h2
        have := right_fitL m ps (d + 1) h
        rw [if_neg h1]
        exact ⟨this.1, by omega, this.2⟩
      · cases h
theorem right_fitL (m : Nat) : ∀ (ps : List Od) (d : Int), rightL m ps d = true → fitL m ps ∧ smallOL ps
  | [], _, _ => ⟨trivial, trivial⟩
  | p :: ps, d, h => by
    simp only [rightL, Bool.and_eq_true] at h
    have h1 := right_fit m p d h.1
    have h2 := right_fitL m ps d h.2
    exact ⟨⟨h1.1, h2.1⟩, h1.2, h2.2⟩
 end

/-- What order.Lists answers. -/
def listsE (t : Od) (n fx : Int) (A B : List Tm) : Int × Int :=
  if isScopeF n fx = true ∧ rightF (min A.length B.length : Nat) t 0 = true ∧ (A.any fun x => !isObjectF x n) = false ∧ (B.any fun x => !isObjectF x n) = false then (cmpO fx A B t, 0) else (0, 2)

theorem lists_spec (t : Od) (n fx : Int) (A B : List Tm) (a0 a1 a2 : Option Addr) (c0 c1 c2 : Nat) : Pure Try.prog (fnS 19) [odS t a0 c0, iS n, iS fx, .v (.slice a1 (Tm.encL A).length c1), .v (.slice a2 (Tm.encL B).length c2)] [odR t a0 c0, (.slice a1 (Tm.encL A).length c1, .sl 4 (Tm.encL A)), (.slice a2 (Tm.encL B).length c2, .sl 4 (Tm.encL B))]
    (fun r out => r = .tup [iS (listsE t n fx A B).1, iS (listsE t n fx A B).2] ∧ out = []) := by
  have hla := Tm.encL_length A
  have hlb := Tm.encL_length B
  have bad : ¬ (isScopeF n fx = true ∧ rightF (min A.length B.length : Nat) t 0 = true ∧ (A.any fun x => !isObjectF x n) = false ∧ (B.any fun x => !isObjectF x n) = false) → listsE t n fx A B = (0, 2) := fun h => by rw [listsE, if_neg h]
  refine spec_of_body (N := 46) (m := 0) (dt := drawsOf [(4, .node [0, 2, 3, 4, 5, 6] [(1, .node [] [(7, .leaf [8, 9])])], [7])]) [] ttOK Try.func19 rfl Try.call19 Try.ntmps19 rfl rfl rfl mixed (by kernel_rfl) ?_
  refine (isScope_spec n fx).at (by simp) rfl rfl ?_
  rintro r out ⟨rfl, rfl⟩
  cases hs : isScopeF n fx with
  | false =>
    rw [bad (by simp [hs])]
    refine AtGuard.mk (fun h => by cases h) (fun _ => ?_)
    refine AtGuard.mk (fun h => by cases h) (fun _ => ?_)
    refine AtGuard.mk (fun h => by cases h) (fun _ => ?_)
    refine AtIf.mk (fun _ => ?_) (fun h => by cases h)
    exact AtRet.pure [] rfl (by simp) ⟨rfl, rfl⟩
  | true =>
  refine AtGuard.mk (fun _ => ?_) (fun h => by cases h)
  refine at_min ?_
  have hmin : (if ((Tm.encL B).length : Int) < (Tm.encL A).length then ((Tm.encL B).length : Int) else (Tm.encL A).length) = ((min A.length B.length : Nat) : Int) := by
    rw [hla, hlb]
    split <;> omega
  rw [hmin]
  refine (isOrder_spec ((min A.length B.length : Nat) : Int) t 0 a0 c0 (by omega) (by omega)).at (by simp) rfl rfl ?_
  rintro r out ⟨rfl, rfl⟩
  cases hr : rightF (min A.length B.length : Nat) t 0 with
  | false =>
    rw [bad (by simp [hr])]
    refine AtGuard.mk (fun h => by cases h) (fun _ => ?_)
    refine AtGuard.mk (fun h => by cases h) (fun _ => ?_)
    refine AtIf.mk (fun _ => ?_) (fun h => by cases h)
    exact AtRet.pure [] rfl (by simp) ⟨rfl, rfl⟩
  | true =>
  refine AtGuard.mk (fun _ => ?_) (fun h => by cases h)
  refine (containsTerms_spec n A a1 c1).frame [1] rfl rfl (by decide) rfl ?_ (by simp) rfl rfl ?_
  · intro p q hp
    match p, hp with
    | 0, hp => simp at hp; subst hp; exact ⟨1, rfl, rfl, rfl⟩
  rintro o s' ⟨rfl, rfl⟩
  refine ⟨rfl, rfl, _, rfl, ?_⟩
  cases ha : A.any fun x => !isObjectF x n with
  | true =>
    rw [bad (by simp [ha])]
    refine AtGuard.mk (fun h => by cases h) (fun _ => ?_)
    refine AtIf.mk (fun _ => ?_) (fun h => by cases h)
    exact AtRet.pure [] rfl (by simp) ⟨rfl, rfl⟩
  | false =>
  refine AtGuard.mk (fun _ => ?_) (fun h => by cases h)
  refine (containsTerms_spec n B a2 c2).frame [1] rfl rfl (by decide) rfl ?_ (by simp) rfl rfl ?_
  · intro p q hp
    match p, hp with
    | 0, hp => simp at hp; subst hp; exact ⟨1, rfl, rfl, rfl⟩
  rintro o s' ⟨rfl, rfl⟩
  refine ⟨rfl, rfl, _, rfl, ?_⟩
  cases hb : B.any fun x => !isObjectF x n with
  | true =>
    rw [bad (by simp [hb])]
    refine AtIf.mk (fun _ => ?_) (fun h => by cases h)
    exact AtRet.pure [] rfl (by simp) ⟨rfl, rfl⟩
  | false =>
  have hgood : listsE t n fx A B = (cmpO fx A B t, 0) := by rw [listsE, if_pos ⟨hs, hr, ha, hb⟩]
  rw [hgood]
  refine AtIf.mk (fun h => by cases h) (fun _ => ?_)
  obtain ⟨hfit, hsm⟩ := right_fit _ t 0 hr
  refine (shapeOf_spec t a0 c0 (smallO_parts hsm).1 (smallO_parts hsm).2).at (by simp) rfl rfl ?_
  rintro r out ⟨q, rfl, hsh⟩
  refine ⟨fun _ _ h => h, ?_⟩
  have hB : ∀ x ∈ B, lamOK x = true ∧ x.height ≤ 1000000 := by
    intro x hx
    have h1 := List.any_eq_false.1 hb x hx
    have h2 : isObjectF x n = true := by simpa using h1
    have h3 := (isProper_iff x).1 (isObjectF_proper h2)
    exact ⟨okAll_lamOK x h3.1, by omega⟩
  refine (cmp_spec n fx A B a1 a2 c1 c2 (min A.length B.length) (Nat.min_le_left ..) (Nat.min_le_right ..) hB t r q hfit hsh).at ?_ rfl (by have := hsh.one.2.2; simpa [Cal.wf] using this) ?_
  · intro p hp
    simp only [List.mem_cons, List.not_mem_nil, or_false] at hp
    rcases hp with rfl | rfl | rfl <;> simp
  rintro r out ⟨rfl, rfl⟩
  exact AtRet.pure [] rfl (by simp) ⟨rfl, rfl⟩
end Go.Proofs.Ytjjgfenincdgpaa
