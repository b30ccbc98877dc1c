/- Merged texts: OcD OcE OcF OcG RowOC. Plain law: measures, by order and by trussref15. No program in sight. Plain law: calls, whether they are smaller, and the last that is not, by order and by trussref15. No program in sight. Plain law: OrderChecks answers true. No program in sight. Plain law: OrderChecks answers true. Condition: lists shorter than 2^60. No program in sight. OrderChecks answers true at every input, and its arguments read as they did. No condition. -/
import Derived.Test.YtpibdcjdamibdaaGreatQL
/-! OcD -/
section
namespace Go.Proofs.YtpibdcjdamibdaaGreat
open Go.Tr Go
set_option linter.unusedVariables false
set_option linter.unusedSimpArgs false
set_option maxRecDepth 10000

/-- The order of a family. -/
def fndM (l : List Me) (k : Int) : Option Od := (l.find? (fun x => x.family == k)).map (·.order)
def findI (k : Int) : List Me → Nat → Int
  | [], _ => -1
  | m :: r, i => if m.family = k then (i : Int) else findI k r (i + 1)

theorem find_evL (l : List Me) (k : Int) (hl : l.length ≤ 1000) : ∀ (ts : List Me) (i : Nat), l.drop i = ts → i + ts.length = l.length → Ev (fun n => R15_Find_L1 n l k (i : Int)) (findI k ts i)
  | [], i, hd, hi => by
    refine Ev.succ (fun k => R15_Find_L1.eq_2 ..) ?_
    simp only [List.length_nil, Nat.add_zero] at hi
    exact Ev.f (by simp [hi]) (Ev.pure _)
  | m :: r, i, hd, hi => by
    refine Ev.succ (fun k => R15_Find_L1.eq_2 ..) ?_
    simp only [List.length_cons] at hi
    refine Ev.t (by simp; omega) (Ev.some (idx_get (getDrop hd)) ?_)
    simp only [findI]
    by_cases h : m.family = k
    · rw [if_pos h]; exact Ev.t (beqI h) (Ev.pure _)
    · rw [if_neg h, wrapS (by omega)]
      exact Ev.f (beqI' h) (find_evL l k hl r (i + 1) (dropDrop hd) (by omega))
theorem refFindM_ev (l : List Me) (k : Int) (hl : l.length ≤ 1000) : Ev (fun n => R15_Find n l k) (findI k l 0) :=
  Ev.succ (fun k => R15_Find.eq_2 ..) (find_evL l k hl l 0 rfl (by simp))

theorem findI_spec (k : Int) : ∀ (l : List Me) (i : Nat), (findI k l i = -1 ∧ fndM l k = none) ∨ ∃ (j : Nat) (m : Me), findI k l i = ((i + j : Nat) : Int) ∧ l[j]? = some m ∧ m.family = k ∧ fndM l k = some m.order
  | [], i => .inl ⟨rfl, rfl⟩
  | m :: r, i => by
    simp only [findI, fndM, List.find?_cons]
    by_cases h : m.family = k
    · rw [if_pos h, beqI h]
      exact .inr ⟨0, m, by simp, rfl, h, rfl⟩
    · rw [if_neg h, beqI' h]
      rcases findI_spec k r (i + 1) with ⟨h1, h2⟩ | ⟨j, m', h1, h2, h3, h4⟩
      · exact .inl ⟨h1, h2⟩
      · exact .inr ⟨j + 1, m', by rw [h1]; omega, h2, h3, h4⟩

theorem findI_some (k : Int) (l : List Me) : decide (findI k l 0 ≥ 0) = (fndM l k).isSome := by
  rcases findI_spec k l 0 with ⟨h1, h2⟩ | ⟨j, m', h1, h2, h3, h4⟩
  · rw [h1, h2]; rfl
  · rw [h1, h4]; simp

theorem findI_pre (m : Me) (r : List Me) : ∀ (pre : List Me) (i : Nat), decide (findI m.family (pre ++ m :: r) i < ((i + pre.length : Nat) : Int)) = pre.any (fun x => x.family == m.family)
  | [], i => by simp [findI]
  | p :: pre, i => by
    simp only [List.cons_append, findI, List.any_cons, List.length_cons]
    by_cases h : p.family = m.family
    · rw [if_pos h, beqI h]; simp; omega
    · rw [if_neg h, beqI' h, Bool.false_or, ← findI_pre m r pre (i + 1)]
      rw [show i + (pre.length + 1) = i + 1 + pre.length by omega]

theorem fndM_none (l : List Me) (k : Int) : (fndM l k).isSome = l.any (fun x => x.family == k) := by
  unfold fndM
  induction l with
  | nil => rfl
  | cons m l ih =>
    simp only [List.find?_cons, List.any_cons]
    cases h : (m.family == k) with
    | true => rfl
    | false => simpa using ih

/-- So many arguments has a family. -/
def arity (sig : List Dc) (n : Int) : Int := match idx sig n with
  | some d => ((split d.cls).1.length : Int)
  | none => 0
def measG (sig : List Dc) : List Me → List Me → Bool
  | _, [] => true
  | pre, m :: r => (!(pre.any (fun x => x.family == m.family)) && (decide (0 ≤ m.family) && decide (m.family < (sig.length : Int))) && kindAt sig m.family && rightF (arity sig m.family) m.order 1) && measG sig (pre ++ [m]) r
def measOK (sig : List Dc) (l : List Me) : Bool := decide (l.length ≤ 40) && measG sig [] l

theorem measG_mem (sig : List Dc) : ∀ (post pre : List Me), measG sig pre post = true → ∀ m ∈ post, rightF (arity sig m.family) m.order 1 = true
  | [], _, _, m, hm => by cases hm
  | x :: post, pre, h, m, hm => by
    simp only [measG, Bool.and_eq_true] at h
    rcases List.mem_cons.1 hm with e | e
    · subst e; exact h.1.2
    · exact measG_mem sig post _ h.2 m e
theorem measOK_right {sig : List Dc} {l : List Me} (h : measOK sig l = true) {k : Int} {o : Od} (ho : fndM l k = some o) : rightF (arity sig k) o 1 = true := by
  simp only [measOK, Bool.and_eq_true] at h
  unfold fndM at ho
  rw [Option.map_eq_some_iff] at ho
  obtain ⟨m, hm, rfl⟩ := ho
  have h1 := List.mem_of_find?_eq_some hm
  have h2 : m.family = k := by have := List.find?_some hm; simpa using this
  rw [← h2]
  exact measG_mem sig l [] h.2 m h1

theorem refMeasures_ev {sig : List Dc} (hs : sigOK sig = true) (l : List Me) (hl : l.length ≤ 100) : Ev (fun k => R15_Measures k sig l) (measOK sig l) := by
  obtain ⟨hsl, hsp⟩ := sigOK_proper hs
  refine Ev.succ (fun k => R15_Measures.eq_2 ..) ?_
  unfold measOK
  by_cases h40 : l.length ≤ 40
  · rw [decide_eq_true h40, Bool.true_and]
    refine Ev.f (by simp; omega) ?_
    have loop : ∀ (ts : List Me) (i : Nat), l.drop i = ts → i + ts.length = l.length → Ev (fun k => R15_Measures_L1 k l sig (i : Int)) (measG sig (l.take i) ts) := by
      intro ts
      induction ts with
      | nil =>
        intro i hd hi
        refine Ev.succ (fun k => R15_Measures_L1.eq_2 ..) ?_
        simp only [List.length_nil, Nat.add_zero] at hi
        exact Ev.f (by simp [hi]) (Ev.pure _)
      | cons m r ih =>
        intro i hd hi
        refine Ev.succ (fun k => R15_Measures_L1.eq_2 ..) ?_
        simp only [List.length_cons] at hi
        have hm := idx_get (getDrop hd)
        refine Ev.t (by simp; omega) (Ev.some hm ((has_ev sig m.family).bind ?_))
        simp only [measG]
        by_cases hr : 0 ≤ m.family ∧ m.family < (sig.length : Int)
        · obtain ⟨d, hd1, hdm⟩ := idx_pre hr.1 hr.2
          have hp := hsp d hdm
          have hps := proper_small hp
          have hk : kindAt sig m.family = kindT d.cls := by unfold kindAt; rw [hd1]
          have har : arity sig m.family = ((split d.cls).1.length : Int) := by unfold arity; rw [hd1]
          rw [decide_eq_true hr.1, decide_eq_true hr.2]
          refine Ev.f rfl (Ev.some hm ((isFamily_ev hd1 hps.1 (by omega)).bind ?_))
          rw [hk]
          cases hkt : kindT d.cls with
          | false => exact Ev.t rfl ((Ev.pure _).eq (by simp))
          | true =>
          refine Ev.f rfl (Ev.some hm ((refFindM_ev l m.family (by omega)).bind ?_))
          have hsplit : l = l.take i ++ m :: r := by rw [← hd]; simp
          have hfi := findI_pre m r (l.take i) 0
          rw [← hsplit, Nat.zero_add, List.length_take, Nat.min_eq_left (by omega)] at hfi
          rw [hfi]
          cases hany : (l.take i).any (fun x => x.family == m.family) with
          | true => exact Ev.t rfl ((Ev.pure _).eq (by simp))
          | false =>
          refine Ev.f rfl (Ev.some hm (Ev.some hm (Ev.some hd1 ((dependent_ev hp).bind ?_))))
          have hdl : (((List.map D.bool (dep d.cls)).length : Nat) : Int) = arity sig m.family := by rw [List.length_map, dep_len d.cls hps.1, har]
          rw [hdl]
          refine (Right_ev (arity sig m.family) m.order).bind ?_
          cases hrt : rightF (arity sig m.family) m.order 1 with
          | false => exact Ev.t rfl ((Ev.pure _).eq (by simp))
          | true =>
            rw [wrapS (by omega)]
            refine Ev.f rfl ((ih (i + 1) (dropDrop hd) (by omega)).eq ?_)
            rw [List.take_add_one, getDrop hd]; rfl
        · refine Ev.t ?_ ((Ev.pure _).eq ?_)
          · have : (decide (m.family ≥ 0) && decide (m.family < (sig.length : Int))) = false := by
              rw [Bool.and_eq_false_iff, decide_eq_false_iff_not, decide_eq_false_iff_not]; omega
            rw [this]; rfl
          · have : (decide (0 ≤ m.family) && decide (m.family < (sig.length : Int))) = false := by
              rw [Bool.and_eq_false_iff, decide_eq_false_iff_not, decide_eq_false_iff_not]; omega
            rw [this]; simp
    exact (loop l 0 rfl (by simp)).eq (by simp)
  · rw [decide_eq_false h40, Bool.false_and]
    exact Ev.t (by simp; omega) (Ev.pure _)

/-- A map that holds the orders of measures. -/
def Mok (M : List (Int × Od)) (l : List Me) : Prop := ∀ k, mget M k = fndM l k
theorem Mok.nil : Mok [] [] := fun k => rfl
theorem Mok.snoc {M : List (Int × Od)} {l : List Me} {m : Me} (h : Mok M l) (hn : l.any (fun x => x.family == m.family) = false) : Mok (mput m.family m.order M) (l ++ [m]) := by
  intro k
  rw [mget_mput]
  unfold fndM
  rw [List.find?_append]
  by_cases hk : k = m.family
  · rw [if_pos hk]
    subst hk
    have : l.find? (fun x => x.family == m.family) = none := by
      rw [List.find?_eq_none]
      intro x hx he
      rw [List.any_eq_false] at hn
      exact hn x hx he
    rw [this]; simp
  · rw [if_neg hk, h k]
    unfold fndM
    have : [m].find? (fun x => x.family == k) = none := by simp; exact fun e => hk e.symm
    rw [this, Option.or_none]

theorem measCalls {sig : List Dc} (hs : sigOK sig = true) (l : List Me) (hl : l.length ≤ 100) (n : Int) {r : List Int × Int} (H : measOK sig l = true → ∀ M, Mok M l → Ev (fun k => cond ((decide (n < 0)) || (decide (n ≥ ((Dc.encL sig).length : Int)))) (some ([], 6)) ((sign_Family k sig n).bind (fun v59 => cond v59 (some ([], 22)) ((order_calls k sig n M).bind (fun v62 => some (v62, 0)))))) r) :
    Ev (fun k => order_Calls_L1 k l sig n [] 0) (if measOK sig l = true then r else ([], 2)) := by
  obtain ⟨hsl, hsp⟩ := sigOK_proper hs
  have loop : ∀ (ts : List Me) (i : Nat) (M : List (Int × Od)), l.drop i = ts → i + ts.length = l.length → Mok M (l.take i) → measOK sig l = ((ts.isEmpty || decide (l.length ≤ 40)) && measG sig (l.take i) ts) → Ev (fun k => order_Calls_L1 k l sig n M (i : Int)) (if measOK sig l = true then r else ([], 2)) := by
    intro ts
    induction ts with
    | nil =>
      intro i M hd hi hM hq
      refine Ev.succ (fun k => order_Calls_L1.eq_2 ..) ?_
      simp only [List.length_nil, Nat.add_zero] at hi
      have hok : measOK sig l = true := by rw [hq]; rfl
      rw [List.take_of_length_le (by omega)] at hM
      refine Ev.f (by simp [hi]) ((H hok M hM).eq ?_)
      rw [if_pos hok]
    | cons m r' ih =>
      intro i M hd hi hM hq
      refine Ev.succ (fun k => order_Calls_L1.eq_2 ..) ?_
      simp only [List.length_cons] at hi
      have hm := idx_get (getDrop hd)
      refine Ev.t (by simp; omega) (Ev.some hm ?_)
      simp only [measG, List.isEmpty_cons, Bool.false_or] at hq
      have h1 : (mget M m.family).isSome = (l.take i).any (fun x => x.family == m.family) := by rw [hM m.family, fndM_none]
      rw [h1, Dc.encL_length, Me.encL_length]
      have hc : (((((l.take i).any (fun x => x.family == m.family)) || (decide ((l.length : Int) > 40))) || (decide (m.family < 0))) || (decide (m.family ≥ (sig.length : Int)))) = !(decide (l.length ≤ 40) && (!((l.take i).any (fun x => x.family == m.family)) && (decide (0 ≤ m.family) && decide (m.family < (sig.length : Int))))) := by
        have e1 : decide ((l.length : Int) > 40) = !decide (l.length ≤ 40) := by rw [← decide_not, decide_eq_decide]; omega
        have e2 : decide (m.family < 0) = !decide (0 ≤ m.family) := by rw [← decide_not, decide_eq_decide]; omega
        have e3 : decide (m.family ≥ (sig.length : Int)) = !decide (m.family < (sig.length : Int)) := by rw [← decide_not, decide_eq_decide]; omega
        rw [e1, e2, e3]
        cases (l.take i).any (fun x => x.family == m.family) <;> cases decide (l.length ≤ 40) <;> cases decide (0 ≤ m.family) <;> cases decide (m.family < (sig.length : Int)) <;> rfl
      rw [hc]
      cases hb : (decide (l.length ≤ 40) && (!((l.take i).any (fun x => x.family == m.family)) && (decide (0 ≤ m.family) && decide (m.family < (sig.length : Int))))) with
      | false =>
        have hno : measOK sig l = false := by
          rw [Bool.eq_false_iff]
          intro h
          rw [hq] at h
          simp only [Bool.and_eq_true] at h
          have : (decide (l.length ≤ 40) && (!((l.take i).any (fun x => x.family == m.family)) && (decide (0 ≤ m.family) && decide (m.family < (sig.length : Int))))) = true := by
            simp only [Bool.and_eq_true]; exact ⟨h.1, h.2.1.1.1.1, h.2.1.1.1.2⟩
          rw [hb] at this; cases this
        exact Ev.t rfl ((Ev.pure _).eq (by rw [if_neg (by rw [hno]; simp)]))
      | true =>
      simp only [Bool.and_eq_true, Bool.not_eq_true', decide_eq_true_eq] at hb
      obtain ⟨h40, hany, hf0, hf1⟩ := hb
      obtain ⟨d, hd1, hdm⟩ := idx_pre hf0 hf1
      have hp := hsp d hdm
      have hps := proper_small hp
      have hk : kindAt sig m.family = kindT d.cls := by unfold kindAt; rw [hd1]
      have har : arity sig m.family = ((split d.cls).1.length : Int) := by unfold arity; rw [hd1]
      refine Ev.f rfl ((signFamily_ev hd1 hps.1 (by omega)).bind ?_)
      cases hkt : kindT d.cls with
      | false =>
        have hno : measOK sig l = false := by rw [hq, hk, hkt]; simp
        exact Ev.t rfl ((Ev.pure _).eq (by rw [if_neg (by rw [hno]; simp)]))
      | true =>
      refine Ev.f rfl (Ev.some hd1 ((domains_ev hps.1 (by omega)).bind ?_))
      rw [Tm.encL_length, ← har]
      refine (isOrder_ev (arity sig m.family) m.order 0 (by omega) (by omega)).bind ?_
      rw [Int.zero_add]
      cases hrt : rightF (arity sig m.family) m.order 1 with
      | false =>
        have hno : measOK sig l = false := by rw [hq, hrt]; simp
        exact Ev.t rfl ((Ev.pure _).eq (by rw [if_neg (by rw [hno]; simp)]))
      | true =>
        rw [wrapS (by omega)]
        refine Ev.f rfl ((ih (i + 1) (mput m.family m.order M) (dropDrop hd) (by omega) ?_ ?_))
        · rw [List.take_add_one, getDrop hd]
          exact hM.snoc hany
        · rw [hq, List.take_add_one, getDrop hd, hany, decide_eq_true h40, decide_eq_true hf0, decide_eq_true hf1, hk, hkt, hrt]
          simp
  refine loop l 0 [] rfl (by simp) Mok.nil ?_
  unfold measOK
  cases l with
  | nil => rfl
  | cons x l => rfl

theorem measCheck {sig : List Dc} (hs : sigOK sig = true) (l : List Me) (hl : l.length ≤ 100) (n : Int) {r : Int × Int} (H : measOK sig l = true → ∀ M, Mok M l → Ev (fun k => cond ((decide (n < 0)) || (decide (n ≥ ((Dc.encL sig).length : Int)))) (some (0, 6)) ((sign_Family k sig n).bind (fun v59 => cond v59 (some (0, 22)) ((order_check k sig n M).bind (fun v62 => some (v62.1, v62.2)))))) r) :
    Ev (fun k => order_Check_L1 k l sig n [] 0) (if measOK sig l = true then r else (0, 2)) := by
  obtain ⟨hsl, hsp⟩ := sigOK_proper hs
  have loop : ∀ (ts : List Me) (i : Nat) (M : List (Int × Od)), l.drop i = ts → i + ts.length = l.length → Mok M (l.take i) → measOK sig l = ((ts.isEmpty || decide (l.length ≤ 40)) && measG sig (l.take i) ts) → Ev (fun k => order_Check_L1 k l sig n M (i : Int)) (if measOK sig l = true then r else (0, 2)) := by
    intro ts
    induction ts with
    | nil =>
      intro i M hd hi hM hq
      refine Ev.succ (fun k => order_Check_L1.eq_2 ..) ?_
      simp only [List.length_nil, Nat.add_zero] at hi
      have hok : measOK sig l = true := by rw [hq]; rfl
      rw [List.take_of_length_le (by omega)] at hM
      refine Ev.f (by simp [hi]) ((H hok M hM).eq ?_)
      rw [if_pos hok]
    | cons m r' ih =>
      intro i M hd hi hM hq
      refine Ev.succ (fun k => order_Check_L1.eq_2 ..) ?_
      simp only [List.length_cons] at hi
      have hm := idx_get (getDrop hd)
      refine Ev.t (by simp; omega) (Ev.some hm ?_)
      simp only [measG, List.isEmpty_cons, Bool.false_or] at hq
      have h1 : (mget M m.family).isSome = (l.take i).any (fun x => x.family == m.family) := by rw [hM m.family, fndM_none]
      rw [h1, Dc.encL_length, Me.encL_length]
      have hc : (((((l.take i).any (fun x => x.family == m.family)) || (decide ((l.length : Int) > 40))) || (decide (m.family < 0))) || (decide (m.family ≥ (sig.length : Int)))) = !(decide (l.length ≤ 40) && (!((l.take i).any (fun x => x.family == m.family)) && (decide (0 ≤ m.family) && decide (m.family < (sig.length : Int))))) := by
        have e1 : decide ((l.length : Int) > 40) = !decide (l.length ≤ 40) := by rw [← decide_not, decide_eq_decide]; omega
        have e2 : decide (m.family < 0) = !decide (0 ≤ m.family) := by rw [← decide_not, decide_eq_decide]; omega
        have e3 : decide (m.family ≥ (sig.length : Int)) = !decide (m.family < (sig.length : Int)) := by rw [← decide_not, decide_eq_decide]; omega
        rw [e1, e2, e3]
        cases (l.take i).any (fun x => x.family == m.family) <;> cases decide (l.length ≤ 40) <;> cases decide (0 ≤ m.family) <;> cases decide (m.family < (sig.length : Int)) <;> rfl
      rw [hc]
      cases hb : (decide (l.length ≤ 40) && (!((l.take i).any (fun x => x.family == m.family)) && (decide (0 ≤ m.family) && decide (m.family < (sig.length : Int))))) with
      | false =>
        have hno : measOK sig l = false := by
          rw [Bool.eq_false_iff]
          intro h
          rw [hq] at h
          simp only [Bool.and_eq_true] at h
          have : (decide (l.length ≤ 40) && (!((l.take i).any (fun x => x.family == m.family)) && (decide (0 ≤ m.family) && decide (m.family < (sig.length : Int))))) = true := by
            simp only [Bool.and_eq_true]; exact ⟨h.1, h.2.1.1.1.1, h.2.1.1.1.2⟩
          rw [hb] at this; cases this
        exact Ev.t rfl ((Ev.pure _).eq (by rw [if_neg (by rw [hno]; simp)]))
      | true =>
      simp only [Bool.and_eq_true, Bool.not_eq_true', decide_eq_true_eq] at hb
      obtain ⟨h40, hany, hf0, hf1⟩ := hb
      obtain ⟨d, hd1, hdm⟩ := idx_pre hf0 hf1
      have hp := hsp d hdm
      have hps := proper_small hp
      have hk : kindAt sig m.family = kindT d.cls := by unfold kindAt; rw [hd1]
      have har : arity sig m.family = ((split d.cls).1.length : Int) := by unfold arity; rw [hd1]
      refine Ev.f rfl ((signFamily_ev hd1 hps.1 (by omega)).bind ?_)
      cases hkt : kindT d.cls with
      | false =>
        have hno : measOK sig l = false := by rw [hq, hk, hkt]; simp
        exact Ev.t rfl ((Ev.pure _).eq (by rw [if_neg (by rw [hno]; simp)]))
      | true =>
      refine Ev.f rfl (Ev.some hd1 ((domains_ev hps.1 (by omega)).bind ?_))
      rw [Tm.encL_length, ← har]
      refine (isOrder_ev (arity sig m.family) m.order 0 (by omega) (by omega)).bind ?_
      rw [Int.zero_add]
      cases hrt : rightF (arity sig m.family) m.order 1 with
      | false =>
        have hno : measOK sig l = false := by rw [hq, hrt]; simp
        exact Ev.t rfl ((Ev.pure _).eq (by rw [if_neg (by rw [hno]; simp)]))
      | true =>
        rw [wrapS (by omega)]
        refine Ev.f rfl ((ih (i + 1) (mput m.family m.order M) (dropDrop hd) (by omega) ?_ ?_))
        · rw [List.take_add_one, getDrop hd]
          exact hM.snoc hany
        · rw [hq, List.take_add_one, getDrop hd, hany, decide_eq_true h40, decide_eq_true hf0, decide_eq_true hf1, hk, hkt, hrt]
          simp
  refine loop l 0 [] rfl (by simp) Mok.nil ?_
  unfold measOK
  cases l with
  | nil => rfl
  | cons x l => rfl

theorem measAll {sig : List Dc} (hs : sigOK sig = true) (l : List Me) (hl : l.length ≤ 100) (n : Int) {r : Int × Int × Int} (H : measOK sig l = true → ∀ M, Mok M l → Ev (fun k => (sign_Of k sig n).bind (fun v58 => cond (v58.2 != 0) (some (0, 0, v58.2)) (order_All_L2 k v58 sig M 0))) r) :
    Ev (fun k => order_All_L1 k l sig n [] 0) (if measOK sig l = true then r else (0, 0, 2)) := by
  obtain ⟨hsl, hsp⟩ := sigOK_proper hs
  have loop : ∀ (ts : List Me) (i : Nat) (M : List (Int × Od)), l.drop i = ts → i + ts.length = l.length → Mok M (l.take i) → measOK sig l = ((ts.isEmpty || decide (l.length ≤ 40)) && measG sig (l.take i) ts) → Ev (fun k => order_All_L1 k l sig n M (i : Int)) (if measOK sig l = true then r else (0, 0, 2)) := by
    intro ts
    induction ts with
    | nil =>
      intro i M hd hi hM hq
      refine Ev.succ (fun k => order_All_L1.eq_2 ..) ?_
      simp only [List.length_nil, Nat.add_zero] at hi
      have hok : measOK sig l = true := by rw [hq]; rfl
      rw [List.take_of_length_le (by omega)] at hM
      refine Ev.f (by simp [hi]) ((H hok M hM).eq ?_)
      rw [if_pos hok]
    | cons m r' ih =>
      intro i M hd hi hM hq
      refine Ev.succ (fun k => order_All_L1.eq_2 ..) ?_
      simp only [List.length_cons] at hi
      have hm := idx_get (getDrop hd)
      refine Ev.t (by simp; omega) (Ev.some hm ?_)
      simp only [measG, List.isEmpty_cons, Bool.false_or] at hq
      have h1 : (mget M m.family).isSome = (l.take i).any (fun x => x.family == m.family) := by rw [hM m.family, fndM_none]
      rw [h1, Dc.encL_length, Me.encL_length]
      have hc : (((((l.take i).any (fun x => x.family == m.family)) || (decide ((l.length : Int) > 40))) || (decide (m.family < 0))) || (decide (m.family ≥ (sig.length : Int)))) = !(decide (l.length ≤ 40) && (!((l.take i).any (fun x => x.family == m.family)) && (decide (0 ≤ m.family) && decide (m.family < (sig.length : Int))))) := by
        have e1 : decide ((l.length : Int) > 40) = !decide (l.length ≤ 40) := by rw [← decide_not, decide_eq_decide]; omega
        have e2 : decide (m.family < 0) = !decide (0 ≤ m.family) := by rw [← decide_not, decide_eq_decide]; omega
        have e3 : decide (m.family ≥ (sig.length : Int)) = !decide (m.family < (sig.length : Int)) := by rw [← decide_not, decide_eq_decide]; omega
        rw [e1, e2, e3]
        cases (l.take i).any (fun x => x.family == m.family) <;> cases decide (l.length ≤ 40) <;> cases decide (0 ≤ m.family) <;> cases decide (m.family < (sig.length : Int)) <;> rfl
      rw [hc]
      cases hb : (decide (l.length ≤ 40) && (!((l.take i).any (fun x => x.family == m.family)) && (decide (0 ≤ m.family) && decide (m.family < (sig.length : Int))))) with
      | false =>
        have hno : measOK sig l = false := by
          rw [Bool.eq_false_iff]
          intro h
          rw [hq] at h
          simp only [Bool.and_eq_true] at h
          have : (decide (l.length ≤ 40) && (!((l.take i).any (fun x => x.family == m.family)) && (decide (0 ≤ m.family) && decide (m.family < (sig.length : Int))))) = true := by
            simp only [Bool.and_eq_true]; exact ⟨h.1, h.2.1.1.1.1, h.2.1.1.1.2⟩
          rw [hb] at this; cases this
        exact Ev.t rfl ((Ev.pure _).eq (by rw [if_neg (by rw [hno]; simp)]))
      | true =>
      simp only [Bool.and_eq_true, Bool.not_eq_true', decide_eq_true_eq] at hb
      obtain ⟨h40, hany, hf0, hf1⟩ := hb
      obtain ⟨d, hd1, hdm⟩ := idx_pre hf0 hf1
      have hp := hsp d hdm
      have hps := proper_small hp
      have hk : kindAt sig m.family = kindT d.cls := by unfold kindAt; rw [hd1]
      have har : arity sig m.family = ((split d.cls).1.length : Int) := by unfold arity; rw [hd1]
      refine Ev.f rfl ((signFamily_ev hd1 hps.1 (by omega)).bind ?_)
      cases hkt : kindT d.cls with
      | false =>
        have hno : measOK sig l = false := by rw [hq, hk, hkt]; simp
        exact Ev.t rfl ((Ev.pure _).eq (by rw [if_neg (by rw [hno]; simp)]))
      | true =>
      refine Ev.f rfl (Ev.some hd1 ((domains_ev hps.1 (by omega)).bind ?_))
      rw [Tm.encL_length, ← har]
      refine (isOrder_ev (arity sig m.family) m.order 0 (by omega) (by omega)).bind ?_
      rw [Int.zero_add]
      cases hrt : rightF (arity sig m.family) m.order 1 with
      | false =>
        have hno : measOK sig l = false := by rw [hq, hrt]; simp
        exact Ev.t rfl ((Ev.pure _).eq (by rw [if_neg (by rw [hno]; simp)]))
      | true =>
        rw [wrapS (by omega)]
        refine Ev.f rfl ((ih (i + 1) (mput m.family m.order M) (dropDrop hd) (by omega) ?_ ?_))
        · rw [List.take_add_one, getDrop hd]
          exact hM.snoc hany
        · rw [hq, List.take_add_one, getDrop hd, hany, decide_eq_true h40, decide_eq_true hf0, decide_eq_true hf1, hk, hkt, hrt]
          simp
  refine loop l 0 [] rfl (by simp) Mok.nil ?_
  unfold measOK
  cases l with
  | nil => rfl
  | cons x l => rfl
end Go.Proofs.YtpibdcjdamibdaaGreat
end

/-! OcE -/
section
namespace Go.Proofs.YtpibdcjdamibdaaGreat
open Go.Tr Go
set_option linter.unusedVariables false
set_option linter.unusedSimpArgs false
set_option maxRecDepth 10000

theorem sigG_nodes : ∀ (post pre : List Dc), sigG pre post = true → ∀ d ∈ post, ∃ m, nodesB m d.cls 0 = true
  | [], _, _, x, hx => by cases hx
  | d :: post, pre, h, x, hx => by
    simp only [sigG, Bool.and_eq_true] at h
    rcases List.mem_cons.1 hx with e | e
    · subst e
      have h1 := h.1
      simp only [declOK, Bool.and_eq_true] at h1
      exact ⟨_, h1.1.1.2⟩
    · exact sigG_nodes post _ h.2 x e
theorem sigOK_nodes {sig : List Dc} (h : sigOK sig = true) : ∀ d ∈ sig, ∃ m, nodesB m d.cls 0 = true := by
  simp only [sigOK, Bool.and_eq_true] at h
  exact sigG_nodes sig [] h.2

/-- The places that do not occur and of which g holds. -/
def selG (g : Nat → Bool) : List Bool → Nat → List Int
  | [], _ => []
  | b :: bs, i => if (!b && g i) = true then (i : Int) :: selG g bs (i + 1) else selG g bs (i + 1)
theorem selG_prem (g : Nat → Bool) : ∀ (bs : List Bool) (i : Nat), (premF bs i).filter (fun p => g p.toNat) = selG g bs i
  | [], i => rfl
  | b :: bs, i => by
    simp only [premF, selG]
    cases b with
    | true => simpa using selG_prem g bs (i + 1)
    | false =>
      cases hg : g i with
      | true => simp [hg, selG_prem g bs (i + 1)]
      | false => simp [hg, selG_prem g bs (i + 1)]
theorem selG_len (g : Nat → Bool) : ∀ (bs : List Bool) (i : Nat), (selG g bs i).length ≤ bs.length
  | [], i => Nat.le_refl _
  | b :: bs, i => by
    simp only [selG]
    have := selG_len g bs (i + 1)
    split <;> simp only [List.length_cons] <;> omega
theorem selG_mem (g : Nat → Bool) : ∀ (bs : List Bool) (i : Nat) (x : Int), x ∈ selG g bs i → ∃ j : Nat, x = (j : Int) ∧ i ≤ j ∧ j < i + bs.length ∧ g j = true
  | [], i, x, h => by cases h
  | b :: bs, i, x, h => by
    simp only [selG] at h
    have key : x ∈ selG g bs (i + 1) → ∃ j : Nat, x = (j : Int) ∧ i ≤ j ∧ j < i + (b :: bs).length ∧ g j = true := fun h => by
      obtain ⟨j, h1, h2, h3, h4⟩ := selG_mem g bs (i + 1) x h
      exact ⟨j, h1, by omega, by simp only [List.length_cons]; omega, h4⟩
    split at h
    · rename_i hc
      rcases List.mem_cons.1 h with e | e
      · simp only [Bool.and_eq_true] at hc
        exact ⟨i, e, Nat.le_refl _, by simp only [List.length_cons]; omega, hc.2⟩
      · exact key e
    · exact key h
theorem selG_congr {g g' : Nat → Bool} : ∀ (bs : List Bool) (i : Nat), (∀ j, i ≤ j → j < i + bs.length → g j = g' j) → selG g bs i = selG g' bs i
  | [], i, _ => rfl
  | b :: bs, i, h => by
    simp only [selG]
    rw [h i (Nat.le_refl _) (by simp), selG_congr bs (i + 1) (fun j h1 h2 => h j (by omega) (by simp only [List.length_cons]; omega))]

/-- Whether a domain is of a family that has a measure. -/
def callT (l : List Me) (c : Tm) (i : Nat) : Bool := match (split c).1[i]? with
  | some a => (fndM l (split a).2.n).isSome
  | none => false
def callH (l : List Me) (c : Tm) (i : Nat) : Bool := match (split c).1[i]? with
  | some a => (fndM l (split a).2.n).isSome && ((split a).2.hd == 2)
  | none => false
def callsR (l : List Me) (c : Tm) : List Int := selG (callT l c) (dep c) 0
def callsI (l : List Me) (c : Tm) : List Int := selG (callH l c) (dep c) 0

theorem calls_len {c : Tm} (hp : Pr c) (l : List Me) : (callsI l c).length ≤ 40 ∧ (callsR l c).length ≤ 40 := by
  have h := proper_small hp
  have h1 := dep_len c h.1
  have h2 := (split_len c h.1).2
  exact ⟨Nat.le_trans (selG_len ..) (by omega), Nat.le_trans (selG_len ..) (by omega)⟩

theorem callsI_mem {c : Tm} (hp : Pr c) {l : List Me} {x : Int} (h : x ∈ callsI l c) : ∃ (i : Nat) (a : Tm), x = (i : Int) ∧ (split c).1[i]? = some a ∧ (fndM l (split a).2.n).isSome = true := by
  obtain ⟨j, h1, _, _, h4⟩ := selG_mem _ _ _ _ h
  unfold callH at h4
  cases hg : (split c).1[j]? with
  | none => rw [hg] at h4; cases h4
  | some a =>
    rw [hg] at h4
    simp only [Bool.and_eq_true] at h4
    exact ⟨j, a, h1, hg, h4.1⟩

theorem ordCalls_ev {sig : List Dc} (hs : sigOK sig = true) {n : Int} {d : Dc} (hd : idx sig n = some d) {l : List Me} {M : List (Int × Od)} (hM : Mok M l) : Ev (fun k => order_calls k sig n M) (callsI l d.cls) := by
  have hp : Pr d.cls := (sigOK_proper hs).2 d (List.mem_of_getElem? (idx_some hd).2)
  have hps := proper_small hp
  have hsl := (split_len d.cls hps.1).2
  have hdl := dep_len d.cls hps.1
  have hsp := split_pr d.cls hps.1 hp
  refine Ev.succ (fun k => order_calls.eq_2 ..) ?_
  refine Ev.some hd ((domains_ev hps.1 (by omega)).bind (Ev.some hd ?_))
  refine Yields.ev ?_
  refine Yields.bind (positions_y hp) (fun v hv => ?_)
  have hvl : v.premises.length ≤ 40 := by rw [hv]; have := premF_len (dep d.cls) 0; omega
  have loop : ∀ (ts : List Int) (i : Nat) (acc : List Int), v.premises.drop i = ts → i + ts.length = v.premises.length → acc.length ≤ i → Ev (fun k => order_calls_L1 k v (split d.cls) M acc (i : Int)) (acc ++ ts.filter (fun p => callH l d.cls p.toNat)) := by
    intro ts
    induction ts with
    | nil =>
      intro i acc hdr hi ha
      refine Ev.succ (fun k => order_calls_L1.eq_2 ..) ?_
      simp only [List.length_nil, Nat.add_zero] at hi
      exact Ev.f (by simp [hi]) ((Ev.pure _).eq (by simp))
    | cons p ts ih =>
      intro i acc hdr hi ha
      refine Ev.succ (fun k => order_calls_L1.eq_2 ..) ?_
      simp only [List.length_cons] at hi
      have hg := getDrop hdr
      have hpm : p ∈ premF (dep d.cls) 0 := by rw [← hv]; exact List.mem_of_getElem? hg
      obtain ⟨p0, p1⟩ := premF_mem _ _ _ hpm
      obtain ⟨a, ha1, ham, hag⟩ := idx_of (l := (split d.cls).1) (i := p.toNat) (by omega)
      rw [show ((p.toNat : Nat) : Int) = p by omega] at ha1
      have hpa := hsp.2 a ham
      have hpas := proper_small hpa
      refine Ev.t (by simp; omega) (Ev.some (idx_get hg) (Ev.some ha1 ((domains_ev hpas.1 (by omega)).bind ?_)))
      have hcall : callH l d.cls p.toNat = ((mget M (split a).2.n).isSome && ((split a).2.hd == 2)) := by unfold callH; rw [hag, hM]
      rw [← hcall, wrapS (by omega)]
      simp only [List.filter_cons]
      refine Ev.ite (fun h => ?_) (fun h => ?_)
      · rw [if_pos h]
        refine Ev.need (by simp; omega) ?_
        exact (ih (i + 1) (acc ++ [p]) (dropDrop hdr) (by omega) (by simp; omega)).eq (by simp)
      · rw [if_neg (by rw [h]; simp)]
        exact ih (i + 1) acc (dropDrop hdr) (by omega) (by omega)
  refine Ev.is ((loop v.premises 0 [] rfl (by simp) (by simp)).eq ?_)
  rw [hv, selG_prem]; rfl

theorem refCalls_ev {sig : List Dc} (hs : sigOK sig = true) {n : Int} {d : Dc} (hd : idx sig n = some d) (l : List Me) (hl : l.length ≤ 100) : Ev (fun k => R15_Calls k sig l n) (callsR l d.cls) := by
  have hp : Pr d.cls := (sigOK_proper hs).2 d (List.mem_of_getElem? (idx_some hd).2)
  have hps := proper_small hp
  have hsl := (split_len d.cls hps.1).2
  have hdl := dep_len d.cls hps.1
  have hsp := split_pr d.cls hps.1 hp
  refine Ev.succ (fun k => R15_Calls.eq_2 ..) ?_
  refine Ev.some hd ((split_ev hps.1 (by omega)).bind (Ev.some hd ((dependent_ev hp).bind ?_)))
  have loop : ∀ (bs : List Bool) (i : Nat) (acc : List Int), (dep d.cls).drop i = bs → i + bs.length = (split d.cls).1.length → acc.length ≤ i → Ev (fun k => R15_Calls_L1 k (split d.cls) (dep d.cls) l acc (i : Int)) (acc ++ selG (callT l d.cls) bs i) := by
    intro bs
    induction bs with
    | nil =>
      intro i acc hdr hi ha
      refine Ev.succ (fun k => R15_Calls_L1.eq_2 ..) ?_
      simp only [List.length_nil, Nat.add_zero] at hi
      exact Ev.f (by rw [Tm.encL_length]; simp [hi]) ((Ev.pure _).eq (by simp [selG]))
    | cons b bs ih =>
      intro i acc hdr hi ha
      refine Ev.succ (fun k => R15_Calls_L1.eq_2 ..) ?_
      simp only [List.length_cons] at hi
      obtain ⟨a, ha1, ham, hag⟩ := idx_of (l := (split d.cls).1) (i := i) (by omega)
      have hpas := proper_small (hsp.2 a ham)
      refine Ev.t (by rw [Tm.encL_length]; simp; omega) (Ev.some ha1 ((split_ev hpas.1 (by omega)).bind (Ev.some (idx_get (getDrop hdr)) ?_)))
      rw [wrapS (by omega)]
      have hcall : callT l d.cls i = (fndM l (split a).2.n).isSome := by unfold callT; rw [hag]
      simp only [selG]
      cases b with
      | true =>
        refine Ev.f rfl ?_
        exact (ih (i + 1) acc (dropDrop hdr) (by omega) (by omega)).eq (by simp)
      | false =>
        refine Ev.t rfl ((refFindM_ev l _ (by omega)).bind ?_)
        rw [findI_some, ← hcall]
        cases hc : callT l d.cls i with
        | true =>
          refine Ev.t rfl (Ev.need (by simp; omega) ?_)
          exact (ih (i + 1) (acc ++ [(i : Int)]) (dropDrop hdr) (by omega) (by simp; omega)).eq (by simp)
        | false =>
          refine Ev.f rfl ?_
          exact (ih (i + 1) acc (dropDrop hdr) (by omega) (by omega)).eq (by simp)
  exact (loop (dep d.cls) 0 [] rfl (by rw [Nat.zero_add]; exact hdl) (by simp)).eq (by simp [callsR])

/-- In a valid signature the heads of types are constants. -/
theorem tyT_split {sig : List Dc} : ∀ t, okAll t = true → TyT sig t → leafT sig (split t).2 ∧ ∀ a ∈ (split t).1, TyT sig a := by
  refine split_ind ?_ ?_
  · intro t hok h2 ht
    rw [split_leaf h2]
    refine ⟨?_, by simp⟩
    cases ht with
    | app h => exact h
    | pi h e _ _ => exact absurd h h2
  · intro t a b hok h2 e ha hb _ _ _ _ ih ht
    rw [split_pi hok h2 e]
    cases ht with
    | app h => have := h.1; omega
    | @pi _ a' b' h e' ta tb =>
      rw [e] at e'
      simp only [List.cons.injEq, and_true] at e'
      obtain ⟨rfl, rfl⟩ := e'
      obtain ⟨i1, i2⟩ := ih tb
      refine ⟨i1, fun x hx => ?_⟩
      rcases List.mem_cons.1 hx with h | h
      · subst h; exact ta
      · exact i2 x h

theorem calls_same {sig : List Dc} {c : Tm} (hp : Pr c) (ht : TyT sig c) (l : List Me) : callsR l c = callsI l c := by
  have hps := proper_small hp
  have hsp := split_pr c hps.1 hp
  refine selG_congr _ _ (fun j _ hj => ?_)
  unfold callT callH
  cases hg : (split c).1[j]? with
  | none => rfl
  | some a =>
    have ham := List.mem_of_getElem? hg
    have h2 := tyT_split a (proper_small (hsp.2 a ham)).1 ((tyT_split c hps.1 ht).2 a ham)
    have h3 : (split a).2.hd = 2 := h2.1.2.1
    simp [h3]

/-- Whether a call is smaller. -/
def smallI (l : List Me) (c a : Tm) (i : Int) : Bool :=
  simF ((fndM l (split a).2.n).getD (Od.mk 0 0 [])) ((fndM l (split c).2.n).getD (Od.mk 0 0 [])) &&
  (prF ((split a).1.length : Int) (movedF (split a).2 (((split c).1.length : Int) - i) ((split a).1.length : Int)).args (movedF (split c).2 ((split a).1.length : Int) 0).args ((fndM l (split a).2.n).getD (Od.mk 0 0 [])) ((fndM l (split c).2.n).getD (Od.mk 0 0 [])) == 2)

theorem objs_args {t : Tm} (h : Pr t) : objs t.args := fun x hx => by
  have := proper_small (pr_arg h hx)
  exact ⟨this.1, by omega⟩

theorem ordSmaller_ev {sig : List Dc} (hs : sigOK sig = true) {n : Int} {d : Dc} (hd : idx sig n = some d) {l : List Me} (hm : measOK sig l = true) {M : List (Int × Od)} (hM : Mok M l) {i : Nat} {a : Tm} (ha : (split d.cls).1[i]? = some a)
    {oa ob : Od} (h1 : fndM l (split a).2.n = some oa) (h2 : fndM l (split d.cls).2.n = some ob) : Ev (fun k => order_smaller k sig n (i : Int) M) (smallI l d.cls a (i : Int)) := by
  have hdm := List.mem_of_getElem? (idx_some hd).2
  have hp : Pr d.cls := (sigOK_proper hs).2 d hdm
  obtain ⟨m, hn⟩ := sigOK_nodes hs d hdm
  have hps := proper_small hp
  have hsl := (split_len d.cls hps.1).2
  have hsp := split_pr d.cls hps.1 hp
  have ham := List.mem_of_getElem? ha
  have hpa := hsp.2 a ham
  have hpas := proper_small hpa
  have hsla := (split_len a hpas.1).2
  have hspa := split_pr a hpas.1 hpa
  have hilt : i < (split d.cls).1.length := (List.getElem?_eq_some_iff.1 ha).1
  obtain ⟨n1, n2⟩ := split_nodes m d.cls hps.1 0 hn
  obtain ⟨n3, _⟩ := split_nodes m a hpas.1 _ (n2 i a ha)
  refine Ev.succ (fun k => order_smaller.eq_2 ..) ?_
  refine Ev.some hd ((domains_ev hps.1 (by omega)).bind (Ev.some (idx_get ha) ((domains_ev hpas.1 (by omega)).bind ?_)))
  rw [hM, hM]
  unfold smallI
  rw [h1, h2]
  simp only [Option.getD_some]
  cases hsim : simF oa ob with
  | false => exact Ev.t rfl (Ev.pure _)
  | true =>
  refine Ev.f rfl ?_
  rw [Tm.encL_length, Tm.encL_length, wrap_i64 (n := ((split d.cls).1.length : Int) - (i : Int)) (by omega) (by omega)]
  refine (termMoved_ev _ _ (by omega) (by omega) (by omega) (by omega) hspa.1).bind ((termMoved_ev _ _ (by omega) (by omega) (by omega) (by omega) hsp.1).bind ?_)
  have hX : Pr (movedF (split a).2 (((split d.cls).1.length : Int) - i) ((split a).1.length : Int)) := moved_pr (by omega) _ _ hspa.1 n3 (by omega)
  have hY : Pr (movedF (split d.cls).2 ((split a).1.length : Int) 0) := moved_pr (by omega) _ _ hsp.1 n1 (by omega)
  refine (pair_ev _ _ _ _ (objs_args hX) (objs_args hY) _ _ (by omega) (by omega) oa ob 1 hsim (measOK_right hm h1) (measOK_right hm h2)).bind ((Ev.pure _).eq ?_)
  rw [Bool.true_and]

theorem refSmaller_ev {sig : List Dc} (hs : sigOK sig = true) {n : Int} {d : Dc} (hd : idx sig n = some d) (ht : TyT sig d.cls) {l : List Me} (hl : l.length ≤ 100) (hm : measOK sig l = true) {i : Nat} {a : Tm} (ha : (split d.cls).1[i]? = some a)
    (h1 : (fndM l (split a).2.n).isSome = true) : Ev (fun k => R15_Smaller k sig l n (i : Int)) ((fndM l (split d.cls).2.n).isSome && smallI l d.cls a (i : Int)) := by
  have hdm := List.mem_of_getElem? (idx_some hd).2
  have hp : Pr d.cls := (sigOK_proper hs).2 d hdm
  obtain ⟨m, hn⟩ := sigOK_nodes hs d hdm
  have hps := proper_small hp
  have hsl := (split_len d.cls hps.1).2
  have hsp := split_pr d.cls hps.1 hp
  have ham := List.mem_of_getElem? ha
  have hpa := hsp.2 a ham
  have hpas := proper_small hpa
  have hsla := (split_len a hpas.1).2
  have hspa := split_pr a hpas.1 hpa
  have hilt : i < (split d.cls).1.length := (List.getElem?_eq_some_iff.1 ha).1
  obtain ⟨n1, n2⟩ := split_nodes m d.cls hps.1 0 hn
  have n2a := n2 i a ha
  obtain ⟨n3, _⟩ := split_nodes m a hpas.1 _ n2a
  have hlc := tyT_split d.cls hps.1 ht
  have hla := tyT_split a hpas.1 (hlc.2 a ham)
  have hps2 := proper_small hspa.1
  refine Ev.succ (fun k => R15_Smaller.eq_2 ..) ?_
  refine Ev.some hd ((split_ev hps.1 (by omega)).bind (Ev.some (idx_get ha) ((split_ev hpas.1 (by omega)).bind ((refFindM_ev l _ (by omega)).bind ((refFindM_ev l _ (by omega)).bind ?_)))))
  rcases findI_spec (split d.cls).2.n l 0 with ⟨e1, e2⟩ | ⟨j2, m2, e1, e2, e3, e4⟩
  · rw [e1, e2]
    exact Ev.t rfl (Ev.pure _)
  rcases findI_spec (split a).2.n l 0 with ⟨g1, g2⟩ | ⟨j1, m1, g1, g2, g3, g4⟩
  · rw [g2] at h1; cases h1
  rw [Nat.zero_add] at e1 g1
  rw [e1, g1, e4]
  refine Ev.f (by simp) (Ev.some (idx_get g2) (Ev.some (idx_get e2) ?_))
  unfold smallI
  rw [e4, g4]
  simp only [Option.getD_some, Option.isSome_some, Bool.true_and]
  cases hsim : simF m1.order m2.order with
  | false => exact Ev.t rfl (Ev.pure _)
  | true =>
  refine Ev.f rfl ?_
  have hjoin : joinL (split a).1 (split a).2 = a := join_split a hpas.1
  have ej := join_ev (fun x hx => hspa.2 x hx) hspa.1 (by omega) (by rw [hjoin]; exact hpa)
  rw [hjoin] at ej
  refine ej.bind ?_
  have hb : (0 : Int) ≤ ((split d.cls).1.length : Int) - (i : Int) := by omega
  rw [Tm.encL_length, wrap_i64 (n := ((split d.cls).1.length : Int) - (i : Int)) (by omega) (by omega)]
  simp only
  rw [shift_is hb _ hpa n2a (by omega) (by omega)]
  have hma : Pr (movedF a (((split d.cls).1.length : Int) - i) 0) := moved_pr hb _ _ hpa n2a (by omega)
  have hmas := proper_small hma
  obtain ⟨sm1, sm2⟩ := split_moved (((split d.cls).1.length : Int) - i) a hpas.1 0 hmas.1
  refine (split_ev hmas.1 (by omega)).bind (Ev.some (idx_get g2) (Ev.some (idx_get e2) ?_))
  rw [sm1, Tm.encL_length, Int.zero_add]
  have h4 : (split d.cls).2.op = 4 := hlc.1.1
  have hargs := nodesB_args h4 n1
  refine (refMoved_ev (m := m) (by omega) _ (show (0 : Int) + ((split d.cls).1.length : Int) + ((split a).1.length : Int) ≤ 9000 by omega) (by omega) _ (by have := pr_len hsp.1; omega) (fun x hx => ⟨pr_arg hsp.1 hx, hargs x hx⟩)).bind ?_
  have hX : Pr (movedF (split a).2 (((split d.cls).1.length : Int) - i) ((split a).1.length : Int)) := moved_pr (by omega) _ _ hspa.1 n3 (by omega)
  have hY : Pr (movedF (split d.cls).2 ((split a).1.length : Int) 0) := moved_pr (by omega) _ _ hsp.1 n1 (by omega)
  have hYa : (split d.cls).2.args.map (fun x => movedF x ((split a).1.length : Int) 0) = (movedF (split d.cls).2 ((split a).1.length : Int) 0).args := by rw [moved_args, h4, movedL_app]
  rw [hYa]
  have lenX : (((movedF (split a).2 (((split d.cls).1.length : Int) - i) ((split a).1.length : Int)).args.length : Nat) : Int) = arity sig (split a).2.n := by
    obtain ⟨_, _, d', q1, _, q3⟩ := hla.1
    rw [moved_args, movedL_length, q3]
    unfold arity; rw [q1]
  have lenY : (((movedF (split d.cls).2 ((split a).1.length : Int) 0).args.length : Nat) : Int) = arity sig (split d.cls).2.n := by
    obtain ⟨_, _, d', q1, _, q3⟩ := hlc.1
    rw [moved_args, movedL_length, q3]
    unfold arity; rw [q1]
  refine (lists_ev _ _ _ (objs_args hX) (objs_args hY) (by omega) (by omega) m1.order m2.order 1 hsim (by rw [lenX]; exact measOK_right hm g4) (by rw [lenY]; exact measOK_right hm e4)).bind (Ev.pure _)

/-! the last call that is not smaller -/
def smallAt (l : List Me) (c : Tm) (p : Int) : Bool := match (split c).1[p.toNat]? with
  | some a => (fndM l (split c).2.n).isSome && smallI l c a p
  | none => false
/-- Of calls from the last one on: the first that is not smaller. -/
def chk (l : List Me) (c : Tm) : List Int → Int
  | [] => -1
  | p :: r => if smallAt l c p = true then chk l c r else p

theorem chk_nonneg (l : List Me) (c : Tm) : ∀ (ps : List Int), (∀ p ∈ ps, 0 ≤ p) → chk l c ps = -1 ∨ 0 ≤ chk l c ps
  | [], _ => .inl rfl
  | p :: r, h => by
    simp only [chk]
    split
    · exact chk_nonneg l c r (fun x hx => h x (by simp [hx]))
    · exact .inr (h p (by simp))

theorem ordCheck_ev {sig : List Dc} (hs : sigOK sig = true) {n : Int} {d : Dc} (hd : idx sig n = some d) {l : List Me} (hm : measOK sig l = true) {M : List (Int × Od)} (hM : Mok M l) :
    Ev (fun k => order_check k sig n M) (if chk l d.cls (callsI l d.cls).reverse < 0 then (0, 0) else (chk l d.cls (callsI l d.cls).reverse, 32)) := by
  have hp : Pr d.cls := (sigOK_proper hs).2 d (List.mem_of_getElem? (idx_some hd).2)
  have hps := proper_small hp
  have hcl := (calls_len hp l).1
  refine Ev.succ (fun k => order_check.eq_2 ..) ?_
  refine Ev.some hd ((domains_ev hps.1 (by omega)).bind ((ordCalls_ev hs hd hM).bind ?_))
  have down : ∀ (j : Nat), j ≤ (callsI l d.cls).length → Ev (fun k => order_check_L1 k (callsI l d.cls) M (split d.cls) sig n ((j : Int) - 1)) (if chk l d.cls ((callsI l d.cls).take j).reverse < 0 then (0, 0) else (chk l d.cls ((callsI l d.cls).take j).reverse, 32)) := by
    intro j
    induction j with
    | zero =>
      intro _
      refine Ev.succ (fun k => order_check_L1.eq_2 ..) ?_
      exact Ev.f (by simp) (Ev.pure _)
    | succ j ih =>
      intro hj
      refine Ev.succ (fun k => order_check_L1.eq_2 ..) ?_
      rw [show (((j + 1 : Nat) : Int) - 1) = (j : Int) by omega]
      obtain ⟨p, hp1, hpm, hpg⟩ := idx_of (l := callsI l d.cls) (i := j) (by omega)
      obtain ⟨i, a, rfl, ha, hsome⟩ := callsI_mem hp hpm
      refine Ev.t (by simp) (Ev.some hp1 ?_)
      have htake : ((callsI l d.cls).take (j + 1)).reverse = (i : Int) :: ((callsI l d.cls).take j).reverse := by
        rw [List.take_add_one, hpg]; simp
      rw [htake, hM]
      have hat : smallAt l d.cls (i : Int) = ((fndM l (split d.cls).2.n).isSome && smallI l d.cls a (i : Int)) := by unfold smallAt; rw [Int.toNat_natCast, ha]
      simp only [chk, hat]
      cases ho : fndM l (split d.cls).2.n with
      | none =>
        refine Ev.t rfl ((Ev.pure _).eq ?_)
        simp
      | some ob =>
        obtain ⟨oa, hoa⟩ := Option.isSome_iff_exists.1 hsome
        refine Ev.f rfl ((ordSmaller_ev hs hd hm hM ha hoa ho).bind ?_)
        cases hsm : smallI l d.cls a (i : Int) with
        | false =>
          refine Ev.t rfl ((Ev.pure _).eq ?_)
          simp
        | true =>
          rw [wrap_i64 (n := (j : Int) - 1) (by omega) (by omega)]
          exact Ev.f rfl ((ih (by omega)).eq (by simp))
  have := down (callsI l d.cls).length (Nat.le_refl _)
  rw [List.take_length] at this
  rw [List.length_map, wrap_i64 (n := ((callsI l d.cls).length : Int) - 1) (by omega) (by omega)]
  exact this

theorem refCheck_ev {sig : List Dc} (hs : sigOK sig = true) {n : Int} {d : Dc} (hd : idx sig n = some d) (ht : TyT sig d.cls) {l : List Me} (hl : l.length ≤ 100) (hm : measOK sig l = true) :
    Ev (fun k => R15_Check k sig l n) (chk l d.cls (callsI l d.cls).reverse) := by
  have hp : Pr d.cls := (sigOK_proper hs).2 d (List.mem_of_getElem? (idx_some hd).2)
  have hps := proper_small hp
  have hcl := (calls_len hp l).1
  refine Ev.succ (fun k => R15_Check.eq_2 ..) ?_
  refine (refCalls_ev hs hd l hl).bind ?_
  rw [calls_same hp ht l]
  have down : ∀ (j : Nat), j ≤ (callsI l d.cls).length → Ev (fun k => R15_Check_L1 k (callsI l d.cls) sig l n ((j : Int) - 1)) (chk l d.cls ((callsI l d.cls).take j).reverse) := by
    intro j
    induction j with
    | zero =>
      intro _
      refine Ev.succ (fun k => R15_Check_L1.eq_2 ..) ?_
      exact Ev.f (by simp) (Ev.pure _)
    | succ j ih =>
      intro hj
      refine Ev.succ (fun k => R15_Check_L1.eq_2 ..) ?_
      rw [show (((j + 1 : Nat) : Int) - 1) = (j : Int) by omega]
      obtain ⟨p, hp1, hpm, hpg⟩ := idx_of (l := callsI l d.cls) (i := j) (by omega)
      obtain ⟨i, a, rfl, ha, hsome⟩ := callsI_mem hp hpm
      refine Ev.t (by simp) (Ev.some hp1 ((refSmaller_ev hs hd ht hl hm ha hsome).bind ?_))
      have htake : ((callsI l d.cls).take (j + 1)).reverse = (i : Int) :: ((callsI l d.cls).take j).reverse := by
        rw [List.take_add_one, hpg]; simp
      rw [htake]
      have hat : smallAt l d.cls (i : Int) = ((fndM l (split d.cls).2.n).isSome && smallI l d.cls a (i : Int)) := by unfold smallAt; rw [Int.toNat_natCast, ha]
      simp only [chk]
      rw [← hat]
      cases hsm : smallAt l d.cls (i : Int) with
      | false => exact Ev.t rfl (Ev.some hp1 ((Ev.pure _).eq (by simp)))
      | true =>
        rw [wrap_i64 (n := (j : Int) - 1) (by omega) (by omega)]
        exact Ev.f rfl ((ih (by omega)).eq (by simp))
  have := down (callsI l d.cls).length (Nat.le_refl _)
  rw [List.take_length] at this
  rw [List.length_map, wrap_i64 (n := ((callsI l d.cls).length : Int) - 1) (by omega) (by omega)]
  exact this
end Go.Proofs.YtpibdcjdamibdaaGreat
end

/-! OcF -/
section
namespace Go.Proofs.YtpibdcjdamibdaaGreat
open Go.Tr Go
set_option linter.unusedVariables false
set_option linter.unusedSimpArgs false
set_option maxRecDepth 10000

/-- The object constants of a family. -/
def ofG (fam : Int) : List Dc → Nat → List Int
  | [], _ => []
  | d :: r, i => if (!kindT d.cls && ((split d.cls).2.n == fam)) = true then (i : Int) :: ofG fam r (i + 1) else ofG fam r (i + 1)
theorem ofG_len (fam : Int) : ∀ (l : List Dc) (i : Nat), (ofG fam l i).length ≤ l.length
  | [], i => Nat.le_refl _
  | d :: r, i => by
    simp only [ofG]
    have := ofG_len fam r (i + 1)
    split <;> simp only [List.length_cons] <;> omega
theorem ofG_mem (fam : Int) : ∀ (l : List Dc) (i : Nat) (x : Int), x ∈ ofG fam l i → ∃ (j : Nat) (d : Dc), x = ((i + j : Nat) : Int) ∧ l[j]? = some d ∧ kindT d.cls = false
  | [], i, x, h => by cases h
  | d :: r, i, x, h => by
    simp only [ofG] at h
    have key : x ∈ ofG fam r (i + 1) → ∃ (j : Nat) (d' : Dc), x = ((i + j : Nat) : Int) ∧ (d :: r)[j]? = some d' ∧ kindT d'.cls = false := fun h => by
      obtain ⟨j, d', h1, h2, h3⟩ := ofG_mem fam r (i + 1) x h
      exact ⟨j + 1, d', by rw [h1]; omega, h2, h3⟩
    split at h
    · rename_i hc
      simp only [Bool.and_eq_true, Bool.not_eq_true'] at hc
      rcases List.mem_cons.1 h with e | e
      · exact ⟨0, d, by simpa using e, rfl, hc.1⟩
      · exact key e
    · exact key h

theorem signOf_ev {sig : List Dc} (hs : sigOK sig = true) {n : Int} {d : Dc} (hd : idx sig n = some d) (hk : kindT d.cls = true) : Ev (fun k => sign_Of k sig n) (ofG n sig 0, 0) := by
  obtain ⟨hsl, hsp⟩ := sigOK_proper hs
  obtain ⟨g1, g2⟩ := idx_some hd
  have hlt : n.toNat < sig.length := (List.getElem?_eq_some_iff.1 g2).1
  have hps := proper_small (hsp d (List.mem_of_getElem? g2))
  refine Ev.succ (fun k => sign_Of.eq_2 ..) ?_
  have e1 : Ev (fun k => sign_has k sig n) 0 := by
    refine Ev.succ (fun k => sign_has.eq_2 ..) ?_
    refine (check_ev sig).bind ?_
    rw [if_pos hs]
    exact Ev.f rfl (Ev.f (by rw [Dc.encL_length]; simp; omega) (Ev.pure _))
  refine e1.bind (Ev.f rfl ((signFamily_ev hd hps.1 (by omega)).bind ?_))
  rw [hk]
  refine Ev.f rfl ?_
  have loop : ∀ (ts : List Dc) (i : Nat) (acc : List Int), sig.drop i = ts → i + ts.length = sig.length → acc.length ≤ i → Ev (fun k => sign_Of_L1 k sig n acc (i : Int)) (acc ++ ofG n ts i, 0) := by
    intro ts
    induction ts with
    | nil =>
      intro i acc hdr hi ha
      refine Ev.succ (fun k => sign_Of_L1.eq_2 ..) ?_
      simp only [List.length_nil, Nat.add_zero] at hi
      exact Ev.f (by rw [Dc.encL_length]; simp [hi]) ((Ev.pure _).eq (by simp [ofG]))
    | cons x ts ih =>
      intro i acc hdr hi ha
      refine Ev.succ (fun k => sign_Of_L1.eq_2 ..) ?_
      simp only [List.length_cons] at hi
      have hx := getDrop hdr
      have hpx := proper_small (hsp x (List.mem_of_getElem? hx))
      refine Ev.t (by rw [Dc.encL_length]; simp; omega) ?_
      rw [wrapS (by omega)]
      simp only [ofG]
      by_cases hin : (i : Int) = n
      · refine Ev.f (bneI' hin) ?_
        have : x = d := by
          have : n.toNat = i := by omega
          rw [this, hx] at g2
          exact Option.some.inj g2
        rw [this, hk]
        exact ih (i + 1) acc (dropDrop hdr) (by omega) (by omega)
      · refine Ev.t (bneI hin) ?_
        have e2 : Ev (fun k => sign_Head k sig (i : Int)) (if kindT x.cls = true then (i : Int) else (split x.cls).2.n) := by
          refine Ev.succ (fun k => sign_Head.eq_2 ..) ?_
          refine (signFamily_ev (idx_get hx) hpx.1 (by omega)).bind ?_
          cases hkx : kindT x.cls with
          | true => exact Ev.t rfl (Ev.pure _)
          | false => exact Ev.f rfl (Ev.some (idx_get hx) ((target_ev hpx.1 (by omega)).bind (Ev.pure _)))
        refine e2.bind ?_
        cases hkx : kindT x.cls with
        | true =>
          rw [if_pos rfl]
          refine Ev.f (beqI' hin) ((ih (i + 1) acc (dropDrop hdr) (by omega) (by omega)).eq ?_)
          simp
        | false =>
          rw [if_neg (by simp)]
          refine Ev.ite (fun h => ?_) (fun h => ?_)
          · refine Ev.need (by simp; omega) ((ih (i + 1) (acc ++ [(i : Int)]) (dropDrop hdr) (by omega) (by simp; omega)).eq ?_)
            rw [h]; simp
          · refine (ih (i + 1) acc (dropDrop hdr) (by omega) (by omega)).eq ?_
            rw [h]; simp
  exact (loop sig 0 [] rfl (by simp) (by simp)).eq (by simp)

theorem refOf_ev {sig : List Dc} (hs : sigOK sig = true) (n : Int) : Ev (fun k => R05_Of k sig n) (ofG n sig 0) := by
  obtain ⟨hsl, hsp⟩ := sigOK_proper hs
  refine Ev.succ (fun k => R05_Of.eq_2 ..) ?_
  have loop : ∀ (ts : List Dc) (i : Nat) (acc : List Int), sig.drop i = ts → i + ts.length = sig.length → acc.length ≤ i → Ev (fun k => R05_Of_L1 k sig n acc (i : Int)) (acc ++ ofG n ts i) := by
    intro ts
    induction ts with
    | nil =>
      intro i acc hdr hi ha
      refine Ev.succ (fun k => R05_Of_L1.eq_2 ..) ?_
      simp only [List.length_nil, Nat.add_zero] at hi
      exact Ev.f (by rw [Dc.encL_length]; simp [hi]) ((Ev.pure _).eq (by simp [ofG]))
    | cons x ts ih =>
      intro i acc hdr hi ha
      refine Ev.succ (fun k => R05_Of_L1.eq_2 ..) ?_
      simp only [List.length_cons] at hi
      have hx := getDrop hdr
      have hpx := proper_small (hsp x (List.mem_of_getElem? hx))
      refine Ev.t (by rw [Dc.encL_length]; simp; omega) ((family_ev (idx_get hx) hpx.1 (by omega)).bind ?_)
      rw [wrapS (by omega)]
      simp only [ofG]
      cases hkx : kindT x.cls with
      | true => exact Ev.f rfl ((ih (i + 1) acc (dropDrop hdr) (by omega) (by omega)).eq (by simp))
      | false =>
        have e2 : Ev (fun k => R05_Target k sig (i : Int)) (split x.cls).2.n := by
          refine Ev.succ (fun k => R05_Target.eq_2 ..) ?_
          exact Ev.some (idx_get hx) ((split_ev hpx.1 (by omega)).bind (Ev.f hkx (Ev.pure _)))
        refine Ev.t rfl (e2.bind ?_)
        refine Ev.ite (fun h => ?_) (fun h => ?_)
        · refine Ev.need (by simp; omega) ((ih (i + 1) (acc ++ [(i : Int)]) (dropDrop hdr) (by omega) (by simp; omega)).eq ?_)
          rw [h]; simp
        · refine (ih (i + 1) acc (dropDrop hdr) (by omega) (by omega)).eq ?_
          rw [h]; simp
  exact (loop sig 0 [] rfl (by simp) (by simp)).eq (by simp)

/-- The last call that is not smaller, of a constant. -/
def lastC (sig : List Dc) (l : List Me) (n : Int) : Int := match idx sig n with
  | some d => chk l d.cls (callsI l d.cls).reverse
  | none => -1
/-- The first constant that has one. -/
def firstC (sig : List Dc) (l : List Me) : List Int → Int × Int × Bool
  | [] => (0, 0, false)
  | n :: r => if lastC sig l n ≥ 0 then (n, lastC sig l n, true) else firstC sig l r

theorem ordAll_ev {sig : List Dc} (hs : sigOK sig = true) {l : List Me} (hm : measOK sig l = true) {M : List (Int × Od)} (hM : Mok M l) (v : List Int × Int) (hv : v.1.length ≤ 1000) (hin : ∀ x ∈ v.1, ∃ d, idx sig x = some d) :
    Ev (fun k => order_All_L2 k v sig M 0) ((firstC sig l v.1).1, (firstC sig l v.1).2.1, cond (firstC sig l v.1).2.2 (32 : Int) 0) := by
  have loop : ∀ (ts : List Int) (i : Nat), v.1.drop i = ts → i + ts.length = v.1.length → Ev (fun k => order_All_L2 k v sig M (i : Int)) ((firstC sig l ts).1, (firstC sig l ts).2.1, cond (firstC sig l ts).2.2 (32 : Int) 0) := by
    intro ts
    induction ts with
    | nil =>
      intro i hdr hi
      refine Ev.succ (fun k => order_All_L2.eq_2 ..) ?_
      simp only [List.length_nil, Nat.add_zero] at hi
      exact Ev.f (by simp [hi]) (Ev.pure _)
    | cons n ts ih =>
      intro i hdr hi
      refine Ev.succ (fun k => order_All_L2.eq_2 ..) ?_
      simp only [List.length_cons] at hi
      have hn := getDrop hdr
      obtain ⟨d, hd⟩ := hin n (List.mem_of_getElem? hn)
      refine Ev.t (by simp; omega) (Ev.some (idx_get hn) ((ordCheck_ev hs hd hm hM).bind ?_))
      have hlc : lastC sig l n = chk l d.cls (callsI l d.cls).reverse := by unfold lastC; rw [hd]
      rw [← hlc]
      simp only [firstC]
      by_cases hc : lastC sig l n < 0
      · rw [if_pos hc, if_neg (by omega), wrapS (by omega)]
        exact Ev.f rfl (ih (i + 1) (dropDrop hdr) (by omega))
      · rw [if_neg hc, if_pos (by omega)]
        exact Ev.t rfl (Ev.pure _)
  exact loop v.1 0 rfl (by simp)

theorem refAll_ev {sig : List Dc} (hs : sigOK sig = true) (ht : SigT sig) {l : List Me} (hl : l.length ≤ 100) (hm : measOK sig l = true) (n : Int) :
    Ev (fun k => R15_All k sig l n) (firstC sig l (ofG n sig 0)) := by
  obtain ⟨hsl, hsp⟩ := sigOK_proper hs
  have hol := ofG_len n sig 0
  refine Ev.succ (fun k => R15_All.eq_2 ..) ?_
  refine (refOf_ev hs n).bind ?_
  have loop : ∀ (ts : List Int) (i : Nat), (ofG n sig 0).drop i = ts → i + ts.length = (ofG n sig 0).length → Ev (fun k => R15_All_L1 k (ofG n sig 0) sig l (i : Int)) (firstC sig l ts) := by
    intro ts
    induction ts with
    | nil =>
      intro i hdr hi
      refine Ev.succ (fun k => R15_All_L1.eq_2 ..) ?_
      simp only [List.length_nil, Nat.add_zero] at hi
      exact Ev.f (by simp [hi]) (Ev.pure _)
    | cons x ts ih =>
      intro i hdr hi
      refine Ev.succ (fun k => R15_All_L1.eq_2 ..) ?_
      simp only [List.length_cons] at hi
      have hx := getDrop hdr
      obtain ⟨j, d, e1, e2, e3⟩ := ofG_mem n sig 0 x (List.mem_of_getElem? hx)
      have hd : idx sig x = some d := by rw [e1, Nat.zero_add]; exact idx_get e2
      refine Ev.t (by simp; omega) (Ev.some (idx_get hx) ((refCheck_ev hs hd (ht d (List.mem_of_getElem? e2) e3) hl hm).bind ?_))
      have hlc : lastC sig l x = chk l d.cls (callsI l d.cls).reverse := by unfold lastC; rw [hd]
      rw [← hlc]
      simp only [firstC]
      by_cases hc : lastC sig l x ≥ 0
      · rw [if_pos hc]
        exact Ev.t (decide_eq_true hc) (Ev.some (idx_get hx) (Ev.pure _))
      · rw [if_neg hc, wrapS (by omega)]
        exact Ev.f (decide_eq_false hc) (ih (i + 1) (dropDrop hdr) (by omega))
  exact loop _ 0 rfl (by simp)

theorem ints_ev (a : List Int) (ha : a.length ≤ 1000) : Ev (fun k => W15_ints k a a) true := by
  refine Ev.succ (fun k => W15_ints.eq_2 ..) ?_
  refine Ev.f (by simp) ?_
  have loop : ∀ (ts : List Int) (i : Nat), a.drop i = ts → i + ts.length = a.length → Ev (fun k => W15_ints_L1 k a a (i : Int)) true := by
    intro ts
    induction ts with
    | nil =>
      intro i hdr hi
      refine Ev.succ (fun k => W15_ints_L1.eq_2 ..) ?_
      simp only [List.length_nil, Nat.add_zero] at hi
      exact Ev.f (by simp [hi]) (Ev.pure _)
    | cons x ts ih =>
      intro i hdr hi
      refine Ev.succ (fun k => W15_ints_L1.eq_2 ..) ?_
      simp only [List.length_cons] at hi
      refine Ev.t (by simp; omega) (Ev.some (idx_get (getDrop hdr)) (Ev.some (idx_get (getDrop hdr)) (Ev.f (by simp) ?_)))
      rw [wrapS (by omega)]
      exact ih (i + 1) (dropDrop hdr) (by omega)
  exact loop a 0 rfl (by simp)

section
variable (sig : List Dc) (l : List Me) (n : Int)

/-- What the three calls answer. -/
structure Three (c : List Int × Int) (f : Int × Int) (a : Int × Int × Int) : Prop where
  calls : Ev (fun k => order_Calls k sig l n) c
  check : Ev (fun k => order_Check k sig l n) f
  all : Ev (fun k => order_All k sig l n) a

theorem three_sig (h : sigOK sig = false) : Three sig l n ([], 2) (0, 2) (0, 0, 2) := by
  have hc := check_ev sig
  rw [h] at hc
  refine ⟨?_, ?_, ?_⟩
  · exact Ev.succ (fun k => order_Calls.eq_2 ..) (hc.bind (Ev.t rfl (Ev.pure _)))
  · exact Ev.succ (fun k => order_Check.eq_2 ..) (hc.bind (Ev.t rfl (Ev.pure _)))
  · exact Ev.succ (fun k => order_All.eq_2 ..) (hc.bind (Ev.t rfl (Ev.pure _)))

variable {sig} {l} {n}
theorem three_start (hs : sigOK sig = true) {c : List Int × Int} {f : Int × Int} {a : Int × Int × Int} (h1 : Ev (fun k => order_Calls_L1 k l sig n [] 0) c) (h2 : Ev (fun k => order_Check_L1 k l sig n [] 0) f) (h3 : Ev (fun k => order_All_L1 k l sig n [] 0) a) : Three sig l n c f a := by
  have hc := check_ev sig
  rw [if_pos hs] at hc
  refine ⟨?_, ?_, ?_⟩
  · exact Ev.succ (fun k => order_Calls.eq_2 ..) (hc.bind (Ev.f rfl h1))
  · exact Ev.succ (fun k => order_Check.eq_2 ..) (hc.bind (Ev.f rfl h2))
  · exact Ev.succ (fun k => order_All.eq_2 ..) (hc.bind (Ev.f rfl h3))

/-- What is looked at behind the measures. -/
theorem three_cases (hs : sigOK sig = true) (hm : measOK sig l = true) (hl : l.length ≤ 100) :
    ((¬ (0 ≤ n ∧ n < (sig.length : Int))) ∧ Three sig l n ([], 6) (0, 6) (0, 0, 6)) ∨
    ∃ d, idx sig n = some d ∧ ((kindT d.cls = true ∧ Three sig l n ([], 22) (0, 22) ((firstC sig l (ofG n sig 0)).1, (firstC sig l (ofG n sig 0)).2.1, cond (firstC sig l (ofG n sig 0)).2.2 (32 : Int) 0)) ∨
      (kindT d.cls = false ∧ Three sig l n (callsI l d.cls, 0) (if chk l d.cls (callsI l d.cls).reverse < 0 then (0, 0) else (chk l d.cls (callsI l d.cls).reverse, 32)) (0, 0, 22))) := by
  obtain ⟨hsl, hsp⟩ := sigOK_proper hs
  have hc := check_ev sig
  rw [if_pos hs] at hc
  by_cases hr : 0 ≤ n ∧ n < (sig.length : Int)
  · right
    obtain ⟨d, hd, hdm⟩ := idx_pre hr.1 hr.2
    have hps := proper_small (hsp d hdm)
    have hcond : ((decide (n < 0)) || (decide (n ≥ ((Dc.encL sig).length : Int)))) = false := by rw [Dc.encL_length]; simp; omega
    have hfam := signFamily_ev hd hps.1 (by omega)
    refine ⟨d, hd, ?_⟩
    cases hk : kindT d.cls with
    | true =>
      rw [hk] at hfam
      refine .inl ⟨rfl, three_start hs ?_ ?_ ?_⟩
      · refine (measCalls hs l hl n (r := ([], 22)) (fun _ M hM => Ev.f hcond (hfam.bind (Ev.t rfl (Ev.pure _))))).eq ?_
        rw [if_pos hm]
      · refine (measCheck hs l hl n (r := (0, 22)) (fun _ M hM => Ev.f hcond (hfam.bind (Ev.t rfl (Ev.pure _))))).eq ?_
        rw [if_pos hm]
      · refine (measAll hs l hl n (r := ((firstC sig l (ofG n sig 0)).1, (firstC sig l (ofG n sig 0)).2.1, cond (firstC sig l (ofG n sig 0)).2.2 (32 : Int) 0)) (fun _ M hM => ?_)).eq ?_
        · refine (signOf_ev hs hd hk).bind (Ev.f rfl ?_)
          refine ordAll_ev hs hm hM (ofG n sig 0, 0) ?_ ?_
          · have := ofG_len n sig 0; simp only; omega
          · intro x hx
            obtain ⟨j, d', e1, e2, _⟩ := ofG_mem n sig 0 x hx
            exact ⟨d', by rw [e1, Nat.zero_add]; exact idx_get e2⟩
        · rw [if_pos hm]
    | false =>
      rw [hk] at hfam
      refine .inr ⟨rfl, three_start hs ?_ ?_ ?_⟩
      · refine (measCalls hs l hl n (r := (callsI l d.cls, 0)) (fun _ M hM => Ev.f hcond (hfam.bind (Ev.f rfl ((ordCalls_ev hs hd hM).bind (Ev.pure _)))))).eq ?_
        rw [if_pos hm]
      · refine (measCheck hs l hl n (r := (if chk l d.cls (callsI l d.cls).reverse < 0 then (0, 0) else (chk l d.cls (callsI l d.cls).reverse, 32))) (fun _ M hM => Ev.f hcond (hfam.bind (Ev.f rfl ((ordCheck_ev hs hd hm hM).bind (Ev.pure _)))))).eq ?_
        rw [if_pos hm]
      · refine (measAll hs l hl n (r := (0, 0, 22)) (fun _ M hM => ?_)).eq ?_
        · have e1 : Ev (fun k => sign_Of k sig n) ([], 22) := by
            refine Ev.succ (fun k => sign_Of.eq_2 ..) ?_
            have e2 : Ev (fun k => sign_has k sig n) 0 := by
              refine Ev.succ (fun k => sign_has.eq_2 ..) (hc.bind ?_)
              exact Ev.f rfl (Ev.f hcond (Ev.pure _))
            exact e2.bind (Ev.f rfl (hfam.bind (Ev.t rfl (Ev.pure _))))
          exact e1.bind (Ev.t rfl (Ev.pure _))
        · rw [if_pos hm]
  · left
    have hcond : ((decide (n < 0)) || (decide (n ≥ ((Dc.encL sig).length : Int)))) = true := by rw [Dc.encL_length]; simp; omega
    refine ⟨hr, three_start hs ?_ ?_ ?_⟩
    · refine (measCalls hs l hl n (r := ([], 6)) (fun _ M hM => Ev.t hcond (Ev.pure _))).eq ?_
      rw [if_pos hm]
    · refine (measCheck hs l hl n (r := (0, 6)) (fun _ M hM => Ev.t hcond (Ev.pure _))).eq ?_
      rw [if_pos hm]
    · refine (measAll hs l hl n (r := (0, 0, 6)) (fun _ M hM => ?_)).eq ?_
      · have e1 : Ev (fun k => sign_Of k sig n) ([], 6) := by
          refine Ev.succ (fun k => sign_Of.eq_2 ..) ?_
          have e2 : Ev (fun k => sign_has k sig n) 6 := by
            refine Ev.succ (fun k => sign_has.eq_2 ..) (hc.bind ?_)
            exact Ev.f rfl (Ev.t hcond (Ev.pure _))
          exact e2.bind (Ev.t rfl (Ev.pure _))
        exact e1.bind (Ev.t rfl (Ev.pure _))
      · rw [if_pos hm]

theorem three_meas (hs : sigOK sig = true) (hm : measOK sig l = false) (hl : l.length ≤ 100) : Three sig l n ([], 2) (0, 2) (0, 0, 2) := by
  have no : ∀ {P : Prop}, measOK sig l = true → P := fun h => by rw [hm] at h; cases h
  refine three_start hs ?_ ?_ ?_
  · exact (measCalls hs l hl n (r := ([], 2)) (fun h => no h)).eq (by rw [if_neg (by rw [hm]; simp)])
  · exact (measCheck hs l hl n (r := (0, 2)) (fun h => no h)).eq (by rw [if_neg (by rw [hm]; simp)])
  · exact (measAll hs l hl n (r := (0, 0, 2)) (fun h => no h)).eq (by rw [if_neg (by rw [hm]; simp)])
end
end Go.Proofs.YtpibdcjdamibdaaGreat
end

/-! OcG -/
section
namespace Go.Proofs.YtpibdcjdamibdaaGreat
open Go.Tr Go
set_option linter.unusedVariables false
set_option linter.unusedSimpArgs false
set_option maxRecDepth 10000

theorem orderChecks_ev (sig : List Dc) (l : List Me) (n : Int) (hb : sigB sig) : Ev (fun k => W15_OrderChecks k sig l n) true := by
  obtain ⟨L, hL⟩ : ∃ L, L = l.take (if 50 < ((Me.encL l).length : Int) then 50 else ((Me.encL l).length : Int)).toNat := ⟨_, rfl⟩
  have hL50 : L.length ≤ 50 := by
    rw [hL, List.length_take, Me.encL_length]
    split <;> omega
  refine Ev.succ (fun k => W15_OrderChecks.eq_2 ..) ?_
  refine Ev.need ?_ ?_
  · rw [decide_eq_true_eq, Me.encL_length]
    refine ⟨by omega, ?_, ?_⟩ <;> split <;> omega
  have loop : ∀ (ts : List Me) (i : Nat), L.drop i = ts → i + ts.length = L.length → Ev (fun k => W15_OrderChecks_L1 k l sig n (i : Int)) true := by
    intro ts
    induction ts with
    | cons m ts ih =>
      intro i hdr hi
      refine Ev.succ (fun k => W15_OrderChecks_L1.eq_2 ..) ?_
      rw [← hL]
      simp only [List.length_cons] at hi
      refine Ev.t (by simp; omega) (Ev.some (idx_get (getDrop hdr)) ?_)
      obtain ⟨b, h1, _⟩ := small_ord_y m.order
      refine h1.bind ?_
      cases b with
      | false => exact Ev.t rfl (Ev.pure _)
      | true =>
        rw [wrapS (by omega)]
        exact Ev.f rfl (ih (i + 1) (dropDrop hdr) (by omega))
    | nil =>
      intro i hdr hi
      refine Ev.succ (fun k => W15_OrderChecks_L1.eq_2 ..) ?_
      rw [← hL]
      simp only [List.length_nil, Nat.add_zero] at hi
      refine Ev.f (by simp [hi]) ?_
      cases hs : sigOK sig with
      | false =>
        have H := three_sig sig L n hs
        refine H.calls.bind (H.check.bind (H.all.bind ((formedSig_ev sig).bind ?_)))
        rw [hs]
        exact Ev.t rfl (Ev.t rfl (Ev.pure _))
      | true =>
      cases hm : measOK sig L with
      | false =>
        have H := three_meas (n := n) hs hm (by omega)
        refine H.calls.bind (H.check.bind (H.all.bind ((formedSig_ev sig).bind ?_)))
        rw [hs]
        refine Ev.f rfl ((refMeasures_ev hs L (by omega)).bind ?_)
        rw [hm]
        exact Ev.t rfl (Ev.t rfl (Ev.pure _))
      | true =>
      have hmes := refMeasures_ev hs L (by omega)
      rw [hm] at hmes
      have hfor := formedSig_ev sig
      rw [hs] at hfor
      obtain ⟨b, v1, v2⟩ := valid_kd sig hb
      rcases three_cases (n := n) hs hm (by omega) with ⟨hr, H⟩ | ⟨d, hd, ⟨hk, H⟩ | ⟨hk, H⟩⟩
      · refine H.calls.bind (H.check.bind (H.all.bind (hfor.bind (Ev.f rfl (hmes.bind (Ev.f rfl (v1.bind ?_)))))))
        cases b with
        | false => exact Ev.t rfl (Ev.pure _)
        | true =>
          refine Ev.f rfl ((has_ev sig n).bind ?_)
          have : (decide (n ≥ 0) && decide (n < (sig.length : Int))) = false := by
            rw [Bool.and_eq_false_iff, decide_eq_false_iff_not, decide_eq_false_iff_not]; omega
          rw [this]
          exact Ev.t rfl (Ev.t rfl (Ev.pure _))
      · refine H.calls.bind (H.check.bind (H.all.bind (hfor.bind (Ev.f rfl (hmes.bind (Ev.f rfl (v1.bind ?_)))))))
        cases b with
        | false => exact Ev.t rfl (Ev.pure _)
        | true =>
          obtain ⟨_, ht⟩ := v2 rfl
          obtain ⟨g1, g2⟩ := idx_some hd
          have hlt : n.toNat < sig.length := (List.getElem?_eq_some_iff.1 g2).1
          have hps := proper_small ((sigOK_proper hs).2 d (List.mem_of_getElem? g2))
          refine Ev.f rfl ((has_ev sig n).bind ?_)
          have : (decide (n ≥ 0) && decide (n < (sig.length : Int))) = true := by
            rw [Bool.and_eq_true, decide_eq_true_eq, decide_eq_true_eq]; omega
          rw [this]
          refine Ev.f rfl ((isFamily_ev hd hps.1 (by omega)).bind ?_)
          rw [hk]
          refine Ev.t rfl ((refAll_ev hs ht (by omega) hm n).bind (Ev.f rfl (Ev.t ?_ (Ev.pure _))))
          cases (firstC sig L (ofG n sig 0)).2.2 <;> simp
      · refine H.calls.bind (H.check.bind (H.all.bind (hfor.bind (Ev.f rfl (hmes.bind (Ev.f rfl (v1.bind ?_)))))))
        cases b with
        | false => exact Ev.t rfl (Ev.pure _)
        | true =>
          obtain ⟨_, ht⟩ := v2 rfl
          obtain ⟨g1, g2⟩ := idx_some hd
          have hlt : n.toNat < sig.length := (List.getElem?_eq_some_iff.1 g2).1
          have hdm := List.mem_of_getElem? g2
          have hp : Pr d.cls := (sigOK_proper hs).2 d hdm
          have hps := proper_small hp
          have htd := ht d hdm hk
          have hcl := calls_len hp L
          refine Ev.f rfl ((has_ev sig n).bind ?_)
          have : (decide (n ≥ 0) && decide (n < (sig.length : Int))) = true := by
            rw [Bool.and_eq_true, decide_eq_true_eq, decide_eq_true_eq]; omega
          rw [this]
          refine Ev.f rfl ((isFamily_ev hd hps.1 (by omega)).bind ?_)
          rw [hk]
          refine Ev.f rfl ((refCheck_ev hs hd htd (by omega) hm).bind (Ev.f rfl ((refCalls_ev hs hd L (by omega)).bind ?_)))
          rw [calls_same hp htd L]
          refine (ints_ev (callsI L d.cls) (by omega)).bind (Ev.f rfl (Ev.t ?_ (Ev.pure _)))
          have hnn := chk_nonneg L d.cls (callsI L d.cls).reverse (fun p hpm => by
            obtain ⟨i, a, rfl, _⟩ := callsI_mem hp (List.mem_reverse.1 hpm)
            omega)
          by_cases hneg : chk L d.cls (callsI L d.cls).reverse < 0
          · simp [hneg]
          · rw [if_neg hneg]
            have : 0 ≤ chk L d.cls (callsI L d.cls).reverse := by omega
            simp [this]
  exact loop L 0 rfl (by simp)
end Go.Proofs.YtpibdcjdamibdaaGreat
end

/-! RowOC -/
section
namespace Go.Proofs.YtpibdcjdamibdaaGreat
open Go.Tr Go
open Go.ChangeShapes Go.WideShapes Go.ChangeAt Go.RowKit
set_option maxRecDepth 10000

theorem sigB_of {sig : List Dc} (h : okD (.sl 6 (Dc.encL sig))) : sigB sig := by
  simp only [okD] at h
  rw [Dc.encL_length] at h
  refine ⟨h.1, fun d hd => ?_⟩
  have h1 := okL_mem h.2 (List.mem_map_of_mem (f := Dc.enc) hd)
  simp only [okD, okL] at h1
  refine shT_of d.cls ?_
  rw [Tm.enc_eq]
  simp only [okD, okL]
  exact h1.2.1

theorem orderChecks_spec (sig : List Dc) (l : List Me) (n : Int) (a2 : Option Addr) (c2 : Nat) (a4 : Option Addr) (c4 : Nat) :
    Pure Tryz.prog (fnS 3) [(.v (.slice a2 ((Dc.encL sig).length) c2)), (.v (.slice a4 ((Me.encL l).length) c4)), (.v (.int .i64 n))] [(.slice a2 ((Dc.encL sig).length) c2, .sl 6 (Dc.encL sig)), (.slice a4 ((Me.encL l).length) c4, .sl 4 (Me.encL l))] (fun r out => r = bS true ∧ out = []) := by
  refine Meets.of_ok fun hok => ?_
  have hb : sigB sig := sigB_of (hok _ (List.mem_cons_self ..))
  obtain ⟨N, h⟩ := orderChecks_ev sig l n hb
  exact W15_OrderChecks_spec N sig l n a2 c2 a4 c4 _ (h N (Nat.le_refl _))

set_option maxRecDepth 100000 in
theorem orderChecks_lifted (os : Os) (started : os.Started) (H : Type) (enc : TypeId × Value → H) :
    ReturnsInHanded {} Tryz.checked os 3 .any (Rows.orderChecksSpec.pre6 enc Tryz.prog Tryz.f3 Rows.orderChecksRow.domain false) (Rows.orderChecksSpec.post enc Tryz.prog Tryz.f3 false true false false) := by
  refine returnsInHanded_of_change_sized (C := Tryz.checked) own started (by kernel_rfl) Tryz.func3
    (ChangeSpec.witness6 (enc := enc) (C := Tryz.checked) false ⟨#[], #[.slice none 0 0, .slice none 0 0, .int .i64 0], []⟩ 8 (by kernel_rfl) (by kernel_rfl) (by kernel_rfl) (by kernel_rfl)) ?_
  intro W base args ds gs before hval hW _ hsz _
  have hW' := hW
  obtain ⟨p, q, hA0, hV, rfl, _, _⟩ := hW
  have hA : DataW.TrodAll enc Tryz.prog W 0 (fun _ => true) true Tryz.f3.params.toList args.toList ds p := hA0
  rw [Tryz.params3] at hA hval
  have hsz : (DataW.weightsEach Tryz.prog ([22, 23, 3] ++ []) (ds ++ gs)).all (· ≤ reachBytes) = true := by
    have := hsz
    rw [Tryz.params3] at this
    exact this
  obtain ⟨v0, vs0, d0, ds0, p0, q0, ha0, rfl, rfl, h0, r0⟩ := trodAll_cons hA
  obtain ⟨v1, vs1, d1, ds1, p1, q1, rfl, rfl, rfl, h1, r1⟩ := trodAll_cons r0
  obtain ⟨v2, vs2, d2, ds2, p2, q2, rfl, rfl, rfl, h2, r2⟩ := trodAll_cons r1
  obtain ⟨rfl, rfl, rfl⟩ := trodAll_nil r2
  obtain ⟨rfl, rfl⟩ := trodVars_none hV
  obtain rfl : args = #[v0, v1, v2] := by rw [← Array.toList_inj, ha0]
  have hw := all_le hsz
  simp only [List.append_nil, DataW.weightsEach, List.mem_append] at hw
  obtain ⟨sig, a2, c2, rfl, e2⟩ := argl_Dc (hval 0 _ _ rfl rfl) h0 (fun y hy => hw y (.inl hy))
  obtain ⟨l, a4, c4, rfl, e4⟩ := argl_Me (hval 1 _ _ rfl rfl) h1 (fun y hy => hw y (.inr (.inl hy)))
  obtain ⟨n, rfl, _⟩ := arg_int (hval 2 _ _ rfl rfl) h2
  refine ((orderChecks_spec sig l n a2 c2 a4 c4).calls Tryz.call3 (W := W) ?_).mono ?_
  · intro r hr
    simp only [List.mem_cons, List.not_mem_nil, or_false] at hr
    rcases hr with rfl | rfl
    · exact e2
    · exact e4
  rintro e W' ⟨r, out, rfl, ⟨rfl, rfl⟩, hx⟩
  refine ⟨_, rfl, post_true kids full hW' rfl ?_ ?_ (by kernel_rfl) Tryz.underlying4 hx⟩
  · rw [Tryz.params3]
    decide +kernel
  · intro ds hl
    rw [Tryz.params3] at hl
    match ds, hl with
    | [_, _, _], _ => rfl

theorem orderChecks_holds : Rows.OrderChecksSaid :=
  OpenClaim.holds_of_wide 3 Tryz.f3 rfl rfl rfl rfl rfl rfl rfl ⟨rfl, rfl, rfl, rfl, rfl⟩ rfl rfl rfl rfl rfl (by kernel_rfl) Tryz.func3 (by kernel_rfl)
    (of_decide_eq_true (by kernel_rfl)) (by unfold Func.isWrapper; first | (rw [if_pos (by decide +kernel)]; kernel_rfl) | (rw [if_neg (by decide +kernel)]; exact ⟨rfl, rfl⟩))
    (fun os started H enc _ => orderChecks_lifted os started H enc)
#print axioms orderChecks_holds
end Go.Proofs.YtpibdcjdamibdaaGreat
end
