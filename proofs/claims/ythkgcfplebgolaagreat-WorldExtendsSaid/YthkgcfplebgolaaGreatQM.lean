/- Merged texts: EvH EvC EvK EvL SuA SuB WxA. Conditions stand in each rule. -/
import Derived.Test.YthkgcfplebgolaaGreatQL
set_option linter.unusedSimpArgs false
set_option linter.unusedVariables false

namespace Go.Proofs.YthkgcfplebgolaaGreat
section
open Go.Tr Go Go.Proofs.Tryz
set_option maxRecDepth 10000
theorem below_ev (t : Tm) (i : Int) : Ev (fun k => R03_below k t i) (under t.op i) := by
 refine Ev.succ (fun k => R03_below.eq_2 ..) ?_
 by_cases h : t.op = 3 ∨ t.op = 2 ∧ i = 1
 ·rw [under, if_pos h]
  exact Ev.t (by simpa using h) (Ev.pure _)
 ·rw [under, if_neg h]
  exact Ev.f (by simpa using h) (Ev.pure _)
theorem putR_evL (n : Int) (l : List Int) (hl : l.length ≤ 900000) : ∀ (m i : Nat), m = l.length - i → i ≤ l.length → Ev (fun k => R03_put_L1 k l n (i : Int)) (l.take i ++ putF (l.drop i) n)
 | 0, i, hm, hi => by
  have hi : i = l.length := by omega
  subst hi
  refine Ev.succ (fun k => R03_put_L1.eq_2 ..) ?_
  refine Ev.f (by simp) ?_
  refine Ev.f (by simp) ?_
  refine Ev.need (by simp) ?_
  refine Ev.need (by simp; omega) ?_
  refine Ev.need (by simp; omega) ?_
  refine Ev.need (by simp) ?_
  refine Ev.need (by simp; omega) ?_
  exact (Ev.pure _).eq (by simp [putF])
 | m + 1, i, hm, hi => by
  have hlt : i < l.length := by omega
  have hd : l.drop i = l[i] :: l.drop (i + 1) := List.drop_eq_getElem_cons hlt
  refine Ev.succ (fun k => R03_put_L1.eq_2 ..) ?_
  refine Ev.t (by simp; omega) ?_
  refine Ev.need (by simp; omega) ?_
  refine Ev.some (x := l[i]) (by simp [hlt]) ?_
  refine Ev.ite (fun h => ?_) (fun h => ?_)
  ·have h : l[i] < n := by simpa using h
   rw [wrapS (by omega)]
   refine (putR_evL n l hl m (i + 1) (by omega) (by omega)).eq ?_
   rw [hd, putF, if_pos h, show l.take (i + 1) = l.take i ++ [l[i]] from (List.take_append_getElem hlt).symm, List.append_assoc]
   rfl
  ·have h : ¬ l[i] < n := by simpa using h
   refine Ev.t (by simp; omega) ?_
   refine Ev.need (by simp; omega) ?_
   refine Ev.some (x := l[i]) (by simp [hlt]) ?_
   refine Ev.ite (fun h2 => ?_) (fun h2 => ?_)
   ·have h2 : l[i] = n := by simpa using h2
    refine (Ev.pure _).eq ?_
    rw [hd, putF, if_neg h, if_pos h2, ← hd, List.take_append_drop]
   ·have h2 : ¬ l[i] = n := by simpa using h2
    refine Ev.need (by simp; omega) ?_
    refine Ev.need (by simp; omega) ?_
    refine Ev.need (by simp; omega) ?_
    refine Ev.need (by simp; omega) ?_
    refine Ev.need (by simp; omega) ?_
    refine (Ev.pure _).eq ?_
    rw [hd, putF, if_neg h, if_neg h2, show ((i : Nat) : Int).toNat = i from by simp, hd, List.append_assoc]
    rfl
theorem putR_ev (n : Int) (l : List Int) (hl : l.length ≤ 900000) : Ev (fun k => R03_put k l n) (putF l n) := by
 refine Ev.succ (fun k => R03_put.eq_2 ..) ?_
 exact (putR_evL n l hl l.length 0 (by omega) (by omega)).eq (by simp)
mutual
theorem qgl (hd : Int) : ∀ (t : Tm) (k : Int) (l : List Int), 0 ≤ k → k + t.height ≤ 1000000 → l.length + t.count ≤ 900000 → Ev (fun n => R03_heads n t hd k l) (headsF hd t k l)
 | .mk o h n us, k, l, hk0, hk1, hc => by
  refine Ev.succ (fun n => R03_heads.eq_2 ..) ?_
  have hcu : 1 + qn us = (Tm.mk o h n us).count := by rw [qai]; simp only [Tm.args]; omega
  have hul := qv us
  have hgo : ∀ l' : List Int, l'.length ≤ l.length + 1 → Ev (fun q => R03_heads_L1 q (.mk o h n us) hd k l' 0) (headsL hd o us 0 k l') := fun l' h' =>
   qly hd o h n us (by omega) us k l' 0 rfl hk0 (by rw [Tm.height_eq] at hk1; simp only [Tm.args] at hk1; omega) (by omega) (by simp)
  simp only [headsF, Tm.op, Tm.hd, Tm.n]
  refine Ev.ite (fun h1 => ?_) (fun h1 => ?_)
  ·have h1 : o = 4 ∧ h = hd := by simpa using h1
   rw [if_pos h1]
   refine Ev.ite (fun h2 => ?_) (fun h2 => ?_)
   ·have h2 : hd ≠ 1 := by simpa using h2
    rw [if_pos h2]
    refine (putR_ev n l (by omega)).bind ?_
    exact hgo _ (qc5 l n)
   ·have h2 : ¬ hd ≠ 1 := by simpa using h2
    rw [if_neg h2]
    refine Ev.ite (fun h3 => ?_) (fun h3 => ?_)
    ·have h3 : n ≥ k := by simpa using h3
     rw [if_pos h3]
     refine (putR_ev _ l (by omega)).bind ?_
     exact hgo _ (qc5 l _)
    ·have h3 : ¬ n ≥ k := by simpa using h3
     rw [if_neg h3]
     exact hgo _ (by omega)
  ·have h1 : ¬ (o = 4 ∧ h = hd) := by simpa using h1
   rw [if_neg h1]
   exact hgo _ (by omega)
theorem qly (hd o h n : Int) (us : List Tm) (hus : us.length ≤ 1000000) : ∀ (ts : List Tm) (k : Int) (l : List Int) (i : Nat), us.drop i = ts → 0 ≤ k → k + 1 + qp ts ≤ 1000000 → l.length + qn ts ≤ 900000 → i + ts.length = us.length → Ev (fun q => R03_heads_L1 q (.mk o h n us) hd k l (i : Int)) (headsL hd o ts i k l)
 | [], k, l, i, hd', hk0, hk1, hc, hi => by
  refine Ev.succ (fun n => R03_heads_L1.eq_2 ..) ?_
  simp only [List.length_nil, Nat.add_zero] at hi
  refine Ev.f (by simp [Tm.encL_length, Tm.args, hi]) ?_
  exact (Ev.pure _).eq (by simp [headsL])
 | u :: ts, k, l, i, hd', hk0, hk1, hc, hi => by
  refine Ev.succ (fun n => R03_heads_L1.eq_2 ..) ?_
  simp only [List.length_cons] at hi
  have hu : us[i]? = some u := by
   have := congrArg (fun l => l[0]?) hd'
   simpa using this
  have hul := qb1 o i
  simp only [qp, qn] at hk1 hc
  refine Ev.t (by simp [Tm.encL_length, Tm.args]; omega) ?_
  refine Ev.some (qz hu) ?_
  refine (below_ev _ _).bind ?_
  have hw : IntKind.i64.wrap (k + under o i) = k + under o i := wrap_i64 (by omega) (by omega)
  simp only [Tm.op, hw]
  refine (qgl hd u (k + under o i) l (by omega) (by omega) (by omega)).bind ?_
  simp only [wrapS (show i < 2000000000000000000 by omega)]
  have hlen := qed hd u (k + under o i) l
  exact qly hd o h n us hus ts k _ (i + 1) (by rw [← List.drop_drop, hd']; rfl) hk0 (by omega) (by omega) (by omega)
 end
theorem refFree_ev {t : Tm} (hh : t.height ≤ 800000) (hc : t.count ≤ 800000) : Ev (fun k => R03_Free k t) (headsF 1 t 0 []) := by
 refine Ev.succ (fun k => R03_Free.eq_2 ..) ?_
 exact (qgl 1 t 0 [] (by omega) (by omega) (by simp; omega)).bind (Ev.pure _)
theorem qi7 {t : Tm} (hh : t.height ≤ 800000) (hc : t.count ≤ 800000) : Ev (fun k => R03_Constants k t) (headsF 2 t 0 []) := by
 refine Ev.succ (fun k => R03_Constants.eq_2 ..) ?_
 exact (qgl 2 t 0 [] (by omega) (by omega) (by simp; omega)).bind (Ev.pure _)
theorem qka {t : Tm} (hh : t.height ≤ 800000) (hc : t.count ≤ 800000) : Ev (fun k => R03_Metas k t) (headsF 3 t 0 []) := by
 refine Ev.succ (fun k => R03_Metas.eq_2 ..) ?_
 exact (qgl 3 t 0 [] (by omega) (by omega) (by simp; omega)).bind (Ev.pure _)
end

section
open Go.Tr Go Go.Proofs.Tryz
set_option maxRecDepth 10000
theorem nb {b : Bool} (h : (!b) = true) : b = false := by cases b <;> simp_all
theorem nb' {b : Bool} (h : (!b) = false) : b = true := by cases b <;> simp_all
def occN (hd o h n k : Int) : List Int := if o = 4 ∧ h = hd then (if hd ≠ 1 then [n] else if n ≥ k then [n - k] else []) else []
mutual
def occ (hd : Int) : Tm → Int → List Int
 | .mk o h n us, k => occN hd o h n k ++ occL hd o us 0 k
def occL (hd : Int) : Int → List Tm → Nat → Int → List Int
 | _, [], _, _ => []
 | o, u :: us, i, k => occ hd u (k + under o i) ++ occL hd o us (i + 1) k
 end
mutual
theorem qhb (hd x : Int) : ∀ (t : Tm) (k : Int) (l : List Int), okAll t = true → 0 ≤ k → k + t.height ≤ 1000000 → (x ∈ headsF hd t k l ↔ x ∈ l ∨ x ∈ occ hd t k)
 | .mk o h n us, k, l, hok, hk0, hk1 => by
  have hn := qhl hok
  simp only [Tm.n] at hn
  simp only [okAll, Bool.and_eq_true] at hok
  rw [Tm.height_eq] at hk1
  simp only [Tm.args] at hk1
  simp only [headsF, occ, List.mem_append]
  rw [qkp hd x o us 0 k _ hok.2 hk0 (by omega)]
  rw [← or_assoc]
  apply or_congr _ Iff.rfl
  unfold occN
  by_cases h1 : o = 4 ∧ h = hd
  ·rw [if_pos h1, if_pos h1]
   by_cases h2 : hd ≠ 1
   ·rw [if_pos h2, if_pos h2, qix]; simp [or_comm]
   ·rw [if_neg h2, if_neg h2]
    by_cases h3 : n ≥ k
    ·rw [if_pos h3, if_pos h3, qix, wrap_i64 (by omega) (by omega)]; simp [or_comm]
    ·rw [if_neg h3, if_neg h3]; simp
  ·rw [if_neg h1, if_neg h1]; simp
theorem qkp (hd x : Int) : ∀ (o : Int) (us : List Tm) (i : Nat) (k : Int) (l : List Int), okAllL us = true → 0 ≤ k → k + 1 + qp us ≤ 1000000 → (x ∈ headsL hd o us i k l ↔ x ∈ l ∨ x ∈ occL hd o us i k)
 | o, [], i, k, l, _, _, _ => by simp [headsL, occL]
 | o, u :: us, i, k, l, hok, hk0, hk1 => by
  simp only [okAllL, Bool.and_eq_true] at hok
  simp only [qp] at hk1
  have hu := qb1 o i
  simp only [headsL, occL, List.mem_append]
  rw [qkp hd x o us (i + 1) k _ hok.2 hk0 (by omega), qhb hd x u (k + under o i) l hok.1 (by omega) (by omega), or_assoc]
 end
mutual
theorem qgf (hd : Int) : ∀ (t : Tm) (k : Int) (l : List Int), l.Pairwise (· < ·) → (headsF hd t k l).Pairwise (· < ·)
 | .mk o h n us, k, l, hl => by
  simp only [headsF]
  refine qfv hd o us 0 k _ ?_
  split
  ·split
   ·exact qf4 _ _ hl
   ·split
    ·exact qf4 _ _ hl
    ·exact hl
  ·exact hl
theorem qfv (hd : Int) : ∀ (o : Int) (us : List Tm) (i : Nat) (k : Int) (l : List Int), l.Pairwise (· < ·) → (headsL hd o us i k l).Pairwise (· < ·)
 | o, [], i, k, l, hl => by simpa [headsL] using hl
 | o, u :: us, i, k, l, hl => by
  simp only [headsL]
  exact qfv hd o us (i + 1) k _ (qgf hd u _ l hl)
 end
mutual
theorem qlk (m : Nat) : ∀ (t : Tm) (k : Int), okAll t = true → (nodesB m t k = true ↔ occ 1 t k = [] ∧ occ 3 t k = [] ∧ ∀ x ∈ occ 2 t k, x < (m : Int))
 | .mk o h n us, k, hok => by
  have hhd : o = 4 → h = 1 ∨ h = 2 ∨ h = 3 := by
   intro e
   simp only [okAll, Bool.and_eq_true] at hok
   have h1 := hok.1
   subst e
   simp [okNode] at h1
   omega
  simp only [okAll, Bool.and_eq_true] at hok
  have hl := qjs m o us 0 k hok.2
  simp only [nodesB, occ, Bool.and_eq_true, hl, List.append_eq_nil_iff, List.mem_append]
  have hn : nodeB o h n k m = true ↔ occN 1 o h n k = [] ∧ occN 3 o h n k = [] ∧ ∀ x ∈ occN 2 o h n k, x < (m : Int) := by
   unfold nodeB occN
   by_cases h4 : o = 4
   ·rcases hhd h4 with rfl | rfl | rfl
    ·subst h4
     by_cases hh : n < k
     ·simp [hh]
     ·simp [hh]
    ·subst h4; simp
    ·subst h4; simp
   ·simp [h4]
  rw [hn]
  constructor
  ·rintro ⟨⟨a, b, c⟩, d, e, f⟩
   exact ⟨⟨a, d⟩, ⟨b, e⟩, fun x hx => hx.elim (c x) (f x)⟩
  ·rintro ⟨⟨a, d⟩, ⟨b, e⟩, f⟩
   exact ⟨⟨a, b, fun x hx => f x (.inl hx)⟩, d, e, fun x hx => f x (.inr hx)⟩
theorem qjs (m : Nat) : ∀ (o : Int) (us : List Tm) (i : Nat) (k : Int), okAllL us = true → (nodesBL m o us i k = true ↔ occL 1 o us i k = [] ∧ occL 3 o us i k = [] ∧ ∀ x ∈ occL 2 o us i k, x < (m : Int))
 | o, [], i, k, _ => by simp [nodesBL, occL]
 | o, u :: us, i, k, hok => by
  simp only [okAllL, Bool.and_eq_true] at hok
  have h1 := qlk m u (k + under o i) hok.1
  have h2 := qjs m o us (i + 1) k hok.2
  simp only [nodesBL, occL, Bool.and_eq_true, h1, h2, List.append_eq_nil_iff, List.mem_append]
  constructor
  ·rintro ⟨⟨a, b, c⟩, d, e, f⟩
   exact ⟨⟨a, d⟩, ⟨b, e⟩, fun x hx => hx.elim (c x) (f x)⟩
  ·rintro ⟨⟨a, d⟩, ⟨b, e⟩, f⟩
   exact ⟨⟨a, b, fun x hx => f x (.inl hx)⟩, d, e, fun x hx => f x (.inr hx)⟩
 end
theorem ql3 (hd : Int) (t : Tm) (hok : okAll t = true) (hh : t.height ≤ 1000000) : (headsF hd t 0 []).isEmpty = (occ hd t 0).isEmpty := by
 rw [Bool.eq_iff_iff, List.isEmpty_iff, List.isEmpty_iff]
 have hm := fun x => qhb hd x t 0 [] hok (by omega) (by omega)
 constructor
 ·intro e
  apply List.eq_nil_iff_forall_not_mem.2
  intro x hx
  have := (hm x).2 (.inr hx)
  rw [e] at this; cases this
 ·intro e
  apply List.eq_nil_iff_forall_not_mem.2
  intro x hx
  have := (hm x).1 hx
  rw [e] at this; simp at this
theorem qjo (hd : Int) (t : Tm) (hok : okAll t = true) (hh : t.height ≤ 1000000) : (((List.map (D.int .i64) (headsF hd t 0 [])).length : Int) == 0) = (occ hd t 0).isEmpty := by
 rw [← ql3 hd t hok hh, List.length_map]
 cases headsF hd t 0 [] with
 | nil => rfl
 | cons a l => simp; omega
theorem qkl : ∀ (l : List Int), l.Pairwise (· < ·) → ∀ (y : Int), l[l.length - 1]? = some y → ∀ x ∈ l, x ≤ y
 | [], _, y, h, x, hx => by cases hx
 | [a], _, y, h, x, hx => by simp at h hx; omega
 | a :: b :: l, hp, y, h, x, hx => by
  rw [List.pairwise_cons] at hp
  have h' : (b :: l)[(b :: l).length - 1]? = some y := by simpa using h
  rcases List.mem_cons.1 hx with e | e
  ·subst e
   have := hp.1 y (List.mem_of_getElem? h'); omega
  ·exact qkl (b :: l) hp.2 y h' x e
theorem qox (hd : Int) : ∀ (t : Tm) (k : Int) (l : List Int), (headsF hd t k l).length ≤ l.length + t.count := qed hd
theorem closed_ev {t : Tm} (m : Nat) (hok : okAll t = true) (hh : t.height ≤ 1000) (hc : t.count ≤ 1000) : Ev (fun k => R05_closed k t (m : Int)) (nodesB m t 0) := by
 refine Ev.succ (fun k => R05_closed.eq_2 ..) ?_
 refine (qi7 (by omega) (by omega)).bind ?_
 refine (refFree_ev (by omega) (by omega)).bind ?_
 have hocc := qlk m t 0 hok
 have e1 := qjo 1 t hok (by omega)
 have e2 := qjo 2 t hok (by omega)
 have e3 := qjo 3 t hok (by omega)
 refine Ev.ite (fun h1 => ?_) (fun h1 => ?_)
 ·rw [e1, List.isEmpty_iff] at h1
  refine (qka (by omega) (by omega)).bind ?_
  refine Ev.ite (fun h3 => ?_) (fun h3 => ?_)
  ·rw [e3, List.isEmpty_iff] at h3
   refine Ev.ite (fun h2 => ?_) (fun h2 => ?_)
   ·rw [e2, List.isEmpty_iff] at h2
    refine (Ev.pure true).eq ?_
    symm
    rw [hocc]
    exact ⟨h1, h3, by rw [h2]; simp⟩
   ·have hne : headsF 2 t 0 [] ≠ [] := by
     intro e; rw [e] at h2; simp at h2
    have hlen : 0 < (headsF 2 t 0 []).length := List.length_pos_iff.2 hne
    have hlc := qox 2 t 0 []
    simp only [List.length_nil] at hlc
    obtain ⟨y, hy⟩ : ∃ y, (headsF 2 t 0 [])[(headsF 2 t 0 []).length - 1]? = some y := ⟨_, List.getElem?_eq_getElem (by omega)⟩
    have hw : IntKind.i64.wrap (((List.map (D.int .i64) (headsF 2 t 0 [])).length : Int) - 1) = (((headsF 2 t 0 []).length - 1 : Nat) : Int) := by
     rw [List.length_map, wrap_i64 (by omega) (by omega)]; omega
    rw [hw]
    refine Ev.some (qz hy) ?_
    refine (Ev.pure _).eq ?_
    rw [Bool.eq_iff_iff, decide_eq_true_eq, hocc]
    have hm := fun x => qhb 2 x t 0 [] hok (by omega) (by omega)
    constructor
    ·intro h
     refine ⟨h1, h3, fun x hx => ?_⟩
     have := qkl _ (qgf 2 t 0 [] .nil) y hy x ((hm x).2 (.inr hx))
     omega
    ·rintro ⟨_, _, h⟩
     refine h y ?_
     have := (hm y).1 (List.mem_of_getElem? hy)
     simpa using this
  ·rw [e3] at h3
   refine (Ev.pure false).eq ?_
   symm
   rw [Bool.eq_false_iff, ne_eq, hocc]
   rintro ⟨_, h, _⟩
   rw [h] at h3; cases h3
 ·rw [e1] at h1
  refine (Ev.pure false).eq ?_
  symm
  rw [Bool.eq_false_iff, ne_eq, hocc]
  rintro ⟨h, _, _⟩
  rw [h] at h1; cases h1
theorem qs {t : Tm} (h : isProper t = true) : okAll t = true ∧ t.height ≤ 40 ∧ t.count ≤ 600 := by
 have := (qbb t).1 h
 exact ⟨this.1, this.2.2, this.2.1⟩
def kindAt (sig : List Dc) (n : Int) : Bool := match idx sig n with
 | some d => kindT d.cls
 | none => false
def declOK (pre : List Dc) (d : Dc) : Bool := ((isSmallF d.name && !(d.name.toList == tyB.toList)) && isProper d.cls && nodesB pre.length d.cls 0 && !pre.any (fun x => x.name.toList == d.name.toList)) &&
 ((((split d.cls).2.op == 1) || (((split d.cls).2.op == 4) && ((split d.cls).2.hd == 2) && kindAt pre (split d.cls).2.n)) && decide (0 ≤ d.implicit) && decide (d.implicit ≤ ((split d.cls).1.length : Int)))
def sigG : List Dc → List Dc → Bool
 | _, [] => true
 | pre, d :: r => declOK pre d && sigG (pre ++ [d]) r
theorem qef {pre : List Dc} {d : Dc} (h : declOK pre d = true) : isProper d.cls = true := by
 simp only [declOK, Bool.and_eq_true] at h
 exact h.1.1.1.2
theorem qm4 (m : Nat) : ∀ (n : Nat) (t : Tm) (l : List Tm) (k : Int), okAll t = true → t.height ≤ n → nodesB m t k = true → (spl n t l).2.op = 4 → (spl n t l).2.hd = 2 → 0 ≤ (spl n t l).2.n ∧ (spl n t l).2.n < (m : Int)
 | 0, t, l, k, hok, hn, _, _, _ => by have := qa3 t; omega
 | n + 1, t, l, k, hok, hn, hb, h4, h2 => by
  simp only [spl] at h4 h2 ⊢
  by_cases h : t.op = 2
  ·rw [if_pos h] at h4 h2 ⊢
   obtain ⟨a, b, e, _, hbo, _, hh, hc⟩ := qer hok h
   simp only [e] at h4 h2 ⊢
   cases t with
   | mk o hd q us =>
    simp only [Tm.args] at e
    subst e
    simp only [nodesB, nodesBL, Bool.and_eq_true] at hb
    exact qm4 m n b _ _ hbo (by omega) hb.2.2.1 h4 h2
  ·rw [if_neg h] at h4 h2 ⊢
   have hnn := qhl hok
   cases t with
   | mk o hd q us =>
    simp only [Tm.op, Tm.hd, Tm.n] at h4 h2 hnn ⊢
    subst h4 h2
    simp only [nodesB, nodeB, Bool.and_eq_true] at hb
    have := hb.1
    simp at this
    exact ⟨hnn.1, this⟩
theorem qmz {sig : List Dc} {n : Int} (h0 : 0 ≤ n) (h1 : n < (sig.length : Int)) : ∃ d, idx sig n = some d ∧ d ∈ sig := by
 obtain ⟨k, rfl⟩ : ∃ k : Nat, n = k := ⟨n.toNat, by omega⟩
 have : k < sig.length := by omega
 exact ⟨sig[k], by rw [idx_nat]; exact List.getElem?_eq_getElem this, List.getElem_mem this⟩
theorem refName_ev (s : ByteArray) : Ev (fun k => R05_IsName k s) (isSmallF s && !(s.toList == tyB.toList)) := by
 refine Ev.succ (fun k => R05_IsName.eq_2 ..) ?_
 exact Ev.pure _
theorem qoy (s : ByteArray) : Ev (fun k => sign_name k s) (isSmallF s && !(s.toList == tyB.toList)) := by
 refine Ev.succ (fun k => sign_name.eq_2 ..) ?_
 exact Ev.pure _
def headOK (pre : List Dc) (d : Dc) : Bool := ((((split d.cls).2.op == 1) || (((split d.cls).2.op == 4) && ((split d.cls).2.hd == 2) && kindAt pre (split d.cls).2.n)) && decide (0 ≤ d.implicit) && decide (d.implicit ≤ ((split d.cls).1.length : Int)))
theorem qgb {t : Tm} (h : isProper t = true) : (split t).2.op ≠ 2 ∧ okAll (split t).2 = true ∧ (split t).2.count ≤ 600 ∧ (split t).2.height ≤ 40 ∧ (split t).1.length ≤ 40 := by
 obtain ⟨hok, hh, hc⟩ := qs h
 have := spl_rest t.height t [] hok (Nat.le_refl _)
 have hp := qa3 (split t).2
 have e : split t = spl t.height t [] := rfl
 rw [← e] at this
 simp only [List.length_nil] at this
 refine ⟨this.1, this.2.1, by omega, by omega, by omega⟩
theorem kindAt_ev {pre : List Dc} (hpre : ∀ x ∈ pre, isProper x.cls = true) {n : Int} (h0 : 0 ≤ n) (h1 : n < (pre.length : Int)) : Ev (fun k => R05_family k pre n) (kindAt pre n) := by
 obtain ⟨d, hd, hm⟩ := qmz h0 h1
 obtain ⟨hok, hh, _⟩ := qs (hpre d hm)
 rw [kindAt, hd]
 exact qnf hd hok (by omega)
theorem ql1 (pre : List Dc) (d : Dc) (hpre : ∀ x ∈ pre, isProper x.cls = true) (hlen : pre.length ≤ 1000) (hp : isProper d.cls = true) (hn : nodesB pre.length d.cls 0 = true) :
  ∀ (post : List Dc) (i : Nat), pre.drop i = post → i + post.length = pre.length → Ev (fun k => R05_formed_L1 k pre d (i : Int)) (!post.any (fun x => x.name.toList == d.name.toList) && headOK pre d)
 | [], i, hd, hi => by
  simp only [List.length_nil, Nat.add_zero] at hi
  refine Ev.succ (fun k => R05_formed_L1.eq_2 ..) ?_
  refine Ev.f (by simp [Dc.encL_length, hi]) ?_
  obtain ⟨hok, hh, hc⟩ := qs hp
  obtain ⟨s1, s2, s3, s4, s5⟩ := qgb hp
  have hnode := qm4 pre.length d.cls.height d.cls [] 0 hok (Nat.le_refl _) hn
  have e : spl d.cls.height d.cls [] = split d.cls := rfl
  rw [e] at hnode
  refine (qmr hok (by omega)).bind ?_
  simp only [List.any_nil, Bool.not_false, Bool.true_and, headOK]
  refine Ev.ite (fun h4 => ?_) (fun h4 => ?_)
  ·have h4' : (split d.cls).2.op = 4 := by simpa using h4
   refine Ev.ite (fun h2 => ?_) (fun h2 => ?_)
   ·have h2' : ((split d.cls).2.hd == 2) = false := by simpa using h2
    refine (Ev.pure false).eq ?_
    rw [h2', h4']; simp
   ·have h2' : (split d.cls).2.hd = 2 := by simpa using h2
    obtain ⟨n0, n1⟩ := hnode h4' h2'
    refine (kindAt_ev hpre n0 n1).bind ?_
    refine Ev.ite (fun h5 => ?_) (fun h5 => ?_)
    ·refine (Ev.pure false).eq ?_
     have h5 : kindAt pre (split d.cls).2.n = false := by simpa using h5
     rw [h5, h4']; simp
    ·refine (Ev.pure _).eq ?_
     have h5 : kindAt pre (split d.cls).2.n = true := by simpa using h5
     rw [h5, h4', h2']; simp [Tm.encL_length]
  ·refine (Ev.pure _).eq ?_
   have h4' : ((split d.cls).2.op == 4) = false := h4
   simp only [h4', Tm.encL_length, Bool.or_false, Bool.false_and]
 | x :: post, i, hd, hi => by
  simp only [List.length_cons] at hi
  have hx : pre[i]? = some x := by
   have := congrArg (fun l => l[0]?) hd
   simpa using this
  refine Ev.succ (fun k => R05_formed_L1.eq_2 ..) ?_
  refine Ev.t (by simp [Dc.encL_length]; omega) ?_
  refine Ev.some (qz hx) ?_
  rw [List.any_cons]
  refine Ev.ite (fun h => ?_) (fun h => ?_)
  ·refine (Ev.pure false).eq ?_
   rw [h]; simp
  ·rw [h, wrapS (by omega), Bool.false_or]
   exact ql1 pre d hpre hlen hp hn post (i + 1) (by rw [← List.drop_drop, hd]; rfl) (by omega)
theorem qnb (pre : List Dc) (d : Dc) : declOK pre d = (((isSmallF d.name && !(d.name.toList == tyB.toList)) && isProper d.cls && nodesB pre.length d.cls 0 && !pre.any (fun x => x.name.toList == d.name.toList)) && headOK pre d) := rfl
theorem formed_ev (pre : List Dc) (d : Dc) (hpre : ∀ x ∈ pre, isProper x.cls = true) (hlen : pre.length ≤ 1000) : Ev (fun k => R05_formed k pre d) (declOK pre d) := by
 refine Ev.succ (fun k => R05_formed.eq_2 ..) ?_
 refine (refName_ev d.name).bind ?_
 rw [qnb]
 refine Ev.ite (fun h1 => ?_) (fun h1 => ?_)
 ·have h1 : (isSmallF d.name && !(d.name.toList == tyB.toList)) = false := nb h1
  exact (Ev.pure false).eq (by rw [h1]; rfl)
 have h1 : (isSmallF d.name && !(d.name.toList == tyB.toList)) = true := nb' h1
 rw [h1, qap, Bool.true_and]
 refine Ev.ite (fun h2 => ?_) (fun h2 => ?_)
 ·have h2 : isProper d.cls = false := by simpa using h2
  exact (Ev.pure false).eq (by rw [h2]; rfl)
 have h2 : isProper d.cls = true := by simpa using h2
 obtain ⟨hok, hh, hc⟩ := qs h2
 rw [h2, Bool.true_and, Dc.encL_length]
 refine (closed_ev pre.length hok (by omega) (by omega)).bind ?_
 refine Ev.ite (fun h3 => ?_) (fun h3 => ?_)
 ·have h3 : nodesB pre.length d.cls 0 = false := by simpa using h3
  exact (Ev.pure false).eq (by rw [h3]; rfl)
 have h3 : nodesB pre.length d.cls 0 = true := by simpa using h3
 rw [h3, Bool.true_and]
 exact ql1 pre d hpre hlen h2 h3 pre 0 rfl (by simp)
theorem qgt (sig : List Dc) (hlen : sig.length ≤ 100) : ∀ (post : List Dc) (i : Nat), sig.drop i = post → i + post.length = sig.length → (∀ x ∈ sig.take i, isProper x.cls = true) → Ev (fun k => R05_Formed_L1 k sig (i : Int)) (sigG (sig.take i) post)
 | [], i, hd, hi, hpre => by
  simp only [List.length_nil, Nat.add_zero] at hi
  refine Ev.succ (fun k => R05_Formed_L1.eq_2 ..) ?_
  refine Ev.f (by simp [Dc.encL_length, hi]) ?_
  refine (Ev.pure _).eq ?_
  simp [sigG, Dc.encL_length]; omega
 | d :: post, i, hd, hi, hpre => by
  simp only [List.length_cons] at hi
  have hx : sig[i]? = some d := by
   have := congrArg (fun l => l[0]?) hd
   simpa using this
  refine Ev.succ (fun k => R05_Formed_L1.eq_2 ..) ?_
  refine Ev.t (by simp [Dc.encL_length]; omega) ?_
  refine Ev.need (by simp [Dc.encL_length]; omega) ?_
  refine Ev.some (qz hx) ?_
  rw [Int.toNat_natCast]
  refine (formed_ev (sig.take i) d hpre (by simp; omega)).bind ?_
  rw [sigG]
  have htk : sig.take (i + 1) = sig.take i ++ [d] := by
   rw [List.take_add_one, hx]; rfl
  refine Ev.ite (fun h => ?_) (fun h => ?_)
  ·have h : declOK (sig.take i) d = false := by simpa using h
   exact (Ev.pure false).eq (by rw [h]; rfl)
  ·have h : declOK (sig.take i) d = true := by simpa using h
   rw [h, wrapS (by omega), Bool.true_and, ← htk]
   refine qgt sig hlen post (i + 1) (by rw [← List.drop_drop, hd]; rfl) (by omega) ?_
   intro x hx'
   rw [htk, List.mem_append, List.mem_singleton] at hx'
   rcases hx' with h1 | rfl
   ·exact hpre x h1
   ·exact qef h
def sigOK (sig : List Dc) : Bool := decide (sig.length ≤ 100) && sigG [] sig
theorem qhz (sig : List Dc) : Ev (fun k => R05_Formed k sig) (sigOK sig) := by
 refine Ev.succ (fun k => R05_Formed.eq_2 ..) ?_
 by_cases hl : sig.length ≤ 100
 ·refine (qgt sig hl sig 0 rfl (by simp) (by simp)).eq ?_
  simp [sigOK, hl]
 ·refine Ev.succ (fun k => R05_Formed_L1.eq_2 ..) ?_
  refine Ev.f (by simp [Dc.encL_length]; omega) ?_
  refine (Ev.pure _).eq ?_
  simp [sigOK, hl, Dc.encL_length]; omega
theorem qm0 (pre : List Dc) (d : Dc) (hpre : ∀ x ∈ pre, isProper x.cls = true) (hlen : pre.length ≤ 1000) (hn : pre.any (fun x => x.name.toList == d.name.toList) = false) : Ev (fun k => sign_formed k pre d) (declOK pre d) := by
 refine Ev.succ (fun k => sign_formed.eq_2 ..) ?_
 rw [qnb, hn]
 refine Ev.ite (fun h2 => ?_) (fun h2 => ?_)
 ·have h2 : isProper d.cls = false := by
   cases h : isProper d.cls with
   | false => rfl
   | true => rw [h] at h2; simp at h2
  exact (Ev.pure false).eq (by rw [h2]; simp)
 have h2 : isProper d.cls = true := by
  cases h : isProper d.cls with
  | true => rfl
  | false => rw [h] at h2; simp at h2
 obtain ⟨hok, hh, hc⟩ := qs h2
 rw [h2]
 refine (qoy d.name).bind ?_
 generalize (isSmallF d.name && !(d.name.toList == tyB.toList)) = nm
 refine Ev.ite (fun h1 => ?_) (fun h1 => ?_)
 ·refine (Ev.pure false).eq ?_
  rw [headOK]
  cases nm with
  | false => rfl
  | true =>
   have h1 : d.implicit < 0 := by simpa using h1
   have : decide (0 ≤ d.implicit) = false := by simp; omega
   rw [this]; simp
 have hnm : nm = true := by cases nm with | true => rfl | false => simp at h1
 subst hnm
 have himp : decide (0 ≤ d.implicit) = true := by simp at h1; simp; omega
 refine (qd5 hok (by omega)).bind ?_
 refine (each_ev pre d.cls 0 _ (by omega) (by omega) (by omega)).bind ?_
 refine (kind_ev hok (by omega)).bind ?_
 obtain ⟨s1, s2, s3, s4, s5⟩ := qgb h2
 have hnode := qm4 pre.length d.cls.height d.cls [] 0 hok (Nat.le_refl _)
 have e : spl d.cls.height d.cls [] = split d.cls := rfl
 rw [e] at hnode
 rw [headOK, himp, Tm.encL_length]
 refine Ev.ite (fun h3 => ?_) (fun h3 => ?_)
 ·refine (Ev.pure _).eq ?_
  have h3 : ((split d.cls).2.op == 1) = true := h3
  rw [h3]
  simp [Bool.and_comm]
 have h3 : ((split d.cls).2.op == 1) = false := h3
 refine (target_ev hok (by omega)).bind ?_
 rw [h3]
 refine Ev.ite (fun h4 => ?_) (fun h4 => ?_)
 ·simp only [Bool.and_eq_true] at h4
  obtain ⟨⟨h5, h6⟩, h7, h8⟩ := h4
  obtain ⟨n0, n1⟩ := hnode h6 (by simpa using h7) (by simpa using h8)
  obtain ⟨x, hx, hm⟩ := qmz n0 n1
  obtain ⟨xok, xh, _⟩ := qs (hpre x hm)
  refine Ev.some hx ?_
  refine (kind_ev xok (by omega)).bind ?_
  refine (Ev.pure _).eq ?_
  rw [kindAt, hx, h5, h6, h7, h8]; simp
 ·refine (Ev.pure false).eq ?_
  revert h4
  generalize decide (d.implicit ≤ ((split d.cls).1.length : Int)) = b1
  generalize nodesB pre.length d.cls 0 = b2
  generalize ((split d.cls).2.op == 4) = b3
  generalize ((split d.cls).2.hd == 2) = b4
  cases b1 <;> cases b2 <;> cases b3 <;> cases b4 <;> simp
def namesOf (pre : List Dc) (m : List (ByteArray × Bool)) : Prop := ∀ s, (mget m s).getD false = pre.any (fun x => x.name.toList == s.toList)
theorem qn6 {κ β : Type} [DecidableEq κ] (n : κ) (v : β) : ∀ (l : List (κ × β)) (x : κ), mget (mput n v l) x = if x = n then some v else mget l x
 | [], x => by simp only [mput, mget]
 | (k, u) :: r, x => by
  simp only [mput]
  split
  ·rename_i h
   subst h
   simp only [mget]
   split <;> rfl
  ·rename_i h
   simp only [mget, qn6 n v r x]
   by_cases h1 : x = k
   ·subst h1; rw [if_pos rfl, if_pos rfl, if_neg (fun e => h e.symm)]
   ·rw [if_neg h1, if_neg h1]
theorem qnd (sig : List Dc) (hlen : sig.length ≤ 100) : ∀ (post : List Dc) (i : Nat) (m : List (ByteArray × Bool)), sig.drop i = post → i + post.length = sig.length → (∀ x ∈ sig.take i, isProper x.cls = true) → namesOf (sig.take i) m → Ev (fun k => sign_Check_L1 k sig m (i : Int)) (if sigG (sig.take i) post then 0 else 2)
 | [], i, m, hd, hi, hpre, hm => by
  simp only [List.length_nil, Nat.add_zero] at hi
  refine Ev.succ (fun k => sign_Check_L1.eq_2 ..) ?_
  refine Ev.f (by simp [Dc.encL_length, hi]) ?_
  exact (Ev.pure _).eq (by simp [sigG])
 | d :: post, i, m, hd, hi, hpre, hm => by
  simp only [List.length_cons] at hi
  have hx : sig[i]? = some d := by
   have := congrArg (fun l => l[0]?) hd
   simpa using this
  have htk : sig.take (i + 1) = sig.take i ++ [d] := by
   rw [List.take_add_one, hx]; rfl
  refine Ev.succ (fun k => sign_Check_L1.eq_2 ..) ?_
  refine Ev.t (by simp [Dc.encL_length]; omega) ?_
  refine Ev.some (qz hx) ?_
  refine Ev.need (by simp [Dc.encL_length]; omega) ?_
  rw [hm d.name, sigG]
  refine Ev.ite (fun h1 => ?_) (fun h1 => ?_)
  ·refine (Ev.pure _).eq ?_
   rw [declOK, h1]; simp
  rw [Int.toNat_natCast]
  refine (qm0 (sig.take i) d hpre (by simp; omega) h1).bind ?_
  refine Ev.ite (fun h => ?_) (fun h => ?_)
  ·have h : declOK (sig.take i) d = false := by simpa using h
   exact (Ev.pure _).eq (by rw [h]; rfl)
  ·have h : declOK (sig.take i) d = true := by simpa using h
   rw [h, wrapS (by omega), Bool.true_and, ← htk]
   refine qnd sig hlen post (i + 1) _ (by rw [← List.drop_drop, hd]; rfl) (by omega) ?_ ?_
   ·intro x hx'
    rw [htk, List.mem_append, List.mem_singleton] at hx'
    rcases hx' with h1 | rfl
    ·exact hpre x h1
    ·exact qef h
   ·intro s
    rw [qn6, htk, List.any_append, ← hm s]
    by_cases hs : s = d.name
    ·subst hs; simp
    ·rw [if_neg hs]
     have : (d.name.toList == s.toList) = false := by rw [strEq, decide_eq_false_iff_not]; exact fun e => hs e.symm
     simp [this]
theorem check_ev (sig : List Dc) : Ev (fun k => sign_Check k sig) (if sigOK sig then 0 else 2) := by
 refine Ev.succ (fun k => sign_Check.eq_2 ..) ?_
 refine Ev.ite (fun h => ?_) (fun h => ?_)
 ·refine (Ev.pure _).eq ?_
  have h : 100 < sig.length := by simp [Dc.encL_length] at h; omega
  have : decide (sig.length ≤ 100) = false := by simp; omega
  rw [sigOK, this]; rfl
 ·have h : sig.length ≤ 100 := by simp [Dc.encL_length] at h; omega
  refine (qnd sig h sig 0 [] rfl (by simp) (by simp) (fun s => by simp [mget])).eq ?_
  have : decide (sig.length ≤ 100) = true := by simpa using h
  rw [sigOK, this]; rfl
theorem qkv : ∀ (post pre : List Dc), sigG pre post = true → ∀ x ∈ post, isProper x.cls = true
 | [], _, _, x, hx => by cases hx
 | d :: post, pre, h, x, hx => by
  simp only [sigG, Bool.and_eq_true] at h
  rcases List.mem_cons.1 hx with e | e
  ·subst e; exact qef h.1
  ·exact qkv post _ h.2 x e
theorem qh8 {sig : List Dc} (h : sigOK sig = true) : sig.length ≤ 100 ∧ ∀ x ∈ sig, isProper x.cls = true := by
 simp only [sigOK, Bool.and_eq_true, decide_eq_true_eq] at h
 exact ⟨h.1, qkv sig [] h.2⟩
end

section
open Go.Tr Go Go.Proofs.Tryz
set_option maxRecDepth 10000
abbrev Pr (t : Tm) : Prop := isProper t = true
theorem qi8 {t u : Tm} (h : Pr t) (hu : u ∈ t.args) : Pr u := by
 obtain ⟨hok, hh, hc⟩ := qs h
 rw [Pr, qbb]
 have h1 := qdo hu
 rw [Tm.height_eq] at hh
 rw [qai] at hc
 have h2 : u.count ≤ qn t.args := by
  have : ∀ (us : List Tm), u ∈ us → u.count ≤ qn us := by
   intro us
   induction us with
   | nil => intro h; cases h
   | cons v us ih =>
    intro h
    simp only [qn]
    rcases List.mem_cons.1 h with e | e
    ·subst e; omega
    ·have := ih e; omega
  exact this _ hu
 exact ⟨okAll_arg hok hu, by omega, by omega⟩
theorem pr_len {t : Tm} (h : Pr t) : t.args.length ≤ 600 := by
 obtain ⟨hok, hh, hc⟩ := qs h
 have := qv t.args
 rw [qai] at hc
 omega
theorem pr_n {t : Tm} (h : Pr t) : 0 ≤ t.n ∧ t.n ≤ 9999 := qhl (qs h).1
theorem qfz {t : Tm} (h : Pr t) (ho : t.op = 2) : ∃ a b, t.args = [a, b] ∧ Pr a ∧ Pr b ∧ a.count < t.count ∧ b.count < t.count ∧ a.height < t.height ∧ b.height < t.height := by
 obtain ⟨a, b, e, _, _, h1, h2, h3⟩ := qer (qs h).1 ho
 have := qah a; have := qah b
 exact ⟨a, b, e, qi8 h (by rw [e]; simp), qi8 h (by rw [e]; simp), by omega, by omega, by omega, by omega⟩
theorem pr_one {t : Tm} (h : Pr t) (ho : t.op = 3) : ∃ a, t.args = [a] ∧ Pr a ∧ a.count < t.count := by
 obtain ⟨a, e, _, h1, h2⟩ := okAll_one (qs h).1 ho
 exact ⟨a, e, qi8 h (by rw [e]; simp), by omega⟩
theorem cnt_arg {t u : Tm} (hu : u ∈ t.args) : u.count < t.count := by
 rw [qai t]
 have : ∀ (us : List Tm), u ∈ us → u.count ≤ qn us := by
  intro us
  induction us with
  | nil => intro h; cases h
  | cons v us ih =>
   intro h
   simp only [qn]
   rcases List.mem_cons.1 h with e | e
   ·subst e; omega
   ·have := ih e; omega
 have := this _ hu
 omega
def okR (r : Tm × Int) : Prop := r.2 = 0 → Pr r.1
theorem qmi (t : Tm) : Yields (fun k => R04_whole k t) okR := by
 refine Yields.succ (fun k => R04_whole.eq_2 ..) ?_
 rw [qap]
 refine Yields.ite (fun h => Yields.pure ?_) (fun h => Yields.pure ?_)
 ·intro h; cases h
 ·intro _; exact nb' h
theorem qen {α : Type} {l : List α} {i : Nat} (h : i < l.length) : ∃ x, idx l (i : Int) = some x ∧ x ∈ l ∧ l[i]? = some x :=
 ⟨l[i], by rw [idx_nat]; exact List.getElem?_eq_getElem h, List.getElem_mem h, List.getElem?_eq_getElem h⟩
theorem moved_y : ∀ (c : Nat) (t : Tm) (by_ f : Int), t.count ≤ c → t.count ≤ 600 → Yields (fun k => R04_moved k t by_ f) (fun _ => True)
 | 0, t, _, _, h, _ => by have := qah t; omega
 | c + 1, t, by_, f, h, h6 => by
  have hlen : t.args.length ≤ 600 := by have := qv t.args; rw [qai] at h6; omega
  have loop : ∀ (m i : Nat) (o : Tm), m = t.args.length - i → i ≤ t.args.length → o.args.length = i → Yields (fun k => R04_moved_L1 k t by_ f o (i : Int)) (fun _ => True) := by
   intro m
   induction m with
   | zero =>
    intro i o hm hi ho
    refine Yields.succ (fun k => R04_moved_L1.eq_2 ..) ?_
    refine Yields.ite (fun hc => ?_) (fun hc => Yields.pure trivial)
    simp [Tm.encL_length] at hc; omega
   | succ m ih =>
    intro i o hm hi ho
    refine Yields.succ (fun k => R04_moved_L1.eq_2 ..) ?_
    obtain ⟨x, hx, hxm, _⟩ := qen (show i < t.args.length by omega)
    have hcx := cnt_arg hxm
    have hnext : ∀ y, Yields (fun k => R04_moved_L1 k t by_ f (Tm.mk o.op o.hd o.n (o.args ++ [y])) ((i + 1 : Nat) : Int)) (fun _ => True) := fun y => ih (i + 1) _ (by omega) (by omega) (by show (o.args ++ [y]).length = i + 1; simp [ho])
    refine Yields.ite (fun hc => ?_) (fun hc => Yields.pure trivial)
    refine Yields.ite (fun _ => ?_) (fun _ => ?_)
    ·refine Yields.some hx ?_
     refine Yields.bind (moved_y c x _ _ (by omega) (by omega)) (fun y _ => ?_)
     refine Yields.need (by simp [Tm.encL_length]; omega) ?_
     rw [wrapS (by omega)]
     exact hnext y
    ·refine Yields.some hx ?_
     refine Yields.bind (moved_y c x _ _ (by omega) (by omega)) (fun y _ => ?_)
     refine Yields.need (by simp [Tm.encL_length]; omega) ?_
     rw [wrapS (by omega)]
     exact hnext y
  refine Yields.succ (fun k => R04_moved.eq_2 ..) ?_
  refine Yields.ite (fun _ => ?_) (fun _ => ?_)
  ·exact loop _ 0 _ rfl (Nat.zero_le _) rfl
  ·exact loop _ 0 _ rfl (Nat.zero_le _) rfl
theorem raised_y {t : Tm} (h : Pr t) (n : Int) : Yields (fun k => R04_raised k t n) (fun _ => True) := by
 refine Yields.succ (fun k => R04_raised.eq_2 ..) ?_
 exact Yields.bind (moved_y t.count t _ _ (Nat.le_refl _) (qs h).2.2) (fun y _ => Yields.pure trivial)
def okP (c : Int) (r : Tm × Int × Ct) : Prop := c ≤ r.2.2.n ∧ r.2.2.n ≤ 20001 ∧ (r.2.1 = 0 → Pr r.1 ∧ r.2.2.n ≤ 20000)
theorem wrapc {c : Int} (h0 : 0 ≤ c) (h1 : c ≤ 20001) : IntKind.i64.wrap (c + 1) = c + 1 := wrap_i64 (by omega) (by omega)
def PutY (q : Nat) : Prop := ∀ (t : Tm) (n : Int) (s : Tm) (p : Sm) (c : Int), 0 ≤ c → c ≤ 20000 → 20001 - c ≤ q → Pr t → Pr s → Yields (fun k => R04_count_put k t n s p ⟨c⟩) (okP c)
theorem apply_y (q : Nat) (hput : PutY q) : ∀ (f : Tm) (l : List Tm) (p : Sm) (c : Int) (m : Nat), l.length ≤ m → 0 ≤ c → c ≤ 20000 → 20001 - c ≤ q → Pr f → (∀ x ∈ l, Pr x) → l.length ≤ 1000 → Yields (fun k => R04_count_apply k f l p ⟨c⟩) (okP c)
 | f, [], p, c, m, hm, h0, h1, hq, hf, hl, hb => by
  refine Yields.succ (fun k => R04_count_apply.eq_2 ..) ?_
  refine Yields.ite (fun _ => ?_) (fun h => by simp [Tm.encL] at h)
  refine Yields.bind (qmi f) (fun y hy => Yields.pure ⟨?_, ?_, fun h => ⟨hy h, ?_⟩⟩) <;> simp only <;> omega
 | f, x :: l, p, c, 0, hm, h0, h1, hq, hf, hl, hb => by simp at hm
 | f, x :: l, p, c, m + 1, hm, h0, h1, hq, hf, hl, hb => by
  refine Yields.succ (fun k => R04_count_apply.eq_2 ..) ?_
  refine Yields.ite (fun h => by simp [Tm.encL_length] at h; omega) (fun _ => ?_)
  refine Yields.ite (fun _ => Yields.pure ?_) (fun h2 => ?_)
  ·refine ⟨?_, ?_, fun h => by cases h⟩ <;> simp only <;> omega
  simp only [Bool.or_eq_false_iff, bne_eq_false_iff_eq] at h2
  obtain ⟨b, hb1, hpb, _⟩ := pr_one hf h2.1
  have hpa : p.args ≠ [] := by
   intro e; have := h2.2; rw [e] at this; simp [Sm.encL] at this
  obtain ⟨p0, ps, hps⟩ := List.exists_cons_of_ne_nil hpa
  refine Yields.some (x := b) (by rw [hb1]; rfl) ?_
  refine Yields.some (x := x) rfl ?_
  refine Yields.some (x := p0) (by rw [hps]; rfl) ?_
  refine Yields.bind (hput b 0 x p0 c h0 h1 hq hpb (hl x (by simp))) (fun y hy => ?_)
  obtain ⟨y1, y2, ⟨y3⟩⟩ := y
  obtain ⟨e1, e2, e3⟩ := hy
  simp only at e1 e2 e3 ⊢
  refine Yields.ite (fun h5 => Yields.pure ?_) (fun h5 => ?_)
  ·have h5 : y2 ≠ 0 := by simpa using h5
   exact ⟨e1, e2, fun h => (h5 h).elim⟩
  have h5 : y2 = 0 := by simpa using h5
  refine Yields.need (by simp [Tm.encL_length]; omega) ?_
  refine Yields.need (by rw [hps]; simp [Sm.encL_length]; omega) ?_
  simp only [List.length_cons] at hm hb
  refine Yields.bind (apply_y q hput y1 l _ y3 m (by omega) (by omega) (e3 h5).2 (by omega) (e3 h5).1 (fun z hz => hl z (by simp [hz])) (by omega)) (fun r hr => Yields.pure ?_)
  obtain ⟨g1, g2, g3⟩ := hr
  exact ⟨by simp only; omega, g2, g3⟩
theorem put_y : ∀ (q : Nat), PutY q
 | 0 => fun t n s p c h0 h1 hq ht hs => by omega
 | q + 1 => fun t n s p c h0 h1 hq ht hs => by
  have hput := put_y q
  refine Yields.succ (fun k => R04_count_put.eq_2 ..) ?_
  have hlen := pr_len ht
  simp only [wrapc h0 (by omega)]
  refine Yields.ite (fun h2 => Yields.pure ?_) (fun h2 => ?_)
  ·have h2 : 20000 < c + 1 := by simpa using h2
   refine ⟨?_, ?_, fun h => by cases h⟩ <;> simp only <;> omega
  have h2 : c + 1 ≤ 20000 := by simpa using h2
  have loop : ∀ (m i : Nat) (o : Tm) (c' : Int), m = t.args.length - i → i ≤ t.args.length → o.args.length = i → (∀ x ∈ o.args, Pr x) → c + 1 ≤ c' → c' ≤ 20000 → Yields (fun k => R04_count_put_L1 k t n s p ⟨c'⟩ o (i : Int)) (okP c) := by
   intro m
   induction m with
   | zero =>
    intro i o c' hm hi ho hop hc1 hc2
    refine Yields.succ (fun k => R04_count_put_L1.eq_2 ..) ?_
    refine Yields.ite (fun hc => ?_) (fun _ => ?_)
    ·simp [Tm.encL_length] at hc; omega
    refine Yields.ite (fun _ => ?_) (fun _ => ?_)
    ·refine Yields.bind (qmi o) (fun y hy => Yields.pure ⟨?_, ?_, fun h => ⟨hy h, ?_⟩⟩) <;> simp only <;> omega
    refine Yields.ite (fun _ => ?_) (fun _ => ?_)
    ·refine Yields.bind (qmi _) (fun y hy => Yields.pure ⟨?_, ?_, fun h => ⟨hy h, ?_⟩⟩) <;> simp only <;> omega
    refine Yields.bind (raised_y hs n) (fun y _ => ?_)
    refine Yields.bind (qmi y) (fun z hz => ?_)
    refine Yields.ite (fun h5 => Yields.pure ?_) (fun h5 => ?_)
    ·have h5 : z.2 ≠ 0 := by simpa using h5
     refine ⟨?_, ?_, fun h => (h5 h).elim⟩ <;> simp only <;> omega
    have h5 : z.2 = 0 := by simpa using h5
    refine Yields.bind (apply_y q hput z.1 o.args p c' o.args.length (Nat.le_refl _) (by omega) hc2 (by omega) (hz h5) hop (by omega)) (fun r hr => Yields.pure ?_)
    obtain ⟨e1, e2, e3⟩ := hr
    exact ⟨by simp only; omega, e2, e3⟩
   | succ m ih =>
    intro i o c' hm hi ho hop hc1 hc2
    refine Yields.succ (fun k => R04_count_put_L1.eq_2 ..) ?_
    obtain ⟨x, hx, hxm, _⟩ := qen (show i < t.args.length by omega)
    have hpx := qi8 ht hxm
    have hnext : ∀ (y : Tm × Int × Ct), okP c' y → Yields (fun k => cond (y.2.1 != 0) (some ((Tm.mk 0 0 0 ([])), y.2.1, y.2.2)) (cond (decide ((Tm.encL (o.args ++ [y.1])).length ≤ 1000000)) (R04_count_put_L1 k t n s p y.2.2 (Tm.mk o.op o.hd o.n (o.args ++ [y.1])) (IntKind.i64.wrap ((i : Int) + 1))) none)) (okP c) := by
     rintro ⟨y1, y2, ⟨y3⟩⟩ ⟨e1, e2, e3⟩
     simp only at e1 e2 e3 ⊢
     refine Yields.ite (fun h5 => Yields.pure ?_) (fun h5 => ?_)
     ·have h5 : y2 ≠ 0 := by simpa using h5
      exact ⟨by simp only; omega, e2, fun h => (h5 h).elim⟩
     have h5 : y2 = 0 := by simpa using h5
     refine Yields.need (by simp [Tm.encL_length]; omega) ?_
     rw [wrapS (by omega)]
     refine ih (i + 1) _ y3 (by omega) (by omega) (by show (o.args ++ [y1]).length = i + 1; simp [ho]) ?_ (by omega) (e3 h5).2
     intro z hz
     have hz : z ∈ o.args ++ [y1] := hz
     rw [List.mem_append, List.mem_singleton] at hz
     rcases hz with h | h
     ·exact hop z h
     ·subst h; exact (e3 h5).1
    refine Yields.ite (fun _ => ?_) (fun hc => ?_)
    ·refine Yields.ite (fun _ => ?_) (fun _ => ?_)
     ·refine Yields.some hx ?_
      exact Yields.bind (hput x _ s p c' (by omega) hc2 (by omega) hpx hs) hnext
     ·refine Yields.some hx ?_
      exact Yields.bind (hput x _ s p c' (by omega) hc2 (by omega) hpx hs) hnext
    ·simp [Tm.encL_length] at hc; omega
  exact loop _ 0 _ (c + 1) rfl (Nat.zero_le _) rfl (by simp [Tm.args]) (Int.le_refl _) h2
end

section
open Go.Tr Go Go.Proofs.Tryz
set_option maxRecDepth 10000
mutual
def smB : Sm → Prop
 | .mk args _ => args.length ≤ 1000000 ∧ smBL args
def smBL : List Sm → Prop
 | [] => True
 | s :: r => smB s ∧ smBL r
 end
theorem smBL_mem : ∀ {l : List Sm} {s : Sm}, smBL l → s ∈ l → smB s
 | _ :: r, s, h, hs => by
  simp only [smBL] at h
  rcases List.mem_cons.1 hs with e | e
  ·subst e; exact h.1
  ·exact smBL_mem h.2 e
theorem smB_args {s : Sm} (h : smB s) : s.args.length ≤ 1000000 ∧ smBL s.args := by cases s; exact h
theorem Sm.ind {motive : Sm → Prop} (h : ∀ t, (∀ x ∈ t.args, motive x) → motive t) (t : Sm) : motive t := by
 induction t using Sm.rec (motive_2 := fun ts => ∀ x ∈ ts, motive x) with
 | nil => rename_i x hx; cases hx
 | cons t ts ih1 ih2 => rename_i x hx; rcases List.mem_cons.1 hx with e | e; (subst e; exact ih1); exact ih2 x e
 | mk args con ih => exact h _ ih
theorem qmp : ∀ (q : Nat) (t : Tm), t.count ≤ q → Pr t → Yields (fun k => R03_Simple k t) (fun r => r.1.args.length ≤ t.height ∧ smB r.1)
 | 0, t, hq, _ => by have := qah t; omega
 | q + 1, t, hq, ht => by
  have hh := (qs ht).2.1
  refine Yields.succ (fun k => R03_Simple.eq_2 ..) ?_
  refine Yields.ite (fun _ => Yields.pure ⟨Nat.zero_le _, ?_⟩) (fun _ => ?_)
  ·exact ⟨Nat.zero_le _, trivial⟩
  refine Yields.ite (fun h => ?_) (fun _ => Yields.pure ⟨Nat.zero_le _, Nat.zero_le _, trivial⟩)
  obtain ⟨a, b, e, ha, hb, hca, hcb, hha, hhb⟩ := qfz ht (by simpa using h)
  rw [e]
  refine Yields.some (x := a) rfl ?_
  refine Yields.bind (qmp q a (by omega) ha) (fun x hx => ?_)
  refine Yields.some (x := b) rfl ?_
  refine Yields.bind (qmp q b (by omega) hb) (fun y hy => ?_)
  refine Yields.ite (fun _ => Yields.pure ⟨Nat.zero_le _, Nat.zero_le _, trivial⟩) (fun _ => ?_)
  have hbh := (qs hb).2.1
  refine Yields.need (by simp [Sm.encL_length]; omega) ?_
  refine Yields.pure ⟨?_, ?_⟩
  ·show ([x.1] ++ y.1.args).length ≤ t.height
   simp; omega
  ·show ([x.1] ++ y.1.args).length ≤ 1000000 ∧ smBL ([x.1] ++ y.1.args)
   exact ⟨by simp; omega, hx.2, (smB_args hy.2).2⟩
theorem qo6 (s : Sm) : smB s → ∀ m : Int, Yields (fun k => R04_constants k s m) (fun _ => True) := by
 induction s using Sm.ind with
 | h s ih =>
  intro hs m
  obtain ⟨hl, hb⟩ := smB_args hs
  have loop : ∀ (q i : Nat) (c : Int), q = s.args.length - i → i ≤ s.args.length → Yields (fun k => R04_constants_L1 k s m c (i : Int)) (fun _ => True) := by
   intro q
   induction q with
   | zero =>
    intro i c hq hi
    refine Yields.succ (fun k => R04_constants_L1.eq_2 ..) ?_
    refine Yields.ite (fun h => ?_) (fun _ => Yields.pure trivial)
    simp [Sm.encL_length] at h; omega
   | succ q ihq =>
    intro i c hq hi
    refine Yields.succ (fun k => R04_constants_L1.eq_2 ..) ?_
    refine Yields.ite (fun _ => ?_) (fun _ => Yields.pure trivial)
    obtain ⟨x, hx, hxm, _⟩ := qen (show i < s.args.length by omega)
    refine Yields.some hx ?_
    refine Yields.bind (ih x hxm (smBL_mem hb hxm) _) (fun y _ => ?_)
    refine Yields.ite (fun _ => Yields.pure trivial) (fun _ => ?_)
    rw [wrapS (by omega)]
    exact ihq (i + 1) _ (by omega) (by omega)
  refine Yields.succ (fun k => R04_constants.eq_2 ..) ?_
  refine Yields.ite (fun _ => Yields.pure trivial) (fun _ => ?_)
  exact loop _ 0 _ rfl (Nat.zero_le _)
theorem small_y {s : Sm} (h : smB s) : Yields (fun k => R04_Small k s) (fun _ => True) := by
 refine Yields.succ (fun k => R04_Small.eq_2 ..) ?_
 exact Yields.bind (qo6 s h _) (fun y _ => Yields.pure trivial)
theorem step_y {t m : Tm} (ht : Pr t) (hm : Pr m) {c : Int} (h0 : 0 ≤ c) (h1 : c ≤ 20000) : Yields (fun k => R04_count_step k t m ⟨c⟩) (okP c) := by
 refine Yields.succ (fun k => R04_count_step.eq_2 ..) ?_
 have bad : ∀ e : Int, e ≠ 0 → okP c ((Tm.mk 0 0 0 ([])), e, ⟨c⟩) := fun e he => ⟨Int.le_refl _, by simp only; omega, fun h => (he h).elim⟩
 refine Yields.ite (fun _ => Yields.pure (bad _ (by decide))) (fun h => ?_)
 obtain ⟨a, b, e, ha, hb, hca, hcb, hha, hhb⟩ := qfz ht (by simpa using h)
 rw [e]
 refine Yields.some (x := a) rfl ?_
 refine Yields.bind (qmp a.count a (Nat.le_refl _) ha) (fun x hx => ?_)
 refine Yields.ite (fun _ => Yields.pure (bad _ (by decide))) (fun _ => ?_)
 refine Yields.bind (small_y hx.2) (fun y _ => ?_)
 refine Yields.ite (fun _ => Yields.pure (bad _ (by decide))) (fun _ => ?_)
 refine Yields.some (x := b) rfl ?_
 exact Yields.bind (put_y 20001 b 0 m x.1 c h0 h1 (by omega) hb hm) (fun r hr => Yields.pure hr)
theorem list_y (l : List Tm) (hl : l.length ≤ 1000000) : Yields (fun k => R04_list k l) (fun _ => True) := by
 have loop : ∀ (q i : Nat), q = l.length - i → i ≤ l.length → Yields (fun k => R04_list_L1 k l (i : Int)) (fun _ => True) := by
  intro q
  induction q with
  | zero =>
   intro i hq hi
   refine Yields.succ (fun k => R04_list_L1.eq_2 ..) ?_
   refine Yields.ite (fun h => ?_) (fun _ => Yields.pure trivial)
   simp [Tm.encL_length] at h; omega
  | succ q ihq =>
   intro i hq hi
   refine Yields.succ (fun k => R04_list_L1.eq_2 ..) ?_
   refine Yields.ite (fun _ => ?_) (fun _ => Yields.pure trivial)
   obtain ⟨x, hx, hxm, _⟩ := qen (show i < l.length by omega)
   refine Yields.some hx ?_
   refine Yields.ite (fun _ => Yields.pure trivial) (fun _ => ?_)
   rw [wrapS (by omega)]
   exact ihq (i + 1) (by omega) (by omega)
 refine Yields.succ (fun k => R04_list.eq_2 ..) ?_
 exact loop _ 0 rfl (Nat.zero_le _)
theorem instance_y {t : Tm} (ht : Pr t) {l : List Tm} (hl : ∀ x ∈ l, Pr x) (hb : l.length ≤ 1000000) : Yields (fun k => R04_Instance k t l) okR := by
 have loop : ∀ (q i : Nat) (t : Tm) (c : Int), q = l.length - i → i ≤ l.length → Pr t → 0 ≤ c → c ≤ 20000 → Yields (fun k => R04_Instance_L1 k l t ⟨c⟩ (i : Int)) okR := by
  intro q
  induction q with
  | zero =>
   intro i t c hq hi ht h0 h1
   refine Yields.succ (fun k => R04_Instance_L1.eq_2 ..) ?_
   refine Yields.ite (fun h => ?_) (fun _ => Yields.pure (fun _ => ht))
   simp [Tm.encL_length] at h; omega
  | succ q ihq =>
   intro i t c hq hi ht h0 h1
   refine Yields.succ (fun k => R04_Instance_L1.eq_2 ..) ?_
   refine Yields.ite (fun _ => ?_) (fun _ => Yields.pure (fun _ => ht))
   obtain ⟨x, hx, hxm, _⟩ := qen (show i < l.length by omega)
   refine Yields.some hx ?_
   refine Yields.bind (step_y ht (hl x hxm) h0 h1) (fun y hy => ?_)
   obtain ⟨y1, y2, ⟨y3⟩⟩ := y
   obtain ⟨e1, e2, e3⟩ := hy
   simp only at e1 e2 e3 ⊢
   refine Yields.ite (fun h5 => Yields.pure ?_) (fun h5 => ?_)
   ·have h5 : y2 ≠ 0 := by simpa using h5
    exact fun h => (h5 h).elim
   have h5 : y2 = 0 := by simpa using h5
   rw [wrapS (by omega)]
   exact ihq (i + 1) y1 y3 (by omega) (by omega) (e3 h5).1 (by omega) (e3 h5).2
 refine Yields.succ (fun k => R04_Instance.eq_2 ..) ?_
 rw [qap]
 refine Yields.ite (fun h => Yields.pure (fun h => by cases h)) (fun _ => ?_)
 refine Yields.bind (list_y l hb) (fun y _ => ?_)
 refine Yields.ite (fun h => Yields.pure (fun h => by cases h)) (fun _ => ?_)
 exact loop _ 0 t 0 rfl (Nat.zero_le _) ht (by omega) (by omega)
def ctxB (l : List Tm) : Prop := l.length ≤ 1000 ∧ ∀ x ∈ l, Pr x
theorem longer_y {ctx : List Tm} {a : Tm} (hc : ctxB ctx) (ha : Pr a) : Yields (fun k => R06_longer k ctx a) (fun r => r.2 = 0 → ctxB r.1) := by
 refine Yields.succ (fun k => R06_longer.eq_2 ..) ?_
 refine Yields.ite (fun _ => Yields.pure (fun h => by cases h)) (fun h => ?_)
 have h : ctx.length < 30 := by simp [Tm.encL_length] at h; omega
 refine Yields.need (by simp [Tm.encL_length]; omega) ?_
 refine Yields.need (by simp [Tm.encL_length]; omega) ?_
 refine Yields.pure (fun _ => ⟨by simp; omega, fun x hx => ?_⟩)
 rcases List.mem_append.1 hx with h1 | h1
 ·exact hc.2 x h1
 ·simp at h1; subst h1; exact ha
theorem qjn (t : Tm) (b f : Int) : okR (shiftF t b f) := by
 unfold shiftF
 split
 ·intro h; cases h
 ·split
  ·intro h; cases h
  ·split
   ·intro h; cases h
   ·rename_i h
    intro _
    show isProper (movedF t b f) = true
    cases hp : isProper (movedF t b f) with
    | true => rfl
    | false => exact (h hp).elim
theorem has_ev (sig : List Dc) (n : Int) : Ev (fun k => R05_Has k sig n) (decide (n ≥ 0) && decide (n < (sig.length : Int))) := by
 refine Ev.succ (fun k => R05_Has.eq_2 ..) ?_
 rw [← Dc.encL_length]
 exact Ev.pure _
section
variable (sig : List Dc) (hsig : ∀ x ∈ sig, Pr x.cls)
include hsig
theorem class_y {ctx : List Tm} (hc : ctxB ctx) {m : Tm} (hm : Pr m) : Yields (fun k => R06_Kernel_class k ⟨sig, []⟩ ctx m) okR := by
 have hn := pr_n hm
 refine Yields.succ (fun k => R06_Kernel_class.eq_2 ..) ?_
 refine Yields.ite (fun _ => ?_) (fun _ => ?_)
 ·refine Yields.ite (fun _ => Yields.pure (fun h => by cases h)) (fun h => ?_)
  have h : m.n < (ctx.length : Int) := by simp [Tm.encL_length] at h; omega
  have hl := hc.1
  have hw : IntKind.i64.wrap (IntKind.i64.wrap (((Tm.encL ctx).length : Int) - 1) - m.n) = ((ctx.length - 1 - m.n.toNat : Nat) : Int) := by
   rw [Tm.encL_length, wrap_i64 (n := (ctx.length : Int) - 1) (by omega) (by omega), wrap_i64 (by omega) (by omega)]; omega
  rw [hw]
  obtain ⟨x, hx, _, _⟩ := qen (show ctx.length - 1 - m.n.toNat < ctx.length by omega)
  refine Yields.some hx ?_
  exact Yields.pure (qjn _ _ _)
 refine Yields.ite (fun _ => ?_) (fun _ => ?_)
 ·refine Yields.bind (Ev.is (has_ev sig m.n)) (fun b hb => ?_)
  subst hb
  refine Yields.ite (fun _ => Yields.pure (fun h => by cases h)) (fun h => ?_)
  have h := nb' h
  simp only [Bool.and_eq_true, decide_eq_true_eq] at h
  obtain ⟨d, hd, hdm⟩ := qmz h.1 h.2
  have hp := qs (hsig d hdm)
  refine Yields.bind (Ev.is (qjf hd hp.1 (by omega))) (fun b hb => ?_)
  refine Yields.ite (fun _ => Yields.pure (fun h => by cases h)) (fun _ => ?_)
  refine Yields.some hd ?_
  exact Yields.pure (fun _ => hsig d hdm)
 ·refine Yields.ite (fun _ => Yields.pure (fun h => by cases h)) (fun h => ?_)
  simp [Mt.encL] at h; omega
def ObjY (q : Nat) : Prop := ∀ (ctx : List Tm) (m a : Tm), ctxB ctx → Pr m → Pr a → m.count ≤ q → Yields (fun k => R06_Kernel_Object k ⟨sig, []⟩ ctx m a) (fun _ => True)
omit hsig in
theorem fits_y {q : Nat} (hobj : ObjY sig q) {ctx : List Tm} (hc : ctxB ctx) {l : List Tm} (hl : ∀ x ∈ l, Pr x ∧ x.count ≤ q) (hb : l.length ≤ 1000000) {t : Tm} (ht : Pr t) : Yields (fun k => R06_Kernel_fits k ⟨sig, []⟩ ctx l t) okR := by
 have loop : ∀ (p i : Nat) (t : Tm), p = l.length - i → i ≤ l.length → Pr t → Yields (fun k => R06_Kernel_fits_L1 k l ⟨sig, []⟩ ctx t (i : Int)) okR := by
  intro p
  induction p with
  | zero =>
   intro i t hq hi ht
   refine Yields.succ (fun k => R06_Kernel_fits_L1.eq_2 ..) ?_
   refine Yields.ite (fun h => ?_) (fun _ => Yields.pure (fun _ => ht))
   simp [Tm.encL_length] at h; omega
  | succ p ihp =>
   intro i t hq hi ht
   refine Yields.succ (fun k => R06_Kernel_fits_L1.eq_2 ..) ?_
   refine Yields.ite (fun _ => ?_) (fun _ => Yields.pure (fun _ => ht))
   refine Yields.ite (fun _ => Yields.pure (fun h => by cases h)) (fun h => ?_)
   obtain ⟨a, b, e, ha, hb', _⟩ := qfz ht (by simpa using h)
   obtain ⟨x, hx, hxm, _⟩ := qen (show i < l.length by omega)
   refine Yields.some hx ?_
   refine Yields.some (x := a) (by rw [e]; rfl) ?_
   refine Yields.bind (hobj ctx x a hc (hl x hxm).1 ha (hl x hxm).2) (fun y _ => ?_)
   refine Yields.ite (fun h5 => Yields.pure ?_) (fun h5 => ?_)
   ·have h5 : y ≠ 0 := by simpa using h5
    exact fun h => (h5 h).elim
   refine Yields.some hx ?_
   refine Yields.bind (instance_y ht (l := [x]) (by intro z hz; simp at hz; subst hz; exact (hl z hxm).1) (by simp)) (fun z hz => ?_)
   refine Yields.ite (fun h6 => Yields.pure ?_) (fun h6 => ?_)
   ·have h6 : z.2 ≠ 0 := by simpa using h6
    exact fun h => (h6 h).elim
   rw [wrapS (by omega)]
   exact ihp (i + 1) z.1 (by omega) (by omega) (hz (by simpa using h6))
 refine Yields.succ (fun k => R06_Kernel_fits.eq_2 ..) ?_
 exact loop _ 0 t rfl (Nat.zero_le _) ht
theorem infer_y {q : Nat} (hobj : ObjY sig q) {ctx : List Tm} (hc : ctxB ctx) {m : Tm} (hm : Pr m) (hq : m.count ≤ q + 1) : Yields (fun k => R06_Kernel_Infer k ⟨sig, []⟩ ctx m) okR := by
 refine Yields.succ (fun k => R06_Kernel_Infer.eq_2 ..) ?_
 refine Yields.ite (fun _ => Yields.pure (fun h => by cases h)) (fun _ => ?_)
 refine Yields.bind (class_y sig hsig hc hm) (fun y hy => ?_)
 refine Yields.ite (fun h5 => Yields.pure ?_) (fun h5 => ?_)
 ·have h5 : y.2 ≠ 0 := by simpa using h5
  exact fun h => (h5 h).elim
 have hlen := pr_len hm
 refine Yields.bind (fits_y sig hobj hc (l := m.args) (fun x hx => ⟨qi8 hm hx, by have := cnt_arg hx; omega⟩) (by omega) (hy (by simpa using h5))) (fun z hz => ?_)
 refine Yields.ite (fun h6 => Yields.pure ?_) (fun h6 => ?_)
 ·have h6 : z.2 ≠ 0 := by simpa using h6
  exact fun h => (h6 h).elim
 refine Yields.ite (fun _ => Yields.pure (fun h => by cases h)) (fun _ => Yields.pure (fun _ => hz (by simpa using h6)))
theorem object_y : ∀ (q : Nat), ObjY sig q
 | 0 => fun ctx m a hc hm ha hq => by have := qah m; omega
 | q + 1 => fun ctx m a hc hm ha hq => by
  have hobj := object_y q
  refine Yields.succ (fun k => R06_Kernel_Object.eq_2 ..) ?_
  refine Yields.ite (fun h2 => ?_) (fun _ => ?_)
  ·refine Yields.ite (fun _ => Yields.pure trivial) (fun _ => ?_)
   refine Yields.ite (fun _ => Yields.pure trivial) (fun h3 => ?_)
   obtain ⟨a0, a1, e, ha0, ha1, _⟩ := qfz ha (by simpa using h2)
   obtain ⟨m0, em, hm0, hcm⟩ := pr_one hm (by simpa using h3)
   refine Yields.some (x := a0) (by rw [e]; rfl) ?_
   refine Yields.bind (longer_y hc ha0) (fun y hy => ?_)
   refine Yields.ite (fun _ => Yields.pure trivial) (fun h5 => ?_)
   refine Yields.some (x := m0) (by rw [em]; rfl) ?_
   refine Yields.some (x := a1) (by rw [e]; rfl) ?_
   exact Yields.bind (hobj y.1 m0 a1 (hy (by simpa using h5)) hm0 ha1 (by omega)) (fun z _ => Yields.pure trivial)
  refine Yields.ite (fun _ => ?_) (fun _ => Yields.pure trivial)
  refine Yields.ite (fun _ => Yields.pure trivial) (fun _ => ?_)
  refine Yields.bind (infer_y sig hsig hobj hc hm hq) (fun y _ => ?_)
  refine Yields.ite (fun _ => Yields.pure trivial) (fun _ => ?_)
  exact Yields.ite (fun _ => Yields.pure trivial) (fun _ => Yields.pure trivial)
theorem qlv : ∀ (q : Nat) (ctx : List Tm) (a : Tm), ctxB ctx → Pr a → a.count ≤ q → Yields (fun k => R06_Kernel_Type k ⟨sig, []⟩ ctx a) (fun _ => True) ∧ Yields (fun k => R06_Kernel_Kind k ⟨sig, []⟩ ctx a) (fun _ => True)
 | 0, ctx, a, hc, ha, hq => by have := qah a; omega
 | q + 1, ctx, a, hc, ha, hq => by
  have pi : a.op = 2 → ∀ b : Bool, Yields (fun k => R06_Kernel_pi k ⟨sig, []⟩ ctx a b) (fun _ => True) := by
   intro h2 b
   obtain ⟨a0, a1, e, ha0, ha1, c0, c1, _⟩ := qfz ha h2
   refine Yields.succ (fun k => R06_Kernel_pi.eq_2 ..) ?_
   refine Yields.some (x := a0) (by rw [e]; rfl) ?_
   refine Yields.bind (qlv q ctx a0 hc ha0 (by omega)).1 (fun y _ => ?_)
   refine Yields.ite (fun _ => Yields.pure trivial) (fun _ => ?_)
   refine Yields.some (x := a0) (by rw [e]; rfl) ?_
   refine Yields.bind (longer_y hc ha0) (fun z hz => ?_)
   refine Yields.ite (fun _ => Yields.pure trivial) (fun h5 => ?_)
   have hz := hz (by simpa using h5)
   refine Yields.ite (fun _ => ?_) (fun _ => ?_)
   ·refine Yields.some (x := a1) (by rw [e]; rfl) ?_
    exact Yields.bind (qlv q z.1 a1 hz ha1 (by omega)).2 (fun _ _ => Yields.pure trivial)
   ·refine Yields.some (x := a1) (by rw [e]; rfl) ?_
    exact Yields.bind (qlv q z.1 a1 hz ha1 (by omega)).1 (fun _ _ => Yields.pure trivial)
  refine ⟨?_, ?_⟩
  ·refine Yields.succ (fun k => R06_Kernel_Type.eq_2 ..) ?_
   refine Yields.ite (fun h2 => ?_) (fun _ => ?_)
   ·exact Yields.bind (pi (by simpa using h2) false) (fun _ _ => Yields.pure trivial)
   refine Yields.ite (fun _ => Yields.pure trivial) (fun _ => ?_)
   refine Yields.bind (Ev.is (has_ev sig a.n)) (fun b hb => ?_)
   subst hb
   refine Yields.ite (fun _ => Yields.pure trivial) (fun h => ?_)
   have h := nb' h
   simp only [Bool.and_eq_true, decide_eq_true_eq] at h
   obtain ⟨d, hd, hdm⟩ := qmz h.1 h.2
   have hp := qs (hsig d hdm)
   refine Yields.bind (Ev.is (qjf hd hp.1 (by omega))) (fun b hb => ?_)
   refine Yields.ite (fun _ => Yields.pure trivial) (fun _ => ?_)
   refine Yields.some hd ?_
   have hlen := pr_len ha
   refine Yields.bind (fits_y sig (object_y sig hsig a.count) hc (l := a.args) (fun x hx => ⟨qi8 ha hx, by have := cnt_arg hx; omega⟩) (by omega) (hsig d hdm)) (fun z hz => ?_)
   refine Yields.ite (fun _ => Yields.pure trivial) (fun _ => ?_)
   exact Yields.ite (fun _ => Yields.pure trivial) (fun _ => Yields.pure trivial)
  ·refine Yields.succ (fun k => R06_Kernel_Kind.eq_2 ..) ?_
   refine Yields.ite (fun _ => Yields.pure trivial) (fun _ => ?_)
   refine Yields.ite (fun h2 => ?_) (fun _ => Yields.pure trivial)
   exact Yields.bind (pi (by simpa using h2) true) (fun _ _ => Yields.pure trivial)
theorem classOf_y {t : Tm} (ht : Pr t) : Yields (fun k => R06_Kernel_Class k ⟨sig, []⟩ t) (fun _ => True) := by
 have hp := qs ht
 have hc : ctxB [] := ⟨by simp, by simp⟩
 refine Yields.succ (fun k => R06_Kernel_Class.eq_2 ..) ?_
 refine Yields.bind (Ev.is (qmr hp.1 (by omega))) (fun y _ => ?_)
 refine Yields.ite (fun _ => ?_) (fun _ => ?_)
 ·exact Yields.bind (qlv sig hsig t.count [] t hc ht (Nat.le_refl _)).2 (fun _ _ => Yields.pure trivial)
 ·exact Yields.bind (qlv sig hsig t.count [] t hc ht (Nat.le_refl _)).1 (fun _ _ => Yields.pure trivial)
end
theorem qok (sig : List Dc) (hsig : ∀ x ∈ sig, Pr x.cls) (hb : sig.length ≤ 1000) : Yields (fun k => R06_Signature k sig) (fun _ => True) := by
 have loop : ∀ (p i : Nat), p = sig.length - i → i ≤ sig.length → Yields (fun k => R06_Signature_L1 k sig (i : Int)) (fun _ => True) := by
  intro p
  induction p with
  | zero =>
   intro i hq hi
   refine Yields.succ (fun k => R06_Signature_L1.eq_2 ..) ?_
   refine Yields.ite (fun h => ?_) (fun _ => Yields.pure trivial)
   simp [Dc.encL_length] at h; omega
  | succ p ihp =>
   intro i hq hi
   refine Yields.succ (fun k => R06_Signature_L1.eq_2 ..) ?_
   refine Yields.ite (fun _ => ?_) (fun _ => Yields.pure trivial)
   obtain ⟨x, hx, hxm, _⟩ := qen (show i < sig.length by omega)
   refine Yields.some hx ?_
   refine Yields.need (by simp [Dc.encL_length]; omega) ?_
   rw [Int.toNat_natCast]
   refine Yields.bind (classOf_y (sig.take i) (fun y hy => hsig y (List.mem_of_mem_take hy)) (hsig x hxm)) (fun y _ => ?_)
   refine Yields.ite (fun _ => Yields.pure trivial) (fun _ => ?_)
   rw [wrapS (by omega)]
   exact ihp (i + 1) (by omega) (by omega)
 refine Yields.succ (fun k => R06_Signature.eq_2 ..) ?_
 exact loop _ 0 rfl (Nat.zero_le _)
mutual
def shT : Tm → Prop
 | .mk _ _ _ args => args.length ≤ 1152921504606846976 ∧ shTL args
def shTL : List Tm → Prop
 | [] => True
 | s :: r => shT s ∧ shTL r
 end
theorem qmo : ∀ {l : List Tm} {s : Tm}, shTL l → s ∈ l → shT s
 | _ :: r, s, h, hs => by
  simp only [shTL] at h
  rcases List.mem_cons.1 hs with e | e
  ·subst e; exact h.1
  ·exact qmo h.2 e
theorem shT_args {s : Tm} (h : shT s) : s.args.length ≤ 1152921504606846976 ∧ shTL s.args := by cases s; exact h
mutual
theorem shT_of : ∀ (t : Tm), okD t.enc → shT t
 | .mk o h n us, hk => by
  simp only [Tm.enc, okD, okL] at hk
  simp only [shT]
  exact ⟨by have := hk.2.2.2.1.1; rwa [Tm.encL_length] at this, shTL_of us hk.2.2.2.1.2⟩
theorem shTL_of : ∀ (us : List Tm), okL (Tm.encL us) → shTL us
 | [], _ => trivial
 | u :: us, hk => by
  simp only [Tm.encL, okL] at hk
  exact ⟨shT_of u hk.1, shTL_of us hk.2⟩
 end
theorem nodes_y (t : Tm) : shT t → ∀ m : Int, Yields (fun k => R03_nodes k t m) (fun _ => True) := by
 induction t using Tm.ind with
 | h t ih =>
  intro ht m
  obtain ⟨hl, hb⟩ := shT_args ht
  have loop : ∀ (q i : Nat) (c : Int), q = t.args.length - i → i ≤ t.args.length → Yields (fun k => R03_nodes_L1 k t m c (i : Int)) (fun _ => True) := by
   intro q
   induction q with
   | zero =>
    intro i c hq hi
    refine Yields.succ (fun k => R03_nodes_L1.eq_2 ..) ?_
    refine Yields.ite (fun h => ?_) (fun _ => Yields.pure trivial)
    simp [Tm.encL_length] at h; omega
   | succ q ihq =>
    intro i c hq hi
    refine Yields.succ (fun k => R03_nodes_L1.eq_2 ..) ?_
    refine Yields.ite (fun _ => ?_) (fun _ => Yields.pure trivial)
    obtain ⟨x, hx, hxm, _⟩ := qen (show i < t.args.length by omega)
    refine Yields.some hx ?_
    refine Yields.bind (ih x hxm (qmo hb hxm) _) (fun y _ => ?_)
    rw [wrapS (by omega)]
    exact ihq (i + 1) _ (by omega) (by omega)
  refine Yields.succ (fun k => R03_nodes.eq_2 ..) ?_
  exact loop _ 0 _ rfl (Nat.zero_le _)
theorem depth_y (t : Tm) : shT t → Yields (fun k => R03_Depth k t) (fun _ => True) := by
 induction t using Tm.ind with
 | h t ih =>
  intro ht
  obtain ⟨hl, hb⟩ := shT_args ht
  have loop : ∀ (q i : Nat) (c : Int), q = t.args.length - i → i ≤ t.args.length → Yields (fun k => R03_Depth_L1 k t c (i : Int)) (fun _ => True) := by
   intro q
   induction q with
   | zero =>
    intro i c hq hi
    refine Yields.succ (fun k => R03_Depth_L1.eq_2 ..) ?_
    refine Yields.ite (fun h => ?_) (fun _ => Yields.pure trivial)
    simp [Tm.encL_length] at h; omega
   | succ q ihq =>
    intro i c hq hi
    refine Yields.succ (fun k => R03_Depth_L1.eq_2 ..) ?_
    refine Yields.ite (fun _ => ?_) (fun _ => Yields.pure trivial)
    obtain ⟨x, hx, hxm, _⟩ := qen (show i < t.args.length by omega)
    refine Yields.some hx ?_
    refine Yields.bind (ih x hxm (qmo hb hxm)) (fun y _ => ?_)
    rw [wrapS (by omega)]
    exact ihq (i + 1) _ (by omega) (by omega)
  refine Yields.succ (fun k => R03_Depth.eq_2 ..) ?_
  exact loop _ 0 _ rfl (Nat.zero_le _)
theorem size_y {t : Tm} (ht : shT t) : Yields (fun k => R03_Size k t) (fun _ => True) := by
 refine Yields.succ (fun k => R03_Size.eq_2 ..) ?_
 exact Yields.bind (nodes_y t ht _) (fun _ _ => Yields.bind (depth_y t ht) (fun _ _ => Yields.pure trivial))
def sigB (sig : List Dc) : Prop := sig.length ≤ 1152921504606846976 ∧ ∀ d ∈ sig, shT d.cls
theorem valid_y (sig : List Dc) (hs : sigB sig) : Yields (fun k => W16_valid k sig) (fun _ => True) := by
 obtain ⟨hl, hb⟩ := hs
 have loop : ∀ (q i : Nat) (c : Int), q = sig.length - i → i ≤ sig.length → Yields (fun k => W16_valid_L1 k sig c (i : Int)) (fun _ => True) := by
  have tail : ∀ c : Int, Yields (fun k => cond (decide (c > 3000)) (some (false)) ((R05_Formed k sig).bind (fun v22 => cond (!v22) (some (false)) ((R06_Signature k sig).bind (fun v25 => some ((v25.2 == 0))))))) (fun _ => True) := by
   intro c
   refine Yields.ite (fun _ => Yields.pure trivial) (fun _ => ?_)
   refine Yields.bind (Ev.is (qhz sig)) (fun b hb => ?_)
   subst hb
   refine Yields.ite (fun _ => Yields.pure trivial) (fun h => ?_)
   obtain ⟨h1, h2⟩ := qh8 (nb' h)
   exact Yields.bind (qok sig h2 (by omega)) (fun _ _ => Yields.pure trivial)
  intro q
  induction q with
  | zero =>
   intro i c hq hi
   refine Yields.succ (fun k => W16_valid_L1.eq_2 ..) ?_
   refine Yields.ite (fun h => ?_) (fun _ => tail c)
   simp [Dc.encL_length] at h; omega
  | succ q ihq =>
   intro i c hq hi
   refine Yields.succ (fun k => W16_valid_L1.eq_2 ..) ?_
   refine Yields.ite (fun _ => ?_) (fun _ => tail c)
   obtain ⟨x, hx, hxm, _⟩ := qen (show i < sig.length by omega)
   refine Yields.some hx ?_
   refine Yields.bind (size_y (hb x hxm)) (fun y _ => ?_)
   rw [wrapS (by omega)]
   exact ihq (i + 1) _ (by omega) (by omega)
 refine Yields.succ (fun k => W16_valid.eq_2 ..) ?_
 exact loop _ 0 _ rfl (Nat.zero_le _)
end

section
open Go.Tr Go Go.Proofs.Tryz
set_option maxRecDepth 10000
mutual
theorem qjp : ∀ (t : Tm) (b f : Int), 0 ≤ f → f + t.height ≤ 1000000 → t.count ≤ 900000 → Ev (fun n => R04_moved n t b f) (movedF t b f)
 | .mk o h n us, b, f, hf0, hf1, hc => by
  refine Ev.succ (fun n => R04_moved.eq_2 ..) ?_
  have hcu : 1 + qn us = (Tm.mk o h n us).count := by rw [qai]; simp only [Tm.args]; omega
  have hul := qv us
  have hgo : ∀ m : Int, Ev (fun q => R04_moved_L1 q (.mk o h n us) b f (.mk o h m []) 0) (.mk o h m (movedL o us 0 b f)) := fun m =>
   (qlq o h n m us (by omega) us b f [] 0 rfl hf0 (by rw [Tm.height_eq] at hf1; simp only [Tm.args] at hf1; omega) (by omega) rfl (by simp)).eq (by simp)
  simp only [movedF, Tm.op, Tm.hd, Tm.n]
  refine Ev.ite (fun h1 => ?_) (fun h1 => ?_)
  ·have h1 : (o = 4 ∧ h = 1) ∧ n ≥ f := by simpa using h1
   rw [if_pos h1]
   exact hgo _
  ·have h1 : ¬ ((o = 4 ∧ h = 1) ∧ n ≥ f) := by simpa using h1
   rw [if_neg h1]
   exact hgo _
theorem qlq (o h n m : Int) (us : List Tm) (hus : us.length ≤ 900000) : ∀ (ts : List Tm) (b f : Int) (acc : List Tm) (i : Nat), us.drop i = ts → 0 ≤ f → f + 1 + qp ts ≤ 1000000 → qn ts ≤ 900000 → acc.length = i → i + ts.length = us.length →
  Ev (fun q => R04_moved_L1 q (.mk o h n us) b f (.mk o h m acc) (i : Int)) (.mk o h m (acc ++ movedL o ts i b f))
 | [], b, f, acc, i, hd', hf0, hf1, hc, ha, hi => by
  refine Ev.succ (fun n => R04_moved_L1.eq_2 ..) ?_
  simp only [List.length_nil, Nat.add_zero] at hi
  refine Ev.f (by simp [Tm.encL_length, Tm.args, hi]) ?_
  exact (Ev.pure _).eq (by simp [movedL])
 | u :: ts, b, f, acc, i, hd', hf0, hf1, hc, ha, hi => by
  refine Ev.succ (fun n => R04_moved_L1.eq_2 ..) ?_
  simp only [List.length_cons] at hi
  have hu : us[i]? = some u := by
   have := congrArg (fun l => l[0]?) hd'
   simpa using this
  have hul := qb1 o i
  simp only [qp, qn] at hf1 hc
  refine Ev.t (by simp [Tm.encL_length, Tm.args]; omega) ?_
  have next : ∀ x, Ev (fun q => cond (decide ((Tm.encL (acc ++ [x])).length ≤ 1000000)) (R04_moved_L1 q (.mk o h n us) b f (Tm.mk o h m (acc ++ [x])) (IntKind.i64.wrap ((i : Int) + 1))) none) (.mk o h m ((acc ++ [x]) ++ movedL o ts (i + 1) b f)) := fun x => by
   refine Ev.need (by simp [Tm.encL_length]; omega) ?_
   rw [wrapS (show i < 2000000000000000000 by omega)]
   exact qlq o h n m us hus ts b f (acc ++ [x]) (i + 1) (by rw [← List.drop_drop, hd']; rfl) hf0 (by omega) (by omega) (by simp [ha]) (by omega)
  have fin : ∀ x, x = movedF u b (f + under o i) → Tm.mk o h m ((acc ++ [x]) ++ movedL o ts (i + 1) b f) = .mk o h m (acc ++ movedL o (u :: ts) i b f) := by
   rintro x rfl
   simp [movedL]
  refine Ev.ite (fun h1 => ?_) (fun h1 => ?_)
  ·have h1 : o = 3 ∨ o = 2 ∧ (i : Int) = 1 := by simpa [Tm.op] using h1
   have hw : IntKind.i64.wrap (f + 1) = f + under o i := by rw [under, if_pos h1]; exact wrap_i64 (by omega) (by omega)
   refine Ev.some (qz hu) ?_
   rw [hw]
   refine (qjp u b _ (by omega) (by omega) (by omega)).bind ?_
   exact (next _).eq (fin _ rfl)
  ·have h1 : ¬ (o = 3 ∨ o = 2 ∧ (i : Int) = 1) := by simpa [Tm.op] using h1
   have hw : IntKind.i64.wrap (f + 0) = f + under o i := by rw [under, if_neg h1]; exact wrap_i64 (by omega) (by omega)
   refine Ev.some (qz hu) ?_
   rw [hw]
   refine (qjp u b _ (by omega) (by omega) (by omega)).bind ?_
   exact (next _).eq (fin _ rfl)
 end
theorem raised_ev {t : Tm} (ht : Pr t) (n : Int) : Ev (fun k => R04_raised k t n) (movedF t n 0) := by
 obtain ⟨hok, hh, hc⟩ := qs ht
 refine Ev.succ (fun k => R04_raised.eq_2 ..) ?_
 exact (qjp t n 0 (by omega) (by omega) (by omega)).bind (Ev.pure _)
theorem wrapN {n k : Int} (h0 : 0 ≤ n) (h1 : n ≤ 9999) (h2 : -20000 ≤ k) (h3 : k ≤ 1000000) : IntKind.i64.wrap (n - k) = n - k := wrap_i64 (by omega) (by omega)
mutual
theorem qnt : ∀ (t : Tm) (k b f : Int), okAll t = true → 0 ≤ k → 0 ≤ f → f ≤ 9999 → k + t.height ≤ 900000 → t.count ≤ 900000 → Ev (fun n => term_Map_term_Moved_1 n t k f b) (movedF t b (f + k))
 | .mk o h n us, k, b, f, hok, hk0, hf0, hf9, hk1, hc => by
  refine Ev.succ (fun n => term_Map_term_Moved_1.eq_2 ..) ?_
  have hn := qhl hok
  simp only [Tm.n] at hn
  simp only [okAll, Bool.and_eq_true] at hok
  have hcu : 1 + qn us = (Tm.mk o h n us).count := by rw [qai]; simp only [Tm.args]; omega
  have hul := qv us
  have hk2 : k + 1 + qp us ≤ 900000 := by rw [Tm.height_eq] at hk1; simp only [Tm.args] at hk1; omega
  have h1 : Ev (fun q => term_Moved_1 q (.mk o h n []) k f b) (.mk o h (if (o = 4 ∧ h = 1) ∧ n ≥ f + k then IntKind.i64.wrap (n + b) else n) []) := by
   refine Ev.succ (fun n => term_Moved_1.eq_2 ..) ?_
   simp only [Tm.op, Tm.hd, Tm.n, Tm.args]
   simp only [wrapN hn.1 hn.2 (show -20000 ≤ k by omega) (show k ≤ 1000000 by omega)]
   refine Ev.ite (fun h1 => ?_) (fun h1 => ?_)
   ·have h1 : (o = 4 ∧ h = 1) ∧ n - k ≥ f := by simpa using h1
    rw [if_pos ⟨h1.1, by omega⟩]
    exact Ev.pure _
   ·have h1 : ¬ ((o = 4 ∧ h = 1) ∧ n - k ≥ f) := by simpa using h1
    rw [if_neg (fun h => h1 ⟨h.1, by omega⟩)]
    exact Ev.pure _
  simp only [Tm.op, Tm.hd, Tm.n]
  refine h1.bind ?_
  simp only [movedF]
  exact (qli o h n _ us (by omega) us k b f [] 0 rfl hok.2 hk0 hf0 hf9 hk2 (by omega) rfl (by simp)).eq (by simp)
theorem qli (o h n m : Int) (us : List Tm) (hus : us.length ≤ 900000) : ∀ (ts : List Tm) (k b f : Int) (acc : List Tm) (i : Nat), us.drop i = ts → okAllL ts = true → 0 ≤ k → 0 ≤ f → f ≤ 9999 → k + 1 + qp ts ≤ 900000 → qn ts ≤ 900000 → acc.length = i → i + ts.length = us.length →
  Ev (fun q => term_Map_term_Moved_1_L1 q (.mk o h n us) k f b (.mk o h m acc) (i : Int)) (.mk o h m (acc ++ movedL o ts i b (f + k)))
 | [], k, b, f, acc, i, hd', hok, hk0, hf0, hf9, hk1, hc, ha, hi => by
  refine Ev.succ (fun n => term_Map_term_Moved_1_L1.eq_2 ..) ?_
  simp only [List.length_nil, Nat.add_zero] at hi
  refine Ev.f (by simp [Tm.encL_length, Tm.args, hi]) ?_
  exact (Ev.pure _).eq (by simp [movedL])
 | u :: ts, k, b, f, acc, i, hd', hok, hk0, hf0, hf9, hk1, hc, ha, hi => by
  refine Ev.succ (fun n => term_Map_term_Moved_1_L1.eq_2 ..) ?_
  simp only [List.length_cons] at hi
  have hu : us[i]? = some u := by
   have := congrArg (fun l => l[0]?) hd'
   simpa using this
  have hul := qb1 o i
  simp only [qp, qn] at hk1 hc
  simp only [okAllL, Bool.and_eq_true] at hok
  refine Ev.t (by simp [Tm.encL_length, Tm.args]; omega) ?_
  refine Ev.some (qz hu) ?_
  refine (qgr _ _).bind ?_
  have hw : IntKind.i64.wrap (k + under o i) = k + under o i := wrap_i64 (by omega) (by omega)
  simp only [Tm.op, hw]
  refine (qnt u (k + under o i) b f hok.1 (by omega) hf0 hf9 (by omega) (by omega)).bind ?_
  simp only [Tm.args, Tm.hd, Tm.n]
  refine Ev.need (by simp [Tm.encL_length]; omega) ?_
  rw [wrapS (show i < 2000000000000000000 by omega)]
  refine (qli o h n m us hus ts k b f _ (i + 1) (by rw [← List.drop_drop, hd']; rfl) hok.2 hk0 hf0 hf9 (by omega) (by omega) (by simp [ha]) (by omega)).eq ?_
  simp [movedL, Int.add_assoc]
 end
def bigN (o h n f b : Int) : Bool := ((o == 4 && h == 1) && decide (n ≥ f)) && decide (n + b > 9999)
mutual
def bigF : Tm → Int → Int → Bool
 | .mk o h n us, f, b => bigN o h n f b || bigL o us 0 f b
def bigL : Int → List Tm → Nat → Int → Int → Bool
 | _, [], _, _, _ => false
 | o, u :: us, i, f, b => bigF u (f + under o i) b || bigL o us (i + 1) f b
 end
mutual
theorem eachP_ev : ∀ (t : Tm) (k f b : Int) (lo bg : Bool), okAll t = true → 0 ≤ k → 0 ≤ f → f ≤ 9999 → -9999 ≤ b → b ≤ 9999 → k + t.height ≤ 900000 → t.count ≤ 900000 →
  Ev (fun n => term_Each_term_Shift_1 n t k f lo b bg) (lo || (decide (b < 0) && lowF t (f + k) (f - b - 1 + k)), bg || bigF t (f + k) b)
 | .mk o h n us, k, f, b, lo, bg, hok, hk0, hf0, hf9, hb0, hb9, hk1, hc => by
  refine Ev.succ (fun n => term_Each_term_Shift_1.eq_2 ..) ?_
  have hn := qhl hok
  simp only [Tm.n] at hn
  simp only [okAll, Bool.and_eq_true] at hok
  have hcu : 1 + qn us = (Tm.mk o h n us).count := by rw [qai]; simp only [Tm.args]; omega
  have hul := qv us
  have hk2 : k + 1 + qp us ≤ 900000 := by rw [Tm.height_eq] at hk1; simp only [Tm.args] at hk1; omega
  have w1 : IntKind.i64.wrap (n - k) = n - k := wrapN hn.1 hn.2 (by omega) (by omega)
  have w2 : IntKind.i64.wrap (f - b) = f - b := wrap_i64 (by omega) (by omega)
  have w3 : IntKind.i64.wrap (n + b) = n + b := wrap_i64 (by omega) (by omega)
  have h1 : Ev (fun q => term_Shift_1 q (.mk o h n us) k f lo b bg) (lo || (decide (b < 0) && (((o == 4 && h == 1) && decide (n ≥ f + k)) && decide (n ≤ f - b - 1 + k))), bg || bigN o h n (f + k) b) := by
   refine Ev.succ (fun n => term_Shift_1.eq_2 ..) ?_
   simp only [Tm.op, Tm.hd, Tm.n, w1, w2, w3]
   refine Ev.ite (fun h1 => ?_) (fun h1 => ?_)
   ·have h1 : (o = 4 ∧ h = 1) ∧ n - k ≥ f := by simpa using h1
    refine (Ev.pure _).eq ?_
    have e1 : decide (n ≥ f + k) = true := decide_eq_true (by omega)
    have e2 : decide (n - k < f - b) = decide (n ≤ f - b - 1 + k) := by
     rw [Bool.eq_iff_iff, decide_eq_true_eq, decide_eq_true_eq]; omega
    simp only [bigN, h1.1.1, h1.1.2, e1, e2, beq_self_eq_true, Bool.true_and]
   ·have h1 : ¬ ((o = 4 ∧ h = 1) ∧ n - k ≥ f) := by simpa using h1
    refine (Ev.pure _).eq ?_
    have e1 : ((o == 4 && h == 1) && decide (n ≥ f + k)) = false := by
     rw [Bool.eq_false_iff]
     intro e
     simp only [Bool.and_eq_true, beq_iff_eq, decide_eq_true_eq] at e
     exact h1 ⟨e.1, by omega⟩
    simp only [bigN, e1, Bool.false_and, Bool.and_false, Bool.or_false]
  refine h1.bind ?_
  have hl := qnv o h n us (by omega) us k f b (lo || (decide (b < 0) && (((o == 4 && h == 1) && decide (n ≥ f + k)) && decide (n ≤ f - b - 1 + k)))) (bg || bigN o h n (f + k) b) 0 rfl hok.2 hk0 hf0 hf9 hb0 hb9 hk2 (by omega) (by simp)
  refine hl.eq ?_
  simp only [lowF, bigF, Bool.or_assoc, Bool.and_or_distrib_left]
theorem qnv (o h n : Int) (us : List Tm) (hus : us.length ≤ 900000) : ∀ (ts : List Tm) (k f b : Int) (lo bg : Bool) (i : Nat), us.drop i = ts → okAllL ts = true → 0 ≤ k → 0 ≤ f → f ≤ 9999 → -9999 ≤ b → b ≤ 9999 → k + 1 + qp ts ≤ 900000 → qn ts ≤ 900000 → i + ts.length = us.length →
  Ev (fun q => term_Each_term_Shift_1_L1 q (.mk o h n us) k f b lo bg (i : Int)) (lo || (decide (b < 0) && lowL o ts i (f + k) (f - b - 1 + k)), bg || bigL o ts i (f + k) b)
 | [], k, f, b, lo, bg, i, hd', hok, hk0, hf0, hf9, hb0, hb9, hk1, hc, hi => by
  refine Ev.succ (fun n => term_Each_term_Shift_1_L1.eq_2 ..) ?_
  simp only [List.length_nil, Nat.add_zero] at hi
  refine Ev.f (by simp [Tm.encL_length, Tm.args, hi]) ?_
  exact (Ev.pure _).eq (by simp [lowL, bigL])
 | u :: ts, k, f, b, lo, bg, i, hd', hok, hk0, hf0, hf9, hb0, hb9, hk1, hc, hi => by
  refine Ev.succ (fun n => term_Each_term_Shift_1_L1.eq_2 ..) ?_
  simp only [List.length_cons] at hi
  have hu : us[i]? = some u := by
   have := congrArg (fun l => l[0]?) hd'
   simpa using this
  have hul := qb1 o i
  simp only [qp, qn] at hk1 hc
  simp only [okAllL, Bool.and_eq_true] at hok
  refine Ev.t (by simp [Tm.encL_length, Tm.args]; omega) ?_
  refine Ev.some (qz hu) ?_
  refine (qgr _ _).bind ?_
  have hw : IntKind.i64.wrap (k + under o i) = k + under o i := wrap_i64 (by omega) (by omega)
  simp only [Tm.op, hw]
  refine (eachP_ev u (k + under o i) f b lo bg hok.1 (by omega) hf0 hf9 hb0 hb9 (by omega) (by omega)).bind ?_
  simp only [wrapS (show i < 2000000000000000000 by omega)]
  refine (qnv o h n us hus ts k f b _ _ (i + 1) (by rw [← List.drop_drop, hd']; rfl) hok.2 hk0 hf0 hf9 hb0 hb9 (by omega) (by omega) (by omega)).eq ?_
  simp only [lowL, bigL, Bool.or_assoc, Bool.and_or_distrib_left, Int.add_assoc]
 end
mutual
theorem qkf : ∀ (t : Tm) (b f : Int), okAll t = true → 0 ≤ f → -9999 ≤ b → b ≤ 9999 → (b < 0 → lowF t f (f - b - 1) = false) → okAll (movedF t b f) = !bigF t f b
 | .mk o h n us, b, f, hok, hf, hb0, hb9, hlo => by
  have hn := qhl hok
  simp only [Tm.n] at hn
  simp only [okAll, Bool.and_eq_true] at hok
  have hl := qh6 o us 0 b f hok.2 hf hb0 hb9 (fun h => by
   have := hlo h
   simp only [lowF, Bool.or_eq_false_iff] at this
   exact this.2)
  simp only [movedF, okAll, hl, bigF, Bool.not_or, qg2]
  congr 1
  by_cases h1 : (o = 4 ∧ h = 1) ∧ n ≥ f
  ·rw [if_pos h1, wrap_i64 (by omega) (by omega)]
   obtain ⟨⟨rfl, rfl⟩, h2⟩ := h1
   have hpos : 0 ≤ n + b := by
    rcases Int.lt_or_le b 0 with h3 | h3
    ·have := hlo h3
     simp only [lowF, Bool.or_eq_false_iff] at this
     have h4 := this.1
     simp only [beq_self_eq_true, Bool.true_and, Bool.and_eq_false_iff, decide_eq_false_iff_not] at h4
     omega
    ·omega
   have hok1 := hok.1
   rw [Bool.eq_iff_iff]
   simp only [okNode, bigN, beq_self_eq_true, Bool.true_and, decide_eq_true (show n ≥ f from h2)] at hok1 ⊢
   simp at hok1 ⊢
   omega
  ·rw [if_neg h1, hok.1]
   have : bigN o h n f b = false := by
    rw [Bool.eq_false_iff]
    intro e
    simp only [bigN, Bool.and_eq_true, beq_iff_eq, decide_eq_true_eq] at e
    exact h1 e.1
   rw [this]; rfl
theorem qh6 : ∀ (o : Int) (us : List Tm) (i : Nat) (b f : Int), okAllL us = true → 0 ≤ f → -9999 ≤ b → b ≤ 9999 → (b < 0 → lowL o us i f (f - b - 1) = false) → okAllL (movedL o us i b f) = !bigL o us i f b
 | _, [], _, _, _, _, _, _, _, _ => rfl
 | o, u :: us, i, b, f, hok, hf, hb0, hb9, hlo => by
  have hul := qb1 o i
  simp only [okAllL, Bool.and_eq_true] at hok
  have h1 := qkf u b (f + under o i) hok.1 (by omega) hb0 hb9 (fun h => by
   have := hlo h
   simp only [lowL, Bool.or_eq_false_iff] at this
   rw [show f + under o i - b - 1 = f - b - 1 + under o i by omega]
   exact this.1)
  have h2 := qh6 o us (i + 1) b f hok.2 hf hb0 hb9 (fun h => by
   have := hlo h
   simp only [lowL, Bool.or_eq_false_iff] at this
   exact this.2)
  simp only [movedL, okAllL, h1, h2, bigL, Bool.not_or]
 end
mutual
theorem qlm : ∀ (t : Tm) (b f : Int), (movedF t b f).count = t.count ∧ (movedF t b f).height = t.height
 | .mk o h n us, b, f => by
  have h1 := qjt o us 0 b f
  simp only [movedF, Tm.count, Tm.height, h1.1, h1.2]
  exact ⟨trivial, trivial⟩
theorem qjt : ∀ (o : Int) (us : List Tm) (i : Nat) (b f : Int), qn (movedL o us i b f) = qn us ∧ qp (movedL o us i b f) = qp us
 | _, [], _, _, _ => ⟨rfl, rfl⟩
 | o, u :: us, i, b, f => by
  have h1 := qlm u b (f + under o i)
  have h2 := qjt o us (i + 1) b f
  simp only [movedL, qn, qp, h1.1, h1.2, h2.1, h2.2]
  exact ⟨trivial, trivial⟩
 end
theorem qib {t : Tm} {b f : Int} (ht : isProper t = true) (hf : 0 ≤ f) (hb0 : -9999 ≤ b) (hb9 : b ≤ 9999) (hlo : b < 0 → lowF t f (f - b - 1) = false) : isProper (movedF t b f) = !bigF t f b := by
 have h1 := (qbb t).1 ht
 have h2 := qlm t b f
 rw [← qkf t b f h1.1 hf hb0 hb9 hlo, Bool.eq_iff_iff, qbb, h2.1, h2.2]
 exact ⟨fun h => h.1, fun h => ⟨h, h1.2⟩⟩
theorem qku (t : Tm) (b f : Int) : Ev (fun n => term_Shift n t b f) (shiftF t b f) := by
 refine Ev.succ (fun n => term_Shift.eq_2 ..) ?_
 unfold shiftF
 refine Ev.ite (fun h1 => ?_) (fun h1 => ?_)
 ·rw [if_pos]
  ·exact Ev.pure _
  ·cases hp : isProper t with
   | false => exact .inl rfl
   | true => simp [hp] at h1; omega
 ·have h1 : isProper t = true ∧ -9999 ≤ b ∧ b ≤ 9999 ∧ 0 ≤ f ∧ f ≤ 9999 := by
   cases hp : isProper t with
   | false => simp [hp] at h1
   | true => simp [hp] at h1; exact ⟨rfl, by omega, by omega, by omega, by omega⟩
  obtain ⟨hp, hb0, hb9, hf0, hf9⟩ := h1
  have hpp := (qbb t).1 hp
  rw [if_neg (by
   rintro (h | h)
   ·exact absurd (hp.symm.trans h) (by simp)
   ·omega)]
  refine (eachP_ev t 0 f b false false hpp.1 (by omega) hf0 hf9 hb0 hb9 (by omega) (by omega)).bind ?_
  simp only [Int.add_zero, Bool.false_or]
  refine Ev.ite (fun h2 => ?_) (fun h2 => ?_)
  ·have h2 : b < 0 ∧ lowF t f (f - b - 1) = true := by simpa using h2
   rw [if_pos h2]
   exact Ev.pure _
  ·have h2 : ¬ (b < 0 ∧ lowF t f (f - b - 1) = true) := by
    rintro ⟨e1, e2⟩
    rw [e2, decide_eq_true e1] at h2
    cases h2
   rw [if_neg h2]
   have hm := qib (f := f) hp hf0 hb0 hb9 (fun h => by
    cases hl : lowF t f (f - b - 1) with
    | false => rfl
    | true => exact (h2 ⟨h, hl⟩).elim)
   refine Ev.ite (fun h3 => ?_) (fun h3 => ?_)
   ·rw [h3] at hm
    rw [if_pos (by rw [hm]; rfl)]
    exact Ev.pure _
   ·rw [h3] at hm
    rw [if_neg (by rw [hm]; simp)]
    have h4 : Ev (fun n => term_Moved n t b f) (movedF t b f) := by
     refine Ev.succ (fun n => term_Moved.eq_2 ..) ?_
     have := qnt t 0 b f hpp.1 (by omega) hf0 hf9 (by omega) (by omega)
     rw [Int.add_zero] at this
     exact this.bind (Ev.pure _)
    exact h4.bind (Ev.pure _)
end

section
open Go.Tr Go Go.Proofs.Tryz
set_option maxRecDepth 10000
theorem qdb {α β : Type} {f : Nat → Option (PR α)} {g : Nat → α → Option (PR β)} {x : α} {r : PR β} (h : Ev f (.ok x)) (k : Ev (fun n => g n x) r) : Ev (fun n => bindP (f n) (g n)) r := by
 obtain ⟨N1, h1⟩ := h
 obtain ⟨N2, h2⟩ := k
 exact ⟨max N1 N2, fun n hn => by show bindP (f n) (g n) = _; rw [h1 n (by omega)]; exact h2 n (by omega)⟩
theorem qd0 {α β : Type} {f : Nat → Option (PR α)} {g : Nat → α → Option (PR β)} {e : Int} (h : Ev f (.pan e)) : Ev (fun n => bindP (f n) (g n)) (.pan e) := by
 obtain ⟨N1, h1⟩ := h
 exact ⟨N1, fun n hn => by show bindP (f n) (g n) = _; rw [h1 n hn]; rfl⟩
theorem Ev.bindCok {α β : Type} {f : Nat → Option (PR α)} {p : Nat → Int → Option β} {g : Nat → α → Option β} {x : α} {r : β} (h : Ev f (.ok x)) (k : Ev (fun n => g n x) r) : Ev (fun n => bindC (f n) (p n) (g n)) r := by
 obtain ⟨N1, h1⟩ := h
 obtain ⟨N2, h2⟩ := k
 exact ⟨max N1 N2, fun n hn => by show bindC (f n) (p n) (g n) = _; rw [h1 n (by omega)]; exact h2 n (by omega)⟩
theorem qpc {α β : Type} {f : Nat → Option (PR α)} {p : Nat → Int → Option β} {g : Nat → α → Option β} {e : Int} {r : β} (h : Ev f (.pan e)) (k : Ev (fun n => p n e) r) : Ev (fun n => bindC (f n) (p n) (g n)) r := by
 obtain ⟨N1, h1⟩ := h
 obtain ⟨N2, h2⟩ := k
 exact ⟨max N1 N2, fun n hn => by show bindC (f n) (p n) (g n) = _; rw [h1 n (by omega)]; exact h2 n (by omega)⟩
def toP (r : Tm × Int × Ct) : PR (Tm × SWk) := if r.2.1 = 0 then .ok (r.1, ⟨r.2.2.n⟩) else .pan r.2.1
theorem toP_ok {t : Tm} {c : Ct} : toP (t, 0, c) = .ok (t, ⟨c.n⟩) := rfl
theorem qei {t : Tm} {e : Int} {c : Ct} (h : e ≠ 0) : toP (t, e, c) = .pan e := by simp [toP, h]
theorem kept_ok {t : Tm} (h : Pr t) : Ev (fun k => subst_kept k t) (.ok t) := by
 refine Ev.succ (fun k => subst_kept.eq_2 ..) ?_
 exact Ev.f (by rw [if_pos h]; rfl) (Ev.pure _)
theorem kept_pan {t : Tm} (h : isProper t = false) : Ev (fun k => subst_kept k t) (.pan 5) := by
 refine Ev.succ (fun k => subst_kept.eq_2 ..) ?_
 exact Ev.t (by rw [h]; rfl) (Ev.pure _)
theorem qmk {t : Tm} (h : Pr t) : Ev (fun k => R04_whole k t) (t, 0) := by
 refine Ev.succ (fun k => R04_whole.eq_2 ..) ?_
 exact Ev.f (by rw [qap, h]; rfl) (Ev.pure _)
theorem qnu {t : Tm} (h : isProper t = false) : Ev (fun k => R04_whole k t) (tm0, 5) := by
 refine Ev.succ (fun k => R04_whole.eq_2 ..) ?_
 exact Ev.t (by rw [qap, h]; rfl) (Ev.pure _)
def PutB (q : Nat) : Prop := ∀ (t : Tm) (n : Int) (s : Tm) (p : Sm) (c : Int), 0 ≤ c → c ≤ 20000 → 20001 - c ≤ q → Pr t → Pr s → Yields (fun k => R04_count_put k t n s p ⟨c⟩) (fun r => okP c r ∧ Ev (fun k => subst_work_subst k t n s p ⟨c⟩) (toP r))
theorem apply_b (q : Nat) (hput : PutB q) (l0 : List Tm) (p : Sm) (hl0 : ∀ x ∈ l0, Pr x) (hb0 : l0.length ≤ 1000) : ∀ (m i : Nat) (f : Tm) (c : Int), m = l0.length - i → i ≤ l0.length → 0 ≤ c → c ≤ 20000 → 20001 - c ≤ q → Pr f →
  Yields (fun k => R04_count_apply k f (l0.drop i) ⟨p.args.drop i, p.con⟩ ⟨c⟩) (fun r => okP c r ∧ Ev (fun k => subst_work_apply_L1 k l0 p ⟨c⟩ f (i : Int)) (toP r))
 | 0, i, f, c, hm, hi, h0, h1, hq, hf => by
  have hi : i = l0.length := by omega
  subst hi
  refine Yields.succ (fun k => R04_count_apply.eq_2 ..) ?_
  refine Yields.ite (fun _ => ?_) (fun h => by simp [Tm.encL_length] at h)
  refine Yields.bind (Ev.yields (qmk hf) (p := (· = (f, 0))) rfl) ?_
  rintro _ rfl
  refine Yields.pure ⟨⟨Int.le_refl _, by simp only; omega, fun _ => ⟨hf, h1⟩⟩, ?_⟩
  refine Ev.succ (fun k => subst_work_apply_L1.eq_2 ..) ?_
  refine Ev.f (by simp [Tm.encL_length]) ?_
  exact qdb (kept_ok hf) (Ev.pure _)
 | m + 1, i, f, c, hm, hi, h0, h1, hq, hf => by
  have hlt : i < l0.length := by omega
  have hd : l0.drop i = l0[i] :: l0.drop (i + 1) := List.drop_eq_getElem_cons hlt
  have hx : Pr l0[i] := hl0 _ (List.getElem_mem hlt)
  rw [hd]
  refine Yields.succ (fun k => R04_count_apply.eq_2 ..) ?_
  refine Yields.ite (fun h => by simp [Tm.encL_length] at h; omega) (fun _ => ?_)
  have hprog : ∀ r, Ev (fun k => cond ((f.op != 3) || (decide ((i : Int) ≥ ((Sm.encL p.args).length : Int)))) (some (.pan 23)) ((idx f.args 0).bind (fun v19 => (idx p.args (i : Int)).bind (fun v24 => bindP (subst_work_subst k v19 0 l0[i] v24 ⟨c⟩) (fun v29 => subst_work_apply_L1 k l0 p v29.2 v29.1 (IntKind.i64.wrap ((i : Int) + 1))))))) r → Ev (fun k => subst_work_apply_L1 k l0 p ⟨c⟩ f (i : Int)) r := by
   intro r h
   refine Ev.succ (fun k => subst_work_apply_L1.eq_2 ..) ?_
   refine Ev.t (by simp [Tm.encL_length]; omega) ?_
   exact Ev.some (qz (List.getElem?_eq_getElem hlt)) h
  refine Yields.ite (fun h2 => Yields.pure ⟨?_, ?_⟩) (fun h2 => ?_)
  ·refine ⟨?_, ?_, fun h => by cases h⟩ <;> simp only <;> omega
  ·rw [qei (by decide)]
   refine hprog _ (Ev.t ?_ (Ev.pure _))
   rw [Bool.or_eq_true] at h2 ⊢
   rcases h2 with h2 | h2
   ·exact .inl h2
   ·right
    have h2 : (((Sm.encL (p.args.drop i)).length : Int) == 0) = true := h2
    have h2 : (p.args.drop i).length = 0 := by
     rw [Sm.encL_length] at h2
     simpa using h2
    rw [List.length_drop] at h2
    rw [Sm.encL_length]
    simp; omega
  simp only [Bool.or_eq_false_iff, bne_eq_false_iff_eq] at h2
  obtain ⟨b, hb1, hpb, _⟩ := pr_one hf h2.1
  have hpl : i < p.args.length := by
   have h3 : ¬ (p.args.drop i).length = 0 := by
    have h4 : (((Sm.encL (p.args.drop i)).length : Int) == 0) = false := h2.2
    intro e
    rw [Sm.encL_length, e] at h4
    cases h4
   rw [List.length_drop] at h3
   omega
  have hpd : p.args.drop i = p.args[i] :: p.args.drop (i + 1) := List.drop_eq_getElem_cons hpl
  refine Yields.some (x := b) (by rw [hb1]; rfl) ?_
  refine Yields.some (x := l0[i]) rfl ?_
  refine Yields.some (x := p.args[i]) (by rw [hpd]; rfl) ?_
  have hprog2 : ∀ r, Ev (fun k => bindP (subst_work_subst k b 0 l0[i] p.args[i] ⟨c⟩) (fun v29 => subst_work_apply_L1 k l0 p v29.2 v29.1 (IntKind.i64.wrap ((i : Int) + 1)))) r → Ev (fun k => subst_work_apply_L1 k l0 p ⟨c⟩ f (i : Int)) r := by
   intro r h
   refine hprog _ (Ev.f ?_ ?_)
   ·rw [Bool.or_eq_false_iff]
    refine ⟨by simp [h2.1], ?_⟩
    rw [Sm.encL_length]; simp; omega
   ·refine Ev.some (x := b) (by rw [hb1]; rfl) ?_
    exact Ev.some (qz (List.getElem?_eq_getElem hpl)) h
  refine Yields.bind (hput b 0 l0[i] p.args[i] c h0 h1 hq hpb hx) (fun y hy => ?_)
  obtain ⟨y1, y2, ⟨y3⟩⟩ := y
  obtain ⟨⟨e1, e2, e3⟩, hy⟩ := hy
  simp only at e1 e2 e3 ⊢
  refine Yields.ite (fun h5 => Yields.pure ?_) (fun h5 => ?_)
  ·have h5 : y2 ≠ 0 := by simpa using h5
   rw [qei h5] at hy
   refine ⟨⟨e1, e2, fun h => (h5 h).elim⟩, ?_⟩
   rw [qei h5]
   exact hprog2 _ (qd0 hy)
  have h5 : y2 = 0 := by simpa using h5
  subst h5
  rw [toP_ok] at hy
  refine Yields.need (by simp [Tm.encL_length]; omega) ?_
  refine Yields.need (by
   show decide ((0 : Int) ≤ 1 ∧ 1 ≤ ((Sm.encL (p.args.drop i)).length : Int) ∧ ((Sm.encL (p.args.drop i)).length : Int) ≤ ((Sm.encL (p.args.drop i)).length : Int)) = true
   rw [Sm.encL_length, List.length_drop]
   exact decide_eq_true (by omega)) ?_
  have hdr : (l0[i] :: l0.drop (i + 1)).drop ((1 : Int).toNat) = l0.drop (i + 1) := rfl
  have hpr : (p.args.drop i).drop ((1 : Int).toNat) = p.args.drop (i + 1) := by rw [hpd]; rfl
  have e0 : (⟨((⟨p.args.drop i, p.con⟩ : Sm).args).drop (1 : Int).toNat, (⟨p.args.drop i, p.con⟩ : Sm).con⟩ : Sm) = ⟨p.args.drop (i + 1), p.con⟩ := congrArg (fun l => (⟨l, p.con⟩ : Sm)) hpr
  rw [hdr, e0]
  refine Yields.bind (apply_b q hput l0 p hl0 hb0 m (i + 1) y1 y3 (by omega) (by omega) (by omega) (e3 rfl).2 (by omega) (e3 rfl).1) (fun r hr => Yields.pure ?_)
  obtain ⟨⟨g1, g2, g3⟩, hr⟩ := hr
  refine ⟨⟨by simp only; omega, g2, g3⟩, hprog2 _ (qdb hy ?_)⟩
  rw [wrapS (by omega)]
  exact hr
theorem put_b : ∀ (q : Nat), PutB q
 | 0 => fun t n s p c h0 h1 hq ht hs => by omega
 | q + 1 => fun t n s p c h0 h1 hq ht hs => by
  have hput := put_b q
  refine Yields.succ (fun k => R04_count_put.eq_2 ..) ?_
  have hlen := pr_len ht
  have htn := pr_n ht
  simp only [wrapc h0 (by omega)]
  refine Yields.ite (fun h2 => Yields.pure ⟨?_, ?_⟩) (fun h2 => ?_)
  ·have h2 : 20000 < c + 1 := by simpa using h2
   refine ⟨?_, ?_, fun h => by cases h⟩ <;> simp only <;> omega
  ·rw [qei (by decide)]
   refine Ev.succ (fun k => subst_work_subst.eq_2 ..) ?_
   simp only [wrapc h0 (show c ≤ 20001 by omega)]
   exact Ev.t h2 (Ev.pure _)
  have h2' := h2
  have h2 : c + 1 ≤ 20000 := by simpa using h2
  have loop : ∀ (m i : Nat) (o : Tm) (c' : Int), m = t.args.length - i → i ≤ t.args.length → o.args.length = i → (∀ x ∈ o.args, Pr x) → o.n = t.n → c + 1 ≤ c' → c' ≤ 20000 → Yields (fun k => R04_count_put_L1 k t n s p ⟨c'⟩ o (i : Int)) (fun r => okP c r ∧ Ev (fun k => subst_work_subst_L1 k t n s p ⟨c'⟩ o (i : Int)) (toP r)) := by
   intro m
   induction m with
   | zero =>
    intro i o c' hm hi ho hop hon hc1 hc2
    refine Yields.succ (fun k => R04_count_put_L1.eq_2 ..) ?_
    refine Yields.ite (fun hc => ?_) (fun hc => ?_)
    ·simp [Tm.encL_length] at hc; omega
    -- what the program does from here on
    have hprog : ∀ r, Ev (fun k => cond ((t.op == 4) && (t.hd == 1)) (cond (t.n == n) (bindP (subst_moved k s n) (fun v32 => bindP (subst_work_apply k v32 o.args p ⟨c'⟩) (fun v37 => bindP (subst_kept k v37.1) (fun v42 => some (.ok (v42, v37.2)))))) (cond (decide (t.n > n)) (bindP (subst_kept k (Tm.mk o.op o.hd (IntKind.i64.wrap (o.n - 1)) o.args)) (fun v48 => some (.ok (v48, ⟨c'⟩)))) (bindP (subst_kept k o) (fun v53 => some (.ok (v53, ⟨c'⟩)))))) (bindP (subst_kept k o) (fun v58 => some (.ok (v58, ⟨c'⟩))))) r → Ev (fun k => subst_work_subst_L1 k t n s p ⟨c'⟩ o (i : Int)) r := by
     intro r h
     refine Ev.succ (fun k => subst_work_subst_L1.eq_2 ..) ?_
     exact Ev.f hc h
    have hkeep : ∀ (x : Tm), Yields (fun k => (R04_whole k x).bind (fun v47 => some (v47.1, v47.2, (⟨c'⟩ : Ct)))) (fun r => okP c r ∧ Ev (fun k => bindP (subst_kept k x) (fun v58 => some (.ok (v58, (⟨c'⟩ : SWk))))) (toP r)) := by
     intro x
     cases hp : isProper x with
     | true =>
      refine Yields.bind (Ev.yields (qmk hp) (p := (· = (x, 0))) rfl) ?_
      rintro _ rfl
      refine Yields.pure ⟨⟨by simp only; omega, by simp only; omega, fun _ => ⟨hp, hc2⟩⟩, ?_⟩
      exact qdb (kept_ok hp) (Ev.pure _)
     | false =>
      refine Yields.bind (Ev.yields (qnu hp) (p := (· = (tm0, 5))) rfl) ?_
      rintro _ rfl
      refine Yields.pure ⟨⟨by simp only; omega, by simp only; omega, fun h => by cases h⟩, ?_⟩
      rw [qei (by decide)]
      exact qd0 (kept_pan hp)
    refine Yields.ite (fun h3 => ?_) (fun h3 => ?_)
    ·refine (hkeep o).mono ?_
     rintro r ⟨hr1, hr2⟩
     refine ⟨hr1, hprog _ ?_⟩
     refine Ev.ite (fun h4 => ?_) (fun _ => hr2)
     have h4 : t.op = 4 ∧ t.hd = 1 := by simpa using h4
     have h5 : t.n < n := by simpa [h4.1, h4.2] using h3
     refine Ev.f (by simp; omega) ?_
     exact Ev.f (by simp; omega) hr2
    have h3 : (t.op = 4 ∧ t.hd = 1) ∧ n ≤ t.n := by simpa using h3
    refine Yields.ite (fun h4 => ?_) (fun h4 => ?_)
    ·have h4 : t.n > n := by simpa using h4
     refine (hkeep _).mono ?_
     rintro r ⟨hr1, hr2⟩
     refine ⟨hr1, hprog _ ?_⟩
     refine Ev.t (by simp [h3.1]) ?_
     refine Ev.f (by simp; omega) ?_
     refine Ev.t (by simpa using h4) ?_
     rw [hon]; exact hr2
    have h4 : n = t.n := by
     have : ¬ t.n > n := by simpa using h4
     omega
    subst h4
    have hsh := qku s t.n 0
    have hmp := qib (f := 0) (b := t.n) hs (Int.le_refl _) (by omega) htn.2 (fun h => by omega)
    refine Yields.bind (Ev.yields (raised_ev hs t.n) (p := (· = movedF s t.n 0)) rfl) ?_
    rintro _ rfl
    have hnot : ¬ (isProper s = false ∨ t.n < -9999 ∨ t.n > 9999 ∨ (0 : Int) < 0 ∨ (0 : Int) > 9999) := by
     rintro (h | h)
     ·exact absurd (hs.symm.trans h) (by simp)
     ·omega
    cases hp : isProper (movedF s t.n 0) with
    | false =>
     refine Yields.bind (Ev.yields (qnu hp) (p := (· = (tm0, 5))) rfl) ?_
     rintro _ rfl
     refine Yields.ite (fun _ => Yields.pure ⟨?_, ?_⟩) (fun h => by cases h)
     ·refine ⟨?_, ?_, fun h => by cases h⟩ <;> simp only <;> omega
     rw [qei (by decide)]
     refine hprog _ (Ev.t (by simp [h3.1]) (Ev.t (by simp) (qd0 ?_)))
     refine Ev.succ (fun k => subst_moved.eq_2 ..) ?_
     refine hsh.bind ?_
     have e : shiftF s t.n 0 = (tm0, 5) := by
      unfold shiftF
      rw [if_neg hnot, if_neg (by omega), if_pos hp]
     rw [e]
     exact Ev.t rfl (Ev.pure _)
    | true =>
     refine Yields.bind (Ev.yields (qmk hp) (p := (· = (movedF s t.n 0, 0))) rfl) ?_
     rintro _ rfl
     refine Yields.ite (fun h => by cases h) (fun _ => ?_)
     have hap := apply_b q hput o.args p hop (by omega) o.args.length 0 (movedF s t.n 0) c' (by omega) (Nat.zero_le _) (by omega) hc2 (by omega) hp
     have ep : (⟨p.args, p.con⟩ : Sm) = p := by cases p; rfl
     simp only [List.drop_zero] at hap
     rw [ep] at hap
     refine Yields.bind hap (fun r hr => Yields.pure ?_)
     obtain ⟨r1, r2, ⟨r3⟩⟩ := r
     obtain ⟨⟨e1, e2, e3⟩, hr⟩ := hr
     simp only at e1 e2 e3 ⊢
     refine ⟨⟨by simp only; omega, e2, e3⟩, hprog _ (Ev.t (by simp [h3.1]) (Ev.t (by simp) (qdb (x := movedF s t.n 0) ?_ ?_)))⟩
     ·refine Ev.succ (fun k => subst_moved.eq_2 ..) ?_
      refine hsh.bind ?_
      have e : shiftF s t.n 0 = (movedF s t.n 0, 0) := by
       unfold shiftF
       rw [if_neg hnot, if_neg (by omega), if_neg (by rw [hp]; simp)]
      rw [e]
      exact Ev.f rfl (Ev.pure _)
     ·have hr2 : Ev (fun k => subst_work_apply k (movedF s t.n 0) o.args p ⟨c'⟩) (toP (r1, r2, ⟨r3⟩)) := Ev.succ (fun k => subst_work_apply.eq_2 ..) hr
      by_cases h5 : r2 = 0
      ·subst h5
       rw [toP_ok] at hr2 ⊢
       exact qdb hr2 (qdb (kept_ok (e3 rfl).1) (Ev.pure _))
      ·rw [qei h5] at hr2 ⊢
       exact qd0 hr2
   | succ m ih =>
    intro i o c' hm hi ho hop hon hc1 hc2
    obtain ⟨x, hx, hxm, _⟩ := qen (show i < t.args.length by omega)
    have hpx := qi8 ht hxm
    refine Yields.succ (fun k => R04_count_put_L1.eq_2 ..) ?_
    refine Yields.ite (fun hc => ?_) (fun hc => ?_)
    ·-- both ask for the same
     have hprog : ∀ (w : Int), IntKind.i64.wrap (n + under t.op (i : Int)) = w → ∀ r, Ev (fun k => bindP (subst_work_subst k x w s p ⟨c'⟩) (fun v22 => cond (decide ((Tm.encL (o.args ++ [v22.1])).length ≤ 1000000)) (subst_work_subst_L1 k t n s p v22.2 (Tm.mk o.op o.hd o.n (o.args ++ [v22.1])) (IntKind.i64.wrap ((i : Int) + 1))) none)) r → Ev (fun k => subst_work_subst_L1 k t n s p ⟨c'⟩ o (i : Int)) r := by
      intro w hw r h
      refine Ev.succ (fun k => subst_work_subst_L1.eq_2 ..) ?_
      refine Ev.t hc ?_
      refine Ev.some hx ?_
      refine (qgr t i).bind ?_
      rw [hw]
      exact h
     have hnext : ∀ (w : Int), IntKind.i64.wrap (n + under t.op (i : Int)) = w → ∀ (y : Tm × Int × Ct), okP c' y → Ev (fun k => subst_work_subst k x w s p ⟨c'⟩) (toP y) → Yields (fun k => cond (y.2.1 != 0) (some ((Tm.mk 0 0 0 ([])), y.2.1, y.2.2)) (cond (decide ((Tm.encL (o.args ++ [y.1])).length ≤ 1000000)) (R04_count_put_L1 k t n s p y.2.2 (Tm.mk o.op o.hd o.n (o.args ++ [y.1])) (IntKind.i64.wrap ((i : Int) + 1))) none)) (fun r => okP c r ∧ Ev (fun k => subst_work_subst_L1 k t n s p ⟨c'⟩ o (i : Int)) (toP r)) := by
      rintro w hw ⟨y1, y2, ⟨y3⟩⟩ ⟨e1, e2, e3⟩ hy
      simp only at e1 e2 e3 ⊢
      refine Yields.ite (fun h5 => Yields.pure ?_) (fun h5 => ?_)
      ·have h5 : y2 ≠ 0 := by simpa using h5
       refine ⟨⟨by simp only; omega, e2, fun h => (h5 h).elim⟩, ?_⟩
       rw [qei h5] at hy ⊢
       exact hprog w hw _ (qd0 hy)
      have h5 : y2 = 0 := by simpa using h5
      subst h5
      rw [toP_ok] at hy
      refine Yields.need (by simp [Tm.encL_length]; omega) ?_
      rw [wrapS (by omega)]
      refine (ih (i + 1) (Tm.mk o.op o.hd o.n (o.args ++ [y1])) y3 (by omega) (by omega) (by show (o.args ++ [y1]).length = i + 1; simp [ho]) ?_ hon (by omega) (e3 rfl).2).mono ?_
      ·intro z hz
       have hz : z ∈ o.args ++ [y1] := hz
       rw [List.mem_append, List.mem_singleton] at hz
       rcases hz with h | h
       ·exact hop z h
       ·subst h; exact (e3 rfl).1
      ·rintro r ⟨hr1, hr2⟩
       refine ⟨hr1, hprog w hw _ (qdb hy ?_)⟩
       refine Ev.need (by simp [Tm.encL_length]; omega) ?_
       rw [wrapS (by omega)]
       exact hr2
     refine Yields.ite (fun h1 => ?_) (fun h1 => ?_)
     ·have h1 : t.op = 3 ∨ t.op = 2 ∧ (i : Int) = 1 := by simpa using h1
      have hu : under t.op (i : Int) = 1 := by rw [under, if_pos h1]
      refine Yields.some hx ?_
      exact Yields.bind (hput x _ s p c' (by omega) hc2 (by omega) hpx hs) (fun y hy => hnext _ (by rw [hu]) y hy.1 hy.2)
     ·have h1 : ¬ (t.op = 3 ∨ t.op = 2 ∧ (i : Int) = 1) := by simpa using h1
      have hu : under t.op (i : Int) = 0 := by rw [under, if_neg h1]
      refine Yields.some hx ?_
      exact Yields.bind (hput x _ s p c' (by omega) hc2 (by omega) hpx hs) (fun y hy => hnext _ (by rw [hu]) y hy.1 hy.2)
    ·simp [Tm.encL_length] at hc; omega
  refine (loop _ 0 (Tm.mk t.op t.hd t.n []) (c + 1) rfl (Nat.zero_le _) rfl (by simp [Tm.args]) rfl (Int.le_refl _) h2).mono ?_
  rintro r ⟨hr1, hr2⟩
  refine ⟨hr1, ?_⟩
  refine Ev.succ (fun k => subst_work_subst.eq_2 ..) ?_
  simp only [wrapc h0 (show c ≤ 20001 by omega)]
  exact Ev.f h2' hr2
end

section
open Go.Tr Go Go.Proofs.Tryz
set_option maxRecDepth 10000
theorem findL {α : Type} (F : Nat → Int → Option Int) (f : Nat → α → Option Bool) (l : List α) (len : Int) (hlen : len = (l.length : Int)) (p : α → Bool)
  (hF : ∀ n i, F (n + 1) i = cond (decide (i < len)) ((idx l i).bind (fun x => (f n x).bind (fun b => cond b (some i) (F n (IntKind.i64.wrap (i + 1)))))) (some (-1)))
  (hf : ∀ x ∈ l, Ev (fun k => f k x) (p x)) (hb : l.length ≤ 1152921504606846976) :
  ∀ (m i : Nat), m = l.length - i → i ≤ l.length → Yields (fun k => F k (i : Int)) (fun r => decide (r ≥ 0) = (l.drop i).any p)
 | 0, i, hm, hi => by
  refine Yields.succ (fun k => hF ..) ?_
  refine Yields.ite (fun h => ?_) (fun _ => Yields.pure ?_)
  ·simp [hlen] at h; omega
  ·rw [List.drop_eq_nil_of_le (by omega)]; rfl
 | m + 1, i, hm, hi => by
  have hlt : i < l.length := by omega
  refine Yields.succ (fun k => hF ..) ?_
  refine Yields.ite (fun _ => ?_) (fun h => by simp [hlen] at h; omega)
  refine Yields.some (qz (List.getElem?_eq_getElem hlt)) ?_
  refine Yields.bind (Ev.is (hf _ (List.getElem_mem hlt))) ?_
  rintro _ rfl
  have hd : l.drop i = l[i] :: l.drop (i + 1) := List.drop_eq_getElem_cons hlt
  rw [hd, List.any_cons]
  refine Yields.ite (fun h => Yields.pure ?_) (fun h => ?_)
  ·rw [h]; simp
  ·rw [h, Bool.false_or, wrapS (by omega)]
   exact findL F f l len hlen p hF hf hb m (i + 1) (by omega) (by omega)
theorem ql0 : ∀ (t : Tm), sameF t t = true
 | .mk o h n us => by
  simp only [sameF, Tm.op, Tm.hd, Tm.n, Tm.args, beq_self_eq_true, Bool.true_and]
  exact sameL_refl us
where sameL_refl : ∀ (us : List Tm), sameL us us = true
 | [] => rfl
 | u :: us => by simp only [sameL, ql0 u, sameL_refl us, Bool.and_self]
theorem qno (l : List Tm) (hb : l.length ≤ 1152921504606846976) : Ev (fun k => R03_SameAll k l l) true := by
 refine Ev.succ (fun k => R03_SameAll.eq_2 ..) ?_
 refine Ev.f (by simp) ?_
 have loop : ∀ (m i : Nat), m = l.length - i → i ≤ l.length → Ev (fun k => R03_SameAll_L1 k l l (i : Int)) true := by
  intro m
  induction m with
  | zero =>
   intro i hm hi
   refine Ev.succ (fun k => R03_SameAll_L1.eq_2 ..) ?_
   exact Ev.f (by simp [Tm.encL_length]; omega) (Ev.pure _)
  | succ m ih =>
   intro i hm hi
   have hlt : i < l.length := by omega
   refine Ev.succ (fun k => R03_SameAll_L1.eq_2 ..) ?_
   refine Ev.t (by simp [Tm.encL_length]; omega) ?_
   refine Ev.some (qz (List.getElem?_eq_getElem hlt)) ?_
   refine Ev.some (qz (List.getElem?_eq_getElem hlt)) ?_
   refine Ev.f (by rw [ql0]; rfl) ?_
   rw [wrapS (by omega)]
   exact ih (i + 1) (by omega) (by omega)
 exact loop l.length 0 rfl (Nat.zero_le _)
theorem noteM_eq (o h n : Int) (us : List Tm) (k : Int) (l : List (Int × Value)) : noteStep metaOf l (.mk o h n us) k = if o = 4 ∧ h = 3 then putAt n (.bool true) l else l := by
 have hc : ((Tm.mk o h n us).op = 4 ∧ (metaOf (.mk o h n us) k).2 = true) ↔ (o = 4 ∧ h = 3) := by
  simp [metaOf, Tm.op, Tm.hd, Tm.n]
 rw [noteStep]
 by_cases h1 : o = 4 ∧ h = 3
 ·rw [if_pos h1, if_pos (hc.2 h1)]; rfl
 ·rw [if_neg h1, if_neg (fun h => h1 (hc.1 h))]
mutual
theorem qna (x : Int) : ∀ (t : Tm) (k : Int) (l : List (Int × Value)), (x ∈ (walkF (noteStep metaOf) t l k).map (·.1) ↔ x ∈ l.map (·.1) ∨ x ∈ occ 3 t k)
 | .mk o h n us, k, l => by
  simp only [walkF, occ, List.mem_append, occN]
  rw [qls x o us 0 k, noteM_eq]
  by_cases h1 : o = 4 ∧ h = 3
  ·rw [if_pos h1, if_pos h1, if_pos (by decide), qnx]
   simp only [List.mem_singleton]
   constructor
   ·rintro ((h | h) | h)
    ·exact .inr (.inl h)
    ·exact .inl h
    ·exact .inr (.inr h)
   ·rintro (h | h | h)
    ·exact .inl (.inr h)
    ·exact .inl (.inl h)
    ·exact .inr h
  ·rw [if_neg h1, if_neg h1]
   simp
theorem qls (x : Int) : ∀ (o : Int) (us : List Tm) (i : Nat) (k : Int) (l : List (Int × Value)), (x ∈ (walkL (noteStep metaOf) o us i l k).map (·.1) ↔ x ∈ l.map (·.1) ∨ x ∈ occL 3 o us i k)
 | o, [], i, k, l => by simp [walkL, occL]
 | o, u :: us, i, k, l => by
  simp only [walkL, occL, List.mem_append]
  rw [qls x o us (i + 1) k, qna x u, or_assoc]
 end
theorem metas_mem {t : Tm} (ht : Pr t) (x : Int) : x ∈ metasL t ↔ x ∈ occ 3 t 0 := by
 rw [metasL, if_pos ht, numsOf, sorted_mem, qna]
 simp
theorem empty_iff {l l' : List Int} (h : ∀ x, x ∈ l ↔ x ∈ l') : l.isEmpty = l'.isEmpty := by
 rw [Bool.eq_iff_iff, List.isEmpty_iff, List.isEmpty_iff]
 constructor
 ·intro e; subst e
  exact List.eq_nil_iff_forall_not_mem.2 fun x hx => by have := (h x).2 hx; cases this
 ·intro e; subst e
  exact List.eq_nil_iff_forall_not_mem.2 fun x hx => by have := (h x).1 hx; cases this
def wholeT (t : Tm) : Bool := isProper t && (occ 3 t 0).isEmpty
theorem qnj (l : List Int) : decide (((List.map (D.int .i64) l).length : Int) > 0) = !l.isEmpty := by
 rw [List.length_map]
 cases l with
 | nil => rfl
 | cons x l => simp
theorem good1_ev (t : Tm) : Ev (fun k => world_good_1 k t) (!wholeT t) := by
 refine Ev.succ (fun k => world_good_1.eq_2 ..) ?_
 refine (Ev.pure _).eq ?_
 rw [qnj, wholeT]
 cases hp : isProper t with
 | false =>
  have : freeE t = 2 := by rw [freeE, if_neg (by simp [hp])]
  rw [this]; rfl
 | true =>
  have : freeE t = 0 := by rw [freeE, if_pos hp]
  rw [this, empty_iff (metas_mem hp)]; rfl
theorem qki (l : List Tm) (hb : l.length ≤ 1152921504606846976) : Ev (fun k => slices_ContainsFunc_world_good_1 k l) (!l.all wholeT) := by
 refine Ev.succ (fun k => slices_ContainsFunc_world_good_1.eq_2 ..) ?_
 refine Yields.ev ?_
 refine Yields.bind (q := fun r => decide (r ≥ 0) = (l.drop 0).any (fun t => !wholeT t)) ?_ (fun r hr => Yields.pure ?_)
 ·refine Yields.succ (fun k => slices_IndexFunc_world_good_1.eq_2 ..) ?_
  exact findL (fun k i => slices_IndexFunc_world_good_1_L1 k l i) (fun k x => world_good_1 k x) l _ (by rw [Tm.encL_length]) _ (fun n i => slices_IndexFunc_world_good_1_L1.eq_2 ..) (fun x _ => good1_ev x) hb l.length 0 rfl (Nat.zero_le _)
 ·rw [hr, List.drop_zero]
  induction l with
  | nil => rfl
  | cons x l ih =>
   have := ih (by simp at hb; omega)
   simp only [List.any_cons, List.all_cons, Bool.not_and]
   congr 1
   simp only [List.drop_zero] at hr
   exact List.not_all_eq_any_not.symm
theorem qmv (l : List Tm) (hb : l.length ≤ 1152921504606846976) : Ev (fun k => R06_Proper k l) (l.all (fun t => isProper t)) := by
 refine Ev.succ (fun k => R06_Proper.eq_2 ..) ?_
 have loop : ∀ (m i : Nat), m = l.length - i → i ≤ l.length → Ev (fun k => R06_Proper_L1 k l (i : Int)) ((l.drop i).all (fun t => isProper t)) := by
  intro m
  induction m with
  | zero =>
   intro i hm hi
   refine Ev.succ (fun k => R06_Proper_L1.eq_2 ..) ?_
   rw [List.drop_eq_nil_of_le (by omega)]
   exact Ev.f (by simp [Tm.encL_length]; omega) (Ev.pure _)
  | succ m ih =>
   intro i hm hi
   have hlt : i < l.length := by omega
   refine Ev.succ (fun k => R06_Proper_L1.eq_2 ..) ?_
   refine Ev.t (by simp [Tm.encL_length]; omega) ?_
   refine Ev.some (qz (List.getElem?_eq_getElem hlt)) ?_
   have hd : l.drop i = l[i] :: l.drop (i + 1) := List.drop_eq_getElem_cons hlt
   rw [hd, List.all_cons, qap]
   cases hp : isProper l[i] with
   | false => exact Ev.t rfl (Ev.pure _)
   | true =>
    refine Ev.f rfl ?_
    rw [wrapS (by omega), Bool.true_and]
    exact ih (i + 1) (by omega) (by omega)
 exact loop l.length 0 rfl (Nat.zero_le _)
theorem qd9 (l : List Tm) (hb : l.length ≤ 1152921504606846976) : Ev (fun k => R16_Whole k l) (l.all wholeT) := by
 refine Ev.succ (fun k => R16_Whole.eq_2 ..) ?_
 refine (qmv l hb).bind ?_
 cases hp : l.all (fun t => isProper t) with
 | false =>
  refine Ev.t rfl ((Ev.pure _).eq ?_)
  rw [List.all_eq_false] at hp
  obtain ⟨x, hx, hp⟩ := hp
  symm
  rw [List.all_eq_false]
  exact ⟨x, hx, fun h => hp (by rw [wholeT, Bool.and_eq_true] at h; exact h.1)⟩
 | true =>
  refine Ev.f rfl ?_
  have hp := List.all_eq_true.1 hp
  have loop : ∀ (m i : Nat), m = l.length - i → i ≤ l.length → Ev (fun k => R16_Whole_L1 k l (i : Int)) ((l.drop i).all wholeT) := by
   intro m
   induction m with
   | zero =>
    intro i hm hi
    refine Ev.succ (fun k => R16_Whole_L1.eq_2 ..) ?_
    rw [List.drop_eq_nil_of_le (by omega)]
    exact Ev.f (by simp [Tm.encL_length]; omega) (Ev.pure _)
   | succ m ih =>
    intro i hm hi
    have hlt : i < l.length := by omega
    have hpx : Pr l[i] := hp _ (List.getElem_mem hlt)
    have hs := qs hpx
    refine Ev.succ (fun k => R16_Whole_L1.eq_2 ..) ?_
    refine Ev.t (by simp [Tm.encL_length]; omega) ?_
    refine Ev.some (qz (List.getElem?_eq_getElem hlt)) ?_
    refine (qka (by omega) (by omega)).bind ?_
    have hd : l.drop i = l[i] :: l.drop (i + 1) := List.drop_eq_getElem_cons hlt
    rw [hd, List.all_cons, qnj, ql3 3 _ hs.1 (by omega), wholeT, hpx, Bool.true_and]
    cases he : (occ 3 l[i] 0).isEmpty with
    | false => exact Ev.t rfl (Ev.pure _)
    | true =>
     refine Ev.f rfl ?_
     rw [wrapS (by omega), Bool.true_and]
     exact ih (i + 1) (by omega) (by omega)
  exact loop l.length 0 rfl (Nat.zero_le _)
mutual
theorem copy_evT : ∀ (t : Tm) (k : Int), 0 ≤ k → k + t.height ≤ 900000 → t.count ≤ 900000 → Ev (fun n => term_Map_term_Copy_1 n t k) t
 | .mk o h n us, k, hk0, hk1, hc => by
  refine Ev.succ (fun n => term_Map_term_Copy_1.eq_2 ..) ?_
  have hcu : 1 + qn us = (Tm.mk o h n us).count := by rw [qai]; simp only [Tm.args]; omega
  have hul := qv us
  have hk2 : k + 1 + qp us ≤ 900000 := by rw [Tm.height_eq] at hk1; simp only [Tm.args] at hk1; omega
  have h1 : Ev (fun q => term_Copy_1 q (.mk o h n []) k) (.mk o h n []) := Ev.succ (fun n => term_Copy_1.eq_2 ..) (Ev.pure _)
  simp only [Tm.op, Tm.hd, Tm.n]
  refine h1.bind ?_
  exact (copy_evL o h n us (by omega) us k [] 0 rfl hk0 hk2 (by omega) rfl (by simp)).eq (by simp)
theorem copy_evL (o h n : Int) (us : List Tm) (hus : us.length ≤ 900000) : ∀ (ts : List Tm) (k : Int) (acc : List Tm) (i : Nat), us.drop i = ts → 0 ≤ k → k + 1 + qp ts ≤ 900000 → qn ts ≤ 900000 → acc.length = i → i + ts.length = us.length →
  Ev (fun q => term_Map_term_Copy_1_L1 q (.mk o h n us) k (.mk o h n acc) (i : Int)) (.mk o h n (acc ++ ts))
 | [], k, acc, i, hd', hk0, hk1, hc, ha, hi => by
  refine Ev.succ (fun n => term_Map_term_Copy_1_L1.eq_2 ..) ?_
  simp only [List.length_nil, Nat.add_zero] at hi
  refine Ev.f (by simp [Tm.encL_length, Tm.args, hi]) ?_
  exact (Ev.pure _).eq (by simp)
 | u :: ts, k, acc, i, hd', hk0, hk1, hc, ha, hi => by
  refine Ev.succ (fun n => term_Map_term_Copy_1_L1.eq_2 ..) ?_
  simp only [List.length_cons] at hi
  have hu : us[i]? = some u := by
   have := congrArg (fun l => l[0]?) hd'
   simpa using this
  have hul := qb1 o i
  simp only [qp, qn] at hk1 hc
  refine Ev.t (by simp [Tm.encL_length, Tm.args]; omega) ?_
  refine Ev.some (qz hu) ?_
  refine (qgr _ _).bind ?_
  have hw : IntKind.i64.wrap (k + under o i) = k + under o i := wrap_i64 (by omega) (by omega)
  simp only [Tm.op, hw]
  refine (copy_evT u (k + under o i) (by omega) (by omega) (by omega)).bind ?_
  simp only [Tm.args, Tm.hd, Tm.n]
  refine Ev.need (by simp [Tm.encL_length]; omega) ?_
  rw [wrapS (show i < 2000000000000000000 by omega)]
  refine (copy_evL o h n us hus ts k _ (i + 1) (by rw [← List.drop_drop, hd']; rfl) (by omega) (by omega) (by omega) (by simp [ha]) (by omega)).eq ?_
  simp
 end
theorem copy_ev {t : Tm} (ht : Pr t) : Ev (fun n => term_Copy n t) t := by
 have hs := qs ht
 refine Ev.succ (fun n => term_Copy.eq_2 ..) ?_
 exact (copy_evT t 0 (by omega) (by omega) (by omega)).bind (Ev.pure _)
inductive SimR : Tm → Sm → Prop where
 | con {t : Tm} (h1 : t.op = 4) (h2 : t.hd = 2) : SimR t ⟨[], t.n⟩
 | pi {t a b : Tm} {x y : Sm} (h1 : t.op = 2) (h2 : t.args = [a, b]) (ha : SimR a x) (hb : SimR b y) : SimR t ⟨x :: y.args, y.con⟩
mutual
def smN : Sm → Nat
 | .mk args _ => 1 + smNL args
def smNL : List Sm → Nat
 | [] => 0
 | s :: r => smN s + smNL r
 end
mutual
def smC : Sm → Prop
 | .mk args c => (0 ≤ c ∧ c ≤ 9999) ∧ smCL args
def smCL : List Sm → Prop
 | [] => True
 | s :: r => smC s ∧ smCL r
 end
theorem qlp (s : Sm) : smN s = 1 + smNL s.args := by cases s; rfl
theorem smC_eq (s : Sm) : smC s ↔ (0 ≤ s.con ∧ s.con ≤ 9999) ∧ smCL s.args := by cases s; rfl
theorem smN_pos (s : Sm) : 0 < smN s := by rw [qlp]; omega
theorem qn7 {l : List Sm} {i : Nat} (h : i < l.length) : smNL (l.drop i) = smN l[i] + smNL (l.drop (i + 1)) := by
 rw [List.drop_eq_getElem_cons h]; rfl
theorem qgu : ∀ l : List Sm, l.length ≤ smNL l
 | [] => Nat.le_refl _
 | s :: r => by have := smN_pos s; have := qgu r; simp only [smNL, List.length_cons]; omega
theorem qm6 : ∀ {l : List Sm} {i : Nat} (h : i < l.length), smCL l → smC l[i]
 | s :: r, 0, _, hc => hc.1
 | s :: r, i + 1, h, hc => qm6 (l := r) (i := i) (by simpa using h) hc.2
theorem qhu (a : List Sm) (c : Int) : (Sm.mk a c).args = a := rfl
theorem SimR.sm {t : Tm} {s : Sm} (h : SimR t s) : Pr t → smN s ≤ t.count ∧ smC s := by
 induction h with
 | @con t h1 h2 =>
  intro ht
  have := pr_n ht
  exact ⟨by have := qah t; show 1 + 0 ≤ t.count; omega, ⟨this, trivial⟩⟩
 | @pi t a b x y h1 h2 ha hb iha ihb =>
  intro ht
  obtain ⟨a', b', e, hpa, hpb, hca, hcb, _, _⟩ := qfz ht h1
  rw [h2] at e
  obtain ⟨rfl, rfl⟩ : a = a' ∧ b = b' := by simpa using e
  have i1 := iha hpa
  have i2 := ihb hpb
  have hc : t.count = 1 + (a.count + b.count) := by
   rw [qai, h2]; simp only [qn]; omega
  have e1 := qlp y
  have e2 := (smC_eq y).1 i2.2
  refine ⟨?_, ⟨e2.1, i1.2, e2.2⟩⟩
  show 1 + (smN x + smNL y.args) ≤ t.count
  omega
theorem SimR.ref {t : Tm} {s : Sm} (h : SimR t s) : Pr t → Ev (fun k => R03_Simple k t) (s, true) := by
 induction h with
 | @con t h1 h2 =>
  intro ht
  refine Ev.succ (fun k => R03_Simple.eq_2 ..) ?_
  exact Ev.t (by simp [h1, h2]) (Ev.pure _)
 | @pi t a b x y h1 h2 ha hb iha ihb =>
  intro ht
  obtain ⟨a', b', e, hpa, hpb, hca, hcb, _, _⟩ := qfz ht h1
  rw [h2] at e
  obtain ⟨rfl, rfl⟩ : a = a' ∧ b = b' := by simpa using e
  have hy := hb.sm hpb
  have hl := qgu y.args
  have e1 := qlp y
  have hbc := (qs hpb).2.2
  refine Ev.succ (fun k => R03_Simple.eq_2 ..) ?_
  refine Ev.f (by simp [h1]) ?_
  refine Ev.t (by simp [h1]) ?_
  rw [h2]
  refine Ev.some qmb ?_
  refine (iha hpa).bind ?_
  refine Ev.some qm2 ?_
  refine (ihb hpb).bind ?_
  refine Ev.f rfl ?_
  refine Ev.need (by simp [Sm.encL_length, qhu]; omega) ?_
  exact Ev.pure _
theorem SimR.spl {t : Tm} {s : Sm} (h : SimR t s) : Pr t → ∀ (n : Nat) (l : List Tm), t.height ≤ n → ∃ ds g, spl n t l = (l ++ ds, g) ∧ g.op = 4 ∧ g.hd = 2 ∧ g.n = s.con ∧ ds.length = s.args.length ∧ ∀ i (h1 : i < ds.length) (h2 : i < s.args.length), SimR ds[i] s.args[i] ∧ Pr ds[i] ∧ ds[i].count < t.count := by
 induction h with
 | @con t h1 h2 =>
  intro ht n l hn
  refine ⟨[], t, ?_, h1, h2, rfl, rfl, fun i h => by simp at h⟩
  cases n with
  | zero => simp [Go.Proofs.YthkgcfplebgolaaGreat.spl]
  | succ n => simp [Go.Proofs.YthkgcfplebgolaaGreat.spl, h1]
 | @pi t a b x y h1 h2 ha hb iha ihb =>
  intro ht n l hn
  obtain ⟨a', b', e, hpa, hpb, hca, hcb, hha, hhb⟩ := qfz ht h1
  rw [h2] at e
  obtain ⟨rfl, rfl⟩ : a = a' ∧ b = b' := by simpa using e
  cases n with
  | zero => omega
  | succ n =>
   obtain ⟨ds, g, e1, e2, e3, e4, e5, e6⟩ := ihb hpb n (l ++ [a]) (by omega)
   refine ⟨a :: ds, g, ?_, e2, e3, e4, by show (a :: ds).length = (x :: y.args).length; simp [e5], ?_⟩
   ·simp only [Go.Proofs.YthkgcfplebgolaaGreat.spl, h1, h2]
    simpa using e1
   ·intro i q1 q2
    cases i with
    | zero => exact ⟨ha, hpa, hca⟩
    | succ i =>
     have q2 : i + 1 < (x :: y.args).length := q2
     have := e6 i (by simpa using q1) (by simpa using q2)
     exact ⟨this.1, this.2.1, Nat.lt_trans this.2.2 hcb⟩
theorem simP_ev : ∀ (q : Nat) (t : Tm) (s : Sm), t.count ≤ q → SimR t s → Pr t → Ev (fun k => term_simple k t) (s, 0)
 | 0, t, s, hq, _, _ => by have := qah t; omega
 | q + 1, t, s, hq, h, ht => by
  have hs := qs ht
  obtain ⟨ds, g, e1, e2, e3, e4, e5, e6⟩ := h.spl ht t.height [] (Nat.le_refl _)
  refine Ev.succ (fun k => term_simple.eq_2 ..) ?_
  refine (qd5 hs.1 (by omega)).bind ?_
  have e1 : split t = (ds, g) := e1
  rw [e1]
  refine Ev.f (by simp [e2, e3]) ?_
  have hsm := h.sm ht
  have hl := qgu s.args
  have hn := qlp s
  have loop : ∀ (m i : Nat), m = ds.length - i → i ≤ ds.length → Ev (fun k => term_simple_L1 k (ds, g) ⟨s.args.take i, g.n⟩ (i : Int)) (s, 0) := by
   intro m
   induction m with
   | zero =>
    intro i hm hi
    refine Ev.succ (fun k => term_simple_L1.eq_2 ..) ?_
    refine Ev.f (by simp [Tm.encL_length]; omega) ((Ev.pure _).eq ?_)
    rw [List.take_of_length_le (by omega), e4]
    cases s; rfl
   | succ m ih =>
    intro i hm hi
    have hlt : i < ds.length := by omega
    have h6 := e6 i hlt (by omega)
    refine Ev.succ (fun k => term_simple_L1.eq_2 ..) ?_
    refine Ev.t (by simp [Tm.encL_length]; omega) ?_
    refine Ev.some (qz (List.getElem?_eq_getElem hlt)) ?_
    refine (simP_ev q _ _ (by omega) h6.1 h6.2.1).bind ?_
    refine Ev.f rfl ?_
    have ht2 : s.args.take i ++ [s.args[i]] = s.args.take (i + 1) := List.take_append_getElem (by omega)
    refine Ev.need (by simp [Sm.encL_length, qhu]; omega) ?_
    show Ev (fun k => term_simple_L1 k (ds, g) ⟨s.args.take i ++ [s.args[i]], g.n⟩ (IntKind.i64.wrap ((i : Int) + 1))) (s, 0)
    rw [ht2, wrapS (by omega)]
    exact ih (i + 1) (by omega) (by omega)
  exact loop ds.length 0 rfl (Nat.zero_le _)
theorem SimR.prog {t : Tm} {s : Sm} (h : SimR t s) (ht : Pr t) : Ev (fun k => term_Simple k t) (s, 0) := by
 refine Ev.succ (fun k => term_Simple.eq_2 ..) ?_
 refine Ev.f (by rw [if_pos ht]; rfl) ?_
 exact (simP_ev t.count t s (Nat.le_refl _) h ht).bind (Ev.pure _)
end
end Go.Proofs.YthkgcfplebgolaaGreat
