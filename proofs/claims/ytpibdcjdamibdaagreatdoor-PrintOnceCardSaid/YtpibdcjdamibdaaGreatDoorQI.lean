/- Merged texts: EvC EvP EvQ EvR EvS EvT EvU EvV EvY. Plain law: what trussref05 says of a class; both forms of a signature. No program in sight. Plain law: the texts of raw expressions, by syntax and by trussref02. No program in sight. Plain law: names of variables, heads, and what print.Raw asks of its arguments. No program in sight. Plain law: occurrences, moved terms, and which nodes are in scope. No program in sight. Plain law: what is in scope, by print and by trussref07. No program in sight. Plain law: heads and raw expressions, by print and by trussref07. No program in sight. Plain law: raw expressions of terms, by print and by trussref07. No program in sight. Plain law: PrintTerms answers true. No program in sight. Plain law: PrintContexts answers true. No program in sight. -/
import Derived.Test.YtpibdcjdamibdaaGreatDoorQH
import Derived.KernelRfl
/-! EvC -/
section
namespace Go.Proofs.YtpibdcjdamibdaaGreatDoor
open Go.Tr Go
set_option linter.unusedVariables false
set_option linter.unusedSimpArgs false
set_option maxRecDepth 10000

theorem nb {b : Bool} (h : (!b) = true) : b = false := by cases b <;> simp_all
theorem nb' {b : Bool} (h : (!b) = false) : b = true := by cases b <;> simp_all

/-- The numbers that a kind of heads has. -/
def occN (hd o h n k : Int) : List Int := if o = 4 ∧ h = hd then (if hd ≠ 1 then [n] else if n ≥ k then [n - k] else []) else []
mutual
def occ (hd : Int) : Tm → Int → List Int
  | .mk o h n us, k => occN hd o h n k ++ occL hd o us 0 k
def occL (hd : Int) : Int → List Tm → Nat → Int → List Int
  | _, [], _, _ => []
  | o, u :: us, i, k => occ hd u (k + under o i) ++ occL hd o us (i + 1) k
 end

mutual
theorem headsF_mem (hd x : Int) : ∀ (t : Tm) (k : Int) (l : List Int), okAll t = true → 0 ≤ k → k + t.height ≤ 1000000 → (x ∈ headsF hd t k l ↔ x ∈ l ∨ x ∈ occ hd t k)
  | .mk o h n us, k, l, hok, hk0, hk1 => by
    have hn := okAll_n hok
    simp only [Tm.n] at hn
    simp only [okAll, Bool.and_eq_true] at hok
    rw [Tm.height_eq] at hk1
    simp only [Tm.args] at hk1
    simp only [headsF, occ, List.mem_append]
    rw [headsF_memL hd x o us 0 k _ hok.2 hk0 (by omega)]
    rw [← or_assoc]
    apply or_congr _ Iff.rfl
    unfold occN
    by_cases h1 : o = 4 ∧ h = hd
    · rw [if_pos h1, if_pos h1]
      by_cases h2 : hd ≠ 1
      · rw [if_pos h2, if_pos h2, mem_putF]; simp [or_comm]
      · rw [if_neg h2, if_neg h2]
        by_cases h3 : n ≥ k
        · rw [if_pos h3, if_pos h3, mem_putF, wrap_i64 (by omega) (by omega)]; simp [or_comm]
        · rw [if_neg h3, if_neg h3]; simp
    · rw [if_neg h1, if_neg h1]; simp
theorem headsF_memL (hd x : Int) : ∀ (o : Int) (us : List Tm) (i : Nat) (k : Int) (l : List Int), okAllL us = true → 0 ≤ k → k + 1 + Tm.heightL us ≤ 1000000 → (x ∈ headsL hd o us i k l ↔ x ∈ l ∨ x ∈ occL hd o us i k)
  | o, [], i, k, l, _, _, _ => by simp [headsL, occL]
  | o, u :: us, i, k, l, hok, hk0, hk1 => by
    simp only [okAllL, Bool.and_eq_true] at hok
    simp only [Tm.heightL] at hk1
    have hu := under_le o i
    simp only [headsL, occL, List.mem_append]
    rw [headsF_memL hd x o us (i + 1) k _ hok.2 hk0 (by omega), headsF_mem hd x u (k + under o i) l hok.1 (by omega) (by omega), or_assoc]
 end

mutual
theorem headsF_sorted (hd : Int) : ∀ (t : Tm) (k : Int) (l : List Int), l.Pairwise (· < ·) → (headsF hd t k l).Pairwise (· < ·)
  | .mk o h n us, k, l, hl => by
    simp only [headsF]
    refine headsF_sortedL hd o us 0 k _ ?_
    split
    · split
      · exact putF_sorted _ _ hl
      · split
        · exact putF_sorted _ _ hl
        · exact hl
    · exact hl
theorem headsF_sortedL (hd : Int) : ∀ (o : Int) (us : List Tm) (i : Nat) (k : Int) (l : List Int), l.Pairwise (· < ·) → (headsL hd o us i k l).Pairwise (· < ·)
  | o, [], i, k, l, hl => by simpa [headsL] using hl
  | o, u :: us, i, k, l, hl => by
    simp only [headsL]
    exact headsF_sortedL hd o us (i + 1) k _ (headsF_sorted hd u _ l hl)
 end


theorem headsF_nil (hd : Int) (t : Tm) (hok : okAll t = true) (hh : t.height ≤ 1000000) : (headsF hd t 0 []).isEmpty = (occ hd t 0).isEmpty := by
  rw [Bool.eq_iff_iff, List.isEmpty_iff, List.isEmpty_iff]
  have hm := fun x => headsF_mem hd x t 0 [] hok (by omega) (by omega)
  constructor
  · intro e
    apply List.eq_nil_iff_forall_not_mem.2
    intro x hx
    have := (hm x).2 (.inr hx)
    rw [e] at this; cases this
  · intro e
    apply List.eq_nil_iff_forall_not_mem.2
    intro x hx
    have := (hm x).1 hx
    rw [e] at this; simp at this

theorem heads_len (hd : Int) (t : Tm) (hok : okAll t = true) (hh : t.height ≤ 1000000) : (((List.map (D.int .i64) (headsF hd t 0 [])).length : Int) == 0) = (occ hd t 0).isEmpty := by
  rw [← headsF_nil hd t hok hh, List.length_map]
  cases headsF hd t 0 [] with
  | nil => rfl
  | cons a l => simp; omega

theorem sorted_last : ∀ (l : List Int), l.Pairwise (· < ·) → ∀ (y : Int), l[l.length - 1]? = some y → ∀ x ∈ l, x ≤ y
  | [], _, y, h, x, hx => by cases hx
  | [a], _, y, h, x, hx => by simp at h hx; omega
  | a :: b :: l, hp, y, h, x, hx => by
    rw [List.pairwise_cons] at hp
    have h' : (b :: l)[(b :: l).length - 1]? = some y := by simpa using h
    rcases List.mem_cons.1 hx with e | e
    · subst e
      have := hp.1 y (List.mem_of_getElem? h'); omega
    · exact sorted_last (b :: l) hp.2 y h' x e

theorem refFree_ev {t : Tm} (hh : t.height ≤ 1000000) (hc : t.count ≤ 1000000) : Ev (fun k => R03_Free k t) (headsF 1 t 0 []) := by
  refine Ev.succ (fun k => R03_Free.eq_2 ..) ?_
  exact Ev.need (by simp; omega) (Ev.pure _)
theorem refConstants_ev {t : Tm} (hh : t.height ≤ 1000000) (hc : t.count ≤ 1000000) : Ev (fun k => R03_Constants k t) (headsF 2 t 0 []) := by
  refine Ev.succ (fun k => R03_Constants.eq_2 ..) ?_
  exact Ev.need (by simp; omega) (Ev.pure _)
theorem refMetas_ev {t : Tm} (hh : t.height ≤ 1000000) (hc : t.count ≤ 1000000) : Ev (fun k => R03_Metas k t) (headsF 3 t 0 []) := by
  refine Ev.succ (fun k => R03_Metas.eq_2 ..) ?_
  exact Ev.need (by simp; omega) (Ev.pure _)

theorem heads_count (hd : Int) : ∀ (t : Tm) (k : Int) (l : List Int), (headsF hd t k l).length ≤ l.length + t.count := headsF_length hd

/-- A class proper, and small. -/
theorem proper_small {t : Tm} (h : isProper t = true) : okAll t = true ∧ t.height ≤ 40 ∧ t.count ≤ 600 := by
  have := (isProper_iff t).1 h
  exact ⟨this.1, this.2.2, this.2.1⟩

def kindAt (sig : List Dc) (n : Int) : Bool := match idx sig n with
  | some d => kindT d.cls
  | none => false

/-- A constant can stand behind others. -/
def declOK (pre : List Dc) (d : Dc) : Bool := ((isSmallF d.name && !(d.name.toList == tyB.toList)) && isProper d.cls && nodesB pre.length d.cls 0 && !pre.any (fun x => x.name.toList == d.name.toList)) &&
  ((((split d.cls).2.op == 1) || (((split d.cls).2.op == 4) && ((split d.cls).2.hd == 2) && kindAt pre (split d.cls).2.n)) && decide (0 ≤ d.implicit) && decide (d.implicit ≤ ((split d.cls).1.length : Int)))

def sigG : List Dc → List Dc → Bool
  | _, [] => true
  | pre, d :: r => declOK pre d && sigG (pre ++ [d]) r

theorem declOK_proper {pre : List Dc} {d : Dc} (h : declOK pre d = true) : isProper d.cls = true := by
  simp only [declOK, Bool.and_eq_true] at h
  exact h.1.1.1.2

/-- What the head of the rest of a class whose nodes are right is. -/
theorem spl_node (m : Nat) : ∀ (n : Nat) (t : Tm) (l : List Tm) (k : Int), okAll t = true → t.height ≤ n → nodesB m t k = true → (spl n t l).2.op = 4 → (spl n t l).2.hd = 2 → 0 ≤ (spl n t l).2.n ∧ (spl n t l).2.n < (m : Int)
  | 0, t, l, k, hok, hn, _, _, _ => by have := Tm.height_pos t; omega
  | n + 1, t, l, k, hok, hn, hb, h4, h2 => by
    simp only [spl] at h4 h2 ⊢
    by_cases h : t.op = 2
    · rw [if_pos h] at h4 h2 ⊢
      obtain ⟨a, b, e, _, hbo, _, hh, hc⟩ := okAll_two hok h
      simp only [e] at h4 h2 ⊢
      cases t with
      | mk o hd q us =>
        simp only [Tm.args] at e
        subst e
        simp only [nodesB, nodesBL, Bool.and_eq_true] at hb
        exact spl_node m n b _ _ hbo (by omega) hb.2.2.1 h4 h2
    · rw [if_neg h] at h4 h2 ⊢
      have hnn := okAll_n hok
      cases t with
      | mk o hd q us =>
        simp only [Tm.op, Tm.hd, Tm.n] at h4 h2 hnn ⊢
        subst h4 h2
        simp only [nodesB, nodeB, Bool.and_eq_true] at hb
        have := hb.1
        simp at this
        exact ⟨hnn.1, this⟩

theorem idx_pre {sig : List Dc} {n : Int} (h0 : 0 ≤ n) (h1 : n < (sig.length : Int)) : ∃ d, idx sig n = some d ∧ d ∈ sig := by
  obtain ⟨k, rfl⟩ : ∃ k : Nat, n = k := ⟨n.toNat, by omega⟩
  have : k < sig.length := by omega
  exact ⟨sig[k], by rw [idx_nat]; exact List.getElem?_eq_getElem this, List.getElem_mem this⟩

theorem signName_ev (s : ByteArray) : Ev (fun k => sign_name k s) (isSmallF s && !(s.toList == tyB.toList)) := by
  refine Ev.succ (fun k => sign_name.eq_2 ..) ?_
  exact Ev.pure _

def headOK (pre : List Dc) (d : Dc) : Bool := ((((split d.cls).2.op == 1) || (((split d.cls).2.op == 4) && ((split d.cls).2.hd == 2) && kindAt pre (split d.cls).2.n)) && decide (0 ≤ d.implicit) && decide (d.implicit ≤ ((split d.cls).1.length : Int)))

theorem split_facts {t : Tm} (h : isProper t = true) : (split t).2.op ≠ 2 ∧ okAll (split t).2 = true ∧ (split t).2.count ≤ 600 ∧ (split t).2.height ≤ 40 ∧ (split t).1.length ≤ 40 := by
  obtain ⟨hok, hh, hc⟩ := proper_small h
  have := spl_rest t.height t [] hok (Nat.le_refl _)
  have hp := Tm.height_pos (split t).2
  have e : split t = spl t.height t [] := rfl
  rw [← e] at this
  simp only [List.length_nil] at this
  refine ⟨this.1, this.2.1, by omega, by omega, by omega⟩

theorem declOK_eq (pre : List Dc) (d : Dc) : declOK pre d = (((isSmallF d.name && !(d.name.toList == tyB.toList)) && isProper d.cls && nodesB pre.length d.cls 0 && !pre.any (fun x => x.name.toList == d.name.toList)) && headOK pre d) := rfl

def sigOK (sig : List Dc) : Bool := decide (sig.length ≤ 100) && sigG [] sig

theorem signFormed_ev (pre : List Dc) (d : Dc) (hpre : ∀ x ∈ pre, isProper x.cls = true) (hlen : pre.length ≤ 1000) (hn : pre.any (fun x => x.name.toList == d.name.toList) = false) : Ev (fun k => sign_formed k pre d) (declOK pre d) := by
  refine Ev.succ (fun k => sign_formed.eq_2 ..) ?_
  rw [declOK_eq, hn]
  refine Ev.ite (fun h2 => ?_) (fun h2 => ?_)
  · have h2 : isProper d.cls = false := by
      cases h : isProper d.cls with
      | false => rfl
      | true => rw [h] at h2; simp at h2
    exact (Ev.pure false).eq (by rw [h2]; simp)
  have h2 : isProper d.cls = true := by
    cases h : isProper d.cls with
    | true => rfl
    | false => rw [h] at h2; simp at h2
  obtain ⟨hok, hh, hc⟩ := proper_small h2
  rw [h2]
  refine (signName_ev d.name).bind ?_
  generalize (isSmallF d.name && !(d.name.toList == tyB.toList)) = nm
  refine Ev.ite (fun h1 => ?_) (fun h1 => ?_)
  · refine (Ev.pure false).eq ?_
    rw [headOK]
    cases nm with
    | false => rfl
    | true =>
      have h1 : d.implicit < 0 := by simpa using h1
      have : decide (0 ≤ d.implicit) = false := by simp; omega
      rw [this]; simp
  have hnm : nm = true := by cases nm with | true => rfl | false => simp at h1
  subst hnm
  have himp : decide (0 ≤ d.implicit) = true := by simp at h1; simp; omega
  refine (domains_ev hok (by omega)).bind ?_
  refine (each_ev pre d.cls 0 _ (by omega) (by omega) (by omega)).bind ?_
  refine (kind_ev hok (by omega)).bind ?_
  obtain ⟨s1, s2, s3, s4, s5⟩ := split_facts h2
  have hnode := spl_node pre.length d.cls.height d.cls [] 0 hok (Nat.le_refl _)
  have e : spl d.cls.height d.cls [] = split d.cls := rfl
  rw [e] at hnode
  rw [headOK, himp, Tm.encL_length]
  refine Ev.ite (fun h3 => ?_) (fun h3 => ?_)
  · refine (Ev.pure _).eq ?_
    have h3 : ((split d.cls).2.op == 1) = true := h3
    rw [h3]
    simp [Bool.and_comm]
  have h3 : ((split d.cls).2.op == 1) = false := h3
  refine (target_ev hok (by omega)).bind ?_
  rw [h3]
  refine Ev.ite (fun h4 => ?_) (fun h4 => ?_)
  · simp only [Bool.and_eq_true] at h4
    obtain ⟨⟨h5, h6⟩, h7, h8⟩ := h4
    obtain ⟨n0, n1⟩ := hnode h6 (by simpa using h7) (by simpa using h8)
    obtain ⟨x, hx, hm⟩ := idx_pre n0 n1
    obtain ⟨xok, xh, _⟩ := proper_small (hpre x hm)
    refine Ev.some hx ?_
    refine (kind_ev xok (by omega)).bind ?_
    refine (Ev.pure _).eq ?_
    rw [kindAt, hx, h5, h6, h7, h8]; simp
  · refine (Ev.pure false).eq ?_
    revert h4
    generalize decide (d.implicit ≤ ((split d.cls).1.length : Int)) = b1
    generalize nodesB pre.length d.cls 0 = b2
    generalize ((split d.cls).2.op == 4) = b3
    generalize ((split d.cls).2.hd == 2) = b4
    cases b1 <;> cases b2 <;> cases b3 <;> cases b4 <;> simp

/-- The names that were put. -/
def namesOf (pre : List Dc) (m : List (ByteArray × Bool)) : Prop := ∀ s, (mget m s).getD false = pre.any (fun x => x.name.toList == s.toList)

theorem mget_mput {κ β : Type} [DecidableEq κ] (n : κ) (v : β) : ∀ (l : List (κ × β)) (x : κ), mget (mput n v l) x = if x = n then some v else mget l x
  | [], x => by simp only [mput, mget]
  | (k, u) :: r, x => by
    simp only [mput]
    split
    · rename_i h
      subst h
      simp only [mget]
      split <;> rfl
    · rename_i h
      simp only [mget, mget_mput n v r x]
      by_cases h1 : x = k
      · subst h1; rw [if_pos rfl, if_pos rfl, if_neg (fun e => h e.symm)]
      · rw [if_neg h1, if_neg h1]

theorem check_evL (sig : List Dc) (hlen : sig.length ≤ 100) : ∀ (post : List Dc) (i : Nat) (m : List (ByteArray × Bool)), sig.drop i = post → i + post.length = sig.length → (∀ x ∈ sig.take i, isProper x.cls = true) → namesOf (sig.take i) m → Ev (fun k => sign_Check_L1 k sig m (i : Int)) (if sigG (sig.take i) post then 0 else 2)
  | [], i, m, hd, hi, hpre, hm => by
    simp only [List.length_nil, Nat.add_zero] at hi
    refine Ev.succ (fun k => sign_Check_L1.eq_2 ..) ?_
    refine Ev.f (by simp [Dc.encL_length, hi]) ?_
    exact (Ev.pure _).eq (by simp [sigG])
  | d :: post, i, m, hd, hi, hpre, hm => by
    simp only [List.length_cons] at hi
    have hx : sig[i]? = some d := by
      have := congrArg (fun l => l[0]?) hd
      simpa using this
    have htk : sig.take (i + 1) = sig.take i ++ [d] := by
      rw [List.take_add_one, hx]; rfl
    refine Ev.succ (fun k => sign_Check_L1.eq_2 ..) ?_
    refine Ev.t (by simp [Dc.encL_length]; omega) ?_
    refine Ev.some (idx_get hx) ?_
    refine Ev.need (by simp [Dc.encL_length]; omega) ?_
    rw [hm d.name, sigG]
    refine Ev.ite (fun h1 => ?_) (fun h1 => ?_)
    · refine (Ev.pure _).eq ?_
      rw [declOK, h1]; simp
    rw [Int.toNat_natCast]
    refine (signFormed_ev (sig.take i) d hpre (by simp; omega) h1).bind ?_
    refine Ev.ite (fun h => ?_) (fun h => ?_)
    · have h : declOK (sig.take i) d = false := by simpa using h
      exact (Ev.pure _).eq (by rw [h]; rfl)
    · have h : declOK (sig.take i) d = true := by simpa using h
      rw [h, wrapS (by omega), Bool.true_and, ← htk]
      refine check_evL sig hlen post (i + 1) _ (by rw [← List.drop_drop, hd]; rfl) (by omega) ?_ ?_
      · intro x hx'
        rw [htk, List.mem_append, List.mem_singleton] at hx'
        rcases hx' with h1 | rfl
        · exact hpre x h1
        · exact declOK_proper h
      · intro s
        rw [mget_mput, htk, List.any_append, ← hm s]
        by_cases hs : s = d.name
        · subst hs; simp
        · rw [if_neg hs]
          have : (d.name.toList == s.toList) = false := by rw [strEq, decide_eq_false_iff_not]; exact fun e => hs e.symm
          simp [this]

theorem check_ev (sig : List Dc) : Ev (fun k => sign_Check k sig) (if sigOK sig then 0 else 2) := by
  refine Ev.succ (fun k => sign_Check.eq_2 ..) ?_
  refine Ev.ite (fun h => ?_) (fun h => ?_)
  · refine (Ev.pure _).eq ?_
    have h : 100 < sig.length := by simp [Dc.encL_length] at h; omega
    have : decide (sig.length ≤ 100) = false := by simp; omega
    rw [sigOK, this]; rfl
  · have h : sig.length ≤ 100 := by simp [Dc.encL_length] at h; omega
    refine (check_evL sig h sig 0 [] rfl (by simp) (by simp) (fun s => by simp [mget])).eq ?_
    have : decide (sig.length ≤ 100) = true := by simpa using h
    rw [sigOK, this]; rfl

theorem sigG_proper : ∀ (post pre : List Dc), sigG pre post = true → ∀ x ∈ post, isProper x.cls = true
  | [], _, _, x, hx => by cases hx
  | d :: post, pre, h, x, hx => by
    simp only [sigG, Bool.and_eq_true] at h
    rcases List.mem_cons.1 hx with e | e
    · subst e; exact declOK_proper h.1
    · exact sigG_proper post _ h.2 x e
theorem sigOK_proper {sig : List Dc} (h : sigOK sig = true) : sig.length ≤ 100 ∧ ∀ x ∈ sig, isProper x.cls = true := by
  simp only [sigOK, Bool.and_eq_true, decide_eq_true_eq] at h
  exact ⟨h.1, sigG_proper sig [] h.2⟩

end Go.Proofs.YtpibdcjdamibdaaGreatDoor
end

/-! EvP -/
section
namespace Go.Proofs.YtpibdcjdamibdaaGreatDoor
open Go.Tr Go
set_option linter.unusedVariables false
set_option linter.unusedSimpArgs false
set_option maxRecDepth 10000

theorem idxOf {α : Type} {l : List α} {i : Nat} (h : i < l.length) : ∃ x, idx l (i : Int) = some x ∧ x ∈ l ∧ l[i]? = some x :=
  ⟨l[i], by rw [idx_nat]; exact List.getElem?_eq_getElem h, List.getElem_mem h, List.getElem?_eq_getElem h⟩
theorem getDrop {α : Type} {l : List α} {i : Nat} {u : α} {ts : List α} (hd : l.drop i = u :: ts) : l[i]? = some u := by
  have := congrArg (fun l => l[0]?) hd
  simpa using this
theorem dropDrop {α : Type} {l : List α} {i : Nat} {u : α} {ts : List α} (hd : l.drop i = u :: ts) : l.drop (i + 1) = ts := by
  rw [← List.drop_drop, hd]; rfl

theorem index_y (l : List Int) (v : Int) (hl : l.length ≤ 1000000) : ∀ (ts : List Int) (i : Nat), l.drop i = ts → i + ts.length = l.length → Yields (fun n => slices_Index_L1 n l v (i : Int)) (fun r => decide (r ≥ 0) = ts.any (fun x => v == x))
  | [], i, hd, hi => by
    refine Yields.succ (fun k => slices_Index_L1.eq_2 ..) ?_
    simp only [List.length_nil, Nat.add_zero] at hi
    refine Yields.ite (fun h => by exfalso; simp [hi] at h) (fun _ => Yields.pure rfl)
  | x :: ts, i, hd, hi => by
    refine Yields.succ (fun k => slices_Index_L1.eq_2 ..) ?_
    simp only [List.length_cons] at hi
    refine Yields.ite (fun _ => ?_) (fun h => by exfalso; simp at h; omega)
    refine Yields.some (idx_get (getDrop hd)) ?_
    refine Yields.ite (fun h => ?_) (fun h => ?_)
    · refine Yields.pure ?_
      simp only [List.any_cons, h, Bool.true_or]
      simp
    · simp only [List.any_cons, h, Bool.false_or]
      rw [wrapS (by omega)]
      exact index_y l v hl ts (i + 1) (dropDrop hd) (by omega)

theorem contains_ev (l : List Int) (v : Int) (hl : l.length ≤ 1000000) : Ev (fun n => slices_Contains n l v) (l.any (fun x => v == x)) := by
  refine Yields.ev ?_
  refine Yields.succ (fun k => slices_Contains.eq_2 ..) ?_
  refine Yields.bind (q := fun r => decide (r ≥ 0) = l.any (fun x => v == x)) ?_ (fun r hr => Yields.pure hr)
  refine Yields.succ (fun k => slices_Index.eq_2 ..) ?_
  exact index_y l v hl l 0 rfl (by simp)

/-! raw expressions -/
theorem rw_ok {t : Rw} (h : okAll t.sk = true) : okRaw t.op t.name t.args.length = true ∧ okAllL (Rw.skL t.args) = true := by
  rw [Rw.sk_eq] at h
  simp only [okAll, sk_ok, Bool.and_eq_true] at h
  exact h
theorem rw_op {t : Rw} (h : okAll t.sk = true) : t.op = 1 ∨ t.op = 2 ∨ t.op = 3 ∨ t.op = 4 ∨ t.op = 5 ∨ t.op = 6 ∨ t.op = 7 := by
  have h1 := (rw_ok h).1
  simp only [okRaw, Bool.and_eq_true, rawOp, decide_eq_true_eq] at h1
  omega
theorem rw_pair {t : Rw} (h : okAll t.sk = true) (ho : t.op = 4 ∨ t.op = 5 ∨ t.op = 6 ∨ t.op = 7) : ∃ a b, t.args = [a, b] ∧ okAll a.sk = true ∧ okAll b.sk = true ∧ a.sk.count + b.sk.count + 1 = t.sk.count := by
  obtain ⟨h1, h2⟩ := rw_ok h
  have h3 : t.args.length = 2 := by
    simp only [okRaw, Bool.and_eq_true, rawArgs] at h1
    have := h1.1.1.2
    rw [if_pos (by omega)] at this
    simp at this
    omega
  cases t with
  | mk o s us =>
    simp only [Rw.args] at h2 h3 ⊢
    match us, h3 with
    | [a, b], _ =>
      simp only [Rw.skL, okAllL, Bool.and_eq_true] at h2
      refine ⟨a, b, rfl, h2.1, h2.2.1, ?_⟩
      have := Rw.sk_eq (.mk o s [a, b])
      rw [this]
      show a.sk.count + b.sk.count + 1 = Tm.count (.mk _ _ _ [a.sk, b.sk])
      simp only [Tm.count, Tm.countL]
      omega
theorem named_size {s : ByteArray} (h : namedF s = true) : s.size ≤ 16 := by
  have key : ∀ f, nameF f s = true → s.size ≤ 16 := by
    intro f hf
    unfold nameF at hf
    have hsz : s.size = s.data.toList.length := Array.length_toList.symm
    cases hl : s.data.toList with
    | nil => rw [hl] at hf; cases hf
    | cons c l =>
      rw [hl] at hf hsz
      simp only [Bool.and_eq_true, decide_eq_true_eq] at hf
      omega
  simp only [namedF, Bool.or_eq_true, Bool.and_eq_true] at h
  rcases h with h | h
  · exact key _ h
  · exact key _ h.1
theorem rw_name {t : Rw} (h : okAll t.sk = true) (ho : t.op = 2 ∨ t.op = 5 ∨ t.op = 7) : t.name.size ≤ 16 := by
  have h1 := (rw_ok h).1
  simp only [okRaw, Bool.and_eq_true, beq_iff_eq] at h1
  refine named_size ?_
  rw [← h1.1.2]
  simp only [rawHas]
  rcases ho with e | e | e <;> simp [e]

/-- A text, in parentheses or not. -/
def wr (b : Bool) (s : ByteArray) : ByteArray := if b = true then ((⟨#[40]⟩ : ByteArray) ++ s) ++ (⟨#[41]⟩ : ByteArray) else s
theorem wr_size (b : Bool) (s : ByteArray) : (wr b s).size ≤ s.size + 2 := by
  unfold wr
  split
  · simp only [ByteArray.size_append]
    have h1 : (⟨#[40]⟩ : ByteArray).size = 1 := rfl
    have h2 : (⟨#[41]⟩ : ByteArray).size = 1 := rfl
    omega
  · omega
theorem within_ev (s : ByteArray) (b : Bool) (h : s.size ≤ 900000) : Ev (fun n => R02_within n s b) (wr b s) := by
  refine Ev.succ (fun k => R02_within.eq_2 ..) ?_
  have h1 : (⟨#[40]⟩ : ByteArray).size = 1 := rfl
  have h2 : (⟨#[41]⟩ : ByteArray).size = 1 := rfl
  refine Ev.ite (fun hb => ?_) (fun hb => ?_)
  · refine Ev.need (by simp only [h1, decide_eq_true_eq]; omega) ?_
    refine Ev.need (by simp only [ByteArray.size_append, h1, h2, decide_eq_true_eq]; omega) ?_
    rw [wr, if_pos hb]; exact Ev.pure _
  · rw [wr, hb]; exact Ev.pure _
theorem wide_ev (t : Rw) : Ev (fun n => R02_wide n t) ((t.op == 6 || t.op == 5) || t.op == 7) := by
  refine Ev.succ (fun k => R02_wide.eq_2 ..) ?_
  exact Ev.pure _

/-- What is left of a text of syntax: parentheses around it, perhaps. -/
theorem tail_ev (ins : List Int) (v : Int) (s : ByteArray) (hi : ins.length ≤ 1000000) (h : s.size ≤ 900000) : Ev (fun n => (slices_Contains n ins v).bind (fun v6 => cond v6 (cond (decide ((⟨#[40]⟩ : ByteArray).size + s.size ≤ 1000000)) (cond (decide (((⟨#[40]⟩ : ByteArray) ++ s).size + (⟨#[41]⟩ : ByteArray).size ≤ 1000000)) (some ((((⟨#[40]⟩ : ByteArray) ++ s) ++ (⟨#[41]⟩ : ByteArray)))) none) none) (some s))) (wr (ins.any (fun x => v == x)) s) := by
  refine (contains_ev ins v hi).bind ?_
  have h1 : (⟨#[40]⟩ : ByteArray).size = 1 := rfl
  have h2 : (⟨#[41]⟩ : ByteArray).size = 1 := rfl
  refine Ev.ite (fun hb => ?_) (fun hb => ?_)
  · refine Ev.need (by simp only [h1, decide_eq_true_eq]; omega) ?_
    refine Ev.need (by simp only [ByteArray.size_append, h1, h2, decide_eq_true_eq]; omega) ?_
    rw [wr, if_pos hb]; exact Ev.pure _
  · rw [wr, hb]; exact Ev.pure _

theorem emptyL : (⟨#[]⟩ : ByteArray) = ByteArray.empty := rfl
set_option maxHeartbeats 1000000 in
/-- Both texts of a well formed raw expression are alike, and not too long. -/
theorem text_ev : ∀ (n : Nat) (t : Rw), okAll t.sk = true → t.sk.count ≤ n → n ≤ 1000 → ∃ T : ByteArray, Ev (fun k => R02_Text k t) T ∧ T.size ≤ 20 * n ∧ ∀ ins : List Int, ins.length ≤ 1000000 → Ev (fun k => syntax_text k t ins) (wr (ins.any (fun x => t.op == x)) T)
  | 0, t, hok, hn, _ => by have := Tm.count_pos t.sk; omega
  | n + 1, t, hok, hn, hb => by
    have s40 : (⟨#[40]⟩ : ByteArray).size = 1 := rfl
    have s41 : (⟨#[41]⟩ : ByteArray).size = 1 := rfl
    have s32 : (⟨#[32]⟩ : ByteArray).size = 1 := rfl
    have sar : (⟨#[32, 45, 62, 32]⟩ : ByteArray).size = 4 := rfl
    have s91 : (⟨#[91]⟩ : ByteArray).size = 1 := rfl
    have s93 : (⟨#[93]⟩ : ByteArray).size = 1 := rfl
    have s58 : (⟨#[58]⟩ : ByteArray).size = 1 := rfl
    have s123 : (⟨#[123]⟩ : ByteArray).size = 1 := rfl
    have s125 : (⟨#[125]⟩ : ByteArray).size = 1 := rfl
    have sb1 : (⟨#[125, 32]⟩ : ByteArray).size = 2 := rfl
    have sb2 : (⟨#[93, 32]⟩ : ByteArray).size = 2 := rfl
    have s0 : (⟨#[]⟩ : ByteArray).size = 0 := rfl
    have ng : ∀ {x y : Int}, t.op = x → x ≠ y → (t.op == y) = false := fun e h => by rw [e]; exact beqI' h
    rcases rw_op hok with ho | ho | ho | ho | ho | ho | ho
    · refine ⟨⟨#[116, 121, 112, 101]⟩, ?_, ?_, fun ins hi => ?_⟩
      · refine Ev.succ (fun k => R02_Text.eq_2 ..) ?_
        exact Ev.t (beqI ho) (Ev.pure _)
      · show 4 ≤ _; omega
      · refine Ev.succ (fun k => syntax_text.eq_2 ..) ?_
        refine Ev.t (beqI ho) ?_
        exact tail_ev ins t.op _ hi (by decide)
    · have hnm := rw_name hok (.inl ho)
      refine ⟨t.name, ?_, by omega, fun ins hi => ?_⟩
      · refine Ev.succ (fun k => R02_Text.eq_2 ..) ?_
        refine Ev.f (ng ho (by decide)) (Ev.t (beqI ho) (Ev.pure _))
      · refine Ev.succ (fun k => syntax_text.eq_2 ..) ?_
        refine Ev.f (ng ho (by decide)) (Ev.t (beqI ho) ?_)
        exact tail_ev ins t.op _ hi (by omega)
    · refine ⟨⟨#[95]⟩, ?_, ?_, fun ins hi => ?_⟩
      · refine Ev.succ (fun k => R02_Text.eq_2 ..) ?_
        refine Ev.f (ng ho (by decide)) (Ev.f (ng ho (by decide)) (Ev.t (beqI ho) (Ev.pure _)))
      · show 1 ≤ _; omega
      · refine Ev.succ (fun k => syntax_text.eq_2 ..) ?_
        refine Ev.f (ng ho (by decide)) (Ev.f (ng ho (by decide)) (Ev.t (beqI ho) ?_))
        exact tail_ev ins t.op _ hi (by decide)
    · obtain ⟨a, b, e, ha, hb2, hcnt⟩ := rw_pair hok (by omega)
      have hpa := Tm.count_pos a.sk; have hpb := Tm.count_pos b.sk
      obtain ⟨A, a1, a2, a3⟩ := text_ev a.sk.count a ha (Nat.le_refl _) (by omega)
      obtain ⟨B, b1, b2, b3⟩ := text_ev b.sk.count b hb2 (Nat.le_refl _) (by omega)
      have i0 : idx t.args 0 = some a := by rw [e]; rfl
      have i1 : idx t.args 1 = some b := by rw [e]; rfl
      have hA := wr_size ((a.op == 6 || a.op == 5) || a.op == 7) A
      have hB := wr_size (((b.op == 6 || b.op == 5) || b.op == 7) || b.op == 4) B
      have ea : [6, 5, 7].any (fun x => a.op == x) = ((a.op == 6 || a.op == 5) || a.op == 7) := by simp only [List.any_cons, List.any_nil, Bool.or_false, Bool.or_assoc]
      have eb : [4, 6, 5, 7].any (fun x => b.op == x) = (((b.op == 6 || b.op == 5) || b.op == 7) || b.op == 4) := by
        simp only [List.any_cons, List.any_nil, Bool.or_false]
        cases b.op == 4 <;> simp [Bool.or_assoc]
      refine ⟨(wr ((a.op == 6 || a.op == 5) || a.op == 7) A ++ (⟨#[32]⟩ : ByteArray)) ++ wr (((b.op == 6 || b.op == 5) || b.op == 7) || b.op == 4) B, ?_, by simp only [ByteArray.size_append, s40, s41, s32, sar, s91, s93, s58, s123, s125, sb1, sb2, s0, decide_eq_true_eq]; omega, fun ins hi => ?_⟩
      · refine Ev.succ (fun k => R02_Text.eq_2 ..) ?_
        refine Ev.f (ng ho (by decide)) (Ev.f (ng ho (by decide)) (Ev.f (ng ho (by decide)) (Ev.t (beqI ho) ?_)))
        refine Ev.some i0 (Ev.some i0 (Ev.some i1 (Ev.some i1 (a1.bind ((wide_ev a).bind ((within_ev A _ (by omega)).bind ?_))))))
        refine Ev.need (by simp only [ByteArray.size_append, s40, s41, s32, sar, s91, s93, s58, s123, s125, sb1, sb2, s0, decide_eq_true_eq]; omega) ?_
        refine b1.bind ((wide_ev b).bind ?_)
        refine Ev.ite (fun hw => ?_) (fun hw => ?_)
        · rw [hw, Bool.true_or] at hB ⊢
          refine (within_ev B _ (by omega)).bind ?_
          exact Ev.need (by simp only [ByteArray.size_append, s40, s41, s32, sar, s91, s93, s58, s123, s125, sb1, sb2, s0, decide_eq_true_eq]; omega) (Ev.pure _)
        · rw [hw, Bool.false_or] at hB ⊢
          refine Ev.some i1 ((within_ev B _ (by omega)).bind ?_)
          exact Ev.need (by simp only [ByteArray.size_append, s40, s41, s32, sar, s91, s93, s58, s123, s125, sb1, sb2, s0, decide_eq_true_eq]; omega) (Ev.pure _)
      · refine Ev.succ (fun k => syntax_text.eq_2 ..) ?_
        refine Ev.f (ng ho (by decide)) (Ev.f (ng ho (by decide)) (Ev.f (ng ho (by decide)) (Ev.t (beqI ho) ?_)))
        refine Ev.some i0 (Ev.some i1 ((a3 [6, 5, 7] (by simp)).bind ?_))
        rw [ea]
        refine Ev.need (by simp only [ByteArray.size_append, s40, s41, s32, sar, s91, s93, s58, s123, s125, sb1, sb2, s0, decide_eq_true_eq]; omega) ?_
        refine (b3 [4, 6, 5, 7] (by simp)).bind ?_
        rw [eb]
        refine Ev.need (by simp only [ByteArray.size_append, s40, s41, s32, sar, s91, s93, s58, s123, s125, sb1, sb2, s0, decide_eq_true_eq]; omega) ?_
        exact tail_ev ins t.op _ hi (by simp only [ByteArray.size_append, s40, s41, s32, sar, s91, s93, s58, s123, s125, sb1, sb2, s0]; omega)
    · obtain ⟨a, b, e, ha, hb2, hcnt⟩ := rw_pair hok (by omega)
      have hpa := Tm.count_pos a.sk; have hpb := Tm.count_pos b.sk
      have hnm := rw_name hok (by omega)
      obtain ⟨A, a1, a2, a3⟩ := text_ev a.sk.count a ha (Nat.le_refl _) (by omega)
      obtain ⟨B, b1, b2, b3⟩ := text_ev b.sk.count b hb2 (Nat.le_refl _) (by omega)
      have i0 : idx t.args 0 = some a := by rw [e]; rfl
      have i1 : idx t.args 1 = some b := by rw [e]; rfl
      have eb : (⟨#[125]⟩ : ByteArray) ++ (⟨#[32]⟩ : ByteArray) = ⟨#[125, 32]⟩ := rfl
      by_cases h3 : a.op = 3
      · refine ⟨((((⟨#[123]⟩ : ByteArray) ++ t.name) ++ (⟨#[]⟩ : ByteArray)) ++ (⟨#[125, 32]⟩ : ByteArray)) ++ B, ?_, by simp only [ByteArray.size_append, s40, s41, s32, sar, s91, s93, s58, s123, s125, sb1, sb2, s0, decide_eq_true_eq]; omega, fun ins hi => ?_⟩
        · refine Ev.succ (fun k => R02_Text.eq_2 ..) ?_
          refine Ev.f (ng ho (by decide)) (Ev.f (ng ho (by decide)) (Ev.f (ng ho (by decide)) (Ev.f (ng ho (by decide)) (Ev.f (ng ho (by decide)) ?_))))
          refine Ev.some i0 ?_
          refine Ev.f (bneI' h3) ?_
          refine Ev.t (beqI ho) ?_
          refine Ev.need (by simp only [ByteArray.size_append, s40, s41, s32, sar, s91, s93, s58, s123, s125, sb1, sb2, s0, decide_eq_true_eq]; omega) (Ev.need (by simp only [ByteArray.size_append, s40, s41, s32, sar, s91, s93, s58, s123, s125, sb1, sb2, s0, decide_eq_true_eq]; omega) (Ev.need (by simp only [ByteArray.size_append, s40, s41, s32, sar, s91, s93, s58, s123, s125, sb1, sb2, s0, decide_eq_true_eq]; omega) ?_))
          refine Ev.some i1 (b1.bind ?_)
          exact Ev.need (by simp only [ByteArray.size_append, s40, s41, s32, sar, s91, s93, s58, s123, s125, sb1, sb2, s0, decide_eq_true_eq]; omega) (Ev.pure _)
        · refine Ev.succ (fun k => syntax_text.eq_2 ..) ?_
          refine Ev.f (ng ho (by decide)) (Ev.f (ng ho (by decide)) (Ev.f (ng ho (by decide)) (Ev.f (ng ho (by decide)) (Ev.f (ng ho (by decide)) (Ev.f (ng ho (by decide)) ?_)))))
          refine Ev.need (by simp only [ByteArray.size_append, s40, s41, s32, sar, s91, s93, s58, s123, s125, sb1, sb2, s0, decide_eq_true_eq]; omega) ?_
          refine Ev.some i0 (Ev.f (bneI' h3) ?_)
          refine Ev.need (by simp only [ByteArray.size_append, s40, s41, s32, sar, s91, s93, s58, s123, s125, sb1, sb2, s0, decide_eq_true_eq]; omega) ?_
          refine Ev.some i1 ((b3 [] (by simp)).bind ?_)
          have hw : wr ([].any (fun x => b.op == x)) B = B := rfl
          rw [hw]
          refine Ev.need (by simp only [ByteArray.size_append, s40, s41, s32, sar, s91, s93, s58, s123, s125, sb1, sb2, s0, decide_eq_true_eq]; omega) (Ev.need (by simp only [ByteArray.size_append, s40, s41, s32, sar, s91, s93, s58, s123, s125, sb1, sb2, s0, decide_eq_true_eq]; omega) ?_)
          refine (tail_ev ins t.op _ hi (by simp only [ByteArray.size_append, s40, s41, s32, sar, s91, s93, s58, s123, s125, sb1, sb2, s0]; omega)).eq ?_
          congr 1
          rw [eb]
          simp only [ByteArray.append_assoc, ByteArray.append_empty, ByteArray.empty_append, emptyL]
      · refine ⟨((((⟨#[123]⟩ : ByteArray) ++ t.name) ++ ((⟨#[58]⟩ : ByteArray) ++ A)) ++ (⟨#[125, 32]⟩ : ByteArray)) ++ B, ?_, by simp only [ByteArray.size_append, s40, s41, s32, sar, s91, s93, s58, s123, s125, sb1, sb2, s0, decide_eq_true_eq]; omega, fun ins hi => ?_⟩
        · refine Ev.succ (fun k => R02_Text.eq_2 ..) ?_
          refine Ev.f (ng ho (by decide)) (Ev.f (ng ho (by decide)) (Ev.f (ng ho (by decide)) (Ev.f (ng ho (by decide)) (Ev.f (ng ho (by decide)) ?_))))
          refine Ev.some i0 ?_
          refine Ev.t (bneI h3) ?_
          refine Ev.some i0 (a1.bind ?_)
          refine Ev.need (by simp only [ByteArray.size_append, s40, s41, s32, sar, s91, s93, s58, s123, s125, sb1, sb2, s0, decide_eq_true_eq]; omega) ?_
          refine Ev.t (beqI ho) ?_
          refine Ev.need (by simp only [ByteArray.size_append, s40, s41, s32, sar, s91, s93, s58, s123, s125, sb1, sb2, s0, decide_eq_true_eq]; omega) (Ev.need (by simp only [ByteArray.size_append, s40, s41, s32, sar, s91, s93, s58, s123, s125, sb1, sb2, s0, decide_eq_true_eq]; omega) (Ev.need (by simp only [ByteArray.size_append, s40, s41, s32, sar, s91, s93, s58, s123, s125, sb1, sb2, s0, decide_eq_true_eq]; omega) ?_))
          refine Ev.some i1 (b1.bind ?_)
          exact Ev.need (by simp only [ByteArray.size_append, s40, s41, s32, sar, s91, s93, s58, s123, s125, sb1, sb2, s0, decide_eq_true_eq]; omega) (Ev.pure _)
        · refine Ev.succ (fun k => syntax_text.eq_2 ..) ?_
          refine Ev.f (ng ho (by decide)) (Ev.f (ng ho (by decide)) (Ev.f (ng ho (by decide)) (Ev.f (ng ho (by decide)) (Ev.f (ng ho (by decide)) (Ev.f (ng ho (by decide)) ?_)))))
          refine Ev.need (by simp only [ByteArray.size_append, s40, s41, s32, sar, s91, s93, s58, s123, s125, sb1, sb2, s0, decide_eq_true_eq]; omega) ?_
          refine Ev.some i0 (Ev.t (bneI h3) ?_)
          refine Ev.some i0 ((a3 [] (by simp)).bind ?_)
          have hwa : wr ([].any (fun x => a.op == x)) A = A := rfl
          rw [hwa]
          refine Ev.need (by simp only [ByteArray.size_append, s40, s41, s32, sar, s91, s93, s58, s123, s125, sb1, sb2, s0, decide_eq_true_eq]; omega) (Ev.need (by simp only [ByteArray.size_append, s40, s41, s32, sar, s91, s93, s58, s123, s125, sb1, sb2, s0, decide_eq_true_eq]; omega) (Ev.need (by simp only [ByteArray.size_append, s40, s41, s32, sar, s91, s93, s58, s123, s125, sb1, sb2, s0, decide_eq_true_eq]; omega) ?_))
          refine Ev.some i1 ((b3 [] (by simp)).bind ?_)
          have hw : wr ([].any (fun x => b.op == x)) B = B := rfl
          rw [hw]
          refine Ev.need (by simp only [ByteArray.size_append, s40, s41, s32, sar, s91, s93, s58, s123, s125, sb1, sb2, s0, decide_eq_true_eq]; omega) (Ev.need (by simp only [ByteArray.size_append, s40, s41, s32, sar, s91, s93, s58, s123, s125, sb1, sb2, s0, decide_eq_true_eq]; omega) ?_)
          refine (tail_ev ins t.op _ hi (by simp only [ByteArray.size_append, s40, s41, s32, sar, s91, s93, s58, s123, s125, sb1, sb2, s0]; omega)).eq ?_
          congr 1
          rw [eb]
          simp only [ByteArray.append_assoc]
    · obtain ⟨a, b, e, ha, hb2, hcnt⟩ := rw_pair hok (by omega)
      have hpa := Tm.count_pos a.sk; have hpb := Tm.count_pos b.sk
      obtain ⟨A, a1, a2, a3⟩ := text_ev a.sk.count a ha (Nat.le_refl _) (by omega)
      obtain ⟨B, b1, b2, b3⟩ := text_ev b.sk.count b hb2 (Nat.le_refl _) (by omega)
      have i0 : idx t.args 0 = some a := by rw [e]; rfl
      have i1 : idx t.args 1 = some b := by rw [e]; rfl
      have hA := wr_size ((a.op == 6 || a.op == 5) || a.op == 7) A
      have ea : [6, 5, 7].any (fun x => a.op == x) = ((a.op == 6 || a.op == 5) || a.op == 7) := by simp only [List.any_cons, List.any_nil, Bool.or_false, Bool.or_assoc]
      refine ⟨(wr ((a.op == 6 || a.op == 5) || a.op == 7) A ++ (⟨#[32, 45, 62, 32]⟩ : ByteArray)) ++ B, ?_, by simp only [ByteArray.size_append, s40, s41, s32, sar, s91, s93, s58, s123, s125, sb1, sb2, s0, decide_eq_true_eq]; omega, fun ins hi => ?_⟩
      · refine Ev.succ (fun k => R02_Text.eq_2 ..) ?_
        refine Ev.f (ng ho (by decide)) (Ev.f (ng ho (by decide)) (Ev.f (ng ho (by decide)) (Ev.f (ng ho (by decide)) (Ev.t (beqI ho) ?_))))
        refine Ev.some i0 (Ev.some i0 (Ev.some i1 (a1.bind ((wide_ev a).bind ((within_ev A _ (by omega)).bind ?_)))))
        refine Ev.need (by simp only [ByteArray.size_append, s40, s41, s32, sar, s91, s93, s58, s123, s125, sb1, sb2, s0, decide_eq_true_eq]; omega) ?_
        refine b1.bind ?_
        exact Ev.need (by simp only [ByteArray.size_append, s40, s41, s32, sar, s91, s93, s58, s123, s125, sb1, sb2, s0, decide_eq_true_eq]; omega) (Ev.pure _)
      · refine Ev.succ (fun k => syntax_text.eq_2 ..) ?_
        refine Ev.f (ng ho (by decide)) (Ev.f (ng ho (by decide)) (Ev.f (ng ho (by decide)) (Ev.f (ng ho (by decide)) (Ev.t (beqI ho) ?_))))
        refine Ev.some i0 (Ev.some i1 ((a3 [6, 5, 7] (by simp)).bind ?_))
        rw [ea]
        refine Ev.need (by simp only [ByteArray.size_append, s40, s41, s32, sar, s91, s93, s58, s123, s125, sb1, sb2, s0, decide_eq_true_eq]; omega) ?_
        refine (b3 [] (by simp)).bind ?_
        have hw : wr ([].any (fun x => b.op == x)) B = B := rfl
        rw [hw]
        refine Ev.need (by simp only [ByteArray.size_append, s40, s41, s32, sar, s91, s93, s58, s123, s125, sb1, sb2, s0, decide_eq_true_eq]; omega) ?_
        exact tail_ev ins t.op _ hi (by simp only [ByteArray.size_append, s40, s41, s32, sar, s91, s93, s58, s123, s125, sb1, sb2, s0]; omega)
    · obtain ⟨a, b, e, ha, hb2, hcnt⟩ := rw_pair hok (by omega)
      have hpa := Tm.count_pos a.sk; have hpb := Tm.count_pos b.sk
      have hnm := rw_name hok (by omega)
      obtain ⟨A, a1, a2, a3⟩ := text_ev a.sk.count a ha (Nat.le_refl _) (by omega)
      obtain ⟨B, b1, b2, b3⟩ := text_ev b.sk.count b hb2 (Nat.le_refl _) (by omega)
      have i0 : idx t.args 0 = some a := by rw [e]; rfl
      have i1 : idx t.args 1 = some b := by rw [e]; rfl
      have eb : (⟨#[93]⟩ : ByteArray) ++ (⟨#[32]⟩ : ByteArray) = ⟨#[93, 32]⟩ := rfl
      by_cases h3 : a.op = 3
      · refine ⟨((((⟨#[91]⟩ : ByteArray) ++ t.name) ++ (⟨#[]⟩ : ByteArray)) ++ (⟨#[93, 32]⟩ : ByteArray)) ++ B, ?_, by simp only [ByteArray.size_append, s40, s41, s32, sar, s91, s93, s58, s123, s125, sb1, sb2, s0, decide_eq_true_eq]; omega, fun ins hi => ?_⟩
        · refine Ev.succ (fun k => R02_Text.eq_2 ..) ?_
          refine Ev.f (ng ho (by decide)) (Ev.f (ng ho (by decide)) (Ev.f (ng ho (by decide)) (Ev.f (ng ho (by decide)) (Ev.f (ng ho (by decide)) ?_))))
          refine Ev.some i0 ?_
          refine Ev.f (bneI' h3) ?_
          refine Ev.f (ng ho (by decide)) ?_
          refine Ev.need (by simp only [ByteArray.size_append, s40, s41, s32, sar, s91, s93, s58, s123, s125, sb1, sb2, s0, decide_eq_true_eq]; omega) (Ev.need (by simp only [ByteArray.size_append, s40, s41, s32, sar, s91, s93, s58, s123, s125, sb1, sb2, s0, decide_eq_true_eq]; omega) (Ev.need (by simp only [ByteArray.size_append, s40, s41, s32, sar, s91, s93, s58, s123, s125, sb1, sb2, s0, decide_eq_true_eq]; omega) ?_))
          refine Ev.some i1 (b1.bind ?_)
          exact Ev.need (by simp only [ByteArray.size_append, s40, s41, s32, sar, s91, s93, s58, s123, s125, sb1, sb2, s0, decide_eq_true_eq]; omega) (Ev.pure _)
        · refine Ev.succ (fun k => syntax_text.eq_2 ..) ?_
          refine Ev.f (ng ho (by decide)) (Ev.f (ng ho (by decide)) (Ev.f (ng ho (by decide)) (Ev.f (ng ho (by decide)) (Ev.f (ng ho (by decide)) (Ev.t (beqI ho) ?_)))))
          refine Ev.need (by simp only [ByteArray.size_append, s40, s41, s32, sar, s91, s93, s58, s123, s125, sb1, sb2, s0, decide_eq_true_eq]; omega) ?_
          refine Ev.some i0 (Ev.f (bneI' h3) ?_)
          refine Ev.need (by simp only [ByteArray.size_append, s40, s41, s32, sar, s91, s93, s58, s123, s125, sb1, sb2, s0, decide_eq_true_eq]; omega) ?_
          refine Ev.some i1 ((b3 [] (by simp)).bind ?_)
          have hw : wr ([].any (fun x => b.op == x)) B = B := rfl
          rw [hw]
          refine Ev.need (by simp only [ByteArray.size_append, s40, s41, s32, sar, s91, s93, s58, s123, s125, sb1, sb2, s0, decide_eq_true_eq]; omega) (Ev.need (by simp only [ByteArray.size_append, s40, s41, s32, sar, s91, s93, s58, s123, s125, sb1, sb2, s0, decide_eq_true_eq]; omega) ?_)
          refine (tail_ev ins t.op _ hi (by simp only [ByteArray.size_append, s40, s41, s32, sar, s91, s93, s58, s123, s125, sb1, sb2, s0]; omega)).eq ?_
          congr 1
          rw [eb]
          simp only [ByteArray.append_assoc, ByteArray.append_empty, ByteArray.empty_append, emptyL]
      · refine ⟨((((⟨#[91]⟩ : ByteArray) ++ t.name) ++ ((⟨#[58]⟩ : ByteArray) ++ A)) ++ (⟨#[93, 32]⟩ : ByteArray)) ++ B, ?_, by simp only [ByteArray.size_append, s40, s41, s32, sar, s91, s93, s58, s123, s125, sb1, sb2, s0, decide_eq_true_eq]; omega, fun ins hi => ?_⟩
        · refine Ev.succ (fun k => R02_Text.eq_2 ..) ?_
          refine Ev.f (ng ho (by decide)) (Ev.f (ng ho (by decide)) (Ev.f (ng ho (by decide)) (Ev.f (ng ho (by decide)) (Ev.f (ng ho (by decide)) ?_))))
          refine Ev.some i0 ?_
          refine Ev.t (bneI h3) ?_
          refine Ev.some i0 (a1.bind ?_)
          refine Ev.need (by simp only [ByteArray.size_append, s40, s41, s32, sar, s91, s93, s58, s123, s125, sb1, sb2, s0, decide_eq_true_eq]; omega) ?_
          refine Ev.f (ng ho (by decide)) ?_
          refine Ev.need (by simp only [ByteArray.size_append, s40, s41, s32, sar, s91, s93, s58, s123, s125, sb1, sb2, s0, decide_eq_true_eq]; omega) (Ev.need (by simp only [ByteArray.size_append, s40, s41, s32, sar, s91, s93, s58, s123, s125, sb1, sb2, s0, decide_eq_true_eq]; omega) (Ev.need (by simp only [ByteArray.size_append, s40, s41, s32, sar, s91, s93, s58, s123, s125, sb1, sb2, s0, decide_eq_true_eq]; omega) ?_))
          refine Ev.some i1 (b1.bind ?_)
          exact Ev.need (by simp only [ByteArray.size_append, s40, s41, s32, sar, s91, s93, s58, s123, s125, sb1, sb2, s0, decide_eq_true_eq]; omega) (Ev.pure _)
        · refine Ev.succ (fun k => syntax_text.eq_2 ..) ?_
          refine Ev.f (ng ho (by decide)) (Ev.f (ng ho (by decide)) (Ev.f (ng ho (by decide)) (Ev.f (ng ho (by decide)) (Ev.f (ng ho (by decide)) (Ev.t (beqI ho) ?_)))))
          refine Ev.need (by simp only [ByteArray.size_append, s40, s41, s32, sar, s91, s93, s58, s123, s125, sb1, sb2, s0, decide_eq_true_eq]; omega) ?_
          refine Ev.some i0 (Ev.t (bneI h3) ?_)
          refine Ev.some i0 ((a3 [] (by simp)).bind ?_)
          have hwa : wr ([].any (fun x => a.op == x)) A = A := rfl
          rw [hwa]
          refine Ev.need (by simp only [ByteArray.size_append, s40, s41, s32, sar, s91, s93, s58, s123, s125, sb1, sb2, s0, decide_eq_true_eq]; omega) (Ev.need (by simp only [ByteArray.size_append, s40, s41, s32, sar, s91, s93, s58, s123, s125, sb1, sb2, s0, decide_eq_true_eq]; omega) (Ev.need (by simp only [ByteArray.size_append, s40, s41, s32, sar, s91, s93, s58, s123, s125, sb1, sb2, s0, decide_eq_true_eq]; omega) ?_))
          refine Ev.some i1 ((b3 [] (by simp)).bind ?_)
          have hw : wr ([].any (fun x => b.op == x)) B = B := rfl
          rw [hw]
          refine Ev.need (by simp only [ByteArray.size_append, s40, s41, s32, sar, s91, s93, s58, s123, s125, sb1, sb2, s0, decide_eq_true_eq]; omega) (Ev.need (by simp only [ByteArray.size_append, s40, s41, s32, sar, s91, s93, s58, s123, s125, sb1, sb2, s0, decide_eq_true_eq]; omega) ?_)
          refine (tail_ev ins t.op _ hi (by simp only [ByteArray.size_append, s40, s41, s32, sar, s91, s93, s58, s123, s125, sb1, sb2, s0]; omega)).eq ?_
          congr 1
          rw [eb]
          simp only [ByteArray.append_assoc]
termination_by n => n
decreasing_by all_goals omega
end Go.Proofs.YtpibdcjdamibdaaGreatDoor
end

/-! EvQ -/
section
namespace Go.Proofs.YtpibdcjdamibdaaGreatDoor
open Go.Tr Go
set_option linter.unusedVariables false
set_option linter.unusedSimpArgs false
set_option maxRecDepth 10000

/-! a name in a signature -/
def fnd (s : ByteArray) : List Dc → Nat → Int
  | [], _ => -1
  | d :: l, i => if d.name.toList == s.toList then (i : Int) else fnd s l (i + 1)
theorem refFind_evL (sig : List Dc) (s : ByteArray) (hl : sig.length ≤ 1000) : ∀ (ts : List Dc) (i : Nat), sig.drop i = ts → i + ts.length = sig.length → Ev (fun k => R05_Find_L1 k sig s (i : Int)) (fnd s ts i)
  | [], i, hd, hi => by
    refine Ev.succ (fun k => R05_Find_L1.eq_2 ..) ?_
    simp only [List.length_nil, Nat.add_zero] at hi
    exact Ev.f (by simp [Dc.encL_length, hi]) (Ev.pure _)
  | d :: ts, i, hd, hi => by
    refine Ev.succ (fun k => R05_Find_L1.eq_2 ..) ?_
    simp only [List.length_cons] at hi
    refine Ev.t (by simp [Dc.encL_length]; omega) ?_
    refine Ev.some (idx_get (getDrop hd)) ?_
    simp only [fnd]
    refine Ev.ite (fun h => ?_) (fun h => ?_)
    · rw [if_pos h]; exact Ev.pure _
    · rw [if_neg (by rw [h]; simp), wrapS (by omega)]
      exact refFind_evL sig s hl ts (i + 1) (dropDrop hd) (by omega)

theorem find_evL (sig : List Dc) (s : ByteArray) (hl : sig.length ≤ 1000) : ∀ (ts : List Dc) (i : Nat), sig.drop i = ts → i + ts.length = sig.length → Ev (fun k => sign_Find_L1 k sig s (i : Int)) (cond (decide (fnd s ts i < 0)) (0, 6) (fnd s ts i, 0))
  | [], i, hd, hi => by
    refine Ev.succ (fun k => sign_Find_L1.eq_2 ..) ?_
    simp only [List.length_nil, Nat.add_zero] at hi
    exact Ev.f (by simp [Dc.encL_length, hi]) (Ev.pure _)
  | d :: ts, i, hd, hi => by
    refine Ev.succ (fun k => sign_Find_L1.eq_2 ..) ?_
    simp only [List.length_cons] at hi
    refine Ev.t (by simp [Dc.encL_length]; omega) ?_
    refine Ev.some (idx_get (getDrop hd)) ?_
    refine Ev.ite (fun h => ?_) (fun h => ?_)
    · have e : fnd s (d :: ts) i = i := by simp only [fnd]; rw [if_pos h]
      have : decide ((i : Int) < 0) = false := by simp
      rw [e, this]
      exact Ev.pure _
    · have e : fnd s (d :: ts) i = fnd s ts (i + 1) := by simp only [fnd]; rw [if_neg (by rw [h]; simp)]
      rw [e, wrapS (by omega)]
      exact find_evL sig s hl ts (i + 1) (dropDrop hd) (by omega)

theorem refFind_ev (sig : List Dc) (s : ByteArray) (hl : sig.length ≤ 1000) : Ev (fun k => R05_Find k sig s) (fnd s sig 0) := by
  refine Ev.succ (fun k => R05_Find.eq_2 ..) ?_
  exact refFind_evL sig s hl sig 0 rfl (by simp)
theorem find_ev (sig : List Dc) (s : ByteArray) (hs : sigOK sig = true) : Ev (fun k => sign_Find k sig s) (cond (decide (fnd s sig 0 < 0)) (0, 6) (fnd s sig 0, 0)) := by
  refine Ev.succ (fun k => sign_Find.eq_2 ..) ?_
  refine (check_ev sig).bind ?_
  rw [if_pos hs]
  refine Ev.f rfl ?_
  exact find_evL sig s (by have := (sigOK_proper hs).1; omega) sig 0 rfl (by simp)

/-- The longest name of a signature. -/
def longest (sig : List Dc) : Nat := sig.foldr (fun d m => max d.name.size m) 0
theorem fnd_long (s : ByteArray) : ∀ (l : List Dc) (i : Nat), longest l < s.size → fnd s l i = -1
  | [], _, _ => rfl
  | d :: l, i, h => by
    simp only [longest, List.foldr_cons] at h
    have h1 : d.name.size < s.size := by omega
    simp only [fnd]
    rw [if_neg ?_]
    · exact fnd_long s l (i + 1) (by simp only [longest]; omega)
    · intro e
      rw [beq_iff_eq] at e
      have : d.name.size = s.size := by
        rw [ByteArray.toList_eq, ByteArray.toList_eq, Array.toList_inj] at e
        show d.name.data.size = s.data.size
        rw [e]
      omega
theorem longest_le (l : List Dc) (h : ∀ d ∈ l, d.name.size ≤ 16) : longest l ≤ 16 := by
  induction l with
  | nil => exact Nat.zero_le _
  | cons d l ih =>
    simp only [longest, List.foldr_cons]
    have h1 := h d (by simp)
    have h2 := ih (fun d hd => h d (by simp [hd]))
    simp only [longest] at h2
    omega

/-- A name that no constant has: with as many apostrophes as it takes. -/
theorem fresh_ev (sig : List Dc) (metas : List Mt) (names : List ByteArray) (first : Int) (hs : sigOK sig = true) (hl : longest sig ≤ 16) : ∀ (q : Nat) (s : ByteArray), 17 - s.size ≤ q → s.size ≤ 20 → ∃ r, Ev (fun n => print_printer_name_L1 n ⟨sig, metas, first⟩ s) r ∧ Ev (fun n => R07_Printer_variable_L1 n ⟨sig, metas, names⟩ s) r ∧ r.size ≤ 20
  | 0, s, hq, hz => by
    have hf := fnd_long s sig 0 (by omega)
    have hl1 := (sigOK_proper hs).1
    refine ⟨s, ?_, ?_, hz⟩
    · refine Ev.succ (fun k => print_printer_name_L1.eq_2 ..) ?_
      refine (find_ev sig s hs).bind ?_
      rw [hf]
      exact Ev.t rfl (Ev.pure _)
    · refine Ev.succ (fun k => R07_Printer_variable_L1.eq_2 ..) ?_
      refine (refFind_ev sig s (by omega)).bind ?_
      rw [hf]
      exact Ev.f rfl (Ev.pure _)
  | q + 1, s, hq, hz => by
    have hl1 := (sigOK_proper hs).1
    have sq : (⟨#[39]⟩ : ByteArray).size = 1 := rfl
    by_cases hf : fnd s sig 0 < 0
    · refine ⟨s, ?_, ?_, hz⟩
      · refine Ev.succ (fun k => print_printer_name_L1.eq_2 ..) ?_
        refine (find_ev sig s hs).bind ?_
        refine Ev.t ?_ (Ev.pure _)
        rw [decide_eq_true hf]; rfl
      · refine Ev.succ (fun k => R07_Printer_variable_L1.eq_2 ..) ?_
        refine (refFind_ev sig s (by omega)).bind ?_
        exact Ev.f (by simp; omega) (Ev.pure _)
    · by_cases hsz : 17 ≤ s.size
      · exact absurd (by rw [fnd_long s sig 0 (by omega)]; decide) hf
      have hq' : 17 - (s ++ (⟨#[39]⟩ : ByteArray)).size ≤ q := by rw [ByteArray.size_append, sq]; omega
      obtain ⟨r, r1, r2, r3⟩ := fresh_ev sig metas names first hs hl q (s ++ (⟨#[39]⟩ : ByteArray)) hq' (by rw [ByteArray.size_append, sq]; omega)
      refine ⟨r, ?_, ?_, r3⟩
      · refine Ev.succ (fun k => print_printer_name_L1.eq_2 ..) ?_
        refine (find_ev sig s hs).bind ?_
        rw [decide_eq_false hf]
        refine Ev.f rfl ?_
        exact Ev.need (by rw [sq]; simp only [decide_eq_true_eq]; omega) r1
      · refine Ev.succ (fun k => R07_Printer_variable_L1.eq_2 ..) ?_
        refine (refFind_ev sig s (by omega)).bind ?_
        refine Ev.t (by simp; omega) ?_
        exact Ev.need (by rw [sq]; simp only [decide_eq_true_eq]; omega) r2

theorem itoa_size (n : Int) (h0 : 0 ≤ n) (h1 : n ≤ 99) : (itoaF n).size ≤ 2 := by
  have key : ∀ k : Fin 100, (itoaF (k.val : Int)).size ≤ 2 := by decide +kernel
  have := key ⟨n.toNat, by omega⟩
  rw [show ((n.toNat : Nat) : Int) = n by omega] at this
  exact this

/-- What both know of the names of the first variables. -/
def firstOK (names : List ByteArray) : Prop := names.length ≤ 60 ∧ ∀ (i : Nat) (s : ByteArray), names[i]? = some s → s = (⟨#[88]⟩ : ByteArray) ++ itoaF ((i : Int) + 1)

theorem name_ev (sig : List Dc) (metas : List Mt) (names : List ByteArray) (hs : sigOK sig = true) (hl : longest sig ≤ 16) (hn : firstOK names) (n : Int) (h0 : 0 ≤ n) (h1 : n ≤ 98) :
    ∃ r, Ev (fun k => print_printer_name k n ⟨sig, metas, names.length⟩) r ∧ Ev (fun k => R07_Printer_variable k ⟨sig, metas, names⟩ n) r := by
  have hw : IntKind.i64.wrap (n + 1) = n + 1 := wrap_i64 (by omega) (by omega)
  have hz := itoa_size (n + 1) (by omega) (by omega)
  have s88 : (⟨#[88]⟩ : ByteArray).size = 1 := rfl
  have s120 : (⟨#[120]⟩ : ByteArray).size = 1 := rfl
  by_cases hlt : n < (names.length : Int)
  · obtain ⟨i, rfl⟩ : ∃ i : Nat, n = i := ⟨n.toNat, by omega⟩
    obtain ⟨x, hx, _, hg⟩ := idxOf (l := names) (i := i) (by omega)
    have he := hn.2 i x hg
    refine ⟨x, ?_, ?_⟩
    · refine Ev.succ (fun k => print_printer_name.eq_2 ..) ?_
      refine Ev.t (by simpa using hlt) ?_
      rw [hw, he]
      refine Ev.need (by simp only [decide_eq_true_eq]; omega) ?_
      exact Ev.need (by simp only [s88, decide_eq_true_eq]; omega) (Ev.pure _)
    · refine Ev.succ (fun k => R07_Printer_variable.eq_2 ..) ?_
      refine Ev.t (by simpa using hlt) ?_
      exact Ev.some hx (Ev.pure _)
  · obtain ⟨r, r1, r2, _⟩ := fresh_ev sig metas names names.length hs hl 17 ((⟨#[120]⟩ : ByteArray) ++ itoaF (n + 1)) (by omega) (by rw [ByteArray.size_append, s120]; omega)
    refine ⟨r, ?_, ?_⟩
    · refine Ev.succ (fun k => print_printer_name.eq_2 ..) ?_
      refine Ev.f (by simpa using hlt) ?_
      rw [hw]
      refine Ev.need (by simp only [decide_eq_true_eq]; omega) ?_
      exact Ev.need (by simp only [s120, decide_eq_true_eq]; omega) r1
    · refine Ev.succ (fun k => R07_Printer_variable.eq_2 ..) ?_
      refine Ev.f (by simpa using hlt) ?_
      rw [hw]
      refine Ev.need (by simp only [decide_eq_true_eq]; omega) ?_
      exact Ev.need (by simp only [s120, decide_eq_true_eq]; omega) r2

theorem sigOK_names {sig : List Dc} (h : sigOK sig = true) : ∀ d ∈ sig, d.name.size ≤ 16 := by
  have key : ∀ (pre post : List Dc), sigG pre post = true → ∀ d ∈ post, d.name.size ≤ 16 := by
    intro pre post
    induction post generalizing pre with
    | nil => intro _ d hd; cases hd
    | cons x post ih =>
      intro h d hd
      simp only [sigG, Bool.and_eq_true] at h
      rcases List.mem_cons.1 hd with e | e
      · subst e
        have h1 := h.1
        simp only [declOK, Bool.and_eq_true] at h1
        refine named_size ?_
        simp only [namedF, Bool.or_eq_true, Bool.and_eq_true]
        right; exact h1.1.1.1.1
      · exact ih _ h.2 d e
  simp only [sigOK, Bool.and_eq_true] at h
  exact key [] sig h.2

/-! metavariables -/
def metasB (l : List Mt) : Bool := l.all (fun m => m.name.toList == (⟨#[]⟩ : ByteArray).toList || isCapitalF m.name)

theorem good_evL (l : List Mt) (ts0 : List Tm) (hl : l.length ≤ 80) (b : Bool) (hb : Ev (fun k => print_good_L2 k ts0 0) b) : ∀ (ts : List Mt) (i : Nat), l.drop i = ts → i + ts.length = l.length → Ev (fun k => print_good_L1 k l ts0 (i : Int)) (metasB ts && b)
  | [], i, hd, hi => by
    refine Ev.succ (fun k => print_good_L1.eq_2 ..) ?_
    simp only [List.length_nil, Nat.add_zero] at hi
    exact Ev.f (by simp [hi]) hb
  | m :: ts, i, hd, hi => by
    refine Ev.succ (fun k => print_good_L1.eq_2 ..) ?_
    simp only [List.length_cons] at hi
    have hm := getDrop hd
    refine Ev.t (by simp; omega) (Ev.some (idx_get hm) ?_)
    rw [wrapS (show i < 2000000000000000000 by omega)]
    have ih := good_evL l ts0 hl b hb ts (i + 1) (dropDrop hd) (by omega)
    have e : metasB (m :: ts) = ((m.name.toList == (⟨#[]⟩ : ByteArray).toList || isCapitalF m.name) && metasB ts) := rfl
    rw [e]
    refine Ev.ite (fun h => ?_) (fun h => ?_)
    · rw [nb h, Bool.false_or]
      refine Ev.ite (fun h2 => ?_) (fun h2 => ?_)
      · rw [nb h2]; exact Ev.pure _
      · rw [nb' h2, Bool.true_and]; exact ih
    · rw [nb' h, Bool.true_or, Bool.true_and]; exact ih

/-- What is asked of signature, metavariables and term. -/
theorem good_ev (sig : List Dc) (metas : List Mt) (t : Tm) : Ev (fun k => print_good k sig metas [t]) (sigOK sig && (decide (metas.length ≤ 80) && metasB metas) && isProper t) := by
  refine Ev.succ (fun k => print_good.eq_2 ..) ?_
  refine (check_ev sig).bind ?_
  cases hs : sigOK sig with
  | false => exact Ev.t rfl (Ev.pure _)
  | true =>
  by_cases hl : metas.length ≤ 80
  · rw [decide_eq_true hl]
    refine Ev.f (by simp; omega) ?_
    refine (good_evL metas [t] hl (isProper t) ?_ metas 0 rfl (by simp)).eq (by simp)
    refine Ev.succ (fun k => print_good_L2.eq_2 ..) ?_
    refine Ev.t rfl (Ev.some rfl ?_)
    cases hp : isProper t with
    | false => exact Ev.t rfl (Ev.pure _)
    | true =>
      refine Ev.f rfl ?_
      refine Ev.succ (fun k => print_good_L2.eq_2 ..) ?_
      exact Ev.f rfl (Ev.pure _)
  · rw [decide_eq_false hl]
    exact Ev.t (by simp; omega) (Ev.pure _)
end Go.Proofs.YtpibdcjdamibdaaGreatDoor
end

/-! EvR -/
section
namespace Go.Proofs.YtpibdcjdamibdaaGreatDoor
open Go.Tr Go
set_option linter.unusedVariables false
set_option linter.unusedSimpArgs false
set_option maxRecDepth 10000

theorem refBelow_ev (t : Tm) (i : Int) : Ev (fun k => R03_below k t i) (under t.op i) := by
  refine Ev.succ (fun k => R03_below.eq_2 ..) ?_
  by_cases h : t.op = 3 ∨ t.op = 2 ∧ i = 1
  · rw [under, if_pos h]
    exact Ev.t (by simpa using h) (Ev.pure _)
  · rw [under, if_neg h]
    exact Ev.f (by simpa using h) (Ev.pure _)

theorem low_ev (t : Tm) : ∀ (a b : Int), t.count ≤ 1000 → 0 ≤ a → 0 ≤ b → a + t.height ≤ 1000000 → b + t.height ≤ 1000000 → Ev (fun n => R03_low n t a b) (lowF t a b) := by
  induction t using Tm.ind with
  | h t ih =>
    intro a b hc ha hb ha2 hb2
    have hcl := Tm.length_le_countL t.args
    have hce := Tm.count_eq t
    have hhe := Tm.height_eq t
    have loop : ∀ (ts : List Tm) (i : Nat), t.args.drop i = ts → i + ts.length = t.args.length → Ev (fun k => R03_low_L1 k t a b (i : Int)) (lowL t.op ts i a b) := by
      intro ts
      induction ts with
      | nil =>
        intro i hd hi
        refine Ev.succ (fun k => R03_low_L1.eq_2 ..) ?_
        simp only [List.length_nil, Nat.add_zero] at hi
        exact Ev.f (by simp [Tm.encL_length, hi]) (Ev.pure _)
      | cons u ts ihl =>
        intro i hd hi
        refine Ev.succ (fun k => R03_low_L1.eq_2 ..) ?_
        simp only [List.length_cons] at hi
        have hu := getDrop hd
        have hum := List.mem_of_getElem? hu
        have hh := Tm.height_le hum
        have hul := under_le t.op i
        have hcu : u.count ≤ t.count := by
          have : ∀ (us : List Tm), u ∈ us → u.count ≤ Tm.countL us := by
            intro us
            induction us with
            | nil => intro h; cases h
            | cons v us ih =>
              intro h
              simp only [Tm.countL]
              rcases List.mem_cons.1 h with e | e
              · subst e; omega
              · have := ih e; omega
          have := this _ hum
          omega
        refine Ev.t (by simp [Tm.encL_length]; omega) ?_
        refine (refBelow_ev t _).bind (Ev.some (idx_get hu) ?_)
        rw [wrap_i64 (n := a + under t.op i) (by omega) (by omega), wrap_i64 (n := b + under t.op i) (by omega) (by omega)]
        refine (ih u hum _ _ (by omega) (by omega) (by omega) (by omega) (by omega)).bind ?_
        simp only [lowL]
        refine Ev.ite (fun h => ?_) (fun h => ?_)
        · rw [h, Bool.true_or]; exact Ev.pure _
        · rw [h, Bool.false_or, wrapS (by omega)]
          exact ihl (i + 1) (dropDrop hd) (by omega)
    refine Ev.succ (fun k => R03_low.eq_2 ..) ?_
    rw [lowF_eq]
    refine Ev.ite (fun h => ?_) (fun h => ?_)
    · rw [h, Bool.true_or]; exact Ev.pure _
    · rw [h, Bool.false_or]
      exact loop t.args 0 rfl (by simp)

mutual
theorem low_fv (x : Int) : ∀ (t : Tm) (k : Int), okAll t = true → 0 ≤ k → 0 ≤ x → (lowF t (x + k) (x + k) = true ↔ x ∈ fvF t k)
  | .mk o h n us, k, hok, hk, hx => by
    simp only [okAll, Bool.and_eq_true] at hok
    simp only [lowF, fvF, List.mem_append, Bool.or_eq_true]
    rw [low_fvL x o us 0 k hok.2 hk hx]
    refine or_congr ?_ Iff.rfl
    by_cases h1 : o = 4 ∧ h = 1 ∧ n ≥ k
    · rw [if_pos h1]
      obtain ⟨e1, e2, e3⟩ := h1
      subst e1 e2
      simp; omega
    · rw [if_neg h1]
      simp only [List.not_mem_nil, iff_false, Bool.and_eq_true, beq_iff_eq, decide_eq_true_eq]
      rintro ⟨⟨⟨e1, e2⟩, e3⟩, e4⟩
      exact h1 ⟨e1, e2, by omega⟩
theorem low_fvL (x : Int) : ∀ (o : Int) (us : List Tm) (i : Nat) (k : Int), okAllL us = true → 0 ≤ k → 0 ≤ x → (lowL o us i (x + k) (x + k) = true ↔ x ∈ fvL o us i k)
  | o, [], i, k, _, _, _ => by simp [lowL, fvL]
  | o, u :: us, i, k, hok, hk, hx => by
    simp only [okAllL, Bool.and_eq_true] at hok
    have hu := under_le o i
    simp only [lowL, fvL, List.mem_append, Bool.or_eq_true]
    rw [low_fvL x o us (i + 1) k hok.2 hk hx]
    have e : x + k + under o i = x + (k + under o i) := by omega
    rw [e, low_fv x u (k + under o i) hok.1 (by omega) hx]
 end

theorem freeL_any {t : Tm} (hp : isProper t = true) : (freeL t).any (fun x => (0 : Int) == x) = lowF t 0 0 := by
  obtain ⟨hok, hh, _⟩ := proper_small hp
  rw [freeL, if_pos hp, Bool.eq_iff_iff]
  have h1 := low_fv 0 t 0 hok (by omega) (by omega)
  rw [show (0 : Int) + 0 = 0 by omega] at h1
  rw [h1, List.any_eq_true]
  have h2 : ∀ x, x ∈ numsOf freeOf t ↔ x ∈ fvF t 0 := by
    intro x
    rw [numsOf, sorted_mem, walk_mem x t 0 [] hok (by omega) (by omega)]
    simp
  constructor
  · rintro ⟨x, hx, e⟩
    rw [beq_iff_eq] at e
    subst e
    exact (h2 _).1 hx
  · intro h
    exact ⟨0, (h2 _).2 h, by simp⟩

theorem occurs_ev {t : Tm} (hp : isProper t = true) : Ev (fun n => term_Occurs n t 0) (lowF t 0 0, 0) := by
  refine Ev.succ (fun k => term_Occurs.eq_2 ..) ?_
  have hlen : (freeL t).length ≤ 1000000 := by
    have h1 := walkF_length freeOf t [] 0
    have h2 := (proper_small hp).2.2
    rw [freeL, if_pos hp]
    simp only [numsOf, sorted, List.length_mergeSort, List.length_map]
    simp only [List.length_nil] at h1
    omega
  refine (contains_ev (freeL t) 0 hlen).bind ((Ev.pure _).eq ?_)
  rw [freeL_any hp, freeE, if_pos hp]
theorem refOccurs_ev {t : Tm} (hp : isProper t = true) : Ev (fun n => R03_Occurs n t 0) (lowF t 0 0) := by
  obtain ⟨hok, hh, hc⟩ := proper_small hp
  refine Ev.succ (fun k => R03_Occurs.eq_2 ..) ?_
  refine Ev.t rfl ((low_ev t 0 0 (by omega) (by omega) (by omega) (by omega) (by omega)).bind (Ev.pure _))

/-! moved terms -/
mutual
theorem moved_count (b : Int) : ∀ (t : Tm) (f : Int), (movedF t b f).count = t.count
  | .mk o h n us, f => by simp only [movedF, Tm.count, moved_countL b o us 0 f]
theorem moved_countL (b : Int) : ∀ (o : Int) (us : List Tm) (i : Nat) (f : Int), Tm.countL (movedL o us i b f) = Tm.countL us
  | o, [], i, f => rfl
  | o, u :: us, i, f => by simp only [movedL, Tm.countL, moved_count b u, moved_countL b o us]
 end
mutual
theorem moved_height (b : Int) : ∀ (t : Tm) (f : Int), (movedF t b f).height = t.height
  | .mk o h n us, f => by simp only [movedF, Tm.height, moved_heightL b o us 0 f]
theorem moved_heightL (b : Int) : ∀ (o : Int) (us : List Tm) (i : Nat) (f : Int), Tm.heightL (movedL o us i b f) = Tm.heightL us
  | o, [], i, f => rfl
  | o, u :: us, i, f => by simp only [movedL, Tm.heightL, moved_height b u, moved_heightL b o us]
 end
mutual
theorem moved_ok : ∀ (t : Tm) (f : Int), okAll t = true → 0 ≤ f → lowF t f f = false → okAll (movedF t (-1) f) = true
  | .mk o h n us, f, hok, hf, hl => by
    have hn := okAll_n hok
    simp only [Tm.n] at hn
    simp only [okAll, Bool.and_eq_true] at hok
    simp only [lowF, Bool.or_eq_false_iff] at hl
    simp only [movedF, okAll, Bool.and_eq_true]
    refine ⟨?_, moved_okL o us 0 f hok.2 hf hl.2⟩
    rw [movedL_length]
    by_cases h1 : (o = 4 ∧ h = 1) ∧ n ≥ f
    · rw [if_pos h1]
      have h2 := hl.1
      obtain ⟨⟨e1, e2⟩, e3⟩ := h1
      subst e1 e2
      have h4 : n ≠ f := by
        intro e
        subst e
        simp at h2
      rw [wrap_i64 (by omega) (by omega)]
      have := hok.1
      simp only [okNode] at this ⊢
      simp at this ⊢
      omega
    · rw [if_neg h1]; exact hok.1
theorem moved_okL : ∀ (o : Int) (us : List Tm) (i : Nat) (f : Int), okAllL us = true → 0 ≤ f → lowL o us i f f = false → okAllL (movedL o us i (-1) f) = true
  | o, [], i, f, _, _, _ => rfl
  | o, u :: us, i, f, hok, hf, hl => by
    simp only [okAllL, Bool.and_eq_true] at hok
    simp only [lowL, Bool.or_eq_false_iff] at hl
    have hu := under_le o i
    simp only [movedL, okAllL, Bool.and_eq_true]
    exact ⟨moved_ok u _ hok.1 (by omega) hl.1, moved_okL o us (i + 1) f hok.2 hf hl.2⟩
 end

theorem moved_proper {t : Tm} (hp : isProper t = true) (hl : lowF t 0 0 = false) : isProper (movedF t (-1) 0) = true := by
  have h := (isProper_iff t).1 hp
  rw [isProper_iff, moved_count, moved_height]
  exact ⟨moved_ok t 0 h.1 (by omega) hl, h.2⟩
theorem shift_low {t : Tm} (hp : isProper t = true) (hl : lowF t 0 0 = false) : (shiftF t (-1) 0).1 = movedF t (-1) 0 := by
  unfold shiftF
  rw [if_neg (by rw [hp]; simp), if_neg (by simp [hl]), if_neg (by rw [moved_proper hp hl]; simp)]

theorem moved_ev (t : Tm) : ∀ k : Int, 0 ≤ k → k + t.height ≤ 1000 → t.count ≤ 1000 → okAll t = true → Ev (fun n => term_Map_term_Moved_1 n t k 0 (-1)) (movedF t (-1) k) := by
  induction t using Tm.ind with
  | h t ih =>
    intro k hk0 hk1 hc hok
    have hn := okAll_n hok
    have hcl := Tm.length_le_countL t.args
    have hce := Tm.count_eq t
    have hhe := Tm.height_eq t
    have loop : ∀ (o h n : Int) (ts : List Tm) (i : Nat) (acc : List Tm), t.args.drop i = ts → i + ts.length = t.args.length → acc.length = i → Ev (fun q => term_Map_term_Moved_1_L1 q t k 0 (-1) (Tm.mk o h n acc) (i : Int)) (Tm.mk o h n (acc ++ movedL t.op ts i (-1) k)) := by
      intro o h n ts
      induction ts with
      | nil =>
        intro i acc hd hi ha
        refine Ev.succ (fun k => term_Map_term_Moved_1_L1.eq_2 ..) ?_
        simp only [List.length_nil, Nat.add_zero] at hi
        refine Ev.f (by simp [Tm.encL_length, hi]) ((Ev.pure _).eq (by simp [movedL]))
      | cons u ts ihl =>
        intro i acc hd hi ha
        refine Ev.succ (fun k => term_Map_term_Moved_1_L1.eq_2 ..) ?_
        simp only [List.length_cons] at hi
        have hu := getDrop hd
        have hum := List.mem_of_getElem? hu
        have hh := Tm.height_le hum
        have hul := under_le t.op i
        have hcu : u.count ≤ t.count := by
          have : ∀ (us : List Tm), u ∈ us → u.count ≤ Tm.countL us := by
            intro us
            induction us with
            | nil => intro h; cases h
            | cons v us ih =>
              intro h
              simp only [Tm.countL]
              rcases List.mem_cons.1 h with e | e
              · subst e; omega
              · have := ih e; omega
          have := this _ hum
          omega
        refine Ev.t (by simp [Tm.encL_length]; omega) ?_
        refine Ev.some (idx_get hu) ((under_ev t _).bind ?_)
        rw [wrap_i64 (n := k + under t.op i) (by omega) (by omega)]
        refine (ih u hum (k + under t.op i) (by omega) (by omega) (by omega) (okAll_arg hok hum)).bind ?_
        refine Ev.need (by simp [Tm.encL_length, Tm.args]; omega) ?_
        rw [wrapS (by omega)]
        refine (ihl (i + 1) (acc ++ [movedF u (-1) (k + under t.op i)]) (dropDrop hd) (by omega) (by simp [ha])).eq ?_
        simp [movedL]
    refine Ev.succ (fun k => term_Map_term_Moved_1.eq_2 ..) ?_
    rw [movedF_eq]
    have hw : IntKind.i64.wrap (t.n - k) = t.n - k := wrap_i64 (by omega) (by omega)
    rw [hw]
    by_cases h1 : (t.op = 4 ∧ t.hd = 1) ∧ t.n ≥ k
    · rw [if_pos h1]
      refine Ev.t (by simp [h1.1.1, h1.1.2]; omega) ?_
      exact loop _ _ _ t.args 0 [] rfl (by simp) rfl
    · rw [if_neg h1]
      refine Ev.f ?_ ?_
      · rw [Bool.eq_false_iff]
        intro e
        simp only [Bool.and_eq_true, beq_iff_eq, decide_eq_true_eq] at e
        exact h1 ⟨e.1, by omega⟩
      exact loop _ _ _ t.args 0 [] rfl (by simp) rfl
end Go.Proofs.YtpibdcjdamibdaaGreatDoor
end

/-! EvS -/
section
namespace Go.Proofs.YtpibdcjdamibdaaGreatDoor
open Go.Tr Go
set_option linter.unusedVariables false
set_option linter.unusedSimpArgs false
set_option maxRecDepth 10000

/-- How many arguments of a constant are left out. -/
def impAt (sig : List Dc) (n : Int) : Int := match idx sig n with
  | some d => d.implicit
  | none => 0

/-- A head is there: of so many variables, constants, metavariables. -/
def nodeS (c m : Nat) (o h n v : Int) : Bool := (o != 4) || (((h != 1) || decide (n < v)) && (((h != 2) || decide (n < (c : Int))) && ((h != 3) || decide (n < (m : Int)))))
mutual
def nodesS (c m : Nat) : Tm → Int → Bool
  | .mk o h n us, v => nodeS c m o h n v && nodesSL c m o us 0 v
def nodesSL (c m : Nat) : Int → List Tm → Nat → Int → Bool
  | _, [], _, _ => true
  | o, u :: us, i, v => nodesS c m u (v + under o i) && nodesSL c m o us (i + 1) v
 end
/-- A constant has as many arguments as are left out. -/
def nodeF (sig : List Dc) (o h n : Int) (len : Nat) : Bool := !((o == 4 && h == 2) && decide ((len : Int) < impAt sig n))
mutual
def fullB (sig : List Dc) : Tm → Bool
  | .mk o h n us => nodeF sig o h n us.length && fullL sig us
def fullL (sig : List Dc) : List Tm → Bool
  | [] => true
  | u :: us => fullB sig u && fullL sig us
 end
theorem nodesS_eq (c m : Nat) (t : Tm) (v : Int) : nodesS c m t v = (nodeS c m t.op t.hd t.n v && nodesSL c m t.op t.args 0 v) := by cases t; rfl
theorem fullB_eq (sig : List Dc) (t : Tm) : fullB sig t = (nodeF sig t.op t.hd t.n t.args.length && fullL sig t.args) := by cases t; rfl

theorem arg_count {t u : Tm} (hu : u ∈ t.args) : u.count < t.count := by
  rw [Tm.count_eq t]
  have : ∀ (us : List Tm), u ∈ us → u.count ≤ Tm.countL us := by
    intro us
    induction us with
    | nil => intro h; cases h
    | cons v us ih =>
      intro h
      simp only [Tm.countL]
      rcases List.mem_cons.1 h with e | e
      · subst e; omega
      · have := ih e; omega
  have := this _ hu
  omega

mutual
theorem nodesS_occ (c m : Nat) (v : Int) (hv : 0 ≤ v) : ∀ (t : Tm) (k : Int), okAll t = true → 0 ≤ k → (nodesS c m t (v + k) = true ↔ (∀ x ∈ occ 1 t k, x < v) ∧ (∀ x ∈ occ 2 t k, x < (c : Int)) ∧ (∀ x ∈ occ 3 t k, x < (m : Int)))
  | .mk o h n us, k, hok, hk => by
    have hhd : o = 4 → h = 1 ∨ h = 2 ∨ h = 3 := by
      intro e
      simp only [okAll, Bool.and_eq_true] at hok
      have h1 := hok.1
      subst e
      simp [okNode] at h1
      omega
    simp only [okAll, Bool.and_eq_true] at hok
    have hl := nodesS_occL c m v hv o us 0 k hok.2 hk
    simp only [nodesS, occ, Bool.and_eq_true, hl, List.mem_append]
    have hn : nodeS c m o h n (v + k) = true ↔ (∀ x ∈ occN 1 o h n k, x < v) ∧ (∀ x ∈ occN 2 o h n k, x < (c : Int)) ∧ (∀ x ∈ occN 3 o h n k, x < (m : Int)) := by
      unfold nodeS occN
      by_cases h4 : o = 4
      · rcases hhd h4 with rfl | rfl | rfl
        · subst h4
          by_cases hh : n < k
          · simp [hh]; omega
          · simp [hh]; omega
        · subst h4; simp
        · subst h4; simp
      · simp [h4]
    rw [hn]
    constructor
    · rintro ⟨⟨a, b, e⟩, d, f, g⟩
      exact ⟨fun x hx => hx.elim (a x) (d x), fun x hx => hx.elim (b x) (f x), fun x hx => hx.elim (e x) (g x)⟩
    · rintro ⟨a, b, e⟩
      exact ⟨⟨fun x hx => a x (.inl hx), fun x hx => b x (.inl hx), fun x hx => e x (.inl hx)⟩, fun x hx => a x (.inr hx), fun x hx => b x (.inr hx), fun x hx => e x (.inr hx)⟩
theorem nodesS_occL (c m : Nat) (v : Int) (hv : 0 ≤ v) : ∀ (o : Int) (us : List Tm) (i : Nat) (k : Int), okAllL us = true → 0 ≤ k → (nodesSL c m o us i (v + k) = true ↔ (∀ x ∈ occL 1 o us i k, x < v) ∧ (∀ x ∈ occL 2 o us i k, x < (c : Int)) ∧ (∀ x ∈ occL 3 o us i k, x < (m : Int)))
  | o, [], i, k, _, _ => by simp [nodesSL, occL]
  | o, u :: us, i, k, hok, hk => by
    simp only [okAllL, Bool.and_eq_true] at hok
    have hu := under_le o i
    have e : v + k + under o i = v + (k + under o i) := by omega
    have h1 := nodesS_occ c m v hv u (k + under o i) hok.1 (by omega)
    have h2 := nodesS_occL c m v hv o us (i + 1) k hok.2 hk
    simp only [nodesSL, occL, Bool.and_eq_true, e, h1, h2, List.mem_append]
    constructor
    · rintro ⟨⟨a, b, e⟩, d, f, g⟩
      exact ⟨fun x hx => hx.elim (a x) (d x), fun x hx => hx.elim (b x) (f x), fun x hx => hx.elim (e x) (g x)⟩
    · rintro ⟨a, b, e⟩
      exact ⟨⟨fun x hx => a x (.inl hx), fun x hx => b x (.inl hx), fun x hx => e x (.inl hx)⟩, fun x hx => a x (.inr hx), fun x hx => b x (.inr hx), fun x hx => e x (.inr hx)⟩
 end

/-- The last of the numbers of a kind of heads says whether all are less. -/
theorem last_head (hd : Int) {t : Tm} (hok : okAll t = true) (hh : t.height ≤ 1000) (hc : t.count ≤ 1000) (b : Int) :
    (((List.map (D.int .i64) (headsF hd t 0 [])).length : Int) == 0) = true ∧ (∀ x ∈ occ hd t 0, x < b) ∨
    (((List.map (D.int .i64) (headsF hd t 0 [])).length : Int) == 0) = false ∧ ∃ y, idx (headsF hd t 0 []) (IntKind.i64.wrap (((List.map (D.int .i64) (headsF hd t 0 [])).length : Int) - 1)) = some y ∧ (y < b ↔ ∀ x ∈ occ hd t 0, x < b) := by
  have e1 := heads_len hd t hok (by omega)
  have hm := fun x => headsF_mem hd x t 0 [] hok (by omega) (by omega)
  cases h : (((List.map (D.int .i64) (headsF hd t 0 [])).length : Int) == 0) with
  | true =>
    left
    rw [e1, List.isEmpty_iff] at h
    exact ⟨rfl, by rw [h]; simp⟩
  | false =>
    right
    refine ⟨rfl, ?_⟩
    have hne : headsF hd t 0 [] ≠ [] := by
      intro e; rw [e] at h; simp at h
    have hlen : 0 < (headsF hd t 0 []).length := List.length_pos_iff.2 hne
    have hlc := heads_count hd t 0 []
    simp only [List.length_nil] at hlc
    obtain ⟨y, hy⟩ : ∃ y, (headsF hd t 0 [])[(headsF hd t 0 []).length - 1]? = some y := ⟨_, List.getElem?_eq_getElem (by omega)⟩
    have hw : IntKind.i64.wrap (((List.map (D.int .i64) (headsF hd t 0 [])).length : Int) - 1) = (((headsF hd t 0 []).length - 1 : Nat) : Int) := by
      rw [List.length_map, wrap_i64 (by omega) (by omega)]; omega
    rw [hw]
    refine ⟨y, idx_get hy, ?_⟩
    constructor
    · intro hlt x hx
      have := sorted_last _ (headsF_sorted hd t 0 [] .nil) y hy x ((hm x).2 (.inr hx))
      omega
    · intro hall
      refine hall y ?_
      have := (hm y).1 (List.mem_of_getElem? hy)
      simpa using this

theorem refScoped_ev (sig : List Dc) (metas : List Mt) (names : List ByteArray) {t : Tm} (hp : isProper t = true) (v : Int) (hv : 0 ≤ v) : Ev (fun k => R07_Printer_scoped k ⟨sig, metas, names⟩ v t) (nodesS sig.length metas.length t v) := by
  obtain ⟨hok, hh, hc⟩ := proper_small hp
  have hocc := nodesS_occ sig.length metas.length v hv t 0 hok (by omega)
  rw [show v + 0 = v by omega] at hocc
  have e0 : nodesS sig.length metas.length t v = (decide (∀ x ∈ occ 2 t 0, x < (sig.length : Int)) && (decide (∀ x ∈ occ 3 t 0, x < (metas.length : Int)) && decide (∀ x ∈ occ 1 t 0, x < v))) := by
    rw [Bool.eq_iff_iff, hocc]
    simp only [Bool.and_eq_true, decide_eq_true_eq]
    constructor
    · rintro ⟨a, b, c⟩; exact ⟨b, c, a⟩
    · rintro ⟨a, b, c⟩; exact ⟨c, a, b⟩
  rw [e0]
  refine Ev.succ (fun k => R07_Printer_scoped.eq_2 ..) ?_
  refine (refConstants_ev (by omega) (by omega)).bind ((refMetas_ev (by omega) (by omega)).bind ((refFree_ev (by omega) (by omega)).bind ?_))
  have one : Ev (fun n => cond (((List.map (D.int .i64) (headsF 1 t 0 [])).length : Int) == 0) (some (true)) ((idx (headsF 1 t 0 []) (IntKind.i64.wrap (((List.map (D.int .i64) (headsF 1 t 0 [])).length : Int) - 1))).bind (fun v51 => some ((decide (v51 < v)))))) (decide (∀ x ∈ occ 1 t 0, x < v)) := by
    rcases last_head 1 hok (by omega) (by omega) v with ⟨h1, h2⟩ | ⟨h1, y, h2, h3⟩
    · rw [h1, decide_eq_true h2]; exact Ev.pure _
    · rw [h1]
      refine Ev.f rfl (Ev.some h2 ((Ev.pure _).eq ?_))
      rw [Bool.eq_iff_iff, decide_eq_true_eq, decide_eq_true_eq]; exact h3
  have three : Ev (fun n => cond (((List.map (D.int .i64) (headsF 3 t 0 [])).length : Int) == 0) (cond (((List.map (D.int .i64) (headsF 1 t 0 [])).length : Int) == 0) (some (true)) ((idx (headsF 1 t 0 []) (IntKind.i64.wrap (((List.map (D.int .i64) (headsF 1 t 0 [])).length : Int) - 1))).bind (fun v51 => some ((decide (v51 < v)))))) ((idx (headsF 3 t 0 []) (IntKind.i64.wrap (((List.map (D.int .i64) (headsF 3 t 0 [])).length : Int) - 1))).bind (fun v40 => cond (decide (v40 < ((Mt.encL metas).length : Int))) (cond (((List.map (D.int .i64) (headsF 1 t 0 [])).length : Int) == 0) (some (true)) ((idx (headsF 1 t 0 []) (IntKind.i64.wrap (((List.map (D.int .i64) (headsF 1 t 0 [])).length : Int) - 1))).bind (fun v51 => some ((decide (v51 < v)))))) (some (false))))) (decide (∀ x ∈ occ 3 t 0, x < (metas.length : Int)) && decide (∀ x ∈ occ 1 t 0, x < v)) := by
    rcases last_head 3 hok (by omega) (by omega) (metas.length : Int) with ⟨h1, h2⟩ | ⟨h1, y, h2, h3⟩
    · rw [h1, decide_eq_true h2, Bool.true_and]; exact Ev.t rfl one
    · rw [h1]
      refine Ev.f rfl (Ev.some h2 ?_)
      rw [Mt.encL_length]
      refine Ev.ite (fun h => ?_) (fun h => ?_)
      · rw [decide_eq_true_eq, h3] at h
        rw [decide_eq_true h, Bool.true_and]; exact one
      · rw [decide_eq_false_iff_not, h3] at h
        rw [decide_eq_false h, Bool.false_and]; exact Ev.pure _
  rcases last_head 2 hok (by omega) (by omega) (sig.length : Int) with ⟨h1, h2⟩ | ⟨h1, y, h2, h3⟩
  · rw [h1, decide_eq_true h2, Bool.true_and]; exact Ev.t rfl three
  · rw [h1]
    refine Ev.f rfl (Ev.some h2 ?_)
    rw [Dc.encL_length]
    refine Ev.ite (fun h => ?_) (fun h => ?_)
    · rw [decide_eq_true_eq, h3] at h
      rw [decide_eq_true h, Bool.true_and]; exact three
    · rw [decide_eq_false_iff_not, h3] at h
      rw [decide_eq_false h, Bool.false_and]; exact Ev.pure _

theorem refFull_ev (sig : List Dc) (metas : List Mt) (names : List ByteArray) (t : Tm) : ∀ v : Int, okAll t = true → t.count ≤ 1000 → nodesS sig.length metas.length t v = true → Ev (fun k => R07_Printer_full k ⟨sig, metas, names⟩ t) (fullB sig t) := by
  induction t using Tm.ind with
  | h t ih =>
    intro v hok hc hs
    have hn := okAll_n hok
    have hcl := Tm.length_le_countL t.args
    have hce := Tm.count_eq t
    rw [nodesS_eq, Bool.and_eq_true] at hs
    have loop : ∀ (ts : List Tm) (i : Nat), t.args.drop i = ts → i + ts.length = t.args.length → nodesSL sig.length metas.length t.op ts i v = true → Ev (fun k => R07_Printer_full_L1 k t ⟨sig, metas, names⟩ (i : Int)) (fullL sig ts) := by
      intro ts
      induction ts with
      | nil =>
        intro i hd hi hs
        refine Ev.succ (fun k => R07_Printer_full_L1.eq_2 ..) ?_
        simp only [List.length_nil, Nat.add_zero] at hi
        exact Ev.f (by simp [Tm.encL_length, hi]) (Ev.pure _)
      | cons u ts ihl =>
        intro i hd hi hs
        refine Ev.succ (fun k => R07_Printer_full_L1.eq_2 ..) ?_
        simp only [List.length_cons] at hi
        have hu := getDrop hd
        have hum := List.mem_of_getElem? hu
        have := arg_count hum
        simp only [nodesSL, Bool.and_eq_true] at hs
        refine Ev.t (by simp [Tm.encL_length]; omega) (Ev.some (idx_get hu) ?_)
        refine (ih u hum _ (okAll_arg hok hum) (by omega) hs.1).bind ?_
        simp only [fullL]
        refine Ev.ite (fun h => ?_) (fun h => ?_)
        · rw [nb h, Bool.false_and]; exact Ev.pure _
        · rw [nb' h, Bool.true_and, wrapS (by omega)]
          exact ihl (i + 1) (dropDrop hd) (by omega) hs.2
    have hall := loop t.args 0 rfl (by simp) hs.2
    refine Ev.succ (fun k => R07_Printer_full.eq_2 ..) ?_
    rw [fullB_eq, nodeF]
    refine Ev.ite (fun h => ?_) (fun h => ?_)
    · have h1 := hs.1
      simp only [Bool.and_eq_true, beq_iff_eq] at h
      obtain ⟨d, hd, _⟩ := idx_pre (sig := sig) (n := t.n) hn.1 (by simp [nodeS, h.1, h.2] at h1; exact h1)
      have hi : impAt sig t.n = d.implicit := by rw [impAt, hd]
      refine Ev.some hd ?_
      rw [Tm.encL_length, hi, h.1, h.2]
      refine Ev.ite (fun h2 => ?_) (fun h2 => ?_)
      · rw [h2]; exact Ev.pure _
      · rw [h2]; exact hall
    · rw [h, Bool.false_and, Bool.not_false, Bool.true_and]
      exact hall
end Go.Proofs.YtpibdcjdamibdaaGreatDoor
end

/-! EvT -/
section
namespace Go.Proofs.YtpibdcjdamibdaaGreatDoor
open Go.Tr Go
set_option linter.unusedVariables false
set_option linter.unusedSimpArgs false
set_option maxRecDepth 10000

/-- The error of heads: whether all are there, and whether all constants have arguments enough. -/
def code (s f : Bool) : Int := if s = false then 27 else if f = false then 23 else 0
theorem code_27 (a b : Bool) : (code a b == 27) = !a := by cases a <;> cases b <;> rfl
theorem code_0 (a b : Bool) : (code a b != 0) = !(a && b) := by cases a <;> cases b <;> rfl

/-- What is known of signature, metavariables and the names of the first variables. -/
structure Known (sig : List Dc) (metas : List Mt) (names : List ByteArray) : Prop where
  ok : sigOK sig = true
  long : longest sig ≤ 16
  few : metas.length ≤ 80
  first : firstOK names

theorem sigOK_imp {sig : List Dc} (h : sigOK sig = true) : ∀ d ∈ sig, 0 ≤ d.implicit ∧ d.implicit ≤ ((split d.cls).1.length : Int) := by
  have key : ∀ (pre post : List Dc), sigG pre post = true → ∀ d ∈ post, 0 ≤ d.implicit ∧ d.implicit ≤ ((split d.cls).1.length : Int) := by
    intro pre post
    induction post generalizing pre with
    | nil => intro _ d hd; cases hd
    | cons x post ih =>
      intro h d hd
      simp only [sigG, Bool.and_eq_true] at h
      rcases List.mem_cons.1 hd with e | e
      · subst e
        have h1 := h.1
        simp only [declOK, Bool.and_eq_true, decide_eq_true_eq] at h1
        exact ⟨h1.2.1.2, h1.2.2⟩
      · exact ih _ h.2 d e
  simp only [sigOK, Bool.and_eq_true] at h
  exact key [] sig h.2

section
variable {sig : List Dc} {metas : List Mt} {names : List ByteArray} (K : Known sig metas names)
include K

theorem head_ev {t : Tm} (hok : okAll t = true) (hop : t.op = 4) (v : Int) (h0 : 0 ≤ v) (h1 : v ≤ 90) :
    ∃ r, Ev (fun k => print_printer_head k t v ⟨sig, metas, names.length⟩) r ∧ r.2.2 = code (nodeS sig.length metas.length t.op t.hd t.n v) (nodeF sig t.op t.hd t.n t.args.length) ∧
      (r.2.2 = 0 → Ev (fun k => R07_Printer_head k ⟨sig, metas, names⟩ v t) r.1 ∧ r.2.1 = if t.hd = 2 then impAt sig t.n else 0) := by
  have hn := okAll_n hok
  have hm80 := K.few
  have hhd : t.hd = 1 ∨ t.hd = 2 ∨ t.hd = 3 := by
    cases t with
    | mk o h n us =>
      simp only [Tm.op, Tm.hd] at hop ⊢
      simp only [okAll, Bool.and_eq_true] at hok
      have h1 := hok.1
      subst hop
      simp [okNode] at h1
      omega
  rcases hhd with hh | hh | hh
  · have eS : nodeS sig.length metas.length t.op t.hd t.n v = decide (t.n < v) := by rw [nodeS, hop, hh]; simp
    have eF : nodeF sig t.op t.hd t.n t.args.length = true := by rw [nodeF, hop, hh]; simp
    rw [eS, eF]
    by_cases hlt : t.n < v
    · have hw : IntKind.i64.wrap (IntKind.i64.wrap (v - 1) - t.n) = v - 1 - t.n := by rw [wrap_i64 (n := v - 1) (by omega) (by omega), wrap_i64 (by omega) (by omega)]
      obtain ⟨r, r1, r2⟩ := name_ev sig metas names K.ok K.long K.first (v - 1 - t.n) (by omega) (by omega)
      refine ⟨(r, 0, 0), ?_, by rw [decide_eq_true hlt]; rfl, fun _ => ⟨?_, by rw [if_neg (by omega)]⟩⟩
      · refine Ev.succ (fun k => print_printer_head.eq_2 ..) ?_
        refine Ev.t (by simp [hh, hlt]) ?_
        rw [hw]
        exact r1.bind (Ev.pure _)
      · refine Ev.succ (fun k => R07_Printer_head.eq_2 ..) ?_
        refine Ev.t (beqI hh) ?_
        rw [hw]
        exact r2.bind (Ev.pure _)
    · refine ⟨(⟨#[]⟩, 0, 27), ?_, by rw [decide_eq_false hlt]; rfl, fun h => by cases h⟩
      refine Ev.succ (fun k => print_printer_head.eq_2 ..) ?_
      exact Ev.f (by simp [hlt]) (Ev.f (by simp [hh]) (Ev.f (by simp [hh]) (Ev.pure _)))
  · have eS : nodeS sig.length metas.length t.op t.hd t.n v = decide (t.n < (sig.length : Int)) := by rw [nodeS, hop, hh]; simp
    have eF : nodeF sig t.op t.hd t.n t.args.length = !decide ((t.args.length : Int) < impAt sig t.n) := by rw [nodeF, hop, hh]; simp
    rw [eS, eF]
    by_cases hlt : t.n < (sig.length : Int)
    · obtain ⟨d, hd, _⟩ := idx_pre (sig := sig) (n := t.n) hn.1 hlt
      have hi : impAt sig t.n = d.implicit := by rw [impAt, hd]
      rw [hi, decide_eq_true hlt]
      by_cases hs : (t.args.length : Int) < d.implicit
      · refine ⟨(⟨#[]⟩, 0, 23), ?_, by rw [decide_eq_true hs]; rfl, fun h => by cases h⟩
        refine Ev.succ (fun k => print_printer_head.eq_2 ..) ?_
        refine Ev.f (by simp [hh]) (Ev.t (by simp [hh]; omega) (Ev.some hd ?_))
        exact Ev.t (by rw [Tm.encL_length]; simpa using hs) (Ev.pure _)
      · refine ⟨(d.name, d.implicit, 0), ?_, by rw [decide_eq_false hs]; rfl, fun _ => ⟨?_, by rw [if_pos hh]⟩⟩
        · refine Ev.succ (fun k => print_printer_head.eq_2 ..) ?_
          refine Ev.f (by simp [hh]) (Ev.t (by simp [hh]; omega) (Ev.some hd ?_))
          exact Ev.f (by rw [Tm.encL_length]; simpa using hs) (Ev.pure _)
        · refine Ev.succ (fun k => R07_Printer_head.eq_2 ..) ?_
          refine Ev.f (beqI' (by omega)) (Ev.t (beqI hh) (Ev.some hd (Ev.pure _)))
    · refine ⟨(⟨#[]⟩, 0, 27), ?_, by rw [decide_eq_false hlt]; rfl, fun h => by cases h⟩
      refine Ev.succ (fun k => print_printer_head.eq_2 ..) ?_
      exact Ev.f (by simp [hh]) (Ev.f (by simp; omega) (Ev.f (by simp [hh]) (Ev.pure _)))
  · have eS : nodeS sig.length metas.length t.op t.hd t.n v = decide (t.n < (metas.length : Int)) := by rw [nodeS, hop, hh]; simp
    have eF : nodeF sig t.op t.hd t.n t.args.length = true := by rw [nodeF, hop, hh]; simp
    rw [eS, eF]
    by_cases hlt : t.n < (metas.length : Int)
    · obtain ⟨i, hi⟩ : ∃ i : Nat, t.n = i := ⟨t.n.toNat, by omega⟩
      obtain ⟨m, hm, _, _⟩ := idxOf (l := metas) (i := i) (by omega)
      rw [← hi] at hm
      have s77 : (⟨#[77]⟩ : ByteArray).size = 1 := rfl
      have hz := itoa_size t.n (by omega) (by omega)
      cases he : (m.name.toList == (⟨#[]⟩ : ByteArray).toList) with
      | false =>
        refine ⟨(m.name, 0, 0), ?_, by rw [decide_eq_true hlt]; rfl, fun _ => ⟨?_, by rw [if_neg (by omega)]⟩⟩
        · refine Ev.succ (fun k => print_printer_head.eq_2 ..) ?_
          refine Ev.f (by simp [hh]) (Ev.f (by simp [hh]) (Ev.t (by simp [hh]; omega) (Ev.some hm ?_)))
          exact Ev.t (by rw [he]; rfl) (Ev.pure _)
        · refine Ev.succ (fun k => R07_Printer_head.eq_2 ..) ?_
          refine Ev.f (beqI' (by omega)) (Ev.f (beqI' (by omega)) (Ev.some hm ?_))
          exact Ev.t (by rw [he]; rfl) (Ev.some hm (Ev.pure _))
      | true =>
        refine ⟨((⟨#[77]⟩ : ByteArray) ++ itoaF t.n, 0, 0), ?_, by rw [decide_eq_true hlt]; rfl, fun _ => ⟨?_, by rw [if_neg (by omega)]⟩⟩
        · refine Ev.succ (fun k => print_printer_head.eq_2 ..) ?_
          refine Ev.f (by simp [hh]) (Ev.f (by simp [hh]) (Ev.t (by simp [hh]; omega) (Ev.some hm ?_)))
          refine Ev.f (by rw [he]; rfl) ?_
          refine Ev.need (by simp only [decide_eq_true_eq]; omega) (Ev.need (by simp only [s77, decide_eq_true_eq]; omega) (Ev.pure _))
        · refine Ev.succ (fun k => R07_Printer_head.eq_2 ..) ?_
          refine Ev.f (beqI' (by omega)) (Ev.f (beqI' (by omega)) (Ev.some hm ?_))
          refine Ev.f (by rw [he]; rfl) ?_
          refine Ev.need (by simp only [decide_eq_true_eq]; omega) (Ev.need (by simp only [s77, decide_eq_true_eq]; omega) (Ev.pure _))
    · refine ⟨(⟨#[]⟩, 0, 27), ?_, by rw [decide_eq_false hlt]; rfl, fun h => by cases h⟩
      refine Ev.succ (fun k => print_printer_head.eq_2 ..) ?_
      exact Ev.f (by simp [hh]) (Ev.f (by simp [hh]) (Ev.f (by simp; omega) (Ev.pure _)))

theorem scoped1_ev {t : Tm} (hok : okAll t = true) (k v : Int) (hk : 0 ≤ k) (hv : 0 ≤ v) (hb : v + k ≤ 90) (a b : Bool) :
    Ev (fun n => print_printer_scoped_1 n t k (code a b) v ⟨sig, metas, names.length⟩) (code (a && nodeS sig.length metas.length t.op t.hd t.n (v + k)) (b && nodeF sig t.op t.hd t.n t.args.length)) := by
  refine Ev.succ (fun k => print_printer_scoped_1.eq_2 ..) ?_
  by_cases hop : t.op = 4
  · cases a with
    | false => exact Ev.t (by rw [code_27]; simp) (Ev.pure _)
    | true =>
      refine Ev.f (by rw [code_27, hop]; rfl) ?_
      rw [wrap_i64 (n := v + k) (by omega) (by omega)]
      obtain ⟨r, r1, r2, _⟩ := head_ev K hok hop (v + k) (by omega) hb
      refine r1.bind ?_
      rw [r2, code_0]
      cases nodeS sig.length metas.length t.op t.hd t.n (v + k) <;> cases nodeF sig t.op t.hd t.n t.args.length <;> cases b <;> exact Ev.pure _
  · have eS : nodeS sig.length metas.length t.op t.hd t.n (v + k) = true := by rw [nodeS]; simp [hop]
    have eF : nodeF sig t.op t.hd t.n t.args.length = true := by rw [nodeF]; simp [hop]
    rw [eS, eF, Bool.and_true, Bool.and_true]
    exact Ev.t (by simp [hop]) (Ev.pure _)

theorem each_scoped_ev (t : Tm) : ∀ (k v : Int) (a b : Bool), okAll t = true → t.count ≤ 1000 → 0 ≤ k → 0 ≤ v → v + k + t.height ≤ 90 → Ev (fun n => term_Each_print_printer_scoped_1 n t k (code a b) v ⟨sig, metas, names.length⟩) (code (a && nodesS sig.length metas.length t (v + k)) (b && fullB sig t)) := by
  induction t using Tm.ind with
  | h t ih =>
    intro k v a b hok hc hk hv hb
    have hcl := Tm.length_le_countL t.args
    have hce := Tm.count_eq t
    have hhe := Tm.height_eq t
    have loop : ∀ (ts : List Tm) (i : Nat) (a b : Bool), t.args.drop i = ts → i + ts.length = t.args.length → Ev (fun n => term_Each_print_printer_scoped_1_L1 n t k v ⟨sig, metas, names.length⟩ (code a b) (i : Int)) (code (a && nodesSL sig.length metas.length t.op ts i (v + k)) (b && fullL sig ts)) := by
      intro ts
      induction ts with
      | nil =>
        intro i a b hd hi
        refine Ev.succ (fun k => term_Each_print_printer_scoped_1_L1.eq_2 ..) ?_
        simp only [List.length_nil, Nat.add_zero] at hi
        exact Ev.f (by simp [Tm.encL_length, hi]) ((Ev.pure _).eq (by simp [nodesSL, fullL]))
      | cons u ts ihl =>
        intro i a b hd hi
        refine Ev.succ (fun k => term_Each_print_printer_scoped_1_L1.eq_2 ..) ?_
        simp only [List.length_cons] at hi
        have hu := getDrop hd
        have hum := List.mem_of_getElem? hu
        have hh := Tm.height_le hum
        have hul := under_le t.op i
        have hcu := arg_count hum
        refine Ev.t (by simp [Tm.encL_length]; omega) ?_
        refine Ev.some (idx_get hu) ((under_ev t _).bind ?_)
        rw [wrap_i64 (n := k + under t.op i) (by omega) (by omega)]
        refine (ih u hum (k + under t.op i) v a b (okAll_arg hok hum) (by omega) (by omega) hv (by omega)).bind ?_
        rw [wrapS (by omega)]
        refine (ihl (i + 1) _ _ (dropDrop hd) (by omega)).eq ?_
        have e : v + (k + under t.op i) = v + k + under t.op i := by omega
        simp only [nodesSL, fullL, Bool.and_assoc, e]
    refine Ev.succ (fun k => term_Each_print_printer_scoped_1.eq_2 ..) ?_
    refine (scoped1_ev K hok k v hk hv (by omega) a b).bind ?_
    refine (loop t.args 0 _ _ rfl (by simp)).eq ?_
    rw [nodesS_eq, fullB_eq, Bool.and_assoc, Bool.and_assoc]

theorem scoped_ev {t : Tm} (hp : isProper t = true) (v : Int) (hv : 0 ≤ v) (hb : v ≤ 45) : Ev (fun n => print_printer_scoped n t v ⟨sig, metas, names.length⟩) (code (nodesS sig.length metas.length t v) (fullB sig t)) := by
  obtain ⟨hok, hh, hc⟩ := proper_small hp
  refine Ev.succ (fun k => print_printer_scoped.eq_2 ..) ?_
  have := each_scoped_ev K t 0 v true true hok (by omega) (by omega) hv (by omega)
  rw [Bool.true_and, Bool.true_and, show v + 0 = v by omega] at this
  exact this.bind (Ev.pure _)
end
end Go.Proofs.YtpibdcjdamibdaaGreatDoor
end

/-! EvU -/
section
namespace Go.Proofs.YtpibdcjdamibdaaGreatDoor
open Go.Tr Go
set_option linter.unusedVariables false
set_option linter.unusedSimpArgs false
set_option maxRecDepth 10000

mutual
theorem nodesS_moved (c m : Nat) : ∀ (t : Tm) (v k : Int), okAll t = true → 0 ≤ k → k ≤ v → lowF t k k = false → nodesS c m t (v + 1) = true → nodesS c m (movedF t (-1) k) v = true
  | .mk o h n us, v, k, hok, hk, hkv, hl, hs => by
    have hn := okAll_n hok
    simp only [Tm.n] at hn
    simp only [okAll, Bool.and_eq_true] at hok
    simp only [lowF, Bool.or_eq_false_iff] at hl
    simp only [nodesS, Bool.and_eq_true] at hs
    simp only [movedF, nodesS, Bool.and_eq_true]
    refine ⟨?_, nodesS_movedL c m o us 0 v k hok.2 hk hkv hl.2 hs.2⟩
    have h1 := hs.1
    by_cases h2 : (o = 4 ∧ h = 1) ∧ n ≥ k
    · rw [if_pos h2]
      obtain ⟨⟨e1, e2⟩, e3⟩ := h2
      subst e1 e2
      have h4 : n ≠ k := by
        intro e
        have := hl.1
        subst e
        simp at this
      rw [wrap_i64 (by omega) (by omega)]
      simp [nodeS] at h1 ⊢
      omega
    · rw [if_neg h2]
      simp only [nodeS, Bool.or_eq_true, Bool.and_eq_true, bne_iff_ne, ne_eq, decide_eq_true_eq] at h1 ⊢
      rcases h1 with h1 | ⟨h1, h3⟩
      · exact .inl h1
      · by_cases h6 : o = 4
        · refine .inr ⟨?_, h3⟩
          rcases h1 with h1 | h1
          · exact .inl h1
          · by_cases h5 : h = 1
            · right
              have : ¬ n ≥ k := fun h7 => h2 ⟨⟨h6, h5⟩, h7⟩
              omega
            · exact .inl h5
        · exact .inl h6
theorem nodesS_movedL (c m : Nat) : ∀ (o : Int) (us : List Tm) (i : Nat) (v k : Int), okAllL us = true → 0 ≤ k → k ≤ v → lowL o us i k k = false → nodesSL c m o us i (v + 1) = true → nodesSL c m o (movedL o us i (-1) k) i v = true
  | o, [], i, v, k, _, _, _, _, _ => rfl
  | o, u :: us, i, v, k, hok, hk, hkv, hl, hs => by
    simp only [okAllL, Bool.and_eq_true] at hok
    simp only [lowL, Bool.or_eq_false_iff] at hl
    simp only [nodesSL, Bool.and_eq_true] at hs
    have hu := under_le o i
    simp only [movedL, nodesSL, Bool.and_eq_true]
    have e : v + 1 + under o i = v + under o i + 1 := by omega
    rw [e] at hs
    exact ⟨nodesS_moved c m u _ _ hok.1 (by omega) (by omega) hl.1 hs.1, nodesS_movedL c m o us (i + 1) v k hok.2 hk hkv hl.2 hs.2⟩
 end
mutual
theorem full_moved (sig : List Dc) (b : Int) : ∀ (t : Tm) (k : Int), fullB sig (movedF t b k) = fullB sig t
  | .mk o h n us, k => by
    simp only [movedF, fullB, movedL_length, full_movedL sig b o us 0 k]
    congr 1
    by_cases h1 : (o = 4 ∧ h = 1) ∧ n ≥ k
    · rw [if_pos h1]
      obtain ⟨⟨e1, e2⟩, _⟩ := h1
      subst e1 e2
      simp [nodeF]
    · rw [if_neg h1]
theorem full_movedL (sig : List Dc) (b : Int) : ∀ (o : Int) (us : List Tm) (i : Nat) (k : Int), fullL sig (movedL o us i b k) = fullL sig us
  | o, [], i, k => rfl
  | o, u :: us, i, k => by simp only [movedL, fullL, full_moved sig b u, full_movedL sig b o us]
 end

theorem nodesSL_get {c m : Nat} {o : Int} : ∀ {us : List Tm} {i : Nat} {v : Int} {j : Nat} {u : Tm}, nodesSL c m o us i v = true → us[j]? = some u → nodesS c m u (v + under o ((i + j : Nat) : Int)) = true
  | [], i, v, j, u, _, hu => by simp at hu
  | x :: us, i, v, 0, u, h, hu => by
    simp only [nodesSL, Bool.and_eq_true] at h
    simp at hu; subst hu; exact h.1
  | x :: us, i, v, j + 1, u, h, hu => by
    simp only [nodesSL, Bool.and_eq_true] at h
    have := nodesSL_get h.2 (j := j) (by simpa using hu)
    rw [show i + 1 + j = i + (j + 1) by omega] at this
    exact this
theorem fullL_get {sig : List Dc} : ∀ {us : List Tm} {j : Nat} {u : Tm}, fullL sig us = true → us[j]? = some u → fullB sig u = true
  | [], j, u, _, hu => by simp at hu
  | x :: us, 0, u, h, hu => by
    simp only [fullL, Bool.and_eq_true] at h
    simp at hu; subst hu; exact h.1
  | x :: us, j + 1, u, h, hu => by
    simp only [fullL, Bool.and_eq_true] at h
    exact fullL_get h.2 (by simpa using hu)

theorem proper_arg {t u : Tm} (h : isProper t = true) (hu : u ∈ t.args) : isProper u = true := by
  have h1 := (isProper_iff t).1 h
  rw [isProper_iff]
  have h2 := Tm.height_le hu
  have h3 := arg_count hu
  have h4 := Tm.height_eq t
  exact ⟨okAll_arg h1.1 hu, by omega, by omega⟩

theorem node_ev (o : Int) (s : ByteArray) (l : List Rw) : Ev (fun k => print_node k o s l) (Rw.mk o s l) := by
  refine Ev.succ (fun k => print_node.eq_2 ..) ?_
  exact Ev.pure _

section
variable {sig : List Dc} {metas : List Mt} {names : List ByteArray} (K : Known sig metas names)
include K

/-- Both make the same raw expression of a term whose heads are there. -/
theorem raw_ev : ∀ (c : Nat) (t : Tm) (n : Int), t.count ≤ c → isProper t = true → 0 ≤ n → n + t.height ≤ 90 → nodesS sig.length metas.length t n = true → fullB sig t = true →
    ∃ r, Ev (fun k => print_printer_raw k t n ⟨sig, metas, names.length⟩) (r, 0) ∧ Ev (fun k => R07_Printer_raw k ⟨sig, metas, names⟩ n t) r
  | 0, t, n, hc, _, _, _, _, _ => by have := Tm.count_pos t; omega
  | c + 1, t, n, hc, hp, hn0, hn1, hs, hf => by
    obtain ⟨hok, hh, hcc⟩ := proper_small hp
    have hhe := Tm.height_eq t
    have hcl := Tm.length_le_countL t.args
    have hce := Tm.count_eq t
    have hw : IntKind.i64.wrap (n + 1) = n + 1 := wrap_i64 (by omega) (by omega)
    rw [nodesS_eq, Bool.and_eq_true] at hs
    rw [fullB_eq, Bool.and_eq_true] at hf
    have sub : ∀ (j : Nat) (u : Tm), t.args[j]? = some u → ∀ x : Int, x = n + under t.op (j : Int) → ∃ r, Ev (fun k => print_printer_raw k u x ⟨sig, metas, names.length⟩) (r, 0) ∧ Ev (fun k => R07_Printer_raw k ⟨sig, metas, names⟩ x u) r := by
      intro j u hu x hx
      subst hx
      have hum := List.mem_of_getElem? hu
      have h1 := arg_count hum
      have h2 := Tm.height_le hum
      have h3 := under_le t.op j
      have h4 := nodesSL_get hs.2 hu
      rw [Nat.zero_add] at h4
      exact raw_ev c u _ (by omega) (proper_arg hp hum) (by omega) (by omega) h4 (fullL_get hf.2 hu)
    rcases okAll_op hok with ho | ho | ho | ho
    · refine ⟨Rw.mk 1 (⟨#[]⟩) [], ?_, ?_⟩
      · refine Ev.succ (fun k => print_printer_raw.eq_2 ..) ?_
        exact Ev.t (beqI ho) ((node_ev _ _ _).bind (Ev.pure _))
      · refine Ev.succ (fun k => R07_Printer_raw.eq_2 ..) ?_
        exact Ev.t (beqI ho) (Ev.pure _)
    · obtain ⟨a, b, e, _⟩ := okAll_two hok ho
      have i0 : idx t.args 0 = some a := by rw [e]; rfl
      have i1 : idx t.args 1 = some b := by rw [e]; rfl
      have hbm : b ∈ t.args := by rw [e]; simp
      have hbp := proper_arg hp hbm
      obtain ⟨A, a1, a2⟩ := sub 0 a (by rw [e]; rfl) n (by rw [under]; simp [ho])
      obtain ⟨nm, n1, n2⟩ := name_ev sig metas names K.ok K.long K.first n hn0 (by omega)
      have ub : n + 1 = n + under t.op ((1 : Nat) : Int) := by rw [under]; simp [ho]
      cases hl : lowF b 0 0 with
      | true =>
        obtain ⟨B, b1, b2⟩ := sub 1 b (by rw [e]; rfl) (n + 1) ub
        refine ⟨Rw.mk 5 nm [A, B], ?_, ?_⟩
        · refine Ev.succ (fun k => print_printer_raw.eq_2 ..) ?_
          refine Ev.f (beqI' (by omega)) (Ev.t (beqI ho) ?_)
          refine Ev.bind (x := (Rw.mk 5 nm [A, B], 0)) ?_ (Ev.pure _)
          refine Ev.succ (fun k => print_printer_pi.eq_2 ..) ?_
          refine Ev.some i0 (a1.bind (Ev.f rfl (Ev.some i1 ((occurs_ev hbp).bind ?_))))
          rw [hl]
          refine Ev.t rfl (Ev.some i1 ?_)
          rw [hw]
          exact b1.bind (n1.bind ((node_ev _ _ _).bind (Ev.pure _)))
        · refine Ev.succ (fun k => R07_Printer_raw.eq_2 ..) ?_
          refine Ev.f (beqI' (by omega)) (Ev.t (beqI ho) ?_)
          refine Ev.some i0 (a2.bind (Ev.some i1 ((refOccurs_ev hbp).bind ?_)))
          rw [hl]
          refine Ev.f rfl (Ev.some i1 (n2.bind ?_))
          rw [hw]
          exact b2.bind (Ev.pure _)
      | false =>
        have hbh := Tm.height_le hbm
        have hbc := arg_count hbm
        obtain ⟨hbok, hbh2, hbc2⟩ := proper_small hbp
        have hsb := nodesSL_get hs.2 (j := 1) (u := b) (by rw [e]; rfl)
        rw [Nat.zero_add, ← ub] at hsb
        obtain ⟨B, b1, b2⟩ := raw_ev c (movedF b (-1) 0) n (by rw [moved_count]; omega) (moved_proper hbp hl) hn0 (by rw [moved_height]; omega) (nodesS_moved _ _ b n 0 hbok (by omega) (by omega) hl hsb) (by rw [full_moved]; exact fullL_get hf.2 (j := 1) (by rw [e]; rfl))
        refine ⟨Rw.mk 6 (⟨#[]⟩) [A, B], ?_, ?_⟩
        · refine Ev.succ (fun k => print_printer_raw.eq_2 ..) ?_
          refine Ev.f (beqI' (by omega)) (Ev.t (beqI ho) ?_)
          refine Ev.bind (x := (Rw.mk 6 (⟨#[]⟩) [A, B], 0)) ?_ (Ev.pure _)
          refine Ev.succ (fun k => print_printer_pi.eq_2 ..) ?_
          refine Ev.some i0 (a1.bind (Ev.f rfl (Ev.some i1 ((occurs_ev hbp).bind ?_))))
          rw [hl]
          refine Ev.f rfl (Ev.some i1 ?_)
          have hm : Ev (fun k => term_Moved k b (-1) 0) (movedF b (-1) 0) := by
            refine Ev.succ (fun k => term_Moved.eq_2 ..) ?_
            exact (moved_ev b 0 (by omega) (by omega) (by omega) hbok).bind (Ev.pure _)
          exact hm.bind (b1.bind ((node_ev _ _ _).bind (Ev.pure _)))
        · refine Ev.succ (fun k => R07_Printer_raw.eq_2 ..) ?_
          refine Ev.f (beqI' (by omega)) (Ev.t (beqI ho) ?_)
          refine Ev.some i0 (a2.bind (Ev.some i1 ((refOccurs_ev hbp).bind ?_)))
          rw [hl]
          refine Ev.t rfl (Ev.some i1 ?_)
          have hm : Ev (fun k => R07_lowered k b) (movedF b (-1) 0) := by
            refine Ev.succ (fun k => R07_lowered.eq_2 ..) ?_
            rw [shift_low hbp hl]
            exact Ev.pure _
          exact hm.bind (b2.bind (Ev.pure _))
    · obtain ⟨a, e, _⟩ := okAll_one hok ho
      have i0 : idx t.args 0 = some a := by rw [e]; rfl
      obtain ⟨A, a1, a2⟩ := sub 0 a (by rw [e]; rfl) (n + 1) (by rw [under]; simp [ho])
      obtain ⟨nm, n1, n2⟩ := name_ev sig metas names K.ok K.long K.first n hn0 (by omega)
      refine ⟨Rw.mk 7 nm [Rw.mk 3 (⟨#[]⟩) [], A], ?_, ?_⟩
      · refine Ev.succ (fun k => print_printer_raw.eq_2 ..) ?_
        refine Ev.f (beqI' (by omega)) (Ev.f (beqI' (by omega)) (Ev.t (beqI ho) (Ev.some i0 ?_)))
        rw [hw]
        exact a1.bind (n1.bind ((node_ev _ _ _).bind ((node_ev _ _ _).bind (Ev.pure _))))
      · refine Ev.succ (fun k => R07_Printer_raw.eq_2 ..) ?_
        refine Ev.f (beqI' (by omega)) (Ev.f (beqI' (by omega)) (Ev.t (beqI ho) (Ev.some i0 (n2.bind ?_))))
        rw [hw]
        exact a2.bind (Ev.pure _)
    · obtain ⟨hd, h1, h2, h3⟩ := head_ev K hok ho n hn0 (by omega)
      rw [hs.1, hf.1] at h2
      obtain ⟨h4, h5⟩ := h3 h2
      have hpos := okAll_n hok
      -- how many arguments are left out
      obtain ⟨q, hq, hql, hqr⟩ : ∃ q : Nat, hd.2.1 = (q : Int) ∧ q ≤ t.args.length ∧ (t.hd = 2 → ∃ d, idx sig t.n = some d ∧ d.implicit = (q : Int)) := by
        by_cases hh2 : t.hd = 2
        · have hlt : t.n < (sig.length : Int) := by
            have := hs.1
            simp [nodeS, ho, hh2] at this
            exact this
          obtain ⟨d, hd', hdm⟩ := idx_pre (sig := sig) (n := t.n) hpos.1 hlt
          have hi : impAt sig t.n = d.implicit := by rw [impAt, hd']
          have hfull := hf.1
          simp only [nodeF, ho, hh2, hi] at hfull
          simp at hfull
          have := (sigOK_imp K.ok d hdm).1
          refine ⟨d.implicit.toNat, ?_, by omega, fun _ => ⟨d, hd', by omega⟩⟩
          rw [h5, if_pos hh2, hi]; omega
        · exact ⟨0, by rw [h5, if_neg hh2]; rfl, by omega, fun h => absurd h hh2⟩
      have fold : ∀ (ts : List Tm) (j : Nat) (acc : Rw), t.args.drop (q + j) = ts → q + j + ts.length = t.args.length → ∃ r, Ev (fun k => print_fold_print_printer_raw_1_L1 k (t.args.drop q) n ⟨sig, metas, names.length⟩ acc (j : Int)) (r, 0) ∧ Ev (fun k => R07_Printer_raw_L1 k t ⟨sig, metas, names⟩ n acc ((q + j : Nat) : Int)) r := by
        intro ts
        induction ts with
        | nil =>
          intro j acc hd' hi
          simp only [List.length_nil, Nat.add_zero] at hi
          refine ⟨acc, ?_, ?_⟩
          · refine Ev.succ (fun k => print_fold_print_printer_raw_1_L1.eq_2 ..) ?_
            exact Ev.f (by simp [Tm.encL_length, List.length_drop]; omega) (Ev.pure _)
          · refine Ev.succ (fun k => R07_Printer_raw_L1.eq_2 ..) ?_
            exact Ev.f (by simp [Tm.encL_length]; omega) (Ev.pure _)
        | cons u ts ihl =>
          intro j acc hd' hi
          simp only [List.length_cons] at hi
          have hu := getDrop hd'
          obtain ⟨U, u1, u2⟩ := sub (q + j) u hu n (by rw [under]; simp [ho])
          obtain ⟨r, r1, r2⟩ := ihl (j + 1) (Rw.mk 4 (⟨#[]⟩) [acc, U]) (by rw [← Nat.add_assoc]; exact dropDrop hd') (by omega)
          refine ⟨r, ?_, ?_⟩
          · refine Ev.succ (fun k => print_fold_print_printer_raw_1_L1.eq_2 ..) ?_
            refine Ev.t (by simp [Tm.encL_length, List.length_drop]; omega) ?_
            refine Ev.some (idx_get (by rw [List.getElem?_drop]; exact hu)) ?_
            refine Ev.bind (x := (Rw.mk 4 (⟨#[]⟩) [acc, U], 0)) ?_ ?_
            · refine Ev.succ (fun k => print_printer_raw_1.eq_2 ..) ?_
              exact u1.bind ((node_ev _ _ _).bind (Ev.pure _))
            refine Ev.f rfl ?_
            rw [wrapS (by omega)]
            exact r1
          · refine Ev.succ (fun k => R07_Printer_raw_L1.eq_2 ..) ?_
            refine Ev.t (by simp [Tm.encL_length]; omega) ?_
            refine Ev.some (idx_get hu) (u2.bind ?_)
            rw [wrapS (by omega)]
            exact r2
      obtain ⟨r, r1, r2⟩ := fold (t.args.drop q) 0 (Rw.mk 2 hd.1 []) (by rw [Nat.add_zero]) (by rw [List.length_drop]; omega)
      refine ⟨r, ?_, ?_⟩
      · refine Ev.succ (fun k => print_printer_raw.eq_2 ..) ?_
        refine Ev.f (beqI' (by omega)) (Ev.f (beqI' (by omega)) (Ev.f (beqI' (by omega)) ?_))
        refine h1.bind ?_
        rw [h2, hq]
        refine Ev.f rfl (Ev.need (by rw [Tm.encL_length]; simp; omega) ?_)
        refine (node_ev _ _ _).bind ?_
        rw [Int.toNat_natCast]
        refine Ev.bind (x := (r, 0)) ?_ (Ev.pure _)
        refine Ev.succ (fun k => print_fold_print_printer_raw_1.eq_2 ..) ?_
        exact r1
      · refine Ev.succ (fun k => R07_Printer_raw.eq_2 ..) ?_
        refine Ev.f (beqI' (by omega)) (Ev.f (beqI' (by omega)) (Ev.f (beqI' (by omega)) ?_))
        refine h4.bind ?_
        rw [Nat.add_zero] at r2
        refine Ev.ite (fun h => ?_) (fun h => ?_)
        · have hh2 : t.hd = 2 := by simpa using h
          obtain ⟨d, hd', hdi⟩ := hqr hh2
          refine Ev.some hd' ?_
          rw [hdi]; exact r2
        · have hh2 : t.hd ≠ 2 := by simpa using h
          have : q = 0 := by
            rw [h5, if_neg hh2] at hq
            omega
          subst this
          exact r2
end
end Go.Proofs.YtpibdcjdamibdaaGreatDoor
end

/-! EvV -/
section
namespace Go.Proofs.YtpibdcjdamibdaaGreatDoor
open Go.Tr Go
set_option linter.unusedVariables false
set_option linter.unusedSimpArgs false
set_option maxRecDepth 10000

set_option maxRecDepth 100000 in
theorem awake_at (m : Nat) : W07_awake (m + 60) = some true := by kernel_rfl
theorem awake_ev : Ev (fun k => W07_awake k) true := ⟨60, fun n hn => by
  obtain ⟨m, rfl⟩ : ∃ m, n = m + 60 := ⟨n - 60, by omega⟩
  exact awake_at m⟩

abbrev noRw : Rw := Rw.mk 0 ByteArray.empty []

theorem rawOK_facts {r : Rw} (h : rawOK r = true) : okAll r.sk = true ∧ r.sk.count ≤ 400 := by
  rw [rawOK, properF_iff] at h
  exact ⟨h.1, by omega⟩

/-- What the printer answers to Raw. -/
abbrev okR2 (r : Rw × Int) : Prop := (r.2 = 0 → rawOK r.1 = true) ∧ r.1.sk.count ≤ 1000

theorem kept_ok {r : Rw} (h : rawOK r = true) : Ev (fun k => print_kept k r 0) (r, 0) := by
  refine Ev.succ (fun k => print_kept.eq_2 ..) ?_
  rw [h]
  exact Ev.f rfl (Ev.f rfl (Ev.pure _))
theorem kept_no {r : Rw} (h : rawOK r = false) : Ev (fun k => print_kept k r 0) (noRw, 5) := by
  refine Ev.succ (fun k => print_kept.eq_2 ..) ?_
  rw [h]
  exact Ev.f rfl (Ev.t rfl (Ev.pure _))

theorem noRw_small : noRw.sk.count ≤ 1000 := by decide

/-- Raw and Text of a good signature, metavariables and term. -/
theorem raw_both {sig : List Dc} {metas : List Mt} {t : Tm} (hs : sigOK sig = true) (hm : metas.length ≤ 80) (hmB : metasB metas = true) (hp : isProper t = true) (n : Int) (h0 : 0 ≤ n) (h1 : n ≤ 30) :
    ∃ r, Ev (fun k => print_Raw k sig metas n t) r ∧ Ev (fun k => R07_Printer_Raw k ⟨sig, metas, []⟩ n t) r ∧ okR2 r := by
  have K : Known sig metas [] := ⟨hs, longest_le sig (sigOK_names hs), hm, ⟨by simp, fun i s h => by simp at h⟩⟩
  obtain ⟨hok, hh, hc⟩ := proper_small hp
  have e0 : ((([] : List ByteArray).length : Nat) : Int) = 0 := rfl
  have hsc := scoped_ev K hp n h0 (by omega)
  rw [e0] at hsc
  have hgood := good_ev sig metas t
  rw [hs, decide_eq_true hm, hmB, hp] at hgood
  have start : ∀ {r}, Ev (fun n_1 => (print_printer_scoped n_1 t n (Prt.mk sig metas 0)).bind (fun v12 => cond (v12 != 0) (some ((Rw.mk 0 ByteArray.empty ([])), v12)) ((print_printer_raw n_1 t n (Prt.mk sig metas 0)).bind (fun v15 => (print_kept n_1 v15.1 v15.2).bind (fun v18 => some (v18.1, v18.2)))))) r → Ev (fun k => print_Raw k sig metas n t) r := by
    intro r h
    refine Ev.succ (fun k => print_Raw.eq_2 ..) ?_
    exact hgood.bind (Ev.f (by simp; omega) h)
  cases hS : nodesS sig.length metas.length t n with
  | false =>
    rw [hS] at hsc
    refine ⟨(noRw, 27), start (hsc.bind (Ev.t rfl (Ev.pure _))), ?_, ⟨fun h => (by cases h), noRw_small⟩⟩
    refine Ev.succ (fun k => R07_Printer_Raw.eq_2 ..) ?_
    refine (refScoped_ev sig metas [] hp n h0).bind ?_
    rw [hS]
    exact Ev.t rfl (Ev.pure _)
  | true =>
  have hrs := refScoped_ev sig metas [] hp n h0
  rw [hS] at hsc hrs
  have hrf := refFull_ev sig metas [] t n hok (by omega) hS
  cases hF : fullB sig t with
  | false =>
    rw [hF] at hsc hrf
    refine ⟨(noRw, 23), start (hsc.bind (Ev.t rfl (Ev.pure _))), ?_, ⟨fun h => (by cases h), noRw_small⟩⟩
    refine Ev.succ (fun k => R07_Printer_Raw.eq_2 ..) ?_
    exact hrs.bind (Ev.f rfl (hrf.bind (Ev.t rfl (Ev.pure _))))
  | true =>
  rw [hF] at hsc hrf
  obtain ⟨r, r1, r2⟩ := raw_ev K t.count t n (Nat.le_refl _) hp h0 (by omega) hS hF
  rw [e0] at r1
  cases hr : rawOK r with
  | true =>
    have hk := kept_ok hr
    refine ⟨(r, 0), start (hsc.bind (Ev.f rfl (r1.bind (hk.bind (Ev.pure _))))), ?_, ⟨fun _ => hr, by have := (rawOK_facts hr).2; simp only; omega⟩⟩
    refine Ev.succ (fun k => R07_Printer_Raw.eq_2 ..) ?_
    refine hrs.bind (Ev.f rfl (hrf.bind (Ev.f rfl (r2.bind ?_))))
    rw [hr]
    exact Ev.f rfl (Ev.pure _)
  | false =>
    have hk := kept_no hr
    refine ⟨(noRw, 5), start (hsc.bind (Ev.f rfl (r1.bind (hk.bind (Ev.pure _))))), ?_, ⟨fun h => (by cases h), noRw_small⟩⟩
    refine Ev.succ (fun k => R07_Printer_Raw.eq_2 ..) ?_
    refine hrs.bind (Ev.f rfl (hrf.bind (Ev.f rfl (r2.bind ?_))))
    rw [hr]
    exact Ev.t rfl (Ev.pure _)

theorem syntaxText_ev {r : Rw} (h : rawOK r = true) : ∃ T : ByteArray, Ev (fun k => syntax_Text k r) (T, 0) ∧ Ev (fun k => R02_Text k r) T := by
  obtain ⟨h1, h2⟩ := rawOK_facts h
  obtain ⟨T, t1, t2, t3⟩ := text_ev r.sk.count r h1 (Nat.le_refl _) (by omega)
  refine ⟨T, ?_, t1⟩
  refine Ev.succ (fun k => syntax_Text.eq_2 ..) ?_
  rw [h]
  refine Ev.f rfl ?_
  have e : wr ([].any (fun x => r.op == x)) T = T := rfl
  have := t3 [] (by simp)
  rw [e] at this
  exact this.bind (Ev.pure _)

end Go.Proofs.YtpibdcjdamibdaaGreatDoor
end

/-! EvY -/
section
namespace Go.Proofs.YtpibdcjdamibdaaGreatDoor
open Go.Tr Go
set_option linter.unusedVariables false
set_option linter.unusedSimpArgs false
set_option maxRecDepth 10000

theorem app_toList (s t : ByteArray) : (s ++ t).data.toList = s.data.toList ++ t.data.toList := (congrArg Array.toList ByteArray.data_append).trans Array.toList_append
theorem ba_ext {s t : ByteArray} (h : s.data.toList = t.data.toList) : s = t := by
  cases s; cases t
  simp only [ByteArray.mk.injEq]
  exact Array.toList_inj.1 h
theorem ba_size (s : ByteArray) : s.size = s.data.toList.length := rfl

end Go.Proofs.YtpibdcjdamibdaaGreatDoor
end
