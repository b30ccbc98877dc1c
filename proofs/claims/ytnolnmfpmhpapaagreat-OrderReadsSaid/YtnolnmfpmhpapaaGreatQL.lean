/- Merged texts: EvB EvC EvK EvL EvD EvE. Plain law: sign.Check and trussref05.Formed say the same of a signature. No program in sight. Plain law: what trussref05 says of a class; both forms of a signature. No program in sight. Plain law: the reference's kernel answers, whatever the signature is, if its classes are proper. No program in sight. Plain law: the reference's kernel answers, whatever the signature is, if its classes are proper; so does 'valid'. No program in sight. Plain law: what a directive's order and call are read as, in order.Read and in trussref15.Read. No program in sight. Plain law: OrderReads answers true at every signature and item whose lists are not too long. No program in sight. -/
import Derived.Test.YtnolnmfpmhpapaaGreatQK
/-! EvB -/
section
namespace Go.Proofs.YtnolnmfpmhpapaaGreat
open Go.Tr Go
set_option linter.unusedVariables false
set_option maxRecDepth 10000

theorem okAll_two {t : Tm} (h : okAll t = true) (ho : t.op = 2) : ∃ a b, t.args = [a, b] ∧ okAll a = true ∧ okAll b = true ∧ a.height + 1 ≤ t.height ∧ b.height + 1 ≤ t.height ∧ a.count + b.count + 1 = t.count := by
  cases t with
  | mk o hd n us =>
    simp only [Tm.op] at ho
    subst ho
    simp only [okAll, okNode, Bool.and_eq_true] at h
    have h1 : us.length = 2 := by have := h.1; simp at this; exact this.2
    match us, h1 with
    | [a, b], _ =>
      simp only [okAllL, Bool.and_eq_true] at h
      refine ⟨a, b, rfl, h.2.1, h.2.2.1, ?_, ?_, ?_⟩
      · simp only [Tm.height, Tm.heightL]; omega
      · simp only [Tm.height, Tm.heightL]; omega
      · simp only [Tm.count, Tm.countL]; omega

theorem okAll_one {t : Tm} (h : okAll t = true) (ho : t.op = 3) : ∃ a, t.args = [a] ∧ okAll a = true ∧ a.height + 1 ≤ t.height ∧ a.count + 1 = t.count := by
  cases t with
  | mk o hd n us =>
    simp only [Tm.op] at ho
    subst ho
    simp only [okAll, okNode, Bool.and_eq_true] at h
    have h1 : us.length = 1 := by have := h.1; simp at this; exact this.2
    match us, h1 with
    | [a], _ =>
      simp only [okAllL, Bool.and_eq_true] at h
      refine ⟨a, rfl, h.2.1, ?_, ?_⟩
      · simp only [Tm.height, Tm.heightL]; omega
      · simp only [Tm.count, Tm.countL]

theorem okAll_op {t : Tm} (h : okAll t = true) : t.op = 1 ∨ t.op = 2 ∨ t.op = 3 ∨ t.op = 4 := by
  cases t with
  | mk o hd n us =>
    simp only [okAll, okNode, Bool.and_eq_true] at h
    simp only [Tm.op]
    have h1 := h.1
    by_cases h2 : o = 1
    · exact .inl h2
    by_cases h3 : o = 2
    · exact .inr (.inl h3)
    by_cases h4 : o = 3
    · exact .inr (.inr (.inl h4))
    by_cases h5 : o = 4
    · exact .inr (.inr (.inr h5))
    · simp [h2, h3, h4, h5] at h1

/-- The domains of the outermost TPis, behind some that were there, and what is within. -/
def spl : Nat → Tm → List Tm → List Tm × Tm
  | 0, t, l => (l, t)
  | n + 1, t, l => if t.op = 2 then match t.args with
    | a :: b :: _ => spl n b (l ++ [a])
    | _ => (l, t)
    else (l, t)
def split (t : Tm) : List Tm × Tm := spl t.height t []

theorem spl_more : ∀ (n m : Nat) (t : Tm) (l : List Tm), okAll t = true → t.height ≤ n → t.height ≤ m → spl n t l = spl m t l
  | 0, m, t, l, hok, hn, _ => by have := Tm.height_pos t; omega
  | n + 1, 0, t, l, hok, _, hm => by have := Tm.height_pos t; omega
  | n + 1, m + 1, t, l, hok, hn, hm => by
    simp only [spl]
    by_cases h : t.op = 2
    · rw [if_pos h, if_pos h]
      obtain ⟨a, b, e, _, hb, _, hh, _⟩ := okAll_two hok h
      rw [e]
      exact spl_more n m b _ hb (by omega) (by omega)
    · rw [if_neg h, if_neg h]

theorem spl_rest : ∀ (n : Nat) (t : Tm) (l : List Tm), okAll t = true → t.height ≤ n → (spl n t l).2.op ≠ 2 ∧ okAll (spl n t l).2 = true ∧ (spl n t l).2.count ≤ t.count ∧ (spl n t l).2.height ≤ t.height ∧ (spl n t l).1.length + (spl n t l).2.height ≤ l.length + t.height
  | 0, t, l, hok, hn => by have := Tm.height_pos t; omega
  | n + 1, t, l, hok, hn => by
    simp only [spl]
    by_cases h : t.op = 2
    · rw [if_pos h]
      obtain ⟨a, b, e, _, hb, _, hh, hc⟩ := okAll_two hok h
      simp only [e]
      have := spl_rest n b (l ++ [a]) hb (by omega)
      simp only [List.length_append, List.length_cons, List.length_nil] at this
      exact ⟨this.1, this.2.1, by omega, by omega, by omega⟩
    · rw [if_neg h]
      exact ⟨h, hok, Nat.le_refl _, Nat.le_refl _, Nat.le_refl _⟩

theorem Tm.length_le_countL : ∀ (us : List Tm), us.length ≤ Tm.countL us
  | [] => Nat.le_refl _
  | u :: us => by have := Tm.length_le_countL us; have := Tm.count_pos u; simp only [List.length_cons, Tm.countL]; omega

theorem beqI {a b : Int} (h : a = b) : (a == b) = true := by simp [h]
theorem beqI' {a b : Int} (h : a ≠ b) : (a == b) = false := by simp [h]
theorem bneI {a b : Int} (h : a ≠ b) : (a != b) = true := by simp [h]
theorem bneI' {a b : Int} (h : a = b) : (a != b) = false := by simp [h]

theorem split_evL : ∀ (n : Nat) (t : Tm) (l : List Tm), okAll t = true → t.height ≤ n → l.length + t.height ≤ 1000000 → Ev (fun k => R03_Split_L1 k t l) (spl n t l)
  | 0, t, l, hok, hn, _ => by have := Tm.height_pos t; omega
  | n + 1, t, l, hok, hn, hl => by
    refine Ev.succ (fun k => R03_Split_L1.eq_2 ..) ?_
    simp only [spl]
    by_cases h : t.op = 2
    · obtain ⟨a, b, e, _, hb, _, hh, _⟩ := okAll_two hok h
      rw [if_pos h, e]
      refine Ev.t (beqI h) ?_
      refine Ev.some idx_get0 ?_
      refine Ev.need (by simp [Tm.encL_length]; omega) ?_
      refine Ev.some idx_get1 ?_
      exact split_evL n b _ hb (by omega) (by simp; omega)
    · rw [if_neg h]
      refine Ev.f (beqI' h) ?_
      exact Ev.pure _

theorem split_ev {t : Tm} (hok : okAll t = true) (hh : t.height ≤ 1000000) : Ev (fun k => R03_Split k t) (split t) := by
  refine Ev.succ (fun k => R03_Split.eq_2 ..) ?_
  exact split_evL t.height t [] hok (Nat.le_refl _) (by simpa using hh)

theorem domains_evL : ∀ (n : Nat) (t : Tm) (l : List Tm), okAll t = true → t.height ≤ n → l.length + t.height ≤ 1000000 → Ev (fun k => term_Domains_L1 k t l) (spl n t l)
  | 0, t, l, hok, hn, _ => by have := Tm.height_pos t; omega
  | n + 1, t, l, hok, hn, hl => by
    refine Ev.succ (fun k => term_Domains_L1.eq_2 ..) ?_
    simp only [spl]
    by_cases h : t.op = 2
    · obtain ⟨a, b, e, _, hb, _, hh, _⟩ := okAll_two hok h
      rw [if_pos h, e]
      refine Ev.t (beqI h) ?_
      refine Ev.some idx_get0 ?_
      refine Ev.need (by simp [Tm.encL_length]; omega) ?_
      refine Ev.some idx_get1 ?_
      exact domains_evL n b _ hb (by omega) (by simp; omega)
    · rw [if_neg h]
      refine Ev.f (beqI' h) ?_
      exact Ev.pure _

theorem domains_ev {t : Tm} (hok : okAll t = true) (hh : t.height ≤ 1000000) : Ev (fun k => term_Domains k t) (split t) := by
  refine Ev.succ (fun k => term_Domains.eq_2 ..) ?_
  exact domains_evL t.height t [] hok (Nat.le_refl _) (by simpa using hh)

def kindT (t : Tm) : Bool := (split t).2.op == 1

theorem kind_ev {t : Tm} (hok : okAll t = true) (hh : t.height ≤ 1000000) : Ev (fun k => sign_kind k t) (kindT t) := by
  refine Ev.succ (fun k => sign_kind.eq_2 ..) ?_
  exact (domains_ev hok hh).bind (Ev.pure _)

theorem target_ev {t : Tm} (hok : okAll t = true) (hh : t.height ≤ 1000000) : Ev (fun k => sign_target k t) ((split t).2.n, ((split t).2.op == 4) && ((split t).2.hd == 2)) := by
  refine Ev.succ (fun k => sign_target.eq_2 ..) ?_
  exact (domains_ev hok hh).bind (Ev.pure _)

theorem family_ev {sig : List Dc} {n : Int} {d : Dc} (hd : idx sig n = some d) (hok : okAll d.cls = true) (hh : d.cls.height ≤ 1000000) : Ev (fun k => R05_family k sig n) (kindT d.cls) := by
  refine Ev.succ (fun k => R05_family.eq_2 ..) ?_
  refine Ev.some hd ?_
  exact (split_ev hok hh).bind (Ev.pure _)

theorem isFamily_ev {sig : List Dc} {n : Int} {d : Dc} (hd : idx sig n = some d) (hok : okAll d.cls = true) (hh : d.cls.height ≤ 1000000) : Ev (fun k => R05_IsFamily k sig n) (kindT d.cls) := by
  refine Ev.succ (fun k => R05_IsFamily.eq_2 ..) ?_
  exact (family_ev hd hok hh).bind (Ev.pure _)

theorem signFamily_ev {sig : List Dc} {n : Int} {d : Dc} (hd : idx sig n = some d) (hok : okAll d.cls = true) (hh : d.cls.height ≤ 1000000) : Ev (fun k => sign_Family k sig n) (kindT d.cls) := by
  refine Ev.succ (fun k => sign_Family.eq_2 ..) ?_
  refine Ev.some hd ?_
  exact (kind_ev hok hh).bind (Ev.pure _)

/-! what stands at the nodes -/
def nodeB (o h n k : Int) (m : Nat) : Bool := (o != 4) || (((h != 3) && ((h != 1) || decide (n < k))) && ((h != 2) || decide (n < (m : Int))))
mutual
def nodesB (m : Nat) : Tm → Int → Bool
  | .mk o h n us, k => nodeB o h n k m && nodesBL m o us 0 k
def nodesBL (m : Nat) : Int → List Tm → Nat → Int → Bool
  | _, [], _, _ => true
  | o, u :: us, i, k => nodesB m u (k + under o i) && nodesBL m o us (i + 1) k
 end

theorem under_ev (t : Tm) (i : Int) : Ev (fun k => term_Under k t i) (under t.op i) := by
  refine Ev.succ (fun k => term_Under.eq_2 ..) ?_
  by_cases h : t.op = 3 ∨ t.op = 2 ∧ i = 1
  · rw [under, if_pos h]
    exact Ev.t (by simpa using h) (Ev.pure _)
  · rw [under, if_neg h]
    exact Ev.f (by simpa using h) (Ev.pure _)

mutual
theorem each_ev (sig : List Dc) : ∀ (t : Tm) (k : Int) (b : Bool), 0 ≤ k → k + t.height ≤ 1000000 → t.count ≤ 1000000 → Ev (fun n => term_Each_sign_formed_1 n t k b sig) (b && nodesB sig.length t k)
  | .mk o h n us, k, b, hk0, hk1, hc => by
    refine Ev.succ (fun n => term_Each_sign_formed_1.eq_2 ..) ?_
    have h1 : Ev (fun q => sign_formed_1 q (.mk o h n us) k b sig) (b && nodeB o h n k sig.length) := by
      refine Ev.succ (fun n => sign_formed_1.eq_2 ..) ?_
      refine Ev.ite (fun h1 => ?_) (fun h1 => ?_)
      · have h1 : o ≠ 4 := by simpa [Tm.op] using h1
        refine (Ev.pure b).eq ?_
        simp [nodeB, h1]
      · have h1 : o = 4 := by simpa [Tm.op] using h1
        refine (Ev.pure _).eq ?_
        simp only [nodeB, h1, Tm.hd, Tm.n, Dc.encL_length]
        cases b with
        | false => simp
        | true => simp; rfl
    refine h1.bind ?_
    have hl := each_evL sig o h n us (by have := Tm.length_le_countL us; rw [Tm.count_eq] at hc; simp only [Tm.args] at hc; omega) us k (b && nodeB o h n k sig.length) 0 rfl hk0 (by rw [Tm.height_eq] at hk1; simp only [Tm.args] at hk1; omega) (by rw [Tm.count_eq] at hc; simp only [Tm.args] at hc; omega) (by simp)
    refine hl.eq ?_
    simp only [nodesB, Bool.and_assoc]
theorem each_evL (sig : List Dc) (o h n : Int) (us : List Tm) (hus : us.length ≤ 1000000) : ∀ (ts : List Tm) (k : Int) (b : Bool) (i : Nat), us.drop i = ts → 0 ≤ k → k + 1 + Tm.heightL ts ≤ 1000000 → Tm.countL ts ≤ 1000000 → i + ts.length = us.length → Ev (fun q => term_Each_sign_formed_1_L1 q (.mk o h n us) k sig b (i : Int)) (b && nodesBL sig.length o ts i k)
  | [], k, b, i, hd, hk0, hk1, hc, hi => by
    refine Ev.succ (fun n => term_Each_sign_formed_1_L1.eq_2 ..) ?_
    simp only [List.length_nil, Nat.add_zero] at hi
    refine Ev.f (by simp [Tm.encL_length, Tm.args, hi]) ?_
    refine (Ev.pure b).eq ?_
    simp [nodesBL]
  | u :: ts, k, b, i, hd, hk0, hk1, hc, hi => by
    refine Ev.succ (fun n => term_Each_sign_formed_1_L1.eq_2 ..) ?_
    simp only [List.length_cons] at hi
    have hu : us[i]? = some u := by
      have := congrArg (fun l => l[0]?) hd
      simpa using this
    have hul := under_le o i
    simp only [Tm.heightL, Tm.countL] at hk1 hc
    refine Ev.t (by simp [Tm.encL_length, Tm.args]; omega) ?_
    refine Ev.some (idx_get hu) ?_
    refine (under_ev _ _).bind ?_
    have hw : IntKind.i64.wrap (k + under o i) = k + under o i := wrap_i64 (by omega) (by omega)
    simp only [Tm.op, hw]
    refine (each_ev sig u (k + under o i) b (by omega) (by omega) (by omega)).bind ?_
    simp only [wrapS (show i < 2000000000000000000 by omega)]
    refine (each_evL sig o h n us hus ts k _ (i + 1) (by rw [← List.drop_drop, hd]; rfl) hk0 (by omega) (by omega) (by omega)).eq ?_
    simp only [nodesBL, Bool.and_assoc]
 end
end Go.Proofs.YtnolnmfpmhpapaaGreat
end

/-! EvC -/
section
namespace Go.Proofs.YtnolnmfpmhpapaaGreat
open Go.Tr Go
set_option linter.unusedVariables false
set_option linter.unusedSimpArgs false
set_option maxRecDepth 10000

theorem nb {b : Bool} (h : (!b) = true) : b = false := by cases b <;> simp_all
theorem nb' {b : Bool} (h : (!b) = false) : b = true := by cases b <;> simp_all

/-- The numbers that a kind of heads has. -/
def occN (hd o h n k : Int) : List Int := if o = 4 ∧ h = hd then (if hd ≠ 1 then [n] else if n ≥ k then [n - k] else []) else []
mutual
def occ (hd : Int) : Tm → Int → List Int
  | .mk o h n us, k => occN hd o h n k ++ occL hd o us 0 k
def occL (hd : Int) : Int → List Tm → Nat → Int → List Int
  | _, [], _, _ => []
  | o, u :: us, i, k => occ hd u (k + under o i) ++ occL hd o us (i + 1) k
 end

mutual
theorem headsF_mem (hd x : Int) : ∀ (t : Tm) (k : Int) (l : List Int), okAll t = true → 0 ≤ k → k + t.height ≤ 1000000 → (x ∈ headsF hd t k l ↔ x ∈ l ∨ x ∈ occ hd t k)
  | .mk o h n us, k, l, hok, hk0, hk1 => by
    have hn := okAll_n hok
    simp only [Tm.n] at hn
    simp only [okAll, Bool.and_eq_true] at hok
    rw [Tm.height_eq] at hk1
    simp only [Tm.args] at hk1
    simp only [headsF, occ, List.mem_append]
    rw [headsF_memL hd x o us 0 k _ hok.2 hk0 (by omega)]
    rw [← or_assoc]
    apply or_congr _ Iff.rfl
    unfold occN
    by_cases h1 : o = 4 ∧ h = hd
    · rw [if_pos h1, if_pos h1]
      by_cases h2 : hd ≠ 1
      · rw [if_pos h2, if_pos h2, mem_putF]; simp [or_comm]
      · rw [if_neg h2, if_neg h2]
        by_cases h3 : n ≥ k
        · rw [if_pos h3, if_pos h3, mem_putF, wrap_i64 (by omega) (by omega)]; simp [or_comm]
        · rw [if_neg h3, if_neg h3]; simp
    · rw [if_neg h1, if_neg h1]; simp
theorem headsF_memL (hd x : Int) : ∀ (o : Int) (us : List Tm) (i : Nat) (k : Int) (l : List Int), okAllL us = true → 0 ≤ k → k + 1 + Tm.heightL us ≤ 1000000 → (x ∈ headsL hd o us i k l ↔ x ∈ l ∨ x ∈ occL hd o us i k)
  | o, [], i, k, l, _, _, _ => by simp [headsL, occL]
  | o, u :: us, i, k, l, hok, hk0, hk1 => by
    simp only [okAllL, Bool.and_eq_true] at hok
    simp only [Tm.heightL] at hk1
    have hu := under_le o i
    simp only [headsL, occL, List.mem_append]
    rw [headsF_memL hd x o us (i + 1) k _ hok.2 hk0 (by omega), headsF_mem hd x u (k + under o i) l hok.1 (by omega) (by omega), or_assoc]
 end

mutual
theorem headsF_sorted (hd : Int) : ∀ (t : Tm) (k : Int) (l : List Int), l.Pairwise (· < ·) → (headsF hd t k l).Pairwise (· < ·)
  | .mk o h n us, k, l, hl => by
    simp only [headsF]
    refine headsF_sortedL hd o us 0 k _ ?_
    split
    · split
      · exact putF_sorted _ _ hl
      · split
        · exact putF_sorted _ _ hl
        · exact hl
    · exact hl
theorem headsF_sortedL (hd : Int) : ∀ (o : Int) (us : List Tm) (i : Nat) (k : Int) (l : List Int), l.Pairwise (· < ·) → (headsL hd o us i k l).Pairwise (· < ·)
  | o, [], i, k, l, hl => by simpa [headsL] using hl
  | o, u :: us, i, k, l, hl => by
    simp only [headsL]
    exact headsF_sortedL hd o us (i + 1) k _ (headsF_sorted hd u _ l hl)
 end

mutual
theorem nodesB_occ (m : Nat) : ∀ (t : Tm) (k : Int), okAll t = true → (nodesB m t k = true ↔ occ 1 t k = [] ∧ occ 3 t k = [] ∧ ∀ x ∈ occ 2 t k, x < (m : Int))
  | .mk o h n us, k, hok => by
    have hhd : o = 4 → h = 1 ∨ h = 2 ∨ h = 3 := by
      intro e
      simp only [okAll, Bool.and_eq_true] at hok
      have h1 := hok.1
      subst e
      simp [okNode] at h1
      omega
    simp only [okAll, Bool.and_eq_true] at hok
    have hl := nodesB_occL m o us 0 k hok.2
    simp only [nodesB, occ, Bool.and_eq_true, hl, List.append_eq_nil_iff, List.mem_append]
    have hn : nodeB o h n k m = true ↔ occN 1 o h n k = [] ∧ occN 3 o h n k = [] ∧ ∀ x ∈ occN 2 o h n k, x < (m : Int) := by
      unfold nodeB occN
      by_cases h4 : o = 4
      · rcases hhd h4 with rfl | rfl | rfl
        · subst h4
          by_cases hh : n < k
          · simp [hh]
          · simp [hh]
        · subst h4; simp
        · subst h4; simp
      · simp [h4]
    rw [hn]
    constructor
    · rintro ⟨⟨a, b, c⟩, d, e, f⟩
      exact ⟨⟨a, d⟩, ⟨b, e⟩, fun x hx => hx.elim (c x) (f x)⟩
    · rintro ⟨⟨a, d⟩, ⟨b, e⟩, f⟩
      exact ⟨⟨a, b, fun x hx => f x (.inl hx)⟩, d, e, fun x hx => f x (.inr hx)⟩
theorem nodesB_occL (m : Nat) : ∀ (o : Int) (us : List Tm) (i : Nat) (k : Int), okAllL us = true → (nodesBL m o us i k = true ↔ occL 1 o us i k = [] ∧ occL 3 o us i k = [] ∧ ∀ x ∈ occL 2 o us i k, x < (m : Int))
  | o, [], i, k, _ => by simp [nodesBL, occL]
  | o, u :: us, i, k, hok => by
    simp only [okAllL, Bool.and_eq_true] at hok
    have h1 := nodesB_occ m u (k + under o i) hok.1
    have h2 := nodesB_occL m o us (i + 1) k hok.2
    simp only [nodesBL, occL, Bool.and_eq_true, h1, h2, List.append_eq_nil_iff, List.mem_append]
    constructor
    · rintro ⟨⟨a, b, c⟩, d, e, f⟩
      exact ⟨⟨a, d⟩, ⟨b, e⟩, fun x hx => hx.elim (c x) (f x)⟩
    · rintro ⟨⟨a, d⟩, ⟨b, e⟩, f⟩
      exact ⟨⟨a, b, fun x hx => f x (.inl hx)⟩, d, e, fun x hx => f x (.inr hx)⟩
 end

theorem headsF_nil (hd : Int) (t : Tm) (hok : okAll t = true) (hh : t.height ≤ 1000000) : (headsF hd t 0 []).isEmpty = (occ hd t 0).isEmpty := by
  rw [Bool.eq_iff_iff, List.isEmpty_iff, List.isEmpty_iff]
  have hm := fun x => headsF_mem hd x t 0 [] hok (by omega) (by omega)
  constructor
  · intro e
    apply List.eq_nil_iff_forall_not_mem.2
    intro x hx
    have := (hm x).2 (.inr hx)
    rw [e] at this; cases this
  · intro e
    apply List.eq_nil_iff_forall_not_mem.2
    intro x hx
    have := (hm x).1 hx
    rw [e] at this; simp at this

theorem heads_len (hd : Int) (t : Tm) (hok : okAll t = true) (hh : t.height ≤ 1000000) : (((List.map (D.int .i64) (headsF hd t 0 [])).length : Int) == 0) = (occ hd t 0).isEmpty := by
  rw [← headsF_nil hd t hok hh, List.length_map]
  cases headsF hd t 0 [] with
  | nil => rfl
  | cons a l => simp; omega

theorem sorted_last : ∀ (l : List Int), l.Pairwise (· < ·) → ∀ (y : Int), l[l.length - 1]? = some y → ∀ x ∈ l, x ≤ y
  | [], _, y, h, x, hx => by cases hx
  | [a], _, y, h, x, hx => by simp at h hx; omega
  | a :: b :: l, hp, y, h, x, hx => by
    rw [List.pairwise_cons] at hp
    have h' : (b :: l)[(b :: l).length - 1]? = some y := by simpa using h
    rcases List.mem_cons.1 hx with e | e
    · subst e
      have := hp.1 y (List.mem_of_getElem? h'); omega
    · exact sorted_last (b :: l) hp.2 y h' x e

theorem refFree_ev {t : Tm} (hh : t.height ≤ 1000000) (hc : t.count ≤ 1000000) : Ev (fun k => R03_Free k t) (headsF 1 t 0 []) := by
  refine Ev.succ (fun k => R03_Free.eq_2 ..) ?_
  exact Ev.need (by simp; omega) (Ev.pure _)
theorem refConstants_ev {t : Tm} (hh : t.height ≤ 1000000) (hc : t.count ≤ 1000000) : Ev (fun k => R03_Constants k t) (headsF 2 t 0 []) := by
  refine Ev.succ (fun k => R03_Constants.eq_2 ..) ?_
  exact Ev.need (by simp; omega) (Ev.pure _)
theorem refMetas_ev {t : Tm} (hh : t.height ≤ 1000000) (hc : t.count ≤ 1000000) : Ev (fun k => R03_Metas k t) (headsF 3 t 0 []) := by
  refine Ev.succ (fun k => R03_Metas.eq_2 ..) ?_
  exact Ev.need (by simp; omega) (Ev.pure _)

theorem heads_count (hd : Int) : ∀ (t : Tm) (k : Int) (l : List Int), (headsF hd t k l).length ≤ l.length + t.count := headsF_length hd

theorem closed_ev {t : Tm} (m : Nat) (hok : okAll t = true) (hh : t.height ≤ 1000) (hc : t.count ≤ 1000) : Ev (fun k => R05_closed k t (m : Int)) (nodesB m t 0) := by
  refine Ev.succ (fun k => R05_closed.eq_2 ..) ?_
  refine (refConstants_ev (by omega) (by omega)).bind ?_
  refine (refFree_ev (by omega) (by omega)).bind ?_
  have hocc := nodesB_occ m t 0 hok
  have e1 := heads_len 1 t hok (by omega)
  have e2 := heads_len 2 t hok (by omega)
  have e3 := heads_len 3 t hok (by omega)
  refine Ev.ite (fun h1 => ?_) (fun h1 => ?_)
  · rw [e1, List.isEmpty_iff] at h1
    refine (refMetas_ev (by omega) (by omega)).bind ?_
    refine Ev.ite (fun h3 => ?_) (fun h3 => ?_)
    · rw [e3, List.isEmpty_iff] at h3
      refine Ev.ite (fun h2 => ?_) (fun h2 => ?_)
      · rw [e2, List.isEmpty_iff] at h2
        refine (Ev.pure true).eq ?_
        symm
        rw [hocc]
        exact ⟨h1, h3, by rw [h2]; simp⟩
      · have hne : headsF 2 t 0 [] ≠ [] := by
          intro e; rw [e] at h2; simp at h2
        have hlen : 0 < (headsF 2 t 0 []).length := List.length_pos_iff.2 hne
        have hlc := heads_count 2 t 0 []
        simp only [List.length_nil] at hlc
        obtain ⟨y, hy⟩ : ∃ y, (headsF 2 t 0 [])[(headsF 2 t 0 []).length - 1]? = some y := ⟨_, List.getElem?_eq_getElem (by omega)⟩
        have hw : IntKind.i64.wrap (((List.map (D.int .i64) (headsF 2 t 0 [])).length : Int) - 1) = (((headsF 2 t 0 []).length - 1 : Nat) : Int) := by
          rw [List.length_map, wrap_i64 (by omega) (by omega)]; omega
        rw [hw]
        refine Ev.some (idx_get hy) ?_
        refine (Ev.pure _).eq ?_
        rw [Bool.eq_iff_iff, decide_eq_true_eq, hocc]
        have hm := fun x => headsF_mem 2 x t 0 [] hok (by omega) (by omega)
        constructor
        · intro h
          refine ⟨h1, h3, fun x hx => ?_⟩
          have := sorted_last _ (headsF_sorted 2 t 0 [] .nil) y hy x ((hm x).2 (.inr hx))
          omega
        · rintro ⟨_, _, h⟩
          refine h y ?_
          have := (hm y).1 (List.mem_of_getElem? hy)
          simpa using this
    · rw [e3] at h3
      refine (Ev.pure false).eq ?_
      symm
      rw [Bool.eq_false_iff, ne_eq, hocc]
      rintro ⟨_, h, _⟩
      rw [h] at h3; cases h3
  · rw [e1] at h1
    refine (Ev.pure false).eq ?_
    symm
    rw [Bool.eq_false_iff, ne_eq, hocc]
    rintro ⟨h, _, _⟩
    rw [h] at h1; cases h1


/-- A class proper, and small. -/
theorem proper_small {t : Tm} (h : isProper t = true) : okAll t = true ∧ t.height ≤ 40 ∧ t.count ≤ 600 := by
  have := (isProper_iff t).1 h
  exact ⟨this.1, this.2.2, this.2.1⟩

def kindAt (sig : List Dc) (n : Int) : Bool := match idx sig n with
  | some d => kindT d.cls
  | none => false

/-- A constant can stand behind others. -/
def declOK (pre : List Dc) (d : Dc) : Bool := ((isSmallF d.name && !(d.name.toList == tyB.toList)) && isProper d.cls && nodesB pre.length d.cls 0 && !pre.any (fun x => x.name.toList == d.name.toList)) &&
  ((((split d.cls).2.op == 1) || (((split d.cls).2.op == 4) && ((split d.cls).2.hd == 2) && kindAt pre (split d.cls).2.n)) && decide (0 ≤ d.implicit) && decide (d.implicit ≤ ((split d.cls).1.length : Int)))

def sigG : List Dc → List Dc → Bool
  | _, [] => true
  | pre, d :: r => declOK pre d && sigG (pre ++ [d]) r

theorem declOK_proper {pre : List Dc} {d : Dc} (h : declOK pre d = true) : isProper d.cls = true := by
  simp only [declOK, Bool.and_eq_true] at h
  exact h.1.1.1.2

/-- What the head of the rest of a class whose nodes are right is. -/
theorem spl_node (m : Nat) : ∀ (n : Nat) (t : Tm) (l : List Tm) (k : Int), okAll t = true → t.height ≤ n → nodesB m t k = true → (spl n t l).2.op = 4 → (spl n t l).2.hd = 2 → 0 ≤ (spl n t l).2.n ∧ (spl n t l).2.n < (m : Int)
  | 0, t, l, k, hok, hn, _, _, _ => by have := Tm.height_pos t; omega
  | n + 1, t, l, k, hok, hn, hb, h4, h2 => by
    simp only [spl] at h4 h2 ⊢
    by_cases h : t.op = 2
    · rw [if_pos h] at h4 h2 ⊢
      obtain ⟨a, b, e, _, hbo, _, hh, hc⟩ := okAll_two hok h
      simp only [e] at h4 h2 ⊢
      cases t with
      | mk o hd q us =>
        simp only [Tm.args] at e
        subst e
        simp only [nodesB, nodesBL, Bool.and_eq_true] at hb
        exact spl_node m n b _ _ hbo (by omega) hb.2.2.1 h4 h2
    · rw [if_neg h] at h4 h2 ⊢
      have hnn := okAll_n hok
      cases t with
      | mk o hd q us =>
        simp only [Tm.op, Tm.hd, Tm.n] at h4 h2 hnn ⊢
        subst h4 h2
        simp only [nodesB, nodeB, Bool.and_eq_true] at hb
        have := hb.1
        simp at this
        exact ⟨hnn.1, this⟩

theorem idx_pre {sig : List Dc} {n : Int} (h0 : 0 ≤ n) (h1 : n < (sig.length : Int)) : ∃ d, idx sig n = some d ∧ d ∈ sig := by
  obtain ⟨k, rfl⟩ : ∃ k : Nat, n = k := ⟨n.toNat, by omega⟩
  have : k < sig.length := by omega
  exact ⟨sig[k], by rw [idx_nat]; exact List.getElem?_eq_getElem this, List.getElem_mem this⟩

theorem refName_ev (s : ByteArray) : Ev (fun k => R05_IsName k s) (isSmallF s && !(s.toList == tyB.toList)) := by
  refine Ev.succ (fun k => R05_IsName.eq_2 ..) ?_
  exact Ev.pure _
theorem signName_ev (s : ByteArray) : Ev (fun k => sign_name k s) (isSmallF s && !(s.toList == tyB.toList)) := by
  refine Ev.succ (fun k => sign_name.eq_2 ..) ?_
  exact Ev.pure _

def headOK (pre : List Dc) (d : Dc) : Bool := ((((split d.cls).2.op == 1) || (((split d.cls).2.op == 4) && ((split d.cls).2.hd == 2) && kindAt pre (split d.cls).2.n)) && decide (0 ≤ d.implicit) && decide (d.implicit ≤ ((split d.cls).1.length : Int)))

theorem split_facts {t : Tm} (h : isProper t = true) : (split t).2.op ≠ 2 ∧ okAll (split t).2 = true ∧ (split t).2.count ≤ 600 ∧ (split t).2.height ≤ 40 ∧ (split t).1.length ≤ 40 := by
  obtain ⟨hok, hh, hc⟩ := proper_small h
  have := spl_rest t.height t [] hok (Nat.le_refl _)
  have hp := Tm.height_pos (split t).2
  have e : split t = spl t.height t [] := rfl
  rw [← e] at this
  simp only [List.length_nil] at this
  refine ⟨this.1, this.2.1, by omega, by omega, by omega⟩

theorem kindAt_ev {pre : List Dc} (hpre : ∀ x ∈ pre, isProper x.cls = true) {n : Int} (h0 : 0 ≤ n) (h1 : n < (pre.length : Int)) : Ev (fun k => R05_family k pre n) (kindAt pre n) := by
  obtain ⟨d, hd, hm⟩ := idx_pre h0 h1
  obtain ⟨hok, hh, _⟩ := proper_small (hpre d hm)
  rw [kindAt, hd]
  exact family_ev hd hok (by omega)

theorem formed_evL (pre : List Dc) (d : Dc) (hpre : ∀ x ∈ pre, isProper x.cls = true) (hlen : pre.length ≤ 1000) (hp : isProper d.cls = true) (hn : nodesB pre.length d.cls 0 = true) :
    ∀ (post : List Dc) (i : Nat), pre.drop i = post → i + post.length = pre.length → Ev (fun k => R05_formed_L1 k pre d (i : Int)) (!post.any (fun x => x.name.toList == d.name.toList) && headOK pre d)
  | [], i, hd, hi => by
    simp only [List.length_nil, Nat.add_zero] at hi
    refine Ev.succ (fun k => R05_formed_L1.eq_2 ..) ?_
    refine Ev.f (by simp [Dc.encL_length, hi]) ?_
    obtain ⟨hok, hh, hc⟩ := proper_small hp
    obtain ⟨s1, s2, s3, s4, s5⟩ := split_facts hp
    have hnode := spl_node pre.length d.cls.height d.cls [] 0 hok (Nat.le_refl _) hn
    have e : spl d.cls.height d.cls [] = split d.cls := rfl
    rw [e] at hnode
    refine (split_ev hok (by omega)).bind ?_
    simp only [List.any_nil, Bool.not_false, Bool.true_and, headOK]
    refine Ev.ite (fun h4 => ?_) (fun h4 => ?_)
    · have h4' : (split d.cls).2.op = 4 := by simpa using h4
      refine Ev.ite (fun h2 => ?_) (fun h2 => ?_)
      · have h2' : ((split d.cls).2.hd == 2) = false := by simpa using h2
        refine (Ev.pure false).eq ?_
        rw [h2', h4']; simp
      · have h2' : (split d.cls).2.hd = 2 := by simpa using h2
        obtain ⟨n0, n1⟩ := hnode h4' h2'
        refine (kindAt_ev hpre n0 n1).bind ?_
        refine Ev.ite (fun h5 => ?_) (fun h5 => ?_)
        · refine (Ev.pure false).eq ?_
          have h5 : kindAt pre (split d.cls).2.n = false := by simpa using h5
          rw [h5, h4']; simp
        · refine (Ev.pure _).eq ?_
          have h5 : kindAt pre (split d.cls).2.n = true := by simpa using h5
          rw [h5, h4', h2']; simp [Tm.encL_length]
    · refine (Ev.pure _).eq ?_
      have h4' : ((split d.cls).2.op == 4) = false := h4
      simp only [h4', Tm.encL_length, Bool.or_false, Bool.false_and]
  | x :: post, i, hd, hi => by
    simp only [List.length_cons] at hi
    have hx : pre[i]? = some x := by
      have := congrArg (fun l => l[0]?) hd
      simpa using this
    refine Ev.succ (fun k => R05_formed_L1.eq_2 ..) ?_
    refine Ev.t (by simp [Dc.encL_length]; omega) ?_
    refine Ev.some (idx_get hx) ?_
    rw [List.any_cons]
    refine Ev.ite (fun h => ?_) (fun h => ?_)
    · refine (Ev.pure false).eq ?_
      rw [h]; simp
    · rw [h, wrapS (by omega), Bool.false_or]
      exact formed_evL pre d hpre hlen hp hn post (i + 1) (by rw [← List.drop_drop, hd]; rfl) (by omega)

theorem declOK_eq (pre : List Dc) (d : Dc) : declOK pre d = (((isSmallF d.name && !(d.name.toList == tyB.toList)) && isProper d.cls && nodesB pre.length d.cls 0 && !pre.any (fun x => x.name.toList == d.name.toList)) && headOK pre d) := rfl

theorem formed_ev (pre : List Dc) (d : Dc) (hpre : ∀ x ∈ pre, isProper x.cls = true) (hlen : pre.length ≤ 1000) : Ev (fun k => R05_formed k pre d) (declOK pre d) := by
  refine Ev.succ (fun k => R05_formed.eq_2 ..) ?_
  refine (refName_ev d.name).bind ?_
  rw [declOK_eq]
  refine Ev.ite (fun h1 => ?_) (fun h1 => ?_)
  · have h1 : (isSmallF d.name && !(d.name.toList == tyB.toList)) = false := nb h1
    exact (Ev.pure false).eq (by rw [h1]; rfl)
  have h1 : (isSmallF d.name && !(d.name.toList == tyB.toList)) = true := nb' h1
  rw [h1, refProper_eq, Bool.true_and]
  refine Ev.ite (fun h2 => ?_) (fun h2 => ?_)
  · have h2 : isProper d.cls = false := by simpa using h2
    exact (Ev.pure false).eq (by rw [h2]; rfl)
  have h2 : isProper d.cls = true := by simpa using h2
  obtain ⟨hok, hh, hc⟩ := proper_small h2
  rw [h2, Bool.true_and, Dc.encL_length]
  refine (closed_ev pre.length hok (by omega) (by omega)).bind ?_
  refine Ev.ite (fun h3 => ?_) (fun h3 => ?_)
  · have h3 : nodesB pre.length d.cls 0 = false := by simpa using h3
    exact (Ev.pure false).eq (by rw [h3]; rfl)
  have h3 : nodesB pre.length d.cls 0 = true := by simpa using h3
  rw [h3, Bool.true_and]
  exact formed_evL pre d hpre hlen h2 h3 pre 0 rfl (by simp)

theorem formedSig_evL (sig : List Dc) (hlen : sig.length ≤ 100) : ∀ (post : List Dc) (i : Nat), sig.drop i = post → i + post.length = sig.length → (∀ x ∈ sig.take i, isProper x.cls = true) → Ev (fun k => R05_Formed_L1 k sig (i : Int)) (sigG (sig.take i) post)
  | [], i, hd, hi, hpre => by
    simp only [List.length_nil, Nat.add_zero] at hi
    refine Ev.succ (fun k => R05_Formed_L1.eq_2 ..) ?_
    refine Ev.f (by simp [Dc.encL_length, hi]) ?_
    refine (Ev.pure _).eq ?_
    simp [sigG, Dc.encL_length]; omega
  | d :: post, i, hd, hi, hpre => by
    simp only [List.length_cons] at hi
    have hx : sig[i]? = some d := by
      have := congrArg (fun l => l[0]?) hd
      simpa using this
    refine Ev.succ (fun k => R05_Formed_L1.eq_2 ..) ?_
    refine Ev.t (by simp [Dc.encL_length]; omega) ?_
    refine Ev.need (by simp [Dc.encL_length]; omega) ?_
    refine Ev.some (idx_get hx) ?_
    rw [Int.toNat_natCast]
    refine (formed_ev (sig.take i) d hpre (by simp; omega)).bind ?_
    rw [sigG]
    have htk : sig.take (i + 1) = sig.take i ++ [d] := by
      rw [List.take_add_one, hx]; rfl
    refine Ev.ite (fun h => ?_) (fun h => ?_)
    · have h : declOK (sig.take i) d = false := by simpa using h
      exact (Ev.pure false).eq (by rw [h]; rfl)
    · have h : declOK (sig.take i) d = true := by simpa using h
      rw [h, wrapS (by omega), Bool.true_and, ← htk]
      refine formedSig_evL sig hlen post (i + 1) (by rw [← List.drop_drop, hd]; rfl) (by omega) ?_
      intro x hx'
      rw [htk, List.mem_append, List.mem_singleton] at hx'
      rcases hx' with h1 | rfl
      · exact hpre x h1
      · exact declOK_proper h

def sigOK (sig : List Dc) : Bool := decide (sig.length ≤ 100) && sigG [] sig

theorem formedSig_ev (sig : List Dc) : Ev (fun k => R05_Formed k sig) (sigOK sig) := by
  refine Ev.succ (fun k => R05_Formed.eq_2 ..) ?_
  by_cases hl : sig.length ≤ 100
  · refine (formedSig_evL sig hl sig 0 rfl (by simp) (by simp)).eq ?_
    simp [sigOK, hl]
  · refine Ev.succ (fun k => R05_Formed_L1.eq_2 ..) ?_
    refine Ev.f (by simp [Dc.encL_length]; omega) ?_
    refine (Ev.pure _).eq ?_
    simp [sigOK, hl, Dc.encL_length]; omega

theorem signFormed_ev (pre : List Dc) (d : Dc) (hpre : ∀ x ∈ pre, isProper x.cls = true) (hlen : pre.length ≤ 1000) (hn : pre.any (fun x => x.name.toList == d.name.toList) = false) : Ev (fun k => sign_formed k pre d) (declOK pre d) := by
  refine Ev.succ (fun k => sign_formed.eq_2 ..) ?_
  rw [declOK_eq, hn]
  refine Ev.ite (fun h2 => ?_) (fun h2 => ?_)
  · have h2 : isProper d.cls = false := by
      cases h : isProper d.cls with
      | false => rfl
      | true => rw [h] at h2; simp at h2
    exact (Ev.pure false).eq (by rw [h2]; simp)
  have h2 : isProper d.cls = true := by
    cases h : isProper d.cls with
    | true => rfl
    | false => rw [h] at h2; simp at h2
  obtain ⟨hok, hh, hc⟩ := proper_small h2
  rw [h2]
  refine (signName_ev d.name).bind ?_
  generalize (isSmallF d.name && !(d.name.toList == tyB.toList)) = nm
  refine Ev.ite (fun h1 => ?_) (fun h1 => ?_)
  · refine (Ev.pure false).eq ?_
    rw [headOK]
    cases nm with
    | false => rfl
    | true =>
      have h1 : d.implicit < 0 := by simpa using h1
      have : decide (0 ≤ d.implicit) = false := by simp; omega
      rw [this]; simp
  have hnm : nm = true := by cases nm with | true => rfl | false => simp at h1
  subst hnm
  have himp : decide (0 ≤ d.implicit) = true := by simp at h1; simp; omega
  refine (domains_ev hok (by omega)).bind ?_
  refine (each_ev pre d.cls 0 _ (by omega) (by omega) (by omega)).bind ?_
  refine (kind_ev hok (by omega)).bind ?_
  obtain ⟨s1, s2, s3, s4, s5⟩ := split_facts h2
  have hnode := spl_node pre.length d.cls.height d.cls [] 0 hok (Nat.le_refl _)
  have e : spl d.cls.height d.cls [] = split d.cls := rfl
  rw [e] at hnode
  rw [headOK, himp, Tm.encL_length]
  refine Ev.ite (fun h3 => ?_) (fun h3 => ?_)
  · refine (Ev.pure _).eq ?_
    have h3 : ((split d.cls).2.op == 1) = true := h3
    rw [h3]
    simp [Bool.and_comm]
  have h3 : ((split d.cls).2.op == 1) = false := h3
  refine (target_ev hok (by omega)).bind ?_
  rw [h3]
  refine Ev.ite (fun h4 => ?_) (fun h4 => ?_)
  · simp only [Bool.and_eq_true] at h4
    obtain ⟨⟨h5, h6⟩, h7, h8⟩ := h4
    obtain ⟨n0, n1⟩ := hnode h6 (by simpa using h7) (by simpa using h8)
    obtain ⟨x, hx, hm⟩ := idx_pre n0 n1
    obtain ⟨xok, xh, _⟩ := proper_small (hpre x hm)
    refine Ev.some hx ?_
    refine (kind_ev xok (by omega)).bind ?_
    refine (Ev.pure _).eq ?_
    rw [kindAt, hx, h5, h6, h7, h8]; simp
  · refine (Ev.pure false).eq ?_
    revert h4
    generalize decide (d.implicit ≤ ((split d.cls).1.length : Int)) = b1
    generalize nodesB pre.length d.cls 0 = b2
    generalize ((split d.cls).2.op == 4) = b3
    generalize ((split d.cls).2.hd == 2) = b4
    cases b1 <;> cases b2 <;> cases b3 <;> cases b4 <;> simp

/-- The names that were put. -/
def namesOf (pre : List Dc) (m : List (ByteArray × Bool)) : Prop := ∀ s, (mget m s).getD false = pre.any (fun x => x.name.toList == s.toList)

theorem mget_mput {κ β : Type} [DecidableEq κ] (n : κ) (v : β) : ∀ (l : List (κ × β)) (x : κ), mget (mput n v l) x = if x = n then some v else mget l x
  | [], x => by simp only [mput, mget]
  | (k, u) :: r, x => by
    simp only [mput]
    split
    · rename_i h
      subst h
      simp only [mget]
      split <;> rfl
    · rename_i h
      simp only [mget, mget_mput n v r x]
      by_cases h1 : x = k
      · subst h1; rw [if_pos rfl, if_pos rfl, if_neg (fun e => h e.symm)]
      · rw [if_neg h1, if_neg h1]

theorem check_evL (sig : List Dc) (hlen : sig.length ≤ 100) : ∀ (post : List Dc) (i : Nat) (m : List (ByteArray × Bool)), sig.drop i = post → i + post.length = sig.length → (∀ x ∈ sig.take i, isProper x.cls = true) → namesOf (sig.take i) m → Ev (fun k => sign_Check_L1 k sig m (i : Int)) (if sigG (sig.take i) post then 0 else 2)
  | [], i, m, hd, hi, hpre, hm => by
    simp only [List.length_nil, Nat.add_zero] at hi
    refine Ev.succ (fun k => sign_Check_L1.eq_2 ..) ?_
    refine Ev.f (by simp [Dc.encL_length, hi]) ?_
    exact (Ev.pure _).eq (by simp [sigG])
  | d :: post, i, m, hd, hi, hpre, hm => by
    simp only [List.length_cons] at hi
    have hx : sig[i]? = some d := by
      have := congrArg (fun l => l[0]?) hd
      simpa using this
    have htk : sig.take (i + 1) = sig.take i ++ [d] := by
      rw [List.take_add_one, hx]; rfl
    refine Ev.succ (fun k => sign_Check_L1.eq_2 ..) ?_
    refine Ev.t (by simp [Dc.encL_length]; omega) ?_
    refine Ev.some (idx_get hx) ?_
    refine Ev.need (by simp [Dc.encL_length]; omega) ?_
    rw [hm d.name, sigG]
    refine Ev.ite (fun h1 => ?_) (fun h1 => ?_)
    · refine (Ev.pure _).eq ?_
      rw [declOK, h1]; simp
    rw [Int.toNat_natCast]
    refine (signFormed_ev (sig.take i) d hpre (by simp; omega) h1).bind ?_
    refine Ev.ite (fun h => ?_) (fun h => ?_)
    · have h : declOK (sig.take i) d = false := by simpa using h
      exact (Ev.pure _).eq (by rw [h]; rfl)
    · have h : declOK (sig.take i) d = true := by simpa using h
      rw [h, wrapS (by omega), Bool.true_and, ← htk]
      refine check_evL sig hlen post (i + 1) _ (by rw [← List.drop_drop, hd]; rfl) (by omega) ?_ ?_
      · intro x hx'
        rw [htk, List.mem_append, List.mem_singleton] at hx'
        rcases hx' with h1 | rfl
        · exact hpre x h1
        · exact declOK_proper h
      · intro s
        rw [mget_mput, htk, List.any_append, ← hm s]
        by_cases hs : s = d.name
        · subst hs; simp
        · rw [if_neg hs]
          have : (d.name.toList == s.toList) = false := by rw [strEq, decide_eq_false_iff_not]; exact fun e => hs e.symm
          simp [this]

theorem check_ev (sig : List Dc) : Ev (fun k => sign_Check k sig) (if sigOK sig then 0 else 2) := by
  refine Ev.succ (fun k => sign_Check.eq_2 ..) ?_
  refine Ev.ite (fun h => ?_) (fun h => ?_)
  · refine (Ev.pure _).eq ?_
    have h : 100 < sig.length := by simp [Dc.encL_length] at h; omega
    have : decide (sig.length ≤ 100) = false := by simp; omega
    rw [sigOK, this]; rfl
  · have h : sig.length ≤ 100 := by simp [Dc.encL_length] at h; omega
    refine (check_evL sig h sig 0 [] rfl (by simp) (by simp) (fun s => by simp [mget])).eq ?_
    have : decide (sig.length ≤ 100) = true := by simpa using h
    rw [sigOK, this]; rfl

theorem sigG_proper : ∀ (post pre : List Dc), sigG pre post = true → ∀ x ∈ post, isProper x.cls = true
  | [], _, _, x, hx => by cases hx
  | d :: post, pre, h, x, hx => by
    simp only [sigG, Bool.and_eq_true] at h
    rcases List.mem_cons.1 hx with e | e
    · subst e; exact declOK_proper h.1
    · exact sigG_proper post _ h.2 x e
theorem sigOK_proper {sig : List Dc} (h : sigOK sig = true) : sig.length ≤ 100 ∧ ∀ x ∈ sig, isProper x.cls = true := by
  simp only [sigOK, Bool.and_eq_true, decide_eq_true_eq] at h
  exact ⟨h.1, sigG_proper sig [] h.2⟩

end Go.Proofs.YtnolnmfpmhpapaaGreat
end

/-! EvK -/
section
namespace Go.Proofs.YtnolnmfpmhpapaaGreat
open Go.Tr Go
set_option linter.unusedVariables false
set_option linter.unusedSimpArgs false
set_option maxRecDepth 10000

abbrev Pr (t : Tm) : Prop := isProper t = true
theorem pr_arg {t u : Tm} (h : Pr t) (hu : u ∈ t.args) : Pr u := by
  obtain ⟨hok, hh, hc⟩ := proper_small h
  rw [Pr, isProper_iff]
  have h1 := Tm.height_le hu
  rw [Tm.height_eq] at hh
  rw [Tm.count_eq] at hc
  have h2 : u.count ≤ Tm.countL t.args := by
    have : ∀ (us : List Tm), u ∈ us → u.count ≤ Tm.countL us := by
      intro us
      induction us with
      | nil => intro h; cases h
      | cons v us ih =>
        intro h
        simp only [Tm.countL]
        rcases List.mem_cons.1 h with e | e
        · subst e; omega
        · have := ih e; omega
    exact this _ hu
  exact ⟨okAll_arg hok hu, by omega, by omega⟩
theorem pr_len {t : Tm} (h : Pr t) : t.args.length ≤ 600 := by
  obtain ⟨hok, hh, hc⟩ := proper_small h
  have := Tm.length_le_countL t.args
  rw [Tm.count_eq] at hc
  omega
theorem pr_n {t : Tm} (h : Pr t) : 0 ≤ t.n ∧ t.n ≤ 9999 := okAll_n (proper_small h).1
theorem pr_two {t : Tm} (h : Pr t) (ho : t.op = 2) : ∃ a b, t.args = [a, b] ∧ Pr a ∧ Pr b ∧ a.count < t.count ∧ b.count < t.count ∧ a.height < t.height ∧ b.height < t.height := by
  obtain ⟨a, b, e, _, _, h1, h2, h3⟩ := okAll_two (proper_small h).1 ho
  have := Tm.count_pos a; have := Tm.count_pos b
  exact ⟨a, b, e, pr_arg h (by rw [e]; simp), pr_arg h (by rw [e]; simp), by omega, by omega, by omega, by omega⟩
theorem pr_one {t : Tm} (h : Pr t) (ho : t.op = 3) : ∃ a, t.args = [a] ∧ Pr a ∧ a.count < t.count := by
  obtain ⟨a, e, _, h1, h2⟩ := okAll_one (proper_small h).1 ho
  exact ⟨a, e, pr_arg h (by rw [e]; simp), by omega⟩
theorem cnt_arg {t u : Tm} (hu : u ∈ t.args) : u.count < t.count := by
  rw [Tm.count_eq t]
  have : ∀ (us : List Tm), u ∈ us → u.count ≤ Tm.countL us := by
    intro us
    induction us with
    | nil => intro h; cases h
    | cons v us ih =>
      intro h
      simp only [Tm.countL]
      rcases List.mem_cons.1 h with e | e
      · subst e; omega
      · have := ih e; omega
  have := this _ hu
  omega

/-- A result: an error, or a proper term. -/
def okR (r : Tm × Int) : Prop := r.2 = 0 → Pr r.1

theorem whole_y (t : Tm) : Yields (fun k => R04_whole k t) okR := by
  refine Yields.succ (fun k => R04_whole.eq_2 ..) ?_
  rw [refProper_eq]
  refine Yields.ite (fun h => Yields.pure ?_) (fun h => Yields.pure ?_)
  · intro h; cases h
  · intro _; exact nb' h

theorem idx_of {α : Type} {l : List α} {i : Nat} (h : i < l.length) : ∃ x, idx l (i : Int) = some x ∧ x ∈ l ∧ l[i]? = some x :=
  ⟨l[i], by rw [idx_nat]; exact List.getElem?_eq_getElem h, List.getElem_mem h, List.getElem?_eq_getElem h⟩

theorem moved_y : ∀ (c : Nat) (t : Tm) (by_ f : Int), t.count ≤ c → t.count ≤ 600 → Yields (fun k => R04_moved k t by_ f) (fun _ => True)
  | 0, t, _, _, h, _ => by have := Tm.count_pos t; omega
  | c + 1, t, by_, f, h, h6 => by
    have hlen : t.args.length ≤ 600 := by have := Tm.length_le_countL t.args; rw [Tm.count_eq] at h6; omega
    have loop : ∀ (m i : Nat) (o : Tm), m = t.args.length - i → i ≤ t.args.length → o.args.length = i → Yields (fun k => R04_moved_L1 k t by_ f o (i : Int)) (fun _ => True) := by
      intro m
      induction m with
      | zero =>
        intro i o hm hi ho
        refine Yields.succ (fun k => R04_moved_L1.eq_2 ..) ?_
        refine Yields.ite (fun hc => ?_) (fun hc => Yields.pure trivial)
        simp [Tm.encL_length] at hc; omega
      | succ m ih =>
        intro i o hm hi ho
        refine Yields.succ (fun k => R04_moved_L1.eq_2 ..) ?_
        obtain ⟨x, hx, hxm, _⟩ := idx_of (show i < t.args.length by omega)
        have hcx := cnt_arg hxm
        have hnext : ∀ y, Yields (fun k => R04_moved_L1 k t by_ f (Tm.mk o.op o.hd o.n (o.args ++ [y])) ((i + 1 : Nat) : Int)) (fun _ => True) := fun y => ih (i + 1) _ (by omega) (by omega) (by show (o.args ++ [y]).length = i + 1; simp [ho])
        refine Yields.ite (fun hc => ?_) (fun hc => Yields.pure trivial)
        refine Yields.ite (fun _ => ?_) (fun _ => ?_)
        · refine Yields.some hx ?_
          refine Yields.bind (moved_y c x _ _ (by omega) (by omega)) (fun y _ => ?_)
          refine Yields.need (by simp [Tm.encL_length]; omega) ?_
          rw [wrapS (by omega)]
          exact hnext y
        · refine Yields.some hx ?_
          refine Yields.bind (moved_y c x _ _ (by omega) (by omega)) (fun y _ => ?_)
          refine Yields.need (by simp [Tm.encL_length]; omega) ?_
          rw [wrapS (by omega)]
          exact hnext y
    refine Yields.succ (fun k => R04_moved.eq_2 ..) ?_
    refine Yields.ite (fun _ => ?_) (fun _ => ?_)
    · exact loop _ 0 _ rfl (Nat.zero_le _) rfl
    · exact loop _ 0 _ rfl (Nat.zero_le _) rfl

theorem raised_y {t : Tm} (h : Pr t) (n : Int) : Yields (fun k => R04_raised k t n) (fun _ => True) := by
  refine Yields.succ (fun k => R04_raised.eq_2 ..) ?_
  exact Yields.bind (moved_y t.count t _ _ (Nat.le_refl _) (proper_small h).2.2) (fun y _ => Yields.pure trivial)

/-- The result of a substitution: the steps do not go down, and it is an error or a proper term. -/
def okP (c : Int) (r : Tm × Int × Ct) : Prop := c ≤ r.2.2.n ∧ r.2.2.n ≤ 20001 ∧ (r.2.1 = 0 → Pr r.1 ∧ r.2.2.n ≤ 20000)

theorem wrapc {c : Int} (h0 : 0 ≤ c) (h1 : c ≤ 20001) : IntKind.i64.wrap (c + 1) = c + 1 := wrap_i64 (by omega) (by omega)

def PutY (q : Nat) : Prop := ∀ (t : Tm) (n : Int) (s : Tm) (p : Sm) (c : Int), 0 ≤ c → c ≤ 20000 → 20001 - c ≤ q → Pr t → Pr s → Yields (fun k => R04_count_put k t n s p ⟨c⟩) (okP c)

theorem apply_y (q : Nat) (hput : PutY q) : ∀ (f : Tm) (l : List Tm) (p : Sm) (c : Int) (m : Nat), l.length ≤ m → 0 ≤ c → c ≤ 20000 → 20001 - c ≤ q → Pr f → (∀ x ∈ l, Pr x) → l.length ≤ 1000 → Yields (fun k => R04_count_apply k f l p ⟨c⟩) (okP c)
  | f, [], p, c, m, hm, h0, h1, hq, hf, hl, hb => by
    refine Yields.succ (fun k => R04_count_apply.eq_2 ..) ?_
    refine Yields.ite (fun _ => ?_) (fun h => by simp [Tm.encL] at h)
    refine Yields.bind (whole_y f) (fun y hy => Yields.pure ⟨?_, ?_, fun h => ⟨hy h, ?_⟩⟩) <;> simp only <;> omega
  | f, x :: l, p, c, 0, hm, h0, h1, hq, hf, hl, hb => by simp at hm
  | f, x :: l, p, c, m + 1, hm, h0, h1, hq, hf, hl, hb => by
    refine Yields.succ (fun k => R04_count_apply.eq_2 ..) ?_
    refine Yields.ite (fun h => by simp [Tm.encL_length] at h; omega) (fun _ => ?_)
    refine Yields.ite (fun _ => Yields.pure ?_) (fun h2 => ?_)
    · refine ⟨?_, ?_, fun h => by cases h⟩ <;> simp only <;> omega
    simp only [Bool.or_eq_false_iff, bne_eq_false_iff_eq] at h2
    obtain ⟨b, hb1, hpb, _⟩ := pr_one hf h2.1
    have hpa : p.args ≠ [] := by
      intro e; have := h2.2; rw [e] at this; simp [Sm.encL] at this
    obtain ⟨p0, ps, hps⟩ := List.exists_cons_of_ne_nil hpa
    refine Yields.some (x := b) (by rw [hb1]; rfl) ?_
    refine Yields.some (x := x) rfl ?_
    refine Yields.some (x := p0) (by rw [hps]; rfl) ?_
    refine Yields.bind (hput b 0 x p0 c h0 h1 hq hpb (hl x (by simp))) (fun y hy => ?_)
    obtain ⟨y1, y2, ⟨y3⟩⟩ := y
    obtain ⟨e1, e2, e3⟩ := hy
    simp only at e1 e2 e3 ⊢
    refine Yields.ite (fun h5 => Yields.pure ?_) (fun h5 => ?_)
    · have h5 : y2 ≠ 0 := by simpa using h5
      exact ⟨e1, e2, fun h => (h5 h).elim⟩
    have h5 : y2 = 0 := by simpa using h5
    refine Yields.need (by simp [Tm.encL_length]; omega) ?_
    refine Yields.need (by rw [hps]; simp [Sm.encL_length]; omega) ?_
    simp only [List.length_cons] at hm hb
    refine Yields.bind (apply_y q hput y1 l _ y3 m (by omega) (by omega) (e3 h5).2 (by omega) (e3 h5).1 (fun z hz => hl z (by simp [hz])) (by omega)) (fun r hr => Yields.pure ?_)
    obtain ⟨g1, g2, g3⟩ := hr
    exact ⟨by simp only; omega, g2, g3⟩

theorem put_y : ∀ (q : Nat), PutY q
  | 0 => fun t n s p c h0 h1 hq ht hs => by omega
  | q + 1 => fun t n s p c h0 h1 hq ht hs => by
    have hput := put_y q
    refine Yields.succ (fun k => R04_count_put.eq_2 ..) ?_
    have hlen := pr_len ht
    simp only [wrapc h0 (by omega)]
    refine Yields.ite (fun h2 => Yields.pure ?_) (fun h2 => ?_)
    · have h2 : 20000 < c + 1 := by simpa using h2
      refine ⟨?_, ?_, fun h => by cases h⟩ <;> simp only <;> omega
    have h2 : c + 1 ≤ 20000 := by simpa using h2
    have loop : ∀ (m i : Nat) (o : Tm) (c' : Int), m = t.args.length - i → i ≤ t.args.length → o.args.length = i → (∀ x ∈ o.args, Pr x) → c + 1 ≤ c' → c' ≤ 20000 → Yields (fun k => R04_count_put_L1 k t n s p ⟨c'⟩ o (i : Int)) (okP c) := by
      intro m
      induction m with
      | zero =>
        intro i o c' hm hi ho hop hc1 hc2
        refine Yields.succ (fun k => R04_count_put_L1.eq_2 ..) ?_
        refine Yields.ite (fun hc => ?_) (fun _ => ?_)
        · simp [Tm.encL_length] at hc; omega
        refine Yields.ite (fun _ => ?_) (fun _ => ?_)
        · refine Yields.bind (whole_y o) (fun y hy => Yields.pure ⟨?_, ?_, fun h => ⟨hy h, ?_⟩⟩) <;> simp only <;> omega
        refine Yields.ite (fun _ => ?_) (fun _ => ?_)
        · refine Yields.bind (whole_y _) (fun y hy => Yields.pure ⟨?_, ?_, fun h => ⟨hy h, ?_⟩⟩) <;> simp only <;> omega
        refine Yields.bind (raised_y hs n) (fun y _ => ?_)
        refine Yields.bind (whole_y y) (fun z hz => ?_)
        refine Yields.ite (fun h5 => Yields.pure ?_) (fun h5 => ?_)
        · have h5 : z.2 ≠ 0 := by simpa using h5
          refine ⟨?_, ?_, fun h => (h5 h).elim⟩ <;> simp only <;> omega
        have h5 : z.2 = 0 := by simpa using h5
        refine Yields.bind (apply_y q hput z.1 o.args p c' o.args.length (Nat.le_refl _) (by omega) hc2 (by omega) (hz h5) hop (by omega)) (fun r hr => Yields.pure ?_)
        obtain ⟨e1, e2, e3⟩ := hr
        exact ⟨by simp only; omega, e2, e3⟩
      | succ m ih =>
        intro i o c' hm hi ho hop hc1 hc2
        refine Yields.succ (fun k => R04_count_put_L1.eq_2 ..) ?_
        obtain ⟨x, hx, hxm, _⟩ := idx_of (show i < t.args.length by omega)
        have hpx := pr_arg ht hxm
        have hnext : ∀ (y : Tm × Int × Ct), okP c' y → Yields (fun k => cond (y.2.1 != 0) (some ((Tm.mk 0 0 0 ([])), y.2.1, y.2.2)) (cond (decide ((Tm.encL (o.args ++ [y.1])).length ≤ 1000000)) (R04_count_put_L1 k t n s p y.2.2 (Tm.mk o.op o.hd o.n (o.args ++ [y.1])) (IntKind.i64.wrap ((i : Int) + 1))) none)) (okP c) := by
          rintro ⟨y1, y2, ⟨y3⟩⟩ ⟨e1, e2, e3⟩
          simp only at e1 e2 e3 ⊢
          refine Yields.ite (fun h5 => Yields.pure ?_) (fun h5 => ?_)
          · have h5 : y2 ≠ 0 := by simpa using h5
            exact ⟨by simp only; omega, e2, fun h => (h5 h).elim⟩
          have h5 : y2 = 0 := by simpa using h5
          refine Yields.need (by simp [Tm.encL_length]; omega) ?_
          rw [wrapS (by omega)]
          refine ih (i + 1) _ y3 (by omega) (by omega) (by show (o.args ++ [y1]).length = i + 1; simp [ho]) ?_ (by omega) (e3 h5).2
          intro z hz
          have hz : z ∈ o.args ++ [y1] := hz
          rw [List.mem_append, List.mem_singleton] at hz
          rcases hz with h | h
          · exact hop z h
          · subst h; exact (e3 h5).1
        refine Yields.ite (fun _ => ?_) (fun hc => ?_)
        · refine Yields.ite (fun _ => ?_) (fun _ => ?_)
          · refine Yields.some hx ?_
            exact Yields.bind (hput x _ s p c' (by omega) hc2 (by omega) hpx hs) hnext
          · refine Yields.some hx ?_
            exact Yields.bind (hput x _ s p c' (by omega) hc2 (by omega) hpx hs) hnext
        · simp [Tm.encL_length] at hc; omega
    exact loop _ 0 _ (c + 1) rfl (Nat.zero_le _) rfl (by simp [Tm.args]) (Int.le_refl _) h2
end Go.Proofs.YtnolnmfpmhpapaaGreat
end

/-! EvL -/
section
namespace Go.Proofs.YtnolnmfpmhpapaaGreat
open Go.Tr Go
set_option linter.unusedVariables false
set_option linter.unusedSimpArgs false
set_option maxRecDepth 10000

mutual
/-- No list in it is longer than a million. -/
def smB : Sm → Prop
  | .mk args _ => args.length ≤ 1000000 ∧ smBL args
def smBL : List Sm → Prop
  | [] => True
  | s :: r => smB s ∧ smBL r
 end
theorem smBL_mem : ∀ {l : List Sm} {s : Sm}, smBL l → s ∈ l → smB s
  | _ :: r, s, h, hs => by
    simp only [smBL] at h
    rcases List.mem_cons.1 hs with e | e
    · subst e; exact h.1
    · exact smBL_mem h.2 e
theorem smB_args {s : Sm} (h : smB s) : s.args.length ≤ 1000000 ∧ smBL s.args := by cases s; exact h
theorem Sm.ind {motive : Sm → Prop} (h : ∀ t, (∀ x ∈ t.args, motive x) → motive t) (t : Sm) : motive t := by
  induction t using Sm.rec (motive_2 := fun ts => ∀ x ∈ ts, motive x) with
  | nil => rename_i x hx; cases hx
  | cons t ts ih1 ih2 => rename_i x hx; rcases List.mem_cons.1 hx with e | e; (subst e; exact ih1); exact ih2 x e
  | mk args con ih => exact h _ ih

theorem simple_y : ∀ (q : Nat) (t : Tm), t.count ≤ q → Pr t → Yields (fun k => R03_Simple k t) (fun r => r.1.args.length ≤ t.height ∧ smB r.1)
  | 0, t, hq, _ => by have := Tm.count_pos t; omega
  | q + 1, t, hq, ht => by
    have hh := (proper_small ht).2.1
    refine Yields.succ (fun k => R03_Simple.eq_2 ..) ?_
    refine Yields.ite (fun _ => Yields.pure ⟨Nat.zero_le _, ?_⟩) (fun _ => ?_)
    · exact ⟨Nat.zero_le _, trivial⟩
    refine Yields.ite (fun h => ?_) (fun _ => Yields.pure ⟨Nat.zero_le _, Nat.zero_le _, trivial⟩)
    obtain ⟨a, b, e, ha, hb, hca, hcb, hha, hhb⟩ := pr_two ht (by simpa using h)
    rw [e]
    refine Yields.some (x := a) rfl ?_
    refine Yields.bind (simple_y q a (by omega) ha) (fun x hx => ?_)
    refine Yields.some (x := b) rfl ?_
    refine Yields.bind (simple_y q b (by omega) hb) (fun y hy => ?_)
    refine Yields.ite (fun _ => Yields.pure ⟨Nat.zero_le _, Nat.zero_le _, trivial⟩) (fun _ => ?_)
    have hbh := (proper_small hb).2.1
    refine Yields.need (by simp [Sm.encL_length]; omega) ?_
    refine Yields.pure ⟨?_, ?_⟩
    · show ([x.1] ++ y.1.args).length ≤ t.height
      simp; omega
    · show ([x.1] ++ y.1.args).length ≤ 1000000 ∧ smBL ([x.1] ++ y.1.args)
      exact ⟨by simp; omega, hx.2, (smB_args hy.2).2⟩

theorem constants_y (s : Sm) : smB s → ∀ m : Int, Yields (fun k => R04_constants k s m) (fun _ => True) := by
  induction s using Sm.ind with
  | h s ih =>
    intro hs m
    obtain ⟨hl, hb⟩ := smB_args hs
    have loop : ∀ (q i : Nat) (c : Int), q = s.args.length - i → i ≤ s.args.length → Yields (fun k => R04_constants_L1 k s m c (i : Int)) (fun _ => True) := by
      intro q
      induction q with
      | zero =>
        intro i c hq hi
        refine Yields.succ (fun k => R04_constants_L1.eq_2 ..) ?_
        refine Yields.ite (fun h => ?_) (fun _ => Yields.pure trivial)
        simp [Sm.encL_length] at h; omega
      | succ q ihq =>
        intro i c hq hi
        refine Yields.succ (fun k => R04_constants_L1.eq_2 ..) ?_
        refine Yields.ite (fun _ => ?_) (fun _ => Yields.pure trivial)
        obtain ⟨x, hx, hxm, _⟩ := idx_of (show i < s.args.length by omega)
        refine Yields.some hx ?_
        refine Yields.bind (ih x hxm (smBL_mem hb hxm) _) (fun y _ => ?_)
        refine Yields.ite (fun _ => Yields.pure trivial) (fun _ => ?_)
        rw [wrapS (by omega)]
        exact ihq (i + 1) _ (by omega) (by omega)
    refine Yields.succ (fun k => R04_constants.eq_2 ..) ?_
    refine Yields.ite (fun _ => Yields.pure trivial) (fun _ => ?_)
    exact loop _ 0 _ rfl (Nat.zero_le _)

theorem small_y {s : Sm} (h : smB s) : Yields (fun k => R04_Small k s) (fun _ => True) := by
  refine Yields.succ (fun k => R04_Small.eq_2 ..) ?_
  exact Yields.bind (constants_y s h _) (fun y _ => Yields.pure trivial)

theorem step_y {t m : Tm} (ht : Pr t) (hm : Pr m) {c : Int} (h0 : 0 ≤ c) (h1 : c ≤ 20000) : Yields (fun k => R04_count_step k t m ⟨c⟩) (okP c) := by
  refine Yields.succ (fun k => R04_count_step.eq_2 ..) ?_
  have bad : ∀ e : Int, e ≠ 0 → okP c ((Tm.mk 0 0 0 ([])), e, ⟨c⟩) := fun e he => ⟨Int.le_refl _, by simp only; omega, fun h => (he h).elim⟩
  refine Yields.ite (fun _ => Yields.pure (bad _ (by decide))) (fun h => ?_)
  obtain ⟨a, b, e, ha, hb, hca, hcb, hha, hhb⟩ := pr_two ht (by simpa using h)
  rw [e]
  refine Yields.some (x := a) rfl ?_
  refine Yields.bind (simple_y a.count a (Nat.le_refl _) ha) (fun x hx => ?_)
  refine Yields.ite (fun _ => Yields.pure (bad _ (by decide))) (fun _ => ?_)
  refine Yields.bind (small_y hx.2) (fun y _ => ?_)
  refine Yields.ite (fun _ => Yields.pure (bad _ (by decide))) (fun _ => ?_)
  refine Yields.some (x := b) rfl ?_
  exact Yields.bind (put_y 20001 b 0 m x.1 c h0 h1 (by omega) hb hm) (fun r hr => Yields.pure hr)

theorem list_y (l : List Tm) (hl : l.length ≤ 1000000) : Yields (fun k => R04_list k l) (fun _ => True) := by
  have loop : ∀ (q i : Nat), q = l.length - i → i ≤ l.length → Yields (fun k => R04_list_L1 k l (i : Int)) (fun _ => True) := by
    intro q
    induction q with
    | zero =>
      intro i hq hi
      refine Yields.succ (fun k => R04_list_L1.eq_2 ..) ?_
      refine Yields.ite (fun h => ?_) (fun _ => Yields.pure trivial)
      simp [Tm.encL_length] at h; omega
    | succ q ihq =>
      intro i hq hi
      refine Yields.succ (fun k => R04_list_L1.eq_2 ..) ?_
      refine Yields.ite (fun _ => ?_) (fun _ => Yields.pure trivial)
      obtain ⟨x, hx, hxm, _⟩ := idx_of (show i < l.length by omega)
      refine Yields.some hx ?_
      refine Yields.ite (fun _ => Yields.pure trivial) (fun _ => ?_)
      rw [wrapS (by omega)]
      exact ihq (i + 1) (by omega) (by omega)
  refine Yields.succ (fun k => R04_list.eq_2 ..) ?_
  exact loop _ 0 rfl (Nat.zero_le _)

theorem instance_y {t : Tm} (ht : Pr t) {l : List Tm} (hl : ∀ x ∈ l, Pr x) (hb : l.length ≤ 1000000) : Yields (fun k => R04_Instance k t l) okR := by
  have loop : ∀ (q i : Nat) (t : Tm) (c : Int), q = l.length - i → i ≤ l.length → Pr t → 0 ≤ c → c ≤ 20000 → Yields (fun k => R04_Instance_L1 k l t ⟨c⟩ (i : Int)) okR := by
    intro q
    induction q with
    | zero =>
      intro i t c hq hi ht h0 h1
      refine Yields.succ (fun k => R04_Instance_L1.eq_2 ..) ?_
      refine Yields.ite (fun h => ?_) (fun _ => Yields.pure (fun _ => ht))
      simp [Tm.encL_length] at h; omega
    | succ q ihq =>
      intro i t c hq hi ht h0 h1
      refine Yields.succ (fun k => R04_Instance_L1.eq_2 ..) ?_
      refine Yields.ite (fun _ => ?_) (fun _ => Yields.pure (fun _ => ht))
      obtain ⟨x, hx, hxm, _⟩ := idx_of (show i < l.length by omega)
      refine Yields.some hx ?_
      refine Yields.bind (step_y ht (hl x hxm) h0 h1) (fun y hy => ?_)
      obtain ⟨y1, y2, ⟨y3⟩⟩ := y
      obtain ⟨e1, e2, e3⟩ := hy
      simp only at e1 e2 e3 ⊢
      refine Yields.ite (fun h5 => Yields.pure ?_) (fun h5 => ?_)
      · have h5 : y2 ≠ 0 := by simpa using h5
        exact fun h => (h5 h).elim
      have h5 : y2 = 0 := by simpa using h5
      rw [wrapS (by omega)]
      exact ihq (i + 1) y1 y3 (by omega) (by omega) (e3 h5).1 (by omega) (e3 h5).2
  refine Yields.succ (fun k => R04_Instance.eq_2 ..) ?_
  rw [refProper_eq]
  refine Yields.ite (fun h => Yields.pure (fun h => by cases h)) (fun _ => ?_)
  refine Yields.bind (list_y l hb) (fun y _ => ?_)
  refine Yields.ite (fun h => Yields.pure (fun h => by cases h)) (fun _ => ?_)
  exact loop _ 0 t 0 rfl (Nat.zero_le _) ht (by omega) (by omega)

/-- A context that the kernel makes. -/
def ctxB (l : List Tm) : Prop := l.length ≤ 1000 ∧ ∀ x ∈ l, Pr x

theorem longer_y {ctx : List Tm} {a : Tm} (hc : ctxB ctx) (ha : Pr a) : Yields (fun k => R06_longer k ctx a) (fun r => r.2 = 0 → ctxB r.1) := by
  refine Yields.succ (fun k => R06_longer.eq_2 ..) ?_
  refine Yields.ite (fun _ => Yields.pure (fun h => by cases h)) (fun h => ?_)
  have h : ctx.length < 30 := by simp [Tm.encL_length] at h; omega
  refine Yields.need (by simp [Tm.encL_length]; omega) ?_
  refine Yields.need (by simp [Tm.encL_length]; omega) ?_
  refine Yields.pure (fun _ => ⟨by simp; omega, fun x hx => ?_⟩)
  rcases List.mem_append.1 hx with h1 | h1
  · exact hc.2 x h1
  · simp at h1; subst h1; exact ha

theorem shiftF_ok (t : Tm) (b f : Int) : okR (shiftF t b f) := by
  unfold shiftF
  split
  · intro h; cases h
  · split
    · intro h; cases h
    · split
      · intro h; cases h
      · rename_i h
        intro _
        show isProper (movedF t b f) = true
        cases hp : isProper (movedF t b f) with
        | true => rfl
        | false => exact (h hp).elim

theorem has_ev (sig : List Dc) (n : Int) : Ev (fun k => R05_Has k sig n) (decide (n ≥ 0) && decide (n < (sig.length : Int))) := by
  refine Ev.succ (fun k => R05_Has.eq_2 ..) ?_
  rw [← Dc.encL_length]
  exact Ev.pure _

section
variable (sig : List Dc) (hsig : ∀ x ∈ sig, Pr x.cls)
include hsig

theorem class_y {ctx : List Tm} (hc : ctxB ctx) {m : Tm} (hm : Pr m) : Yields (fun k => R06_Kernel_class k ⟨sig, []⟩ ctx m) okR := by
  have hn := pr_n hm
  refine Yields.succ (fun k => R06_Kernel_class.eq_2 ..) ?_
  refine Yields.ite (fun _ => ?_) (fun _ => ?_)
  · refine Yields.ite (fun _ => Yields.pure (fun h => by cases h)) (fun h => ?_)
    have h : m.n < (ctx.length : Int) := by simp [Tm.encL_length] at h; omega
    have hl := hc.1
    have hw : IntKind.i64.wrap (IntKind.i64.wrap (((Tm.encL ctx).length : Int) - 1) - m.n) = ((ctx.length - 1 - m.n.toNat : Nat) : Int) := by
      rw [Tm.encL_length, wrap_i64 (n := (ctx.length : Int) - 1) (by omega) (by omega), wrap_i64 (by omega) (by omega)]; omega
    rw [hw]
    obtain ⟨x, hx, _, _⟩ := idx_of (show ctx.length - 1 - m.n.toNat < ctx.length by omega)
    refine Yields.some hx ?_
    exact Yields.pure (shiftF_ok _ _ _)
  refine Yields.ite (fun _ => ?_) (fun _ => ?_)
  · refine Yields.bind (Ev.is (has_ev sig m.n)) (fun b hb => ?_)
    subst hb
    refine Yields.ite (fun _ => Yields.pure (fun h => by cases h)) (fun h => ?_)
    have h := nb' h
    simp only [Bool.and_eq_true, decide_eq_true_eq] at h
    obtain ⟨d, hd, hdm⟩ := idx_pre h.1 h.2
    have hp := proper_small (hsig d hdm)
    refine Yields.bind (Ev.is (isFamily_ev hd hp.1 (by omega))) (fun b hb => ?_)
    refine Yields.ite (fun _ => Yields.pure (fun h => by cases h)) (fun _ => ?_)
    refine Yields.some hd ?_
    exact Yields.pure (fun _ => hsig d hdm)
  · refine Yields.ite (fun _ => Yields.pure (fun h => by cases h)) (fun h => ?_)
    simp [Mt.encL] at h; omega

def ObjY (q : Nat) : Prop := ∀ (ctx : List Tm) (m a : Tm), ctxB ctx → Pr m → Pr a → m.count ≤ q → Yields (fun k => R06_Kernel_Object k ⟨sig, []⟩ ctx m a) (fun _ => True)

omit hsig in
theorem fits_y {q : Nat} (hobj : ObjY sig q) {ctx : List Tm} (hc : ctxB ctx) {l : List Tm} (hl : ∀ x ∈ l, Pr x ∧ x.count ≤ q) (hb : l.length ≤ 1000000) {t : Tm} (ht : Pr t) : Yields (fun k => R06_Kernel_fits k ⟨sig, []⟩ ctx l t) okR := by
  have loop : ∀ (p i : Nat) (t : Tm), p = l.length - i → i ≤ l.length → Pr t → Yields (fun k => R06_Kernel_fits_L1 k l ⟨sig, []⟩ ctx t (i : Int)) okR := by
    intro p
    induction p with
    | zero =>
      intro i t hq hi ht
      refine Yields.succ (fun k => R06_Kernel_fits_L1.eq_2 ..) ?_
      refine Yields.ite (fun h => ?_) (fun _ => Yields.pure (fun _ => ht))
      simp [Tm.encL_length] at h; omega
    | succ p ihp =>
      intro i t hq hi ht
      refine Yields.succ (fun k => R06_Kernel_fits_L1.eq_2 ..) ?_
      refine Yields.ite (fun _ => ?_) (fun _ => Yields.pure (fun _ => ht))
      refine Yields.ite (fun _ => Yields.pure (fun h => by cases h)) (fun h => ?_)
      obtain ⟨a, b, e, ha, hb', _⟩ := pr_two ht (by simpa using h)
      obtain ⟨x, hx, hxm, _⟩ := idx_of (show i < l.length by omega)
      refine Yields.some hx ?_
      refine Yields.some (x := a) (by rw [e]; rfl) ?_
      refine Yields.bind (hobj ctx x a hc (hl x hxm).1 ha (hl x hxm).2) (fun y _ => ?_)
      refine Yields.ite (fun h5 => Yields.pure ?_) (fun h5 => ?_)
      · have h5 : y ≠ 0 := by simpa using h5
        exact fun h => (h5 h).elim
      refine Yields.some hx ?_
      refine Yields.bind (instance_y ht (l := [x]) (by intro z hz; simp at hz; subst hz; exact (hl z hxm).1) (by simp)) (fun z hz => ?_)
      refine Yields.ite (fun h6 => Yields.pure ?_) (fun h6 => ?_)
      · have h6 : z.2 ≠ 0 := by simpa using h6
        exact fun h => (h6 h).elim
      rw [wrapS (by omega)]
      exact ihp (i + 1) z.1 (by omega) (by omega) (hz (by simpa using h6))
  refine Yields.succ (fun k => R06_Kernel_fits.eq_2 ..) ?_
  exact loop _ 0 t rfl (Nat.zero_le _) ht

theorem infer_y {q : Nat} (hobj : ObjY sig q) {ctx : List Tm} (hc : ctxB ctx) {m : Tm} (hm : Pr m) (hq : m.count ≤ q + 1) : Yields (fun k => R06_Kernel_Infer k ⟨sig, []⟩ ctx m) okR := by
  refine Yields.succ (fun k => R06_Kernel_Infer.eq_2 ..) ?_
  refine Yields.ite (fun _ => Yields.pure (fun h => by cases h)) (fun _ => ?_)
  refine Yields.bind (class_y sig hsig hc hm) (fun y hy => ?_)
  refine Yields.ite (fun h5 => Yields.pure ?_) (fun h5 => ?_)
  · have h5 : y.2 ≠ 0 := by simpa using h5
    exact fun h => (h5 h).elim
  have hlen := pr_len hm
  refine Yields.bind (fits_y sig hobj hc (l := m.args) (fun x hx => ⟨pr_arg hm hx, by have := cnt_arg hx; omega⟩) (by omega) (hy (by simpa using h5))) (fun z hz => ?_)
  refine Yields.ite (fun h6 => Yields.pure ?_) (fun h6 => ?_)
  · have h6 : z.2 ≠ 0 := by simpa using h6
    exact fun h => (h6 h).elim
  refine Yields.ite (fun _ => Yields.pure (fun h => by cases h)) (fun _ => Yields.pure (fun _ => hz (by simpa using h6)))

theorem object_y : ∀ (q : Nat), ObjY sig q
  | 0 => fun ctx m a hc hm ha hq => by have := Tm.count_pos m; omega
  | q + 1 => fun ctx m a hc hm ha hq => by
    have hobj := object_y q
    refine Yields.succ (fun k => R06_Kernel_Object.eq_2 ..) ?_
    refine Yields.ite (fun h2 => ?_) (fun _ => ?_)
    · refine Yields.ite (fun _ => Yields.pure trivial) (fun _ => ?_)
      refine Yields.ite (fun _ => Yields.pure trivial) (fun h3 => ?_)
      obtain ⟨a0, a1, e, ha0, ha1, _⟩ := pr_two ha (by simpa using h2)
      obtain ⟨m0, em, hm0, hcm⟩ := pr_one hm (by simpa using h3)
      refine Yields.some (x := a0) (by rw [e]; rfl) ?_
      refine Yields.bind (longer_y hc ha0) (fun y hy => ?_)
      refine Yields.ite (fun _ => Yields.pure trivial) (fun h5 => ?_)
      refine Yields.some (x := m0) (by rw [em]; rfl) ?_
      refine Yields.some (x := a1) (by rw [e]; rfl) ?_
      exact Yields.bind (hobj y.1 m0 a1 (hy (by simpa using h5)) hm0 ha1 (by omega)) (fun z _ => Yields.pure trivial)
    refine Yields.ite (fun _ => ?_) (fun _ => Yields.pure trivial)
    refine Yields.ite (fun _ => Yields.pure trivial) (fun _ => ?_)
    refine Yields.bind (infer_y sig hsig hobj hc hm hq) (fun y _ => ?_)
    refine Yields.ite (fun _ => Yields.pure trivial) (fun _ => ?_)
    exact Yields.ite (fun _ => Yields.pure trivial) (fun _ => Yields.pure trivial)

theorem type_y : ∀ (q : Nat) (ctx : List Tm) (a : Tm), ctxB ctx → Pr a → a.count ≤ q → Yields (fun k => R06_Kernel_Type k ⟨sig, []⟩ ctx a) (fun _ => True) ∧ Yields (fun k => R06_Kernel_Kind k ⟨sig, []⟩ ctx a) (fun _ => True)
  | 0, ctx, a, hc, ha, hq => by have := Tm.count_pos a; omega
  | q + 1, ctx, a, hc, ha, hq => by
    have pi : a.op = 2 → ∀ b : Bool, Yields (fun k => R06_Kernel_pi k ⟨sig, []⟩ ctx a b) (fun _ => True) := by
      intro h2 b
      obtain ⟨a0, a1, e, ha0, ha1, c0, c1, _⟩ := pr_two ha h2
      refine Yields.succ (fun k => R06_Kernel_pi.eq_2 ..) ?_
      refine Yields.some (x := a0) (by rw [e]; rfl) ?_
      refine Yields.bind (type_y q ctx a0 hc ha0 (by omega)).1 (fun y _ => ?_)
      refine Yields.ite (fun _ => Yields.pure trivial) (fun _ => ?_)
      refine Yields.some (x := a0) (by rw [e]; rfl) ?_
      refine Yields.bind (longer_y hc ha0) (fun z hz => ?_)
      refine Yields.ite (fun _ => Yields.pure trivial) (fun h5 => ?_)
      have hz := hz (by simpa using h5)
      refine Yields.ite (fun _ => ?_) (fun _ => ?_)
      · refine Yields.some (x := a1) (by rw [e]; rfl) ?_
        exact Yields.bind (type_y q z.1 a1 hz ha1 (by omega)).2 (fun _ _ => Yields.pure trivial)
      · refine Yields.some (x := a1) (by rw [e]; rfl) ?_
        exact Yields.bind (type_y q z.1 a1 hz ha1 (by omega)).1 (fun _ _ => Yields.pure trivial)
    refine ⟨?_, ?_⟩
    · refine Yields.succ (fun k => R06_Kernel_Type.eq_2 ..) ?_
      refine Yields.ite (fun h2 => ?_) (fun _ => ?_)
      · exact Yields.bind (pi (by simpa using h2) false) (fun _ _ => Yields.pure trivial)
      refine Yields.ite (fun _ => Yields.pure trivial) (fun _ => ?_)
      refine Yields.bind (Ev.is (has_ev sig a.n)) (fun b hb => ?_)
      subst hb
      refine Yields.ite (fun _ => Yields.pure trivial) (fun h => ?_)
      have h := nb' h
      simp only [Bool.and_eq_true, decide_eq_true_eq] at h
      obtain ⟨d, hd, hdm⟩ := idx_pre h.1 h.2
      have hp := proper_small (hsig d hdm)
      refine Yields.bind (Ev.is (isFamily_ev hd hp.1 (by omega))) (fun b hb => ?_)
      refine Yields.ite (fun _ => Yields.pure trivial) (fun _ => ?_)
      refine Yields.some hd ?_
      have hlen := pr_len ha
      refine Yields.bind (fits_y sig (object_y sig hsig a.count) hc (l := a.args) (fun x hx => ⟨pr_arg ha hx, by have := cnt_arg hx; omega⟩) (by omega) (hsig d hdm)) (fun z hz => ?_)
      refine Yields.ite (fun _ => Yields.pure trivial) (fun _ => ?_)
      exact Yields.ite (fun _ => Yields.pure trivial) (fun _ => Yields.pure trivial)
    · refine Yields.succ (fun k => R06_Kernel_Kind.eq_2 ..) ?_
      refine Yields.ite (fun _ => Yields.pure trivial) (fun _ => ?_)
      refine Yields.ite (fun h2 => ?_) (fun _ => Yields.pure trivial)
      exact Yields.bind (pi (by simpa using h2) true) (fun _ _ => Yields.pure trivial)

theorem classOf_y {t : Tm} (ht : Pr t) : Yields (fun k => R06_Kernel_Class k ⟨sig, []⟩ t) (fun _ => True) := by
  have hp := proper_small ht
  have hc : ctxB [] := ⟨by simp, by simp⟩
  refine Yields.succ (fun k => R06_Kernel_Class.eq_2 ..) ?_
  refine Yields.bind (Ev.is (split_ev hp.1 (by omega))) (fun y _ => ?_)
  refine Yields.ite (fun _ => ?_) (fun _ => ?_)
  · exact Yields.bind (type_y sig hsig t.count [] t hc ht (Nat.le_refl _)).2 (fun _ _ => Yields.pure trivial)
  · exact Yields.bind (type_y sig hsig t.count [] t hc ht (Nat.le_refl _)).1 (fun _ _ => Yields.pure trivial)
end

theorem signature_y (sig : List Dc) (hsig : ∀ x ∈ sig, Pr x.cls) (hb : sig.length ≤ 1000) : Yields (fun k => R06_Signature k sig) (fun _ => True) := by
  have loop : ∀ (p i : Nat), p = sig.length - i → i ≤ sig.length → Yields (fun k => R06_Signature_L1 k sig (i : Int)) (fun _ => True) := by
    intro p
    induction p with
    | zero =>
      intro i hq hi
      refine Yields.succ (fun k => R06_Signature_L1.eq_2 ..) ?_
      refine Yields.ite (fun h => ?_) (fun _ => Yields.pure trivial)
      simp [Dc.encL_length] at h; omega
    | succ p ihp =>
      intro i hq hi
      refine Yields.succ (fun k => R06_Signature_L1.eq_2 ..) ?_
      refine Yields.ite (fun _ => ?_) (fun _ => Yields.pure trivial)
      obtain ⟨x, hx, hxm, _⟩ := idx_of (show i < sig.length by omega)
      refine Yields.some hx ?_
      refine Yields.need (by simp [Dc.encL_length]; omega) ?_
      rw [Int.toNat_natCast]
      refine Yields.bind (classOf_y (sig.take i) (fun y hy => hsig y (List.mem_of_mem_take hy)) (hsig x hxm)) (fun y _ => ?_)
      refine Yields.ite (fun _ => Yields.pure trivial) (fun _ => ?_)
      rw [wrapS (by omega)]
      exact ihp (i + 1) (by omega) (by omega)
  refine Yields.succ (fun k => R06_Signature.eq_2 ..) ?_
  exact loop _ 0 rfl (Nat.zero_le _)

/-! sizes of any terms whose lists are short -/
mutual
/-- No list in it is longer than 2^60. -/
def shT : Tm → Prop
  | .mk _ _ _ args => args.length ≤ 1152921504606846976 ∧ shTL args
def shTL : List Tm → Prop
  | [] => True
  | s :: r => shT s ∧ shTL r
 end
theorem shTL_mem : ∀ {l : List Tm} {s : Tm}, shTL l → s ∈ l → shT s
  | _ :: r, s, h, hs => by
    simp only [shTL] at h
    rcases List.mem_cons.1 hs with e | e
    · subst e; exact h.1
    · exact shTL_mem h.2 e
theorem shT_args {s : Tm} (h : shT s) : s.args.length ≤ 1152921504606846976 ∧ shTL s.args := by cases s; exact h
mutual
theorem shT_of : ∀ (t : Tm), okD t.enc → shT t
  | .mk o h n us, hk => by
    simp only [Tm.enc, okD, okL] at hk
    simp only [shT]
    exact ⟨by have := hk.2.2.2.1.1; rwa [Tm.encL_length] at this, shTL_of us hk.2.2.2.1.2⟩
theorem shTL_of : ∀ (us : List Tm), okL (Tm.encL us) → shTL us
  | [], _ => trivial
  | u :: us, hk => by
    simp only [Tm.encL, okL] at hk
    exact ⟨shT_of u hk.1, shTL_of us hk.2⟩
 end

theorem nodes_y (t : Tm) : shT t → ∀ m : Int, Yields (fun k => R03_nodes k t m) (fun _ => True) := by
  induction t using Tm.ind with
  | h t ih =>
    intro ht m
    obtain ⟨hl, hb⟩ := shT_args ht
    have loop : ∀ (q i : Nat) (c : Int), q = t.args.length - i → i ≤ t.args.length → Yields (fun k => R03_nodes_L1 k t m c (i : Int)) (fun _ => True) := by
      intro q
      induction q with
      | zero =>
        intro i c hq hi
        refine Yields.succ (fun k => R03_nodes_L1.eq_2 ..) ?_
        refine Yields.ite (fun h => ?_) (fun _ => Yields.pure trivial)
        simp [Tm.encL_length] at h; omega
      | succ q ihq =>
        intro i c hq hi
        refine Yields.succ (fun k => R03_nodes_L1.eq_2 ..) ?_
        refine Yields.ite (fun _ => ?_) (fun _ => Yields.pure trivial)
        obtain ⟨x, hx, hxm, _⟩ := idx_of (show i < t.args.length by omega)
        refine Yields.some hx ?_
        refine Yields.bind (ih x hxm (shTL_mem hb hxm) _) (fun y _ => ?_)
        rw [wrapS (by omega)]
        exact ihq (i + 1) _ (by omega) (by omega)
    refine Yields.succ (fun k => R03_nodes.eq_2 ..) ?_
    exact loop _ 0 _ rfl (Nat.zero_le _)

theorem depth_y (t : Tm) : shT t → Yields (fun k => R03_Depth k t) (fun _ => True) := by
  induction t using Tm.ind with
  | h t ih =>
    intro ht
    obtain ⟨hl, hb⟩ := shT_args ht
    have loop : ∀ (q i : Nat) (c : Int), q = t.args.length - i → i ≤ t.args.length → Yields (fun k => R03_Depth_L1 k t c (i : Int)) (fun _ => True) := by
      intro q
      induction q with
      | zero =>
        intro i c hq hi
        refine Yields.succ (fun k => R03_Depth_L1.eq_2 ..) ?_
        refine Yields.ite (fun h => ?_) (fun _ => Yields.pure trivial)
        simp [Tm.encL_length] at h; omega
      | succ q ihq =>
        intro i c hq hi
        refine Yields.succ (fun k => R03_Depth_L1.eq_2 ..) ?_
        refine Yields.ite (fun _ => ?_) (fun _ => Yields.pure trivial)
        obtain ⟨x, hx, hxm, _⟩ := idx_of (show i < t.args.length by omega)
        refine Yields.some hx ?_
        refine Yields.bind (ih x hxm (shTL_mem hb hxm)) (fun y _ => ?_)
        rw [wrapS (by omega)]
        exact ihq (i + 1) _ (by omega) (by omega)
    refine Yields.succ (fun k => R03_Depth.eq_2 ..) ?_
    exact loop _ 0 _ rfl (Nat.zero_le _)

theorem size_y {t : Tm} (ht : shT t) : Yields (fun k => R03_Size k t) (fun _ => True) := by
  refine Yields.succ (fun k => R03_Size.eq_2 ..) ?_
  exact Yields.bind (nodes_y t ht _) (fun _ _ => Yields.bind (depth_y t ht) (fun _ _ => Yields.pure trivial))

/-- What is known of a signature's lists. -/
def sigB (sig : List Dc) : Prop := sig.length ≤ 1152921504606846976 ∧ ∀ d ∈ sig, shT d.cls

theorem valid_y (sig : List Dc) (hs : sigB sig) : Yields (fun k => W15_valid k sig) (fun _ => True) := by
  obtain ⟨hl, hb⟩ := hs
  have loop : ∀ (q i : Nat) (c : Int), q = sig.length - i → i ≤ sig.length → Yields (fun k => W15_valid_L1 k sig c (i : Int)) (fun _ => True) := by
    have tail : ∀ c : Int, Yields (fun k => cond (decide (c > 3000)) (some (false)) ((R05_Formed k sig).bind (fun v22 => cond (!v22) (some (false)) ((R06_Signature k sig).bind (fun v25 => some ((v25.2 == 0))))))) (fun _ => True) := by
      intro c
      refine Yields.ite (fun _ => Yields.pure trivial) (fun _ => ?_)
      refine Yields.bind (Ev.is (formedSig_ev sig)) (fun b hb => ?_)
      subst hb
      refine Yields.ite (fun _ => Yields.pure trivial) (fun h => ?_)
      obtain ⟨h1, h2⟩ := sigOK_proper (nb' h)
      exact Yields.bind (signature_y sig h2 (by omega)) (fun _ _ => Yields.pure trivial)
    intro q
    induction q with
    | zero =>
      intro i c hq hi
      refine Yields.succ (fun k => W15_valid_L1.eq_2 ..) ?_
      refine Yields.ite (fun h => ?_) (fun _ => tail c)
      simp [Dc.encL_length] at h; omega
    | succ q ihq =>
      intro i c hq hi
      refine Yields.succ (fun k => W15_valid_L1.eq_2 ..) ?_
      refine Yields.ite (fun _ => ?_) (fun _ => tail c)
      obtain ⟨x, hx, hxm, _⟩ := idx_of (show i < sig.length by omega)
      refine Yields.some hx ?_
      refine Yields.bind (size_y (hb x hxm)) (fun y _ => ?_)
      rw [wrapS (by omega)]
      exact ihq (i + 1) _ (by omega) (by omega)
  refine Yields.succ (fun k => W15_valid.eq_2 ..) ?_
  exact loop _ 0 _ rfl (Nat.zero_le _)
end Go.Proofs.YtnolnmfpmhpapaaGreat
end

/-! EvD -/
section
namespace Go.Proofs.YtnolnmfpmhpapaaGreat
open Go.Tr Go
set_option linter.unusedVariables false
set_option linter.unusedSimpArgs false
set_option maxRecDepth 10000

/-! the call -/
theorem rw_ok {t : Rw} (h : okAll t.sk = true) : okRaw t.op t.name t.args.length = true ∧ okAllL (Rw.skL t.args) = true := by
  rw [Rw.sk_eq] at h
  simp only [okAll, sk_ok, Bool.and_eq_true] at h
  exact h

theorem okAllL_get : ∀ {us : List Tm} {i : Nat} {u : Tm}, okAllL us = true → us[i]? = some u → okAll u = true
  | [], i, u, _, hu => by simp at hu
  | v :: us, 0, u, h, hu => by
    simp only [okAllL, Bool.and_eq_true] at h
    simp at hu; subst hu; exact h.1
  | v :: us, i + 1, u, h, hu => by
    simp only [okAllL, Bool.and_eq_true] at h
    exact okAllL_get h.2 (by simpa using hu)

theorem rw_two {t : Rw} (h : okAll t.sk = true) (ho : t.op = 4) : ∃ a b, t.args = [a, b] ∧ okAll a.sk = true ∧ a.sk.height + 1 ≤ t.sk.height := by
  obtain ⟨h1, h2⟩ := rw_ok h
  have h3 : t.args.length = 2 := by
    simp only [okRaw, Bool.and_eq_true, rawArgs, ho] at h1
    have := h1.1.1.2
    simp at this
    omega
  cases t with
  | mk o s us =>
    simp only [Rw.args] at h2 h3 ⊢
    match us, h3 with
    | [a, b], _ =>
      simp only [Rw.skL, okAllL, Bool.and_eq_true] at h2
      refine ⟨a, b, rfl, h2.1, ?_⟩
      have := Rw.sk_eq (.mk o s [a, b])
      rw [this]
      show a.sk.height + 1 ≤ Tm.height (.mk _ _ _ [a.sk, b.sk])
      simp only [Tm.height, Tm.heightL]
      omega

/-- What a call is read as: the family's name and the arguments' names. -/
theorem call_spine : ∀ (n : Nat) (t : Rw), okAll t.sk = true → t.sk.height ≤ n → n ≤ 1000 → ∃ r, Ev (fun k => R15_spine k t) r ∧ r.2.1.length + 1 ≤ n ∧
    ∀ l : List ByteArray, l.length + n ≤ 1000000 → Yields (fun k => order_call_L1 k t l) (fun r' => r'.2.2 = r.2.2 ∧ (r.2.2 = true → r' = (r.1, r.2.1 ++ l.reverse, true)))
  | 0, t, hok, hn, _ => by have := Tm.height_pos t.sk; omega
  | n + 1, t, hok, hn, hb => by
    have hp := Tm.height_pos t.sk
    by_cases h2 : t.op = 2
    · refine ⟨(t.name, [], true), ?_, by simp, fun l hl => ?_⟩
      · refine Ev.succ (fun k => R15_spine.eq_2 ..) ?_
        exact Ev.t (beqI h2) (Ev.pure _)
      · refine Yields.succ (fun k => order_call_L1.eq_2 ..) ?_
        refine Yields.ite (fun h => ?_) (fun _ => ?_)
        · exfalso; simp [h2] at h
        refine Yields.need (by simp; omega) ?_
        exact Yields.pure ⟨beqI h2, fun _ => by simp [beqI h2]⟩
    by_cases h4 : t.op = 4
    · obtain ⟨a, b, e, ha, hh⟩ := rw_two hok h4
      have sp : ∀ {g : Nat → Option (ByteArray × List ByteArray × Bool)} {r}, Ev g r → (∀ k, g k = cond (b.op != 2) (cond (b.op != 3) (some (⟨#[]⟩, [], false)) ((R15_spine k a).bind (fun v22 => cond (decide ((List.map D.str (v22.2.1 ++ [b.name])).length ≤ 1000000)) (some (v22.1, (v22.2.1 ++ [b.name]), v22.2.2)) none))) ((R15_spine k a).bind (fun v22 => cond (decide ((List.map D.str (v22.2.1 ++ [b.name])).length ≤ 1000000)) (some (v22.1, (v22.2.1 ++ [b.name]), v22.2.2)) none))) → Ev (fun k => R15_spine k t) r := by
        intro g r h1 h2'
        refine Ev.succ (fun k => R15_spine.eq_2 ..) ?_
        refine Ev.f (beqI' h2) ?_
        refine Ev.f (by simp [h4, e, Rw.encL_length]) ?_
        simp only [e, idx_get0, idx_get1, Option.bind_some]
        have : g = fun k => _ := funext h2'
        rw [this] at h1
        exact h1
      by_cases hb2 : b.op = 2 ∨ b.op = 3
      · obtain ⟨r0, e0, hl0, hc0⟩ := call_spine n a ha (by omega) (by omega)
        refine ⟨(r0.1, r0.2.1 ++ [b.name], r0.2.2), sp (g := fun k => _) ?_ (fun k => rfl), by simp; omega, fun l hl => ?_⟩
        · have tail : Ev (fun k => (R15_spine k a).bind (fun v22 => cond (decide ((List.map D.str (v22.2.1 ++ [b.name])).length ≤ 1000000)) (some (v22.1, (v22.2.1 ++ [b.name]), v22.2.2)) none)) (r0.1, r0.2.1 ++ [b.name], r0.2.2) :=
            e0.bind (Ev.need (by simp; omega) (Ev.pure _))
          refine Ev.ite (fun h => ?_) (fun _ => tail)
          refine Ev.ite (fun h' => ?_) (fun _ => tail)
          exfalso
          rcases hb2 with e | e <;> simp [e] at h h'
        · refine Yields.succ (fun k => order_call_L1.eq_2 ..) ?_
          refine Yields.ite (fun _ => ?_) (fun h => ?_)
          · refine Yields.some (x := b) (by rw [e]; rfl) ?_
            refine Yields.ite (fun h => ?_) (fun _ => ?_)
            · exfalso; rcases hb2 with e | e <;> simp [e] at h
            refine Yields.need (by simp; omega) ?_
            refine Yields.some (x := a) (by rw [e]; rfl) ?_
            refine Yields.mono (hc0 (l ++ [b.name]) (by simp; omega)) (fun r' hr => ⟨hr.1, fun h => ?_⟩)
            rw [hr.2 h]; simp
          · exfalso; simp [h4] at h
      · refine ⟨(⟨#[]⟩, [], false), sp (g := fun k => _) ?_ (fun k => rfl), by simp, fun l hl => ?_⟩
        · refine Ev.t (bneI (fun h => hb2 (.inl h))) (Ev.t (bneI (fun h => hb2 (.inr h))) (Ev.pure _))
        · refine Yields.succ (fun k => order_call_L1.eq_2 ..) ?_
          refine Yields.ite (fun _ => ?_) (fun h => ?_)
          · refine Yields.some (x := b) (by rw [e]; rfl) ?_
            refine Yields.ite (fun h => ?_) (fun h => ?_)
            · exact Yields.pure ⟨rfl, fun h => by cases h⟩
            · exfalso
              rw [bneI (fun h => hb2 (.inl h)), bneI (fun h => hb2 (.inr h))] at h; cases h
          · exfalso; simp [h4] at h
    · refine ⟨(⟨#[]⟩, [], false), ?_, by simp, fun l hl => ?_⟩
      · refine Ev.succ (fun k => R15_spine.eq_2 ..) ?_
        refine Ev.f (beqI' h2) ?_
        exact Ev.t (by simp [h4]) (Ev.pure _)
      · refine Yields.succ (fun k => order_call_L1.eq_2 ..) ?_
        refine Yields.ite (fun h => ?_) (fun _ => ?_)
        · exfalso; simp [h4] at h
        refine Yields.need (by simp; omega) ?_
        exact Yields.pure ⟨beqI' h2, fun h => by cases h⟩

/-! the order -/
mutual
/-- The names in an order, in order. -/
def pn : Pt → List ByteArray
  | .mk o s m n r ps => if o = 1 then [m] else pnL ps
def pnL : List Pt → List ByteArray
  | [] => []
  | t :: ts => pn t ++ pnL ts
 end
mutual
/-- An order is one as they are written. -/
def fm : Pt → Int → Bool
  | .mk o s m n r ps, k => if o = 1 then decide (k ≤ 4) else (!((((o != 5) && (o != 6)) || decide (((Pt.encL ps).length : Int) < 1)) || decide (((Pt.encL ps).length : Int) > 8) || decide (k > 4))) && fmL ps (k + 1)
def fmL : List Pt → Int → Bool
  | [], _ => true
  | t :: ts, k => fm t k && fmL ts k
 end
mutual
/-- The order whose names are numbers from b on. -/
def nm : Pt → Nat → Od
  | .mk o s m n r ps, b => if o = 1 then .mk 1 b [] else .mk (if o = 6 then 3 else 2) 0 (nmL ps b)
def nmL : List Pt → Nat → List Od
  | [], _ => []
  | t :: ts, b => nm t b :: nmL ts (b + (pn t).length)
 end
mutual
/-- The order whose names are what f says. -/
def ro (f : ByteArray → Int) : Pt → Od
  | .mk o s m n r ps => if o = 1 then .mk 1 (f m) [] else .mk (if o = 6 then 3 else 2) 0 (roL f ps)
def roL (f : ByteArray → Int) : List Pt → List Od
  | [] => []
  | t :: ts => ro f t :: roL f ts
 end
theorem pn_eq (t : Pt) : pn t = if t.op = 1 then [t.name] else pnL t.parts := by cases t; rfl
theorem fm_eq (t : Pt) (k : Int) : fm t k = if t.op = 1 then decide (k ≤ 4) else (!((((t.op != 5) && (t.op != 6)) || decide (((Pt.encL t.parts).length : Int) < 1)) || decide (((Pt.encL t.parts).length : Int) > 8) || decide (k > 4))) && fmL t.parts (k + 1) := by cases t; rfl
theorem nm_eq (t : Pt) (b : Nat) : nm t b = if t.op = 1 then .mk 1 b [] else .mk (if t.op = 6 then 3 else 2) 0 (nmL t.parts b) := by cases t; rfl
theorem ro_eq (f : ByteArray → Int) (t : Pt) : ro f t = if t.op = 1 then .mk 1 (f t.name) [] else .mk (if t.op = 6 then 3 else 2) 0 (roL f t.parts) := by cases t; rfl
theorem nmL_length : ∀ (l : List Pt) (b : Nat), (nmL l b).length = l.length
  | [], _ => rfl
  | t :: ts, b => by simp only [nmL, List.length_cons, nmL_length ts]
theorem roL_length (f : ByteArray → Int) : ∀ (l : List Pt), (roL f l).length = l.length
  | [] => rfl
  | t :: ts => by simp only [roL, List.length_cons, roL_length f ts]

theorem skL_length : ∀ l : List Pt, (Pt.skL l).length = l.length
  | [] => rfl
  | t :: ts => by simp only [Pt.skL, List.length_cons, skL_length ts]
theorem sk_count (t : Pt) : t.sk.count = 1 + Tm.countL (Pt.skL t.parts) := by rw [Tm.count_eq, Pt.sk_args]; omega
theorem parts_le {t : Pt} : t.parts.length + 1 ≤ t.sk.count := by
  have := Tm.length_le_countL (Pt.skL t.parts)
  rw [skL_length] at this
  rw [sk_count]; omega
theorem part_count : ∀ {l : List Pt} {t : Pt}, t ∈ l → t.sk.count ≤ Tm.countL (Pt.skL l)
  | u :: l, t, h => by
    simp only [Pt.skL, Tm.countL]
    rcases List.mem_cons.1 h with e | e
    · subst e; omega
    · have := part_count e; omega

mutual
theorem pn_length : ∀ t : Pt, (pn t).length ≤ t.sk.count
  | .mk o s m n r ps => by
    rw [sk_count, pn_eq]
    have := pnL_length ps
    split
    · simp
    · simp only [Pt.parts]; omega
theorem pnL_length : ∀ l : List Pt, (pnL l).length ≤ Tm.countL (Pt.skL l)
  | [] => Nat.le_refl _
  | t :: ts => by
    have h1 := pn_length t
    have h2 := pnL_length ts
    simp only [pnL, Pt.skL, Tm.countL, List.length_append]; omega
 end

theorem get_of_drop {α : Type} {l : List α} {i : Nat} {u : α} {ts : List α} (hd : l.drop i = u :: ts) : l[i]? = some u := by
  have := congrArg (fun l => l[0]?) hd
  simpa using this
theorem drop_of_drop {α : Type} {l : List α} {i : Nat} {u : α} {ts : List α} (hd : l.drop i = u :: ts) : l.drop (i + 1) = ts := by
  rw [← List.drop_drop, hd]; rfl

theorem form_ev (t : Pt) : ∀ k : Int, t.sk.count ≤ 1000 → 0 ≤ k → k ≤ 100 → Ev (fun n => R15_form n t k) (fm t k) := by
  induction t using Pt.ind with
  | h t ih =>
    intro k hc hk0 hk1
    have hpl := @parts_le t
    have loop : ∀ (ts : List Pt) (i : Nat), t.parts.drop i = ts → i + ts.length = t.parts.length → k ≤ 4 → Ev (fun n => R15_form_L1 n t k (i : Int)) (fmL ts (k + 1)) := by
      intro ts
      induction ts with
      | nil =>
        intro i hd hi hk
        refine Ev.succ (fun k => R15_form_L1.eq_2 ..) ?_
        simp only [List.length_nil, Nat.add_zero] at hi
        exact Ev.f (by simp [Pt.encL_length, hi]) (Ev.pure _)
      | cons u ts ihl =>
        intro i hd hi hk
        refine Ev.succ (fun k => R15_form_L1.eq_2 ..) ?_
        simp only [List.length_cons] at hi
        have hu := get_of_drop hd
        have hum := List.mem_of_getElem? hu
        refine Ev.t (by simp [Pt.encL_length]; omega) ?_
        refine Ev.some (idx_get hu) ?_
        have hw : IntKind.i64.wrap (k + 1) = k + 1 := wrap_i64 (by omega) (by omega)
        rw [hw]
        have h1 := part_count hum
        have hsk := sk_count t
        refine (ih u hum (k + 1) (by omega) (by omega) (by omega)).bind ?_
        simp only [fmL]
        refine Ev.ite (fun h => ?_) (fun h => ?_)
        · rw [nb h]; exact Ev.pure _
        · rw [nb' h, wrapS (by omega), Bool.true_and]
          exact ihl (i + 1) (drop_of_drop hd) (by omega) hk
    refine Ev.succ (fun k => R15_form.eq_2 ..) ?_
    rw [fm_eq]
    by_cases h1 : t.op = 1
    · rw [if_pos h1]
      exact Ev.t (beqI h1) (Ev.pure _)
    · rw [if_neg h1]
      refine Ev.f (beqI' h1) ?_
      refine Ev.ite (fun h => ?_) (fun h => ?_)
      · rw [h]; exact Ev.pure _
      · rw [h]
        simp only [Bool.or_eq_false_iff, decide_eq_false_iff_not] at h
        exact loop t.parts 0 rfl (by simp) (by omega)

theorem ordered_y (t : Pt) : ∀ (k : Int) (l : List ByteArray), t.sk.count + l.length ≤ 1000 → 0 ≤ k → k ≤ 4 →
    Yields (fun n => order_ordered n t k l) (fun r => r.2.1 = fm t (k + 1) ∧ (r.2.1 = true → r = (nm t l.length, true, l ++ pn t))) := by
  induction t using Pt.ind with
  | h t ih =>
    intro k l hc hk0 hk1
    have hpl := @parts_le t
    have loop : ∀ (o : Int) (ts : List Pt) (i : Nat) (acc : List Od) (l : List ByteArray), t.parts.drop i = ts → i + ts.length = t.parts.length → acc.length = i → Tm.countL (Pt.skL ts) + l.length ≤ 1000 → k ≤ 3 →
        Yields (fun n => order_ordered_L1 n t k l (Od.mk o 0 acc) (i : Int)) (fun r => r.2.1 = fmL ts (k + 1 + 1) ∧ (r.2.1 = true → r = (Od.mk o 0 (acc ++ nmL ts l.length), true, l ++ pnL ts))) := by
      intro o ts
      induction ts with
      | nil =>
        intro i acc l hd hi ha hc hk
        refine Yields.succ (fun k => order_ordered_L1.eq_2 ..) ?_
        simp only [List.length_nil, Nat.add_zero] at hi
        refine Yields.ite (fun h => ?_) (fun _ => ?_)
        · exfalso; simp [Pt.encL_length, hi] at h
        exact Yields.pure ⟨rfl, fun _ => by simp [nmL, pnL]⟩
      | cons u ts ihl =>
        intro i acc l hd hi ha hc hk
        refine Yields.succ (fun k => order_ordered_L1.eq_2 ..) ?_
        simp only [List.length_cons] at hi
        have hu := get_of_drop hd
        have hum := List.mem_of_getElem? hu
        simp only [Pt.skL, Tm.countL] at hc
        have hpn := pn_length u
        refine Yields.ite (fun _ => ?_) (fun h => ?_)
        · refine Yields.some (idx_get hu) ?_
          have hw : IntKind.i64.wrap (k + 1) = k + 1 := wrap_i64 (by omega) (by omega)
          rw [hw]
          refine Yields.bind (ih u hum (k + 1) l (by omega) (by omega) (by omega)) (fun r hr => ?_)
          simp only [fmL]
          refine Yields.ite (fun h => ?_) (fun h => ?_)
          · have := nb h
            refine Yields.pure ⟨?_, fun h => by cases h⟩
            rw [← hr.1, this]; rfl
          · have h := nb' h
            have he := hr.2 h
            rw [h] at hr
            subst he
            refine Yields.need (by simp [Od.encL_length, Od.parts]; omega) ?_
            rw [wrapS (by omega), ← hr.1, Bool.true_and]
            simp only [Od.op, Od.n, Od.parts]
            refine Yields.mono (ihl (i + 1) (acc ++ [nm u l.length]) (l ++ pn u) (drop_of_drop hd) (by omega) (by simp [ha]) (by simp; omega) hk) (fun r' hr' => ⟨hr'.1, fun h => ?_⟩)
            rw [hr'.2 h]
            simp [nmL, pnL]
        · exfalso; simp [Pt.encL_length] at h; omega
    refine Yields.succ (fun k => order_ordered.eq_2 ..) ?_
    rw [fm_eq, nm_eq, pn_eq]
    refine Yields.ite (fun h => ?_) (fun h => ?_)
    · have h : k = 4 := by simpa using h
      refine Yields.pure ⟨?_, fun h => by cases h⟩
      subst h
      split <;> simp
    have hk : k ≤ 3 := by simp at h; omega
    by_cases h1 : t.op = 1
    · simp only [if_pos h1]
      refine Yields.ite (fun _ => ?_) (fun h => ?_)
      · refine Yields.need (by simp; omega) ?_
        refine Yields.pure ⟨by simp; omega, fun _ => ?_⟩
        have hw : IntKind.i64.wrap (((List.map D.str (l ++ [t.name])).length : Int) - 1) = (l.length : Int) := by
          rw [wrap_i64 (by simp only [List.length_map, List.length_append, List.length_cons, List.length_nil]; omega) (by simp only [List.length_map, List.length_append, List.length_cons, List.length_nil]; omega)]; simp
        rw [hw]
      · exfalso; simp [h1] at h
    simp only [if_neg h1]
    refine Yields.ite (fun h => ?_) (fun _ => ?_)
    · exfalso; simp [h1] at h
    have hlen := Pt.encL_length t.parts
    have main : ∀ o : Int, (t.op = 5 ∨ t.op = 6) → o = (if t.op = 6 then 3 else 2) → Yields (fun n => cond ((((Pt.encL t.parts).length : Int) == 0) || (decide (((Pt.encL t.parts).length : Int) > 8))) (some ((Od.mk o 0 ([])), false, l)) (order_ordered_L1 n t k l (Od.mk o 0 ([])) 0))
        (fun r => r.2.1 = ((!((((t.op != 5) && (t.op != 6)) || decide (((Pt.encL t.parts).length : Int) < 1)) || decide (((Pt.encL t.parts).length : Int) > 8) || decide (k + 1 > 4))) && fmL t.parts (k + 1 + 1)) ∧ (r.2.1 = true → r = (Od.mk (if t.op = 6 then 3 else 2) 0 (nmL t.parts l.length), true, l ++ pnL t.parts))) := by
      intro o ho e
      have hop : ((t.op != 5) && (t.op != 6)) = false := by rcases ho with e | e <;> simp [e]
      have hk' : decide (k + 1 > 4) = false := by simp; omega
      rw [hop, hk', Bool.false_or, Bool.or_false]
      refine Yields.ite (fun h => ?_) (fun h => ?_)
      · refine Yields.pure ⟨?_, fun h => by cases h⟩
        have : (decide (((Pt.encL t.parts).length : Int) < 1) || decide (((Pt.encL t.parts).length : Int) > 8)) = true := by
          rw [hlen] at h ⊢
          simp only [Bool.or_eq_true, beq_iff_eq, decide_eq_true_eq] at h ⊢; omega
        rw [this]; rfl
      · have : (decide (((Pt.encL t.parts).length : Int) < 1) || decide (((Pt.encL t.parts).length : Int) > 8)) = false := by
          rw [hlen] at h ⊢
          simp only [Bool.or_eq_false_iff, beq_eq_false_iff_ne, ne_eq, decide_eq_false_iff_not] at h ⊢; omega
        rw [this, Bool.not_false, Bool.true_and, ← e]
        have hsk := sk_count t
        exact loop o t.parts 0 [] l rfl (by simp) rfl (by omega) hk
    refine Yields.ite (fun h => ?_) (fun h => ?_)
    · have h5 : t.op = 5 := by simpa using h
      refine Yields.ite (fun _ => ?_) (fun h => by exfalso; simp [h5] at h)
      refine Yields.ite (fun h => by exfalso; simp [h5] at h) (fun _ => ?_)
      exact main 2 (.inl h5) (by simp [h5])
    refine Yields.ite (fun h => ?_) (fun h' => ?_)
    · have h6 : t.op = 6 := by simpa using h
      refine Yields.ite (fun _ => ?_) (fun h => by exfalso; simp [h6] at h)
      exact main 3 (.inr h6) (by simp [h6])
    · refine Yields.pure ⟨?_, fun h => by cases h⟩
      have h5 : t.op ≠ 5 := by simpa using h
      have h6 : t.op ≠ 6 := by simpa using h'
      simp [h5, h6]

theorem renumbered_ev (f : ByteArray → Int) (nums : List Int) (t : Pt) : ∀ b : Nat, t.sk.count ≤ 1000 → (∀ j s, (pn t)[j]? = some s → nums[b + j]? = some (f s)) → Ev (fun n => order_renumbered n (nm t b) nums) (ro f t) := by
  induction t using Pt.ind with
  | h t ih =>
    intro b hc hn
    have hpl := @parts_le t
    refine Ev.succ (fun k => order_renumbered.eq_2 ..) ?_
    rw [nm_eq, ro_eq]
    rw [pn_eq] at hn
    by_cases h1 : t.op = 1
    · simp only [if_pos h1] at hn ⊢
      refine Ev.t rfl ?_
      refine Ev.some (idx_get (by simpa using hn 0 t.name rfl)) ?_
      exact Ev.pure _
    · simp only [if_neg h1] at hn ⊢
      refine Ev.f (by simp only [Od.op]; split <;> rfl) ?_
      have loop : ∀ (ts : List Pt) (i b' : Nat) (acc : List Od), t.parts.drop i = ts → i + ts.length = t.parts.length → acc.length = i → (nmL t.parts b).drop i = nmL ts b' → (∀ j s, (pnL ts)[j]? = some s → nums[b' + j]? = some (f s)) →
          Ev (fun n => order_renumbered_L1 n (Od.mk (if t.op = 6 then 3 else 2) 0 (nmL t.parts b)) nums acc (i : Int)) (Od.mk (if t.op = 6 then 3 else 2) 0 (acc ++ roL f ts)) := by
        intro ts
        induction ts with
        | nil =>
          intro i b' acc hd hi ha hnm hn
          refine Ev.succ (fun k => order_renumbered_L1.eq_2 ..) ?_
          simp only [List.length_nil, Nat.add_zero] at hi
          refine Ev.f (by simp [Od.encL_length, Od.parts, nmL_length, hi]) ?_
          simp only [roL, List.append_nil]
          exact Ev.pure _
        | cons u ts ihl =>
          intro i b' acc hd hi ha hnm hn
          refine Ev.succ (fun k => order_renumbered_L1.eq_2 ..) ?_
          simp only [List.length_cons] at hi
          have hu := get_of_drop hd
          have hum := List.mem_of_getElem? hu
          have h1 := part_count hum
          have hsk := sk_count t
          simp only [nmL] at hnm
          simp only [pnL] at hn
          refine Ev.t (by simp [Od.encL_length, Od.parts, nmL_length]; omega) ?_
          refine Ev.some (idx_get (get_of_drop hnm)) ?_
          refine (ih u hum b' (by omega) (fun j s hj => hn j s ?_)).bind ?_
          · rw [List.getElem?_append_left, hj]
            exact (List.getElem?_eq_some_iff.1 hj).1
          refine Ev.need (by simp [Od.encL_length]; omega) ?_
          rw [wrapS (by omega)]
          refine (ihl (i + 1) (b' + (pn u).length) (acc ++ [ro f u]) (drop_of_drop hd) (by omega) (by simp [ha]) (drop_of_drop hnm) (fun j s hj => ?_)).eq ?_
          · have := hn ((pn u).length + j) s (by rw [List.getElem?_append_right (by omega)]; simpa using hj)
            rw [← this, Nat.add_assoc]
          · simp [roL]
      exact loop t.parts 0 b [] rfl (by simp) rfl rfl hn

/-! where a name stands -/
def hits (s : ByteArray) : List ByteArray → Nat → List Int
  | [], _ => []
  | x :: l, i => if s.toList == x.toList then (i : Int) :: hits s l (i + 1) else hits s l (i + 1)
def uniq (s : ByteArray) (l : List ByteArray) : Bool := (hits s l 0).length == 1

theorem hits_idx (s : ByteArray) : ∀ (l : List ByteArray) (i : Nat), idxS s l i = (hits s l i).headD (-1)
  | [], _ => rfl
  | x :: l, i => by
    simp only [idxS, hits]
    split
    · rfl
    · exact hits_idx s l (i + 1)
theorem hits_length (s : ByteArray) : ∀ (l : List ByteArray) (i j : Nat), (hits s l i).length = (hits s l j).length
  | [], _, _ => rfl
  | x :: l, i, j => by
    simp only [hits]
    split
    · simp only [List.length_cons, hits_length s l (i + 1) (j + 1)]
    · exact hits_length s l (i + 1) (j + 1)
theorem hits_le (s : ByteArray) : ∀ (l : List ByteArray) (i : Nat), (hits s l i).length ≤ l.length
  | [], _ => Nat.le_refl _
  | x :: l, i => by
    simp only [hits]
    have := hits_le s l (i + 1)
    split <;> simp only [List.length_cons] <;> omega
theorem hits_has (s : ByteArray) (l : List ByteArray) : hasS s l = !(hits s l 0).isEmpty := by
  rw [hasS, hits_idx]
  have hr := idxS_range s l 0
  rw [hits_idx] at hr
  cases h : hits s l 0 with
  | nil => rfl
  | cons a r =>
    rw [h] at hr
    have : ∀ (l : List ByteArray) (i : Nat) (a : Int) (r : List Int), hits s l i = a :: r → 0 ≤ a := by
      intro l
      induction l with
      | nil => intro i a r h; cases h
      | cons x l ih =>
        intro i a r h
        simp only [hits] at h
        split at h
        · injection h with h1 h2; omega
        · exact ih _ _ _ h
    have := this _ _ _ _ h
    simpa using this
theorem hits_drop (s : ByteArray) : ∀ (l : List ByteArray) (i : Nat) (a : Int) (r : List Int), hits s l i = a :: r → (i : Int) ≤ a ∧ a < i + l.length ∧ (hits s (l.drop (a.toNat - i + 1)) 0).length = r.length
  | [], i, a, r, h => by cases h
  | x :: l, i, a, r, h => by
    simp only [hits] at h
    split at h
    · injection h with h1 h2
      subst h1 h2
      refine ⟨Int.le_refl _, by simp only [List.length_cons]; omega, ?_⟩
      simp only [Int.toNat_natCast, Nat.sub_self, List.drop_succ_cons, List.drop_zero]
      exact hits_length ..
    · obtain ⟨h1, h2, h3⟩ := hits_drop s l (i + 1) a r h
      refine ⟨by omega, by simp only [List.length_cons]; omega, ?_⟩
      have : a.toNat - i + 1 = (a.toNat - (i + 1) + 1) + 1 := by omega
      rw [this, List.drop_succ_cons]
      exact h3

theorem place_ev (t : Pt) (v : Int) (ag : List ByteArray) (hl : ag.length ≤ 1000) : ∀ (ts : List ByteArray) (i : Nat) (at_ : Int) (c : Nat), ag.drop i = ts → i + ts.length = ag.length → c + ts.length ≤ 2000 →
    Ev (fun n => R15_order_L1 n ag t v at_ (c : Int) (i : Int)) (Od.mk 1 (IntKind.i64.wrap (v + (hits t.name ts i).getLastD at_)) [], ((c + (hits t.name ts i).length : Nat) : Int) == 1)
  | [], i, at_, c, hd, hi, hc => by
    refine Ev.succ (fun k => R15_order_L1.eq_2 ..) ?_
    simp only [List.length_nil, Nat.add_zero] at hi
    refine Ev.f (by simp [hi]) ?_
    exact Ev.pure _
  | x :: ts, i, at_, c, hd, hi, hc => by
    refine Ev.succ (fun k => R15_order_L1.eq_2 ..) ?_
    simp only [List.length_cons] at hi hc
    refine Ev.t (by simp; omega) ?_
    refine Ev.some (idx_get (get_of_drop hd)) ?_
    have hw := wrapS (show i < 2000000000000000000 by omega)
    rw [hw]
    refine Ev.ite (fun h => ?_) (fun h => ?_)
    · have h : t.name.toList == x.toList := by rw [beq_iff_eq] at h ⊢; exact h.symm
      rw [wrapS (show c < 2000000000000000000 by omega)]
      refine (place_ev t v ag hl ts (i + 1) (i : Int) (c + 1) (drop_of_drop hd) (by omega) (by omega)).eq ?_
      simp only [hits, if_pos h, List.getLastD_cons, List.length_cons]
      congr 2
      omega
    · have h : ¬ (t.name.toList == x.toList) = true := by
        intro h'
        rw [beq_iff_eq] at h'
        rw [h', beq_self_eq_true] at h; cases h
      refine (place_ev t v ag hl ts (i + 1) at_ c (drop_of_drop hd) (by omega) (by omega)).eq ?_
      simp only [hits, if_neg h]

/-- The number of a name. -/
def numOf (v : Int) (ag : List ByteArray) (s : ByteArray) : Int := IntKind.i64.wrap (v + idxS s ag 0)

theorem refOrder_y (v : Int) (ag : List ByteArray) (hl : ag.length ≤ 1000) (t : Pt) : t.sk.count ≤ 1000 →
    Yields (fun n => R15_order n t ag v) (fun r => r.2 = (pn t).all (fun s => uniq s ag) ∧ (r.2 = true → r = (ro (numOf v ag) t, true))) := by
  induction t using Pt.ind with
  | h t ih =>
    intro hc
    have hpl := @parts_le t
    refine Yields.succ (fun k => R15_order.eq_2 ..) ?_
    rw [ro_eq, pn_eq]
    by_cases h1 : t.op = 1
    · simp only [if_pos h1]
      refine Yields.ite (fun _ => ?_) (fun h => by exfalso; simp [h1] at h)
      refine Yields.mono (Ev.is (place_ev t v ag hl ag 0 0 0 rfl (by simp) (by omega))) (fun r hr => ?_)
      subst hr
      have hb : (((0 + (hits t.name ag 0).length : Nat) : Int) == 1) = uniq t.name ag := by
        simp only [uniq, Nat.zero_add]
        rw [Bool.eq_iff_iff, beq_iff_eq, beq_iff_eq]; omega
      refine ⟨by simpa using hb, fun h => ?_⟩
      simp only [hb] at h ⊢
      rw [h]
      simp only [uniq, beq_iff_eq] at h
      obtain ⟨a, ha⟩ := List.length_eq_one_iff.1 h
      simp only [numOf, hits_idx, ha]; rfl
    · simp only [if_neg h1]
      have loop : ∀ (o : Int) (ts : List Pt) (i : Nat) (acc : List Od), t.parts.drop i = ts → i + ts.length = t.parts.length → acc.length = i →
          Yields (fun n => R15_order_L2 n t ag v (Od.mk o 0 acc) (i : Int)) (fun r => r.2 = (pnL ts).all (fun s => uniq s ag) ∧ (r.2 = true → r = (Od.mk o 0 (acc ++ roL (numOf v ag) ts), true))) := by
        intro o ts
        induction ts with
        | nil =>
          intro i acc hd hi ha
          refine Yields.succ (fun k => R15_order_L2.eq_2 ..) ?_
          simp only [List.length_nil, Nat.add_zero] at hi
          refine Yields.ite (fun h => ?_) (fun _ => ?_)
          · exfalso; simp [Pt.encL_length, hi] at h
          exact Yields.pure ⟨rfl, fun _ => by simp [roL]⟩
        | cons u ts ihl =>
          intro i acc hd hi ha
          refine Yields.succ (fun k => R15_order_L2.eq_2 ..) ?_
          simp only [List.length_cons] at hi
          have hu := get_of_drop hd
          have hum := List.mem_of_getElem? hu
          have h1 := part_count hum
          have hsk := sk_count t
          refine Yields.ite (fun _ => ?_) (fun h => by exfalso; simp [Pt.encL_length] at h; omega)
          refine Yields.some (idx_get hu) ?_
          refine Yields.bind (ih u hum (by omega)) (fun r hr => ?_)
          simp only [pnL, List.all_append]
          refine Yields.ite (fun h => ?_) (fun h => ?_)
          · have := nb h
            rw [this] at hr
            refine Yields.pure ⟨?_, fun h => by cases h⟩
            rw [← hr.1]; rfl
          · have h := nb' h
            have he := hr.2 h
            rw [h] at hr
            subst he
            refine Yields.need (by simp [Od.encL_length, Od.parts]; omega) ?_
            rw [wrapS (by omega), ← hr.1, Bool.true_and]
            simp only [Od.op, Od.n, Od.parts]
            refine Yields.mono (ihl (i + 1) (acc ++ [ro (numOf v ag) u]) (drop_of_drop hd) (by omega) (by simp [ha])) (fun r' hr' => ⟨hr'.1, fun h => ?_⟩)
            rw [hr'.2 h]
            simp [roL]
      refine Yields.ite (fun h => by exfalso; simp [h1] at h) (fun _ => ?_)
      refine Yields.ite (fun h => ?_) (fun h => ?_)
      · have h6 : t.op = 6 := by simpa using h
        simp only [if_pos h6]
        exact loop 3 t.parts 0 [] rfl (by simp) rfl
      · have h6 : t.op ≠ 6 := by simpa using h
        simp only [if_neg h6]
        exact loop 2 t.parts 0 [] rfl (by simp) rfl

theorem read_ev (t : Pt) (d : Dc) (fp : Int × Int) (nmf : ByteArray) (ag : List ByteArray) (hl : ag.length ≤ 1000) (hc : t.sk.count ≤ 1000) : ∀ (ts : List ByteArray) (i : Nat) (nums : List Int), (pn t).drop i = ts → i + ts.length = (pn t).length → nums = ((pn t).take i).map (numOf d.implicit ag) →
    Ev (fun n => order_Read_L1 n (nm t 0, true, pn t) (nmf, ag, true) d fp nums (i : Int)) (cond (ts.all (fun s => uniq s ag)) (Me.mk fp.1 (ro (numOf d.implicit ag) t), 0) (Me.mk 0 (Od.mk 0 0 []), 20))
  | [], i, nums, hd, hi, hn => by
    refine Ev.succ (fun k => order_Read_L1.eq_2 ..) ?_
    simp only [List.length_nil, Nat.add_zero] at hi
    refine Ev.f (by simp [hi]) ?_
    refine (renumbered_ev (numOf d.implicit ag) nums t 0 hc (fun j s hj => ?_)).bind ?_
    · rw [hn, hi, List.take_of_length_le (by omega), List.getElem?_map, Nat.zero_add, hj]; rfl
    · simp only [List.all_nil]
      exact Ev.pure _
  | s :: ts, i, nums, hd, hi, hn => by
    refine Ev.succ (fun k => order_Read_L1.eq_2 ..) ?_
    simp only [List.length_cons] at hi
    have hpn := pn_length t
    have hu := get_of_drop hd
    refine Ev.t (by simp; omega) ?_
    refine Ev.need (by simp; omega) ?_
    rw [Int.toNat_natCast]
    refine Ev.some hu ?_
    simp only [List.all_cons]
    cases hh : hits s ag 0 with
    | nil =>
      have hi0 : idxS s ag 0 = -1 := by rw [hits_idx, hh]; rfl
      have hun : uniq s ag = false := by rw [uniq, hh]; rfl
      refine Ev.t (by rw [hi0]; rfl) ?_
      rw [hun]
      exact Ev.pure _
    | cons a r =>
      have hi0 : idxS s ag 0 = a := by rw [hits_idx, hh]; rfl
      obtain ⟨g1, g2, g3⟩ := hits_drop s ag 0 a r hh
      have hw : IntKind.i64.wrap (a + 1) = a + 1 := wrap_i64 (by omega) (by omega)
      refine Ev.f (by rw [hi0]; simp; omega) ?_
      simp only [hi0, hw]
      refine Ev.need (by simp; omega) ?_
      have h1 : (a + 1).toNat = a.toNat - 0 + 1 := by omega
      rw [h1, hits_has]
      refine Ev.ite (fun h => ?_) (fun h => ?_)
      · have hun : uniq s ag = false := by
          rw [uniq, hh]
          cases r with
          | nil =>
            rw [List.length_nil, List.length_eq_zero_iff] at g3
            rw [g3] at h; cases h
          | cons b r => simp
        rw [hun]
        exact Ev.pure _
      · have hun : uniq s ag = true := by
          rw [uniq, hh]
          cases r with
          | nil => rfl
          | cons b r =>
            have h := nb' h
            rw [List.isEmpty_iff] at h
            rw [h] at g3; cases g3
        rw [hun, Bool.true_and]
        refine Ev.need ?_ ?_
        · subst hn; simp [List.length_take]; omega
        rw [wrapS (by omega)]
        refine read_ev t d fp nmf ag hl hc ts (i + 1) _ (drop_of_drop hd) (by omega) ?_
        rw [hn, List.take_add_one, hu]
        simp [numOf, hi0]
end Go.Proofs.YtnolnmfpmhpapaaGreat
end

/-! EvE -/
section
namespace Go.Proofs.YtnolnmfpmhpapaaGreat
open Go.Tr Go
set_option linter.unusedVariables false
set_option linter.unusedSimpArgs false
set_option maxRecDepth 10000

/-! which domains are depended on: only how many there are counts -/
theorem below_ev (t : Tm) (i : Int) : Ev (fun k => R03_below k t i) (under t.op i) := by
  refine Ev.succ (fun k => R03_below.eq_2 ..) ?_
  by_cases h : t.op = 3 ∨ t.op = 2 ∧ i = 1
  · rw [under, if_pos h]
    exact Ev.t (by simpa using h) (Ev.pure _)
  · rw [under, if_neg h]
    exact Ev.f (by simpa using h) (Ev.pure _)

theorem low_y (t : Tm) : t.count ≤ 1000 → ∀ a b : Int, Yields (fun n => R03_low n t a b) (fun _ => True) := by
  induction t using Tm.ind with
  | h t ih =>
    intro hc a b
    have hcl := Tm.length_le_countL t.args
    have hce := Tm.count_eq t
    have loop : ∀ (q i : Nat), q = t.args.length - i → i ≤ t.args.length → Yields (fun k => R03_low_L1 k t a b (i : Int)) (fun _ => True) := by
      intro q
      induction q with
      | zero =>
        intro i hq hi
        refine Yields.succ (fun k => R03_low_L1.eq_2 ..) ?_
        refine Yields.ite (fun h => ?_) (fun _ => Yields.pure trivial)
        simp [Tm.encL_length] at h; omega
      | succ q ihq =>
        intro i hq hi
        refine Yields.succ (fun k => R03_low_L1.eq_2 ..) ?_
        refine Yields.ite (fun _ => ?_) (fun _ => Yields.pure trivial)
        obtain ⟨x, hx, hxm, _⟩ := idx_of (show i < t.args.length by omega)
        refine Yields.bind (Ev.is (below_ev t _)) (fun y _ => ?_)
        refine Yields.some hx ?_
        have := cnt_arg hxm
        refine Yields.bind (ih x hxm (by omega) _ _) (fun y _ => ?_)
        refine Yields.ite (fun _ => Yields.pure trivial) (fun _ => ?_)
        rw [wrapS (by omega)]
        exact ihq (i + 1) (by omega) (by omega)
    refine Yields.succ (fun k => R03_low.eq_2 ..) ?_
    refine Yields.ite (fun _ => Yields.pure trivial) (fun _ => ?_)
    exact loop _ 0 rfl (Nat.zero_le _)

theorem occurs_y (t : Tm) (hc : t.count ≤ 1000) (v : Int) : Yields (fun n => R03_Occurs n t v) (fun _ => True) := by
  refine Yields.succ (fun k => R03_Occurs.eq_2 ..) ?_
  refine Yields.ite (fun _ => ?_) (fun _ => Yields.pure trivial)
  exact Yields.bind (low_y t hc v v) (fun _ _ => Yields.pure trivial)

theorem dependent_yL : ∀ (n : Nat) (t : Tm) (l : List Bool) (m : List Tm), okAll t = true → t.count ≤ 1000 → t.height ≤ n → l.length + t.height ≤ 1000000 → Yields (fun k => R13_Dependent_L1 k t l) (fun r => r.length + m.length = l.length + (spl n t m).1.length)
  | 0, t, l, m, hok, _, hn, _ => by have := Tm.height_pos t; omega
  | n + 1, t, l, m, hok, hc, hn, hl => by
    refine Yields.succ (fun k => R13_Dependent_L1.eq_2 ..) ?_
    simp only [spl]
    by_cases h : t.op = 2
    · obtain ⟨a, b, e, _, hb, _, hh, hcc⟩ := okAll_two hok h
      rw [if_pos h, e]
      show Yields _ (fun r : List Bool => r.length + m.length = l.length + (spl n b (m ++ [a])).1.length)
      refine Yields.ite (fun _ => ?_) (fun h' => by exfalso; simp [h] at h')
      refine Yields.some idx_get1 ?_
      refine Yields.bind (occurs_y b (by omega) 0) (fun r _ => ?_)
      refine Yields.need (by simp; omega) ?_
      refine Yields.some idx_get1 ?_
      refine Yields.mono (dependent_yL n b (l ++ [r]) (m ++ [a]) hb (by omega) (by omega) (by simp; omega)) (fun r hr => ?_)
      simp only [List.length_append, List.length_cons, List.length_nil] at hr
      omega
    · rw [if_neg h]
      refine Yields.ite (fun h' => by exfalso; simp [h] at h') (fun _ => ?_)
      exact Yields.pure rfl

theorem dependent_y {t : Tm} (ht : Pr t) : Yields (fun k => R14_Dependent k t) (fun r => r.length = (split t).1.length) := by
  obtain ⟨hok, hh, hc⟩ := proper_small ht
  refine Yields.succ (fun k => R14_Dependent.eq_2 ..) ?_
  refine Yields.bind (q := fun r => r.length = (split t).1.length) ?_ (fun r hr => Yields.pure hr)
  refine Yields.succ (fun k => R13_Dependent.eq_2 ..) ?_
  refine Yields.mono (dependent_yL t.height t [] [] hok (by omega) (Nat.le_refl _) (by simp; omega)) (fun r hr => ?_)
  have e : split t = spl t.height t [] := rfl
  rw [e]
  simpa using hr

/-! a name in a signature -/
def fnd (s : ByteArray) : List Dc → Nat → Int
  | [], _ => -1
  | d :: l, i => if d.name.toList == s.toList then (i : Int) else fnd s l (i + 1)
theorem fnd_range (s : ByteArray) : ∀ (l : List Dc) (i : Nat), fnd s l i = -1 ∨ ((i : Int) ≤ fnd s l i ∧ fnd s l i < i + l.length)
  | [], i => .inl rfl
  | d :: l, i => by
    have := fnd_range s l (i + 1)
    simp only [fnd, List.length_cons]
    split
    · right; omega
    · rcases this with h | h
      · left; exact h
      · right; omega

theorem refFind_evL (sig : List Dc) (s : ByteArray) (hl : sig.length ≤ 1000) : ∀ (ts : List Dc) (i : Nat), sig.drop i = ts → i + ts.length = sig.length → Ev (fun k => R05_Find_L1 k sig s (i : Int)) (fnd s ts i)
  | [], i, hd, hi => by
    refine Ev.succ (fun k => R05_Find_L1.eq_2 ..) ?_
    simp only [List.length_nil, Nat.add_zero] at hi
    exact Ev.f (by simp [Dc.encL_length, hi]) (Ev.pure _)
  | d :: ts, i, hd, hi => by
    refine Ev.succ (fun k => R05_Find_L1.eq_2 ..) ?_
    simp only [List.length_cons] at hi
    refine Ev.t (by simp [Dc.encL_length]; omega) ?_
    refine Ev.some (idx_get (get_of_drop hd)) ?_
    simp only [fnd]
    refine Ev.ite (fun h => ?_) (fun h => ?_)
    · rw [if_pos h]; exact Ev.pure _
    · rw [if_neg (by rw [h]; simp), wrapS (by omega)]
      exact refFind_evL sig s hl ts (i + 1) (drop_of_drop hd) (by omega)

theorem find_evL (sig : List Dc) (s : ByteArray) (hl : sig.length ≤ 1000) : ∀ (ts : List Dc) (i : Nat), sig.drop i = ts → i + ts.length = sig.length → Ev (fun k => sign_Find_L1 k sig s (i : Int)) (cond (decide (fnd s ts i < 0)) (0, 6) (fnd s ts i, 0))
  | [], i, hd, hi => by
    refine Ev.succ (fun k => sign_Find_L1.eq_2 ..) ?_
    simp only [List.length_nil, Nat.add_zero] at hi
    exact Ev.f (by simp [Dc.encL_length, hi]) (Ev.pure _)
  | d :: ts, i, hd, hi => by
    refine Ev.succ (fun k => sign_Find_L1.eq_2 ..) ?_
    simp only [List.length_cons] at hi
    refine Ev.t (by simp [Dc.encL_length]; omega) ?_
    refine Ev.some (idx_get (get_of_drop hd)) ?_
    refine Ev.ite (fun h => ?_) (fun h => ?_)
    · have e : fnd s (d :: ts) i = i := by simp only [fnd]; rw [if_pos h]
      have : decide ((i : Int) < 0) = false := by simp
      rw [e, this]
      exact Ev.pure _
    · have e : fnd s (d :: ts) i = fnd s ts (i + 1) := by simp only [fnd]; rw [if_neg (by rw [h]; simp)]
      rw [e, wrapS (by omega)]
      exact find_evL sig s hl ts (i + 1) (drop_of_drop hd) (by omega)

theorem refFind_ev (sig : List Dc) (s : ByteArray) (hl : sig.length ≤ 1000) : Ev (fun k => R05_Find k sig s) (fnd s sig 0) := by
  refine Ev.succ (fun k => R05_Find.eq_2 ..) ?_
  exact refFind_evL sig s hl sig 0 rfl (by simp)
theorem find_ev (sig : List Dc) (s : ByteArray) (hs : sigOK sig = true) : Ev (fun k => sign_Find k sig s) (cond (decide (fnd s sig 0 < 0)) (0, 6) (fnd s sig 0, 0)) := by
  refine Ev.succ (fun k => sign_Find.eq_2 ..) ?_
  refine (check_ev sig).bind ?_
  rw [if_pos hs]
  refine Ev.f rfl ?_
  exact find_evL sig s (by have := (sigOK_proper hs).1; omega) sig 0 rfl (by simp)

/-! orders that are the same -/
theorem same_self (f : ByteArray → Int) (t : Pt) : t.sk.count ≤ 1000 → Ev (fun k => W15_same k (ro f t) (ro f t)) true := by
  induction t using Pt.ind with
  | h t ih =>
    intro hc
    have hpl := @parts_le t
    have hsk := sk_count t
    refine Ev.succ (fun k => W15_same.eq_2 ..) ?_
    refine Ev.f (by simp) ?_
    rw [ro_eq]
    by_cases h1 : t.op = 1
    · rw [if_pos h1]
      refine Ev.succ (fun k => W15_same_L1.eq_2 ..) ?_
      exact Ev.f (by simp [Od.parts, Od.encL]) (Ev.pure _)
    · rw [if_neg h1]
      have loop : ∀ (ts : List Pt) (i : Nat), t.parts.drop i = ts → i + ts.length = t.parts.length → (roL f t.parts).drop i = roL f ts → Ev (fun k => W15_same_L1 k (Od.mk (if t.op = 6 then 3 else 2) 0 (roL f t.parts)) (Od.mk (if t.op = 6 then 3 else 2) 0 (roL f t.parts)) (i : Int)) true := by
        intro ts
        induction ts with
        | nil =>
          intro i hd hi hr
          refine Ev.succ (fun k => W15_same_L1.eq_2 ..) ?_
          simp only [List.length_nil, Nat.add_zero] at hi
          exact Ev.f (by simp [Od.parts, Od.encL_length, roL_length, hi]) (Ev.pure _)
        | cons u ts ihl =>
          intro i hd hi hr
          refine Ev.succ (fun k => W15_same_L1.eq_2 ..) ?_
          simp only [List.length_cons] at hi
          have hum := List.mem_of_getElem? (get_of_drop hd)
          have h1 := part_count hum
          refine Ev.t (by simp [Od.parts, Od.encL_length, roL_length]; omega) ?_
          simp only [roL] at hr
          refine Ev.some (idx_get (get_of_drop hr)) ?_
          refine Ev.some (idx_get (get_of_drop hr)) ?_
          refine (ih u hum (by omega)).bind ?_
          refine Ev.f rfl ?_
          rw [wrapS (by omega)]
          exact ihl (i + 1) (drop_of_drop hd) (by omega) (drop_of_drop hr)
      exact loop t.parts 0 rfl (by simp) rfl

abbrev noOrder : Od := Od.mk 0 0 []
theorem same_none : Ev (fun k => W15_same k noOrder noOrder) true := by
  refine Ev.succ (fun k => W15_same.eq_2 ..) ?_
  refine Ev.f rfl ?_
  refine Ev.succ (fun k => W15_same_L1.eq_2 ..) ?_
  exact Ev.f rfl (Ev.pure _)

/-- A result whose order is the same as itself. -/
def selfR (r : Me × Int) : Prop := Ev (fun k => W15_same k r.1.order r.1.order) true

/-- An item's parts, where it is well formed and has a word. -/
theorem item_parts {x : It} (h : itemOK x = true) (hw : ¬ (x.word.toList == emB.toList) = true) : okAllL (Pt.skL x.parts) = true ∧ Tm.countL (Pt.skL x.parts) ≤ 400 := by
  rw [itemOK, if_neg hw, Bool.and_eq_true, properL_iff] at h
  refine ⟨h.2.1, ?_⟩
  rcases h.2.2.1 with h | h
  · omega
  · rw [h]; simp [Tm.countL]

theorem skL_get : ∀ {l : List Pt} {i : Nat} {t : Pt}, l[i]? = some t → (Pt.skL l)[i]? = some t.sk
  | [], i, t, h => by simp at h
  | u :: l, 0, t, h => by simp at h; subst h; rfl
  | u :: l, i + 1, t, h => by
    simp only [Pt.skL, List.getElem?_cons_succ] at h ⊢
    exact skL_get h

theorem raw_part {t : Pt} (h : okAll t.sk = true) (ho : t.op = 4) : okAll t.raw.sk = true ∧ t.raw.sk.height ≤ 40 := by
  rw [Pt.sk_eq] at h
  simp only [okAll, skOK, Bool.and_eq_true] at h
  have h1 := h.1
  simp only [okPt, Bool.and_eq_true] at h1
  have h2 := h1.1.1
  simp only [swOK, ho] at h2
  simp [rawOK] at h2
  rw [properF_iff] at h2
  exact ⟨h2.1, by omega⟩

/-- Both yield the same, and its order is the same as itself. -/
def J (f g : Nat → Option (Me × Int)) : Prop := ∃ r, Ev f r ∧ Ev g r ∧ selfR r
section
variable {α : Type} {f f' g : Nat → Option (Me × Int)}
theorem J.symm (h : J f g) : J g f := by obtain ⟨r, a, b, c⟩ := h; exact ⟨r, b, a, c⟩
theorem J.succL (hf : ∀ n, f (n + 1) = f' n) (h : J f' g) : J f g := by obtain ⟨r, a, b, c⟩ := h; exact ⟨r, a.succ hf, b, c⟩
theorem J.succR (hf : ∀ n, f (n + 1) = f' n) (h : J g f') : J g f := (J.succL hf h.symm).symm
theorem J.bindL {q : Nat → Option α} {k : Nat → α → Option (Me × Int)} {x : α} (hq : Ev q x) (h : J (fun n => k n x) g) : J (fun n => (q n).bind (k n)) g := by
  obtain ⟨r, a, b, c⟩ := h; exact ⟨r, hq.bind a, b, c⟩
theorem J.bindR {q : Nat → Option α} {k : Nat → α → Option (Me × Int)} {x : α} (hq : Ev q x) (h : J g (fun n => k n x)) : J g (fun n => (q n).bind (k n)) := (J.bindL hq h.symm).symm
theorem J.someL {q : Option α} {k : Nat → α → Option (Me × Int)} {x : α} (hq : q = some x) (h : J (fun n => k n x) g) : J (fun n => q.bind (k n)) g := by subst hq; exact h
theorem J.someR {q : Option α} {k : Nat → α → Option (Me × Int)} {x : α} (hq : q = some x) (h : J g (fun n => k n x)) : J g (fun n => q.bind (k n)) := by subst hq; exact h
theorem J.tL {b : Bool} (hb : b = true) (h : J f g) : J (fun n => cond b (f n) (f' n)) g := by subst hb; exact h
theorem J.fL {b : Bool} (hb : b = false) (h : J f' g) : J (fun n => cond b (f n) (f' n)) g := by subst hb; exact h
theorem J.tR {b : Bool} (hb : b = true) (h : J g f) : J g (fun n => cond b (f n) (f' n)) := by subst hb; exact h
theorem J.fR {b : Bool} (hb : b = false) (h : J g f') : J g (fun n => cond b (f n) (f' n)) := by subst hb; exact h
end
theorem J.no (c : Int) : J (fun _ => some (Me.mk 0 (Od.mk 0 0 []), c)) (fun _ => some (Me.mk 0 (Od.mk 0 0 []), c)) := ⟨_, Ev.pure _, Ev.pure _, same_none⟩

def badWord (x : It) : Bool := (!(x.word.toList == (⟨#[116, 111, 116, 97, 108]⟩ : ByteArray).toList)) && (!(x.word.toList == (⟨#[116, 101, 114, 109, 105, 110, 97, 116, 101, 115]⟩ : ByteArray).toList))
theorem badWord_em {x : It} (h : badWord x = false) : ¬ (x.word.toList == emB.toList) = true := by
  intro e
  rw [beq_iff_eq] at e
  rw [badWord, e] at h
  revert h
  decide +kernel

/-- At a signature and an item that are well formed, both read alike. -/
theorem reads_j (sig : List Dc) (x : It) (hs : sigOK sig = true) (hx : itemOK x = true) : J (fun k => order_Read k sig x) (fun k => R15_Read k sig x) := by
  obtain ⟨hl, hpr⟩ := sigOK_proper hs
  refine J.succL (fun k => order_Read.eq_2 ..) ?_
  refine J.succR (fun k => R15_Read.eq_2 ..) ?_
  refine J.bindL (check_ev sig) ?_
  rw [if_pos hs]
  refine J.fL rfl ?_
  rw [if_pos hx]
  cases hw : (badWord x || (((Pt.encL x.parts).length : Int) != 2)) with
  | true => exact J.tL hw (J.tR hw (J.no 2))
  | false =>
  refine J.fL hw (J.fR hw ?_)
  rw [Bool.or_eq_false_iff] at hw
  obtain ⟨hk1, hk2⟩ := item_parts hx (badWord_em hw.1)
  have hlen : x.parts.length = 2 := by
    have := hw.2
    rw [Pt.encL_length] at this
    simp at this; omega
  obtain ⟨p, q, hpq⟩ : ∃ p q, x.parts = [p, q] := by
    match hp : x.parts, hlen with
    | [p, q], _ => exact ⟨p, q, rfl⟩
  have i0 : idx x.parts 0 = some p := by rw [hpq]; rfl
  have i1 : idx x.parts 1 = some q := by rw [hpq]; rfl
  have hpc : p.sk.count ≤ 1000 := by have := part_count (l := x.parts) (t := p) (by rw [hpq]; simp); omega
  have hqk : okAll q.sk = true := okAllL_get (i := 1) hk1 (skL_get (by rw [hpq]; rfl))
  refine J.someL i1 (J.someR i0 ?_)
  refine J.bindR (form_ev p 1 hpc (by omega) (by omega)) ?_
  obtain ⟨ro_, hr1, hr2, hr3⟩ := ordered_y p 0 [] (by simpa using hpc) (by omega) (by omega)
  have hr2 : ro_.2.1 = fm p 1 := hr2
  by_cases h4 : q.op = 4
  · refine J.fL (bneI' h4) ?_
    refine J.someL i0 ?_
    refine J.bindL hr1 ?_
    refine J.someL i1 ?_
    obtain ⟨hraw, hrh⟩ := raw_part hqk h4
    obtain ⟨sp, s1, s2, s3⟩ := call_spine 40 q.raw hraw hrh (by omega)
    obtain ⟨ca, c1, c2, c3⟩ := s3 [] (by simp)
    refine J.bindL (c1.succ (fun k => order_call.eq_2 ..)) ?_
    cases hf : fm p 1 with
    | false =>
      rw [hf] at hr2
      exact J.tL (by rw [hr2]; rfl) (J.tR rfl (J.no 2))
    | true =>
    refine J.fR rfl ?_
    refine J.someR i1 ?_
    refine J.fR (bneI' h4) ?_
    refine J.someR i1 ?_
    refine J.bindR s1 ?_
    cases hsp : sp.2.2 with
    | false =>
      rw [hsp] at c2
      exact J.tL (by rw [c2]; simp) (J.tR rfl (J.no 2))
    | true =>
    have hc := c3 hsp
    rw [hf] at hr2
    have ho := hr3 hr2
    subst hc ho
    refine J.fR rfl ?_
    refine J.fL rfl ?_
    simp only [List.reverse_nil, List.append_nil, List.nil_append, List.length_nil]
    refine J.bindR (refFind_ev sig sp.1 (by omega)) ?_
    refine J.bindL (find_ev sig sp.1 hs) ?_
    cases hn : decide (fnd sp.1 sig 0 < 0) with
    | true => exact J.tL rfl (J.tR rfl (J.no 20))
    | false =>
    refine J.fR rfl (J.fL rfl ?_)
    simp only [cond_false]
    have hn : ¬ fnd sp.1 sig 0 < 0 := by simpa using hn
    have hfr := fnd_range sp.1 sig 0
    obtain ⟨d, hd, hdm⟩ := idx_pre (sig := sig) (n := fnd sp.1 sig 0) (by omega) (by omega)
    have hp := proper_small (hpr d hdm)
    refine J.bindR (isFamily_ev hd hp.1 (by omega)) ?_
    refine J.bindL (signFamily_ev hd hp.1 (by omega)) ?_
    cases hkd : kindT d.cls with
    | false => exact J.tL rfl (J.tR rfl (J.no 22))
    | true =>
    refine J.fR rfl (J.fL rfl ?_)
    refine J.someR hd (J.someR hd ?_)
    obtain ⟨de, d1, d2⟩ := dependent_y (hpr d hdm)
    refine J.bindR d1 ?_
    refine J.someL hd ?_
    refine J.bindL (domains_ev hp.1 (by omega)) ?_
    refine J.someL hd ?_
    have hlen2 : (List.map D.bool de).length = (Tm.encL (split d.cls).1).length := by rw [List.length_map, d2, Tm.encL_length]
    rw [hlen2]
    cases hcn : (((Tm.encL (split d.cls).1).length : Int) != (IntKind.i64.wrap (d.implicit + ((List.map D.str sp.2.1).length : Int)))) with
    | true => exact J.tL rfl (J.tR rfl (J.no 23))
    | false =>
    refine J.fR rfl (J.fL rfl ?_)
    refine J.someR i0 (J.someR hd ?_)
    obtain ⟨od, o1, o2, o3⟩ := refOrder_y d.implicit sp.2.1 (by omega) p hpc
    refine J.bindR o1 ?_
    have hread := read_ev p d (fnd sp.1 sig 0, 0) sp.1 sp.2.1 (by omega) hpc (pn p) 0 [] rfl (by simp) rfl
    cases hu : (pn p).all (fun s => uniq s sp.2.1) with
    | false =>
      rw [hu] at o2 hread
      refine J.tR (by rw [o2]; rfl) ?_
      exact ⟨_, hread, Ev.pure _, same_none⟩
    | true =>
      rw [hu] at o2 hread
      have := o3 o2
      subst this
      refine J.fR rfl ?_
      exact ⟨_, hread, Ev.pure _, same_self _ p hpc⟩
  · refine J.tL (bneI h4) ?_
    cases hf : fm p 1 with
    | false => exact J.tR rfl (J.no 2)
    | true =>
    refine J.fR rfl ?_
    refine J.someR i1 ?_
    exact J.tR (bneI h4) (J.no 2)

/-- The law answers true. -/
theorem orderReads_ev (sig : List Dc) (x : It) (hb : sigB sig) : Ev (fun k => W15_OrderReads k sig x) true := by
  have bad : ∀ {f : Nat → Option Bool}, True → (sigOK sig = false ∨ itemOK x = false) → Ev (fun k => order_Read k sig x) (Me.mk 0 (Od.mk 0 0 []), 2) := by
    intro f _ h
    refine Ev.succ (fun k => order_Read.eq_2 ..) ?_
    refine (check_ev sig).bind ?_
    refine Ev.ite (fun _ => Ev.pure _) (fun h1 => ?_)
    refine Ev.t ?_ (Ev.pure _)
    rcases h with h | h
    · rw [h] at h1; cases h1
    · rw [h]; rfl
  have same2 : Ev (fun n => cond ((0 : Int) == 0) ((W15_same n (Od.mk 0 0 []) (Od.mk 0 0 [])).bind (fun v28 => cond (v28 && ((2 : Int) == 2)) (some (true)) (some (false)))) (some (false))) true :=
    Ev.t rfl (same_none.bind (Ev.t rfl (Ev.pure _)))
  refine Ev.succ (fun k => W15_OrderReads.eq_2 ..) ?_
  cases hs : sigOK sig with
  | false =>
    refine (bad (f := fun _ => none) trivial (.inl hs)).bind ?_
    refine (formedSig_ev sig).bind ?_
    rw [hs]
    exact Ev.t rfl same2
  | true =>
  cases hx : itemOK x with
  | false =>
    refine (bad (f := fun _ => none) trivial (.inr hx)).bind ?_
    refine (formedSig_ev sig).bind ?_
    rw [hs]
    refine Ev.f rfl ?_
    exact Ev.t rfl same2
  | true =>
  obtain ⟨r, r1, r2, r3⟩ := reads_j sig x hs hx
  refine r1.bind ?_
  refine (formedSig_ev sig).bind ?_
  rw [hs]
  refine Ev.f rfl (Ev.f rfl ?_)
  obtain ⟨b, b1, _⟩ := valid_y sig hb
  refine b1.bind ?_
  refine Ev.ite (fun _ => Ev.pure _) (fun _ => ?_)
  refine r2.bind ?_
  refine Ev.t (by simp) ?_
  refine Ev.bind r3 ?_
  exact Ev.t (by simp) (Ev.pure _)
end Go.Proofs.YtnolnmfpmhpapaaGreat
end
