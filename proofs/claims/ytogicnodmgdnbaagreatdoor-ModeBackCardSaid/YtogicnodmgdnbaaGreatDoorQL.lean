/- Merged texts: EvA EvB EvC EvK EvL EvP EvQ EvR MoA MoB MoC MoD MoE MiA MiB MiC. Plain law: functions with fuel that yield what is said of them; loops over lists; what is known of short lists. No program in sight. Plain law: sign.Check and trussref05.Formed say the same of a signature. No program in sight. Plain law: what trussref05 says of a class; both forms of a signature. No program in sight. Plain law: the reference's kernel answers, whatever the signature is, if its classes are proper. No program in sight. Plain law: the reference's kernel answers, whatever the signature is, if its classes are proper; so does 'valid'. No program in sight. Plain law: the texts of raw expressions, by syntax and by trussref02. No program in sight. Plain law: names of variables, heads, and what print.Raw asks of its arguments. No program in sight. Plain law: occurrences, moved terms, and which nodes are in scope. No program in sight. Plain law: awake answers true. No program in sight. Plain law: the signs of directives; which arguments they stand at. No program in sight. Plain law: the signs of implicit arguments, by mode and by trussref14. No program in sight. Plain law: the modes that are read. No program in sight. Plain law: ModeReads answers true at every signature and item whose lists are not too long. No program in sight. Plain law: the directives of modes, well formed; digits; what Read says of them. No program in sight. Plain law: which modes are right; Item by mode and by trussref14. No program in sight. Plain law: Item by mode and by trussref14, and what is the same. No program in sight. -/
import Derived.Test.YtogicnodmgdnbaaGreatDoorQK
import Derived.KernelRfl
/-! EvA -/
section
namespace Go.Proofs.YtogicnodmgdnbaaGreatDoor
open Go.Tr Go
set_option linter.unusedVariables false

theorem wrapS {i : Nat} (h : i < 2000000000000000000) : IntKind.i64.wrap ((i : Int) + 1) = ((i + 1 : Nat) : Int) := by
  rw [wrap_i64 (by omega) (by omega)]; omega

/-- f yields something, given fuel enough. -/
def Tot {α : Type} (f : Nat → Option α) : Prop := ∃ r, Ev f r
theorem Ev.tot {α : Type} {f : Nat → Option α} {r : α} (h : Ev f r) : Tot f := ⟨r, h⟩
/-- f yields something of which p holds. -/
def Yields {α : Type} (f : Nat → Option α) (p : α → Prop) : Prop := ∃ r, Ev f r ∧ p r
theorem Yields.succ {α : Type} {f g : Nat → Option α} {p : α → Prop} (hf : ∀ n, f (n + 1) = g n) (h : Yields g p) : Yields f p := by
  obtain ⟨r, h1, h2⟩ := h; exact ⟨r, h1.succ hf, h2⟩
theorem Yields.bind {α β : Type} {f : Nat → Option α} {g : Nat → α → Option β} {q : α → Prop} {p : β → Prop} (h : Yields f q) (k : ∀ x, q x → Yields (fun n => g n x) p) : Yields (fun n => (f n).bind (g n)) p := by
  obtain ⟨x, h1, h2⟩ := h
  obtain ⟨r, h3, h4⟩ := k x h2
  exact ⟨r, h1.bind h3, h4⟩
theorem Yields.pure {α : Type} {p : α → Prop} {r : α} (h : p r) : Yields (fun _ => some r) p := ⟨r, Ev.pure r, h⟩
theorem Yields.ite {α : Type} {b : Bool} {f g : Nat → Option α} {p : α → Prop} (h : b = true → Yields f p) (k : b = false → Yields g p) : Yields (fun n => cond b (f n) (g n)) p := by
  cases b with
  | true => exact h rfl
  | false => exact k rfl
theorem Yields.need {α : Type} {b : Bool} {f : Nat → Option α} {p : α → Prop} (hb : b = true) (h : Yields f p) : Yields (fun n => cond b (f n) none) p := by
  subst hb; exact h
theorem Yields.some {α β : Type} {o : Option α} {x : α} {g : Nat → α → Option β} {p : β → Prop} (ho : o = Option.some x) (k : Yields (fun n => g n x) p) : Yields (fun n => o.bind (g n)) p := by
  subst ho; exact k
theorem Yields.mono {α : Type} {f : Nat → Option α} {p q : α → Prop} (h : Yields f p) (k : ∀ r, p r → q r) : Yields f q := by
  obtain ⟨r, h1, h2⟩ := h; exact ⟨r, h1, k r h2⟩
theorem Ev.yields {α : Type} {f : Nat → Option α} {r : α} {p : α → Prop} (h : Ev f r) (hp : p r) : Yields f p := ⟨r, h, hp⟩
theorem Yields.ev {α : Type} {f : Nat → Option α} {r : α} (h : Yields f (· = r)) : Ev f r := by
  obtain ⟨r', h1, rfl⟩ := h; exact h1
theorem Ev.is {α : Type} {f : Nat → Option α} {r : α} (h : Ev f r) : Yields f (· = r) := ⟨r, h, rfl⟩

theorem Ev.some {α β : Type} {o : Option α} {x : α} {g : Nat → α → Option β} {r : β} (ho : o = Option.some x) (k : Ev (fun n => g n x) r) : Ev (fun n => o.bind (g n)) r := by
  subst ho; exact k
theorem Ev.need {α : Type} {b : Bool} {f : Nat → Option α} {r : α} (hb : b = true) (h : Ev f r) : Ev (fun n => cond b (f n) none) r := by
  subst hb; exact h

theorem idx_get {α : Type} {l : List α} {i : Nat} {x : α} (h : l[i]? = Option.some x) : idx l (i : Int) = Option.some x := by rw [idx_nat, h]
theorem idx_get0 {α : Type} {x : α} {l : List α} : idx (x :: l) 0 = Option.some x := rfl
theorem idx_get1 {α : Type} {x y : α} {l : List α} : idx (x :: y :: l) 1 = Option.some y := rfl

end Go.Proofs.YtogicnodmgdnbaaGreatDoor
end

/-! EvB -/
section
namespace Go.Proofs.YtogicnodmgdnbaaGreatDoor
open Go.Tr Go
set_option linter.unusedVariables false
set_option maxRecDepth 10000

theorem okAll_two {t : Tm} (h : okAll t = true) (ho : t.op = 2) : ∃ a b, t.args = [a, b] ∧ okAll a = true ∧ okAll b = true ∧ a.height + 1 ≤ t.height ∧ b.height + 1 ≤ t.height ∧ a.count + b.count + 1 = t.count := by
  cases t with
  | mk o hd n us =>
    simp only [Tm.op] at ho
    subst ho
    simp only [okAll, okNode, Bool.and_eq_true] at h
    have h1 : us.length = 2 := by have := h.1; simp at this; exact this.2
    match us, h1 with
    | [a, b], _ =>
      simp only [okAllL, Bool.and_eq_true] at h
      refine ⟨a, b, rfl, h.2.1, h.2.2.1, ?_, ?_, ?_⟩
      · simp only [Tm.height, Tm.heightL]; omega
      · simp only [Tm.height, Tm.heightL]; omega
      · simp only [Tm.count, Tm.countL]; omega

theorem okAll_one {t : Tm} (h : okAll t = true) (ho : t.op = 3) : ∃ a, t.args = [a] ∧ okAll a = true ∧ a.height + 1 ≤ t.height ∧ a.count + 1 = t.count := by
  cases t with
  | mk o hd n us =>
    simp only [Tm.op] at ho
    subst ho
    simp only [okAll, okNode, Bool.and_eq_true] at h
    have h1 : us.length = 1 := by have := h.1; simp at this; exact this.2
    match us, h1 with
    | [a], _ =>
      simp only [okAllL, Bool.and_eq_true] at h
      refine ⟨a, rfl, h.2.1, ?_, ?_⟩
      · simp only [Tm.height, Tm.heightL]; omega
      · simp only [Tm.count, Tm.countL]

/-- The domains of the outermost TPis, behind some that were there, and what is within. -/
def spl : Nat → Tm → List Tm → List Tm × Tm
  | 0, t, l => (l, t)
  | n + 1, t, l => if t.op = 2 then match t.args with
    | a :: b :: _ => spl n b (l ++ [a])
    | _ => (l, t)
    else (l, t)
def split (t : Tm) : List Tm × Tm := spl t.height t []

theorem spl_rest : ∀ (n : Nat) (t : Tm) (l : List Tm), okAll t = true → t.height ≤ n → (spl n t l).2.op ≠ 2 ∧ okAll (spl n t l).2 = true ∧ (spl n t l).2.count ≤ t.count ∧ (spl n t l).2.height ≤ t.height ∧ (spl n t l).1.length + (spl n t l).2.height ≤ l.length + t.height
  | 0, t, l, hok, hn => by have := Tm.height_pos t; omega
  | n + 1, t, l, hok, hn => by
    simp only [spl]
    by_cases h : t.op = 2
    · rw [if_pos h]
      obtain ⟨a, b, e, _, hb, _, hh, hc⟩ := okAll_two hok h
      simp only [e]
      have := spl_rest n b (l ++ [a]) hb (by omega)
      simp only [List.length_append, List.length_cons, List.length_nil] at this
      exact ⟨this.1, this.2.1, by omega, by omega, by omega⟩
    · rw [if_neg h]
      exact ⟨h, hok, Nat.le_refl _, Nat.le_refl _, Nat.le_refl _⟩

theorem Tm.length_le_countL : ∀ (us : List Tm), us.length ≤ Tm.countL us
  | [] => Nat.le_refl _
  | u :: us => by have := Tm.length_le_countL us; have := Tm.count_pos u; simp only [List.length_cons, Tm.countL]; omega

theorem beqI {a b : Int} (h : a = b) : (a == b) = true := by simp [h]
theorem beqI' {a b : Int} (h : a ≠ b) : (a == b) = false := by simp [h]
theorem split_evL : ∀ (n : Nat) (t : Tm) (l : List Tm), okAll t = true → t.height ≤ n → l.length + t.height ≤ 1000000 → Ev (fun k => R03_Split_L1 k t l) (spl n t l)
  | 0, t, l, hok, hn, _ => by have := Tm.height_pos t; omega
  | n + 1, t, l, hok, hn, hl => by
    refine Ev.succ (fun k => R03_Split_L1.eq_2 ..) ?_
    simp only [spl]
    by_cases h : t.op = 2
    · obtain ⟨a, b, e, _, hb, _, hh, _⟩ := okAll_two hok h
      rw [if_pos h, e]
      refine Ev.t (beqI h) ?_
      refine Ev.some idx_get0 ?_
      refine Ev.need (by simp [Tm.encL_length]; omega) ?_
      refine Ev.some idx_get1 ?_
      exact split_evL n b _ hb (by omega) (by simp; omega)
    · rw [if_neg h]
      refine Ev.f (beqI' h) ?_
      exact Ev.pure _

theorem split_ev {t : Tm} (hok : okAll t = true) (hh : t.height ≤ 1000000) : Ev (fun k => R03_Split k t) (split t) := by
  refine Ev.succ (fun k => R03_Split.eq_2 ..) ?_
  exact split_evL t.height t [] hok (Nat.le_refl _) (by simpa using hh)

theorem domains_evL : ∀ (n : Nat) (t : Tm) (l : List Tm), okAll t = true → t.height ≤ n → l.length + t.height ≤ 1000000 → Ev (fun k => term_Domains_L1 k t l) (spl n t l)
  | 0, t, l, hok, hn, _ => by have := Tm.height_pos t; omega
  | n + 1, t, l, hok, hn, hl => by
    refine Ev.succ (fun k => term_Domains_L1.eq_2 ..) ?_
    simp only [spl]
    by_cases h : t.op = 2
    · obtain ⟨a, b, e, _, hb, _, hh, _⟩ := okAll_two hok h
      rw [if_pos h, e]
      refine Ev.t (beqI h) ?_
      refine Ev.some idx_get0 ?_
      refine Ev.need (by simp [Tm.encL_length]; omega) ?_
      refine Ev.some idx_get1 ?_
      exact domains_evL n b _ hb (by omega) (by simp; omega)
    · rw [if_neg h]
      refine Ev.f (beqI' h) ?_
      exact Ev.pure _

theorem domains_ev {t : Tm} (hok : okAll t = true) (hh : t.height ≤ 1000000) : Ev (fun k => term_Domains k t) (split t) := by
  refine Ev.succ (fun k => term_Domains.eq_2 ..) ?_
  exact domains_evL t.height t [] hok (Nat.le_refl _) (by simpa using hh)

def kindT (t : Tm) : Bool := (split t).2.op == 1

theorem kind_ev {t : Tm} (hok : okAll t = true) (hh : t.height ≤ 1000000) : Ev (fun k => sign_kind k t) (kindT t) := by
  refine Ev.succ (fun k => sign_kind.eq_2 ..) ?_
  exact (domains_ev hok hh).bind (Ev.pure _)

theorem target_ev {t : Tm} (hok : okAll t = true) (hh : t.height ≤ 1000000) : Ev (fun k => sign_target k t) ((split t).2.n, ((split t).2.op == 4) && ((split t).2.hd == 2)) := by
  refine Ev.succ (fun k => sign_target.eq_2 ..) ?_
  exact (domains_ev hok hh).bind (Ev.pure _)

theorem family_ev {sig : List Dc} {n : Int} {d : Dc} (hd : idx sig n = some d) (hok : okAll d.cls = true) (hh : d.cls.height ≤ 1000000) : Ev (fun k => R05_family k sig n) (kindT d.cls) := by
  refine Ev.succ (fun k => R05_family.eq_2 ..) ?_
  refine Ev.some hd ?_
  exact (split_ev hok hh).bind (Ev.pure _)

theorem isFamily_ev {sig : List Dc} {n : Int} {d : Dc} (hd : idx sig n = some d) (hok : okAll d.cls = true) (hh : d.cls.height ≤ 1000000) : Ev (fun k => R05_IsFamily k sig n) (kindT d.cls) := by
  refine Ev.succ (fun k => R05_IsFamily.eq_2 ..) ?_
  exact (family_ev hd hok hh).bind (Ev.pure _)

theorem signFamily_ev {sig : List Dc} {n : Int} {d : Dc} (hd : idx sig n = some d) (hok : okAll d.cls = true) (hh : d.cls.height ≤ 1000000) : Ev (fun k => sign_Family k sig n) (kindT d.cls) := by
  refine Ev.succ (fun k => sign_Family.eq_2 ..) ?_
  refine Ev.some hd ?_
  exact (kind_ev hok hh).bind (Ev.pure _)

/-! what stands at the nodes -/
def nodeB (o h n k : Int) (m : Nat) : Bool := (o != 4) || (((h != 3) && ((h != 1) || decide (n < k))) && ((h != 2) || decide (n < (m : Int))))
mutual
def nodesB (m : Nat) : Tm → Int → Bool
  | .mk o h n us, k => nodeB o h n k m && nodesBL m o us 0 k
def nodesBL (m : Nat) : Int → List Tm → Nat → Int → Bool
  | _, [], _, _ => true
  | o, u :: us, i, k => nodesB m u (k + under o i) && nodesBL m o us (i + 1) k
 end

theorem under_ev (t : Tm) (i : Int) : Ev (fun k => term_Under k t i) (under t.op i) := by
  refine Ev.succ (fun k => term_Under.eq_2 ..) ?_
  by_cases h : t.op = 3 ∨ t.op = 2 ∧ i = 1
  · rw [under, if_pos h]
    exact Ev.t (by simpa using h) (Ev.pure _)
  · rw [under, if_neg h]
    exact Ev.f (by simpa using h) (Ev.pure _)

mutual
theorem each_ev (sig : List Dc) : ∀ (t : Tm) (k : Int) (b : Bool), 0 ≤ k → k + t.height ≤ 1000000 → t.count ≤ 1000000 → Ev (fun n => term_Each_sign_formed_1 n t k b sig) (b && nodesB sig.length t k)
  | .mk o h n us, k, b, hk0, hk1, hc => by
    refine Ev.succ (fun n => term_Each_sign_formed_1.eq_2 ..) ?_
    have h1 : Ev (fun q => sign_formed_1 q (.mk o h n us) k b sig) (b && nodeB o h n k sig.length) := by
      refine Ev.succ (fun n => sign_formed_1.eq_2 ..) ?_
      refine Ev.ite (fun h1 => ?_) (fun h1 => ?_)
      · have h1 : o ≠ 4 := by simpa [Tm.op] using h1
        refine (Ev.pure b).eq ?_
        simp [nodeB, h1]
      · have h1 : o = 4 := by simpa [Tm.op] using h1
        refine (Ev.pure _).eq ?_
        simp only [nodeB, h1, Tm.hd, Tm.n, Dc.encL_length]
        cases b with
        | false => simp
        | true => simp; rfl
    refine h1.bind ?_
    have hl := each_evL sig o h n us (by have := Tm.length_le_countL us; rw [Tm.count_eq] at hc; simp only [Tm.args] at hc; omega) us k (b && nodeB o h n k sig.length) 0 rfl hk0 (by rw [Tm.height_eq] at hk1; simp only [Tm.args] at hk1; omega) (by rw [Tm.count_eq] at hc; simp only [Tm.args] at hc; omega) (by simp)
    refine hl.eq ?_
    simp only [nodesB, Bool.and_assoc]
theorem each_evL (sig : List Dc) (o h n : Int) (us : List Tm) (hus : us.length ≤ 1000000) : ∀ (ts : List Tm) (k : Int) (b : Bool) (i : Nat), us.drop i = ts → 0 ≤ k → k + 1 + Tm.heightL ts ≤ 1000000 → Tm.countL ts ≤ 1000000 → i + ts.length = us.length → Ev (fun q => term_Each_sign_formed_1_L1 q (.mk o h n us) k sig b (i : Int)) (b && nodesBL sig.length o ts i k)
  | [], k, b, i, hd, hk0, hk1, hc, hi => by
    refine Ev.succ (fun n => term_Each_sign_formed_1_L1.eq_2 ..) ?_
    simp only [List.length_nil, Nat.add_zero] at hi
    refine Ev.f (by simp [Tm.encL_length, Tm.args, hi]) ?_
    refine (Ev.pure b).eq ?_
    simp [nodesBL]
  | u :: ts, k, b, i, hd, hk0, hk1, hc, hi => by
    refine Ev.succ (fun n => term_Each_sign_formed_1_L1.eq_2 ..) ?_
    simp only [List.length_cons] at hi
    have hu : us[i]? = some u := by
      have := congrArg (fun l => l[0]?) hd
      simpa using this
    have hul := under_le o i
    simp only [Tm.heightL, Tm.countL] at hk1 hc
    refine Ev.t (by simp [Tm.encL_length, Tm.args]; omega) ?_
    refine Ev.some (idx_get hu) ?_
    refine (under_ev _ _).bind ?_
    have hw : IntKind.i64.wrap (k + under o i) = k + under o i := wrap_i64 (by omega) (by omega)
    simp only [Tm.op, hw]
    refine (each_ev sig u (k + under o i) b (by omega) (by omega) (by omega)).bind ?_
    simp only [wrapS (show i < 2000000000000000000 by omega)]
    refine (each_evL sig o h n us hus ts k _ (i + 1) (by rw [← List.drop_drop, hd]; rfl) hk0 (by omega) (by omega) (by omega)).eq ?_
    simp only [nodesBL, Bool.and_assoc]
 end
end Go.Proofs.YtogicnodmgdnbaaGreatDoor
end

/-! EvC -/
section
namespace Go.Proofs.YtogicnodmgdnbaaGreatDoor
open Go.Tr Go
set_option linter.unusedVariables false
set_option linter.unusedSimpArgs false
set_option maxRecDepth 10000

theorem nb {b : Bool} (h : (!b) = true) : b = false := by cases b <;> simp_all
theorem nb' {b : Bool} (h : (!b) = false) : b = true := by cases b <;> simp_all

/-- The numbers that a kind of heads has. -/
def occN (hd o h n k : Int) : List Int := if o = 4 ∧ h = hd then (if hd ≠ 1 then [n] else if n ≥ k then [n - k] else []) else []
mutual
def occ (hd : Int) : Tm → Int → List Int
  | .mk o h n us, k => occN hd o h n k ++ occL hd o us 0 k
def occL (hd : Int) : Int → List Tm → Nat → Int → List Int
  | _, [], _, _ => []
  | o, u :: us, i, k => occ hd u (k + under o i) ++ occL hd o us (i + 1) k
 end

mutual
theorem headsF_mem (hd x : Int) : ∀ (t : Tm) (k : Int) (l : List Int), okAll t = true → 0 ≤ k → k + t.height ≤ 1000000 → (x ∈ headsF hd t k l ↔ x ∈ l ∨ x ∈ occ hd t k)
  | .mk o h n us, k, l, hok, hk0, hk1 => by
    have hn := okAll_n hok
    simp only [Tm.n] at hn
    simp only [okAll, Bool.and_eq_true] at hok
    rw [Tm.height_eq] at hk1
    simp only [Tm.args] at hk1
    simp only [headsF, occ, List.mem_append]
    rw [headsF_memL hd x o us 0 k _ hok.2 hk0 (by omega)]
    rw [← or_assoc]
    apply or_congr _ Iff.rfl
    unfold occN
    by_cases h1 : o = 4 ∧ h = hd
    · rw [if_pos h1, if_pos h1]
      by_cases h2 : hd ≠ 1
      · rw [if_pos h2, if_pos h2, mem_putF]; simp [or_comm]
      · rw [if_neg h2, if_neg h2]
        by_cases h3 : n ≥ k
        · rw [if_pos h3, if_pos h3, mem_putF, wrap_i64 (by omega) (by omega)]; simp [or_comm]
        · rw [if_neg h3, if_neg h3]; simp
    · rw [if_neg h1, if_neg h1]; simp
theorem headsF_memL (hd x : Int) : ∀ (o : Int) (us : List Tm) (i : Nat) (k : Int) (l : List Int), okAllL us = true → 0 ≤ k → k + 1 + Tm.heightL us ≤ 1000000 → (x ∈ headsL hd o us i k l ↔ x ∈ l ∨ x ∈ occL hd o us i k)
  | o, [], i, k, l, _, _, _ => by simp [headsL, occL]
  | o, u :: us, i, k, l, hok, hk0, hk1 => by
    simp only [okAllL, Bool.and_eq_true] at hok
    simp only [Tm.heightL] at hk1
    have hu := under_le o i
    simp only [headsL, occL, List.mem_append]
    rw [headsF_memL hd x o us (i + 1) k _ hok.2 hk0 (by omega), headsF_mem hd x u (k + under o i) l hok.1 (by omega) (by omega), or_assoc]
 end

mutual
theorem headsF_sorted (hd : Int) : ∀ (t : Tm) (k : Int) (l : List Int), l.Pairwise (· < ·) → (headsF hd t k l).Pairwise (· < ·)
  | .mk o h n us, k, l, hl => by
    simp only [headsF]
    refine headsF_sortedL hd o us 0 k _ ?_
    split
    · split
      · exact putF_sorted _ _ hl
      · split
        · exact putF_sorted _ _ hl
        · exact hl
    · exact hl
theorem headsF_sortedL (hd : Int) : ∀ (o : Int) (us : List Tm) (i : Nat) (k : Int) (l : List Int), l.Pairwise (· < ·) → (headsL hd o us i k l).Pairwise (· < ·)
  | o, [], i, k, l, hl => by simpa [headsL] using hl
  | o, u :: us, i, k, l, hl => by
    simp only [headsL]
    exact headsF_sortedL hd o us (i + 1) k _ (headsF_sorted hd u _ l hl)
 end

mutual
theorem nodesB_occ (m : Nat) : ∀ (t : Tm) (k : Int), okAll t = true → (nodesB m t k = true ↔ occ 1 t k = [] ∧ occ 3 t k = [] ∧ ∀ x ∈ occ 2 t k, x < (m : Int))
  | .mk o h n us, k, hok => by
    have hhd : o = 4 → h = 1 ∨ h = 2 ∨ h = 3 := by
      intro e
      simp only [okAll, Bool.and_eq_true] at hok
      have h1 := hok.1
      subst e
      simp [okNode] at h1
      omega
    simp only [okAll, Bool.and_eq_true] at hok
    have hl := nodesB_occL m o us 0 k hok.2
    simp only [nodesB, occ, Bool.and_eq_true, hl, List.append_eq_nil_iff, List.mem_append]
    have hn : nodeB o h n k m = true ↔ occN 1 o h n k = [] ∧ occN 3 o h n k = [] ∧ ∀ x ∈ occN 2 o h n k, x < (m : Int) := by
      unfold nodeB occN
      by_cases h4 : o = 4
      · rcases hhd h4 with rfl | rfl | rfl
        · subst h4
          by_cases hh : n < k
          · simp [hh]
          · simp [hh]
        · subst h4; simp
        · subst h4; simp
      · simp [h4]
    rw [hn]
    constructor
    · rintro ⟨⟨a, b, c⟩, d, e, f⟩
      exact ⟨⟨a, d⟩, ⟨b, e⟩, fun x hx => hx.elim (c x) (f x)⟩
    · rintro ⟨⟨a, d⟩, ⟨b, e⟩, f⟩
      exact ⟨⟨a, b, fun x hx => f x (.inl hx)⟩, d, e, fun x hx => f x (.inr hx)⟩
theorem nodesB_occL (m : Nat) : ∀ (o : Int) (us : List Tm) (i : Nat) (k : Int), okAllL us = true → (nodesBL m o us i k = true ↔ occL 1 o us i k = [] ∧ occL 3 o us i k = [] ∧ ∀ x ∈ occL 2 o us i k, x < (m : Int))
  | o, [], i, k, _ => by simp [nodesBL, occL]
  | o, u :: us, i, k, hok => by
    simp only [okAllL, Bool.and_eq_true] at hok
    have h1 := nodesB_occ m u (k + under o i) hok.1
    have h2 := nodesB_occL m o us (i + 1) k hok.2
    simp only [nodesBL, occL, Bool.and_eq_true, h1, h2, List.append_eq_nil_iff, List.mem_append]
    constructor
    · rintro ⟨⟨a, b, c⟩, d, e, f⟩
      exact ⟨⟨a, d⟩, ⟨b, e⟩, fun x hx => hx.elim (c x) (f x)⟩
    · rintro ⟨⟨a, d⟩, ⟨b, e⟩, f⟩
      exact ⟨⟨a, b, fun x hx => f x (.inl hx)⟩, d, e, fun x hx => f x (.inr hx)⟩
 end

theorem headsF_nil (hd : Int) (t : Tm) (hok : okAll t = true) (hh : t.height ≤ 1000000) : (headsF hd t 0 []).isEmpty = (occ hd t 0).isEmpty := by
  rw [Bool.eq_iff_iff, List.isEmpty_iff, List.isEmpty_iff]
  have hm := fun x => headsF_mem hd x t 0 [] hok (by omega) (by omega)
  constructor
  · intro e
    apply List.eq_nil_iff_forall_not_mem.2
    intro x hx
    have := (hm x).2 (.inr hx)
    rw [e] at this; cases this
  · intro e
    apply List.eq_nil_iff_forall_not_mem.2
    intro x hx
    have := (hm x).1 hx
    rw [e] at this; simp at this

theorem heads_len (hd : Int) (t : Tm) (hok : okAll t = true) (hh : t.height ≤ 1000000) : (((List.map (D.int .i64) (headsF hd t 0 [])).length : Int) == 0) = (occ hd t 0).isEmpty := by
  rw [← headsF_nil hd t hok hh, List.length_map]
  cases headsF hd t 0 [] with
  | nil => rfl
  | cons a l => simp; omega

theorem sorted_last : ∀ (l : List Int), l.Pairwise (· < ·) → ∀ (y : Int), l[l.length - 1]? = some y → ∀ x ∈ l, x ≤ y
  | [], _, y, h, x, hx => by cases hx
  | [a], _, y, h, x, hx => by simp at h hx; omega
  | a :: b :: l, hp, y, h, x, hx => by
    rw [List.pairwise_cons] at hp
    have h' : (b :: l)[(b :: l).length - 1]? = some y := by simpa using h
    rcases List.mem_cons.1 hx with e | e
    · subst e
      have := hp.1 y (List.mem_of_getElem? h'); omega
    · exact sorted_last (b :: l) hp.2 y h' x e

theorem refFree_ev {t : Tm} (hh : t.height ≤ 1000000) (hc : t.count ≤ 1000000) : Ev (fun k => R03_Free k t) (headsF 1 t 0 []) := by
  refine Ev.succ (fun k => R03_Free.eq_2 ..) ?_
  exact Ev.need (by simp; omega) (Ev.pure _)
theorem refConstants_ev {t : Tm} (hh : t.height ≤ 1000000) (hc : t.count ≤ 1000000) : Ev (fun k => R03_Constants k t) (headsF 2 t 0 []) := by
  refine Ev.succ (fun k => R03_Constants.eq_2 ..) ?_
  exact Ev.need (by simp; omega) (Ev.pure _)
theorem refMetas_ev {t : Tm} (hh : t.height ≤ 1000000) (hc : t.count ≤ 1000000) : Ev (fun k => R03_Metas k t) (headsF 3 t 0 []) := by
  refine Ev.succ (fun k => R03_Metas.eq_2 ..) ?_
  exact Ev.need (by simp; omega) (Ev.pure _)

theorem heads_count (hd : Int) : ∀ (t : Tm) (k : Int) (l : List Int), (headsF hd t k l).length ≤ l.length + t.count := headsF_length hd

theorem closed_ev {t : Tm} (m : Nat) (hok : okAll t = true) (hh : t.height ≤ 1000) (hc : t.count ≤ 1000) : Ev (fun k => R05_closed k t (m : Int)) (nodesB m t 0) := by
  refine Ev.succ (fun k => R05_closed.eq_2 ..) ?_
  refine (refConstants_ev (by omega) (by omega)).bind ?_
  refine (refFree_ev (by omega) (by omega)).bind ?_
  have hocc := nodesB_occ m t 0 hok
  have e1 := heads_len 1 t hok (by omega)
  have e2 := heads_len 2 t hok (by omega)
  have e3 := heads_len 3 t hok (by omega)
  refine Ev.ite (fun h1 => ?_) (fun h1 => ?_)
  · rw [e1, List.isEmpty_iff] at h1
    refine (refMetas_ev (by omega) (by omega)).bind ?_
    refine Ev.ite (fun h3 => ?_) (fun h3 => ?_)
    · rw [e3, List.isEmpty_iff] at h3
      refine Ev.ite (fun h2 => ?_) (fun h2 => ?_)
      · rw [e2, List.isEmpty_iff] at h2
        refine (Ev.pure true).eq ?_
        symm
        rw [hocc]
        exact ⟨h1, h3, by rw [h2]; simp⟩
      · have hne : headsF 2 t 0 [] ≠ [] := by
          intro e; rw [e] at h2; simp at h2
        have hlen : 0 < (headsF 2 t 0 []).length := List.length_pos_iff.2 hne
        have hlc := heads_count 2 t 0 []
        simp only [List.length_nil] at hlc
        obtain ⟨y, hy⟩ : ∃ y, (headsF 2 t 0 [])[(headsF 2 t 0 []).length - 1]? = some y := ⟨_, List.getElem?_eq_getElem (by omega)⟩
        have hw : IntKind.i64.wrap (((List.map (D.int .i64) (headsF 2 t 0 [])).length : Int) - 1) = (((headsF 2 t 0 []).length - 1 : Nat) : Int) := by
          rw [List.length_map, wrap_i64 (by omega) (by omega)]; omega
        rw [hw]
        refine Ev.some (idx_get hy) ?_
        refine (Ev.pure _).eq ?_
        rw [Bool.eq_iff_iff, decide_eq_true_eq, hocc]
        have hm := fun x => headsF_mem 2 x t 0 [] hok (by omega) (by omega)
        constructor
        · intro h
          refine ⟨h1, h3, fun x hx => ?_⟩
          have := sorted_last _ (headsF_sorted 2 t 0 [] .nil) y hy x ((hm x).2 (.inr hx))
          omega
        · rintro ⟨_, _, h⟩
          refine h y ?_
          have := (hm y).1 (List.mem_of_getElem? hy)
          simpa using this
    · rw [e3] at h3
      refine (Ev.pure false).eq ?_
      symm
      rw [Bool.eq_false_iff, ne_eq, hocc]
      rintro ⟨_, h, _⟩
      rw [h] at h3; cases h3
  · rw [e1] at h1
    refine (Ev.pure false).eq ?_
    symm
    rw [Bool.eq_false_iff, ne_eq, hocc]
    rintro ⟨h, _, _⟩
    rw [h] at h1; cases h1


/-- A class proper, and small. -/
theorem proper_small {t : Tm} (h : isProper t = true) : okAll t = true ∧ t.height ≤ 40 ∧ t.count ≤ 600 := by
  have := (isProper_iff t).1 h
  exact ⟨this.1, this.2.2, this.2.1⟩

def kindAt (sig : List Dc) (n : Int) : Bool := match idx sig n with
  | some d => kindT d.cls
  | none => false

/-- A constant can stand behind others. -/
def declOK (pre : List Dc) (d : Dc) : Bool := ((isSmallF d.name && !(d.name.toList == tyB.toList)) && isProper d.cls && nodesB pre.length d.cls 0 && !pre.any (fun x => x.name.toList == d.name.toList)) &&
  ((((split d.cls).2.op == 1) || (((split d.cls).2.op == 4) && ((split d.cls).2.hd == 2) && kindAt pre (split d.cls).2.n)) && decide (0 ≤ d.implicit) && decide (d.implicit ≤ ((split d.cls).1.length : Int)))

def sigG : List Dc → List Dc → Bool
  | _, [] => true
  | pre, d :: r => declOK pre d && sigG (pre ++ [d]) r

theorem declOK_proper {pre : List Dc} {d : Dc} (h : declOK pre d = true) : isProper d.cls = true := by
  simp only [declOK, Bool.and_eq_true] at h
  exact h.1.1.1.2

/-- What the head of the rest of a class whose nodes are right is. -/
theorem spl_node (m : Nat) : ∀ (n : Nat) (t : Tm) (l : List Tm) (k : Int), okAll t = true → t.height ≤ n → nodesB m t k = true → (spl n t l).2.op = 4 → (spl n t l).2.hd = 2 → 0 ≤ (spl n t l).2.n ∧ (spl n t l).2.n < (m : Int)
  | 0, t, l, k, hok, hn, _, _, _ => by have := Tm.height_pos t; omega
  | n + 1, t, l, k, hok, hn, hb, h4, h2 => by
    simp only [spl] at h4 h2 ⊢
    by_cases h : t.op = 2
    · rw [if_pos h] at h4 h2 ⊢
      obtain ⟨a, b, e, _, hbo, _, hh, hc⟩ := okAll_two hok h
      simp only [e] at h4 h2 ⊢
      cases t with
      | mk o hd q us =>
        simp only [Tm.args] at e
        subst e
        simp only [nodesB, nodesBL, Bool.and_eq_true] at hb
        exact spl_node m n b _ _ hbo (by omega) hb.2.2.1 h4 h2
    · rw [if_neg h] at h4 h2 ⊢
      have hnn := okAll_n hok
      cases t with
      | mk o hd q us =>
        simp only [Tm.op, Tm.hd, Tm.n] at h4 h2 hnn ⊢
        subst h4 h2
        simp only [nodesB, nodeB, Bool.and_eq_true] at hb
        have := hb.1
        simp at this
        exact ⟨hnn.1, this⟩

theorem idx_pre {sig : List Dc} {n : Int} (h0 : 0 ≤ n) (h1 : n < (sig.length : Int)) : ∃ d, idx sig n = some d ∧ d ∈ sig := by
  obtain ⟨k, rfl⟩ : ∃ k : Nat, n = k := ⟨n.toNat, by omega⟩
  have : k < sig.length := by omega
  exact ⟨sig[k], by rw [idx_nat]; exact List.getElem?_eq_getElem this, List.getElem_mem this⟩

theorem refName_ev (s : ByteArray) : Ev (fun k => R05_IsName k s) (isSmallF s && !(s.toList == tyB.toList)) := by
  refine Ev.succ (fun k => R05_IsName.eq_2 ..) ?_
  exact Ev.pure _
theorem signName_ev (s : ByteArray) : Ev (fun k => sign_name k s) (isSmallF s && !(s.toList == tyB.toList)) := by
  refine Ev.succ (fun k => sign_name.eq_2 ..) ?_
  exact Ev.pure _

def headOK (pre : List Dc) (d : Dc) : Bool := ((((split d.cls).2.op == 1) || (((split d.cls).2.op == 4) && ((split d.cls).2.hd == 2) && kindAt pre (split d.cls).2.n)) && decide (0 ≤ d.implicit) && decide (d.implicit ≤ ((split d.cls).1.length : Int)))

theorem split_facts {t : Tm} (h : isProper t = true) : (split t).2.op ≠ 2 ∧ okAll (split t).2 = true ∧ (split t).2.count ≤ 600 ∧ (split t).2.height ≤ 40 ∧ (split t).1.length ≤ 40 := by
  obtain ⟨hok, hh, hc⟩ := proper_small h
  have := spl_rest t.height t [] hok (Nat.le_refl _)
  have hp := Tm.height_pos (split t).2
  have e : split t = spl t.height t [] := rfl
  rw [← e] at this
  simp only [List.length_nil] at this
  refine ⟨this.1, this.2.1, by omega, by omega, by omega⟩

theorem kindAt_ev {pre : List Dc} (hpre : ∀ x ∈ pre, isProper x.cls = true) {n : Int} (h0 : 0 ≤ n) (h1 : n < (pre.length : Int)) : Ev (fun k => R05_family k pre n) (kindAt pre n) := by
  obtain ⟨d, hd, hm⟩ := idx_pre h0 h1
  obtain ⟨hok, hh, _⟩ := proper_small (hpre d hm)
  rw [kindAt, hd]
  exact family_ev hd hok (by omega)

theorem formed_evL (pre : List Dc) (d : Dc) (hpre : ∀ x ∈ pre, isProper x.cls = true) (hlen : pre.length ≤ 1000) (hp : isProper d.cls = true) (hn : nodesB pre.length d.cls 0 = true) :
    ∀ (post : List Dc) (i : Nat), pre.drop i = post → i + post.length = pre.length → Ev (fun k => R05_formed_L1 k pre d (i : Int)) (!post.any (fun x => x.name.toList == d.name.toList) && headOK pre d)
  | [], i, hd, hi => by
    simp only [List.length_nil, Nat.add_zero] at hi
    refine Ev.succ (fun k => R05_formed_L1.eq_2 ..) ?_
    refine Ev.f (by simp [Dc.encL_length, hi]) ?_
    obtain ⟨hok, hh, hc⟩ := proper_small hp
    obtain ⟨s1, s2, s3, s4, s5⟩ := split_facts hp
    have hnode := spl_node pre.length d.cls.height d.cls [] 0 hok (Nat.le_refl _) hn
    have e : spl d.cls.height d.cls [] = split d.cls := rfl
    rw [e] at hnode
    refine (split_ev hok (by omega)).bind ?_
    simp only [List.any_nil, Bool.not_false, Bool.true_and, headOK]
    refine Ev.ite (fun h4 => ?_) (fun h4 => ?_)
    · have h4' : (split d.cls).2.op = 4 := by simpa using h4
      refine Ev.ite (fun h2 => ?_) (fun h2 => ?_)
      · have h2' : ((split d.cls).2.hd == 2) = false := by simpa using h2
        refine (Ev.pure false).eq ?_
        rw [h2', h4']; simp
      · have h2' : (split d.cls).2.hd = 2 := by simpa using h2
        obtain ⟨n0, n1⟩ := hnode h4' h2'
        refine (kindAt_ev hpre n0 n1).bind ?_
        refine Ev.ite (fun h5 => ?_) (fun h5 => ?_)
        · refine (Ev.pure false).eq ?_
          have h5 : kindAt pre (split d.cls).2.n = false := by simpa using h5
          rw [h5, h4']; simp
        · refine (Ev.pure _).eq ?_
          have h5 : kindAt pre (split d.cls).2.n = true := by simpa using h5
          rw [h5, h4', h2']; simp [Tm.encL_length]
    · refine (Ev.pure _).eq ?_
      have h4' : ((split d.cls).2.op == 4) = false := h4
      simp only [h4', Tm.encL_length, Bool.or_false, Bool.false_and]
  | x :: post, i, hd, hi => by
    simp only [List.length_cons] at hi
    have hx : pre[i]? = some x := by
      have := congrArg (fun l => l[0]?) hd
      simpa using this
    refine Ev.succ (fun k => R05_formed_L1.eq_2 ..) ?_
    refine Ev.t (by simp [Dc.encL_length]; omega) ?_
    refine Ev.some (idx_get hx) ?_
    rw [List.any_cons]
    refine Ev.ite (fun h => ?_) (fun h => ?_)
    · refine (Ev.pure false).eq ?_
      rw [h]; simp
    · rw [h, wrapS (by omega), Bool.false_or]
      exact formed_evL pre d hpre hlen hp hn post (i + 1) (by rw [← List.drop_drop, hd]; rfl) (by omega)

theorem declOK_eq (pre : List Dc) (d : Dc) : declOK pre d = (((isSmallF d.name && !(d.name.toList == tyB.toList)) && isProper d.cls && nodesB pre.length d.cls 0 && !pre.any (fun x => x.name.toList == d.name.toList)) && headOK pre d) := rfl

theorem formed_ev (pre : List Dc) (d : Dc) (hpre : ∀ x ∈ pre, isProper x.cls = true) (hlen : pre.length ≤ 1000) : Ev (fun k => R05_formed k pre d) (declOK pre d) := by
  refine Ev.succ (fun k => R05_formed.eq_2 ..) ?_
  refine (refName_ev d.name).bind ?_
  rw [declOK_eq]
  refine Ev.ite (fun h1 => ?_) (fun h1 => ?_)
  · have h1 : (isSmallF d.name && !(d.name.toList == tyB.toList)) = false := nb h1
    exact (Ev.pure false).eq (by rw [h1]; rfl)
  have h1 : (isSmallF d.name && !(d.name.toList == tyB.toList)) = true := nb' h1
  rw [h1, refProper_eq, Bool.true_and]
  refine Ev.ite (fun h2 => ?_) (fun h2 => ?_)
  · have h2 : isProper d.cls = false := by simpa using h2
    exact (Ev.pure false).eq (by rw [h2]; rfl)
  have h2 : isProper d.cls = true := by simpa using h2
  obtain ⟨hok, hh, hc⟩ := proper_small h2
  rw [h2, Bool.true_and, Dc.encL_length]
  refine (closed_ev pre.length hok (by omega) (by omega)).bind ?_
  refine Ev.ite (fun h3 => ?_) (fun h3 => ?_)
  · have h3 : nodesB pre.length d.cls 0 = false := by simpa using h3
    exact (Ev.pure false).eq (by rw [h3]; rfl)
  have h3 : nodesB pre.length d.cls 0 = true := by simpa using h3
  rw [h3, Bool.true_and]
  exact formed_evL pre d hpre hlen h2 h3 pre 0 rfl (by simp)

theorem formedSig_evL (sig : List Dc) (hlen : sig.length ≤ 100) : ∀ (post : List Dc) (i : Nat), sig.drop i = post → i + post.length = sig.length → (∀ x ∈ sig.take i, isProper x.cls = true) → Ev (fun k => R05_Formed_L1 k sig (i : Int)) (sigG (sig.take i) post)
  | [], i, hd, hi, hpre => by
    simp only [List.length_nil, Nat.add_zero] at hi
    refine Ev.succ (fun k => R05_Formed_L1.eq_2 ..) ?_
    refine Ev.f (by simp [Dc.encL_length, hi]) ?_
    refine (Ev.pure _).eq ?_
    simp [sigG, Dc.encL_length]; omega
  | d :: post, i, hd, hi, hpre => by
    simp only [List.length_cons] at hi
    have hx : sig[i]? = some d := by
      have := congrArg (fun l => l[0]?) hd
      simpa using this
    refine Ev.succ (fun k => R05_Formed_L1.eq_2 ..) ?_
    refine Ev.t (by simp [Dc.encL_length]; omega) ?_
    refine Ev.need (by simp [Dc.encL_length]; omega) ?_
    refine Ev.some (idx_get hx) ?_
    rw [Int.toNat_natCast]
    refine (formed_ev (sig.take i) d hpre (by simp; omega)).bind ?_
    rw [sigG]
    have htk : sig.take (i + 1) = sig.take i ++ [d] := by
      rw [List.take_add_one, hx]; rfl
    refine Ev.ite (fun h => ?_) (fun h => ?_)
    · have h : declOK (sig.take i) d = false := by simpa using h
      exact (Ev.pure false).eq (by rw [h]; rfl)
    · have h : declOK (sig.take i) d = true := by simpa using h
      rw [h, wrapS (by omega), Bool.true_and, ← htk]
      refine formedSig_evL sig hlen post (i + 1) (by rw [← List.drop_drop, hd]; rfl) (by omega) ?_
      intro x hx'
      rw [htk, List.mem_append, List.mem_singleton] at hx'
      rcases hx' with h1 | rfl
      · exact hpre x h1
      · exact declOK_proper h

def sigOK (sig : List Dc) : Bool := decide (sig.length ≤ 100) && sigG [] sig

theorem formedSig_ev (sig : List Dc) : Ev (fun k => R05_Formed k sig) (sigOK sig) := by
  refine Ev.succ (fun k => R05_Formed.eq_2 ..) ?_
  by_cases hl : sig.length ≤ 100
  · refine (formedSig_evL sig hl sig 0 rfl (by simp) (by simp)).eq ?_
    simp [sigOK, hl]
  · refine Ev.succ (fun k => R05_Formed_L1.eq_2 ..) ?_
    refine Ev.f (by simp [Dc.encL_length]; omega) ?_
    refine (Ev.pure _).eq ?_
    simp [sigOK, hl, Dc.encL_length]; omega

theorem signFormed_ev (pre : List Dc) (d : Dc) (hpre : ∀ x ∈ pre, isProper x.cls = true) (hlen : pre.length ≤ 1000) (hn : pre.any (fun x => x.name.toList == d.name.toList) = false) : Ev (fun k => sign_formed k pre d) (declOK pre d) := by
  refine Ev.succ (fun k => sign_formed.eq_2 ..) ?_
  rw [declOK_eq, hn]
  refine Ev.ite (fun h2 => ?_) (fun h2 => ?_)
  · have h2 : isProper d.cls = false := by
      cases h : isProper d.cls with
      | false => rfl
      | true => rw [h] at h2; simp at h2
    exact (Ev.pure false).eq (by rw [h2]; simp)
  have h2 : isProper d.cls = true := by
    cases h : isProper d.cls with
    | true => rfl
    | false => rw [h] at h2; simp at h2
  obtain ⟨hok, hh, hc⟩ := proper_small h2
  rw [h2]
  refine (signName_ev d.name).bind ?_
  generalize (isSmallF d.name && !(d.name.toList == tyB.toList)) = nm
  refine Ev.ite (fun h1 => ?_) (fun h1 => ?_)
  · refine (Ev.pure false).eq ?_
    rw [headOK]
    cases nm with
    | false => rfl
    | true =>
      have h1 : d.implicit < 0 := by simpa using h1
      have : decide (0 ≤ d.implicit) = false := by simp; omega
      rw [this]; simp
  have hnm : nm = true := by cases nm with | true => rfl | false => simp at h1
  subst hnm
  have himp : decide (0 ≤ d.implicit) = true := by simp at h1; simp; omega
  refine (domains_ev hok (by omega)).bind ?_
  refine (each_ev pre d.cls 0 _ (by omega) (by omega) (by omega)).bind ?_
  refine (kind_ev hok (by omega)).bind ?_
  obtain ⟨s1, s2, s3, s4, s5⟩ := split_facts h2
  have hnode := spl_node pre.length d.cls.height d.cls [] 0 hok (Nat.le_refl _)
  have e : spl d.cls.height d.cls [] = split d.cls := rfl
  rw [e] at hnode
  rw [headOK, himp, Tm.encL_length]
  refine Ev.ite (fun h3 => ?_) (fun h3 => ?_)
  · refine (Ev.pure _).eq ?_
    have h3 : ((split d.cls).2.op == 1) = true := h3
    rw [h3]
    simp [Bool.and_comm]
  have h3 : ((split d.cls).2.op == 1) = false := h3
  refine (target_ev hok (by omega)).bind ?_
  rw [h3]
  refine Ev.ite (fun h4 => ?_) (fun h4 => ?_)
  · simp only [Bool.and_eq_true] at h4
    obtain ⟨⟨h5, h6⟩, h7, h8⟩ := h4
    obtain ⟨n0, n1⟩ := hnode h6 (by simpa using h7) (by simpa using h8)
    obtain ⟨x, hx, hm⟩ := idx_pre n0 n1
    obtain ⟨xok, xh, _⟩ := proper_small (hpre x hm)
    refine Ev.some hx ?_
    refine (kind_ev xok (by omega)).bind ?_
    refine (Ev.pure _).eq ?_
    rw [kindAt, hx, h5, h6, h7, h8]; simp
  · refine (Ev.pure false).eq ?_
    revert h4
    generalize decide (d.implicit ≤ ((split d.cls).1.length : Int)) = b1
    generalize nodesB pre.length d.cls 0 = b2
    generalize ((split d.cls).2.op == 4) = b3
    generalize ((split d.cls).2.hd == 2) = b4
    cases b1 <;> cases b2 <;> cases b3 <;> cases b4 <;> simp

/-- The names that were put. -/
def namesOf (pre : List Dc) (m : List (ByteArray × Bool)) : Prop := ∀ s, (mget m s).getD false = pre.any (fun x => x.name.toList == s.toList)

theorem mget_mput {κ β : Type} [DecidableEq κ] (n : κ) (v : β) : ∀ (l : List (κ × β)) (x : κ), mget (mput n v l) x = if x = n then some v else mget l x
  | [], x => by simp only [mput, mget]
  | (k, u) :: r, x => by
    simp only [mput]
    split
    · rename_i h
      subst h
      simp only [mget]
      split <;> rfl
    · rename_i h
      simp only [mget, mget_mput n v r x]
      by_cases h1 : x = k
      · subst h1; rw [if_pos rfl, if_pos rfl, if_neg (fun e => h e.symm)]
      · rw [if_neg h1, if_neg h1]

theorem check_evL (sig : List Dc) (hlen : sig.length ≤ 100) : ∀ (post : List Dc) (i : Nat) (m : List (ByteArray × Bool)), sig.drop i = post → i + post.length = sig.length → (∀ x ∈ sig.take i, isProper x.cls = true) → namesOf (sig.take i) m → Ev (fun k => sign_Check_L1 k sig m (i : Int)) (if sigG (sig.take i) post then 0 else 2)
  | [], i, m, hd, hi, hpre, hm => by
    simp only [List.length_nil, Nat.add_zero] at hi
    refine Ev.succ (fun k => sign_Check_L1.eq_2 ..) ?_
    refine Ev.f (by simp [Dc.encL_length, hi]) ?_
    exact (Ev.pure _).eq (by simp [sigG])
  | d :: post, i, m, hd, hi, hpre, hm => by
    simp only [List.length_cons] at hi
    have hx : sig[i]? = some d := by
      have := congrArg (fun l => l[0]?) hd
      simpa using this
    have htk : sig.take (i + 1) = sig.take i ++ [d] := by
      rw [List.take_add_one, hx]; rfl
    refine Ev.succ (fun k => sign_Check_L1.eq_2 ..) ?_
    refine Ev.t (by simp [Dc.encL_length]; omega) ?_
    refine Ev.some (idx_get hx) ?_
    refine Ev.need (by simp [Dc.encL_length]; omega) ?_
    rw [hm d.name, sigG]
    refine Ev.ite (fun h1 => ?_) (fun h1 => ?_)
    · refine (Ev.pure _).eq ?_
      rw [declOK, h1]; simp
    rw [Int.toNat_natCast]
    refine (signFormed_ev (sig.take i) d hpre (by simp; omega) h1).bind ?_
    refine Ev.ite (fun h => ?_) (fun h => ?_)
    · have h : declOK (sig.take i) d = false := by simpa using h
      exact (Ev.pure _).eq (by rw [h]; rfl)
    · have h : declOK (sig.take i) d = true := by simpa using h
      rw [h, wrapS (by omega), Bool.true_and, ← htk]
      refine check_evL sig hlen post (i + 1) _ (by rw [← List.drop_drop, hd]; rfl) (by omega) ?_ ?_
      · intro x hx'
        rw [htk, List.mem_append, List.mem_singleton] at hx'
        rcases hx' with h1 | rfl
        · exact hpre x h1
        · exact declOK_proper h
      · intro s
        rw [mget_mput, htk, List.any_append, ← hm s]
        by_cases hs : s = d.name
        · subst hs; simp
        · rw [if_neg hs]
          have : (d.name.toList == s.toList) = false := by rw [strEq, decide_eq_false_iff_not]; exact fun e => hs e.symm
          simp [this]

theorem check_ev (sig : List Dc) : Ev (fun k => sign_Check k sig) (if sigOK sig then 0 else 2) := by
  refine Ev.succ (fun k => sign_Check.eq_2 ..) ?_
  refine Ev.ite (fun h => ?_) (fun h => ?_)
  · refine (Ev.pure _).eq ?_
    have h : 100 < sig.length := by simp [Dc.encL_length] at h; omega
    have : decide (sig.length ≤ 100) = false := by simp; omega
    rw [sigOK, this]; rfl
  · have h : sig.length ≤ 100 := by simp [Dc.encL_length] at h; omega
    refine (check_evL sig h sig 0 [] rfl (by simp) (by simp) (fun s => by simp [mget])).eq ?_
    have : decide (sig.length ≤ 100) = true := by simpa using h
    rw [sigOK, this]; rfl

theorem sigG_proper : ∀ (post pre : List Dc), sigG pre post = true → ∀ x ∈ post, isProper x.cls = true
  | [], _, _, x, hx => by cases hx
  | d :: post, pre, h, x, hx => by
    simp only [sigG, Bool.and_eq_true] at h
    rcases List.mem_cons.1 hx with e | e
    · subst e; exact declOK_proper h.1
    · exact sigG_proper post _ h.2 x e
theorem sigOK_proper {sig : List Dc} (h : sigOK sig = true) : sig.length ≤ 100 ∧ ∀ x ∈ sig, isProper x.cls = true := by
  simp only [sigOK, Bool.and_eq_true, decide_eq_true_eq] at h
  exact ⟨h.1, sigG_proper sig [] h.2⟩

end Go.Proofs.YtogicnodmgdnbaaGreatDoor
end

/-! EvK -/
section
namespace Go.Proofs.YtogicnodmgdnbaaGreatDoor
open Go.Tr Go
set_option linter.unusedVariables false
set_option linter.unusedSimpArgs false
set_option maxRecDepth 10000

abbrev Pr (t : Tm) : Prop := isProper t = true
theorem pr_arg {t u : Tm} (h : Pr t) (hu : u ∈ t.args) : Pr u := by
  obtain ⟨hok, hh, hc⟩ := proper_small h
  rw [Pr, isProper_iff]
  have h1 := Tm.height_le hu
  rw [Tm.height_eq] at hh
  rw [Tm.count_eq] at hc
  have h2 : u.count ≤ Tm.countL t.args := by
    have : ∀ (us : List Tm), u ∈ us → u.count ≤ Tm.countL us := by
      intro us
      induction us with
      | nil => intro h; cases h
      | cons v us ih =>
        intro h
        simp only [Tm.countL]
        rcases List.mem_cons.1 h with e | e
        · subst e; omega
        · have := ih e; omega
    exact this _ hu
  exact ⟨okAll_arg hok hu, by omega, by omega⟩
theorem pr_len {t : Tm} (h : Pr t) : t.args.length ≤ 600 := by
  obtain ⟨hok, hh, hc⟩ := proper_small h
  have := Tm.length_le_countL t.args
  rw [Tm.count_eq] at hc
  omega
theorem pr_n {t : Tm} (h : Pr t) : 0 ≤ t.n ∧ t.n ≤ 9999 := okAll_n (proper_small h).1
theorem pr_two {t : Tm} (h : Pr t) (ho : t.op = 2) : ∃ a b, t.args = [a, b] ∧ Pr a ∧ Pr b ∧ a.count < t.count ∧ b.count < t.count ∧ a.height < t.height ∧ b.height < t.height := by
  obtain ⟨a, b, e, _, _, h1, h2, h3⟩ := okAll_two (proper_small h).1 ho
  have := Tm.count_pos a; have := Tm.count_pos b
  exact ⟨a, b, e, pr_arg h (by rw [e]; simp), pr_arg h (by rw [e]; simp), by omega, by omega, by omega, by omega⟩
theorem pr_one {t : Tm} (h : Pr t) (ho : t.op = 3) : ∃ a, t.args = [a] ∧ Pr a ∧ a.count < t.count := by
  obtain ⟨a, e, _, h1, h2⟩ := okAll_one (proper_small h).1 ho
  exact ⟨a, e, pr_arg h (by rw [e]; simp), by omega⟩
theorem cnt_arg {t u : Tm} (hu : u ∈ t.args) : u.count < t.count := by
  rw [Tm.count_eq t]
  have : ∀ (us : List Tm), u ∈ us → u.count ≤ Tm.countL us := by
    intro us
    induction us with
    | nil => intro h; cases h
    | cons v us ih =>
      intro h
      simp only [Tm.countL]
      rcases List.mem_cons.1 h with e | e
      · subst e; omega
      · have := ih e; omega
  have := this _ hu
  omega

/-- A result: an error, or a proper term. -/
def okR (r : Tm × Int) : Prop := r.2 = 0 → Pr r.1

theorem whole_y (t : Tm) : Yields (fun k => R04_whole k t) okR := by
  refine Yields.succ (fun k => R04_whole.eq_2 ..) ?_
  rw [refProper_eq]
  refine Yields.ite (fun h => Yields.pure ?_) (fun h => Yields.pure ?_)
  · intro h; cases h
  · intro _; exact nb' h

theorem idx_of {α : Type} {l : List α} {i : Nat} (h : i < l.length) : ∃ x, idx l (i : Int) = some x ∧ x ∈ l ∧ l[i]? = some x :=
  ⟨l[i], by rw [idx_nat]; exact List.getElem?_eq_getElem h, List.getElem_mem h, List.getElem?_eq_getElem h⟩

theorem moved_y : ∀ (c : Nat) (t : Tm) (by_ f : Int), t.count ≤ c → t.count ≤ 600 → Yields (fun k => R04_moved k t by_ f) (fun _ => True)
  | 0, t, _, _, h, _ => by have := Tm.count_pos t; omega
  | c + 1, t, by_, f, h, h6 => by
    have hlen : t.args.length ≤ 600 := by have := Tm.length_le_countL t.args; rw [Tm.count_eq] at h6; omega
    have loop : ∀ (m i : Nat) (o : Tm), m = t.args.length - i → i ≤ t.args.length → o.args.length = i → Yields (fun k => R04_moved_L1 k t by_ f o (i : Int)) (fun _ => True) := by
      intro m
      induction m with
      | zero =>
        intro i o hm hi ho
        refine Yields.succ (fun k => R04_moved_L1.eq_2 ..) ?_
        refine Yields.ite (fun hc => ?_) (fun hc => Yields.pure trivial)
        simp [Tm.encL_length] at hc; omega
      | succ m ih =>
        intro i o hm hi ho
        refine Yields.succ (fun k => R04_moved_L1.eq_2 ..) ?_
        obtain ⟨x, hx, hxm, _⟩ := idx_of (show i < t.args.length by omega)
        have hcx := cnt_arg hxm
        have hnext : ∀ y, Yields (fun k => R04_moved_L1 k t by_ f (Tm.mk o.op o.hd o.n (o.args ++ [y])) ((i + 1 : Nat) : Int)) (fun _ => True) := fun y => ih (i + 1) _ (by omega) (by omega) (by show (o.args ++ [y]).length = i + 1; simp [ho])
        refine Yields.ite (fun hc => ?_) (fun hc => Yields.pure trivial)
        refine Yields.ite (fun _ => ?_) (fun _ => ?_)
        · refine Yields.some hx ?_
          refine Yields.bind (moved_y c x _ _ (by omega) (by omega)) (fun y _ => ?_)
          refine Yields.need (by simp [Tm.encL_length]; omega) ?_
          rw [wrapS (by omega)]
          exact hnext y
        · refine Yields.some hx ?_
          refine Yields.bind (moved_y c x _ _ (by omega) (by omega)) (fun y _ => ?_)
          refine Yields.need (by simp [Tm.encL_length]; omega) ?_
          rw [wrapS (by omega)]
          exact hnext y
    refine Yields.succ (fun k => R04_moved.eq_2 ..) ?_
    refine Yields.ite (fun _ => ?_) (fun _ => ?_)
    · exact loop _ 0 _ rfl (Nat.zero_le _) rfl
    · exact loop _ 0 _ rfl (Nat.zero_le _) rfl

theorem raised_y {t : Tm} (h : Pr t) (n : Int) : Yields (fun k => R04_raised k t n) (fun _ => True) := by
  refine Yields.succ (fun k => R04_raised.eq_2 ..) ?_
  exact Yields.bind (moved_y t.count t _ _ (Nat.le_refl _) (proper_small h).2.2) (fun y _ => Yields.pure trivial)

/-- The result of a substitution: the steps do not go down, and it is an error or a proper term. -/
def okP (c : Int) (r : Tm × Int × Ct) : Prop := c ≤ r.2.2.n ∧ r.2.2.n ≤ 20001 ∧ (r.2.1 = 0 → Pr r.1 ∧ r.2.2.n ≤ 20000)

theorem wrapc {c : Int} (h0 : 0 ≤ c) (h1 : c ≤ 20001) : IntKind.i64.wrap (c + 1) = c + 1 := wrap_i64 (by omega) (by omega)

def PutY (q : Nat) : Prop := ∀ (t : Tm) (n : Int) (s : Tm) (p : Sm) (c : Int), 0 ≤ c → c ≤ 20000 → 20001 - c ≤ q → Pr t → Pr s → Yields (fun k => R04_count_put k t n s p ⟨c⟩) (okP c)

theorem apply_y (q : Nat) (hput : PutY q) : ∀ (f : Tm) (l : List Tm) (p : Sm) (c : Int) (m : Nat), l.length ≤ m → 0 ≤ c → c ≤ 20000 → 20001 - c ≤ q → Pr f → (∀ x ∈ l, Pr x) → l.length ≤ 1000 → Yields (fun k => R04_count_apply k f l p ⟨c⟩) (okP c)
  | f, [], p, c, m, hm, h0, h1, hq, hf, hl, hb => by
    refine Yields.succ (fun k => R04_count_apply.eq_2 ..) ?_
    refine Yields.ite (fun _ => ?_) (fun h => by simp [Tm.encL] at h)
    refine Yields.bind (whole_y f) (fun y hy => Yields.pure ⟨?_, ?_, fun h => ⟨hy h, ?_⟩⟩) <;> simp only <;> omega
  | f, x :: l, p, c, 0, hm, h0, h1, hq, hf, hl, hb => by simp at hm
  | f, x :: l, p, c, m + 1, hm, h0, h1, hq, hf, hl, hb => by
    refine Yields.succ (fun k => R04_count_apply.eq_2 ..) ?_
    refine Yields.ite (fun h => by simp [Tm.encL_length] at h; omega) (fun _ => ?_)
    refine Yields.ite (fun _ => Yields.pure ?_) (fun h2 => ?_)
    · refine ⟨?_, ?_, fun h => by cases h⟩ <;> simp only <;> omega
    simp only [Bool.or_eq_false_iff, bne_eq_false_iff_eq] at h2
    obtain ⟨b, hb1, hpb, _⟩ := pr_one hf h2.1
    have hpa : p.args ≠ [] := by
      intro e; have := h2.2; rw [e] at this; simp [Sm.encL] at this
    obtain ⟨p0, ps, hps⟩ := List.exists_cons_of_ne_nil hpa
    refine Yields.some (x := b) (by rw [hb1]; rfl) ?_
    refine Yields.some (x := x) rfl ?_
    refine Yields.some (x := p0) (by rw [hps]; rfl) ?_
    refine Yields.bind (hput b 0 x p0 c h0 h1 hq hpb (hl x (by simp))) (fun y hy => ?_)
    obtain ⟨y1, y2, ⟨y3⟩⟩ := y
    obtain ⟨e1, e2, e3⟩ := hy
    simp only at e1 e2 e3 ⊢
    refine Yields.ite (fun h5 => Yields.pure ?_) (fun h5 => ?_)
    · have h5 : y2 ≠ 0 := by simpa using h5
      exact ⟨e1, e2, fun h => (h5 h).elim⟩
    have h5 : y2 = 0 := by simpa using h5
    refine Yields.need (by simp [Tm.encL_length]; omega) ?_
    refine Yields.need (by rw [hps]; simp [Sm.encL_length]; omega) ?_
    simp only [List.length_cons] at hm hb
    refine Yields.bind (apply_y q hput y1 l _ y3 m (by omega) (by omega) (e3 h5).2 (by omega) (e3 h5).1 (fun z hz => hl z (by simp [hz])) (by omega)) (fun r hr => Yields.pure ?_)
    obtain ⟨g1, g2, g3⟩ := hr
    exact ⟨by simp only; omega, g2, g3⟩

theorem put_y : ∀ (q : Nat), PutY q
  | 0 => fun t n s p c h0 h1 hq ht hs => by omega
  | q + 1 => fun t n s p c h0 h1 hq ht hs => by
    have hput := put_y q
    refine Yields.succ (fun k => R04_count_put.eq_2 ..) ?_
    have hlen := pr_len ht
    simp only [wrapc h0 (by omega)]
    refine Yields.ite (fun h2 => Yields.pure ?_) (fun h2 => ?_)
    · have h2 : 20000 < c + 1 := by simpa using h2
      refine ⟨?_, ?_, fun h => by cases h⟩ <;> simp only <;> omega
    have h2 : c + 1 ≤ 20000 := by simpa using h2
    have loop : ∀ (m i : Nat) (o : Tm) (c' : Int), m = t.args.length - i → i ≤ t.args.length → o.args.length = i → (∀ x ∈ o.args, Pr x) → c + 1 ≤ c' → c' ≤ 20000 → Yields (fun k => R04_count_put_L1 k t n s p ⟨c'⟩ o (i : Int)) (okP c) := by
      intro m
      induction m with
      | zero =>
        intro i o c' hm hi ho hop hc1 hc2
        refine Yields.succ (fun k => R04_count_put_L1.eq_2 ..) ?_
        refine Yields.ite (fun hc => ?_) (fun _ => ?_)
        · simp [Tm.encL_length] at hc; omega
        refine Yields.ite (fun _ => ?_) (fun _ => ?_)
        · refine Yields.bind (whole_y o) (fun y hy => Yields.pure ⟨?_, ?_, fun h => ⟨hy h, ?_⟩⟩) <;> simp only <;> omega
        refine Yields.ite (fun _ => ?_) (fun _ => ?_)
        · refine Yields.bind (whole_y _) (fun y hy => Yields.pure ⟨?_, ?_, fun h => ⟨hy h, ?_⟩⟩) <;> simp only <;> omega
        refine Yields.bind (raised_y hs n) (fun y _ => ?_)
        refine Yields.bind (whole_y y) (fun z hz => ?_)
        refine Yields.ite (fun h5 => Yields.pure ?_) (fun h5 => ?_)
        · have h5 : z.2 ≠ 0 := by simpa using h5
          refine ⟨?_, ?_, fun h => (h5 h).elim⟩ <;> simp only <;> omega
        have h5 : z.2 = 0 := by simpa using h5
        refine Yields.bind (apply_y q hput z.1 o.args p c' o.args.length (Nat.le_refl _) (by omega) hc2 (by omega) (hz h5) hop (by omega)) (fun r hr => Yields.pure ?_)
        obtain ⟨e1, e2, e3⟩ := hr
        exact ⟨by simp only; omega, e2, e3⟩
      | succ m ih =>
        intro i o c' hm hi ho hop hc1 hc2
        refine Yields.succ (fun k => R04_count_put_L1.eq_2 ..) ?_
        obtain ⟨x, hx, hxm, _⟩ := idx_of (show i < t.args.length by omega)
        have hpx := pr_arg ht hxm
        have hnext : ∀ (y : Tm × Int × Ct), okP c' y → Yields (fun k => cond (y.2.1 != 0) (some ((Tm.mk 0 0 0 ([])), y.2.1, y.2.2)) (cond (decide ((Tm.encL (o.args ++ [y.1])).length ≤ 1000000)) (R04_count_put_L1 k t n s p y.2.2 (Tm.mk o.op o.hd o.n (o.args ++ [y.1])) (IntKind.i64.wrap ((i : Int) + 1))) none)) (okP c) := by
          rintro ⟨y1, y2, ⟨y3⟩⟩ ⟨e1, e2, e3⟩
          simp only at e1 e2 e3 ⊢
          refine Yields.ite (fun h5 => Yields.pure ?_) (fun h5 => ?_)
          · have h5 : y2 ≠ 0 := by simpa using h5
            exact ⟨by simp only; omega, e2, fun h => (h5 h).elim⟩
          have h5 : y2 = 0 := by simpa using h5
          refine Yields.need (by simp [Tm.encL_length]; omega) ?_
          rw [wrapS (by omega)]
          refine ih (i + 1) _ y3 (by omega) (by omega) (by show (o.args ++ [y1]).length = i + 1; simp [ho]) ?_ (by omega) (e3 h5).2
          intro z hz
          have hz : z ∈ o.args ++ [y1] := hz
          rw [List.mem_append, List.mem_singleton] at hz
          rcases hz with h | h
          · exact hop z h
          · subst h; exact (e3 h5).1
        refine Yields.ite (fun _ => ?_) (fun hc => ?_)
        · refine Yields.ite (fun _ => ?_) (fun _ => ?_)
          · refine Yields.some hx ?_
            exact Yields.bind (hput x _ s p c' (by omega) hc2 (by omega) hpx hs) hnext
          · refine Yields.some hx ?_
            exact Yields.bind (hput x _ s p c' (by omega) hc2 (by omega) hpx hs) hnext
        · simp [Tm.encL_length] at hc; omega
    exact loop _ 0 _ (c + 1) rfl (Nat.zero_le _) rfl (by simp [Tm.args]) (Int.le_refl _) h2
end Go.Proofs.YtogicnodmgdnbaaGreatDoor
end

/-! EvL -/
section
namespace Go.Proofs.YtogicnodmgdnbaaGreatDoor
open Go.Tr Go
set_option linter.unusedVariables false
set_option linter.unusedSimpArgs false
set_option maxRecDepth 10000

mutual
/-- No list in it is longer than a million. -/
def smB : Sm → Prop
  | .mk args _ => args.length ≤ 1000000 ∧ smBL args
def smBL : List Sm → Prop
  | [] => True
  | s :: r => smB s ∧ smBL r
 end
theorem smBL_mem : ∀ {l : List Sm} {s : Sm}, smBL l → s ∈ l → smB s
  | _ :: r, s, h, hs => by
    simp only [smBL] at h
    rcases List.mem_cons.1 hs with e | e
    · subst e; exact h.1
    · exact smBL_mem h.2 e
theorem smB_args {s : Sm} (h : smB s) : s.args.length ≤ 1000000 ∧ smBL s.args := by cases s; exact h
theorem Sm.ind {motive : Sm → Prop} (h : ∀ t, (∀ x ∈ t.args, motive x) → motive t) (t : Sm) : motive t := by
  induction t using Sm.rec (motive_2 := fun ts => ∀ x ∈ ts, motive x) with
  | nil => rename_i x hx; cases hx
  | cons t ts ih1 ih2 => rename_i x hx; rcases List.mem_cons.1 hx with e | e; (subst e; exact ih1); exact ih2 x e
  | mk args con ih => exact h _ ih

theorem simple_y : ∀ (q : Nat) (t : Tm), t.count ≤ q → Pr t → Yields (fun k => R03_Simple k t) (fun r => r.1.args.length ≤ t.height ∧ smB r.1)
  | 0, t, hq, _ => by have := Tm.count_pos t; omega
  | q + 1, t, hq, ht => by
    have hh := (proper_small ht).2.1
    refine Yields.succ (fun k => R03_Simple.eq_2 ..) ?_
    refine Yields.ite (fun _ => Yields.pure ⟨Nat.zero_le _, ?_⟩) (fun _ => ?_)
    · exact ⟨Nat.zero_le _, trivial⟩
    refine Yields.ite (fun h => ?_) (fun _ => Yields.pure ⟨Nat.zero_le _, Nat.zero_le _, trivial⟩)
    obtain ⟨a, b, e, ha, hb, hca, hcb, hha, hhb⟩ := pr_two ht (by simpa using h)
    rw [e]
    refine Yields.some (x := a) rfl ?_
    refine Yields.bind (simple_y q a (by omega) ha) (fun x hx => ?_)
    refine Yields.some (x := b) rfl ?_
    refine Yields.bind (simple_y q b (by omega) hb) (fun y hy => ?_)
    refine Yields.ite (fun _ => Yields.pure ⟨Nat.zero_le _, Nat.zero_le _, trivial⟩) (fun _ => ?_)
    have hbh := (proper_small hb).2.1
    refine Yields.need (by simp [Sm.encL_length]; omega) ?_
    refine Yields.pure ⟨?_, ?_⟩
    · show ([x.1] ++ y.1.args).length ≤ t.height
      simp; omega
    · show ([x.1] ++ y.1.args).length ≤ 1000000 ∧ smBL ([x.1] ++ y.1.args)
      exact ⟨by simp; omega, hx.2, (smB_args hy.2).2⟩

theorem constants_y (s : Sm) : smB s → ∀ m : Int, Yields (fun k => R04_constants k s m) (fun _ => True) := by
  induction s using Sm.ind with
  | h s ih =>
    intro hs m
    obtain ⟨hl, hb⟩ := smB_args hs
    have loop : ∀ (q i : Nat) (c : Int), q = s.args.length - i → i ≤ s.args.length → Yields (fun k => R04_constants_L1 k s m c (i : Int)) (fun _ => True) := by
      intro q
      induction q with
      | zero =>
        intro i c hq hi
        refine Yields.succ (fun k => R04_constants_L1.eq_2 ..) ?_
        refine Yields.ite (fun h => ?_) (fun _ => Yields.pure trivial)
        simp [Sm.encL_length] at h; omega
      | succ q ihq =>
        intro i c hq hi
        refine Yields.succ (fun k => R04_constants_L1.eq_2 ..) ?_
        refine Yields.ite (fun _ => ?_) (fun _ => Yields.pure trivial)
        obtain ⟨x, hx, hxm, _⟩ := idx_of (show i < s.args.length by omega)
        refine Yields.some hx ?_
        refine Yields.bind (ih x hxm (smBL_mem hb hxm) _) (fun y _ => ?_)
        refine Yields.ite (fun _ => Yields.pure trivial) (fun _ => ?_)
        rw [wrapS (by omega)]
        exact ihq (i + 1) _ (by omega) (by omega)
    refine Yields.succ (fun k => R04_constants.eq_2 ..) ?_
    refine Yields.ite (fun _ => Yields.pure trivial) (fun _ => ?_)
    exact loop _ 0 _ rfl (Nat.zero_le _)

theorem small_y {s : Sm} (h : smB s) : Yields (fun k => R04_Small k s) (fun _ => True) := by
  refine Yields.succ (fun k => R04_Small.eq_2 ..) ?_
  exact Yields.bind (constants_y s h _) (fun y _ => Yields.pure trivial)

theorem step_y {t m : Tm} (ht : Pr t) (hm : Pr m) {c : Int} (h0 : 0 ≤ c) (h1 : c ≤ 20000) : Yields (fun k => R04_count_step k t m ⟨c⟩) (okP c) := by
  refine Yields.succ (fun k => R04_count_step.eq_2 ..) ?_
  have bad : ∀ e : Int, e ≠ 0 → okP c ((Tm.mk 0 0 0 ([])), e, ⟨c⟩) := fun e he => ⟨Int.le_refl _, by simp only; omega, fun h => (he h).elim⟩
  refine Yields.ite (fun _ => Yields.pure (bad _ (by decide))) (fun h => ?_)
  obtain ⟨a, b, e, ha, hb, hca, hcb, hha, hhb⟩ := pr_two ht (by simpa using h)
  rw [e]
  refine Yields.some (x := a) rfl ?_
  refine Yields.bind (simple_y a.count a (Nat.le_refl _) ha) (fun x hx => ?_)
  refine Yields.ite (fun _ => Yields.pure (bad _ (by decide))) (fun _ => ?_)
  refine Yields.bind (small_y hx.2) (fun y _ => ?_)
  refine Yields.ite (fun _ => Yields.pure (bad _ (by decide))) (fun _ => ?_)
  refine Yields.some (x := b) rfl ?_
  exact Yields.bind (put_y 20001 b 0 m x.1 c h0 h1 (by omega) hb hm) (fun r hr => Yields.pure hr)

theorem list_y (l : List Tm) (hl : l.length ≤ 1000000) : Yields (fun k => R04_list k l) (fun _ => True) := by
  have loop : ∀ (q i : Nat), q = l.length - i → i ≤ l.length → Yields (fun k => R04_list_L1 k l (i : Int)) (fun _ => True) := by
    intro q
    induction q with
    | zero =>
      intro i hq hi
      refine Yields.succ (fun k => R04_list_L1.eq_2 ..) ?_
      refine Yields.ite (fun h => ?_) (fun _ => Yields.pure trivial)
      simp [Tm.encL_length] at h; omega
    | succ q ihq =>
      intro i hq hi
      refine Yields.succ (fun k => R04_list_L1.eq_2 ..) ?_
      refine Yields.ite (fun _ => ?_) (fun _ => Yields.pure trivial)
      obtain ⟨x, hx, hxm, _⟩ := idx_of (show i < l.length by omega)
      refine Yields.some hx ?_
      refine Yields.ite (fun _ => Yields.pure trivial) (fun _ => ?_)
      rw [wrapS (by omega)]
      exact ihq (i + 1) (by omega) (by omega)
  refine Yields.succ (fun k => R04_list.eq_2 ..) ?_
  exact loop _ 0 rfl (Nat.zero_le _)

theorem instance_y {t : Tm} (ht : Pr t) {l : List Tm} (hl : ∀ x ∈ l, Pr x) (hb : l.length ≤ 1000000) : Yields (fun k => R04_Instance k t l) okR := by
  have loop : ∀ (q i : Nat) (t : Tm) (c : Int), q = l.length - i → i ≤ l.length → Pr t → 0 ≤ c → c ≤ 20000 → Yields (fun k => R04_Instance_L1 k l t ⟨c⟩ (i : Int)) okR := by
    intro q
    induction q with
    | zero =>
      intro i t c hq hi ht h0 h1
      refine Yields.succ (fun k => R04_Instance_L1.eq_2 ..) ?_
      refine Yields.ite (fun h => ?_) (fun _ => Yields.pure (fun _ => ht))
      simp [Tm.encL_length] at h; omega
    | succ q ihq =>
      intro i t c hq hi ht h0 h1
      refine Yields.succ (fun k => R04_Instance_L1.eq_2 ..) ?_
      refine Yields.ite (fun _ => ?_) (fun _ => Yields.pure (fun _ => ht))
      obtain ⟨x, hx, hxm, _⟩ := idx_of (show i < l.length by omega)
      refine Yields.some hx ?_
      refine Yields.bind (step_y ht (hl x hxm) h0 h1) (fun y hy => ?_)
      obtain ⟨y1, y2, ⟨y3⟩⟩ := y
      obtain ⟨e1, e2, e3⟩ := hy
      simp only at e1 e2 e3 ⊢
      refine Yields.ite (fun h5 => Yields.pure ?_) (fun h5 => ?_)
      · have h5 : y2 ≠ 0 := by simpa using h5
        exact fun h => (h5 h).elim
      have h5 : y2 = 0 := by simpa using h5
      rw [wrapS (by omega)]
      exact ihq (i + 1) y1 y3 (by omega) (by omega) (e3 h5).1 (by omega) (e3 h5).2
  refine Yields.succ (fun k => R04_Instance.eq_2 ..) ?_
  rw [refProper_eq]
  refine Yields.ite (fun h => Yields.pure (fun h => by cases h)) (fun _ => ?_)
  refine Yields.bind (list_y l hb) (fun y _ => ?_)
  refine Yields.ite (fun h => Yields.pure (fun h => by cases h)) (fun _ => ?_)
  exact loop _ 0 t 0 rfl (Nat.zero_le _) ht (by omega) (by omega)

/-- A context that the kernel makes. -/
def ctxB (l : List Tm) : Prop := l.length ≤ 1000 ∧ ∀ x ∈ l, Pr x

theorem longer_y {ctx : List Tm} {a : Tm} (hc : ctxB ctx) (ha : Pr a) : Yields (fun k => R06_longer k ctx a) (fun r => r.2 = 0 → ctxB r.1) := by
  refine Yields.succ (fun k => R06_longer.eq_2 ..) ?_
  refine Yields.ite (fun _ => Yields.pure (fun h => by cases h)) (fun h => ?_)
  have h : ctx.length < 30 := by simp [Tm.encL_length] at h; omega
  refine Yields.need (by simp [Tm.encL_length]; omega) ?_
  refine Yields.need (by simp [Tm.encL_length]; omega) ?_
  refine Yields.pure (fun _ => ⟨by simp; omega, fun x hx => ?_⟩)
  rcases List.mem_append.1 hx with h1 | h1
  · exact hc.2 x h1
  · simp at h1; subst h1; exact ha

theorem shiftF_ok (t : Tm) (b f : Int) : okR (shiftF t b f) := by
  unfold shiftF
  split
  · intro h; cases h
  · split
    · intro h; cases h
    · split
      · intro h; cases h
      · rename_i h
        intro _
        show isProper (movedF t b f) = true
        cases hp : isProper (movedF t b f) with
        | true => rfl
        | false => exact (h hp).elim

theorem has_ev (sig : List Dc) (n : Int) : Ev (fun k => R05_Has k sig n) (decide (n ≥ 0) && decide (n < (sig.length : Int))) := by
  refine Ev.succ (fun k => R05_Has.eq_2 ..) ?_
  rw [← Dc.encL_length]
  exact Ev.pure _

section
variable (sig : List Dc) (hsig : ∀ x ∈ sig, Pr x.cls)
include hsig

theorem class_y {ctx : List Tm} (hc : ctxB ctx) {m : Tm} (hm : Pr m) : Yields (fun k => R06_Kernel_class k ⟨sig, []⟩ ctx m) okR := by
  have hn := pr_n hm
  refine Yields.succ (fun k => R06_Kernel_class.eq_2 ..) ?_
  refine Yields.ite (fun _ => ?_) (fun _ => ?_)
  · refine Yields.ite (fun _ => Yields.pure (fun h => by cases h)) (fun h => ?_)
    have h : m.n < (ctx.length : Int) := by simp [Tm.encL_length] at h; omega
    have hl := hc.1
    have hw : IntKind.i64.wrap (IntKind.i64.wrap (((Tm.encL ctx).length : Int) - 1) - m.n) = ((ctx.length - 1 - m.n.toNat : Nat) : Int) := by
      rw [Tm.encL_length, wrap_i64 (n := (ctx.length : Int) - 1) (by omega) (by omega), wrap_i64 (by omega) (by omega)]; omega
    rw [hw]
    obtain ⟨x, hx, _, _⟩ := idx_of (show ctx.length - 1 - m.n.toNat < ctx.length by omega)
    refine Yields.some hx ?_
    exact Yields.pure (shiftF_ok _ _ _)
  refine Yields.ite (fun _ => ?_) (fun _ => ?_)
  · refine Yields.bind (Ev.is (has_ev sig m.n)) (fun b hb => ?_)
    subst hb
    refine Yields.ite (fun _ => Yields.pure (fun h => by cases h)) (fun h => ?_)
    have h := nb' h
    simp only [Bool.and_eq_true, decide_eq_true_eq] at h
    obtain ⟨d, hd, hdm⟩ := idx_pre h.1 h.2
    have hp := proper_small (hsig d hdm)
    refine Yields.bind (Ev.is (isFamily_ev hd hp.1 (by omega))) (fun b hb => ?_)
    refine Yields.ite (fun _ => Yields.pure (fun h => by cases h)) (fun _ => ?_)
    refine Yields.some hd ?_
    exact Yields.pure (fun _ => hsig d hdm)
  · refine Yields.ite (fun _ => Yields.pure (fun h => by cases h)) (fun h => ?_)
    simp [Mt.encL] at h; omega

def ObjY (q : Nat) : Prop := ∀ (ctx : List Tm) (m a : Tm), ctxB ctx → Pr m → Pr a → m.count ≤ q → Yields (fun k => R06_Kernel_Object k ⟨sig, []⟩ ctx m a) (fun _ => True)

omit hsig in
theorem fits_y {q : Nat} (hobj : ObjY sig q) {ctx : List Tm} (hc : ctxB ctx) {l : List Tm} (hl : ∀ x ∈ l, Pr x ∧ x.count ≤ q) (hb : l.length ≤ 1000000) {t : Tm} (ht : Pr t) : Yields (fun k => R06_Kernel_fits k ⟨sig, []⟩ ctx l t) okR := by
  have loop : ∀ (p i : Nat) (t : Tm), p = l.length - i → i ≤ l.length → Pr t → Yields (fun k => R06_Kernel_fits_L1 k l ⟨sig, []⟩ ctx t (i : Int)) okR := by
    intro p
    induction p with
    | zero =>
      intro i t hq hi ht
      refine Yields.succ (fun k => R06_Kernel_fits_L1.eq_2 ..) ?_
      refine Yields.ite (fun h => ?_) (fun _ => Yields.pure (fun _ => ht))
      simp [Tm.encL_length] at h; omega
    | succ p ihp =>
      intro i t hq hi ht
      refine Yields.succ (fun k => R06_Kernel_fits_L1.eq_2 ..) ?_
      refine Yields.ite (fun _ => ?_) (fun _ => Yields.pure (fun _ => ht))
      refine Yields.ite (fun _ => Yields.pure (fun h => by cases h)) (fun h => ?_)
      obtain ⟨a, b, e, ha, hb', _⟩ := pr_two ht (by simpa using h)
      obtain ⟨x, hx, hxm, _⟩ := idx_of (show i < l.length by omega)
      refine Yields.some hx ?_
      refine Yields.some (x := a) (by rw [e]; rfl) ?_
      refine Yields.bind (hobj ctx x a hc (hl x hxm).1 ha (hl x hxm).2) (fun y _ => ?_)
      refine Yields.ite (fun h5 => Yields.pure ?_) (fun h5 => ?_)
      · have h5 : y ≠ 0 := by simpa using h5
        exact fun h => (h5 h).elim
      refine Yields.some hx ?_
      refine Yields.bind (instance_y ht (l := [x]) (by intro z hz; simp at hz; subst hz; exact (hl z hxm).1) (by simp)) (fun z hz => ?_)
      refine Yields.ite (fun h6 => Yields.pure ?_) (fun h6 => ?_)
      · have h6 : z.2 ≠ 0 := by simpa using h6
        exact fun h => (h6 h).elim
      rw [wrapS (by omega)]
      exact ihp (i + 1) z.1 (by omega) (by omega) (hz (by simpa using h6))
  refine Yields.succ (fun k => R06_Kernel_fits.eq_2 ..) ?_
  exact loop _ 0 t rfl (Nat.zero_le _) ht

theorem infer_y {q : Nat} (hobj : ObjY sig q) {ctx : List Tm} (hc : ctxB ctx) {m : Tm} (hm : Pr m) (hq : m.count ≤ q + 1) : Yields (fun k => R06_Kernel_Infer k ⟨sig, []⟩ ctx m) okR := by
  refine Yields.succ (fun k => R06_Kernel_Infer.eq_2 ..) ?_
  refine Yields.ite (fun _ => Yields.pure (fun h => by cases h)) (fun _ => ?_)
  refine Yields.bind (class_y sig hsig hc hm) (fun y hy => ?_)
  refine Yields.ite (fun h5 => Yields.pure ?_) (fun h5 => ?_)
  · have h5 : y.2 ≠ 0 := by simpa using h5
    exact fun h => (h5 h).elim
  have hlen := pr_len hm
  refine Yields.bind (fits_y sig hobj hc (l := m.args) (fun x hx => ⟨pr_arg hm hx, by have := cnt_arg hx; omega⟩) (by omega) (hy (by simpa using h5))) (fun z hz => ?_)
  refine Yields.ite (fun h6 => Yields.pure ?_) (fun h6 => ?_)
  · have h6 : z.2 ≠ 0 := by simpa using h6
    exact fun h => (h6 h).elim
  refine Yields.ite (fun _ => Yields.pure (fun h => by cases h)) (fun _ => Yields.pure (fun _ => hz (by simpa using h6)))

theorem object_y : ∀ (q : Nat), ObjY sig q
  | 0 => fun ctx m a hc hm ha hq => by have := Tm.count_pos m; omega
  | q + 1 => fun ctx m a hc hm ha hq => by
    have hobj := object_y q
    refine Yields.succ (fun k => R06_Kernel_Object.eq_2 ..) ?_
    refine Yields.ite (fun h2 => ?_) (fun _ => ?_)
    · refine Yields.ite (fun _ => Yields.pure trivial) (fun _ => ?_)
      refine Yields.ite (fun _ => Yields.pure trivial) (fun h3 => ?_)
      obtain ⟨a0, a1, e, ha0, ha1, _⟩ := pr_two ha (by simpa using h2)
      obtain ⟨m0, em, hm0, hcm⟩ := pr_one hm (by simpa using h3)
      refine Yields.some (x := a0) (by rw [e]; rfl) ?_
      refine Yields.bind (longer_y hc ha0) (fun y hy => ?_)
      refine Yields.ite (fun _ => Yields.pure trivial) (fun h5 => ?_)
      refine Yields.some (x := m0) (by rw [em]; rfl) ?_
      refine Yields.some (x := a1) (by rw [e]; rfl) ?_
      exact Yields.bind (hobj y.1 m0 a1 (hy (by simpa using h5)) hm0 ha1 (by omega)) (fun z _ => Yields.pure trivial)
    refine Yields.ite (fun _ => ?_) (fun _ => Yields.pure trivial)
    refine Yields.ite (fun _ => Yields.pure trivial) (fun _ => ?_)
    refine Yields.bind (infer_y sig hsig hobj hc hm hq) (fun y _ => ?_)
    refine Yields.ite (fun _ => Yields.pure trivial) (fun _ => ?_)
    exact Yields.ite (fun _ => Yields.pure trivial) (fun _ => Yields.pure trivial)

theorem type_y : ∀ (q : Nat) (ctx : List Tm) (a : Tm), ctxB ctx → Pr a → a.count ≤ q → Yields (fun k => R06_Kernel_Type k ⟨sig, []⟩ ctx a) (fun _ => True) ∧ Yields (fun k => R06_Kernel_Kind k ⟨sig, []⟩ ctx a) (fun _ => True)
  | 0, ctx, a, hc, ha, hq => by have := Tm.count_pos a; omega
  | q + 1, ctx, a, hc, ha, hq => by
    have pi : a.op = 2 → ∀ b : Bool, Yields (fun k => R06_Kernel_pi k ⟨sig, []⟩ ctx a b) (fun _ => True) := by
      intro h2 b
      obtain ⟨a0, a1, e, ha0, ha1, c0, c1, _⟩ := pr_two ha h2
      refine Yields.succ (fun k => R06_Kernel_pi.eq_2 ..) ?_
      refine Yields.some (x := a0) (by rw [e]; rfl) ?_
      refine Yields.bind (type_y q ctx a0 hc ha0 (by omega)).1 (fun y _ => ?_)
      refine Yields.ite (fun _ => Yields.pure trivial) (fun _ => ?_)
      refine Yields.some (x := a0) (by rw [e]; rfl) ?_
      refine Yields.bind (longer_y hc ha0) (fun z hz => ?_)
      refine Yields.ite (fun _ => Yields.pure trivial) (fun h5 => ?_)
      have hz := hz (by simpa using h5)
      refine Yields.ite (fun _ => ?_) (fun _ => ?_)
      · refine Yields.some (x := a1) (by rw [e]; rfl) ?_
        exact Yields.bind (type_y q z.1 a1 hz ha1 (by omega)).2 (fun _ _ => Yields.pure trivial)
      · refine Yields.some (x := a1) (by rw [e]; rfl) ?_
        exact Yields.bind (type_y q z.1 a1 hz ha1 (by omega)).1 (fun _ _ => Yields.pure trivial)
    refine ⟨?_, ?_⟩
    · refine Yields.succ (fun k => R06_Kernel_Type.eq_2 ..) ?_
      refine Yields.ite (fun h2 => ?_) (fun _ => ?_)
      · exact Yields.bind (pi (by simpa using h2) false) (fun _ _ => Yields.pure trivial)
      refine Yields.ite (fun _ => Yields.pure trivial) (fun _ => ?_)
      refine Yields.bind (Ev.is (has_ev sig a.n)) (fun b hb => ?_)
      subst hb
      refine Yields.ite (fun _ => Yields.pure trivial) (fun h => ?_)
      have h := nb' h
      simp only [Bool.and_eq_true, decide_eq_true_eq] at h
      obtain ⟨d, hd, hdm⟩ := idx_pre h.1 h.2
      have hp := proper_small (hsig d hdm)
      refine Yields.bind (Ev.is (isFamily_ev hd hp.1 (by omega))) (fun b hb => ?_)
      refine Yields.ite (fun _ => Yields.pure trivial) (fun _ => ?_)
      refine Yields.some hd ?_
      have hlen := pr_len ha
      refine Yields.bind (fits_y sig (object_y sig hsig a.count) hc (l := a.args) (fun x hx => ⟨pr_arg ha hx, by have := cnt_arg hx; omega⟩) (by omega) (hsig d hdm)) (fun z hz => ?_)
      refine Yields.ite (fun _ => Yields.pure trivial) (fun _ => ?_)
      exact Yields.ite (fun _ => Yields.pure trivial) (fun _ => Yields.pure trivial)
    · refine Yields.succ (fun k => R06_Kernel_Kind.eq_2 ..) ?_
      refine Yields.ite (fun _ => Yields.pure trivial) (fun _ => ?_)
      refine Yields.ite (fun h2 => ?_) (fun _ => Yields.pure trivial)
      exact Yields.bind (pi (by simpa using h2) true) (fun _ _ => Yields.pure trivial)

theorem classOf_y {t : Tm} (ht : Pr t) : Yields (fun k => R06_Kernel_Class k ⟨sig, []⟩ t) (fun _ => True) := by
  have hp := proper_small ht
  have hc : ctxB [] := ⟨by simp, by simp⟩
  refine Yields.succ (fun k => R06_Kernel_Class.eq_2 ..) ?_
  refine Yields.bind (Ev.is (split_ev hp.1 (by omega))) (fun y _ => ?_)
  refine Yields.ite (fun _ => ?_) (fun _ => ?_)
  · exact Yields.bind (type_y sig hsig t.count [] t hc ht (Nat.le_refl _)).2 (fun _ _ => Yields.pure trivial)
  · exact Yields.bind (type_y sig hsig t.count [] t hc ht (Nat.le_refl _)).1 (fun _ _ => Yields.pure trivial)
end

theorem signature_y (sig : List Dc) (hsig : ∀ x ∈ sig, Pr x.cls) (hb : sig.length ≤ 1000) : Yields (fun k => R06_Signature k sig) (fun _ => True) := by
  have loop : ∀ (p i : Nat), p = sig.length - i → i ≤ sig.length → Yields (fun k => R06_Signature_L1 k sig (i : Int)) (fun _ => True) := by
    intro p
    induction p with
    | zero =>
      intro i hq hi
      refine Yields.succ (fun k => R06_Signature_L1.eq_2 ..) ?_
      refine Yields.ite (fun h => ?_) (fun _ => Yields.pure trivial)
      simp [Dc.encL_length] at h; omega
    | succ p ihp =>
      intro i hq hi
      refine Yields.succ (fun k => R06_Signature_L1.eq_2 ..) ?_
      refine Yields.ite (fun _ => ?_) (fun _ => Yields.pure trivial)
      obtain ⟨x, hx, hxm, _⟩ := idx_of (show i < sig.length by omega)
      refine Yields.some hx ?_
      refine Yields.need (by simp [Dc.encL_length]; omega) ?_
      rw [Int.toNat_natCast]
      refine Yields.bind (classOf_y (sig.take i) (fun y hy => hsig y (List.mem_of_mem_take hy)) (hsig x hxm)) (fun y _ => ?_)
      refine Yields.ite (fun _ => Yields.pure trivial) (fun _ => ?_)
      rw [wrapS (by omega)]
      exact ihp (i + 1) (by omega) (by omega)
  refine Yields.succ (fun k => R06_Signature.eq_2 ..) ?_
  exact loop _ 0 rfl (Nat.zero_le _)

/-! sizes of any terms whose lists are short -/
mutual
/-- No list in it is longer than 2^60. -/
def shT : Tm → Prop
  | .mk _ _ _ args => args.length ≤ 1152921504606846976 ∧ shTL args
def shTL : List Tm → Prop
  | [] => True
  | s :: r => shT s ∧ shTL r
 end
theorem shTL_mem : ∀ {l : List Tm} {s : Tm}, shTL l → s ∈ l → shT s
  | _ :: r, s, h, hs => by
    simp only [shTL] at h
    rcases List.mem_cons.1 hs with e | e
    · subst e; exact h.1
    · exact shTL_mem h.2 e
theorem shT_args {s : Tm} (h : shT s) : s.args.length ≤ 1152921504606846976 ∧ shTL s.args := by cases s; exact h
mutual
theorem shT_of : ∀ (t : Tm), okD t.enc → shT t
  | .mk o h n us, hk => by
    simp only [Tm.enc, okD, okL] at hk
    simp only [shT]
    exact ⟨by have := hk.2.2.2.1.1; rwa [Tm.encL_length] at this, shTL_of us hk.2.2.2.1.2⟩
theorem shTL_of : ∀ (us : List Tm), okL (Tm.encL us) → shTL us
  | [], _ => trivial
  | u :: us, hk => by
    simp only [Tm.encL, okL] at hk
    exact ⟨shT_of u hk.1, shTL_of us hk.2⟩
 end

theorem nodes_y (t : Tm) : shT t → ∀ m : Int, Yields (fun k => R03_nodes k t m) (fun _ => True) := by
  induction t using Tm.ind with
  | h t ih =>
    intro ht m
    obtain ⟨hl, hb⟩ := shT_args ht
    have loop : ∀ (q i : Nat) (c : Int), q = t.args.length - i → i ≤ t.args.length → Yields (fun k => R03_nodes_L1 k t m c (i : Int)) (fun _ => True) := by
      intro q
      induction q with
      | zero =>
        intro i c hq hi
        refine Yields.succ (fun k => R03_nodes_L1.eq_2 ..) ?_
        refine Yields.ite (fun h => ?_) (fun _ => Yields.pure trivial)
        simp [Tm.encL_length] at h; omega
      | succ q ihq =>
        intro i c hq hi
        refine Yields.succ (fun k => R03_nodes_L1.eq_2 ..) ?_
        refine Yields.ite (fun _ => ?_) (fun _ => Yields.pure trivial)
        obtain ⟨x, hx, hxm, _⟩ := idx_of (show i < t.args.length by omega)
        refine Yields.some hx ?_
        refine Yields.bind (ih x hxm (shTL_mem hb hxm) _) (fun y _ => ?_)
        rw [wrapS (by omega)]
        exact ihq (i + 1) _ (by omega) (by omega)
    refine Yields.succ (fun k => R03_nodes.eq_2 ..) ?_
    exact loop _ 0 _ rfl (Nat.zero_le _)

theorem depth_y (t : Tm) : shT t → Yields (fun k => R03_Depth k t) (fun _ => True) := by
  induction t using Tm.ind with
  | h t ih =>
    intro ht
    obtain ⟨hl, hb⟩ := shT_args ht
    have loop : ∀ (q i : Nat) (c : Int), q = t.args.length - i → i ≤ t.args.length → Yields (fun k => R03_Depth_L1 k t c (i : Int)) (fun _ => True) := by
      intro q
      induction q with
      | zero =>
        intro i c hq hi
        refine Yields.succ (fun k => R03_Depth_L1.eq_2 ..) ?_
        refine Yields.ite (fun h => ?_) (fun _ => Yields.pure trivial)
        simp [Tm.encL_length] at h; omega
      | succ q ihq =>
        intro i c hq hi
        refine Yields.succ (fun k => R03_Depth_L1.eq_2 ..) ?_
        refine Yields.ite (fun _ => ?_) (fun _ => Yields.pure trivial)
        obtain ⟨x, hx, hxm, _⟩ := idx_of (show i < t.args.length by omega)
        refine Yields.some hx ?_
        refine Yields.bind (ih x hxm (shTL_mem hb hxm)) (fun y _ => ?_)
        rw [wrapS (by omega)]
        exact ihq (i + 1) _ (by omega) (by omega)
    refine Yields.succ (fun k => R03_Depth.eq_2 ..) ?_
    exact loop _ 0 _ rfl (Nat.zero_le _)

theorem size_y {t : Tm} (ht : shT t) : Yields (fun k => R03_Size k t) (fun _ => True) := by
  refine Yields.succ (fun k => R03_Size.eq_2 ..) ?_
  exact Yields.bind (nodes_y t ht _) (fun _ _ => Yields.bind (depth_y t ht) (fun _ _ => Yields.pure trivial))

/-- What is known of a signature's lists. -/
def sigB (sig : List Dc) : Prop := sig.length ≤ 1152921504606846976 ∧ ∀ d ∈ sig, shT d.cls

end Go.Proofs.YtogicnodmgdnbaaGreatDoor
end

/-! EvP -/
section
namespace Go.Proofs.YtogicnodmgdnbaaGreatDoor
open Go.Tr Go
set_option linter.unusedVariables false
set_option linter.unusedSimpArgs false
set_option maxRecDepth 10000

theorem getDrop {α : Type} {l : List α} {i : Nat} {u : α} {ts : List α} (hd : l.drop i = u :: ts) : l[i]? = some u := by
  have := congrArg (fun l => l[0]?) hd
  simpa using this
theorem dropDrop {α : Type} {l : List α} {i : Nat} {u : α} {ts : List α} (hd : l.drop i = u :: ts) : l.drop (i + 1) = ts := by
  rw [← List.drop_drop, hd]; rfl

theorem index_y (l : List Int) (v : Int) (hl : l.length ≤ 1000000) : ∀ (ts : List Int) (i : Nat), l.drop i = ts → i + ts.length = l.length → Yields (fun n => slices_Index_L1 n l v (i : Int)) (fun r => decide (r ≥ 0) = ts.any (fun x => v == x))
  | [], i, hd, hi => by
    refine Yields.succ (fun k => slices_Index_L1.eq_2 ..) ?_
    simp only [List.length_nil, Nat.add_zero] at hi
    refine Yields.ite (fun h => by exfalso; simp [hi] at h) (fun _ => Yields.pure rfl)
  | x :: ts, i, hd, hi => by
    refine Yields.succ (fun k => slices_Index_L1.eq_2 ..) ?_
    simp only [List.length_cons] at hi
    refine Yields.ite (fun _ => ?_) (fun h => by exfalso; simp at h; omega)
    refine Yields.some (idx_get (getDrop hd)) ?_
    refine Yields.ite (fun h => ?_) (fun h => ?_)
    · refine Yields.pure ?_
      simp only [List.any_cons, h, Bool.true_or]
      simp
    · simp only [List.any_cons, h, Bool.false_or]
      rw [wrapS (by omega)]
      exact index_y l v hl ts (i + 1) (dropDrop hd) (by omega)

theorem contains_ev (l : List Int) (v : Int) (hl : l.length ≤ 1000000) : Ev (fun n => slices_Contains n l v) (l.any (fun x => v == x)) := by
  refine Yields.ev ?_
  refine Yields.succ (fun k => slices_Contains.eq_2 ..) ?_
  refine Yields.bind (q := fun r => decide (r ≥ 0) = l.any (fun x => v == x)) ?_ (fun r hr => Yields.pure hr)
  refine Yields.succ (fun k => slices_Index.eq_2 ..) ?_
  exact index_y l v hl l 0 rfl (by simp)

/-! raw expressions -/
end Go.Proofs.YtogicnodmgdnbaaGreatDoor
end

/-! EvQ -/
section
namespace Go.Proofs.YtogicnodmgdnbaaGreatDoor
open Go.Tr Go
set_option linter.unusedVariables false
set_option linter.unusedSimpArgs false
set_option maxRecDepth 10000

/-! a name in a signature -/
def fnd (s : ByteArray) : List Dc → Nat → Int
  | [], _ => -1
  | d :: l, i => if d.name.toList == s.toList then (i : Int) else fnd s l (i + 1)
theorem find_evL (sig : List Dc) (s : ByteArray) (hl : sig.length ≤ 1000) : ∀ (ts : List Dc) (i : Nat), sig.drop i = ts → i + ts.length = sig.length → Ev (fun k => sign_Find_L1 k sig s (i : Int)) (cond (decide (fnd s ts i < 0)) (0, 6) (fnd s ts i, 0))
  | [], i, hd, hi => by
    refine Ev.succ (fun k => sign_Find_L1.eq_2 ..) ?_
    simp only [List.length_nil, Nat.add_zero] at hi
    exact Ev.f (by simp [Dc.encL_length, hi]) (Ev.pure _)
  | d :: ts, i, hd, hi => by
    refine Ev.succ (fun k => sign_Find_L1.eq_2 ..) ?_
    simp only [List.length_cons] at hi
    refine Ev.t (by simp [Dc.encL_length]; omega) ?_
    refine Ev.some (idx_get (getDrop hd)) ?_
    refine Ev.ite (fun h => ?_) (fun h => ?_)
    · have e : fnd s (d :: ts) i = i := by simp only [fnd]; rw [if_pos h]
      have : decide ((i : Int) < 0) = false := by simp
      rw [e, this]
      exact Ev.pure _
    · have e : fnd s (d :: ts) i = fnd s ts (i + 1) := by simp only [fnd]; rw [if_neg (by rw [h]; simp)]
      rw [e, wrapS (by omega)]
      exact find_evL sig s hl ts (i + 1) (dropDrop hd) (by omega)

theorem find_ev (sig : List Dc) (s : ByteArray) (hs : sigOK sig = true) : Ev (fun k => sign_Find k sig s) (cond (decide (fnd s sig 0 < 0)) (0, 6) (fnd s sig 0, 0)) := by
  refine Ev.succ (fun k => sign_Find.eq_2 ..) ?_
  refine (check_ev sig).bind ?_
  rw [if_pos hs]
  refine Ev.f rfl ?_
  exact find_evL sig s (by have := (sigOK_proper hs).1; omega) sig 0 rfl (by simp)

theorem itoa_size (n : Int) (h0 : 0 ≤ n) (h1 : n ≤ 99) : (itoaF n).size ≤ 2 := by
  have key : ∀ k : Fin 100, (itoaF (k.val : Int)).size ≤ 2 := by decide +kernel
  have := key ⟨n.toNat, by omega⟩
  rw [show ((n.toNat : Nat) : Int) = n by omega] at this
  exact this

/-! metavariables -/
end Go.Proofs.YtogicnodmgdnbaaGreatDoor
end

/-! EvR -/
section
namespace Go.Proofs.YtogicnodmgdnbaaGreatDoor
open Go.Tr Go
set_option linter.unusedVariables false
set_option linter.unusedSimpArgs false
set_option maxRecDepth 10000

mutual
theorem low_fv (x : Int) : ∀ (t : Tm) (k : Int), okAll t = true → 0 ≤ k → 0 ≤ x → (lowF t (x + k) (x + k) = true ↔ x ∈ fvF t k)
  | .mk o h n us, k, hok, hk, hx => by
    simp only [okAll, Bool.and_eq_true] at hok
    simp only [lowF, fvF, List.mem_append, Bool.or_eq_true]
    rw [low_fvL x o us 0 k hok.2 hk hx]
    refine or_congr ?_ Iff.rfl
    by_cases h1 : o = 4 ∧ h = 1 ∧ n ≥ k
    · rw [if_pos h1]
      obtain ⟨e1, e2, e3⟩ := h1
      subst e1 e2
      simp; omega
    · rw [if_neg h1]
      simp only [List.not_mem_nil, iff_false, Bool.and_eq_true, beq_iff_eq, decide_eq_true_eq]
      rintro ⟨⟨⟨e1, e2⟩, e3⟩, e4⟩
      exact h1 ⟨e1, e2, by omega⟩
theorem low_fvL (x : Int) : ∀ (o : Int) (us : List Tm) (i : Nat) (k : Int), okAllL us = true → 0 ≤ k → 0 ≤ x → (lowL o us i (x + k) (x + k) = true ↔ x ∈ fvL o us i k)
  | o, [], i, k, _, _, _ => by simp [lowL, fvL]
  | o, u :: us, i, k, hok, hk, hx => by
    simp only [okAllL, Bool.and_eq_true] at hok
    have hu := under_le o i
    simp only [lowL, fvL, List.mem_append, Bool.or_eq_true]
    rw [low_fvL x o us (i + 1) k hok.2 hk hx]
    have e : x + k + under o i = x + (k + under o i) := by omega
    rw [e, low_fv x u (k + under o i) hok.1 (by omega) hx]
 end

/-! moved terms -/

end Go.Proofs.YtogicnodmgdnbaaGreatDoor
end

/-! MoA -/
section
namespace Go.Proofs.YtogicnodmgdnbaaGreatDoor
open Go.Tr Go
set_option linter.unusedVariables false
set_option linter.unusedSimpArgs false
set_option maxRecDepth 10000

set_option maxRecDepth 100000 in
theorem awake14_at (m : Nat) : W14_awake (m + 60) = some true := by kernel_rfl
theorem awake14_ev : Ev (fun k => W14_awake k) true := ⟨60, fun n hn => by
  obtain ⟨m, rfl⟩ : ∃ m, n = m + 60 := ⟨n - 60, by omega⟩
  exact awake14_at m⟩
end Go.Proofs.YtogicnodmgdnbaaGreatDoor
end

/-! MoB -/
section
namespace Go.Proofs.YtogicnodmgdnbaaGreatDoor
open Go.Tr Go
set_option linter.unusedVariables false
set_option linter.unusedSimpArgs false
set_option maxRecDepth 10000

/-! which domains are depended on: only how many there are counts -/
/-- A domain of a proper class is proper. -/
theorem spl_dom : ∀ (n : Nat) (t : Tm) (l : List Tm), Pr t → t.height ≤ n → (∀ a ∈ l, Pr a) → ∀ a ∈ (spl n t l).1, Pr a
  | 0, t, l, hp, hn, hl, a, ha => hl a ha
  | n + 1, t, l, hp, hn, hl, a, ha => by
    simp only [spl] at ha
    by_cases h : t.op = 2
    · rw [if_pos h] at ha
      obtain ⟨x, y, e, _, hb, _, hh, hc⟩ := okAll_two (proper_small hp).1 h
      simp only [e] at ha
      refine spl_dom n y (l ++ [x]) (pr_arg hp (by rw [e]; simp)) (by omega) ?_ a ha
      intro z hz
      simp only [List.mem_append, List.mem_singleton] at hz
      rcases hz with hz | rfl
      · exact hl z hz
      · exact pr_arg hp (by rw [e]; simp)
    · rw [if_neg h] at ha; exact hl a ha
theorem split_dom {t : Tm} (hp : Pr t) : ∀ a ∈ (split t).1, Pr a := spl_dom _ t [] hp (Nat.le_refl _) (by simp)

/-- A variable occurs. -/
theorem freeL_anyX {t : Tm} (hp : isProper t = true) {x : Int} (hx : 0 ≤ x) : (freeL t).any (fun y => x == y) = lowF t x x := by
  obtain ⟨hok, hh, _⟩ := proper_small hp
  rw [freeL, if_pos hp, Bool.eq_iff_iff]
  have h1 := low_fv x t 0 hok (by omega) hx
  rw [Int.add_zero] at h1
  rw [h1, List.any_eq_true]
  have h2 : ∀ y, y ∈ numsOf freeOf t ↔ y ∈ fvF t 0 := by
    intro y
    rw [numsOf, sorted_mem, walk_mem y t 0 [] hok (by omega) (by omega)]
    simp
  constructor
  · rintro ⟨y, hy, e⟩
    rw [beq_iff_eq] at e
    subst e
    exact (h2 _).1 hy
  · intro h
    exact ⟨x, (h2 _).2 h, by simp⟩
theorem occursX_ev {t : Tm} (hp : isProper t = true) {x : Int} (hx : 0 ≤ x) : Ev (fun n => term_Occurs n t x) (lowF t x x, 0) := by
  refine Ev.succ (fun k => term_Occurs.eq_2 ..) ?_
  have hlen : (freeL t).length ≤ 1000000 := by
    have h1 := walkF_length freeOf t [] 0
    have h2 := (proper_small hp).2.2
    rw [freeL, if_pos hp]
    simp only [numsOf, sorted, List.length_mergeSort, List.length_map]
    simp only [List.length_nil] at h1
    omega
  refine (contains_ev (freeL t) x hlen).bind ((Ev.pure _).eq ?_)
  rw [freeL_anyX hp hx, freeE, if_pos hp]
end Go.Proofs.YtogicnodmgdnbaaGreatDoor
end

/-! MoC -/
section
namespace Go.Proofs.YtogicnodmgdnbaaGreatDoor
open Go.Tr Go
set_option linter.unusedVariables false
set_option linter.unusedSimpArgs false
set_option maxRecDepth 10000

/-- A later domain with a sign in which a variable occurs. -/
def stB (s : Int) (i : Nat) : List Tm → List Int → Nat → Bool
  | d :: ds, w :: ws, j => (lowF d ((j : Int) - 1 - i) ((j : Int) - 1 - i) && w == s) || stB s i ds ws (j + 1)
  | _, _, _ => false
def sgnI (i : Nat) (ds : List Tm) (ws : List Int) (j : Nat) : Int := if stB 1 i ds ws j = true then 1 else if stB 2 i ds ws j = true then 2 else 3

theorem stands_ev {dom : List Tm} {signs written : List Int} {imp i : Nat} (hd : ∀ a ∈ dom, Pr a) (hl : dom.length ≤ 1000) (hi : i < imp) (hs : ∀ m, signs[imp + m]? = written[m]?) (s : Int) :
    ∀ (ts : List Tm) (ws : List Int) (j : Nat), dom.drop j = ts → written.drop (j - imp) = ws → imp ≤ j → j + ts.length = dom.length → ts.length = ws.length → Ev (fun k => mode_stands_L1 k dom (i : Int) signs s (j : Int)) (stB s i ts ws j) := by
  intro ts
  induction ts with
  | nil =>
    intro ws j h1 h2 h3 h4 h5
    simp only [List.length_nil, Nat.add_zero] at h4
    refine Ev.succ (fun k => mode_stands_L1.eq_2 ..) ?_
    refine Ev.f (by simp [Tm.encL_length]; omega) ((Ev.pure _).eq ?_)
    simp [stB]
  | cons t ts ih =>
    intro ws j h1 h2 h3 h4 h5
    cases ws with
    | nil => simp at h5
    | cons w ws =>
      simp only [List.length_cons] at h4 h5
      have ht := getDrop h1
      have hw := getDrop h2
      have hp := hd t (List.mem_of_getElem? ht)
      refine Ev.succ (fun k => mode_stands_L1.eq_2 ..) ?_
      refine Ev.t (by simp [Tm.encL_length]; omega) (Ev.some (idx_get ht) ?_)
      rw [wrap_i64 (n := (j : Int) - 1) (by omega) (by omega), wrap_i64 (n := (j : Int) - 1 - i) (by omega) (by omega), wrapS (by omega)]
      refine (occursX_ev hp (by omega)).bind ?_
      simp only [stB]
      have hrec := ih ws (j + 1) (dropDrop h1) (by rw [show j + 1 - imp = (j - imp) + 1 by omega]; exact dropDrop h2) (by omega) (by omega) (by omega)
      refine Ev.ite (fun h => ?_) (fun h => ?_)
      · have hsg : idx signs (j : Int) = some w := by
          rw [idx_nat, show j = imp + (j - imp) by omega, hs]; exact hw
        refine Ev.some hsg ?_
        refine Ev.ite (fun h' => ?_) (fun h' => ?_)
        · rw [h, h']; exact Ev.pure _
        · rw [h, h', Bool.and_false, Bool.false_or]; exact hrec
      · rw [h, Bool.false_and, Bool.false_or]; exact hrec

end Go.Proofs.YtogicnodmgdnbaaGreatDoor
end

/-! MoD -/
section
namespace Go.Proofs.YtogicnodmgdnbaaGreatDoor
open Go.Tr Go
set_option linter.unusedVariables false
set_option linter.unusedSimpArgs false
set_option maxRecDepth 10000

theorem sigOK_impM {sig : List Dc} (h : sigOK sig = true) : ∀ d ∈ sig, 0 ≤ d.implicit ∧ d.implicit ≤ ((split d.cls).1.length : Int) := by
  have key : ∀ (pre post : List Dc), sigG pre post = true → ∀ d ∈ post, 0 ≤ d.implicit ∧ d.implicit ≤ ((split d.cls).1.length : Int) := by
    intro pre post
    induction post generalizing pre with
    | nil => intro _ d hd; cases hd
    | cons x post ih =>
      intro h d hd
      simp only [sigG, Bool.and_eq_true] at h
      rcases List.mem_cons.1 hd with e | e
      · subst e
        have h1 := h.1
        simp only [declOK, Bool.and_eq_true, decide_eq_true_eq] at h1
        exact ⟨h1.2.1.2, h1.2.2⟩
      · exact ih _ h.2 d e
  simp only [sigOK, Bool.and_eq_true] at h
  exact key [] sig h.2

theorem set_mid {α : Type} (a b : α) (r : List α) : ∀ l : List α, (l ++ a :: r).set l.length b = l ++ b :: r
  | [] => rfl
  | x :: l => by simp [set_mid a b r l]
theorem get_past {α : Type} (w : List α) (m : Nat) (l : List α) : (l ++ w)[l.length + m]? = w[m]? := by
  rw [List.getElem?_append_right (by omega)]; congr 1; omega

section
variable {d : Dc} {written : List Int} {imp : Nat} {fam : Int}
def dF (d : Dc) (written : List Int) (imp i : Nat) : Int := sgnI i ((split d.cls).1.drop imp) written imp

theorem standsM (hp : Pr d.cls) (hl : (split d.cls).1.length = imp + written.length) {i : Nat} (hi : i < imp) {l : List Int} {b : Int} {m : Nat} (hlen : l.length = i) (hm : i + 1 + m = imp) (s : Int) :
    Ev (fun k => mode_stands k (split d.cls).1 (l ++ b :: (List.replicate m 0 ++ written)) (i : Int) (imp : Int) s) (stB s i ((split d.cls).1.drop imp) written imp) := by
  have hsf := (split_facts hp).2.2.2.2
  refine Ev.succ (fun k => mode_stands.eq_2 ..) ?_
  refine stands_ev (written := written) (imp := imp) (split_dom hp) (by omega) hi ?_ s ((split d.cls).1.drop imp) written imp rfl (by simp) (Nat.le_refl _) (by simp; omega) (by simp; omega)
  intro q
  have := get_past written q (l ++ b :: List.replicate m 0)
  have e : (l ++ b :: List.replicate m 0).length = imp := by simp; omega
  rw [e] at this
  rw [← this]
  simp

theorem readL3 (hp : Pr d.cls) (him : d.implicit = (imp : Int)) (hl : (split d.cls).1.length = imp + written.length) {i : Nat} (hi : i < imp) {l : List Int} {m : Nat} (hlen : l.length = i) (hm : i + 1 + m = imp) {x : Tm} {X : Md × Int}
    (hX : Ev (fun k => mode_Read_2_L2 k d ((split d.cls).1, x) ⟨fam, l ++ dF d written imp i :: (List.replicate m 0 ++ written)⟩ ((i + 1 : Nat) : Int)) X) :
    Ev (fun k => mode_Read_2_L3 k ((split d.cls).1, x) (i : Int) d ⟨fam, l ++ 3 :: (List.replicate m 0 ++ written)⟩ 0) X := by
  have hsf := (split_facts hp).2.2.2.2
  have set1 : ∀ (a b : Int), (l ++ a :: (List.replicate m 0 ++ written)).set ((i : Int)).toNat b = l ++ b :: (List.replicate m 0 ++ written) := by
    intro a b
    have := set_mid a b (List.replicate m 0 ++ written) l
    rw [hlen] at this
    simpa using this
  have lens : ∀ (a : Int), decide ((0 : Int) ≤ (i : Int) ∧ ((i : Int)).toNat < (List.map (D.int .i64) (l ++ a :: (List.replicate m 0 ++ written))).length) = true := by
    intro a
    simp; omega
  have last : ∀ (v : Int), v = dF d written imp i → Ev (fun k => mode_Read_2_L3 k ((split d.cls).1, x) (i : Int) d ⟨fam, l ++ v :: (List.replicate m 0 ++ written)⟩ 2) X := by
    intro v hv
    subst hv
    refine Ev.succ (fun k => mode_Read_2_L3.eq_2 ..) ?_
    refine Ev.f (by simp) ?_
    rw [wrapS (by omega)]
    exact hX
  have one : ∀ (v : Int), v = (if stB 2 i ((split d.cls).1.drop imp) written imp = true then 2 else 3) → Ev (fun k => mode_Read_2_L3 k ((split d.cls).1, x) (i : Int) d ⟨fam, l ++ v :: (List.replicate m 0 ++ written)⟩ 1) X := by
    intro v hv
    refine Ev.succ (fun k => mode_Read_2_L3.eq_2 ..) ?_
    refine Ev.t (by simp) (Ev.some (x := 1) rfl ?_)
    rw [him]
    refine (standsM hp hl hi hlen hm 1).bind ?_
    refine Ev.ite (fun h => ?_) (fun h => ?_)
    · refine Ev.need (lens v) ?_
      simp only [set1]
      refine last 1 ?_
      rw [dF, sgnI, if_pos h]
    · refine last v ?_
      rw [dF, sgnI, if_neg (by rw [h]; decide), hv]
  refine Ev.succ (fun k => mode_Read_2_L3.eq_2 ..) ?_
  refine Ev.t (by simp) (Ev.some (x := 2) rfl ?_)
  rw [him]
  refine (standsM hp hl hi hlen hm 2).bind ?_
  refine Ev.ite (fun h => ?_) (fun h => ?_)
  · refine Ev.need (lens 3) ?_
    simp only [set1]
    exact one 2 (by rw [if_pos h])
  · exact one 3 (by rw [if_neg (by rw [h]; decide)])

theorem readL2 (hp : Pr d.cls) (him : d.implicit = (imp : Int)) (hl : (split d.cls).1.length = imp + written.length) (x : Tm) :
    ∀ (m i : Nat), i + m = imp → Ev (fun k => mode_Read_2_L2 k d ((split d.cls).1, x) ⟨fam, (List.range i).map (dF d written imp) ++ (List.replicate m 0 ++ written)⟩ (i : Int)) (⟨fam, (List.range imp).map (dF d written imp) ++ written⟩, 0) := by
  have hsf := (split_facts hp).2.2.2.2
  intro m
  induction m with
  | zero =>
    intro i hi
    rw [Nat.add_zero] at hi
    subst hi
    refine Ev.succ (fun k => mode_Read_2_L2.eq_2 ..) ?_
    refine Ev.f (by simp; omega) ((Ev.pure _).eq ?_)
    simp
  | succ m ih =>
    intro i hi
    have hlen : ((List.range i).map (dF d written imp)).length = i := by simp
    refine Ev.succ (fun k => mode_Read_2_L2.eq_2 ..) ?_
    refine Ev.t (by simp; omega) (Ev.need (by simp; omega) ?_)
    have e : ((List.range i).map (dF d written imp) ++ (List.replicate (m + 1) 0 ++ written)).set ((i : Int)).toNat 3 = (List.range i).map (dF d written imp) ++ 3 :: (List.replicate m 0 ++ written) := by
      have := set_mid 0 3 (List.replicate m 0 ++ written) ((List.range i).map (dF d written imp))
      rw [hlen] at this
      rw [List.replicate_succ, List.cons_append, Int.toNat_natCast]
      exact this
    simp only [e]
    refine readL3 hp him hl (by omega) hlen (by omega) ?_
    have := ih (i + 1) (by omega)
    rw [List.range_succ, List.map_append, List.append_assoc] at this
    exact this

end
end Go.Proofs.YtogicnodmgdnbaaGreatDoor
end

/-! MoE -/
section
namespace Go.Proofs.YtogicnodmgdnbaaGreatDoor
open Go.Tr Go
set_option linter.unusedVariables false
set_option linter.unusedSimpArgs false
set_option maxRecDepth 10000

theorem ba_extM {s t : ByteArray} (h : s.data.toList = t.data.toList) : s = t := by
  cases s; cases t
  simp only [ByteArray.mk.injEq]
  exact Array.toList_inj.1 h
theorem ba_eqM {x s : ByteArray} (h : (x.toList == s.toList) = true) : x = s := by
  have : x.toList = s.toList := by simpa using h
  rw [ByteArray.toList_eq, ByteArray.toList_eq] at this
  exact ba_extM this
theorem sign3 {s : ByteArray} (h : hasS s [plusB, minusB, starB] = true) : s = plusB ∨ s = minusB ∨ s = starB := by
  unfold hasS at h
  have h := of_decide_eq_true h
  simp only [idxS] at h
  by_cases h1 : (s.toList == plusB.toList) = true
  · exact .inl (ba_eqM h1)
  by_cases h2 : (s.toList == minusB.toList) = true
  · exact .inr (.inl (ba_eqM h2))
  by_cases h3 : (s.toList == starB.toList) = true
  · exact .inr (.inr (ba_eqM h3))
  · exfalso
    rw [if_neg h1, if_neg h2, if_neg h3] at h
    simp at h

theorem same_evL (l : List Int) (hl : l.length ≤ 1000000) : ∀ (ts : List Int) (i : Nat), l.drop i = ts → i + ts.length = l.length → Ev (fun k => W14_ints_L1 k l l (i : Int)) true := by
  intro ts
  induction ts with
  | nil =>
    intro i hd hi
    simp only [List.length_nil, Nat.add_zero] at hi
    refine Ev.succ (fun k => W14_ints_L1.eq_2 ..) ?_
    exact Ev.f (by simp [hi]) (Ev.pure _)
  | cons u ts ih =>
    intro i hd hi
    simp only [List.length_cons] at hi
    have hu := getDrop hd
    refine Ev.succ (fun k => W14_ints_L1.eq_2 ..) ?_
    refine Ev.t (by simp; omega) (Ev.some (idx_get hu) (Ev.some (idx_get hu) (Ev.f (by simp) ?_)))
    rw [wrapS (by omega)]
    exact ih (i + 1) (dropDrop hd) (by omega)
theorem same14_ev (m : Md) (hl : m.signs.length ≤ 1000000) : Ev (fun k => W14_same k m m) true := by
  refine Ev.succ (fun k => W14_same.eq_2 ..) ?_
  refine Ev.t (by simp) (Ev.bind (x := true) ?_ (Ev.pure _))
  refine Ev.succ (fun k => W14_ints.eq_2 ..) ?_
  exact Ev.f (by simp) (same_evL m.signs hl m.signs 0 rfl (by simp))

/-- Both read the same. -/
def Jm (f g : Nat → Option (Md × Int)) : Prop := ∃ r, Ev f r ∧ Ev g r ∧ r.1.signs.length ≤ 1000000
theorem Jm.no (c : Int) : Jm (fun _ => some ((Md.mk 0 []), c)) (fun _ => some ((Md.mk 0 []), c)) := ⟨_, Ev.pure _, Ev.pure _, by simp⟩

theorem signM {s : ByteArray} (h : hasS s [plusB, minusB, starB] = true) : ((mget (mput (⟨#[42]⟩ : ByteArray) (3 : Int) (mput (⟨#[45]⟩ : ByteArray) 2 (mput (⟨#[43]⟩ : ByteArray) 1 []))) s).getD 0 = if (s.toList == plusB.toList) = true then 1 else if (s.toList == minusB.toList) = true then 2 else 3) := by
  rcases sign3 h with rfl | rfl | rfl <;> decide +kernel

end Go.Proofs.YtogicnodmgdnbaaGreatDoor
end

/-! MiA -/
section
namespace Go.Proofs.YtogicnodmgdnbaaGreatDoor
open Go.Tr Go
set_option linter.unusedVariables false
set_option linter.unusedSimpArgs false
set_option maxRecDepth 10000

/-- What is valid is formed. -/
theorem valid14_y (sig : List Dc) (hs : sigB sig) : Yields (fun k => W14_valid k sig) (fun b => b = true → sigOK sig = true) := by
  obtain ⟨hl, hb⟩ := hs
  have loop : ∀ (q i : Nat) (c : Int), q = sig.length - i → i ≤ sig.length → Yields (fun k => W14_valid_L1 k sig c (i : Int)) (fun b => b = true → sigOK sig = true) := by
    have tail : ∀ c : Int, Yields (fun k => cond (decide (c > 3000)) (some (false)) ((R05_Formed k sig).bind (fun v22 => cond (!v22) (some (false)) ((R06_Signature k sig).bind (fun v25 => some ((v25.2 == 0))))))) (fun b => b = true → sigOK sig = true) := by
      intro c
      refine Yields.ite (fun _ => Yields.pure (by simp)) (fun _ => ?_)
      refine Yields.bind (Ev.is (formedSig_ev sig)) (fun b hb => ?_)
      subst hb
      refine Yields.ite (fun _ => Yields.pure (by simp)) (fun h => ?_)
      obtain ⟨h1, h2⟩ := sigOK_proper (nb' h)
      exact Yields.bind (signature_y sig h2 (by omega)) (fun _ _ => Yields.pure (fun _ => nb' h))
    intro q
    induction q with
    | zero =>
      intro i c hq hi
      refine Yields.succ (fun k => W14_valid_L1.eq_2 ..) ?_
      refine Yields.ite (fun h => ?_) (fun _ => tail c)
      simp [Dc.encL_length] at h; omega
    | succ q ihq =>
      intro i c hq hi
      refine Yields.succ (fun k => W14_valid_L1.eq_2 ..) ?_
      refine Yields.ite (fun _ => ?_) (fun _ => tail c)
      obtain ⟨x, hx, hxm, _⟩ := idx_of (show i < sig.length by omega)
      refine Yields.some hx ?_
      refine Yields.bind (size_y (hb x hxm)) (fun y _ => ?_)
      rw [wrapS (by omega)]
      exact ihq (i + 1) _ (by omega) (by omega)
  refine Yields.succ (fun k => W14_valid.eq_2 ..) ?_
  exact loop _ 0 _ rfl (Nat.zero_le _)

/-! a directive of a mode -/
abbrev modeB : ByteArray := ⟨#[109, 111, 100, 101]⟩
abbrev rw0 : Rw := ⟨0, ByteArray.empty, []⟩
abbrev it0 : It := ⟨ByteArray.empty, ByteArray.empty, rw0, []⟩
def sgOf (v : Int) : ByteArray := if v = 1 then plusB else if v = 2 then minusB else starB
def is3 (v : Int) : Prop := v = 1 ∨ v = 2 ∨ v = 3
abbrev signP (q : Int × ByteArray) : Pt := ⟨2, sgOf q.1, q.2, 0, rw0, []⟩
abbrev headP (d : Dc) : Pt := ⟨1, ByteArray.empty, d.name, 0, rw0, []⟩
abbrev itW (d : Dc) (qs : List (Int × ByteArray)) : It := ⟨modeB, ByteArray.empty, rw0, headP d :: qs.map signP⟩
def nmOf (j : Nat) : ByteArray := (⟨#[88]⟩ : ByteArray) ++ itoaF (((j + 1 : Nat)) : Int)
def okQ (q : Int × ByteArray) : Prop := is3 q.1 ∧ namedF q.2 = true

theorem sg_has {v : Int} (h : is3 v) : hasS (sgOf v) [plusB, minusB, starB] = true := by
  rcases h with rfl | rfl | rfl <;> decide +kernel
theorem nm_named (j : Nat) (h : j < 99) : namedF (nmOf j) = true ∧ (nmOf j).size ≤ 3 := by
  have key : ∀ k : Fin 99, namedF (nmOf k.val) = true ∧ (nmOf k.val).size ≤ 3 := by decide +kernel
  exact key ⟨j, h⟩
theorem raw0_ok : emptyRaw rw0 = true := by decide +kernel
theorem em_ok : (ByteArray.empty.toList == emB.toList) = true := by decide +kernel
theorem okPt_sign {q : Int × ByteArray} (h : okQ q) : okPt (signP q) = true := by
  rw [okPt2 rfl, Bool.and_eq_true, Bool.and_eq_true, Bool.and_eq_true, Bool.and_eq_true]
  exact ⟨⟨⟨⟨sg_has h.1, h.2⟩, rfl⟩, raw0_ok⟩, rfl⟩
theorem okPt_head {d : Dc} (h : namedF d.name = true) : okPt (headP d) = true := by
  rw [okPt1 rfl, Bool.and_eq_true, Bool.and_eq_true, Bool.and_eq_true, Bool.and_eq_true]
  exact ⟨⟨⟨⟨em_ok, rfl⟩, raw0_ok⟩, h⟩, rfl⟩

theorem sigOK_named {sig : List Dc} (h : sigOK sig = true) : ∀ d ∈ sig, namedF d.name = true := by
  have key : ∀ (pre post : List Dc), sigG pre post = true → ∀ d ∈ post, namedF d.name = true := by
    intro pre post
    induction post generalizing pre with
    | nil => intro _ d hd; cases hd
    | cons x post ih =>
      intro h d hd
      simp only [sigG, Bool.and_eq_true] at h
      rcases List.mem_cons.1 hd with e | e
      · subst e
        have h1 := h.1
        simp only [declOK, Bool.and_eq_true] at h1
        simp only [namedF, Bool.or_eq_true, Bool.and_eq_true]
        exact .inr h1.1.1.1.1
      · exact ih _ h.2 d e
  simp only [sigOK, Bool.and_eq_true] at h
  exact key [] sig h.2

theorem sigG_new : ∀ (post pre : List Dc), sigG pre post = true → ∀ d ∈ post, ∀ x ∈ pre, (x.name.toList == d.name.toList) = false := by
  intro post
  induction post with
  | nil => intro pre _ d hd; cases hd
  | cons y post ih =>
    intro pre h d hd x hx
    simp only [sigG, Bool.and_eq_true] at h
    rcases List.mem_cons.1 hd with e | e
    · subst e
      have h1 := h.1
      simp only [declOK, Bool.and_eq_true] at h1
      have h2 := h1.1.2
      rw [Bool.not_eq_true', List.any_eq_false] at h2
      simpa using h2 x hx
    · exact ih _ h.2 d e x (List.mem_append_left _ hx)

theorem fnd_self : ∀ (post pre : List Dc) (i k : Nat) (d : Dc), sigG pre post = true → post[k]? = some d → fnd d.name post i = ((i + k : Nat) : Int) := by
  intro post
  induction post with
  | nil => intro pre i k d _ h; simp at h
  | cons y post ih =>
    intro pre i k d h hk
    have h' := h
    simp only [sigG, Bool.and_eq_true] at h
    cases k with
    | zero =>
      simp at hk
      subst hk
      simp [fnd]
    | succ k =>
      rw [List.getElem?_cons_succ] at hk
      have hne := sigG_new post _ h.2 d (List.mem_of_getElem? hk) y (List.mem_append_right _ (List.mem_singleton.2 rfl))
      rw [fnd, if_neg (by rw [hne]; decide), ih _ (i + 1) k d h.2 hk]
      congr 1; omega
theorem fnd_sig {sig : List Dc} (hs : sigOK sig = true) {n : Int} {d : Dc} (hd : idx sig n = some d) : fnd d.name sig 0 = n := by
  obtain ⟨h0, h1⟩ := idx_some hd
  simp only [sigOK, Bool.and_eq_true] at hs
  rw [fnd_self sig [] 0 n.toNat d hs.2 h1]
  omega

theorem skL_ok : ∀ (l : List Pt), (∀ p ∈ l, okPt p = true ∧ p.parts = []) → okAllL (Pt.skL l) = true ∧ Tm.countL (Pt.skL l) = l.length ∧ (l ≠ [] → Tm.heightL (Pt.skL l) ≤ 1)
  | [], _ => by simp [Pt.skL, okAllL, Tm.countL]
  | p :: l, h => by
    obtain ⟨h1, h2⟩ := h p (List.mem_cons_self ..)
    obtain ⟨i1, i2, i3⟩ := skL_ok l (fun q hq => h q (List.mem_cons_of_mem _ hq))
    have e : p.sk = .mk 4 1 0 [] := by rw [Pt.sk_eq, h1, h2]; rfl
    have hl : l = [] ∨ Tm.heightL (Pt.skL l) ≤ 1 := by
      by_cases hn : l = []
      · exact .inl hn
      · exact .inr (i3 hn)
    refine ⟨?_, ?_, fun _ => ?_⟩
    · simp only [Pt.skL, okAllL, i1, e]; decide
    · simp only [Pt.skL, Tm.countL, i2, e, Tm.count, List.length_cons]; omega
    · simp only [Pt.skL, e, Tm.heightL, Tm.height]
      rcases hl with rfl | hl
      · simp [Pt.skL, Tm.heightL]
      · omega

theorem itW_ok {d : Dc} (hd : namedF d.name = true) {qs : List (Int × ByteArray)} (hq : ∀ q ∈ qs, okQ q) (hl : qs.length ≤ 100) : itemOK (itW d qs) = true := by
  obtain ⟨h1, h2, h3⟩ := skL_ok (headP d :: qs.map signP) (by
    intro p hp
    rcases List.mem_cons.1 hp with e | e
    · subst e; exact ⟨okPt_head hd, rfl⟩
    · obtain ⟨q, hq1, rfl⟩ := List.mem_map.1 e
      exact ⟨okPt_sign (hq q hq1), rfl⟩)
  have h3 := h3 (by simp)
  have hw : ¬ (modeB.toList == emB.toList) = true := by decide +kernel
  have hb : ((isSmallF modeB && (ByteArray.empty.toList == emB.toList)) && emptyRaw rw0) = true := by decide +kernel
  have hc : (properL (Pt.skL (headP d :: qs.map signP)) 1 200).1 = true := by
    rw [properL_iff]
    refine ⟨h1, .inl ?_, .inr ?_⟩
    · rw [h2]; simp; omega
    · omega
  show (if (modeB.toList == emB.toList) = true then _ else (((isSmallF modeB && (ByteArray.empty.toList == emB.toList)) && emptyRaw rw0) && (properL (Pt.skL (headP d :: qs.map signP)) 1 200).1)) = true
  rw [if_neg hw, hb, hc]; rfl

/-! what Read says -/
section
variable {sig : List Dc} {d : Dc} {fam : Int} {imp : Nat}

theorem readW_L1 (hs : sigOK sig = true) (hd : idx sig fam = some d) (hk : kindT d.cls = true) (him : d.implicit = (imp : Int)) (qs : List (Int × ByteArray)) (hq : ∀ q ∈ qs, okQ q) (hl : qs.length ≤ 100) :
    ∀ (ts : List (Int × ByteArray)) (j : Nat), qs.drop j = ts → j + ts.length = qs.length → Ev (fun k => mode_Read_2_L1 k (itW d qs) sig ((qs.take j).map (·.1)) (j : Int)) (if (split d.cls).1.length = imp + qs.length then (⟨fam, (List.range imp).map (dF d (qs.map (·.1)) imp) ++ qs.map (·.1)⟩, 0) else (⟨0, []⟩, 23)) := by
  intro ts
  have hdm : d ∈ sig := List.mem_of_getElem? (idx_some hd).2
  obtain ⟨hsl, hpr⟩ := sigOK_proper hs
  have hp : Pr d.cls := hpr d hdm
  obtain ⟨hok, hh, hc⟩ := proper_small hp
  have hsf := (split_facts hp).2.2.2.2
  obtain ⟨hi0, hi1⟩ := sigOK_impM hs d hdm
  induction ts with
  | nil =>
    intro j hdj hj
    simp only [List.length_nil, Nat.add_zero] at hj
    have hf := find_ev sig d.name hs
    rw [fnd_sig hs hd, decide_eq_false (by have := (idx_some hd).1; omega)] at hf
    have hfa := signFamily_ev hd hok (by omega)
    rw [hk] at hfa
    have hdom := domains_ev hok (by omega)
    have hwr : IntKind.i64.wrap (d.implicit + ((List.map (D.int .i64) (qs.map (·.1))).length : Int)) = d.implicit + (qs.length : Int) := by
      rw [List.length_map, List.length_map]
      exact wrap_i64 (by omega) (by omega)
    rw [hj, List.take_length]
    refine Ev.succ (fun k => mode_Read_2_L1.eq_2 ..) (Ev.f (by simp [Pt.encL_length]) (Ev.some (x := headP d) rfl (hf.bind (Ev.f rfl (hfa.bind (Ev.f rfl ?_))))))
    refine Ev.some hd (hdom.bind (Ev.some hd ?_))
    by_cases hlen : (split d.cls).1.length = imp + qs.length
    · rw [if_pos hlen]
      refine Ev.f ?_ (Ev.need ?_ (Ev.need ?_ ?_))
      · rw [hwr, Tm.encL_length]; simp; omega
      · simp; omega
      · rw [him]; simp; omega
      · rw [him, Int.toNat_natCast]
        exact readL2 (fam := fam) (written := qs.map (·.1)) hp him (by simpa using hlen) (split d.cls).2 imp 0 (by omega)
    · rw [if_neg hlen]
      refine Ev.t ?_ (Ev.pure _)
      rw [hwr, Tm.encL_length]; simp; omega
  | cons q ts ih =>
    intro j hdj hj
    simp only [List.length_cons] at hj
    have hq1 := getDrop hdj
    have hqm := hq q (List.mem_of_getElem? hq1)
    have hp1 : (List.drop (1 : Int).toNat (headP d :: qs.map signP))[j]? = some (signP q) := by
      rw [List.getElem?_drop, show (1 : Int).toNat + j = j + 1 by simp; omega, List.getElem?_cons_succ, List.getElem?_map, hq1]; rfl
    refine Ev.succ (fun k => mode_Read_2_L1.eq_2 ..) (Ev.t (by simp [Pt.encL_length]; omega) (Ev.some (idx_get hp1) (Ev.f rfl (Ev.need (by simp; omega) ?_))))
    rw [wrapS (by omega)]
    have hsg := signM (sg_has hqm.1)
    have hv : (if ((sgOf q.1).toList == plusB.toList) = true then (1 : Int) else if ((sgOf q.1).toList == minusB.toList) = true then 2 else 3) = q.1 := by
      rcases hqm.1 with e | e | e <;> rw [e] <;> decide +kernel
    rw [hv] at hsg
    have hsg' : (mget (mput (⟨#[42]⟩ : ByteArray) (3 : Int) (mput (⟨#[45]⟩ : ByteArray) 2 (mput (⟨#[43]⟩ : ByteArray) 1 []))) (signP q).sign).getD 0 = q.1 := hsg
    rw [hsg']
    have := ih (j + 1) (dropDrop hdj) (by omega)
    rw [List.take_add_one, hq1, List.map_append] at this
    exact this

theorem readW_ev (hs : sigOK sig = true) (hd : idx sig fam = some d) (hk : kindT d.cls = true) (him : d.implicit = (imp : Int)) (qs : List (Int × ByteArray)) (hq : ∀ q ∈ qs, okQ q) (hl : qs.length ≤ 100) :
    Ev (fun k => mode_Read_2 k sig (itW d qs)) (if (split d.cls).1.length = imp + qs.length then (⟨fam, (List.range imp).map (dF d (qs.map (·.1)) imp) ++ qs.map (·.1)⟩, 0) else (⟨0, []⟩, 23)) := by
  have hck : Ev (fun k => sign_Check k sig) 0 := by have := check_ev sig; rw [if_pos hs] at this; exact this
  have hdm : d ∈ sig := List.mem_of_getElem? (idx_some hd).2
  have hit := itW_ok (sigOK_named hs d hdm) hq hl
  refine Ev.succ (fun k => mode_Read_2.eq_2 ..) (hck.bind (Ev.f rfl (Ev.f ?_ (Ev.some (x := headP d) rfl (Ev.f rfl (Ev.need ?_ ?_))))))
  · rw [if_pos hit]
    have : (modeB.toList == (⟨#[109, 111, 100, 101]⟩ : ByteArray).toList) = true := by decide +kernel
    have e : ((itW d qs).word.toList == (⟨#[109, 111, 100, 101]⟩ : ByteArray).toList) = true := this
    rw [e, Pt.encL_length]
    simp; omega
  · simp [Pt.encL_length]; omega
  · exact readW_L1 hs hd hk him qs hq hl qs 0 rfl (by simp)
end
end Go.Proofs.YtogicnodmgdnbaaGreatDoor
end

/-! MiB -/
section
namespace Go.Proofs.YtogicnodmgdnbaaGreatDoor
open Go.Tr Go
set_option linter.unusedVariables false
set_option linter.unusedSimpArgs false
set_option maxRecDepth 10000

theorem idx_bounds {α : Type} {l : List α} {n : Int} {x : α} (h : idx l n = some x) : 0 ≤ n ∧ n < (l.length : Int) := by
  obtain ⟨h0, h1⟩ := idx_some h
  have := (List.getElem?_eq_some_iff.1 h1).1
  omega
theorem idx_no {α : Type} {l : List α} {n : Int} (h : idx l n = none) : n < 0 ∨ n ≥ (l.length : Int) := by
  rcases Int.lt_or_le n 0 with h0 | h0
  · exact .inl h0
  · right
    have e : idx l n = l[n.toNat]? := by
      have := idx_nat l n.toNat
      rwa [show ((n.toNat : Nat) : Int) = n by omega] at this
    rw [e, List.getElem?_eq_none_iff] at h
    omega

def signsB (l : List Int) : Bool := l.all (fun s => decide (1 ≤ s ∧ s ≤ 3))
theorem signsB_is3 {l : List Int} (h : signsB l = true) : ∀ s ∈ l, is3 s := by
  intro s hs
  have := List.all_eq_true.1 h s hs
  simp only [decide_eq_true_eq] at this
  unfold is3; omega
/-- Which modes are right. -/
def rightB (sig : List Dc) (m : Md) : Bool := match idx sig m.family with
  | none => false
  | some d => kindT d.cls && (decide ((split d.cls).1.length = m.signs.length) && signsB m.signs)

theorem rightB_some {sig : List Dc} {m : Md} {d : Dc} (hd : idx sig m.family = some d) : rightB sig m = (kindT d.cls && (decide ((split d.cls).1.length = m.signs.length) && signsB m.signs)) := by
  unfold rightB; rw [hd]
theorem rightB_none {sig : List Dc} {m : Md} (hd : idx sig m.family = none) : rightB sig m = false := by
  unfold rightB; rw [hd]
theorem rightB_yes {sig : List Dc} {m : Md} (h : rightB sig m = true) : ∃ d, idx sig m.family = some d ∧ kindT d.cls = true ∧ (split d.cls).1.length = m.signs.length ∧ ∀ s ∈ m.signs, is3 s := by
  cases hd : idx sig m.family with
  | none => rw [rightB_none hd] at h; cases h
  | some d =>
    rw [rightB_some hd, Bool.and_eq_true, Bool.and_eq_true, decide_eq_true_eq] at h
    exact ⟨d, rfl, h.1, h.2.1, signsB_is3 h.2.2⟩

theorem indexBad_y (l : List Int) (hl : l.length ≤ 1000000) : ∀ (ts : List Int) (i : Nat), l.drop i = ts → i + ts.length = l.length → Yields (fun n => slices_IndexFunc_mode_isMode_1_L1 n l (i : Int)) (fun r => decide (r ≥ 0) = !signsB ts) := by
  intro ts
  induction ts with
  | nil =>
    intro i hd hi
    simp only [List.length_nil, Nat.add_zero] at hi
    refine Yields.succ (fun k => slices_IndexFunc_mode_isMode_1_L1.eq_2 ..) ?_
    refine Yields.ite (fun h => ?_) (fun _ => Yields.pure (by simp [signsB]))
    simp at h; omega
  | cons u ts ih =>
    intro i hd hi
    simp only [List.length_cons] at hi
    refine Yields.succ (fun k => slices_IndexFunc_mode_isMode_1_L1.eq_2 ..) ?_
    refine Yields.ite (fun _ => ?_) (fun h => ?_)
    · refine Yields.some (idx_get (getDrop hd)) ?_
      refine Yields.bind (Ev.is (Ev.succ (fun k => mode_isMode_1.eq_2 ..) (Ev.pure _))) (fun b hb => ?_)
      subst hb
      refine Yields.ite (fun h => Yields.pure ?_) (fun h => ?_)
      · have : signsB (u :: ts) = false := by
          simp only [signsB, List.all_cons, Bool.and_eq_false_iff]
          left
          simp at h ⊢; omega
        rw [this]; simp
      · rw [wrapS (by omega)]
        refine Yields.mono (ih (i + 1) (dropDrop hd) (by omega)) (fun r hr => ?_)
        have : signsB (u :: ts) = signsB ts := by
          simp only [signsB, List.all_cons]
          rw [decide_eq_true (by simp at h; omega), Bool.true_and]
        rw [this]; exact hr
    · exfalso; simp at h; omega

theorem isMode_ev {sig : List Dc} (hs : sigOK sig = true) (m : Md) : Ev (fun k => mode_isMode k sig m) (rightB sig m) := by
  obtain ⟨hsl, hpr⟩ := sigOK_proper hs
  refine Ev.succ (fun k => mode_isMode.eq_2 ..) ?_
  cases hd : idx sig m.family with
  | none =>
    rw [rightB_none hd]
    refine Ev.t ?_ (Ev.pure _)
    rcases idx_no hd with h | h
    · rw [decide_eq_true h]; rfl
    · rw [Dc.encL_length, decide_eq_true h, Bool.or_true]
  | some d =>
    rw [rightB_some hd]
    obtain ⟨h0, h1⟩ := idx_bounds hd
    have hp : Pr d.cls := hpr d (List.mem_of_getElem? (idx_some hd).2)
    obtain ⟨hok, hh, hc⟩ := proper_small hp
    have hsf := (split_facts hp).2.2.2.2
    have hfa := signFamily_ev hd hok (by omega)
    refine Ev.f (by rw [Dc.encL_length]; simp; omega) (hfa.bind ?_)
    cases hk : kindT d.cls with
    | false => exact Ev.t rfl ((Ev.pure _).eq (by simp))
    | true =>
      refine Ev.f rfl (Ev.some (x := d) rfl ((domains_ev hok (by omega)).bind ?_))
      by_cases hl : (split d.cls).1.length = m.signs.length
      · refine Ev.t (by rw [Tm.encL_length]; simp; omega) ?_
        rw [decide_eq_true hl]
        obtain ⟨r, r1, r2⟩ := indexBad_y m.signs (by omega) m.signs 0 rfl (by simp)
        refine Ev.bind (x := decide (r ≥ 0)) ?_ ((Ev.pure _).eq (by rw [r2]; simp))
        refine Ev.succ (fun k => slices_ContainsFunc_mode_isMode_1.eq_2 ..) (Ev.bind (x := r) ?_ (Ev.pure _))
        exact Ev.succ (fun k => slices_IndexFunc_mode_isMode_1.eq_2 ..) r1
      · refine Ev.f (by rw [Tm.encL_length]; simp; omega) ((Ev.pure _).eq ?_)
        rw [decide_eq_false hl]; simp

/-! digits -/
end Go.Proofs.YtogicnodmgdnbaaGreatDoor
end

/-! MiC -/
section
namespace Go.Proofs.YtogicnodmgdnbaaGreatDoor
open Go.Tr Go
set_option linter.unusedVariables false
set_option linter.unusedSimpArgs false
set_option maxRecDepth 10000

theorem equalInts_evL (a b : List Int) (hl : a.length ≤ 1000000) : ∀ (ts us : List Int) (i : Nat), a.drop i = ts → b.drop i = us → i + ts.length = a.length → ts.length = us.length → Ev (fun k => slices_Equal_L1 k a b (i : Int)) (decide (ts = us)) := by
  intro ts
  induction ts with
  | nil =>
    intro us i h1 h2 h3 h4
    simp only [List.length_nil, Nat.add_zero] at h3
    have : us = [] := List.eq_nil_of_length_eq_zero h4.symm
    subst this
    exact Ev.succ (fun k => slices_Equal_L1.eq_2 ..) (Ev.f (by simp; omega) (Ev.pure _))
  | cons x ts ih =>
    intro us i h1 h2 h3 h4
    cases us with
    | nil => simp at h4
    | cons y us =>
      simp only [List.length_cons] at h3 h4
      refine Ev.succ (fun k => slices_Equal_L1.eq_2 ..) (Ev.t (by simp; omega) (Ev.some (idx_get (getDrop h1)) (Ev.some (idx_get (getDrop h2)) ?_)))
      refine Ev.ite (fun h => (Ev.pure _).eq ?_) (fun h => ?_)
      · have : x ≠ y := by simpa using h
        simp [this]
      · have : x = y := by simpa using h
        subst this
        rw [wrapS (by omega)]
        exact (ih us (i + 1) (dropDrop h1) (dropDrop h2) (by omega) (by omega)).eq (by simp)
theorem equalInts_ev (a b : List Int) (hl : a.length ≤ 1000000) : Ev (fun k => slices_Equal k a b) (decide (a = b)) := by
  refine Ev.succ (fun k => slices_Equal.eq_2 ..) ?_
  refine Ev.ite (fun h => (Ev.pure _).eq ?_) (fun h => ?_)
  · rw [decide_eq_false]
    intro e
    subst e
    simp at h
  · have hl' : a.length = b.length := by simp at h; omega
    exact equalInts_evL a b hl a b 0 rfl rfl (by simp) hl'

/-- The signs that are written, and their names. -/
def qsL : List Int → Nat → List (Int × ByteArray)
  | [], _ => []
  | v :: vs, j => (v, nmOf j) :: qsL vs (j + 1)
theorem qsL_length : ∀ (l : List Int) (j : Nat), (qsL l j).length = l.length
  | [], _ => rfl
  | _ :: l, j => by simp [qsL, qsL_length l]
theorem qsL_signs : ∀ (l : List Int) (j : Nat), (qsL l j).map (·.1) = l
  | [], _ => rfl
  | _ :: l, j => by simp [qsL, qsL_signs l]
theorem qsL_ok : ∀ (l : List Int) (j : Nat), (∀ s ∈ l, is3 s) → j + l.length ≤ 99 → ∀ q ∈ qsL l j, okQ q
  | [], _, _, _, q, hq => by simp [qsL] at hq
  | v :: l, j, h, hj, q, hq => by
    simp only [List.length_cons] at hj
    simp only [qsL, List.mem_cons] at hq
    rcases hq with e | hq
    · subst e; exact ⟨h v (List.mem_cons_self ..), (nm_named j (by omega)).1⟩
    · exact qsL_ok l (j + 1) (fun s hs => h s (List.mem_cons_of_mem _ hs)) (by omega) q hq

/-- The directive of a mode. -/
abbrev itM (d : Dc) (back : List Int) : It := itW d (qsL back 0)
def agree (d : Dc) (imp : Nat) (signs : List Int) : Bool := decide ((List.range imp).map (dF d (signs.drop imp) imp) ++ signs.drop imp = signs)

section
variable {sig : List Dc} {m : Md} {d : Dc} {imp : Nat}

theorem itW_snoc (d : Dc) (pre : List (Int × ByteArray)) (q : Int × ByteArray) : (It.mk (itW d pre).word (itW d pre).name (itW d pre).raw ((itW d pre).parts ++ [signP q])) = itW d (pre ++ [q]) := by
  simp only [itW, List.map_append, List.map_cons, List.map_nil, List.cons_append]

theorem itemL1_ev (him : d.implicit = (imp : Int)) (h3 : ∀ s ∈ m.signs, is3 s) (hsz : m.signs.length ≤ 90) {R : It × Int}
    (hR : Ev (fun n => (mode_Read_2 n sig (itM d (m.signs.drop imp))).bind (fun v73 => cond (v73.2 != 0) (some (it0, 2)) ((slices_Equal n v73.1.signs m.signs).bind (fun v77 => cond (!v77) (some (it0, 2)) (some (itM d (m.signs.drop imp), 0)))))) R) :
    ∀ (ts : List Int) (j : Nat) (pre : List (Int × ByteArray)), (m.signs.drop imp).drop j = ts → pre ++ qsL ts j = qsL (m.signs.drop imp) 0 → pre.length = j → j + ts.length = (m.signs.drop imp).length → Ev (fun k => mode_Item_2_L1 k m d sig (itW d pre) (j : Int)) R := by
  have hbk : (m.signs.drop imp).length ≤ 90 := by simp; omega
  have hmem : ∀ s ∈ m.signs.drop imp, is3 s := fun s hs => h3 s (List.mem_of_mem_drop hs)
  have hImp : d.implicit.toNat = imp := by omega
  intro ts
  induction ts with
  | nil =>
    intro j pre h1 h2 hp h4
    simp only [List.length_nil, Nat.add_zero] at h4
    rw [qsL, List.append_nil] at h2
    subst h2
    refine Ev.succ (fun k => mode_Item_2_L1.eq_2 ..) (Ev.f ?_ hR)
    rw [hImp]; simp at h4 ⊢; omega
  | cons v ts ih =>
    intro j pre h1 h2 hp h4
    simp only [List.length_cons] at h4
    have hv := getDrop h1
    have hv3 := hmem v (List.mem_of_getElem? hv)
    have hit := itoa_size ((j + 1 : Nat) : Int) (by omega) (by omega)
    have hrec := ih (j + 1) (pre ++ [(v, nmOf j)]) (dropDrop h1) (by rw [List.append_assoc]; exact h2) (by simp; omega) (by omega)
    rw [← itW_snoc] at hrec
    have c1 : decide ((0 : Int) ≤ ((j + 1 : Nat) : Int) ∧ (((j + 1 : Nat) : Int) : Int) ≤ 99) = true := decide_eq_true (by omega)
    have c2 : decide ((⟨#[88]⟩ : ByteArray).size + (itoaF ((j + 1 : Nat) : Int)).size ≤ 1000000) = true := by
      have : (⟨#[88]⟩ : ByteArray).size = 1 := rfl
      exact decide_eq_true (by omega)
    have c3 : ∀ p : Pt, decide ((Pt.encL ((itW d pre).parts ++ [p])).length ≤ 1000000) = true := by
      intro p
      rw [Pt.encL_length]
      simp; omega
    refine Ev.succ (fun k => mode_Item_2_L1.eq_2 ..) (Ev.t ?_ (Ev.some (x := v) ?_ ?_))
    · rw [hImp]; simp at h4 ⊢; omega
    · rw [hImp]; exact idx_get hv
    simp only [wrapS (show j < 2000000000000000000 by omega)]
    rcases hv3 with rfl | rfl | rfl
    · exact Ev.f rfl (Ev.t rfl (Ev.need c1 (Ev.need c2 (Ev.need (c3 _) hrec))))
    · exact Ev.f rfl (Ev.f rfl (Ev.t rfl (Ev.need c1 (Ev.need c2 (Ev.need (c3 _) hrec)))))
    · exact Ev.f rfl (Ev.f rfl (Ev.f rfl (Ev.t rfl (Ev.need c1 (Ev.need c2 (Ev.need (c3 _) hrec))))))

theorem item_ev (hs : sigOK sig = true) (hd : idx sig m.family = some d) (hk : kindT d.cls = true) (him : d.implicit = (imp : Int)) (h3 : ∀ s ∈ m.signs, is3 s) (hlen : (split d.cls).1.length = m.signs.length) (hr : rightB sig m = true) :
    Ev (fun k => mode_Item_2 k sig m) (if agree d imp m.signs = true then (itM d (m.signs.drop imp), 0) else (it0, 2)) := by
  have hdm : d ∈ sig := List.mem_of_getElem? (idx_some hd).2
  have hp : Pr d.cls := (sigOK_proper hs).2 d hdm
  have hsf := (split_facts hp).2.2.2.2
  obtain ⟨hi0, hi1⟩ := sigOK_impM hs d hdm
  have hck : Ev (fun k => sign_Check k sig) 0 := by have := check_ev sig; rw [if_pos hs] at this; exact this
  have him1 := isMode_ev hs m
  rw [hr] at him1
  have hback : (m.signs.drop imp).length + imp = m.signs.length := by simp; omega
  have hrd := readW_ev hs hd hk him (qsL (m.signs.drop imp) 0) (qsL_ok _ 0 (fun s hs => h3 s (List.mem_of_mem_drop hs)) (by omega)) (by rw [qsL_length]; omega)
  rw [if_pos (by rw [qsL_length]; omega), qsL_signs] at hrd
  refine Ev.succ (fun k => mode_Item_2.eq_2 ..) (hck.bind (Ev.f rfl (him1.bind (Ev.f rfl (Ev.some hd (Ev.some hd (Ev.need (by simp; omega) ?_)))))))
  refine itemL1_ev (imp := imp) (R := if agree d imp m.signs = true then (itM d (m.signs.drop imp), 0) else (it0, 2)) him h3 (by omega) ?_ (m.signs.drop imp) 0 [] rfl rfl rfl (by simp)
  refine hrd.bind (Ev.f rfl ((equalInts_ev _ _ (by simp; omega)).bind ?_))
  cases ha : agree d imp m.signs with
  | true =>
    have : decide ((List.range imp).map (dF d (m.signs.drop imp) imp) ++ m.signs.drop imp = m.signs) = true := ha
    rw [this]
    exact Ev.f rfl (Ev.pure _)
  | false =>
    have : decide ((List.range imp).map (dF d (m.signs.drop imp) imp) ++ m.signs.drop imp = m.signs) = false := ha
    rw [this]
    exact Ev.t rfl (Ev.pure _)
end
end Go.Proofs.YtogicnodmgdnbaaGreatDoor
end
