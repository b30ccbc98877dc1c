/- Merged texts: EvK EvL EvP EvR OcA OcB OcC. Plain law: the reference's kernel answers, whatever the signature is, if its classes are proper. No program in sight. Plain law: the reference's kernel answers, whatever the signature is, if its classes are proper; so does 'valid'. No program in sight. Plain law: the texts of raw expressions, by syntax and by trussref02. No program in sight. Plain law: occurrences, moved terms, and which nodes are in scope. No program in sight. Plain law: what the reference's kernel accepts: types whose heads are families with all their arguments. No program in sight. Plain law: orders, whether they are small and right, and the comparison of lists by two similar ones. No program in sight. Plain law: types taken apart, put together and moved; which premises there are. No program in sight. -/
import Derived.Test.YtpibdcjdamibdaaGreatQK
/-! EvK -/
section
namespace Go.Proofs.YtpibdcjdamibdaaGreat
open Go.Tr Go
set_option linter.unusedVariables false
set_option linter.unusedSimpArgs false
set_option maxRecDepth 10000

abbrev Pr (t : Tm) : Prop := isProper t = true
theorem pr_arg {t u : Tm} (h : Pr t) (hu : u ∈ t.args) : Pr u := by
  obtain ⟨hok, hh, hc⟩ := proper_small h
  rw [Pr, isProper_iff]
  have h1 := Tm.height_le hu
  rw [Tm.height_eq] at hh
  rw [Tm.count_eq] at hc
  have h2 : u.count ≤ Tm.countL t.args := by
    have : ∀ (us : List Tm), u ∈ us → u.count ≤ Tm.countL us := by
      intro us
      induction us with
      | nil => intro h; cases h
      | cons v us ih =>
        intro h
        simp only [Tm.countL]
        rcases List.mem_cons.1 h with e | e
        · subst e; omega
        · have := ih e; omega
    exact this _ hu
  exact ⟨okAll_arg hok hu, by omega, by omega⟩
theorem pr_len {t : Tm} (h : Pr t) : t.args.length ≤ 600 := by
  obtain ⟨hok, hh, hc⟩ := proper_small h
  have := Tm.length_le_countL t.args
  rw [Tm.count_eq] at hc
  omega
theorem pr_n {t : Tm} (h : Pr t) : 0 ≤ t.n ∧ t.n ≤ 9999 := okAll_n (proper_small h).1
theorem pr_two {t : Tm} (h : Pr t) (ho : t.op = 2) : ∃ a b, t.args = [a, b] ∧ Pr a ∧ Pr b ∧ a.count < t.count ∧ b.count < t.count ∧ a.height < t.height ∧ b.height < t.height := by
  obtain ⟨a, b, e, _, _, h1, h2, h3⟩ := okAll_two (proper_small h).1 ho
  have := Tm.count_pos a; have := Tm.count_pos b
  exact ⟨a, b, e, pr_arg h (by rw [e]; simp), pr_arg h (by rw [e]; simp), by omega, by omega, by omega, by omega⟩
theorem pr_one {t : Tm} (h : Pr t) (ho : t.op = 3) : ∃ a, t.args = [a] ∧ Pr a ∧ a.count < t.count := by
  obtain ⟨a, e, _, h1, h2⟩ := okAll_one (proper_small h).1 ho
  exact ⟨a, e, pr_arg h (by rw [e]; simp), by omega⟩
theorem cnt_arg {t u : Tm} (hu : u ∈ t.args) : u.count < t.count := by
  rw [Tm.count_eq t]
  have : ∀ (us : List Tm), u ∈ us → u.count ≤ Tm.countL us := by
    intro us
    induction us with
    | nil => intro h; cases h
    | cons v us ih =>
      intro h
      simp only [Tm.countL]
      rcases List.mem_cons.1 h with e | e
      · subst e; omega
      · have := ih e; omega
  have := this _ hu
  omega

/-- A result: an error, or a proper term. -/
def okR (r : Tm × Int) : Prop := r.2 = 0 → Pr r.1

theorem whole_y (t : Tm) : Yields (fun k => R04_whole k t) okR := by
  refine Yields.succ (fun k => R04_whole.eq_2 ..) ?_
  rw [refProper_eq]
  refine Yields.ite (fun h => Yields.pure ?_) (fun h => Yields.pure ?_)
  · intro h; cases h
  · intro _; exact nb' h

theorem idx_of {α : Type} {l : List α} {i : Nat} (h : i < l.length) : ∃ x, idx l (i : Int) = some x ∧ x ∈ l ∧ l[i]? = some x :=
  ⟨l[i], by rw [idx_nat]; exact List.getElem?_eq_getElem h, List.getElem_mem h, List.getElem?_eq_getElem h⟩

theorem moved_y : ∀ (c : Nat) (t : Tm) (by_ f : Int), t.count ≤ c → t.count ≤ 600 → Yields (fun k => R04_moved k t by_ f) (fun _ => True)
  | 0, t, _, _, h, _ => by have := Tm.count_pos t; omega
  | c + 1, t, by_, f, h, h6 => by
    have hlen : t.args.length ≤ 600 := by have := Tm.length_le_countL t.args; rw [Tm.count_eq] at h6; omega
    have loop : ∀ (m i : Nat) (o : Tm), m = t.args.length - i → i ≤ t.args.length → o.args.length = i → Yields (fun k => R04_moved_L1 k t by_ f o (i : Int)) (fun _ => True) := by
      intro m
      induction m with
      | zero =>
        intro i o hm hi ho
        refine Yields.succ (fun k => R04_moved_L1.eq_2 ..) ?_
        refine Yields.ite (fun hc => ?_) (fun hc => Yields.pure trivial)
        simp [Tm.encL_length] at hc; omega
      | succ m ih =>
        intro i o hm hi ho
        refine Yields.succ (fun k => R04_moved_L1.eq_2 ..) ?_
        obtain ⟨x, hx, hxm, _⟩ := idx_of (show i < t.args.length by omega)
        have hcx := cnt_arg hxm
        have hnext : ∀ y, Yields (fun k => R04_moved_L1 k t by_ f (Tm.mk o.op o.hd o.n (o.args ++ [y])) ((i + 1 : Nat) : Int)) (fun _ => True) := fun y => ih (i + 1) _ (by omega) (by omega) (by show (o.args ++ [y]).length = i + 1; simp [ho])
        refine Yields.ite (fun hc => ?_) (fun hc => Yields.pure trivial)
        refine Yields.ite (fun _ => ?_) (fun _ => ?_)
        · refine Yields.some hx ?_
          refine Yields.bind (moved_y c x _ _ (by omega) (by omega)) (fun y _ => ?_)
          refine Yields.need (by simp [Tm.encL_length]; omega) ?_
          rw [wrapS (by omega)]
          exact hnext y
        · refine Yields.some hx ?_
          refine Yields.bind (moved_y c x _ _ (by omega) (by omega)) (fun y _ => ?_)
          refine Yields.need (by simp [Tm.encL_length]; omega) ?_
          rw [wrapS (by omega)]
          exact hnext y
    refine Yields.succ (fun k => R04_moved.eq_2 ..) ?_
    refine Yields.ite (fun _ => ?_) (fun _ => ?_)
    · exact loop _ 0 _ rfl (Nat.zero_le _) rfl
    · exact loop _ 0 _ rfl (Nat.zero_le _) rfl

theorem raised_y {t : Tm} (h : Pr t) (n : Int) : Yields (fun k => R04_raised k t n) (fun _ => True) := by
  refine Yields.succ (fun k => R04_raised.eq_2 ..) ?_
  exact Yields.bind (moved_y t.count t _ _ (Nat.le_refl _) (proper_small h).2.2) (fun y _ => Yields.pure trivial)

/-- The result of a substitution: the steps do not go down, and it is an error or a proper term. -/
def okP (c : Int) (r : Tm × Int × Ct) : Prop := c ≤ r.2.2.n ∧ r.2.2.n ≤ 20001 ∧ (r.2.1 = 0 → Pr r.1 ∧ r.2.2.n ≤ 20000)

theorem wrapc {c : Int} (h0 : 0 ≤ c) (h1 : c ≤ 20001) : IntKind.i64.wrap (c + 1) = c + 1 := wrap_i64 (by omega) (by omega)

def PutY (q : Nat) : Prop := ∀ (t : Tm) (n : Int) (s : Tm) (p : Sm) (c : Int), 0 ≤ c → c ≤ 20000 → 20001 - c ≤ q → Pr t → Pr s → Yields (fun k => R04_count_put k t n s p ⟨c⟩) (okP c)

theorem apply_y (q : Nat) (hput : PutY q) : ∀ (f : Tm) (l : List Tm) (p : Sm) (c : Int) (m : Nat), l.length ≤ m → 0 ≤ c → c ≤ 20000 → 20001 - c ≤ q → Pr f → (∀ x ∈ l, Pr x) → l.length ≤ 1000 → Yields (fun k => R04_count_apply k f l p ⟨c⟩) (okP c)
  | f, [], p, c, m, hm, h0, h1, hq, hf, hl, hb => by
    refine Yields.succ (fun k => R04_count_apply.eq_2 ..) ?_
    refine Yields.ite (fun _ => ?_) (fun h => by simp [Tm.encL] at h)
    refine Yields.bind (whole_y f) (fun y hy => Yields.pure ⟨?_, ?_, fun h => ⟨hy h, ?_⟩⟩) <;> simp only <;> omega
  | f, x :: l, p, c, 0, hm, h0, h1, hq, hf, hl, hb => by simp at hm
  | f, x :: l, p, c, m + 1, hm, h0, h1, hq, hf, hl, hb => by
    refine Yields.succ (fun k => R04_count_apply.eq_2 ..) ?_
    refine Yields.ite (fun h => by simp [Tm.encL_length] at h; omega) (fun _ => ?_)
    refine Yields.ite (fun _ => Yields.pure ?_) (fun h2 => ?_)
    · refine ⟨?_, ?_, fun h => by cases h⟩ <;> simp only <;> omega
    simp only [Bool.or_eq_false_iff, bne_eq_false_iff_eq] at h2
    obtain ⟨b, hb1, hpb, _⟩ := pr_one hf h2.1
    have hpa : p.args ≠ [] := by
      intro e; have := h2.2; rw [e] at this; simp [Sm.encL] at this
    obtain ⟨p0, ps, hps⟩ := List.exists_cons_of_ne_nil hpa
    refine Yields.some (x := b) (by rw [hb1]; rfl) ?_
    refine Yields.some (x := x) rfl ?_
    refine Yields.some (x := p0) (by rw [hps]; rfl) ?_
    refine Yields.bind (hput b 0 x p0 c h0 h1 hq hpb (hl x (by simp))) (fun y hy => ?_)
    obtain ⟨y1, y2, ⟨y3⟩⟩ := y
    obtain ⟨e1, e2, e3⟩ := hy
    simp only at e1 e2 e3 ⊢
    refine Yields.ite (fun h5 => Yields.pure ?_) (fun h5 => ?_)
    · have h5 : y2 ≠ 0 := by simpa using h5
      exact ⟨e1, e2, fun h => (h5 h).elim⟩
    have h5 : y2 = 0 := by simpa using h5
    refine Yields.need (by simp [Tm.encL_length]; omega) ?_
    refine Yields.need (by rw [hps]; simp [Sm.encL_length]; omega) ?_
    simp only [List.length_cons] at hm hb
    refine Yields.bind (apply_y q hput y1 l _ y3 m (by omega) (by omega) (e3 h5).2 (by omega) (e3 h5).1 (fun z hz => hl z (by simp [hz])) (by omega)) (fun r hr => Yields.pure ?_)
    obtain ⟨g1, g2, g3⟩ := hr
    exact ⟨by simp only; omega, g2, g3⟩

theorem put_y : ∀ (q : Nat), PutY q
  | 0 => fun t n s p c h0 h1 hq ht hs => by omega
  | q + 1 => fun t n s p c h0 h1 hq ht hs => by
    have hput := put_y q
    refine Yields.succ (fun k => R04_count_put.eq_2 ..) ?_
    have hlen := pr_len ht
    simp only [wrapc h0 (by omega)]
    refine Yields.ite (fun h2 => Yields.pure ?_) (fun h2 => ?_)
    · have h2 : 20000 < c + 1 := by simpa using h2
      refine ⟨?_, ?_, fun h => by cases h⟩ <;> simp only <;> omega
    have h2 : c + 1 ≤ 20000 := by simpa using h2
    have loop : ∀ (m i : Nat) (o : Tm) (c' : Int), m = t.args.length - i → i ≤ t.args.length → o.args.length = i → (∀ x ∈ o.args, Pr x) → c + 1 ≤ c' → c' ≤ 20000 → Yields (fun k => R04_count_put_L1 k t n s p ⟨c'⟩ o (i : Int)) (okP c) := by
      intro m
      induction m with
      | zero =>
        intro i o c' hm hi ho hop hc1 hc2
        refine Yields.succ (fun k => R04_count_put_L1.eq_2 ..) ?_
        refine Yields.ite (fun hc => ?_) (fun _ => ?_)
        · simp [Tm.encL_length] at hc; omega
        refine Yields.ite (fun _ => ?_) (fun _ => ?_)
        · refine Yields.bind (whole_y o) (fun y hy => Yields.pure ⟨?_, ?_, fun h => ⟨hy h, ?_⟩⟩) <;> simp only <;> omega
        refine Yields.ite (fun _ => ?_) (fun _ => ?_)
        · refine Yields.bind (whole_y _) (fun y hy => Yields.pure ⟨?_, ?_, fun h => ⟨hy h, ?_⟩⟩) <;> simp only <;> omega
        refine Yields.bind (raised_y hs n) (fun y _ => ?_)
        refine Yields.bind (whole_y y) (fun z hz => ?_)
        refine Yields.ite (fun h5 => Yields.pure ?_) (fun h5 => ?_)
        · have h5 : z.2 ≠ 0 := by simpa using h5
          refine ⟨?_, ?_, fun h => (h5 h).elim⟩ <;> simp only <;> omega
        have h5 : z.2 = 0 := by simpa using h5
        refine Yields.bind (apply_y q hput z.1 o.args p c' o.args.length (Nat.le_refl _) (by omega) hc2 (by omega) (hz h5) hop (by omega)) (fun r hr => Yields.pure ?_)
        obtain ⟨e1, e2, e3⟩ := hr
        exact ⟨by simp only; omega, e2, e3⟩
      | succ m ih =>
        intro i o c' hm hi ho hop hc1 hc2
        refine Yields.succ (fun k => R04_count_put_L1.eq_2 ..) ?_
        obtain ⟨x, hx, hxm, _⟩ := idx_of (show i < t.args.length by omega)
        have hpx := pr_arg ht hxm
        have hnext : ∀ (y : Tm × Int × Ct), okP c' y → Yields (fun k => cond (y.2.1 != 0) (some ((Tm.mk 0 0 0 ([])), y.2.1, y.2.2)) (cond (decide ((Tm.encL (o.args ++ [y.1])).length ≤ 1000000)) (R04_count_put_L1 k t n s p y.2.2 (Tm.mk o.op o.hd o.n (o.args ++ [y.1])) (IntKind.i64.wrap ((i : Int) + 1))) none)) (okP c) := by
          rintro ⟨y1, y2, ⟨y3⟩⟩ ⟨e1, e2, e3⟩
          simp only at e1 e2 e3 ⊢
          refine Yields.ite (fun h5 => Yields.pure ?_) (fun h5 => ?_)
          · have h5 : y2 ≠ 0 := by simpa using h5
            exact ⟨by simp only; omega, e2, fun h => (h5 h).elim⟩
          have h5 : y2 = 0 := by simpa using h5
          refine Yields.need (by simp [Tm.encL_length]; omega) ?_
          rw [wrapS (by omega)]
          refine ih (i + 1) _ y3 (by omega) (by omega) (by show (o.args ++ [y1]).length = i + 1; simp [ho]) ?_ (by omega) (e3 h5).2
          intro z hz
          have hz : z ∈ o.args ++ [y1] := hz
          rw [List.mem_append, List.mem_singleton] at hz
          rcases hz with h | h
          · exact hop z h
          · subst h; exact (e3 h5).1
        refine Yields.ite (fun _ => ?_) (fun hc => ?_)
        · refine Yields.ite (fun _ => ?_) (fun _ => ?_)
          · refine Yields.some hx ?_
            exact Yields.bind (hput x _ s p c' (by omega) hc2 (by omega) hpx hs) hnext
          · refine Yields.some hx ?_
            exact Yields.bind (hput x _ s p c' (by omega) hc2 (by omega) hpx hs) hnext
        · simp [Tm.encL_length] at hc; omega
    exact loop _ 0 _ (c + 1) rfl (Nat.zero_le _) rfl (by simp [Tm.args]) (Int.le_refl _) h2
end Go.Proofs.YtpibdcjdamibdaaGreat
end

/-! EvL -/
section
namespace Go.Proofs.YtpibdcjdamibdaaGreat
open Go.Tr Go
set_option linter.unusedVariables false
set_option linter.unusedSimpArgs false
set_option maxRecDepth 10000

mutual
/-- No list in it is longer than a million. -/
def smB : Sm → Prop
  | .mk args _ => args.length ≤ 1000000 ∧ smBL args
def smBL : List Sm → Prop
  | [] => True
  | s :: r => smB s ∧ smBL r
 end
theorem smBL_mem : ∀ {l : List Sm} {s : Sm}, smBL l → s ∈ l → smB s
  | _ :: r, s, h, hs => by
    simp only [smBL] at h
    rcases List.mem_cons.1 hs with e | e
    · subst e; exact h.1
    · exact smBL_mem h.2 e
theorem smB_args {s : Sm} (h : smB s) : s.args.length ≤ 1000000 ∧ smBL s.args := by cases s; exact h
theorem Sm.ind {motive : Sm → Prop} (h : ∀ t, (∀ x ∈ t.args, motive x) → motive t) (t : Sm) : motive t := by
  induction t using Sm.rec (motive_2 := fun ts => ∀ x ∈ ts, motive x) with
  | nil => rename_i x hx; cases hx
  | cons t ts ih1 ih2 => rename_i x hx; rcases List.mem_cons.1 hx with e | e; (subst e; exact ih1); exact ih2 x e
  | mk args con ih => exact h _ ih

theorem simple_y : ∀ (q : Nat) (t : Tm), t.count ≤ q → Pr t → Yields (fun k => R03_Simple k t) (fun r => r.1.args.length ≤ t.height ∧ smB r.1)
  | 0, t, hq, _ => by have := Tm.count_pos t; omega
  | q + 1, t, hq, ht => by
    have hh := (proper_small ht).2.1
    refine Yields.succ (fun k => R03_Simple.eq_2 ..) ?_
    refine Yields.ite (fun _ => Yields.pure ⟨Nat.zero_le _, ?_⟩) (fun _ => ?_)
    · exact ⟨Nat.zero_le _, trivial⟩
    refine Yields.ite (fun h => ?_) (fun _ => Yields.pure ⟨Nat.zero_le _, Nat.zero_le _, trivial⟩)
    obtain ⟨a, b, e, ha, hb, hca, hcb, hha, hhb⟩ := pr_two ht (by simpa using h)
    rw [e]
    refine Yields.some (x := a) rfl ?_
    refine Yields.bind (simple_y q a (by omega) ha) (fun x hx => ?_)
    refine Yields.some (x := b) rfl ?_
    refine Yields.bind (simple_y q b (by omega) hb) (fun y hy => ?_)
    refine Yields.ite (fun _ => Yields.pure ⟨Nat.zero_le _, Nat.zero_le _, trivial⟩) (fun _ => ?_)
    have hbh := (proper_small hb).2.1
    refine Yields.need (by simp [Sm.encL_length]; omega) ?_
    refine Yields.pure ⟨?_, ?_⟩
    · show ([x.1] ++ y.1.args).length ≤ t.height
      simp; omega
    · show ([x.1] ++ y.1.args).length ≤ 1000000 ∧ smBL ([x.1] ++ y.1.args)
      exact ⟨by simp; omega, hx.2, (smB_args hy.2).2⟩

theorem constants_y (s : Sm) : smB s → ∀ m : Int, Yields (fun k => R04_constants k s m) (fun _ => True) := by
  induction s using Sm.ind with
  | h s ih =>
    intro hs m
    obtain ⟨hl, hb⟩ := smB_args hs
    have loop : ∀ (q i : Nat) (c : Int), q = s.args.length - i → i ≤ s.args.length → Yields (fun k => R04_constants_L1 k s m c (i : Int)) (fun _ => True) := by
      intro q
      induction q with
      | zero =>
        intro i c hq hi
        refine Yields.succ (fun k => R04_constants_L1.eq_2 ..) ?_
        refine Yields.ite (fun h => ?_) (fun _ => Yields.pure trivial)
        simp [Sm.encL_length] at h; omega
      | succ q ihq =>
        intro i c hq hi
        refine Yields.succ (fun k => R04_constants_L1.eq_2 ..) ?_
        refine Yields.ite (fun _ => ?_) (fun _ => Yields.pure trivial)
        obtain ⟨x, hx, hxm, _⟩ := idx_of (show i < s.args.length by omega)
        refine Yields.some hx ?_
        refine Yields.bind (ih x hxm (smBL_mem hb hxm) _) (fun y _ => ?_)
        refine Yields.ite (fun _ => Yields.pure trivial) (fun _ => ?_)
        rw [wrapS (by omega)]
        exact ihq (i + 1) _ (by omega) (by omega)
    refine Yields.succ (fun k => R04_constants.eq_2 ..) ?_
    refine Yields.ite (fun _ => Yields.pure trivial) (fun _ => ?_)
    exact loop _ 0 _ rfl (Nat.zero_le _)

theorem small_y {s : Sm} (h : smB s) : Yields (fun k => R04_Small k s) (fun _ => True) := by
  refine Yields.succ (fun k => R04_Small.eq_2 ..) ?_
  exact Yields.bind (constants_y s h _) (fun y _ => Yields.pure trivial)

theorem step_y {t m : Tm} (ht : Pr t) (hm : Pr m) {c : Int} (h0 : 0 ≤ c) (h1 : c ≤ 20000) : Yields (fun k => R04_count_step k t m ⟨c⟩) (okP c) := by
  refine Yields.succ (fun k => R04_count_step.eq_2 ..) ?_
  have bad : ∀ e : Int, e ≠ 0 → okP c ((Tm.mk 0 0 0 ([])), e, ⟨c⟩) := fun e he => ⟨Int.le_refl _, by simp only; omega, fun h => (he h).elim⟩
  refine Yields.ite (fun _ => Yields.pure (bad _ (by decide))) (fun h => ?_)
  obtain ⟨a, b, e, ha, hb, hca, hcb, hha, hhb⟩ := pr_two ht (by simpa using h)
  rw [e]
  refine Yields.some (x := a) rfl ?_
  refine Yields.bind (simple_y a.count a (Nat.le_refl _) ha) (fun x hx => ?_)
  refine Yields.ite (fun _ => Yields.pure (bad _ (by decide))) (fun _ => ?_)
  refine Yields.bind (small_y hx.2) (fun y _ => ?_)
  refine Yields.ite (fun _ => Yields.pure (bad _ (by decide))) (fun _ => ?_)
  refine Yields.some (x := b) rfl ?_
  exact Yields.bind (put_y 20001 b 0 m x.1 c h0 h1 (by omega) hb hm) (fun r hr => Yields.pure hr)

theorem list_y (l : List Tm) (hl : l.length ≤ 1000000) : Yields (fun k => R04_list k l) (fun _ => True) := by
  have loop : ∀ (q i : Nat), q = l.length - i → i ≤ l.length → Yields (fun k => R04_list_L1 k l (i : Int)) (fun _ => True) := by
    intro q
    induction q with
    | zero =>
      intro i hq hi
      refine Yields.succ (fun k => R04_list_L1.eq_2 ..) ?_
      refine Yields.ite (fun h => ?_) (fun _ => Yields.pure trivial)
      simp [Tm.encL_length] at h; omega
    | succ q ihq =>
      intro i hq hi
      refine Yields.succ (fun k => R04_list_L1.eq_2 ..) ?_
      refine Yields.ite (fun _ => ?_) (fun _ => Yields.pure trivial)
      obtain ⟨x, hx, hxm, _⟩ := idx_of (show i < l.length by omega)
      refine Yields.some hx ?_
      refine Yields.ite (fun _ => Yields.pure trivial) (fun _ => ?_)
      rw [wrapS (by omega)]
      exact ihq (i + 1) (by omega) (by omega)
  refine Yields.succ (fun k => R04_list.eq_2 ..) ?_
  exact loop _ 0 rfl (Nat.zero_le _)

theorem instance_y {t : Tm} (ht : Pr t) {l : List Tm} (hl : ∀ x ∈ l, Pr x) (hb : l.length ≤ 1000000) : Yields (fun k => R04_Instance k t l) okR := by
  have loop : ∀ (q i : Nat) (t : Tm) (c : Int), q = l.length - i → i ≤ l.length → Pr t → 0 ≤ c → c ≤ 20000 → Yields (fun k => R04_Instance_L1 k l t ⟨c⟩ (i : Int)) okR := by
    intro q
    induction q with
    | zero =>
      intro i t c hq hi ht h0 h1
      refine Yields.succ (fun k => R04_Instance_L1.eq_2 ..) ?_
      refine Yields.ite (fun h => ?_) (fun _ => Yields.pure (fun _ => ht))
      simp [Tm.encL_length] at h; omega
    | succ q ihq =>
      intro i t c hq hi ht h0 h1
      refine Yields.succ (fun k => R04_Instance_L1.eq_2 ..) ?_
      refine Yields.ite (fun _ => ?_) (fun _ => Yields.pure (fun _ => ht))
      obtain ⟨x, hx, hxm, _⟩ := idx_of (show i < l.length by omega)
      refine Yields.some hx ?_
      refine Yields.bind (step_y ht (hl x hxm) h0 h1) (fun y hy => ?_)
      obtain ⟨y1, y2, ⟨y3⟩⟩ := y
      obtain ⟨e1, e2, e3⟩ := hy
      simp only at e1 e2 e3 ⊢
      refine Yields.ite (fun h5 => Yields.pure ?_) (fun h5 => ?_)
      · have h5 : y2 ≠ 0 := by simpa using h5
        exact fun h => (h5 h).elim
      have h5 : y2 = 0 := by simpa using h5
      rw [wrapS (by omega)]
      exact ihq (i + 1) y1 y3 (by omega) (by omega) (e3 h5).1 (by omega) (e3 h5).2
  refine Yields.succ (fun k => R04_Instance.eq_2 ..) ?_
  rw [refProper_eq]
  refine Yields.ite (fun h => Yields.pure (fun h => by cases h)) (fun _ => ?_)
  refine Yields.bind (list_y l hb) (fun y _ => ?_)
  refine Yields.ite (fun h => Yields.pure (fun h => by cases h)) (fun _ => ?_)
  exact loop _ 0 t 0 rfl (Nat.zero_le _) ht (by omega) (by omega)

/-- A context that the kernel makes. -/
def ctxB (l : List Tm) : Prop := l.length ≤ 1000 ∧ ∀ x ∈ l, Pr x

theorem longer_y {ctx : List Tm} {a : Tm} (hc : ctxB ctx) (ha : Pr a) : Yields (fun k => R06_longer k ctx a) (fun r => r.2 = 0 → ctxB r.1) := by
  refine Yields.succ (fun k => R06_longer.eq_2 ..) ?_
  refine Yields.ite (fun _ => Yields.pure (fun h => by cases h)) (fun h => ?_)
  have h : ctx.length < 30 := by simp [Tm.encL_length] at h; omega
  refine Yields.need (by simp [Tm.encL_length]; omega) ?_
  refine Yields.need (by simp [Tm.encL_length]; omega) ?_
  refine Yields.pure (fun _ => ⟨by simp; omega, fun x hx => ?_⟩)
  rcases List.mem_append.1 hx with h1 | h1
  · exact hc.2 x h1
  · simp at h1; subst h1; exact ha

theorem shiftF_ok (t : Tm) (b f : Int) : okR (shiftF t b f) := by
  unfold shiftF
  split
  · intro h; cases h
  · split
    · intro h; cases h
    · split
      · intro h; cases h
      · rename_i h
        intro _
        show isProper (movedF t b f) = true
        cases hp : isProper (movedF t b f) with
        | true => rfl
        | false => exact (h hp).elim

theorem has_ev (sig : List Dc) (n : Int) : Ev (fun k => R05_Has k sig n) (decide (n ≥ 0) && decide (n < (sig.length : Int))) := by
  refine Ev.succ (fun k => R05_Has.eq_2 ..) ?_
  rw [← Dc.encL_length]
  exact Ev.pure _

section
variable (sig : List Dc) (hsig : ∀ x ∈ sig, Pr x.cls)
include hsig

theorem class_y {ctx : List Tm} (hc : ctxB ctx) {m : Tm} (hm : Pr m) : Yields (fun k => R06_Kernel_class k ⟨sig, []⟩ ctx m) okR := by
  have hn := pr_n hm
  refine Yields.succ (fun k => R06_Kernel_class.eq_2 ..) ?_
  refine Yields.ite (fun _ => ?_) (fun _ => ?_)
  · refine Yields.ite (fun _ => Yields.pure (fun h => by cases h)) (fun h => ?_)
    have h : m.n < (ctx.length : Int) := by simp [Tm.encL_length] at h; omega
    have hl := hc.1
    have hw : IntKind.i64.wrap (IntKind.i64.wrap (((Tm.encL ctx).length : Int) - 1) - m.n) = ((ctx.length - 1 - m.n.toNat : Nat) : Int) := by
      rw [Tm.encL_length, wrap_i64 (n := (ctx.length : Int) - 1) (by omega) (by omega), wrap_i64 (by omega) (by omega)]; omega
    rw [hw]
    obtain ⟨x, hx, _, _⟩ := idx_of (show ctx.length - 1 - m.n.toNat < ctx.length by omega)
    refine Yields.some hx ?_
    exact Yields.pure (shiftF_ok _ _ _)
  refine Yields.ite (fun _ => ?_) (fun _ => ?_)
  · refine Yields.bind (Ev.is (has_ev sig m.n)) (fun b hb => ?_)
    subst hb
    refine Yields.ite (fun _ => Yields.pure (fun h => by cases h)) (fun h => ?_)
    have h := nb' h
    simp only [Bool.and_eq_true, decide_eq_true_eq] at h
    obtain ⟨d, hd, hdm⟩ := idx_pre h.1 h.2
    have hp := proper_small (hsig d hdm)
    refine Yields.bind (Ev.is (isFamily_ev hd hp.1 (by omega))) (fun b hb => ?_)
    refine Yields.ite (fun _ => Yields.pure (fun h => by cases h)) (fun _ => ?_)
    refine Yields.some hd ?_
    exact Yields.pure (fun _ => hsig d hdm)
  · refine Yields.ite (fun _ => Yields.pure (fun h => by cases h)) (fun h => ?_)
    simp [Mt.encL] at h; omega

def ObjY (q : Nat) : Prop := ∀ (ctx : List Tm) (m a : Tm), ctxB ctx → Pr m → Pr a → m.count ≤ q → Yields (fun k => R06_Kernel_Object k ⟨sig, []⟩ ctx m a) (fun _ => True)

omit hsig in
theorem fits_y {q : Nat} (hobj : ObjY sig q) {ctx : List Tm} (hc : ctxB ctx) {l : List Tm} (hl : ∀ x ∈ l, Pr x ∧ x.count ≤ q) (hb : l.length ≤ 1000000) {t : Tm} (ht : Pr t) : Yields (fun k => R06_Kernel_fits k ⟨sig, []⟩ ctx l t) okR := by
  have loop : ∀ (p i : Nat) (t : Tm), p = l.length - i → i ≤ l.length → Pr t → Yields (fun k => R06_Kernel_fits_L1 k l ⟨sig, []⟩ ctx t (i : Int)) okR := by
    intro p
    induction p with
    | zero =>
      intro i t hq hi ht
      refine Yields.succ (fun k => R06_Kernel_fits_L1.eq_2 ..) ?_
      refine Yields.ite (fun h => ?_) (fun _ => Yields.pure (fun _ => ht))
      simp [Tm.encL_length] at h; omega
    | succ p ihp =>
      intro i t hq hi ht
      refine Yields.succ (fun k => R06_Kernel_fits_L1.eq_2 ..) ?_
      refine Yields.ite (fun _ => ?_) (fun _ => Yields.pure (fun _ => ht))
      refine Yields.ite (fun _ => Yields.pure (fun h => by cases h)) (fun h => ?_)
      obtain ⟨a, b, e, ha, hb', _⟩ := pr_two ht (by simpa using h)
      obtain ⟨x, hx, hxm, _⟩ := idx_of (show i < l.length by omega)
      refine Yields.some hx ?_
      refine Yields.some (x := a) (by rw [e]; rfl) ?_
      refine Yields.bind (hobj ctx x a hc (hl x hxm).1 ha (hl x hxm).2) (fun y _ => ?_)
      refine Yields.ite (fun h5 => Yields.pure ?_) (fun h5 => ?_)
      · have h5 : y ≠ 0 := by simpa using h5
        exact fun h => (h5 h).elim
      refine Yields.some hx ?_
      refine Yields.bind (instance_y ht (l := [x]) (by intro z hz; simp at hz; subst hz; exact (hl z hxm).1) (by simp)) (fun z hz => ?_)
      refine Yields.ite (fun h6 => Yields.pure ?_) (fun h6 => ?_)
      · have h6 : z.2 ≠ 0 := by simpa using h6
        exact fun h => (h6 h).elim
      rw [wrapS (by omega)]
      exact ihp (i + 1) z.1 (by omega) (by omega) (hz (by simpa using h6))
  refine Yields.succ (fun k => R06_Kernel_fits.eq_2 ..) ?_
  exact loop _ 0 t rfl (Nat.zero_le _) ht

theorem infer_y {q : Nat} (hobj : ObjY sig q) {ctx : List Tm} (hc : ctxB ctx) {m : Tm} (hm : Pr m) (hq : m.count ≤ q + 1) : Yields (fun k => R06_Kernel_Infer k ⟨sig, []⟩ ctx m) okR := by
  refine Yields.succ (fun k => R06_Kernel_Infer.eq_2 ..) ?_
  refine Yields.ite (fun _ => Yields.pure (fun h => by cases h)) (fun _ => ?_)
  refine Yields.bind (class_y sig hsig hc hm) (fun y hy => ?_)
  refine Yields.ite (fun h5 => Yields.pure ?_) (fun h5 => ?_)
  · have h5 : y.2 ≠ 0 := by simpa using h5
    exact fun h => (h5 h).elim
  have hlen := pr_len hm
  refine Yields.bind (fits_y sig hobj hc (l := m.args) (fun x hx => ⟨pr_arg hm hx, by have := cnt_arg hx; omega⟩) (by omega) (hy (by simpa using h5))) (fun z hz => ?_)
  refine Yields.ite (fun h6 => Yields.pure ?_) (fun h6 => ?_)
  · have h6 : z.2 ≠ 0 := by simpa using h6
    exact fun h => (h6 h).elim
  refine Yields.ite (fun _ => Yields.pure (fun h => by cases h)) (fun _ => Yields.pure (fun _ => hz (by simpa using h6)))

theorem object_y : ∀ (q : Nat), ObjY sig q
  | 0 => fun ctx m a hc hm ha hq => by have := Tm.count_pos m; omega
  | q + 1 => fun ctx m a hc hm ha hq => by
    have hobj := object_y q
    refine Yields.succ (fun k => R06_Kernel_Object.eq_2 ..) ?_
    refine Yields.ite (fun h2 => ?_) (fun _ => ?_)
    · refine Yields.ite (fun _ => Yields.pure trivial) (fun _ => ?_)
      refine Yields.ite (fun _ => Yields.pure trivial) (fun h3 => ?_)
      obtain ⟨a0, a1, e, ha0, ha1, _⟩ := pr_two ha (by simpa using h2)
      obtain ⟨m0, em, hm0, hcm⟩ := pr_one hm (by simpa using h3)
      refine Yields.some (x := a0) (by rw [e]; rfl) ?_
      refine Yields.bind (longer_y hc ha0) (fun y hy => ?_)
      refine Yields.ite (fun _ => Yields.pure trivial) (fun h5 => ?_)
      refine Yields.some (x := m0) (by rw [em]; rfl) ?_
      refine Yields.some (x := a1) (by rw [e]; rfl) ?_
      exact Yields.bind (hobj y.1 m0 a1 (hy (by simpa using h5)) hm0 ha1 (by omega)) (fun z _ => Yields.pure trivial)
    refine Yields.ite (fun _ => ?_) (fun _ => Yields.pure trivial)
    refine Yields.ite (fun _ => Yields.pure trivial) (fun _ => ?_)
    refine Yields.bind (infer_y sig hsig hobj hc hm hq) (fun y _ => ?_)
    refine Yields.ite (fun _ => Yields.pure trivial) (fun _ => ?_)
    exact Yields.ite (fun _ => Yields.pure trivial) (fun _ => Yields.pure trivial)

theorem type_y : ∀ (q : Nat) (ctx : List Tm) (a : Tm), ctxB ctx → Pr a → a.count ≤ q → Yields (fun k => R06_Kernel_Type k ⟨sig, []⟩ ctx a) (fun _ => True) ∧ Yields (fun k => R06_Kernel_Kind k ⟨sig, []⟩ ctx a) (fun _ => True)
  | 0, ctx, a, hc, ha, hq => by have := Tm.count_pos a; omega
  | q + 1, ctx, a, hc, ha, hq => by
    have pi : a.op = 2 → ∀ b : Bool, Yields (fun k => R06_Kernel_pi k ⟨sig, []⟩ ctx a b) (fun _ => True) := by
      intro h2 b
      obtain ⟨a0, a1, e, ha0, ha1, c0, c1, _⟩ := pr_two ha h2
      refine Yields.succ (fun k => R06_Kernel_pi.eq_2 ..) ?_
      refine Yields.some (x := a0) (by rw [e]; rfl) ?_
      refine Yields.bind (type_y q ctx a0 hc ha0 (by omega)).1 (fun y _ => ?_)
      refine Yields.ite (fun _ => Yields.pure trivial) (fun _ => ?_)
      refine Yields.some (x := a0) (by rw [e]; rfl) ?_
      refine Yields.bind (longer_y hc ha0) (fun z hz => ?_)
      refine Yields.ite (fun _ => Yields.pure trivial) (fun h5 => ?_)
      have hz := hz (by simpa using h5)
      refine Yields.ite (fun _ => ?_) (fun _ => ?_)
      · refine Yields.some (x := a1) (by rw [e]; rfl) ?_
        exact Yields.bind (type_y q z.1 a1 hz ha1 (by omega)).2 (fun _ _ => Yields.pure trivial)
      · refine Yields.some (x := a1) (by rw [e]; rfl) ?_
        exact Yields.bind (type_y q z.1 a1 hz ha1 (by omega)).1 (fun _ _ => Yields.pure trivial)
    refine ⟨?_, ?_⟩
    · refine Yields.succ (fun k => R06_Kernel_Type.eq_2 ..) ?_
      refine Yields.ite (fun h2 => ?_) (fun _ => ?_)
      · exact Yields.bind (pi (by simpa using h2) false) (fun _ _ => Yields.pure trivial)
      refine Yields.ite (fun _ => Yields.pure trivial) (fun _ => ?_)
      refine Yields.bind (Ev.is (has_ev sig a.n)) (fun b hb => ?_)
      subst hb
      refine Yields.ite (fun _ => Yields.pure trivial) (fun h => ?_)
      have h := nb' h
      simp only [Bool.and_eq_true, decide_eq_true_eq] at h
      obtain ⟨d, hd, hdm⟩ := idx_pre h.1 h.2
      have hp := proper_small (hsig d hdm)
      refine Yields.bind (Ev.is (isFamily_ev hd hp.1 (by omega))) (fun b hb => ?_)
      refine Yields.ite (fun _ => Yields.pure trivial) (fun _ => ?_)
      refine Yields.some hd ?_
      have hlen := pr_len ha
      refine Yields.bind (fits_y sig (object_y sig hsig a.count) hc (l := a.args) (fun x hx => ⟨pr_arg ha hx, by have := cnt_arg hx; omega⟩) (by omega) (hsig d hdm)) (fun z hz => ?_)
      refine Yields.ite (fun _ => Yields.pure trivial) (fun _ => ?_)
      exact Yields.ite (fun _ => Yields.pure trivial) (fun _ => Yields.pure trivial)
    · refine Yields.succ (fun k => R06_Kernel_Kind.eq_2 ..) ?_
      refine Yields.ite (fun _ => Yields.pure trivial) (fun _ => ?_)
      refine Yields.ite (fun h2 => ?_) (fun _ => Yields.pure trivial)
      exact Yields.bind (pi (by simpa using h2) true) (fun _ _ => Yields.pure trivial)

end

/-! sizes of any terms whose lists are short -/
mutual
/-- No list in it is longer than 2^60. -/
def shT : Tm → Prop
  | .mk _ _ _ args => args.length ≤ 1152921504606846976 ∧ shTL args
def shTL : List Tm → Prop
  | [] => True
  | s :: r => shT s ∧ shTL r
 end
theorem shTL_mem : ∀ {l : List Tm} {s : Tm}, shTL l → s ∈ l → shT s
  | _ :: r, s, h, hs => by
    simp only [shTL] at h
    rcases List.mem_cons.1 hs with e | e
    · subst e; exact h.1
    · exact shTL_mem h.2 e
theorem shT_args {s : Tm} (h : shT s) : s.args.length ≤ 1152921504606846976 ∧ shTL s.args := by cases s; exact h
mutual
theorem shT_of : ∀ (t : Tm), okD t.enc → shT t
  | .mk o h n us, hk => by
    simp only [Tm.enc, okD, okL] at hk
    simp only [shT]
    exact ⟨by have := hk.2.2.2.1.1; rwa [Tm.encL_length] at this, shTL_of us hk.2.2.2.1.2⟩
theorem shTL_of : ∀ (us : List Tm), okL (Tm.encL us) → shTL us
  | [], _ => trivial
  | u :: us, hk => by
    simp only [Tm.encL, okL] at hk
    exact ⟨shT_of u hk.1, shTL_of us hk.2⟩
 end

theorem nodes_y (t : Tm) : shT t → ∀ m : Int, Yields (fun k => R03_nodes k t m) (fun _ => True) := by
  induction t using Tm.ind with
  | h t ih =>
    intro ht m
    obtain ⟨hl, hb⟩ := shT_args ht
    have loop : ∀ (q i : Nat) (c : Int), q = t.args.length - i → i ≤ t.args.length → Yields (fun k => R03_nodes_L1 k t m c (i : Int)) (fun _ => True) := by
      intro q
      induction q with
      | zero =>
        intro i c hq hi
        refine Yields.succ (fun k => R03_nodes_L1.eq_2 ..) ?_
        refine Yields.ite (fun h => ?_) (fun _ => Yields.pure trivial)
        simp [Tm.encL_length] at h; omega
      | succ q ihq =>
        intro i c hq hi
        refine Yields.succ (fun k => R03_nodes_L1.eq_2 ..) ?_
        refine Yields.ite (fun _ => ?_) (fun _ => Yields.pure trivial)
        obtain ⟨x, hx, hxm, _⟩ := idx_of (show i < t.args.length by omega)
        refine Yields.some hx ?_
        refine Yields.bind (ih x hxm (shTL_mem hb hxm) _) (fun y _ => ?_)
        rw [wrapS (by omega)]
        exact ihq (i + 1) _ (by omega) (by omega)
    refine Yields.succ (fun k => R03_nodes.eq_2 ..) ?_
    exact loop _ 0 _ rfl (Nat.zero_le _)

theorem depth_y (t : Tm) : shT t → Yields (fun k => R03_Depth k t) (fun _ => True) := by
  induction t using Tm.ind with
  | h t ih =>
    intro ht
    obtain ⟨hl, hb⟩ := shT_args ht
    have loop : ∀ (q i : Nat) (c : Int), q = t.args.length - i → i ≤ t.args.length → Yields (fun k => R03_Depth_L1 k t c (i : Int)) (fun _ => True) := by
      intro q
      induction q with
      | zero =>
        intro i c hq hi
        refine Yields.succ (fun k => R03_Depth_L1.eq_2 ..) ?_
        refine Yields.ite (fun h => ?_) (fun _ => Yields.pure trivial)
        simp [Tm.encL_length] at h; omega
      | succ q ihq =>
        intro i c hq hi
        refine Yields.succ (fun k => R03_Depth_L1.eq_2 ..) ?_
        refine Yields.ite (fun _ => ?_) (fun _ => Yields.pure trivial)
        obtain ⟨x, hx, hxm, _⟩ := idx_of (show i < t.args.length by omega)
        refine Yields.some hx ?_
        refine Yields.bind (ih x hxm (shTL_mem hb hxm)) (fun y _ => ?_)
        rw [wrapS (by omega)]
        exact ihq (i + 1) _ (by omega) (by omega)
    refine Yields.succ (fun k => R03_Depth.eq_2 ..) ?_
    exact loop _ 0 _ rfl (Nat.zero_le _)

theorem size_y {t : Tm} (ht : shT t) : Yields (fun k => R03_Size k t) (fun _ => True) := by
  refine Yields.succ (fun k => R03_Size.eq_2 ..) ?_
  exact Yields.bind (nodes_y t ht _) (fun _ _ => Yields.bind (depth_y t ht) (fun _ _ => Yields.pure trivial))

/-- What is known of a signature's lists. -/
def sigB (sig : List Dc) : Prop := sig.length ≤ 1152921504606846976 ∧ ∀ d ∈ sig, shT d.cls

end Go.Proofs.YtpibdcjdamibdaaGreat
end

/-! EvP -/
section
namespace Go.Proofs.YtpibdcjdamibdaaGreat
open Go.Tr Go
set_option linter.unusedVariables false
set_option linter.unusedSimpArgs false
set_option maxRecDepth 10000

theorem idxOf {α : Type} {l : List α} {i : Nat} (h : i < l.length) : ∃ x, idx l (i : Int) = some x ∧ x ∈ l ∧ l[i]? = some x :=
  ⟨l[i], by rw [idx_nat]; exact List.getElem?_eq_getElem h, List.getElem_mem h, List.getElem?_eq_getElem h⟩
theorem getDrop {α : Type} {l : List α} {i : Nat} {u : α} {ts : List α} (hd : l.drop i = u :: ts) : l[i]? = some u := by
  have := congrArg (fun l => l[0]?) hd
  simpa using this
theorem dropDrop {α : Type} {l : List α} {i : Nat} {u : α} {ts : List α} (hd : l.drop i = u :: ts) : l.drop (i + 1) = ts := by
  rw [← List.drop_drop, hd]; rfl

theorem index_y (l : List Int) (v : Int) (hl : l.length ≤ 1000000) : ∀ (ts : List Int) (i : Nat), l.drop i = ts → i + ts.length = l.length → Yields (fun n => slices_Index_L1 n l v (i : Int)) (fun r => decide (r ≥ 0) = ts.any (fun x => v == x))
  | [], i, hd, hi => by
    refine Yields.succ (fun k => slices_Index_L1.eq_2 ..) ?_
    simp only [List.length_nil, Nat.add_zero] at hi
    refine Yields.ite (fun h => by exfalso; simp [hi] at h) (fun _ => Yields.pure rfl)
  | x :: ts, i, hd, hi => by
    refine Yields.succ (fun k => slices_Index_L1.eq_2 ..) ?_
    simp only [List.length_cons] at hi
    refine Yields.ite (fun _ => ?_) (fun h => by exfalso; simp at h; omega)
    refine Yields.some (idx_get (getDrop hd)) ?_
    refine Yields.ite (fun h => ?_) (fun h => ?_)
    · refine Yields.pure ?_
      simp only [List.any_cons, h, Bool.true_or]
      simp
    · simp only [List.any_cons, h, Bool.false_or]
      rw [wrapS (by omega)]
      exact index_y l v hl ts (i + 1) (dropDrop hd) (by omega)

theorem contains_ev (l : List Int) (v : Int) (hl : l.length ≤ 1000000) : Ev (fun n => slices_Contains n l v) (l.any (fun x => v == x)) := by
  refine Yields.ev ?_
  refine Yields.succ (fun k => slices_Contains.eq_2 ..) ?_
  refine Yields.bind (q := fun r => decide (r ≥ 0) = l.any (fun x => v == x)) ?_ (fun r hr => Yields.pure hr)
  refine Yields.succ (fun k => slices_Index.eq_2 ..) ?_
  exact index_y l v hl l 0 rfl (by simp)

/-! raw expressions -/
theorem br (a b : UInt8) : (⟨#[a]⟩ : ByteArray) ++ (⟨#[b]⟩ : ByteArray) = ⟨#[a, b]⟩ := rfl
end Go.Proofs.YtpibdcjdamibdaaGreat
end

/-! EvR -/
section
namespace Go.Proofs.YtpibdcjdamibdaaGreat
open Go.Tr Go
set_option linter.unusedVariables false
set_option linter.unusedSimpArgs false
set_option maxRecDepth 10000

theorem refBelow_ev (t : Tm) (i : Int) : Ev (fun k => R03_below k t i) (under t.op i) := by
  refine Ev.succ (fun k => R03_below.eq_2 ..) ?_
  by_cases h : t.op = 3 ∨ t.op = 2 ∧ i = 1
  · rw [under, if_pos h]
    exact Ev.t (by simpa using h) (Ev.pure _)
  · rw [under, if_neg h]
    exact Ev.f (by simpa using h) (Ev.pure _)

theorem low_ev (t : Tm) : ∀ (a b : Int), t.count ≤ 1000 → 0 ≤ a → 0 ≤ b → a + t.height ≤ 1000000 → b + t.height ≤ 1000000 → Ev (fun n => R03_low n t a b) (lowF t a b) := by
  induction t using Tm.ind with
  | h t ih =>
    intro a b hc ha hb ha2 hb2
    have hcl := Tm.length_le_countL t.args
    have hce := Tm.count_eq t
    have hhe := Tm.height_eq t
    have loop : ∀ (ts : List Tm) (i : Nat), t.args.drop i = ts → i + ts.length = t.args.length → Ev (fun k => R03_low_L1 k t a b (i : Int)) (lowL t.op ts i a b) := by
      intro ts
      induction ts with
      | nil =>
        intro i hd hi
        refine Ev.succ (fun k => R03_low_L1.eq_2 ..) ?_
        simp only [List.length_nil, Nat.add_zero] at hi
        exact Ev.f (by simp [Tm.encL_length, hi]) (Ev.pure _)
      | cons u ts ihl =>
        intro i hd hi
        refine Ev.succ (fun k => R03_low_L1.eq_2 ..) ?_
        simp only [List.length_cons] at hi
        have hu := getDrop hd
        have hum := List.mem_of_getElem? hu
        have hh := Tm.height_le hum
        have hul := under_le t.op i
        have hcu : u.count ≤ t.count := by
          have : ∀ (us : List Tm), u ∈ us → u.count ≤ Tm.countL us := by
            intro us
            induction us with
            | nil => intro h; cases h
            | cons v us ih =>
              intro h
              simp only [Tm.countL]
              rcases List.mem_cons.1 h with e | e
              · subst e; omega
              · have := ih e; omega
          have := this _ hum
          omega
        refine Ev.t (by simp [Tm.encL_length]; omega) ?_
        refine (refBelow_ev t _).bind (Ev.some (idx_get hu) ?_)
        rw [wrap_i64 (n := a + under t.op i) (by omega) (by omega), wrap_i64 (n := b + under t.op i) (by omega) (by omega)]
        refine (ih u hum _ _ (by omega) (by omega) (by omega) (by omega) (by omega)).bind ?_
        simp only [lowL]
        refine Ev.ite (fun h => ?_) (fun h => ?_)
        · rw [h, Bool.true_or]; exact Ev.pure _
        · rw [h, Bool.false_or, wrapS (by omega)]
          exact ihl (i + 1) (dropDrop hd) (by omega)
    refine Ev.succ (fun k => R03_low.eq_2 ..) ?_
    rw [lowF_eq]
    refine Ev.ite (fun h => ?_) (fun h => ?_)
    · rw [h, Bool.true_or]; exact Ev.pure _
    · rw [h, Bool.false_or]
      exact loop t.args 0 rfl (by simp)

mutual
theorem low_fv (x : Int) : ∀ (t : Tm) (k : Int), okAll t = true → 0 ≤ k → 0 ≤ x → (lowF t (x + k) (x + k) = true ↔ x ∈ fvF t k)
  | .mk o h n us, k, hok, hk, hx => by
    simp only [okAll, Bool.and_eq_true] at hok
    simp only [lowF, fvF, List.mem_append, Bool.or_eq_true]
    rw [low_fvL x o us 0 k hok.2 hk hx]
    refine or_congr ?_ Iff.rfl
    by_cases h1 : o = 4 ∧ h = 1 ∧ n ≥ k
    · rw [if_pos h1]
      obtain ⟨e1, e2, e3⟩ := h1
      subst e1 e2
      simp; omega
    · rw [if_neg h1]
      simp only [List.not_mem_nil, iff_false, Bool.and_eq_true, beq_iff_eq, decide_eq_true_eq]
      rintro ⟨⟨⟨e1, e2⟩, e3⟩, e4⟩
      exact h1 ⟨e1, e2, by omega⟩
theorem low_fvL (x : Int) : ∀ (o : Int) (us : List Tm) (i : Nat) (k : Int), okAllL us = true → 0 ≤ k → 0 ≤ x → (lowL o us i (x + k) (x + k) = true ↔ x ∈ fvL o us i k)
  | o, [], i, k, _, _, _ => by simp [lowL, fvL]
  | o, u :: us, i, k, hok, hk, hx => by
    simp only [okAllL, Bool.and_eq_true] at hok
    have hu := under_le o i
    simp only [lowL, fvL, List.mem_append, Bool.or_eq_true]
    rw [low_fvL x o us (i + 1) k hok.2 hk hx]
    have e : x + k + under o i = x + (k + under o i) := by omega
    rw [e, low_fv x u (k + under o i) hok.1 (by omega) hx]
 end

theorem freeL_any {t : Tm} (hp : isProper t = true) : (freeL t).any (fun x => (0 : Int) == x) = lowF t 0 0 := by
  obtain ⟨hok, hh, _⟩ := proper_small hp
  rw [freeL, if_pos hp, Bool.eq_iff_iff]
  have h1 := low_fv 0 t 0 hok (by omega) (by omega)
  rw [show (0 : Int) + 0 = 0 by omega] at h1
  rw [h1, List.any_eq_true]
  have h2 : ∀ x, x ∈ numsOf freeOf t ↔ x ∈ fvF t 0 := by
    intro x
    rw [numsOf, sorted_mem, walk_mem x t 0 [] hok (by omega) (by omega)]
    simp
  constructor
  · rintro ⟨x, hx, e⟩
    rw [beq_iff_eq] at e
    subst e
    exact (h2 _).1 hx
  · intro h
    exact ⟨0, (h2 _).2 h, by simp⟩

theorem occurs_ev {t : Tm} (hp : isProper t = true) : Ev (fun n => term_Occurs n t 0) (lowF t 0 0, 0) := by
  refine Ev.succ (fun k => term_Occurs.eq_2 ..) ?_
  have hlen : (freeL t).length ≤ 1000000 := by
    have h1 := walkF_length freeOf t [] 0
    have h2 := (proper_small hp).2.2
    rw [freeL, if_pos hp]
    simp only [numsOf, sorted, List.length_mergeSort, List.length_map]
    simp only [List.length_nil] at h1
    omega
  refine (contains_ev (freeL t) 0 hlen).bind ((Ev.pure _).eq ?_)
  rw [freeL_any hp, freeE, if_pos hp]
theorem refOccurs_ev {t : Tm} (hp : isProper t = true) : Ev (fun n => R03_Occurs n t 0) (lowF t 0 0) := by
  obtain ⟨hok, hh, hc⟩ := proper_small hp
  refine Ev.succ (fun k => R03_Occurs.eq_2 ..) ?_
  refine Ev.t rfl ((low_ev t 0 0 (by omega) (by omega) (by omega) (by omega) (by omega)).bind (Ev.pure _))

/-! moved terms -/
mutual
theorem moved_count (b : Int) : ∀ (t : Tm) (f : Int), (movedF t b f).count = t.count
  | .mk o h n us, f => by simp only [movedF, Tm.count, moved_countL b o us 0 f]
theorem moved_countL (b : Int) : ∀ (o : Int) (us : List Tm) (i : Nat) (f : Int), Tm.countL (movedL o us i b f) = Tm.countL us
  | o, [], i, f => rfl
  | o, u :: us, i, f => by simp only [movedL, Tm.countL, moved_count b u, moved_countL b o us]
 end
mutual
theorem moved_height (b : Int) : ∀ (t : Tm) (f : Int), (movedF t b f).height = t.height
  | .mk o h n us, f => by simp only [movedF, Tm.height, moved_heightL b o us 0 f]
theorem moved_heightL (b : Int) : ∀ (o : Int) (us : List Tm) (i : Nat) (f : Int), Tm.heightL (movedL o us i b f) = Tm.heightL us
  | o, [], i, f => rfl
  | o, u :: us, i, f => by simp only [movedL, Tm.heightL, moved_height b u, moved_heightL b o us]
 end

end Go.Proofs.YtpibdcjdamibdaaGreat
end

/-! OcA -/
section
namespace Go.Proofs.YtpibdcjdamibdaaGreat
open Go.Tr Go
set_option linter.unusedVariables false
set_option linter.unusedSimpArgs false
set_option maxRecDepth 10000

theorem okAll_zero {t : Tm} (h : okAll t = true) (ho : t.op = 1) : t.args = [] := by
  cases t with
  | mk o hd n us =>
    simp only [Tm.op] at ho
    subst ho
    simp only [okAll, okNode, Bool.and_eq_true] at h
    have h1 : us.length = 0 := by have := h.1; simp at this; simpa using this.2
    exact List.eq_nil_of_length_eq_zero h1

theorem spl_acc : ∀ (n : Nat) (t : Tm) (l : List Tm), spl n t l = (l ++ (spl n t []).1, (spl n t []).2)
  | 0, t, l => by simp [spl]
  | n + 1, t, l => by
    simp only [spl]
    by_cases h : t.op = 2
    · rw [if_pos h, if_pos h]
      split
      · rename_i a b _ _
        rw [spl_acc n b (l ++ [a]), spl_acc n b ([] ++ [a])]
        simp
      · simp
    · rw [if_neg h, if_neg h]; simp

theorem split_leaf {t : Tm} (h : t.op ≠ 2) : split t = ([], t) := by
  unfold split
  cases hh : t.height with
  | zero => rfl
  | succ n => simp only [spl, if_neg h]

theorem split_pi {t a b : Tm} (hok : okAll t = true) (h : t.op = 2) (e : t.args = [a, b]) : split t = (a :: (split b).1, (split b).2) := by
  obtain ⟨a', b', e', _, hb, _, hh, _⟩ := okAll_two hok h
  rw [e] at e'
  simp only [List.cons.injEq, and_true] at e'
  obtain ⟨rfl, rfl⟩ := e'
  unfold split
  obtain ⟨m, hm⟩ : ∃ m, t.height = m + 1 := ⟨t.height - 1, by have := Tm.height_pos t; omega⟩
  rw [hm]
  simp only [spl, if_pos h, e]
  rw [spl_acc, spl_more m b.height b [] hb (by omega) (Nat.le_refl _)]
  simp

/-- By the outermost TPis. -/
theorem split_ind {motive : Tm → Prop} (leaf : ∀ t, okAll t = true → t.op ≠ 2 → motive t) (pi : ∀ t a b, okAll t = true → t.op = 2 → t.args = [a, b] → okAll a = true → okAll b = true → b.height < t.height → a.height < t.height → b.count < t.count → a.count < t.count → motive b → motive t) : ∀ t, okAll t = true → motive t := by
  have key : ∀ (n : Nat) (t : Tm), t.height ≤ n → okAll t = true → motive t := by
    intro n
    induction n with
    | zero => intro t h; have := Tm.height_pos t; omega
    | succ n ih =>
      intro t h hok
      by_cases h2 : t.op = 2
      · obtain ⟨a, b, e, ha, hb, hha, hhb, hc⟩ := okAll_two hok h2
        have := Tm.count_pos a
        have := Tm.count_pos b
        exact pi t a b hok h2 e ha hb (by omega) (by omega) (by omega) (by omega) (ih b (by omega) hb)
      · exact leaf t hok h2
  exact fun t hok => key t.height t (Nat.le_refl _) hok

/-- A kind with so many TPis. -/
inductive Kd : Nat → Tm → Prop
  | ty {t : Tm} (h : t.op = 1) : Kd 0 t
  | pi {t a b : Tm} {j : Nat} (h : t.op = 2) (e : t.args = [a, b]) (k : Kd j b) : Kd (j + 1) t

theorem kd_split : ∀ t, okAll t = true → kindT t = true → Kd (split t).1.length t := by
  refine split_ind ?_ ?_
  · intro t hok h2 hk
    rw [kindT, split_leaf h2] at hk
    rw [split_leaf h2]
    exact Kd.ty (by simpa using hk)
  · intro t a b hok h2 e ha hb _ _ _ _ ih hk
    rw [kindT, split_pi hok h2 e] at hk
    rw [split_pi hok h2 e]
    exact Kd.pi h2 e (ih hk)

theorem whole_is (t : Tm) : Yields (fun k => R04_whole k t) (fun r => okR r ∧ (r.2 = 0 → r.1 = t)) := by
  refine Yields.succ (fun k => R04_whole.eq_2 ..) ?_
  rw [refProper_eq]
  refine Yields.ite (fun h => Yields.pure ⟨?_, ?_⟩) (fun h => Yields.pure ⟨?_, ?_⟩)
  · intro h; cases h
  · intro h; cases h
  · intro _; exact nb' h
  · intro _; rfl

theorem put_kd : ∀ (j : Nat) (t : Tm) (n : Int) (s : Tm) (p : Sm) (c : Int), Kd j t → 0 ≤ c → c ≤ 20000 → Pr t → Pr s → Yields (fun k => R04_count_put k t n s p ⟨c⟩) (fun r => okP c r ∧ (r.2.1 = 0 → Kd j r.1))
  | 0, t, n, s, p, c, hk, h0, h1, ht, hs => by
    cases hk with
    | ty ho =>
    refine Yields.succ (fun k => R04_count_put.eq_2 ..) ?_
    simp only [wrapc h0 (by omega)]
    refine Yields.ite (fun h2 => Yields.pure ?_) (fun h2 => ?_)
    · have h2 : 20000 < c + 1 := by simpa using h2
      refine ⟨⟨?_, ?_, fun h => by cases h⟩, fun h => by cases h⟩ <;> simp only <;> omega
    have h2 : c + 1 ≤ 20000 := by simpa using h2
    refine Yields.succ (fun k => R04_count_put_L1.eq_2 ..) ?_
    refine Yields.ite (fun h => ?_) (fun _ => ?_)
    · rw [okAll_zero (proper_small ht).1 ho] at h
      simp [Tm.encL] at h
    refine Yields.ite (fun _ => ?_) (fun h => ?_)
    · refine Yields.bind (whole_is _) (fun y hy => Yields.pure ⟨⟨?_, ?_, fun h => ⟨hy.1 h, ?_⟩⟩, fun h => ?_⟩)
      · simp only; omega
      · simp only; omega
      · simp only; omega
      · have hy2 : y.1 = _ := hy.2 h
        simp only
        rw [hy2]
        exact Kd.ty ho
    · exfalso; simp [ho] at h
  | j + 1, t, n, s, p, c, hk, h0, h1, ht, hs => by
    cases hk with
    | @pi _ a b _ ho e kb =>
    have hpa : Pr a := pr_arg ht (by rw [e]; simp)
    have hpb : Pr b := pr_arg ht (by rw [e]; simp)
    refine Yields.succ (fun k => R04_count_put.eq_2 ..) ?_
    simp only [wrapc h0 (by omega)]
    refine Yields.ite (fun h2 => Yields.pure ?_) (fun h2 => ?_)
    · have h2 : 20000 < c + 1 := by simpa using h2
      refine ⟨⟨?_, ?_, fun h => by cases h⟩, fun h => by cases h⟩ <;> simp only <;> omega
    have h2 : c + 1 ≤ 20000 := by simpa using h2
    refine Yields.succ (fun k => R04_count_put_L1.eq_2 ..) ?_
    refine Yields.ite (fun _ => ?_) (fun h => ?_)
    rotate_left
    · rw [e] at h; simp [Tm.encL] at h
    refine Yields.ite (fun h => ?_) (fun _ => ?_)
    · simp [ho] at h
    refine Yields.some (x := a) (by rw [e]; rfl) ?_
    refine Yields.bind (put_y 20001 a _ s p (c + 1) (by omega) h2 (by omega) hpa hs) (fun y hy => ?_)
    obtain ⟨y1, y2, ⟨y3⟩⟩ := y
    obtain ⟨e1, e2, e3⟩ := hy
    simp only at e1 e2 e3 ⊢
    refine Yields.ite (fun h5 => Yields.pure ?_) (fun h5 => ?_)
    · have h5 : y2 ≠ 0 := by simpa using h5
      exact ⟨⟨by simp only; omega, e2, fun h => (h5 h).elim⟩, fun h => (h5 h).elim⟩
    have h5 : y2 = 0 := by simpa using h5
    have h6 := e3 h5
    refine Yields.need (by simp [Tm.encL, Tm.args]) ?_
    refine Yields.succ (fun k => R04_count_put_L1.eq_2 ..) ?_
    refine Yields.ite (fun _ => ?_) (fun h => ?_)
    rotate_left
    · rw [e] at h; simp [Tm.encL, IntKind.wrap_i64] at h
    refine Yields.ite (fun _ => ?_) (fun h => ?_)
    rotate_left
    · simp [ho, IntKind.wrap_i64] at h
    refine Yields.some (x := b) (by rw [e]; rfl) ?_
    refine Yields.bind (put_kd j b _ s p y3 kb (by omega) h6.2 hpb hs) (fun z hz => ?_)
    obtain ⟨z1, z2, ⟨z3⟩⟩ := z
    obtain ⟨⟨g1, g2, g3⟩, g4⟩ := hz
    simp only at g1 g2 g3 g4 ⊢
    refine Yields.ite (fun h7 => Yields.pure ?_) (fun h7 => ?_)
    · have h7 : z2 ≠ 0 := by simpa using h7
      exact ⟨⟨by simp only; omega, g2, fun h => (h7 h).elim⟩, fun h => (h7 h).elim⟩
    have h7 : z2 = 0 := by simpa using h7
    have h8 := g3 h7
    refine Yields.need (by simp [Tm.encL, Tm.args]) ?_
    refine Yields.succ (fun k => R04_count_put_L1.eq_2 ..) ?_
    refine Yields.ite (fun h => ?_) (fun _ => ?_)
    · rw [e] at h; simp [Tm.encL, IntKind.wrap_i64] at h
    refine Yields.ite (fun _ => ?_) (fun h => ?_)
    rotate_left
    · simp [ho] at h
    refine Yields.bind (whole_is _) (fun y hy => Yields.pure ⟨⟨?_, ?_, fun h => ⟨hy.1 h, ?_⟩⟩, fun h => ?_⟩)
    · simp only; omega
    · simp only; omega
    · simp only; omega
    · have hy2 : y.1 = _ := hy.2 h
      simp only
      rw [hy2]
      exact Kd.pi ho rfl (g4 h7)

theorem step_kd {j : Nat} {t m : Tm} (hk : Kd (j + 1) t) (ht : Pr t) (hm : Pr m) : Yields (fun k => R04_count_step k t m ⟨0⟩) (fun r => okP 0 r ∧ (r.2.1 = 0 → Kd j r.1)) := by
  cases hk with
  | @pi _ a b _ ho e kb =>
  refine Yields.succ (fun k => R04_count_step.eq_2 ..) ?_
  have bad : ∀ e : Int, e ≠ 0 → okP 0 ((Tm.mk 0 0 0 ([])), e, ⟨0⟩) := fun e he => ⟨Int.le_refl _, by simp only; omega, fun h => (he h).elim⟩
  have ha : Pr a := pr_arg ht (by rw [e]; simp)
  have hb : Pr b := pr_arg ht (by rw [e]; simp)
  refine Yields.ite (fun _ => Yields.pure ⟨bad _ (by decide), fun h => by cases h⟩) (fun h => ?_)
  rw [e]
  refine Yields.some (x := a) rfl ?_
  refine Yields.bind (simple_y a.count a (Nat.le_refl _) ha) (fun x hx => ?_)
  refine Yields.ite (fun _ => Yields.pure ⟨bad _ (by decide), fun h => by cases h⟩) (fun _ => ?_)
  refine Yields.bind (small_y hx.2) (fun y _ => ?_)
  refine Yields.ite (fun _ => Yields.pure ⟨bad _ (by decide), fun h => by cases h⟩) (fun _ => ?_)
  refine Yields.some (x := b) rfl ?_
  exact Yields.bind (put_kd j b 0 m x.1 0 kb (by omega) (by omega) hb hm) (fun r hr => Yields.pure hr)

theorem instance_kd {j : Nat} {t x : Tm} (hk : Kd (j + 1) t) (ht : Pr t) (hx : Pr x) : Yields (fun k => R04_Instance k t [x]) (fun r => okR r ∧ (r.2 = 0 → Kd j r.1)) := by
  refine Yields.succ (fun k => R04_Instance.eq_2 ..) ?_
  rw [refProper_eq]
  refine Yields.ite (fun h => Yields.pure ⟨fun h => (by cases h), fun h => (by cases h)⟩) (fun _ => ?_)
  refine Yields.bind (list_y [x] (by simp)) (fun y _ => ?_)
  refine Yields.ite (fun h => Yields.pure ⟨fun h => (by cases h), fun h => (by cases h)⟩) (fun _ => ?_)
  refine Yields.succ (fun k => R04_Instance_L1.eq_2 ..) ?_
  refine Yields.ite (fun _ => ?_) (fun h => ?_)
  rotate_left
  · simp [Tm.encL] at h
  refine Yields.some (x := x) rfl ?_
  refine Yields.bind (step_kd hk ht hx) (fun y hy => ?_)
  obtain ⟨y1, y2, y3⟩ := y
  obtain ⟨⟨e1, e2, e3⟩, e4⟩ := hy
  simp only at e1 e2 e3 e4 ⊢
  refine Yields.ite (fun h5 => Yields.pure ?_) (fun h5 => ?_)
  · have h5 : y2 ≠ 0 := by simpa using h5
    exact ⟨fun h => (h5 h).elim, fun h => (h5 h).elim⟩
  have h5 : y2 = 0 := by simpa using h5
  refine Yields.succ (fun k => R04_Instance_L1.eq_2 ..) ?_
  refine Yields.ite (fun h => ?_) (fun _ => Yields.pure ⟨fun _ => (e3 h5).1, fun _ => e4 h5⟩)
  simp [Tm.encL, IntKind.wrap_i64] at h

section
variable (sig : List Dc) (hsig : ∀ x ∈ sig, Pr x.cls)

theorem fits_kd {q : Nat} (hobj : ObjY sig q) {ctx : List Tm} (hc : ctxB ctx) {l : List Tm} (hl : ∀ x ∈ l, Pr x ∧ x.count ≤ q) (hb : l.length ≤ 1000000) {t : Tm} (ht : Pr t) {j : Nat} (hk : Kd j t) : Yields (fun k => R06_Kernel_fits k ⟨sig, []⟩ ctx l t) (fun r => r.2 = 0 → l.length ≤ j ∧ Kd (j - l.length) r.1) := by
  have loop : ∀ (p i : Nat) (t : Tm) (m : Nat), p = l.length - i → i ≤ l.length → Pr t → Kd m t → m + i = j → Yields (fun k => R06_Kernel_fits_L1 k l ⟨sig, []⟩ ctx t (i : Int)) (fun r => r.2 = 0 → l.length ≤ j ∧ Kd (j - l.length) r.1) := by
    intro p
    induction p with
    | zero =>
      intro i t m hq hi ht hk hm
      refine Yields.succ (fun k => R06_Kernel_fits_L1.eq_2 ..) ?_
      refine Yields.ite (fun h => ?_) (fun _ => Yields.pure (fun _ => ⟨by omega, ?_⟩))
      · simp [Tm.encL_length] at h; omega
      · have : j - l.length = m := by omega
        rw [this]; exact hk
    | succ p ihp =>
      intro i t m hq hi ht hk hm
      refine Yields.succ (fun k => R06_Kernel_fits_L1.eq_2 ..) ?_
      refine Yields.ite (fun _ => ?_) (fun h => ?_)
      rotate_left
      · simp [Tm.encL_length] at h; omega
      refine Yields.ite (fun _ => Yields.pure (fun h => by cases h)) (fun h => ?_)
      have h2 : t.op = 2 := by simpa using h
      obtain ⟨m', rfl⟩ : ∃ m', m = m' + 1 := by
        cases hk with
        | ty ho => omega
        | pi ho e kb => exact ⟨_, rfl⟩
      obtain ⟨a, b, e, ha, hb', _⟩ := pr_two ht h2
      obtain ⟨x, hx, hxm, _⟩ := idx_of (show i < l.length by omega)
      refine Yields.some hx ?_
      refine Yields.some (x := a) (by rw [e]; rfl) ?_
      refine Yields.bind (hobj ctx x a hc (hl x hxm).1 ha (hl x hxm).2) (fun y _ => ?_)
      refine Yields.ite (fun h5 => Yields.pure ?_) (fun h5 => ?_)
      · have h5 : y ≠ 0 := by simpa using h5
        exact fun h => (h5 h).elim
      refine Yields.some hx ?_
      refine Yields.bind (instance_kd hk ht (hl x hxm).1) (fun z hz => ?_)
      refine Yields.ite (fun h6 => Yields.pure ?_) (fun h6 => ?_)
      · have h6 : z.2 ≠ 0 := by simpa using h6
        exact fun h => (h6 h).elim
      have h6 : z.2 = 0 := by simpa using h6
      rw [wrapS (by omega)]
      exact ihp (i + 1) z.1 m' (by omega) (by omega) (hz.1 h6) (hz.2 h6) (by omega)
  refine Yields.succ (fun k => R06_Kernel_fits.eq_2 ..) ?_
  exact loop _ 0 t j rfl (Nat.zero_le _) ht hk (by omega)

/-- A family with all its arguments. -/
def leafT (t : Tm) : Prop := t.op = 4 ∧ t.hd = 2 ∧ ∃ d, idx sig t.n = some d ∧ kindT d.cls = true ∧ t.args.length = (split d.cls).1.length
/-- A type, by its form. -/
inductive TyT : Tm → Prop
  | app {t : Tm} (h : leafT sig t) : TyT t
  | pi {t a b : Tm} (h : t.op = 2) (e : t.args = [a, b]) (ha : TyT a) (hb : TyT b) : TyT t

include hsig in
theorem type_kd : ∀ (q : Nat) (ctx : List Tm) (a : Tm), ctxB ctx → Pr a → a.count ≤ q → Yields (fun k => R06_Kernel_Type k ⟨sig, []⟩ ctx a) (fun e => e = 0 → TyT sig a)
  | 0, ctx, a, hc, ha, hq => by have := Tm.count_pos a; omega
  | q + 1, ctx, a, hc, ha, hq => by
    refine Yields.succ (fun k => R06_Kernel_Type.eq_2 ..) ?_
    refine Yields.ite (fun h2 => ?_) (fun _ => ?_)
    · have h2 : a.op = 2 := by simpa using h2
      obtain ⟨a0, a1, e, ha0, ha1, c0, c1, _⟩ := pr_two ha h2
      refine Yields.bind (q := fun e => e = 0 → TyT sig a) ?_ (fun x hx => Yields.pure hx)
      refine Yields.succ (fun k => R06_Kernel_pi.eq_2 ..) ?_
      refine Yields.some (x := a0) (by rw [e]; rfl) ?_
      refine Yields.bind (type_kd q ctx a0 hc ha0 (by omega)) (fun y hy => ?_)
      refine Yields.ite (fun h => Yields.pure (fun h' => by simp [h'] at h)) (fun h0 => ?_)
      have h0 : y = 0 := by simpa using h0
      refine Yields.some (x := a0) (by rw [e]; rfl) ?_
      refine Yields.bind (longer_y hc ha0) (fun z hz => ?_)
      refine Yields.ite (fun h => Yields.pure (fun h' => by simp [h'] at h)) (fun h5 => ?_)
      have hz := hz (by simpa using h5)
      refine Yields.some (x := a1) (by rw [e]; rfl) ?_
      exact Yields.bind (type_kd q z.1 a1 hz ha1 (by omega)) (fun w hw => Yields.pure (fun h => TyT.pi h2 e (hy h0) (hw h)))
    refine Yields.ite (fun _ => Yields.pure (fun h => by cases h)) (fun h4 => ?_)
    refine Yields.bind (Ev.is (has_ev sig a.n)) (fun b hb => ?_)
    subst hb
    refine Yields.ite (fun _ => Yields.pure (fun h => by cases h)) (fun h => ?_)
    have h := nb' h
    simp only [Bool.and_eq_true, decide_eq_true_eq] at h
    obtain ⟨d, hd, hdm⟩ := idx_pre h.1 h.2
    have hp := proper_small (hsig d hdm)
    refine Yields.bind (Ev.is (isFamily_ev hd hp.1 (by omega))) (fun b hb => ?_)
    subst hb
    refine Yields.ite (fun _ => Yields.pure (fun h => by cases h)) (fun hk => ?_)
    have hk := nb' hk
    refine Yields.some hd ?_
    have hlen := pr_len ha
    refine Yields.bind (fits_kd sig (object_y sig hsig a.count) hc (l := a.args) (fun x hx => ⟨pr_arg ha hx, by have := cnt_arg hx; omega⟩) (by omega) (hsig d hdm) (kd_split d.cls hp.1 hk)) (fun z hz => ?_)
    refine Yields.ite (fun h => Yields.pure (fun h' => by simp [h'] at h)) (fun h0 => ?_)
    refine Yields.ite (fun _ => Yields.pure (fun h => by cases h)) (fun h1 => Yields.pure (fun _ => ?_))
    have h1 : z.1.op = 1 := by simpa using h1
    obtain ⟨g1, g2⟩ := hz (by simpa using h0)
    refine TyT.app ⟨?_, ?_, d, hd, hk, ?_⟩
    · simp at h4; exact h4.1
    · simp at h4; exact h4.2
    · generalize hm : (split d.cls).1.length - a.args.length = m at g2
      cases g2 with
      | ty _ => omega
      | pi ho _ _ => omega

include hsig in
theorem classOf_kd {t : Tm} (ht : Pr t) : Yields (fun k => R06_Kernel_Class k ⟨sig, []⟩ t) (fun e => e = 0 → kindT t = false → TyT sig t) := by
  have hp := proper_small ht
  have hc : ctxB [] := ⟨by simp, by simp⟩
  refine Yields.succ (fun k => R06_Kernel_Class.eq_2 ..) ?_
  refine Yields.bind (Ev.is (split_ev hp.1 (by omega))) (fun y hy => ?_)
  subst hy
  refine Yields.ite (fun h => ?_) (fun _ => ?_)
  · exact Yields.bind (type_y sig hsig t.count [] t hc ht (Nat.le_refl _)).2 (fun _ _ => Yields.pure (fun _ h' => by rw [kindT, h] at h'; cases h'))
  · exact Yields.bind (type_kd sig hsig t.count [] t hc ht (Nat.le_refl _)) (fun _ h => Yields.pure (fun h' _ => h h'))
end

theorem leafT_take {sig : List Dc} {i : Nat} {t : Tm} (h : leafT (sig.take i) t) : leafT sig t := by
  obtain ⟨h1, h2, d, hd, h3⟩ := h
  refine ⟨h1, h2, d, ?_, h3⟩
  obtain ⟨g1, g2⟩ := idx_some hd
  have hlt : t.n.toNat < i := by
    rcases Nat.lt_or_ge t.n.toNat i with h | h
    · exact h
    · rw [List.getElem?_take, if_neg (by omega)] at g2; cases g2
  rw [List.getElem?_take, if_pos hlt] at g2
  have : t.n = ((t.n.toNat : Nat) : Int) := by omega
  rw [this]
  exact idx_get g2
theorem tyT_take {sig : List Dc} {i : Nat} {t : Tm} (h : TyT (sig.take i) t) : TyT sig t := by
  induction h with
  | app h => exact TyT.app (leafT_take h)
  | pi h e _ _ iha ihb => exact TyT.pi h e iha ihb

/-- All object constants have types. -/
def SigT (sig : List Dc) : Prop := ∀ d ∈ sig, kindT d.cls = false → TyT sig d.cls

theorem signature_kd (sig : List Dc) (hsig : ∀ x ∈ sig, Pr x.cls) (hb : sig.length ≤ 1000) : Yields (fun k => R06_Signature k sig) (fun r => r.2 = 0 → SigT sig) := by
  have loop : ∀ (p i : Nat), p = sig.length - i → i ≤ sig.length → (∀ d ∈ sig.take i, kindT d.cls = false → TyT sig d.cls) → Yields (fun k => R06_Signature_L1 k sig (i : Int)) (fun r => r.2 = 0 → SigT sig) := by
    intro p
    induction p with
    | zero =>
      intro i hq hi hdone
      refine Yields.succ (fun k => R06_Signature_L1.eq_2 ..) ?_
      refine Yields.ite (fun h => ?_) (fun _ => Yields.pure (fun _ => ?_))
      · simp [Dc.encL_length] at h; omega
      · intro d hd
        exact hdone d (by rw [List.take_of_length_le (by omega)]; exact hd)
    | succ p ihp =>
      intro i hq hi hdone
      refine Yields.succ (fun k => R06_Signature_L1.eq_2 ..) ?_
      refine Yields.ite (fun _ => ?_) (fun h => ?_)
      rotate_left
      · simp [Dc.encL_length] at h; omega
      obtain ⟨x, hx, hxm, hxi⟩ := idx_of (show i < sig.length by omega)
      refine Yields.some hx ?_
      refine Yields.need (by simp [Dc.encL_length]; omega) ?_
      rw [Int.toNat_natCast]
      refine Yields.bind (classOf_kd (sig.take i) (fun y hy => hsig y (List.mem_of_mem_take hy)) (hsig x hxm)) (fun y hy => ?_)
      refine Yields.ite (fun h => Yields.pure (fun h' => absurd (show y = 0 from h') (by simpa using h))) (fun h0 => ?_)
      have h0 : y = 0 := by simpa using h0
      rw [wrapS (by omega)]
      refine ihp (i + 1) (by omega) (by omega) (fun d hd => ?_)
      rw [List.take_add_one, hxi] at hd
      rcases List.mem_append.1 hd with h | h
      · exact hdone d h
      · simp at h; subst h
        exact fun hk => tyT_take (hy h0 hk)
  refine Yields.succ (fun k => R06_Signature.eq_2 ..) ?_
  exact loop _ 0 rfl (Nat.zero_le _) (by simp)

theorem valid_kd (sig : List Dc) (hs : sigB sig) : Yields (fun k => W15_valid k sig) (fun b => b = true → sigOK sig = true ∧ SigT sig) := by
  obtain ⟨hl, hb⟩ := hs
  have tail : ∀ c : Int, Yields (fun k => cond (decide (c > 3000)) (some (false)) ((R05_Formed k sig).bind (fun v22 => cond (!v22) (some (false)) ((R06_Signature k sig).bind (fun v25 => some ((v25.2 == 0))))))) (fun b => b = true → sigOK sig = true ∧ SigT sig) := by
    intro c
    refine Yields.ite (fun _ => Yields.pure (fun h => by cases h)) (fun _ => ?_)
    refine Yields.bind (Ev.is (formedSig_ev sig)) (fun b hb => ?_)
    subst hb
    refine Yields.ite (fun _ => Yields.pure (fun h => by cases h)) (fun h => ?_)
    obtain ⟨h1, h2⟩ := sigOK_proper (nb' h)
    exact Yields.bind (signature_kd sig h2 (by omega)) (fun r hr => Yields.pure (fun h3 => ⟨nb' h, hr (by simpa using h3)⟩))
  have loop : ∀ (q i : Nat) (c : Int), q = sig.length - i → i ≤ sig.length → Yields (fun k => W15_valid_L1 k sig c (i : Int)) (fun b => b = true → sigOK sig = true ∧ SigT sig) := by
    intro q
    induction q with
    | zero =>
      intro i c hq hi
      refine Yields.succ (fun k => W15_valid_L1.eq_2 ..) ?_
      refine Yields.ite (fun h => ?_) (fun _ => tail c)
      simp [Dc.encL_length] at h; omega
    | succ q ihq =>
      intro i c hq hi
      refine Yields.succ (fun k => W15_valid_L1.eq_2 ..) ?_
      refine Yields.ite (fun _ => ?_) (fun _ => tail c)
      obtain ⟨x, hx, hxm, _⟩ := idx_of (show i < sig.length by omega)
      refine Yields.some hx ?_
      refine Yields.bind (size_y (hb x hxm)) (fun y _ => ?_)
      rw [wrapS (by omega)]
      exact ihq (i + 1) _ (by omega) (by omega)
  refine Yields.succ (fun k => W15_valid.eq_2 ..) ?_
  exact loop _ 0 _ rfl (Nat.zero_le _)
end Go.Proofs.YtpibdcjdamibdaaGreat
end

/-! OcB -/
section
namespace Go.Proofs.YtpibdcjdamibdaaGreat
open Go.Tr Go
set_option linter.unusedVariables false
set_option linter.unusedSimpArgs false
set_option maxRecDepth 10000

theorem many_y (t : Od) : ∀ d : Int, 0 ≤ d → d ≤ 31 → Yields (fun k => W15_many k t d) (fun r => 1 ≤ r ∧ r ≤ 1000 + 400 * (31 - d)) := by
  induction t using Od.ind with
  | h t ih =>
    intro d h0 h1
    have loop : ∀ (ts : List Od) (i : Nat) (acc : Int), d ≤ 30 → t.parts.drop i = ts → i + ts.length = t.parts.length → (i : Int) + 1 ≤ acc → acc ≤ 1000 + 400 * (31 - d) → Yields (fun k => W15_many_L1 k t d acc (i : Int)) (fun r => 1 ≤ r ∧ r ≤ 1000 + 400 * (31 - d)) := by
      intro ts
      induction ts with
      | nil =>
        intro i acc hd hdr hi ha1 ha2
        refine Yields.succ (fun k => W15_many_L1.eq_2 ..) ?_
        simp only [List.length_nil, Nat.add_zero] at hi
        refine Yields.ite (fun h => ?_) (fun _ => Yields.pure ⟨by omega, ha2⟩)
        simp [Od.encL_length, hi] at h
      | cons u ts ihl =>
        intro i acc hd hdr hi ha1 ha2
        refine Yields.succ (fun k => W15_many_L1.eq_2 ..) ?_
        simp only [List.length_cons] at hi
        refine Yields.ite (fun h => ?_) (fun _ => Yields.pure ⟨by omega, ha2⟩)
        have h4 : acc ≤ 400 := by
          simp only [Bool.and_eq_true, decide_eq_true_eq] at h
          exact h.2
        have hu := getDrop hdr
        refine Yields.some (idx_get hu) ?_
        rw [wrap_i64 (n := d + 1) (by omega) (by omega)]
        refine Yields.bind (ih u (List.mem_of_getElem? hu) (d + 1) (by omega) (by omega)) (fun r hr => ?_)
        rw [wrap_i64 (n := acc + r) (by omega) (by omega), wrapS (by omega)]
        exact ihl (i + 1) (acc + r) hd (dropDrop hdr) (by omega) (by omega) (by omega)
    refine Yields.succ (fun k => W15_many.eq_2 ..) ?_
    refine Yields.ite (fun h => Yields.pure ⟨by omega, by omega⟩) (fun h => ?_)
    have h : d ≤ 30 := by simpa using h
    exact loop t.parts 0 1 h rfl (by simp) (by omega) (by omega)

theorem small_ord_y (t : Od) : Yields (fun k => W15_small k t) (fun _ => True) := by
  refine Yields.succ (fun k => W15_small.eq_2 ..) ?_
  exact Yields.bind (many_y t 0 (by omega) (by omega)) (fun r _ => Yields.pure trivial)

mutual
/-- An order of so many arguments, so deep in others. -/
def rightF (m : Int) : Od → Int → Bool
  | .mk o n ps, d => if o = 1 then (((decide (n ≥ 0) && decide (n < m)) && ps.isEmpty) && decide (d ≤ 4)) else ((o == 2 || o == 3) && n == 0 && decide (1 ≤ ps.length) && decide (ps.length ≤ 8) && decide (d ≤ 4)) && rightL m ps (d + 1)
def rightL (m : Int) : List Od → Int → Bool
  | [], _ => true
  | p :: ps, d => rightF m p d && rightL m ps d
 end
theorem rightF_eq (m : Int) (t : Od) (d : Int) : rightF m t d = if t.op = 1 then (((decide (t.n ≥ 0) && decide (t.n < m)) && t.parts.isEmpty) && decide (d ≤ 4)) else ((t.op == 2 || t.op == 3) && t.n == 0 && decide (1 ≤ t.parts.length) && decide (t.parts.length ≤ 8) && decide (d ≤ 4)) && rightL m t.parts (d + 1) := by cases t; rfl

theorem encL_empty (l : List Od) : (((Od.encL l).length : Int) == 0) = l.isEmpty := by
  rw [Od.encL_length]; cases l <;> simp; omega

theorem right_ev (m : Int) (t : Od) : ∀ d : Int, 0 ≤ d → d ≤ 5 → Ev (fun k => R15_right k t m d) (rightF m t d) := by
  induction t using Od.ind with
  | h t ih =>
    intro d h0 h1
    refine Ev.succ (fun k => R15_right.eq_2 ..) ?_
    rw [rightF_eq]
    by_cases ho : t.op = 1
    · rw [if_pos ho]
      refine Ev.t (beqI ho) ?_
      rw [encL_empty]
      exact Ev.pure _
    rw [if_neg ho]
    refine Ev.f (beqI' ho) ?_
    rw [Od.encL_length]
    by_cases hb : ((t.op == 2 || t.op == 3) && t.n == 0 && decide (1 ≤ t.parts.length) && decide (t.parts.length ≤ 8) && decide (d ≤ 4)) = true
    · rw [hb, Bool.true_and]
      simp only [Bool.and_eq_true, Bool.or_eq_true, beq_iff_eq, decide_eq_true_eq] at hb
      obtain ⟨⟨⟨⟨g1, g2⟩, g3⟩, g4⟩, g5⟩ := hb
      refine Ev.f ?_ ?_
      · simp only [Bool.or_eq_false_iff, Bool.and_eq_false_iff, bne_eq_false_iff_eq, decide_eq_false_iff_not]
        omega
      have loop : ∀ (ts : List Od) (i : Nat), t.parts.drop i = ts → i + ts.length = t.parts.length → Ev (fun k => R15_right_L1 k t m d (i : Int)) (rightL m ts (d + 1)) := by
        intro ts
        induction ts with
        | nil =>
          intro i hdr hi
          refine Ev.succ (fun k => R15_right_L1.eq_2 ..) ?_
          simp only [List.length_nil, Nat.add_zero] at hi
          exact Ev.f (by simp [Od.encL_length, hi]) (Ev.pure _)
        | cons u ts ihl =>
          intro i hdr hi
          refine Ev.succ (fun k => R15_right_L1.eq_2 ..) ?_
          simp only [List.length_cons] at hi
          have hu := getDrop hdr
          refine Ev.t (by simp [Od.encL_length]; omega) (Ev.some (idx_get hu) ?_)
          rw [wrap_i64 (n := d + 1) (by omega) (by omega)]
          refine (ih u (List.mem_of_getElem? hu) (d + 1) (by omega) (by omega)).bind ?_
          have e : rightL m (u :: ts) (d + 1) = (rightF m u (d + 1) && rightL m ts (d + 1)) := rfl
          rw [e]
          cases hr : rightF m u (d + 1) with
          | false => exact Ev.t rfl (Ev.pure _)
          | true =>
            rw [wrapS (by omega)]
            exact Ev.f rfl (ihl (i + 1) (dropDrop hdr) (by omega))
      exact loop t.parts 0 rfl (by simp)
    · rw [Bool.not_eq_true] at hb
      rw [hb, Bool.false_and]
      refine Ev.t ?_ (Ev.pure _)
      by_cases hc : ((((((t.op != 2) && (t.op != 3)) || (t.n != 0)) || (decide ((t.parts.length : Int) < 1))) || (decide ((t.parts.length : Int) > 8))) || (decide (d > 4))) = true
      · exact hc
      · exfalso
        rw [Bool.not_eq_true] at hc
        simp only [Bool.or_eq_false_iff, Bool.and_eq_false_iff, bne_eq_false_iff_eq, decide_eq_false_iff_not] at hc
        have : ((t.op == 2 || t.op == 3) && t.n == 0 && decide (1 ≤ t.parts.length) && decide (t.parts.length ≤ 8) && decide (d ≤ 4)) = true := by
          simp only [Bool.and_eq_true, Bool.or_eq_true, beq_iff_eq, decide_eq_true_eq]
          omega
        rw [hb] at this; cases this

theorem Right_ev (m : Int) (t : Od) : Ev (fun k => R15_Right k t m) (rightF m t 1) := by
  refine Ev.succ (fun k => R15_Right.eq_2 ..) ?_
  exact (right_ev m t 1 (by omega) (by omega)).bind (Ev.pure _)

theorem isOrder_ev (m : Int) (t : Od) : ∀ c : Int, 0 ≤ c → c ≤ 4 → Ev (fun k => order_isOrder k t m c) (rightF m t (c + 1)) := by
  induction t using Od.ind with
  | h t ih =>
    intro c h0 h1
    have any : c ≤ 3 → t.parts.length ≤ 8 → Ev (fun k => slices_ContainsFunc_order_isOrder_1 k t.parts m c) (!rightL m t.parts (c + 2)) := by
      intro hc h8
      have loop : ∀ (ts : List Od) (i : Nat), t.parts.drop i = ts → i + ts.length = t.parts.length → Yields (fun k => slices_IndexFunc_order_isOrder_1_L1 k t.parts m c (i : Int)) (fun r => decide (r ≥ 0) = !rightL m ts (c + 2)) := by
        intro ts
        induction ts with
        | nil =>
          intro i hdr hi
          refine Yields.succ (fun k => slices_IndexFunc_order_isOrder_1_L1.eq_2 ..) ?_
          simp only [List.length_nil, Nat.add_zero] at hi
          refine Yields.ite (fun h => ?_) (fun _ => Yields.pure rfl)
          simp [Od.encL_length, hi] at h
        | cons u ts ihl =>
          intro i hdr hi
          refine Yields.succ (fun k => slices_IndexFunc_order_isOrder_1_L1.eq_2 ..) ?_
          simp only [List.length_cons] at hi
          have hu := getDrop hdr
          refine Yields.ite (fun _ => ?_) (fun h => ?_)
          rotate_left
          · simp [Od.encL_length] at h; omega
          refine Yields.some (idx_get hu) ?_
          have e1 : Ev (fun k => order_isOrder_1 k u m c) (!rightF m u (c + 2)) := by
            refine Ev.succ (fun k => order_isOrder_1.eq_2 ..) ?_
            rw [wrap_i64 (n := c + 1) (by omega) (by omega)]
            exact ((ih u (List.mem_of_getElem? hu) (c + 1) (by omega) (by omega)).bind (Ev.pure (!rightF m u (c + 1 + 1)))).eq (by rw [show c + 1 + 1 = c + 2 by omega])
          have e : rightL m (u :: ts) (c + 2) = (rightF m u (c + 2) && rightL m ts (c + 2)) := rfl
          refine Yields.bind (Ev.is e1) (fun b hb => ?_)
          subst hb
          rw [e]
          cases hr : rightF m u (c + 2) with
          | false => exact Yields.ite (fun _ => Yields.pure (by simp)) (fun h => by cases h)
          | true =>
            rw [wrapS (by omega)]
            exact Yields.ite (fun h => by cases h) (fun _ => (ihl (i + 1) (dropDrop hdr) (by omega)).mono (fun r hr => by rw [hr]; rfl))
      refine Ev.succ (fun k => slices_ContainsFunc_order_isOrder_1.eq_2 ..) ?_
      refine Yields.ev ?_
      refine Yields.bind (q := fun r => decide (r ≥ 0) = !rightL m t.parts (c + 2)) ?_ (fun r hr => Yields.pure hr)
      refine Yields.succ (fun k => slices_IndexFunc_order_isOrder_1.eq_2 ..) ?_
      exact loop t.parts 0 rfl (by simp)
    refine Ev.succ (fun k => order_isOrder.eq_2 ..) ?_
    rw [rightF_eq]
    have hd : decide (c + 1 ≤ 4) = decide (c < 4) := by rw [decide_eq_decide]; omega
    by_cases ho : t.op = 1
    · rw [if_pos ho]
      refine Ev.t (beqI ho) ((Ev.pure _).eq ?_)
      rw [encL_empty, hd]
      cases decide (c < 4) <;> cases t.parts.isEmpty <;> cases decide (t.n ≥ 0) <;> cases decide (t.n < m) <;> rfl
    rw [if_neg ho]
    refine Ev.f (beqI' ho) ?_
    have key : Ev (fun k => cond ((((decide (c < 4)) && (t.n == 0)) && (decide (((Od.encL t.parts).length : Int) ≥ 1))) && (decide (((Od.encL t.parts).length : Int) ≤ 8))) ((slices_ContainsFunc_order_isOrder_1 k t.parts m c).bind (fun v9 => some ((!v9)))) (some (false))) ((t.n == 0 && decide (1 ≤ t.parts.length) && decide (t.parts.length ≤ 8) && decide (c + 1 ≤ 4)) && rightL m t.parts (c + 1 + 1)) := by
      rw [Od.encL_length]
      have e8 : decide ((t.parts.length : Int) ≤ 8) = decide (t.parts.length ≤ 8) := by rw [decide_eq_decide]; omega
      have e1 : decide ((t.parts.length : Int) ≥ 1) = decide (1 ≤ t.parts.length) := by rw [decide_eq_decide]; omega
      rw [e8, e1, hd, show c + 1 + 1 = c + 2 by omega]
      refine Ev.ite (fun h => ?_) (fun h => ?_)
      · simp only [Bool.and_eq_true, decide_eq_true_eq] at h
        obtain ⟨⟨⟨g1, g2⟩, g3⟩, g4⟩ := h
        refine ((any (by omega) g4).bind (Ev.pure (!!rightL m t.parts (c + 2)))).eq ?_
        rw [g2, decide_eq_true g3, decide_eq_true g4, decide_eq_true g1]
        simp
      · refine (Ev.pure _).eq ?_
        symm
        rw [Bool.and_eq_false_iff]
        left
        rw [← h]
        cases decide (c < 4) <;> cases (t.n == 0) <;> cases decide (1 ≤ t.parts.length) <;> cases decide (t.parts.length ≤ 8) <;> rfl
    by_cases h2 : t.op = 2
    · refine Ev.t (beqI h2) (Ev.t (beqI h2) (key.eq ?_))
      rw [h2]; simp [Bool.and_assoc]
    refine Ev.f (beqI' h2) ?_
    by_cases h3 : t.op = 3
    · refine Ev.t (beqI h3) (key.eq ?_)
      rw [h3]; simp [Bool.and_assoc]
    · refine Ev.f (beqI' h3) ((Ev.pure _).eq ?_)
      rw [beqI' h2, beqI' h3]; rfl

section
variable (fx : Int) (X Y : List Tm)
mutual
/-- What two lists are, each by an order of its own. -/
def prF : Od → Od → Int
  | .mk o n ps, b => if o = 1 then (if n ≥ (X.length : Int) ∨ b.n ≥ (Y.length : Int) then 0 else cmpF fx (X.getD n.toNat tm0) (Y.getD b.n.toNat tm0)) else prL o ps b.parts 1
def prL : Int → List Od → List Od → Int → Int
  | _, [], _, out => out
  | o, p :: ps, qs, out => if o = 2 ∧ prF p (qs.headD (Od.mk 0 0 [])) ≠ 1 then prF p (qs.headD (Od.mk 0 0 [])) else if prF p (qs.headD (Od.mk 0 0 [])) = 0 then 0 else prL o ps qs.tail (if prF p (qs.headD (Od.mk 0 0 [])) > out then prF p (qs.headD (Od.mk 0 0 [])) else out)
 end
theorem prF_eq (a b : Od) : prF fx X Y a b = if a.op = 1 then (if a.n ≥ (X.length : Int) ∨ b.n ≥ (Y.length : Int) then 0 else cmpF fx (X.getD a.n.toNat tm0) (Y.getD b.n.toNat tm0)) else prL fx X Y a.op a.parts b.parts 1 := by cases a; rfl
theorem cmpF_012 (fx : Int) (a b : Tm) : cmpF fx a b = 0 ∨ cmpF fx a b = 1 ∨ cmpF fx a b = 2 := by
  unfold cmpF; split
  · exact .inr (.inl rfl)
  · split
    · exact .inr (.inr rfl)
    · exact .inl rfl
mutual
theorem prF_012 : ∀ (a b : Od), prF fx X Y a b = 0 ∨ prF fx X Y a b = 1 ∨ prF fx X Y a b = 2
  | .mk o n ps, b => by
    simp only [prF]
    split
    · split
      · exact .inl rfl
      · exact cmpF_012 ..
    · exact prL_012 o ps b.parts 1 (.inl rfl)
theorem prL_012 : ∀ (o : Int) (ps qs : List Od) (out : Int), out = 1 ∨ out = 2 → prL fx X Y o ps qs out = 0 ∨ prL fx X Y o ps qs out = 1 ∨ prL fx X Y o ps qs out = 2
  | o, [], qs, out, h => by simp only [prL]; rcases h with h | h <;> simp [h]
  | o, p :: ps, qs, out, h => by
    simp only [prL]
    have h1 := prF_012 p (qs.headD (Od.mk 0 0 []))
    split
    · exact h1
    · split
      · exact .inl rfl
      · refine prL_012 o ps qs.tail _ ?_
        split <;> omega
 end
end

theorem prL_lex {fx : Int} {X Y : List Tm} {o : Int} {p q : Od} {ps qs : List Od} {out : Int} (h : o = 2 ∧ prF fx X Y p q ≠ 1) : prL fx X Y o (p :: ps) (q :: qs) out = prF fx X Y p q := if_pos h
theorem prL_no {fx : Int} {X Y : List Tm} {o : Int} {p q : Od} {ps qs : List Od} {out : Int} (h : ¬ (o = 2 ∧ prF fx X Y p q ≠ 1)) (hz : prF fx X Y p q = 0) : prL fx X Y o (p :: ps) (q :: qs) out = 0 := (if_neg h).trans (if_pos hz)
theorem prL_go {fx : Int} {X Y : List Tm} {o : Int} {p q : Od} {ps qs : List Od} {out : Int} (h : ¬ (o = 2 ∧ prF fx X Y p q ≠ 1)) (hz : ¬ prF fx X Y p q = 0) : prL fx X Y o (p :: ps) (q :: qs) out = prL fx X Y o ps qs (if prF fx X Y p q > out then prF fx X Y p q else out) := (if_neg h).trans (if_neg hz)

theorem rightL_mem {m : Int} {d : Int} : ∀ {l : List Od} {t : Od}, rightL m l d = true → t ∈ l → rightF m t d = true
  | [], _, _, h => by cases h
  | p :: ps, t, h, hm => by
    simp only [rightL, Bool.and_eq_true] at h
    rcases List.mem_cons.1 hm with e | e
    · subst e; exact h.1
    · exact rightL_mem h.2 e

theorem right_parts {m d : Int} {t : Od} (h : rightF m t d = true) (ho : t.op ≠ 1) : t.parts.length ≤ 8 ∧ rightL m t.parts (d + 1) = true := by
  rw [rightF_eq, if_neg ho] at h
  simp only [Bool.and_eq_true, decide_eq_true_eq] at h
  exact ⟨h.1.1.2, h.2⟩
theorem right_arg {m d : Int} {t : Od} (h : rightF m t d = true) (ho : t.op = 1) : 0 ≤ t.n ∧ t.n < m := by
  rw [rightF_eq, if_pos ho] at h
  simp only [Bool.and_eq_true, decide_eq_true_eq] at h
  exact h.1.1

theorem simL_cons {u v : Od} {us vs : List Od} (h : simL (u :: us) (v :: vs) = true) : simF u v = true ∧ simL us vs = true := by simpa [simL] using h

/-- The objects of two lists. -/
def objs (l : List Tm) : Prop := ∀ x ∈ l, okAll x = true ∧ x.height ≤ 1000

theorem getD_get {α : Type} {l : List α} {i : Nat} {x d : α} (h : l[i]? = some x) : l.getD i d = x := by simp [List.getD, h]

theorem pair_ev (fx n : Int) (X Y : List Tm) (hX : objs X) (hY : objs Y) (m1 m2 : Int) (h0 : 0 ≤ fx) (h1 : fx ≤ 1000) (a : Od) : ∀ (b : Od) (d : Int), simF a b = true → rightF m1 a d = true → rightF m2 b d = true → Ev (fun k => order_pair k a b ⟨n, fx⟩ X Y) (prF fx X Y a b) := by
  induction a using Od.ind with
  | h a ih =>
    intro b d hs ha hb
    rw [simF_eq, Bool.and_eq_true, Bool.and_eq_true] at hs
    obtain ⟨s1, s2, s3⟩ := hs
    have s1 : a.op = b.op := by simpa using s1
    have s2 : a.parts.length = b.parts.length := by simpa using s2
    refine Ev.succ (fun k => order_pair.eq_2 ..) ?_
    rw [prF_eq, Tm.encL_length, Tm.encL_length]
    by_cases ho : a.op = 1
    · rw [if_pos ho]
      obtain ⟨a0, _⟩ := right_arg ha ho
      obtain ⟨b0, _⟩ := right_arg hb (by rw [← s1]; exact ho)
      refine Ev.t (beqI ho) ?_
      refine Ev.ite (fun h => ?_) (fun h => ?_)
      · simp only [Bool.or_eq_true, decide_eq_true_eq] at h
        rw [if_pos h]; exact Ev.pure _
      · simp only [Bool.or_eq_false_iff, decide_eq_false_iff_not] at h
        rw [if_neg (by rintro (g | g); exact h.1 g; exact h.2 g)]
        obtain ⟨x, hx, hxm, hxg⟩ := idxOf (l := X) (i := a.n.toNat) (by omega)
        obtain ⟨y, hy, hym, hyg⟩ := idxOf (l := Y) (i := b.n.toNat) (by omega)
        rw [show ((a.n.toNat : Nat) : Int) = a.n by omega] at hx
        rw [show ((b.n.toNat : Nat) : Int) = b.n by omega] at hy
        refine Ev.some hx (Ev.some hy ?_)
        have hxo := hX x hxm
        have hyo := hY y hym
        refine Ev.need (decide_eq_true ⟨okAll_lamOK y hyo.1, by omega⟩) ((Ev.pure _).eq ?_)
        rw [getD_get hxg, getD_get hyg]
        exact compareF_eq fx x hxo.1 (by omega) h0 (by omega) y hyo.1 hyo.2
    · rw [if_neg ho]
      refine Ev.f (beqI' ho) ?_
      obtain ⟨a8, ar⟩ := right_parts ha ho
      obtain ⟨b8, br⟩ := right_parts hb (by rw [← s1]; exact ho)
      have loop : ∀ (ts us : List Od) (i : Nat) (out : Int), a.parts.drop i = ts → b.parts.drop i = us → i + ts.length = a.parts.length → i + us.length = b.parts.length → simL ts us = true → Ev (fun k => order_pair_L1 k a b ⟨n, fx⟩ X Y out (i : Int)) (prL fx X Y a.op ts us out) := by
        intro ts
        induction ts with
        | nil =>
          intro us i out hd1 hd2 hi1 hi2 hsl
          refine Ev.succ (fun k => order_pair_L1.eq_2 ..) ?_
          simp only [List.length_nil, Nat.add_zero] at hi1
          exact Ev.f (by simp [Od.encL_length, hi1]) (Ev.pure _)
        | cons u ts ihl =>
          intro us i out hd1 hd2 hi1 hi2 hsl
          simp only [List.length_cons] at hi1
          cases us with
          | nil => simp only [List.length_nil] at hi2; omega
          | cons v us =>
          simp only [List.length_cons] at hi2
          have hu := getDrop hd1
          have hv := getDrop hd2
          obtain ⟨g1, g2⟩ := simL_cons hsl
          refine Ev.succ (fun k => order_pair_L1.eq_2 ..) ?_
          refine Ev.t (by simp [Od.encL_length]; omega) (Ev.some (idx_get hu) (Ev.some (idx_get hv) ?_))
          refine (ih u (List.mem_of_getElem? hu) v (d + 1) g1 (rightL_mem ar (List.mem_of_getElem? hu)) (rightL_mem br (List.mem_of_getElem? hv))).bind ?_
          by_cases hc : a.op = 2 ∧ prF fx X Y u v ≠ 1
          · rw [prL_lex hc]
            exact Ev.t (by simp [hc.1, hc.2]) (Ev.pure _)
          refine Ev.f ?_ ?_
          · simp only [Bool.and_eq_false_iff, beq_eq_false_iff_ne, bne_eq_false_iff_eq]
            by_cases h2 : a.op = 2
            · right; exact Classical.not_not.1 (fun h => hc ⟨h2, h⟩)
            · left; exact h2
          by_cases hz : prF fx X Y u v = 0
          · rw [prL_no hc hz]; exact Ev.t (beqI hz) (Ev.pure _)
          · rw [prL_go hc hz]
            rw [wrapS (by omega)]
            exact Ev.f (beqI' hz) (ihl us (i + 1) _ (dropDrop hd1) (dropDrop hd2) (by omega) (by omega) g2)
      exact loop a.parts b.parts 0 1 rfl rfl (by simp) (by simp) s3

theorem lists_ev (fx : Int) (X Y : List Tm) (hX : objs X) (hY : objs Y) (h0 : 0 ≤ fx) (h1 : fx ≤ 1000) (a : Od) : ∀ (b : Od) (d : Int), simF a b = true → rightF (X.length : Int) a d = true → rightF (Y.length : Int) b d = true → Ev (fun k => R15_Lists k a b fx X Y) (prF fx X Y a b) := by
  induction a using Od.ind with
  | h a ih =>
    intro b d hs ha hb
    rw [simF_eq, Bool.and_eq_true, Bool.and_eq_true] at hs
    obtain ⟨s1, s2, s3⟩ := hs
    have s1 : a.op = b.op := by simpa using s1
    have s2 : a.parts.length = b.parts.length := by simpa using s2
    refine Ev.succ (fun k => R15_Lists.eq_2 ..) ?_
    rw [prF_eq]
    by_cases ho : a.op = 1
    · rw [if_pos ho]
      obtain ⟨a0, a1⟩ := right_arg ha ho
      obtain ⟨b0, b1⟩ := right_arg hb (by rw [← s1]; exact ho)
      refine Ev.t (beqI ho) ?_
      rw [if_neg (by omega)]
      obtain ⟨x, hx, hxm, hxg⟩ := idxOf (l := X) (i := a.n.toNat) (by omega)
      obtain ⟨y, hy, hym, hyg⟩ := idxOf (l := Y) (i := b.n.toNat) (by omega)
      rw [show ((a.n.toNat : Nat) : Int) = a.n by omega] at hx
      rw [show ((b.n.toNat : Nat) : Int) = b.n by omega] at hy
      refine Ev.some hx (Ev.some hy ?_)
      have hxo := hX x hxm
      have hyo := hY y hym
      refine Ev.need (decide_eq_true ⟨hxo.1, by omega, hyo.1, by omega, h0, by omega⟩) ((Ev.pure _).eq ?_)
      rw [getD_get hxg, getD_get hyg]
    · rw [if_neg ho]
      refine Ev.f (beqI' ho) ?_
      obtain ⟨a8, ar⟩ := right_parts ha ho
      obtain ⟨b8, br⟩ := right_parts hb (by rw [← s1]; exact ho)
      have loop : ∀ (ts us : List Od) (i : Nat) (sm : Bool), a.parts.drop i = ts → b.parts.drop i = us → i + ts.length = a.parts.length → i + us.length = b.parts.length → simL ts us = true → Ev (fun k => R15_Lists_L1 k a b fx X Y sm (i : Int)) (prL fx X Y a.op ts us (if sm then 2 else 1)) := by
        intro ts
        induction ts with
        | nil =>
          intro us i sm hd1 hd2 hi1 hi2 hsl
          refine Ev.succ (fun k => R15_Lists_L1.eq_2 ..) ?_
          simp only [List.length_nil, Nat.add_zero] at hi1
          refine Ev.f (by simp [Od.encL_length, hi1]) ?_
          cases sm with
          | true => exact Ev.t rfl (Ev.pure _)
          | false => exact Ev.f rfl (Ev.pure _)
        | cons u ts ihl =>
          intro us i sm hd1 hd2 hi1 hi2 hsl
          simp only [List.length_cons] at hi1
          cases us with
          | nil => simp only [List.length_nil] at hi2; omega
          | cons v us =>
          simp only [List.length_cons] at hi2
          have hu := getDrop hd1
          have hv := getDrop hd2
          obtain ⟨g1, g2⟩ := simL_cons hsl
          refine Ev.succ (fun k => R15_Lists_L1.eq_2 ..) ?_
          refine Ev.t (by simp [Od.encL_length]; omega) (Ev.some (idx_get hu) (Ev.some (idx_get hv) ?_))
          refine (ih u (List.mem_of_getElem? hu) v (d + 1) g1 (rightL_mem ar (List.mem_of_getElem? hu)) (rightL_mem br (List.mem_of_getElem? hv))).bind ?_
          by_cases hc : a.op = 2 ∧ prF fx X Y u v ≠ 1
          · rw [prL_lex hc]
            exact Ev.t (by simp [hc.1, hc.2]) (Ev.pure _)
          refine Ev.f ?_ ?_
          · simp only [Bool.and_eq_false_iff, beq_eq_false_iff_ne, bne_eq_false_iff_eq]
            by_cases h2 : a.op = 2
            · right; exact Classical.not_not.1 (fun h => hc ⟨h2, h⟩)
            · left; exact h2
          by_cases hz : prF fx X Y u v = 0
          · rw [prL_no hc hz]; exact Ev.t (beqI hz) (Ev.pure _)
          · rw [prL_go hc hz]
            rw [wrapS (by omega)]
            refine Ev.f (beqI' hz) ?_
            by_cases h2 : prF fx X Y u v = 2
            · refine Ev.t (beqI h2) ((ihl us (i + 1) true (dropDrop hd1) (dropDrop hd2) (by omega) (by omega) g2).eq ?_)
              rw [h2]; cases sm <;> rfl
            · have h3 : prF fx X Y u v = 1 := by have := prF_012 fx X Y u v; omega
              refine Ev.f (beqI' h2) ((ihl us (i + 1) sm (dropDrop hd1) (dropDrop hd2) (by omega) (by omega) g2).eq ?_)
              rw [h3]; cases sm <;> rfl
      exact loop a.parts b.parts 0 false rfl rfl (by simp) (by simp) s3
end Go.Proofs.YtpibdcjdamibdaaGreat
end

/-! OcC -/
section
namespace Go.Proofs.YtpibdcjdamibdaaGreat
open Go.Tr Go
set_option linter.unusedVariables false
set_option linter.unusedSimpArgs false
set_option maxRecDepth 10000

/-! parts of proper terms -/
theorem split_pr : ∀ t, okAll t = true → Pr t → Pr (split t).2 ∧ ∀ a ∈ (split t).1, Pr a := by
  refine split_ind ?_ ?_
  · intro t hok h2 hp
    rw [split_leaf h2]
    exact ⟨hp, by simp⟩
  · intro t a b hok h2 e ha hb _ _ _ _ ih hp
    rw [split_pi hok h2 e]
    obtain ⟨i1, i2⟩ := ih (pr_arg hp (by rw [e]; simp))
    refine ⟨i1, fun x hx => ?_⟩
    rcases List.mem_cons.1 hx with h | h
    · subst h; exact pr_arg hp (by rw [e]; simp)
    · exact i2 x h

theorem split_len : ∀ t, okAll t = true → (split t).1.length + (split t).2.height = (split t).1.length + (split t).2.height ∧ (split t).1.length + 1 ≤ t.height := by
  refine split_ind ?_ ?_
  · intro t hok h2
    rw [split_leaf h2]
    exact ⟨rfl, by have := Tm.height_pos t; simp; omega⟩
  · intro t a b hok h2 e ha hb hhb _ _ _ ih
    rw [split_pi hok h2 e]
    refine ⟨rfl, ?_⟩
    have := ih.2
    simp only [List.length_cons]; omega

theorem nodesB_pi {m : Nat} {t a b : Tm} {k : Int} (h2 : t.op = 2) (e : t.args = [a, b]) (h : nodesB m t k = true) : nodesB m a k = true ∧ nodesB m b (k + 1) = true := by
  cases t with
  | mk o hd n us =>
    simp only [Tm.op] at h2
    simp only [Tm.args] at e
    subst h2 e
    simp only [nodesB, nodesBL, Bool.and_eq_true] at h
    obtain ⟨_, h1, h3, _⟩ := h
    have u0 : under 2 ((0 : Nat) : Int) = 0 := rfl
    have u1 : under 2 ((0 + 1 : Nat) : Int) = 1 := rfl
    rw [u0, Int.add_zero] at h1
    rw [u1] at h3
    exact ⟨h1, h3⟩

theorem split_nodes (m : Nat) : ∀ t, okAll t = true → ∀ k : Int, nodesB m t k = true → nodesB m (split t).2 (k + (split t).1.length) = true ∧ ∀ (i : Nat) (a : Tm), (split t).1[i]? = some a → nodesB m a (k + i) = true := by
  refine split_ind ?_ ?_
  · intro t hok h2 k h
    rw [split_leaf h2]
    exact ⟨by simpa using h, by simp⟩
  · intro t a b hok h2 e ha hb _ _ _ _ ih k h
    rw [split_pi hok h2 e]
    obtain ⟨h3, h4⟩ := nodesB_pi h2 e h
    obtain ⟨i1, i2⟩ := ih (k + 1) h4
    refine ⟨?_, ?_⟩
    · simp only [List.length_cons]
      rw [show k + ((((split b).1.length + 1 : Nat)) : Int) = k + 1 + ((split b).1.length : Int) by omega]
      exact i1
    · intro i x hx
      cases i with
      | zero => simp at hx; subst hx; simpa using h3
      | succ i =>
        simp only [List.getElem?_cons_succ] at hx
        rw [show k + ((i + 1 : Nat) : Int) = k + 1 + (i : Int) by omega]
        exact i2 i x hx

/-! which variables occur -/
def depN : Nat → Tm → List Bool
  | 0, _ => []
  | n + 1, t => if t.op = 2 then match t.args with
    | _ :: b :: _ => lowF b 0 0 :: depN n b
    | _ => []
    else []
def dep (t : Tm) : List Bool := depN t.height t
theorem depN_more : ∀ (n m : Nat) (t : Tm), okAll t = true → t.height ≤ n → t.height ≤ m → depN n t = depN m t
  | 0, m, t, hok, hn, _ => by have := Tm.height_pos t; omega
  | n + 1, 0, t, hok, _, hm => by have := Tm.height_pos t; omega
  | n + 1, m + 1, t, hok, hn, hm => by
    simp only [depN]
    by_cases h : t.op = 2
    · rw [if_pos h, if_pos h]
      obtain ⟨a, b, e, _, hb, _, hh, _⟩ := okAll_two hok h
      rw [e]
      simp only
      rw [depN_more n m b hb (by omega) (by omega)]
    · rw [if_neg h, if_neg h]
theorem dep_leaf {t : Tm} (h : t.op ≠ 2) : dep t = [] := by
  unfold dep
  cases hh : t.height with
  | zero => rfl
  | succ n => simp only [depN, if_neg h]
theorem dep_pi {t a b : Tm} (hok : okAll t = true) (h : t.op = 2) (e : t.args = [a, b]) : dep t = lowF b 0 0 :: dep b := by
  obtain ⟨a', b', e', _, hb, _, hh, _⟩ := okAll_two hok h
  rw [e] at e'
  simp only [List.cons.injEq, and_true] at e'
  obtain ⟨rfl, rfl⟩ := e'
  unfold dep
  obtain ⟨m, hm⟩ : ∃ m, t.height = m + 1 := ⟨t.height - 1, by have := Tm.height_pos t; omega⟩
  rw [hm]
  simp only [depN, if_pos h, e]
  rw [depN_more m b.height b hb (by omega) (Nat.le_refl _)]
theorem dep_len : ∀ t, okAll t = true → (dep t).length = (split t).1.length := by
  refine split_ind ?_ ?_
  · intro t hok h2; rw [dep_leaf h2, split_leaf h2]; rfl
  · intro t a b hok h2 e ha hb _ _ _ _ ih; rw [dep_pi hok h2 e, split_pi hok h2 e]; simp [ih]

theorem dependent_evL : ∀ t, okAll t = true → ∀ l : List Bool, Pr t → l.length + t.height ≤ 1000 → Ev (fun k => R13_Dependent_L1 k t l) (l ++ dep t) := by
  refine split_ind ?_ ?_
  · intro t hok h2 l hp hl
    refine Ev.succ (fun k => R13_Dependent_L1.eq_2 ..) ?_
    refine Ev.f (beqI' h2) ((Ev.pure _).eq ?_)
    rw [dep_leaf h2, List.append_nil]
  · intro t a b hok h2 e ha hb hh _ _ _ ih l hp hl
    have hpb : Pr b := pr_arg hp (by rw [e]; simp)
    refine Ev.succ (fun k => R13_Dependent_L1.eq_2 ..) ?_
    refine Ev.t (beqI h2) (Ev.some (x := b) (by rw [e]; rfl) ((refOccurs_ev hpb).bind ?_))
    refine Ev.need (by simp; omega) (Ev.some (x := b) (by rw [e]; rfl) ?_)
    refine (ih (l ++ [lowF b 0 0]) hpb (by simp; omega)).eq ?_
    rw [dep_pi hok h2 e]; simp

theorem dependent_ev {t : Tm} (hp : Pr t) : Ev (fun k => R14_Dependent k t) (dep t) := by
  have h := proper_small hp
  refine Ev.succ (fun k => R14_Dependent.eq_2 ..) ?_
  have e : Ev (fun k => R13_Dependent k t) (dep t) := Ev.succ (fun k => R13_Dependent.eq_2 ..) ((dependent_evL t h.1 [] hp (by simp; omega)).eq (by simp))
  exact e.bind (Ev.pure _)

/-- The places of those that do not occur. -/
def premF : List Bool → Nat → List Int
  | [], _ => []
  | b :: l, i => if b then premF l (i + 1) else (i : Int) :: premF l (i + 1)
theorem premF_len : ∀ (l : List Bool) (i : Nat), (premF l i).length ≤ l.length
  | [], i => Nat.le_refl _
  | b :: l, i => by
    simp only [premF]
    have := premF_len l (i + 1)
    split <;> simp only [List.length_cons] <;> omega
theorem premF_mem : ∀ (l : List Bool) (i : Nat) (x : Int), x ∈ premF l i → (i : Int) ≤ x ∧ x < i + l.length
  | [], i, x, h => by cases h
  | b :: l, i, x, h => by
    simp only [premF] at h
    have key : x ∈ premF l (i + 1) → (i : Int) ≤ x ∧ x < i + (b :: l).length := fun h => by
      have := premF_mem l (i + 1) x h
      simp only [List.length_cons]; omega
    split at h
    · exact key h
    · rcases List.mem_cons.1 h with e | e
      · subst e; simp only [List.length_cons]; omega
      · exact key e

theorem positions_yL : ∀ t, okAll t = true → ∀ (D P : List Int) (i : Nat), Pr t → D.length ≤ i → P.length ≤ i → i + t.height ≤ 1000 → Yields (fun k => search_Positions_L1 k t ⟨D, P⟩ (i : Int)) (fun r => r.premises = P ++ premF (dep t) i) := by
  refine split_ind ?_ ?_
  · intro t hok h2 D P i hp hD hP hi
    refine Yields.succ (fun k => search_Positions_L1.eq_2 ..) ?_
    refine Yields.ite (fun h => absurd (by simpa using h) h2) (fun _ => Yields.pure ?_)
    rw [dep_leaf h2]; simp [premF]
  · intro t a b hok h2 e ha hb hh _ _ _ ih D P i hp hD hP hi
    have hpb : Pr b := pr_arg hp (by rw [e]; simp)
    refine Yields.succ (fun k => search_Positions_L1.eq_2 ..) ?_
    refine Yields.ite (fun _ => ?_) (fun h => absurd h2 (by simpa using h))
    have e1 : Ev (fun k => search_isPremise k t) (!lowF b 0 0) := by
      refine Ev.succ (fun k => search_isPremise.eq_2 ..) ?_
      exact Ev.some (x := b) (by rw [e]; rfl) ((occurs_ev hpb).bind (Ev.pure (!lowF b 0 0)))
    refine Yields.bind (Ev.is e1) (fun c hc => ?_)
    subst hc
    rw [dep_pi hok h2 e, wrapS (by omega)]
    simp only [premF]
    cases hl : lowF b 0 0 with
    | false =>
      refine Yields.ite (fun _ => ?_) (fun h => by cases h)
      refine Yields.need (by simp; omega) (Yields.some (x := b) (by rw [e]; rfl) ?_)
      refine (ih D (P ++ [(i : Int)]) (i + 1) hpb (by omega) (by simp; omega) (by omega)).mono (fun r hr => ?_)
      rw [hr]; simp
    | true =>
      refine Yields.ite (fun h => by cases h) (fun _ => ?_)
      refine Yields.need (by simp; omega) (Yields.some (x := b) (by rw [e]; rfl) ?_)
      refine (ih (D ++ [(i : Int)]) P (i + 1) hpb (by simp; omega) (by omega) (by omega)).mono (fun r hr => ?_)
      rw [hr]; simp
theorem positions_y {t : Tm} (hp : Pr t) : Yields (fun k => search_Positions k t) (fun r => r.premises = premF (dep t) 0) := by
  have h := proper_small hp
  refine Yields.succ (fun k => search_Positions.eq_2 ..) ?_
  exact (positions_yL t h.1 [] [] 0 hp (by simp) (by simp) (by omega)).mono (fun r hr => by simpa using hr)

/-! moved terms -/
mutual
theorem moved_okB (m : Nat) (b : Int) (hb : 0 ≤ b) : ∀ (t : Tm) (f k : Int), okAll t = true → nodesB m t k = true → k + t.height + b ≤ 9999 → okAll (movedF t b f) = true
  | .mk o h n us, f, k, hok, hn0, hk => by
    have hn := okAll_n hok
    simp only [Tm.n] at hn
    simp only [okAll, Bool.and_eq_true] at hok
    simp only [nodesB, Bool.and_eq_true] at hn0
    simp only [Tm.height] at hk
    simp only [movedF, okAll, Bool.and_eq_true]
    refine ⟨?_, moved_okBL m b hb o us 0 f k hok.2 hn0.2 (by omega)⟩
    rw [movedL_length]
    by_cases h1 : (o = 4 ∧ h = 1) ∧ n ≥ f
    · rw [if_pos h1]
      obtain ⟨⟨e1, e2⟩, e3⟩ := h1
      subst e1 e2
      have h2 : n < k := by have := hn0.1; simp [nodeB] at this; exact this
      rw [wrap_i64 (by omega) (by omega)]
      have := hok.1
      simp only [okNode] at this ⊢
      simp at this ⊢
      omega
    · rw [if_neg h1]; exact hok.1
theorem moved_okBL (m : Nat) (b : Int) (hb : 0 ≤ b) : ∀ (o : Int) (us : List Tm) (i : Nat) (f k : Int), okAllL us = true → nodesBL m o us i k = true → k + 1 + Tm.heightL us + b ≤ 9999 → okAllL (movedL o us i b f) = true
  | o, [], i, f, k, _, _, _ => rfl
  | o, u :: us, i, f, k, hok, hn, hk => by
    simp only [okAllL, Bool.and_eq_true] at hok
    simp only [nodesBL, Bool.and_eq_true] at hn
    simp only [Tm.heightL] at hk
    have hu := under_le o i
    simp only [movedL, okAllL, Bool.and_eq_true]
    exact ⟨moved_okB m b hb u _ _ hok.1 hn.1 (by omega), moved_okBL m b hb o us (i + 1) f k hok.2 hn.2 (by omega)⟩
 end

theorem moved_pr {m : Nat} {b : Int} (hb : 0 ≤ b) {t : Tm} (f k : Int) (hp : Pr t) (hn : nodesB m t k = true) (hk : k + b ≤ 9000) : Pr (movedF t b f) := by
  have h := (isProper_iff t).1 hp
  show isProper (movedF t b f) = true
  rw [isProper_iff, moved_count, moved_height]
  exact ⟨moved_okB m b hb t f k h.1 hn (by omega), h.2⟩

theorem shift_is {m : Nat} {b : Int} (hb : 0 ≤ b) {t : Tm} (k : Int) (hp : Pr t) (hn : nodesB m t k = true) (hk : k + b ≤ 9000) (hk0 : 0 ≤ k) : (shiftF t b 0).1 = movedF t b 0 := by
  have hm : isProper (movedF t b 0) = true := moved_pr hb 0 k hp hn hk
  have hp : isProper t = true := hp
  unfold shiftF
  rw [if_neg (by rw [hp]; simp; omega), if_neg (by simp; omega), if_neg (by rw [hm]; simp)]

theorem moved_evB (b f : Int) (hb0 : 0 ≤ b) (hb1 : b ≤ 9000) (hf0 : 0 ≤ f) (hf1 : f ≤ 9000) (t : Tm) : ∀ k : Int, 0 ≤ k → k + t.height ≤ 1000 → t.count ≤ 1000 → okAll t = true → Ev (fun n => term_Map_term_Moved_1 n t k f b) (movedF t b (k + f)) := by
  induction t using Tm.ind with
  | h t ih =>
    intro k hk0 hk1 hc hok
    have hn := okAll_n hok
    have hcl := Tm.length_le_countL t.args
    have hce := Tm.count_eq t
    have hhe := Tm.height_eq t
    have loop : ∀ (o h n : Int) (ts : List Tm) (i : Nat) (acc : List Tm), t.args.drop i = ts → i + ts.length = t.args.length → acc.length = i → Ev (fun q => term_Map_term_Moved_1_L1 q t k f b (Tm.mk o h n acc) (i : Int)) (Tm.mk o h n (acc ++ movedL t.op ts i b (k + f))) := by
      intro o h n ts
      induction ts with
      | nil =>
        intro i acc hd hi ha
        refine Ev.succ (fun k => term_Map_term_Moved_1_L1.eq_2 ..) ?_
        simp only [List.length_nil, Nat.add_zero] at hi
        refine Ev.f (by simp [Tm.encL_length, hi]) ((Ev.pure _).eq (by simp [movedL]))
      | cons u ts ihl =>
        intro i acc hd hi ha
        refine Ev.succ (fun k => term_Map_term_Moved_1_L1.eq_2 ..) ?_
        simp only [List.length_cons] at hi
        have hu := getDrop hd
        have hum := List.mem_of_getElem? hu
        have hh := Tm.height_le hum
        have hul := under_le t.op i
        have hcu : u.count < t.count := cnt_arg hum
        refine Ev.t (by simp [Tm.encL_length]; omega) ?_
        refine Ev.some (idx_get hu) ((under_ev t _).bind ?_)
        rw [wrap_i64 (n := k + under t.op i) (by omega) (by omega)]
        refine (ih u hum (k + under t.op i) (by omega) (by omega) (by omega) (okAll_arg hok hum)).bind ?_
        refine Ev.need (by simp [Tm.encL_length, Tm.args]; omega) ?_
        rw [wrapS (by omega)]
        refine (ihl (i + 1) (acc ++ [movedF u b (k + under t.op i + f)]) (dropDrop hd) (by omega) (by simp [ha])).eq ?_
        simp only [movedL, List.append_assoc, List.singleton_append]
        rw [show k + under t.op (i : Int) + f = k + f + under t.op (i : Int) by omega]
    refine Ev.succ (fun k => term_Map_term_Moved_1.eq_2 ..) ?_
    rw [movedF_eq]
    have hw : IntKind.i64.wrap (t.n - k) = t.n - k := wrap_i64 (by omega) (by omega)
    rw [hw]
    by_cases h1 : (t.op = 4 ∧ t.hd = 1) ∧ t.n ≥ k + f
    · rw [if_pos h1]
      refine Ev.t (by simp [h1.1.1, h1.1.2]; omega) ?_
      exact loop _ _ _ t.args 0 [] rfl (by simp) rfl
    · rw [if_neg h1]
      refine Ev.f ?_ ?_
      · simp only [Bool.and_eq_false_iff, beq_eq_false_iff_ne, decide_eq_false_iff_not]
        by_cases h2 : t.op = 4 ∧ t.hd = 1
        · right; intro h3; exact h1 ⟨h2, by omega⟩
        · left
          by_cases h4 : t.op = 4
          · right; exact fun h5 => h2 ⟨h4, h5⟩
          · left; exact h4
      · exact loop _ _ _ t.args 0 [] rfl (by simp) rfl

theorem termMoved_ev {t : Tm} (b f : Int) (hb0 : 0 ≤ b) (hb1 : b ≤ 9000) (hf0 : 0 ≤ f) (hf1 : f ≤ 9000) (hp : Pr t) : Ev (fun n => term_Moved n t b f) (movedF t b f) := by
  have h := proper_small hp
  refine Ev.succ (fun k => term_Moved.eq_2 ..) ?_
  exact ((moved_evB b f hb0 hb1 hf0 hf1 t 0 (by omega) (by omega) (by omega) h.1).eq (by rw [Int.zero_add])).bind (Ev.pure _)

theorem moved_op (t : Tm) (b f : Int) : (movedF t b f).op = t.op := by cases t; rfl
theorem moved_args (t : Tm) (b f : Int) : (movedF t b f).args = movedL t.op t.args 0 b f := by cases t; rfl

/-- What is within a moved type. -/
theorem split_moved (b : Int) : ∀ t, okAll t = true → ∀ f : Int, okAll (movedF t b f) = true → (split (movedF t b f)).2 = movedF (split t).2 b (f + (split t).1.length) ∧ (split (movedF t b f)).1.length = (split t).1.length := by
  refine split_ind ?_ ?_
  · intro t hok h2 f hm
    rw [split_leaf h2, split_leaf (by rw [moved_op]; exact h2)]
    exact ⟨by simp, rfl⟩
  · intro t x y hok h2 e hx hy _ _ _ _ ih f hm
    have e2 : (movedF t b f).args = [movedF x b f, movedF y b (f + 1)] := by
      rw [moved_args, e, h2]
      simp only [movedL]
      have u0 : under 2 ((0 : Nat) : Int) = 0 := rfl
      have u1 : under 2 ((0 + 1 : Nat) : Int) = 1 := rfl
      rw [u0, u1, Int.add_zero]
    have hm2 : okAll (movedF y b (f + 1)) = true := okAll_arg hm (by rw [e2]; simp)
    rw [split_pi hok h2 e, split_pi hm (by rw [moved_op]; exact h2) e2]
    obtain ⟨i1, i2⟩ := ih (f + 1) hm2
    refine ⟨?_, by simp [i2]⟩
    simp only [List.length_cons]
    rw [i1, show f + 1 + ((split y).1.length : Int) = f + (((split y).1.length + 1 : Nat) : Int) by omega]

/-- The arguments of an application, moved. -/
theorem movedL_app (b f : Int) : ∀ (us : List Tm) (i : Nat), movedL 4 us i b f = us.map (fun x => movedF x b f)
  | [], i => rfl
  | u :: us, i => by
    simp only [movedL, List.map_cons, movedL_app b f us]
    have u0 : under 4 ((i : Nat) : Int) = 0 := by unfold under; rw [if_neg (by omega)]
    rw [u0, Int.add_zero]

theorem nodesB_args {m : Nat} {t : Tm} {k : Int} (h4 : t.op = 4) (h : nodesB m t k = true) : ∀ x ∈ t.args, nodesB m x k = true := by
  have key : ∀ (us : List Tm) (i : Nat), nodesBL m 4 us i k = true → ∀ x ∈ us, nodesB m x k = true := by
    intro us
    induction us with
    | nil => intro i h x hx; cases hx
    | cons u us ih =>
      intro i h x hx
      simp only [nodesBL, Bool.and_eq_true] at h
      have u0 : under 4 ((i : Nat) : Int) = 0 := by unfold under; rw [if_neg (by omega)]
      rw [u0, Int.add_zero] at h
      rcases List.mem_cons.1 hx with e | e
      · subst e; exact h.1
      · exact ih (i + 1) h.2 x e
  cases t with
  | mk o hd n us =>
    simp only [Tm.op] at h4
    subst h4
    simp only [nodesB, Bool.and_eq_true] at h
    exact key us 0 h.2

theorem refMoved_ev {m : Nat} {b : Int} (hb : 0 ≤ b) (k : Int) (hk : k + b ≤ 9000) (hk0 : 0 ≤ k) (l : List Tm) (hl : l.length ≤ 1000) (hp : ∀ x ∈ l, Pr x ∧ nodesB m x k = true) : Ev (fun n => R15_moved n l b) (l.map (fun x => movedF x b 0)) := by
  have loop : ∀ (ts : List Tm) (i : Nat) (acc : List Tm), l.drop i = ts → i + ts.length = l.length → acc.length = i → Ev (fun n => R15_moved_L1 n l b acc (i : Int)) (acc ++ ts.map (fun x => movedF x b 0)) := by
    intro ts
    induction ts with
    | nil =>
      intro i acc hd hi ha
      refine Ev.succ (fun k => R15_moved_L1.eq_2 ..) ?_
      simp only [List.length_nil, Nat.add_zero] at hi
      exact Ev.f (by simp [Tm.encL_length, hi]) ((Ev.pure _).eq (by simp))
    | cons u ts ihl =>
      intro i acc hd hi ha
      refine Ev.succ (fun k => R15_moved_L1.eq_2 ..) ?_
      simp only [List.length_cons] at hi
      have hu := getDrop hd
      obtain ⟨p1, p2⟩ := hp u (List.mem_of_getElem? hu)
      refine Ev.t (by simp [Tm.encL_length]; omega) (Ev.some (idx_get hu) ?_)
      rw [shift_is hb k p1 p2 hk hk0]
      refine Ev.need (by simp [Tm.encL_length]; omega) ?_
      rw [wrapS (by omega)]
      exact (ihl (i + 1) (acc ++ [movedF u b 0]) (dropDrop hd) (by omega) (by simp [ha])).eq (by simp)
  refine Ev.succ (fun k => R15_moved.eq_2 ..) ?_
  exact (loop l 0 [] rfl (by simp) rfl).eq (by simp)

/-! put together -/
def joinL (l : List Tm) (x : Tm) : Tm := l.foldr (fun a t => Tm.mk 2 0 0 [a, t]) x
theorem join_split : ∀ t, okAll t = true → joinL (split t).1 (split t).2 = t := by
  refine split_ind ?_ ?_
  · intro t hok h2; rw [split_leaf h2]; rfl
  · intro t a b hok h2 e ha hb _ _ _ _ ih
    rw [split_pi hok h2 e]
    show Tm.mk 2 0 0 [a, joinL (split b).1 (split b).2] = t
    rw [ih]
    cases t with
    | mk o hd n us =>
      simp only [Tm.op] at h2
      simp only [Tm.args] at e
      subst h2 e
      simp only [okAll, okNode, Bool.and_eq_true] at hok
      have := hok.1
      simp at this
      rw [this.1, this.2]

theorem join_ev {l : List Tm} {x : Tm} (hl : ∀ a ∈ l, Pr a) (hx : Pr x) (h40 : l.length ≤ 40) (hj : Pr (joinL l x)) : Ev (fun k => R03_Join k l x) (joinL l x, 0) := by
  have down : ∀ (j : Nat), j ≤ l.length → Ev (fun k => R03_Join_L2 k l (joinL (l.drop j) x) ((j : Int) - 1)) (joinL l x, 0) := by
    intro j
    induction j with
    | zero =>
      intro _
      refine Ev.succ (fun k => R03_Join_L2.eq_2 ..) ?_
      refine Ev.f (by simp) ?_
      rw [refProper_eq, List.drop_zero, show isProper (joinL l x) = true from hj]
      exact Ev.f rfl (Ev.pure _)
    | succ j ih =>
      intro hjl
      refine Ev.succ (fun k => R03_Join_L2.eq_2 ..) ?_
      rw [show (((j + 1 : Nat) : Int) - 1) = (j : Int) by omega]
      obtain ⟨a, ha, hag⟩ : ∃ a, idx l (j : Int) = some a ∧ l[j]? = some a := by
        obtain ⟨a, h1, _, h2⟩ := idx_of (show j < l.length by omega)
        exact ⟨a, h1, h2⟩
      refine Ev.t (by simp) (Ev.some ha ?_)
      have e1 : Ev (fun k => R03_Pi k a (joinL (l.drop (j + 1)) x)) (joinL (l.drop j) x) := by
        refine Ev.succ (fun k => R03_Pi.eq_2 ..) ((Ev.pure _).eq ?_)
        have : l.drop j = a :: l.drop (j + 1) := by
          rw [← List.getElem_cons_drop (by omega : j < l.length)]
          congr 1
          have := List.getElem?_eq_some_iff.1 hag
          exact this.2
        rw [this]; rfl
      refine e1.bind ?_
      rw [wrap_i64 (n := (j : Int) - 1) (by omega) (by omega)]
      exact ih (by omega)
  have loop : ∀ (ts : List Tm) (i : Nat), l.drop i = ts → i + ts.length = l.length → Ev (fun k => R03_Join_L1 k l x (i : Int)) (joinL l x, 0) := by
    intro ts
    induction ts with
    | nil =>
      intro i hd hi
      refine Ev.succ (fun k => R03_Join_L1.eq_2 ..) ?_
      simp only [List.length_nil, Nat.add_zero] at hi
      refine Ev.f (by simp [Tm.encL_length, hi]) ?_
      rw [refProper_eq, show isProper x = true from hx, Tm.encL_length]
      refine Ev.f rfl (Ev.f (by simp; omega) ?_)
      rw [wrap_i64 (n := (l.length : Int) - 1) (by omega) (by omega)]
      have := down l.length (Nat.le_refl _)
      rw [List.drop_length] at this
      exact this
    | cons u ts ihl =>
      intro i hd hi
      refine Ev.succ (fun k => R03_Join_L1.eq_2 ..) ?_
      simp only [List.length_cons] at hi
      have hu := getDrop hd
      refine Ev.t (by simp [Tm.encL_length]; omega) (Ev.some (idx_get hu) ?_)
      rw [refProper_eq, show isProper u = true from hl u (List.mem_of_getElem? hu), wrapS (by omega)]
      exact Ev.f rfl (ihl (i + 1) (dropDrop hd) (by omega))
  exact Ev.succ (fun k => R03_Join.eq_2 ..) (loop l 0 rfl (by simp))
end Go.Proofs.YtpibdcjdamibdaaGreat
end
