/- Merged texts: EvL EvP EvQ EvR MoA MoB MoC MoD MoE MiA MiB MiC MiD StA StB StE StF OcA OcC OcE OcF McP. Conditions stand in each rule. -/
import Derived.Test.YtogicnodmgdnbaaGreatSK
import Derived.KernelRfl
set_option linter.unusedSimpArgs false
set_option linter.unusedVariables false

namespace Go.Proofs.YtogicnodmgdnbaaGreat
section
open Go.Tr Go Go.Proofs.Tryz
set_option maxRecDepth 10000
mutual
def smB : Sm → Prop
 | .mk args _ => args.length ≤ 1000000 ∧ smBL args
def smBL : List Sm → Prop
 | [] => True
 | s :: r => smB s ∧ smBL r
 end
theorem smBL_mem : ∀ {l : List Sm} {s : Sm}, smBL l → s ∈ l → smB s
 | _ :: r, s, h, hs => by
  simp only [smBL] at h
  rcases List.mem_cons.1 hs with e | e
  ·subst e; exact h.1
  ·exact smBL_mem h.2 e
theorem smB_args {s : Sm} (h : smB s) : s.args.length ≤ 1000000 ∧ smBL s.args := by cases s; exact h
theorem Sm.ind {motive : Sm → Prop} (h : ∀ t, (∀ x ∈ t.args, motive x) → motive t) (t : Sm) : motive t := by
 induction t using Sm.rec (motive_2 := fun ts => ∀ x ∈ ts, motive x) with
 | nil => rename_i x hx; cases hx
 | cons t ts ih1 ih2 => rename_i x hx; rcases List.mem_cons.1 hx with e | e; (subst e; exact ih1); exact ih2 x e
 | mk args con ih => exact h _ ih
theorem qhq : ∀ (q : Nat) (t : Tm), t.count ≤ q → Pr t → Yields (fun k => R03_Simple k t) (fun r => r.1.args.length ≤ t.height ∧ smB r.1)
 | 0, t, hq, _ => by have := qx t; omega
 | q + 1, t, hq, ht => by
  have hh := (qj ht).2.1
  refine Yields.succ (fun k => R03_Simple.eq_2 ..) ?_
  refine Yields.ite (fun _ => Yields.pure ⟨Nat.zero_le _, ?_⟩) (fun _ => ?_)
  ·exact ⟨Nat.zero_le _, trivial⟩
  refine Yields.ite (fun h => ?_) (fun _ => Yields.pure ⟨Nat.zero_le _, Nat.zero_le _, trivial⟩)
  obtain ⟨a, b, e, ha, hb, hca, hcb, hha, hhb⟩ := qjm ht (by simpa using h)
  rw [e]
  refine Yields.some (x := a) rfl ?_
  refine Yields.bind (qhq q a (by omega) ha) (fun x hx => ?_)
  refine Yields.some (x := b) rfl ?_
  refine Yields.bind (qhq q b (by omega) hb) (fun y hy => ?_)
  refine Yields.ite (fun _ => Yields.pure ⟨Nat.zero_le _, Nat.zero_le _, trivial⟩) (fun _ => ?_)
  have hbh := (qj hb).2.1
  refine Yields.need (by simp [Sm.encL_length]; omega) ?_
  refine Yields.pure ⟨?_, ?_⟩
  ·show ([x.1] ++ y.1.args).length ≤ t.height
   simp; omega
  ·show ([x.1] ++ y.1.args).length ≤ 1000000 ∧ smBL ([x.1] ++ y.1.args)
   exact ⟨by simp; omega, hx.2, (smB_args hy.2).2⟩
theorem qn7 (s : Sm) : smB s → ∀ m : Int, Yields (fun k => R04_constants k s m) (fun _ => True) := by
 induction s using Sm.ind with
 | h s ih =>
  intro hs m
  obtain ⟨hl, hb⟩ := smB_args hs
  have loop : ∀ (q i : Nat) (c : Int), q = s.args.length - i → i ≤ s.args.length → Yields (fun k => R04_constants_L1 k s m c (i : Int)) (fun _ => True) := by
   intro q
   induction q with
   | zero =>
    intro i c hq hi
    refine Yields.succ (fun k => R04_constants_L1.eq_2 ..) ?_
    refine Yields.ite (fun h => ?_) (fun _ => Yields.pure trivial)
    simp [Sm.encL_length] at h; omega
   | succ q ihq =>
    intro i c hq hi
    refine Yields.succ (fun k => R04_constants_L1.eq_2 ..) ?_
    refine Yields.ite (fun _ => ?_) (fun _ => Yields.pure trivial)
    obtain ⟨x, hx, hxm, _⟩ := qd1 (show i < s.args.length by omega)
    refine Yields.some hx ?_
    refine Yields.bind (ih x hxm (smBL_mem hb hxm) _) (fun y _ => ?_)
    refine Yields.ite (fun _ => Yields.pure trivial) (fun _ => ?_)
    rw [wrapS (by omega)]
    exact ihq (i + 1) _ (by omega) (by omega)
  refine Yields.succ (fun k => R04_constants.eq_2 ..) ?_
  refine Yields.ite (fun _ => Yields.pure trivial) (fun _ => ?_)
  exact loop _ 0 _ rfl (Nat.zero_le _)
theorem small_y {s : Sm} (h : smB s) : Yields (fun k => R04_Small k s) (fun _ => True) := by
 refine Yields.succ (fun k => R04_Small.eq_2 ..) ?_
 exact Yields.bind (qn7 s h _) (fun y _ => Yields.pure trivial)
theorem step_y {t m : Tm} (ht : Pr t) (hm : Pr m) {c : Int} (h0 : 0 ≤ c) (h1 : c ≤ 20000) : Yields (fun k => R04_count_step k t m ⟨c⟩) (okP c) := by
 refine Yields.succ (fun k => R04_count_step.eq_2 ..) ?_
 have bad : ∀ e : Int, e ≠ 0 → okP c ((Tm.mk 0 0 0 ([])), e, ⟨c⟩) := fun e he => ⟨Int.le_refl _, by simp only; omega, fun h => (he h).elim⟩
 refine Yields.ite (fun _ => Yields.pure (bad _ (by decide))) (fun h => ?_)
 obtain ⟨a, b, e, ha, hb, hca, hcb, hha, hhb⟩ := qjm ht (by simpa using h)
 rw [e]
 refine Yields.some (x := a) rfl ?_
 refine Yields.bind (qhq a.count a (Nat.le_refl _) ha) (fun x hx => ?_)
 refine Yields.ite (fun _ => Yields.pure (bad _ (by decide))) (fun _ => ?_)
 refine Yields.bind (small_y hx.2) (fun y _ => ?_)
 refine Yields.ite (fun _ => Yields.pure (bad _ (by decide))) (fun _ => ?_)
 refine Yields.some (x := b) rfl ?_
 exact Yields.bind (put_y 20001 b 0 m x.1 c h0 h1 (by omega) hb hm) (fun r hr => Yields.pure hr)
theorem list_y (l : List Tm) (hl : l.length ≤ 1000000) : Yields (fun k => R04_list k l) (fun _ => True) := by
 have loop : ∀ (q i : Nat), q = l.length - i → i ≤ l.length → Yields (fun k => R04_list_L1 k l (i : Int)) (fun _ => True) := by
  intro q
  induction q with
  | zero =>
   intro i hq hi
   refine Yields.succ (fun k => R04_list_L1.eq_2 ..) ?_
   refine Yields.ite (fun h => ?_) (fun _ => Yields.pure trivial)
   simp [Tm.encL_length] at h; omega
  | succ q ihq =>
   intro i hq hi
   refine Yields.succ (fun k => R04_list_L1.eq_2 ..) ?_
   refine Yields.ite (fun _ => ?_) (fun _ => Yields.pure trivial)
   obtain ⟨x, hx, hxm, _⟩ := qd1 (show i < l.length by omega)
   refine Yields.some hx ?_
   refine Yields.ite (fun _ => Yields.pure trivial) (fun _ => ?_)
   rw [wrapS (by omega)]
   exact ihq (i + 1) (by omega) (by omega)
 refine Yields.succ (fun k => R04_list.eq_2 ..) ?_
 exact loop _ 0 rfl (Nat.zero_le _)
theorem instance_y {t : Tm} (ht : Pr t) {l : List Tm} (hl : ∀ x ∈ l, Pr x) (hb : l.length ≤ 1000000) : Yields (fun k => R04_Instance k t l) okR := by
 have loop : ∀ (q i : Nat) (t : Tm) (c : Int), q = l.length - i → i ≤ l.length → Pr t → 0 ≤ c → c ≤ 20000 → Yields (fun k => R04_Instance_L1 k l t ⟨c⟩ (i : Int)) okR := by
  intro q
  induction q with
  | zero =>
   intro i t c hq hi ht h0 h1
   refine Yields.succ (fun k => R04_Instance_L1.eq_2 ..) ?_
   refine Yields.ite (fun h => ?_) (fun _ => Yields.pure (fun _ => ht))
   simp [Tm.encL_length] at h; omega
  | succ q ihq =>
   intro i t c hq hi ht h0 h1
   refine Yields.succ (fun k => R04_Instance_L1.eq_2 ..) ?_
   refine Yields.ite (fun _ => ?_) (fun _ => Yields.pure (fun _ => ht))
   obtain ⟨x, hx, hxm, _⟩ := qd1 (show i < l.length by omega)
   refine Yields.some hx ?_
   refine Yields.bind (step_y ht (hl x hxm) h0 h1) (fun y hy => ?_)
   obtain ⟨y1, y2, ⟨y3⟩⟩ := y
   obtain ⟨e1, e2, e3⟩ := hy
   simp only at e1 e2 e3 ⊢
   refine Yields.ite (fun h5 => Yields.pure ?_) (fun h5 => ?_)
   ·have h5 : y2 ≠ 0 := by simpa using h5
    exact fun h => (h5 h).elim
   have h5 : y2 = 0 := by simpa using h5
   rw [wrapS (by omega)]
   exact ihq (i + 1) y1 y3 (by omega) (by omega) (e3 h5).1 (by omega) (e3 h5).2
 refine Yields.succ (fun k => R04_Instance.eq_2 ..) ?_
 rw [qa9]
 refine Yields.ite (fun h => Yields.pure (fun h => by cases h)) (fun _ => ?_)
 refine Yields.bind (list_y l hb) (fun y _ => ?_)
 refine Yields.ite (fun h => Yields.pure (fun h => by cases h)) (fun _ => ?_)
 exact loop _ 0 t 0 rfl (Nat.zero_le _) ht (by omega) (by omega)
def ctxB (l : List Tm) : Prop := l.length ≤ 1000 ∧ ∀ x ∈ l, Pr x
theorem qlg {ctx : List Tm} {a : Tm} (hc : ctxB ctx) (ha : Pr a) : Yields (fun k => R06_longer k ctx a) (fun r => r.2 = 0 → ctxB r.1) := by
 refine Yields.succ (fun k => R06_longer.eq_2 ..) ?_
 refine Yields.ite (fun _ => Yields.pure (fun h => by cases h)) (fun h => ?_)
 have h : ctx.length < 30 := by simp [Tm.encL_length] at h; omega
 refine Yields.need (by simp [Tm.encL_length]; omega) ?_
 refine Yields.need (by simp [Tm.encL_length]; omega) ?_
 refine Yields.pure (fun _ => ⟨by simp; omega, fun x hx => ?_⟩)
 rcases List.mem_append.1 hx with h1 | h1
 ·exact hc.2 x h1
 ·simp at h1; subst h1; exact ha
theorem shiftF_ok (t : Tm) (b f : Int) : okR (shiftF t b f) := by
 unfold shiftF
 split
 ·intro h; cases h
 ·split
  ·intro h; cases h
  ·split
   ·intro h; cases h
   ·rename_i h
    intro _
    show isProper (movedF t b f) = true
    cases hp : isProper (movedF t b f) with
    | true => rfl
    | false => exact (h hp).elim
theorem has_ev (sig : List Dc) (n : Int) : Ev (fun k => R05_Has k sig n) (decide (n ≥ 0) && decide (n < (sig.length : Int))) := by
 refine Ev.succ (fun k => R05_Has.eq_2 ..) ?_
 rw [← Dc.encL_length]
 exact Ev.pure _
section
variable (sig : List Dc) (hsig : ∀ x ∈ sig, Pr x.cls)
include hsig
theorem class_y {ctx : List Tm} (hc : ctxB ctx) {m : Tm} (hm : Pr m) : Yields (fun k => R06_Kernel_class k ⟨sig, []⟩ ctx m) okR := by
 have hn := pr_n hm
 refine Yields.succ (fun k => R06_Kernel_class.eq_2 ..) ?_
 refine Yields.ite (fun _ => ?_) (fun _ => ?_)
 ·refine Yields.ite (fun _ => Yields.pure (fun h => by cases h)) (fun h => ?_)
  have h : m.n < (ctx.length : Int) := by simp [Tm.encL_length] at h; omega
  have hl := hc.1
  have hw : IntKind.i64.wrap (IntKind.i64.wrap (((Tm.encL ctx).length : Int) - 1) - m.n) = ((ctx.length - 1 - m.n.toNat : Nat) : Int) := by
   rw [Tm.encL_length, wrap_i64 (n := (ctx.length : Int) - 1) (by omega) (by omega), wrap_i64 (by omega) (by omega)]; omega
  rw [hw]
  obtain ⟨x, hx, _, _⟩ := qd1 (show ctx.length - 1 - m.n.toNat < ctx.length by omega)
  refine Yields.some hx ?_
  exact Yields.pure (shiftF_ok _ _ _)
 refine Yields.ite (fun _ => ?_) (fun _ => ?_)
 ·refine Yields.bind (Ev.is (has_ev sig m.n)) (fun b hb => ?_)
  subst hb
  refine Yields.ite (fun _ => Yields.pure (fun h => by cases h)) (fun h => ?_)
  have h := nb' h
  simp only [Bool.and_eq_true, decide_eq_true_eq] at h
  obtain ⟨d, hd, hdm⟩ := qi8 h.1 h.2
  have hp := qj (hsig d hdm)
  refine Yields.bind (Ev.is (qdo hd hp.1 (by omega))) (fun b hb => ?_)
  refine Yields.ite (fun _ => Yields.pure (fun h => by cases h)) (fun _ => ?_)
  refine Yields.some hd ?_
  exact Yields.pure (fun _ => hsig d hdm)
 ·refine Yields.ite (fun _ => Yields.pure (fun h => by cases h)) (fun h => ?_)
  simp [Mt.encL] at h; omega
def ObjY (q : Nat) : Prop := ∀ (ctx : List Tm) (m a : Tm), ctxB ctx → Pr m → Pr a → m.count ≤ q → Yields (fun k => R06_Kernel_Object k ⟨sig, []⟩ ctx m a) (fun _ => True)
omit hsig in
theorem fits_y {q : Nat} (hobj : ObjY sig q) {ctx : List Tm} (hc : ctxB ctx) {l : List Tm} (hl : ∀ x ∈ l, Pr x ∧ x.count ≤ q) (hb : l.length ≤ 1000000) {t : Tm} (ht : Pr t) : Yields (fun k => R06_Kernel_fits k ⟨sig, []⟩ ctx l t) okR := by
 have loop : ∀ (p i : Nat) (t : Tm), p = l.length - i → i ≤ l.length → Pr t → Yields (fun k => R06_Kernel_fits_L1 k l ⟨sig, []⟩ ctx t (i : Int)) okR := by
  intro p
  induction p with
  | zero =>
   intro i t hq hi ht
   refine Yields.succ (fun k => R06_Kernel_fits_L1.eq_2 ..) ?_
   refine Yields.ite (fun h => ?_) (fun _ => Yields.pure (fun _ => ht))
   simp [Tm.encL_length] at h; omega
  | succ p ihp =>
   intro i t hq hi ht
   refine Yields.succ (fun k => R06_Kernel_fits_L1.eq_2 ..) ?_
   refine Yields.ite (fun _ => ?_) (fun _ => Yields.pure (fun _ => ht))
   refine Yields.ite (fun _ => Yields.pure (fun h => by cases h)) (fun h => ?_)
   obtain ⟨a, b, e, ha, hb', _⟩ := qjm ht (by simpa using h)
   obtain ⟨x, hx, hxm, _⟩ := qd1 (show i < l.length by omega)
   refine Yields.some hx ?_
   refine Yields.some (x := a) (by rw [e]; rfl) ?_
   refine Yields.bind (hobj ctx x a hc (hl x hxm).1 ha (hl x hxm).2) (fun y _ => ?_)
   refine Yields.ite (fun h5 => Yields.pure ?_) (fun h5 => ?_)
   ·have h5 : y ≠ 0 := by simpa using h5
    exact fun h => (h5 h).elim
   refine Yields.some hx ?_
   refine Yields.bind (instance_y ht (l := [x]) (by intro z hz; simp at hz; subst hz; exact (hl z hxm).1) (by simp)) (fun z hz => ?_)
   refine Yields.ite (fun h6 => Yields.pure ?_) (fun h6 => ?_)
   ·have h6 : z.2 ≠ 0 := by simpa using h6
    exact fun h => (h6 h).elim
   rw [wrapS (by omega)]
   exact ihp (i + 1) z.1 (by omega) (by omega) (hz (by simpa using h6))
 refine Yields.succ (fun k => R06_Kernel_fits.eq_2 ..) ?_
 exact loop _ 0 t rfl (Nat.zero_le _) ht
theorem infer_y {q : Nat} (hobj : ObjY sig q) {ctx : List Tm} (hc : ctxB ctx) {m : Tm} (hm : Pr m) (hq : m.count ≤ q + 1) : Yields (fun k => R06_Kernel_Infer k ⟨sig, []⟩ ctx m) okR := by
 refine Yields.succ (fun k => R06_Kernel_Infer.eq_2 ..) ?_
 refine Yields.ite (fun _ => Yields.pure (fun h => by cases h)) (fun _ => ?_)
 refine Yields.bind (class_y sig hsig hc hm) (fun y hy => ?_)
 refine Yields.ite (fun h5 => Yields.pure ?_) (fun h5 => ?_)
 ·have h5 : y.2 ≠ 0 := by simpa using h5
  exact fun h => (h5 h).elim
 have hlen := qg2 hm
 refine Yields.bind (fits_y sig hobj hc (l := m.args) (fun x hx => ⟨qa3 hm hx, by have := qmb hx; omega⟩) (by omega) (hy (by simpa using h5))) (fun z hz => ?_)
 refine Yields.ite (fun h6 => Yields.pure ?_) (fun h6 => ?_)
 ·have h6 : z.2 ≠ 0 := by simpa using h6
  exact fun h => (h6 h).elim
 refine Yields.ite (fun _ => Yields.pure (fun h => by cases h)) (fun _ => Yields.pure (fun _ => hz (by simpa using h6)))
theorem qlo : ∀ (q : Nat), ObjY sig q
 | 0 => fun ctx m a hc hm ha hq => by have := qx m; omega
 | q + 1 => fun ctx m a hc hm ha hq => by
  have hobj := qlo q
  refine Yields.succ (fun k => R06_Kernel_Object.eq_2 ..) ?_
  refine Yields.ite (fun h2 => ?_) (fun _ => ?_)
  ·refine Yields.ite (fun _ => Yields.pure trivial) (fun _ => ?_)
   refine Yields.ite (fun _ => Yields.pure trivial) (fun h3 => ?_)
   obtain ⟨a0, a1, e, ha0, ha1, _⟩ := qjm ha (by simpa using h2)
   obtain ⟨m0, em, hm0, hcm⟩ := pr_one hm (by simpa using h3)
   refine Yields.some (x := a0) (by rw [e]; rfl) ?_
   refine Yields.bind (qlg hc ha0) (fun y hy => ?_)
   refine Yields.ite (fun _ => Yields.pure trivial) (fun h5 => ?_)
   refine Yields.some (x := m0) (by rw [em]; rfl) ?_
   refine Yields.some (x := a1) (by rw [e]; rfl) ?_
   exact Yields.bind (hobj y.1 m0 a1 (hy (by simpa using h5)) hm0 ha1 (by omega)) (fun z _ => Yields.pure trivial)
  refine Yields.ite (fun _ => ?_) (fun _ => Yields.pure trivial)
  refine Yields.ite (fun _ => Yields.pure trivial) (fun _ => ?_)
  refine Yields.bind (infer_y sig hsig hobj hc hm hq) (fun y _ => ?_)
  refine Yields.ite (fun _ => Yields.pure trivial) (fun _ => ?_)
  exact Yields.ite (fun _ => Yields.pure trivial) (fun _ => Yields.pure trivial)
theorem type_y : ∀ (q : Nat) (ctx : List Tm) (a : Tm), ctxB ctx → Pr a → a.count ≤ q → Yields (fun k => R06_Kernel_Type k ⟨sig, []⟩ ctx a) (fun _ => True) ∧ Yields (fun k => R06_Kernel_Kind k ⟨sig, []⟩ ctx a) (fun _ => True)
 | 0, ctx, a, hc, ha, hq => by have := qx a; omega
 | q + 1, ctx, a, hc, ha, hq => by
  have pi : a.op = 2 → ∀ b : Bool, Yields (fun k => R06_Kernel_pi k ⟨sig, []⟩ ctx a b) (fun _ => True) := by
   intro h2 b
   obtain ⟨a0, a1, e, ha0, ha1, c0, c1, _⟩ := qjm ha h2
   refine Yields.succ (fun k => R06_Kernel_pi.eq_2 ..) ?_
   refine Yields.some (x := a0) (by rw [e]; rfl) ?_
   refine Yields.bind (type_y q ctx a0 hc ha0 (by omega)).1 (fun y _ => ?_)
   refine Yields.ite (fun _ => Yields.pure trivial) (fun _ => ?_)
   refine Yields.some (x := a0) (by rw [e]; rfl) ?_
   refine Yields.bind (qlg hc ha0) (fun z hz => ?_)
   refine Yields.ite (fun _ => Yields.pure trivial) (fun h5 => ?_)
   have hz := hz (by simpa using h5)
   refine Yields.ite (fun _ => ?_) (fun _ => ?_)
   ·refine Yields.some (x := a1) (by rw [e]; rfl) ?_
    exact Yields.bind (type_y q z.1 a1 hz ha1 (by omega)).2 (fun _ _ => Yields.pure trivial)
   ·refine Yields.some (x := a1) (by rw [e]; rfl) ?_
    exact Yields.bind (type_y q z.1 a1 hz ha1 (by omega)).1 (fun _ _ => Yields.pure trivial)
  refine ⟨?_, ?_⟩
  ·refine Yields.succ (fun k => R06_Kernel_Type.eq_2 ..) ?_
   refine Yields.ite (fun h2 => ?_) (fun _ => ?_)
   ·exact Yields.bind (pi (by simpa using h2) false) (fun _ _ => Yields.pure trivial)
   refine Yields.ite (fun _ => Yields.pure trivial) (fun _ => ?_)
   refine Yields.bind (Ev.is (has_ev sig a.n)) (fun b hb => ?_)
   subst hb
   refine Yields.ite (fun _ => Yields.pure trivial) (fun h => ?_)
   have h := nb' h
   simp only [Bool.and_eq_true, decide_eq_true_eq] at h
   obtain ⟨d, hd, hdm⟩ := qi8 h.1 h.2
   have hp := qj (hsig d hdm)
   refine Yields.bind (Ev.is (qdo hd hp.1 (by omega))) (fun b hb => ?_)
   refine Yields.ite (fun _ => Yields.pure trivial) (fun _ => ?_)
   refine Yields.some hd ?_
   have hlen := qg2 ha
   refine Yields.bind (fits_y sig (qlo sig hsig a.count) hc (l := a.args) (fun x hx => ⟨qa3 ha hx, by have := qmb hx; omega⟩) (by omega) (hsig d hdm)) (fun z hz => ?_)
   refine Yields.ite (fun _ => Yields.pure trivial) (fun _ => ?_)
   exact Yields.ite (fun _ => Yields.pure trivial) (fun _ => Yields.pure trivial)
  ·refine Yields.succ (fun k => R06_Kernel_Kind.eq_2 ..) ?_
   refine Yields.ite (fun _ => Yields.pure trivial) (fun _ => ?_)
   refine Yields.ite (fun h2 => ?_) (fun _ => Yields.pure trivial)
   exact Yields.bind (pi (by simpa using h2) true) (fun _ _ => Yields.pure trivial)
end
mutual
def shT : Tm → Prop
 | .mk _ _ _ args => args.length ≤ 1152921504606846976 ∧ shTL args
def shTL : List Tm → Prop
 | [] => True
 | s :: r => shT s ∧ shTL r
 end
theorem qlh : ∀ {l : List Tm} {s : Tm}, shTL l → s ∈ l → shT s
 | _ :: r, s, h, hs => by
  simp only [shTL] at h
  rcases List.mem_cons.1 hs with e | e
  ·subst e; exact h.1
  ·exact qlh h.2 e
theorem shT_args {s : Tm} (h : shT s) : s.args.length ≤ 1152921504606846976 ∧ shTL s.args := by cases s; exact h
mutual
theorem shT_of : ∀ (t : Tm), okD t.enc → shT t
 | .mk o h n us, hk => by
  simp only [Tm.enc, okD, okL] at hk
  simp only [shT]
  exact ⟨by have := hk.2.2.2.1.1; rwa [Tm.encL_length] at this, shTL_of us hk.2.2.2.1.2⟩
theorem shTL_of : ∀ (us : List Tm), okL (Tm.encL us) → shTL us
 | [], _ => trivial
 | u :: us, hk => by
  simp only [Tm.encL, okL] at hk
  exact ⟨shT_of u hk.1, shTL_of us hk.2⟩
 end
theorem nodes_y (t : Tm) : shT t → ∀ m : Int, Yields (fun k => R03_nodes k t m) (fun _ => True) := by
 induction t using Tm.ind with
 | h t ih =>
  intro ht m
  obtain ⟨hl, hb⟩ := shT_args ht
  have loop : ∀ (q i : Nat) (c : Int), q = t.args.length - i → i ≤ t.args.length → Yields (fun k => R03_nodes_L1 k t m c (i : Int)) (fun _ => True) := by
   intro q
   induction q with
   | zero =>
    intro i c hq hi
    refine Yields.succ (fun k => R03_nodes_L1.eq_2 ..) ?_
    refine Yields.ite (fun h => ?_) (fun _ => Yields.pure trivial)
    simp [Tm.encL_length] at h; omega
   | succ q ihq =>
    intro i c hq hi
    refine Yields.succ (fun k => R03_nodes_L1.eq_2 ..) ?_
    refine Yields.ite (fun _ => ?_) (fun _ => Yields.pure trivial)
    obtain ⟨x, hx, hxm, _⟩ := qd1 (show i < t.args.length by omega)
    refine Yields.some hx ?_
    refine Yields.bind (ih x hxm (qlh hb hxm) _) (fun y _ => ?_)
    rw [wrapS (by omega)]
    exact ihq (i + 1) _ (by omega) (by omega)
  refine Yields.succ (fun k => R03_nodes.eq_2 ..) ?_
  exact loop _ 0 _ rfl (Nat.zero_le _)
theorem depth_y (t : Tm) : shT t → Yields (fun k => R03_Depth k t) (fun _ => True) := by
 induction t using Tm.ind with
 | h t ih =>
  intro ht
  obtain ⟨hl, hb⟩ := shT_args ht
  have loop : ∀ (q i : Nat) (c : Int), q = t.args.length - i → i ≤ t.args.length → Yields (fun k => R03_Depth_L1 k t c (i : Int)) (fun _ => True) := by
   intro q
   induction q with
   | zero =>
    intro i c hq hi
    refine Yields.succ (fun k => R03_Depth_L1.eq_2 ..) ?_
    refine Yields.ite (fun h => ?_) (fun _ => Yields.pure trivial)
    simp [Tm.encL_length] at h; omega
   | succ q ihq =>
    intro i c hq hi
    refine Yields.succ (fun k => R03_Depth_L1.eq_2 ..) ?_
    refine Yields.ite (fun _ => ?_) (fun _ => Yields.pure trivial)
    obtain ⟨x, hx, hxm, _⟩ := qd1 (show i < t.args.length by omega)
    refine Yields.some hx ?_
    refine Yields.bind (ih x hxm (qlh hb hxm)) (fun y _ => ?_)
    rw [wrapS (by omega)]
    exact ihq (i + 1) _ (by omega) (by omega)
  refine Yields.succ (fun k => R03_Depth.eq_2 ..) ?_
  exact loop _ 0 _ rfl (Nat.zero_le _)
theorem size_y {t : Tm} (ht : shT t) : Yields (fun k => R03_Size k t) (fun _ => True) := by
 refine Yields.succ (fun k => R03_Size.eq_2 ..) ?_
 exact Yields.bind (nodes_y t ht _) (fun _ _ => Yields.bind (depth_y t ht) (fun _ _ => Yields.pure trivial))
def sigB (sig : List Dc) : Prop := sig.length ≤ 1152921504606846976 ∧ ∀ d ∈ sig, shT d.cls
end

section
open Go.Tr Go Go.Proofs.Tryz
set_option maxRecDepth 10000
theorem getDrop {α : Type} {l : List α} {i : Nat} {u : α} {ts : List α} (hd : l.drop i = u :: ts) : l[i]? = some u := by
 have := congrArg (fun l => l[0]?) hd
 simpa using this
theorem dropDrop {α : Type} {l : List α} {i : Nat} {u : α} {ts : List α} (hd : l.drop i = u :: ts) : l.drop (i + 1) = ts := by
 rw [← List.drop_drop, hd]; rfl
theorem index_y (l : List Int) (v : Int) (hl : l.length ≤ 1000000) : ∀ (ts : List Int) (i : Nat), l.drop i = ts → i + ts.length = l.length → Yields (fun n => slices_Index_L1 n l v (i : Int)) (fun r => decide (r ≥ 0) = ts.any (fun x => v == x))
 | [], i, hd, hi => by
  refine Yields.succ (fun k => slices_Index_L1.eq_2 ..) ?_
  simp only [List.length_nil, Nat.add_zero] at hi
  refine Yields.ite (fun h => by exfalso; simp [hi] at h) (fun _ => Yields.pure rfl)
 | x :: ts, i, hd, hi => by
  refine Yields.succ (fun k => slices_Index_L1.eq_2 ..) ?_
  simp only [List.length_cons] at hi
  refine Yields.ite (fun _ => ?_) (fun h => by exfalso; simp at h; omega)
  refine Yields.some (qw (getDrop hd)) ?_
  refine Yields.ite (fun h => ?_) (fun h => ?_)
  ·refine Yields.pure ?_
   simp only [List.any_cons, h, Bool.true_or]
   simp
  ·simp only [List.any_cons, h, Bool.false_or]
   rw [wrapS (by omega)]
   exact index_y l v hl ts (i + 1) (dropDrop hd) (by omega)
theorem qh8 (l : List Int) (v : Int) (hl : l.length ≤ 1000000) : Ev (fun n => slices_Contains n l v) (l.any (fun x => v == x)) := by
 refine Yields.ev ?_
 refine Yields.succ (fun k => slices_Contains.eq_2 ..) ?_
 refine Yields.bind (q := fun r => decide (r ≥ 0) = l.any (fun x => v == x)) ?_ (fun r hr => Yields.pure hr)
 refine Yields.succ (fun k => slices_Index.eq_2 ..) ?_
 exact index_y l v hl l 0 rfl (by simp)
end

section
open Go.Tr Go Go.Proofs.Tryz
set_option maxRecDepth 10000
end

section
open Go.Tr Go Go.Proofs.Tryz
set_option maxRecDepth 10000
theorem qon (t : Tm) (i : Int) : Ev (fun k => R03_below k t i) (under t.op i) := by
 refine Ev.succ (fun k => R03_below.eq_2 ..) ?_
 by_cases h : t.op = 3 ∨ t.op = 2 ∧ i = 1
 ·rw [under, if_pos h]
  exact Ev.t (by simpa using h) (Ev.pure _)
 ·rw [under, if_neg h]
  exact Ev.f (by simpa using h) (Ev.pure _)
theorem low_ev (t : Tm) : ∀ (a b : Int), t.count ≤ 1000 → 0 ≤ a → 0 ≤ b → a + t.height ≤ 1000000 → b + t.height ≤ 1000000 → Ev (fun n => R03_low n t a b) (lowF t a b) := by
 induction t using Tm.ind with
 | h t ih =>
  intro a b hc ha hb ha2 hb2
  have hcl := qab t.args
  have hce := qai t
  have hhe := qaf t
  have loop : ∀ (ts : List Tm) (i : Nat), t.args.drop i = ts → i + ts.length = t.args.length → Ev (fun k => R03_low_L1 k t a b (i : Int)) (lowL t.op ts i a b) := by
   intro ts
   induction ts with
   | nil =>
    intro i hd hi
    refine Ev.succ (fun k => R03_low_L1.eq_2 ..) ?_
    simp only [List.length_nil, Nat.add_zero] at hi
    exact Ev.f (by simp [Tm.encL_length, hi]) (Ev.pure _)
   | cons u ts ihl =>
    intro i hd hi
    refine Ev.succ (fun k => R03_low_L1.eq_2 ..) ?_
    simp only [List.length_cons] at hi
    have hu := getDrop hd
    have hum := List.mem_of_getElem? hu
    have hh := qan hum
    have hul := qbb t.op i
    have hcu : u.count ≤ t.count := by
     have : ∀ (us : List Tm), u ∈ us → u.count ≤ qn us := by
      intro us
      induction us with
      | nil => intro h; cases h
      | cons v us ih =>
       intro h
       simp only [qn]
       rcases List.mem_cons.1 h with e | e
       ·subst e; omega
       ·have := ih e; omega
     have := this _ hum
     omega
    refine Ev.t (by simp [Tm.encL_length]; omega) ?_
    refine (qon t _).bind (Ev.some (qw hu) ?_)
    rw [wrap_i64 (n := a + under t.op i) (by omega) (by omega), wrap_i64 (n := b + under t.op i) (by omega) (by omega)]
    refine (ih u hum _ _ (by omega) (by omega) (by omega) (by omega) (by omega)).bind ?_
    simp only [lowL]
    refine Ev.ite (fun h => ?_) (fun h => ?_)
    ·rw [h, Bool.true_or]; exact Ev.pure _
    ·rw [h, Bool.false_or, wrapS (by omega)]
     exact ihl (i + 1) (dropDrop hd) (by omega)
  refine Ev.succ (fun k => R03_low.eq_2 ..) ?_
  rw [lowF_eq]
  refine Ev.ite (fun h => ?_) (fun h => ?_)
  ·rw [h, Bool.true_or]; exact Ev.pure _
  ·rw [h, Bool.false_or]
   exact loop t.args 0 rfl (by simp)
mutual
theorem low_fv (x : Int) : ∀ (t : Tm) (k : Int), okAll t = true → 0 ≤ k → 0 ≤ x → (lowF t (x + k) (x + k) = true ↔ x ∈ fvF t k)
 | .mk o h n us, k, hok, hk, hx => by
  simp only [okAll, Bool.and_eq_true] at hok
  simp only [lowF, fvF, List.mem_append, Bool.or_eq_true]
  rw [low_fvL x o us 0 k hok.2 hk hx]
  refine or_congr ?_ Iff.rfl
  by_cases h1 : o = 4 ∧ h = 1 ∧ n ≥ k
  ·rw [if_pos h1]
   obtain ⟨e1, e2, e3⟩ := h1
   subst e1 e2
   simp; omega
  ·rw [if_neg h1]
   simp only [List.not_mem_nil, iff_false, Bool.and_eq_true, beq_iff_eq, decide_eq_true_eq]
   rintro ⟨⟨⟨e1, e2⟩, e3⟩, e4⟩
   exact h1 ⟨e1, e2, by omega⟩
theorem low_fvL (x : Int) : ∀ (o : Int) (us : List Tm) (i : Nat) (k : Int), okAllL us = true → 0 ≤ k → 0 ≤ x → (lowL o us i (x + k) (x + k) = true ↔ x ∈ fvL o us i k)
 | o, [], i, k, _, _, _ => by simp [lowL, fvL]
 | o, u :: us, i, k, hok, hk, hx => by
  simp only [okAllL, Bool.and_eq_true] at hok
  have hu := qbb o i
  simp only [lowL, fvL, List.mem_append, Bool.or_eq_true]
  rw [low_fvL x o us (i + 1) k hok.2 hk hx]
  have e : x + k + under o i = x + (k + under o i) := by omega
  rw [e, low_fv x u (k + under o i) hok.1 (by omega) hx]
 end
theorem freeL_any {t : Tm} (hp : isProper t = true) : (freeL t).any (fun x => (0 : Int) == x) = lowF t 0 0 := by
 obtain ⟨hok, hh, _⟩ := qj hp
 rw [freeL, if_pos hp, Bool.eq_iff_iff]
 have h1 := low_fv 0 t 0 hok (by omega) (by omega)
 rw [show (0 : Int) + 0 = 0 by omega] at h1
 rw [h1, List.any_eq_true]
 have h2 : ∀ x, x ∈ numsOf freeOf t ↔ x ∈ fvF t 0 := by
  intro x
  rw [numsOf, qk0, qla x t 0 [] hok (by omega) (by omega)]
  simp
 constructor
 ·rintro ⟨x, hx, e⟩
  rw [beq_iff_eq] at e
  subst e
  exact (h2 _).1 hx
 ·intro h
  exact ⟨0, (h2 _).2 h, by simp⟩
theorem occurs_ev {t : Tm} (hp : isProper t = true) : Ev (fun n => term_Occurs n t 0) (lowF t 0 0, 0) := by
 refine Ev.succ (fun k => term_Occurs.eq_2 ..) ?_
 have hlen : (freeL t).length ≤ 1000000 := by
  have h1 := qee freeOf t [] 0
  have h2 := (qj hp).2.2
  rw [freeL, if_pos hp]
  simp only [numsOf, sorted, List.length_mergeSort, List.length_map]
  simp only [List.length_nil] at h1
  omega
 refine (qh8 (freeL t) 0 hlen).bind ((Ev.pure _).eq ?_)
 rw [freeL_any hp, freeE, if_pos hp]
theorem qm6 {t : Tm} (hp : isProper t = true) : Ev (fun n => R03_Occurs n t 0) (lowF t 0 0) := by
 obtain ⟨hok, hh, hc⟩ := qj hp
 refine Ev.succ (fun k => R03_Occurs.eq_2 ..) ?_
 refine Ev.t rfl ((low_ev t 0 0 (by omega) (by omega) (by omega) (by omega) (by omega)).bind (Ev.pure _))
end

section
open Go.Tr Go Go.Proofs.Tryz
set_option maxRecDepth 10000
set_option maxRecDepth 100000 in
theorem awake14_at (m : Nat) : W14_awake (m + 60) = some true := by kernel_rfl
theorem awake14_ev : Ev (fun k => W14_awake k) true := ⟨60, fun n hn => by
 obtain ⟨m, rfl⟩ : ∃ m, n = m + 60 := ⟨n - 60, by omega⟩
 exact awake14_at m⟩
end

section
open Go.Tr Go Go.Proofs.Tryz
set_option maxRecDepth 10000
end

section
open Go.Tr Go Go.Proofs.Tryz
set_option maxRecDepth 10000
end

section
open Go.Tr Go Go.Proofs.Tryz
set_option maxRecDepth 10000
section
variable {d : Dc} {written : List Int} {imp : Nat} {fam : Int}
end
end

section
open Go.Tr Go Go.Proofs.Tryz
set_option maxRecDepth 10000
def Jm (f g : Nat → Option (Md × Int)) : Prop := ∃ r, Ev f r ∧ Ev g r ∧ r.1.signs.length ≤ 1000000
theorem Jm.no (c : Int) : Jm (fun _ => some ((Md.mk 0 []), c)) (fun _ => some ((Md.mk 0 []), c)) := ⟨_, Ev.pure _, Ev.pure _, by simp⟩
end

section
open Go.Tr Go Go.Proofs.Tryz
set_option maxRecDepth 10000
def is3 (v : Int) : Prop := v = 1 ∨ v = 2 ∨ v = 3
section
variable {sig : List Dc} {d : Dc} {fam : Int} {imp : Nat}
end
end

section
open Go.Tr Go Go.Proofs.Tryz
set_option maxRecDepth 10000
theorem qk7 {α : Type} {l : List α} {n : Int} {x : α} (h : idx l n = some x) : 0 ≤ n ∧ n < (l.length : Int) := by
 obtain ⟨h0, h1⟩ := qi h
 have := (List.getElem?_eq_some_iff.1 h1).1
 omega
theorem idx_no {α : Type} {l : List α} {n : Int} (h : idx l n = none) : n < 0 ∨ n ≥ (l.length : Int) := by
 rcases Int.lt_or_le n 0 with h0 | h0
 ·exact .inl h0
 ·right
  have e : idx l n = l[n.toNat]? := by
   have := qi7 l n.toNat
   rwa [show ((n.toNat : Nat) : Int) = n by omega] at this
  rw [e, List.getElem?_eq_none_iff] at h
  omega
def signsB (l : List Int) : Bool := l.all (fun s => decide (1 ≤ s ∧ s ≤ 3))
theorem signsB_is3 {l : List Int} (h : signsB l = true) : ∀ s ∈ l, is3 s := by
 intro s hs
 have := List.all_eq_true.1 h s hs
 simp only [decide_eq_true_eq] at this
 unfold is3; omega
def rightB (sig : List Dc) (m : Md) : Bool := match idx sig m.family with
 | none => false
 | some d => kindT d.cls && (decide ((split d.cls).1.length = m.signs.length) && signsB m.signs)
theorem qfj {sig : List Dc} {m : Md} {d : Dc} (hd : idx sig m.family = some d) : rightB sig m = (kindT d.cls && (decide ((split d.cls).1.length = m.signs.length) && signsB m.signs)) := by
 unfold rightB; rw [hd]
theorem qi9 {sig : List Dc} {m : Md} (hd : idx sig m.family = none) : rightB sig m = false := by
 unfold rightB; rw [hd]
theorem rightB_yes {sig : List Dc} {m : Md} (h : rightB sig m = true) : ∃ d, idx sig m.family = some d ∧ kindT d.cls = true ∧ (split d.cls).1.length = m.signs.length ∧ ∀ s ∈ m.signs, is3 s := by
 cases hd : idx sig m.family with
 | none => rw [qi9 hd] at h; cases h
 | some d =>
  rw [qfj hd, Bool.and_eq_true, Bool.and_eq_true, decide_eq_true_eq] at h
  exact ⟨d, rfl, h.1, h.2.1, signsB_is3 h.2.2⟩
theorem indexBad_y (l : List Int) (hl : l.length ≤ 1000000) : ∀ (ts : List Int) (i : Nat), l.drop i = ts → i + ts.length = l.length → Yields (fun n => slices_IndexFunc_mode_isMode_1_L1 n l (i : Int)) (fun r => decide (r ≥ 0) = !signsB ts) := by
 intro ts
 induction ts with
 | nil =>
  intro i hd hi
  simp only [List.length_nil, Nat.add_zero] at hi
  refine Yields.succ (fun k => slices_IndexFunc_mode_isMode_1_L1.eq_2 ..) ?_
  refine Yields.ite (fun h => ?_) (fun _ => Yields.pure (by simp [signsB]))
  simp at h; omega
 | cons u ts ih =>
  intro i hd hi
  simp only [List.length_cons] at hi
  refine Yields.succ (fun k => slices_IndexFunc_mode_isMode_1_L1.eq_2 ..) ?_
  refine Yields.ite (fun _ => ?_) (fun h => ?_)
  ·refine Yields.some (qw (getDrop hd)) ?_
   refine Yields.bind (Ev.is (Ev.succ (fun k => mode_isMode_1.eq_2 ..) (Ev.pure _))) (fun b hb => ?_)
   subst hb
   refine Yields.ite (fun h => Yields.pure ?_) (fun h => ?_)
   ·have : signsB (u :: ts) = false := by
     simp only [signsB, List.all_cons, Bool.and_eq_false_iff]
     left
     simp at h ⊢; omega
    rw [this]; simp
   ·rw [wrapS (by omega)]
    refine Yields.mono (ih (i + 1) (dropDrop hd) (by omega)) (fun r hr => ?_)
    have : signsB (u :: ts) = signsB ts := by
     simp only [signsB, List.all_cons]
     rw [decide_eq_true (by simp at h; omega), Bool.true_and]
    rw [this]; exact hr
  ·exfalso; simp at h; omega
theorem isMode_ev {sig : List Dc} (hs : sigOK sig = true) (m : Md) : Ev (fun k => mode_isMode k sig m) (rightB sig m) := by
 obtain ⟨hsl, hpr⟩ := qa6 hs
 refine Ev.succ (fun k => mode_isMode.eq_2 ..) ?_
 cases hd : idx sig m.family with
 | none =>
  rw [qi9 hd]
  refine Ev.t ?_ (Ev.pure _)
  rcases idx_no hd with h | h
  ·rw [decide_eq_true h]; rfl
  ·rw [Dc.encL_length, decide_eq_true h, Bool.or_true]
 | some d =>
  rw [qfj hd]
  obtain ⟨h0, h1⟩ := qk7 hd
  have hp : Pr d.cls := hpr d (List.mem_of_getElem? (qi hd).2)
  obtain ⟨hok, hh, hc⟩ := qj hp
  have hsf := (qe9 hp).2.2.2.2
  have hfa := qga hd hok (by omega)
  refine Ev.f (by rw [Dc.encL_length]; simp; omega) (hfa.bind ?_)
  cases hk : kindT d.cls with
  | false => exact Ev.t rfl ((Ev.pure _).eq (by simp))
  | true =>
   refine Ev.f rfl (Ev.some (x := d) rfl ((qem hok (by omega)).bind ?_))
   by_cases hl : (split d.cls).1.length = m.signs.length
   ·refine Ev.t (by rw [Tm.encL_length]; simp; omega) ?_
    rw [decide_eq_true hl]
    obtain ⟨r, r1, r2⟩ := indexBad_y m.signs (by omega) m.signs 0 rfl (by simp)
    refine Ev.bind (x := decide (r ≥ 0)) ?_ ((Ev.pure _).eq (by rw [r2]; simp))
    refine Ev.succ (fun k => slices_ContainsFunc_mode_isMode_1.eq_2 ..) (Ev.bind (x := r) ?_ (Ev.pure _))
    exact Ev.succ (fun k => slices_IndexFunc_mode_isMode_1.eq_2 ..) r1
   ·refine Ev.f (by rw [Tm.encL_length]; simp; omega) ((Ev.pure _).eq ?_)
    rw [decide_eq_false hl]; simp
end

section
open Go.Tr Go Go.Proofs.Tryz
set_option maxRecDepth 10000
section
variable {sig : List Dc} {m : Md} {d : Dc} {imp : Nat}
end
end

section
open Go.Tr Go Go.Proofs.Tryz
set_option maxRecDepth 10000
def fndM (f : Int) : List Md → Nat → Int
 | [], _ => -1
 | m :: l, i => if m.family == f then (i : Int) else fndM f l (i + 1)
theorem findM_evL (l : List Md) (f : Int) (hl : l.length ≤ 1000) : ∀ (ts : List Md) (i : Nat), l.drop i = ts → i + ts.length = l.length → Ev (fun k => R14_Find_L1 k l f (i : Int)) (fndM f ts i) := by
 intro ts
 induction ts with
 | nil =>
  intro i hd hi
  simp only [List.length_nil, Nat.add_zero] at hi
  exact Ev.succ (fun k => R14_Find_L1.eq_2 ..) (Ev.f (by rw [Md.encL_length]; simp; omega) (Ev.pure _))
 | cons m ts ih =>
  intro i hd hi
  simp only [List.length_cons] at hi
  refine Ev.succ (fun k => R14_Find_L1.eq_2 ..) (Ev.t (by rw [Md.encL_length]; simp; omega) (Ev.some (qw (getDrop hd)) ?_))
  simp only [fndM]
  refine Ev.ite (fun h => ?_) (fun h => ?_)
  ·rw [if_pos h]; exact Ev.pure _
  ·rw [if_neg (by rw [h]; decide), wrapS (by omega)]
   exact ih (i + 1) (dropDrop hd) (by omega)
theorem findM_ev (l : List Md) (f : Int) (hl : l.length ≤ 1000) : Ev (fun k => R14_Find k l f) (fndM f l 0) :=
 Ev.succ (fun k => R14_Find.eq_2 ..) (findM_evL l f hl l 0 rfl (by simp))
def modesB (sig : List Dc) : List Md → List Md → Bool
 | _, [] => true
 | pre, m :: l => (!pre.any (fun x => x.family == m.family) && rightB sig m) && modesB sig (pre ++ [m]) l
def modesOK (sig : List Dc) (l : List Md) : Bool := decide (l.length ≤ 40) && modesB sig [] l
def mapOf (pre : List Md) (g : List (Int × Md)) : Prop := ∀ f, mget g f = pre.find? (fun x => x.family == f)
theorem mapOf_put {pre : List Md} {g : List (Int × Md)} (h : mapOf pre g) {m : Md} (hn : pre.any (fun x => x.family == m.family) = false) : mapOf (pre ++ [m]) (mput m.family m g) := by
 intro f
 rw [qic, List.find?_append, h f]
 by_cases hf : f = m.family
 ·subst hf
  rw [if_pos rfl]
  have : pre.find? (fun x => x.family == m.family) = none := by
   rw [List.find?_eq_none]
   rw [List.any_eq_false] at hn
   exact hn
  rw [this]
  simp [List.find?]
 ·rw [if_neg hf]
  have : [m].find? (fun x => x.family == f) = none := by
   rw [List.find?_eq_none]
   intro x hx
   rw [List.mem_singleton] at hx
   subst hx
   simp; omega
  rw [this]
  cases pre.find? (fun x => x.family == f) <;> rfl
theorem qm8 (f : Int) : ∀ (l : List Md) (i : Nat), (fndM f l i < 0 ∧ l.find? (fun x => x.family == f) = none) ∨ (∃ k m, fndM f l i = ((i + k : Nat) : Int) ∧ l[k]? = some m ∧ l.find? (fun x => x.family == f) = some m)
 | [], i => .inl ⟨by simp [fndM], rfl⟩
 | m :: l, i => by
  simp only [fndM, List.find?]
  cases h : (m.family == f) with
  | true => right; exact ⟨0, m, by simp, rfl, rfl⟩
  | false =>
   simp only [Bool.false_eq_true, if_false]
   rcases qm8 f l (i + 1) with ⟨h1, h2⟩ | ⟨k, x, h1, h2, h3⟩
   ·left; exact ⟨h1, h2⟩
   ·right; exact ⟨k + 1, x, by rw [h1]; congr 1; omega, h2, h3⟩
end

section
open Go.Tr Go Go.Proofs.Tryz
set_option maxRecDepth 10000
mutual
def shF : Tm → Int → Option (Int × Int)
 | .mk o h n us, k => if o = 3 then shLam us (k + 1) else if o = 4 ∧ (us.length : Int) = k ∧ ¬(h = 1 ∧ n < k) ∧ shArgs us k 0 = true then some (h, if h = 1 then n - k else n) else none
def shLam : List Tm → Int → Option (Int × Int)
 | [], _ => none
 | u :: us, k => shF u k
def shArgs : List Tm → Int → Int → Bool
 | [], _, _ => true
 | u :: us, k, i => (shF u 0 == some (1, k - 1 - i)) && shArgs us k (i + 1)
 end
def patF (opn : Int → Bool) (b : Int) : List Int → List Tm → Bool
 | _, [] => true
 | seen, x :: xs => match shF x 0 with
  | some (h, n) => (h == 1) && (!(seen.any (fun y => n == y)) && (!(decide (n ≥ b) && opn (n - b)) && patF opn b (seen ++ [n]) xs))
  | none => false
mutual
def strF (opn : Int → Bool) : Tm → Int → List Int
 | .mk o h n us, b => if o = 4 ∧ h = 1 ∧ n ≥ b ∧ opn (n - b) = true then (if patF opn b [] us = true then [n - b] else []) else strL opn o us 0 b
def strL (opn : Int → Bool) : Int → List Tm → Nat → Int → List Int
 | _, [], _, _ => []
 | o, u :: us, i, b => strF opn u (b + under o i) ++ strL opn o us (i + 1) b
 end
mutual
def renF (ρ : Int → Int) : Tm → Int → Tm
 | .mk o h n us, b => .mk o h (if o = 4 ∧ h = 1 ∧ n ≥ b then ρ (n - b) + b else n) (renL ρ o us 0 b)
def renL (ρ : Int → Int) : Int → List Tm → Nat → Int → List Tm
 | _, [], _, _ => []
 | o, u :: us, i, b => renF ρ u (b + under o i) :: renL ρ o us (i + 1) b
 end
mutual
theorem sh_fv : ∀ (t : Tm) (k b n : Int), 0 ≤ k → shF t k = some (1, n) → n ≥ b → n - b ∈ fvF t (b + k)
 | .mk o h n us, k, b, m, hk, hs, hm => by
  simp only [shF] at hs
  simp only [fvF, List.mem_append]
  by_cases h3 : o = 3
  ·rw [if_pos h3] at hs
   subst h3
   exact .inr (sh_fvLam us k b m hk hs hm)
  ·rw [if_neg h3] at hs
   split at hs
   ·rename_i hc
    simp only [Option.some.injEq, Prod.mk.injEq] at hs
    obtain ⟨e1, e2⟩ := hs
    subst e1
    rw [if_pos rfl] at e2
    left
    rw [if_pos ⟨hc.1, rfl, by omega⟩, List.mem_singleton]
    omega
   ·cases hs
theorem sh_fvLam : ∀ (us : List Tm) (k b n : Int), 0 ≤ k → shLam us (k + 1) = some (1, n) → n ≥ b → n - b ∈ fvL 3 us 0 (b + k)
 | [], _, _, _, _, hs, _ => by cases hs
 | u :: us, k, b, n, hk, hs, hm => by
  have hu : under 3 ((0 : Nat) : Int) = 1 := by simp [under]
  simp only [fvL, List.mem_append, hu]
  rw [show b + k + 1 = b + (k + 1) by omega]
  exact .inl (sh_fv u (k + 1) b n (by omega) hs hm)
 end
mutual
theorem str_fv {opn : Int → Bool} : ∀ (t : Tm) (b : Int), ∀ x ∈ strF opn t b, x ∈ fvF t b ∧ opn x = true
 | .mk o h n us, b, x, hx => by
  simp only [strF] at hx
  simp only [fvF, List.mem_append]
  split at hx
  ·rename_i hc
   split at hx
   ·rw [List.mem_singleton] at hx
    subst hx
    exact ⟨.inl (by rw [if_pos ⟨hc.1, hc.2.1, hc.2.2.1⟩]; simp), hc.2.2.2⟩
   ·cases hx
  ·obtain ⟨h1, h2⟩ := str_fvL o us 0 b x hx
   exact ⟨.inr h1, h2⟩
theorem str_fvL {opn : Int → Bool} : ∀ (o : Int) (us : List Tm) (i : Nat) (b : Int), ∀ x ∈ strL opn o us i b, x ∈ fvL o us i b ∧ opn x = true
 | _, [], _, _, x, hx => by cases hx
 | o, u :: us, i, b, x, hx => by
  simp only [strL, List.mem_append] at hx
  simp only [fvL, List.mem_append]
  rcases hx with hx | hx
  ·obtain ⟨h1, h2⟩ := str_fv u _ x hx
   exact ⟨.inl h1, h2⟩
  ·obtain ⟨h1, h2⟩ := str_fvL o us (i + 1) b x hx
   exact ⟨.inr h1, h2⟩
 end
end

section
open Go.Tr Go Go.Proofs.Tryz
set_option maxRecDepth 10000
theorem shF_eq (t : Tm) (k : Int) : shF t k = if t.op = 3 then shLam t.args (k + 1) else if t.op = 4 ∧ (t.args.length : Int) = k ∧ ¬(t.hd = 1 ∧ t.n < k) ∧ shArgs t.args k 0 = true then some (t.hd, if t.hd = 1 then t.n - k else t.n) else none := by cases t; rfl
theorem strF_eq (opn : Int → Bool) (t : Tm) (b : Int) : strF opn t b = if t.op = 4 ∧ t.hd = 1 ∧ t.n ≥ b ∧ opn (t.n - b) = true then (if patF opn b [] t.args = true then [t.n - b] else []) else strL opn t.op t.args 0 b := by cases t; rfl
theorem qkh (t : Tm) (b : Int) : fvF t b = (if t.op = 4 ∧ t.hd = 1 ∧ t.n ≥ b then [t.n - b] else []) ++ fvL t.op t.args 0 b := by cases t; rfl
theorem qh6 (y : Int) (o : Int) : ∀ (us : List Tm) (i : Nat) (b : Int) (j : Nat) (u : Tm), us[j]? = some u → y ∈ fvF u (b + under o ((i + j : Nat) : Int)) → y ∈ fvL o us i b
 | [], _, _, _, _, h, _ => by simp at h
 | v :: us, i, b, 0, u, h, hy => by
  simp at h; subst h
  simp only [fvL, List.mem_append]
  exact .inl hy
 | v :: us, i, b, j + 1, u, h, hy => by
  simp only [fvL, List.mem_append]
  refine .inr (qh6 y o us (i + 1) b j u (by simpa using h) ?_)
  rw [show i + 1 + j = i + (j + 1) by omega]; exact hy
def shP (q : Option (Int × Int)) : Int × Int × Int := match q with
 | some (h, n) => (h, n, 0)
 | none => (0, 0, 6)
theorem short_ev : ∀ (N : Nat) (u : Tm), u.height ≤ N → Pr u → Ev (fun q => subst_Short q u) (shP (shF u 0)) := by
 intro N
 induction N with
 | zero => intro u hu; have := qt u; omega
 | succ N ih =>
  have L2 : ∀ (v : Tm) (k : Nat), Pr v → v.height ≤ N + 1 → k ≤ 1000 → ∀ (ts : List Tm) (i : Nat), v.args.drop i = ts → i + ts.length = v.args.length → Ev (fun q => subst_Short_L2 q v (k : Int) (i : Int)) (if shArgs ts k i = true then (v.hd, (if v.hd = 1 then v.n - k else v.n), 0) else (0, 0, 6)) := by
   intro v k hv hvh hk ts
   have hn := pr_n hv
   have hlen := qg2 hv
   induction ts with
   | nil =>
    intro i hd hi
    simp only [List.length_nil, Nat.add_zero] at hi
    refine Ev.succ (fun q => subst_Short_L2.eq_2 ..) (Ev.f (by rw [Tm.encL_length]; simp; omega) ?_)
    rw [if_pos (show shArgs [] (k : Int) (i : Int) = true from rfl)]
    refine Ev.ite (fun h => ?_) (fun h => ?_)
    ·have h : v.hd = 1 := by simpa using h
     rw [if_pos h, wrap_i64 (by omega) (by omega)]; exact Ev.pure _
    ·have h : ¬ v.hd = 1 := by simpa using h
     rw [if_neg h]; exact Ev.pure _
   | cons t ts ihl =>
    intro i hd hi
    simp only [List.length_cons] at hi
    have ht := getDrop hd
    have htm := List.mem_of_getElem? ht
    have hth := qan htm
    have e := ih t (by rw [qaf] at hvh; omega) (qa3 hv htm)
    refine Ev.succ (fun q => subst_Short_L2.eq_2 ..) (Ev.t (by rw [Tm.encL_length]; simp; omega) (Ev.some (qw ht) (e.bind ?_)))
    rw [wrap_i64 (n := (k : Int) - 1) (by omega) (by omega), wrap_i64 (n := (k : Int) - 1 - i) (by omega) (by omega), wrapS (by omega)]
    have hs : shArgs (t :: ts) (k : Int) (i : Int) = ((shF t 0 == some (1, (k : Int) - 1 - i)) && shArgs ts k ((i : Int) + 1)) := rfl
    rw [hs]
    cases hq : shF t 0 with
    | none => exact Ev.t rfl (Ev.pure _)
    | some q =>
     obtain ⟨h, m⟩ := q
     by_cases hc : h = 1 ∧ m = (k : Int) - 1 - i
     ·obtain ⟨rfl, rfl⟩ := hc
      refine Ev.f (by simp [shP]) ?_
      have := ihl (i + 1) (dropDrop hd) (by omega)
      rw [show (((1 : Int), (k : Int) - 1 - (i : Int)) : Int × Int) = (1, (k : Int) - 1 - (i : Int)) from rfl]
      simp only [beq_self_eq_true, Bool.true_and]
      exact this
     ·have e1 : ((some (h, m) : Option (Int × Int)) == some (1, (k : Int) - 1 - i)) = false := by
       rw [beq_eq_false_iff_ne]
       intro e; injection e with e; injection e with e1 e2; exact hc ⟨e1, e2⟩
      rw [e1, Bool.false_and, if_neg (by decide)]
      refine Ev.t ?_ (Ev.pure _)
      simp only [shP, Bool.or_eq_true, bne_iff_ne]
      by_cases h1 : h = 1
      ·exact .inr (fun e => hc ⟨h1, e⟩)
      ·exact .inl (.inr h1)
  have L1 : ∀ (M : Nat) (v : Tm) (k : Nat), v.height ≤ M → v.height ≤ N + 1 → Pr v → k + v.height ≤ 1000 → Ev (fun q => subst_Short_L1 q v (k : Int)) (shP (shF v (k : Int))) := by
   intro M
   induction M with
   | zero => intro v k hv; have := qt v; omega
   | succ M ihM =>
    intro v k hv hvN hp hk
    rw [shF_eq]
    by_cases h3 : v.op = 3
    ·rw [if_pos h3]
     obtain ⟨a, ha, _, hh, _⟩ := qgj (qj hp).1 h3
     have := ihM a (k + 1) (by omega) (by omega) (qa3 hp (by rw [ha]; simp)) (by omega)
     refine Ev.succ (fun q => subst_Short_L1.eq_2 ..) (Ev.t (by simpa using h3) (Ev.some (x := a) (by rw [ha]; rfl) ?_))
     rw [wrapS (by omega), ha]
     exact this
    ·rw [if_neg h3]
     refine Ev.succ (fun q => subst_Short_L1.eq_2 ..) (Ev.f (by simpa using h3) ?_)
     by_cases hc : v.op = 4 ∧ (v.args.length : Int) = k ∧ ¬(v.hd = 1 ∧ v.n < k)
     ·have := L2 v k hp hvN (by omega) v.args 0 rfl (by simp)
      refine Ev.f ?_ (this.eq ?_)
      ·obtain ⟨c1, c2, c3⟩ := hc
       rw [Tm.encL_length]
       simp only [Bool.or_eq_false_iff, bne_eq_false_iff_eq, Bool.and_eq_false_iff, beq_eq_false_iff_ne, decide_eq_false_iff_not]
       refine ⟨⟨c1, c2⟩, ?_⟩
       by_cases h1 : v.hd = 1
       ·exact .inr (fun h => c3 ⟨h1, h⟩)
       ·exact .inl h1
      ·by_cases ha : shArgs v.args (k : Int) 0 = true
       ·rw [if_pos (show shArgs v.args (k : Int) ((0 : Nat) : Int) = true from ha), if_pos (show v.op = 4 ∧ (v.args.length : Int) = k ∧ ¬(v.hd = 1 ∧ v.n < k) ∧ shArgs v.args k 0 = true from ⟨hc.1, hc.2.1, hc.2.2, ha⟩)]; rfl
       ·rw [if_neg (show ¬ shArgs v.args (k : Int) ((0 : Nat) : Int) = true from ha), if_neg (fun hh => ha hh.2.2.2)]; rfl
     ·rw [if_neg (fun hh => hc ⟨hh.1, hh.2.1, hh.2.2.1⟩)]
      refine Ev.t ?_ (Ev.pure _)
      rw [Tm.encL_length]
      simp only [Bool.or_eq_true, bne_iff_ne, Bool.and_eq_true, beq_iff_eq, decide_eq_true_eq]
      by_cases c1 : v.op = 4
      ·by_cases c2 : (v.args.length : Int) = k
       ·right
        exact Classical.byContradiction (fun c3 => hc ⟨c1, c2, c3⟩)
       ·exact .inl (.inr c2)
      ·exact .inl (.inl c1)
  intro u hu hp
  have hpp := (qj hp).2.1
  exact Ev.succ (fun q => subst_Short.eq_2 ..) (Ev.f (by rw [if_pos hp]; rfl) (L1 u.height u 0 (Nat.le_refl _) hu hp (by omega)))
mutual
theorem ql4 : ∀ (t : Tm) (k h n : Int), 0 ≤ k → okAll t = true → shF t k = some (h, n) → 0 ≤ n ∧ n ≤ 9999
 | .mk o hd m us, k, h, n, hk, hok, hs => by
  have hn := qfe hok
  simp only [Tm.n] at hn
  simp only [okAll, Bool.and_eq_true] at hok
  simp only [shF] at hs
  split at hs
  ·exact qoa us k h n hk hok.2 hs
  ·split at hs
   ·rename_i hc
    simp only [Option.some.injEq, Prod.mk.injEq] at hs
    obtain ⟨e1, e2⟩ := hs
    have := hc.2.2.1
    split at e2 <;> omega
   ·cases hs
theorem qoa : ∀ (us : List Tm) (k h n : Int), 0 ≤ k → okAllL us = true → shLam us (k + 1) = some (h, n) → 0 ≤ n ∧ n ≤ 9999
 | [], _, _, _, _, _, hs => by cases hs
 | u :: us, k, h, n, hk, hok, hs => by
  simp only [okAllL, Bool.and_eq_true] at hok
  exact ql4 u (k + 1) h n (by omega) hok.1 hs
 end
def Lv (s : List Bool) (opn : Int → Bool) : Prop := ∀ v : Int, 0 ≤ v → v < (s.length : Int) → idx s ((s.length : Int) - 1 - v) = some (opn v)
abbrev lvl (s : List Bool) (v : Int) : Int := (s.length : Int) - 1 - v
theorem level_ev (s : List Bool) (n b : Int) (hl : s.length ≤ 1000000) (hn : 0 ≤ n ∧ n ≤ 1000000) (hb : 0 ≤ b ∧ b ≤ 1000000) : Ev (fun q => mode_scope_level q s n b) (lvl s (n - b), decide (n ≥ b)) := by
 refine Ev.succ (fun q => mode_scope_level.eq_2 ..) ((Ev.pure _).eq ?_)
 rw [List.length_map, wrap_i64 (n := (s.length : Int) - 1) (by omega) (by omega), wrap_i64 (n := n - b) (by omega) (by omega), wrap_i64 (by omega) (by omega)]
theorem pattern_ev {s : List Bool} {opn : Int → Bool} (hs : Lv s opn) (hl : s.length ≤ 100000) (l : List Tm) (b : Nat) (hb : b ≤ 100000) (hll : l.length ≤ 600) (hp : ∀ x ∈ l, Pr x) (hf : ∀ x ∈ l, ∀ y ∈ fvF x b, y < (s.length : Int)) :
  Ev (fun q => mode_scope_pattern q s l (b : Int)) (patF opn b [] l) := by
 have loop : ∀ (ts : List Tm) (i : Nat) (seen : List Int), l.drop i = ts → i + ts.length = l.length → seen.length = i → Ev (fun q => mode_scope_pattern_L1 q l s (b : Int) seen (i : Int)) (patF opn b seen ts) := by
  intro ts
  induction ts with
  | nil =>
   intro i seen hd hi hse
   simp only [List.length_nil, Nat.add_zero] at hi
   exact Ev.succ (fun q => mode_scope_pattern_L1.eq_2 ..) (Ev.f (by rw [Tm.encL_length]; simp; omega) (Ev.pure _))
  | cons x ts ih =>
   intro i seen hd hi hse
   simp only [List.length_cons] at hi
   have hx := getDrop hd
   have hxm := List.mem_of_getElem? hx
   have hxp := hp x hxm
   refine Ev.succ (fun q => mode_scope_pattern_L1.eq_2 ..) (Ev.t (by rw [Tm.encL_length]; simp; omega) (Ev.some (qw hx) ((short_ev x.height x (Nat.le_refl _) hxp).bind ?_)))
   simp only [patF]
   cases hq : shF x 0 with
   | none => exact Ev.t rfl (Ev.pure _)
   | some q =>
    obtain ⟨h, n⟩ := q
    by_cases h1 : h = 1
    case neg =>
     have e : (h == 1) = false := by simpa using h1
     refine Ev.t (by simp [shP, h1]) ((Ev.pure _).eq ?_)
     simp only [e, Bool.false_and]
    case pos =>
     subst h1
     dsimp only
     have hn := ql4 x 0 1 n (by omega) (qj hxp).1 hq
     refine Ev.f rfl ((qh8 seen n (by omega)).bind ?_)
     have hcl : decide ((List.map (D.int .i64) (seen ++ [n])).length ≤ 1000000) = true := by
      rw [List.length_map, List.length_append]; simp; omega
     have hrec := ih (i + 1) (seen ++ [n]) (dropDrop hd) (by omega) (by simp; omega)
     refine Ev.ite (fun h => (Ev.pure _).eq (by rw [h]; simp)) (fun h => (level_ev s n b (by omega) (by omega) (by omega)).bind ?_)
     rw [h, wrapS (by omega)]
     simp only [beq_self_eq_true, Bool.true_and, Bool.not_false]
     refine Ev.ite (fun hnb => ?_) (fun hnb => ?_)
     ·have hnb' : n ≥ b := of_decide_eq_true hnb
      have hy := hf x hxm (n - b) (by
       have := sh_fv x 0 b n (by omega) hq hnb'
       rwa [Int.add_zero] at this)
      have hi' := hs (n - b) (by omega) hy
      refine Ev.some hi' ?_
      rw [hnb]
      refine Ev.ite (fun ho => (Ev.pure _).eq (by rw [ho]; rfl)) (fun ho => ?_)
      rw [ho]
      exact Ev.need hcl hrec
     ·rw [hnb]
      exact Ev.need hcl hrec
 exact Ev.succ (fun q => mode_scope_pattern.eq_2 ..) (loop l 0 [] rfl (by simp) rfl)
theorem qio (opn : Int → Bool) : (∀ (t : Tm) (b : Int), (strF opn t b).length ≤ t.count) := by
 intro t
 induction t using Tm.rec (motive_2 := fun us => ∀ (o : Int) (i : Nat) (b : Int), (strL opn o us i b).length ≤ qn us) with
 | mk o h n us ih =>
  intro b
  simp only [strF, Tm.count]
  split
  ·split <;> simp
  ·have := ih o 0 b; omega
 | nil => simp [strL, qn]
 | cons u us ih1 ih2 o i b =>
  simp only [strL, List.length_append, qn]
  have := ih1 (b + under o i)
  have := ih2 o (i + 1) b
  omega
theorem strict1_ev {s : List Bool} {opn : Int → Bool} (hs : Lv s opn) (hl : s.length ≤ 100000) (t : Tm) : ∀ (b : Nat) (out : List Int), Pr t → b + t.height ≤ 1000 → out.length + t.count ≤ 100000 → (∀ y ∈ fvF t b, y < (s.length : Int)) →
  Ev (fun q => mode_scope_strict_1 q t (b : Int) s out) (out ++ (strF opn t b).map (lvl s)) := by
 induction t using Tm.ind with
 | h t ih =>
  intro b out hp hb hc hf
  have hn := pr_n hp
  have hlen := qg2 hp
  have loop : ∀ (ts : List Tm) (i : Nat) (out : List Int), t.args.drop i = ts → i + ts.length = t.args.length → out.length + qn ts ≤ 100000 → Ev (fun q => mode_scope_strict_1_L1 q t (b : Int) s out (i : Int)) (out ++ (strL opn t.op ts i b).map (lvl s)) := by
   intro ts
   induction ts with
   | nil =>
    intro i out hd hi ho
    simp only [List.length_nil, Nat.add_zero] at hi
    exact Ev.succ (fun q => mode_scope_strict_1_L1.eq_2 ..) (Ev.f (by rw [Tm.encL_length]; simp; omega) ((Ev.pure _).eq (by simp [strL])))
   | cons x ts ihl =>
    intro i out hd hi ho
    simp only [List.length_cons] at hi
    simp only [qn] at ho
    have hx := getDrop hd
    have hxm := List.mem_of_getElem? hx
    have hxh := qan hxm
    have hu := qbb t.op i
    obtain ⟨u, hu'⟩ : ∃ u : Nat, under t.op (i : Int) = (u : Int) := ⟨(under t.op i).toNat, by omega⟩
    rw [qaf] at hb
    have e := ih x hxm (b + u) out (qa3 hp hxm) (by omega) (by omega) (by
     intro y hy
     refine hf y ?_
     rw [qkh, List.mem_append]
     refine .inr (qh6 y t.op t.args 0 b i x hx ?_)
     rw [Nat.zero_add, hu']
     exact hy)
    have hsl := qio opn x ((b + u : Nat) : Int)
    refine Ev.succ (fun q => mode_scope_strict_1_L1.eq_2 ..) (Ev.t (by rw [Tm.encL_length]; simp; omega) (Ev.some (qw hx) ((under_ev t i).bind ?_)))
    rw [hu', wrap_i64 (n := (b : Int) + u) (by omega) (by omega)]
    refine e.bind ?_
    rw [wrapS (by omega)]
    have := ihl (i + 1) (out ++ (strF opn x ((b + u : Nat) : Int)).map (lvl s)) (dropDrop hd) (by omega) (by rw [List.length_append, List.length_map]; omega)
    refine this.eq ?_
    simp only [strL, hu', List.map_append, List.append_assoc]
    rfl
  have hloop := loop t.args 0 out rfl (by simp) (by rw [qai] at hc; omega)
  refine Ev.succ (fun q => mode_scope_strict_1.eq_2 ..) ((level_ev s t.n b (by omega) (by omega) (by omega)).bind ?_)
  rw [strF_eq]
  by_cases h4 : t.op = 4 ∧ t.hd = 1 ∧ t.n ≥ b
  ·obtain ⟨c1, c2, c3⟩ := h4
   have hy := hf (t.n - b) (by rw [qkh, if_pos ⟨c1, c2, c3⟩]; simp)
   have hi' := hs (t.n - b) (by omega) hy
   refine Ev.t (by rw [c1, c2, decide_eq_true c3]; rfl) (Ev.some hi' ?_)
   refine Ev.ite (fun ho => ?_) (fun ho => ?_)
   ·rw [if_pos ⟨c1, c2, c3, ho⟩]
    have hpat := pattern_ev hs hl t.args b (by omega) hlen (fun x hx => qa3 hp hx) (by
     intro x hx y hy
     obtain ⟨j, hj⟩ := List.mem_iff_getElem?.1 hx
     refine hf y ?_
     rw [qkh, List.mem_append]
     refine .inr (qh6 y t.op t.args 0 b j x hj ?_)
     rw [c1, show under 4 ((0 + j : Nat) : Int) = 0 by simp [under], Int.add_zero]
     exact hy)
    refine hpat.bind (Ev.ite (fun hh => ?_) (fun hh => ?_))
    ·rw [if_pos hh]
     refine Ev.need ?_ ((Ev.pure _).eq rfl)
     have := qx t
     rw [List.length_map, List.length_append]; simp; omega
    ·rw [if_neg (by rw [hh]; decide)]
     exact (Ev.pure _).eq (by simp)
   ·rw [if_neg (fun hh => by rw [hh.2.2.2] at ho; cases ho)]
    exact hloop
  ·rw [if_neg (fun hh => h4 ⟨hh.1, hh.2.1, hh.2.2.1⟩)]
   refine Ev.f ?_ hloop
   simp only [Bool.and_eq_false_iff, beq_eq_false_iff_ne, decide_eq_false_iff_not]
   by_cases c1 : t.op = 4
   ·by_cases c2 : t.hd = 1
    ·exact .inr (fun c3 => h4 ⟨c1, c2, c3⟩)
    ·exact .inl (.inr c2)
   ·exact .inl (.inl c1)
theorem qju {s : List Bool} {opn : Int → Bool} (hs : Lv s opn) (hl : s.length ≤ 100000) {t : Tm} (hp : Pr t) (hf : ∀ y ∈ fvF t 0, y < (s.length : Int)) :
  Ev (fun q => mode_scope_strict q s t) ((strF opn t 0).map (lvl s)) := by
 obtain ⟨h1, h2, h3⟩ := qj hp
 refine Ev.succ (fun q => mode_scope_strict.eq_2 ..) ((strict1_ev hs hl t 0 [] hp (by omega) (by simp; omega) hf).bind ((Ev.pure _).eq (by simp)))
end

section
open Go.Tr Go Go.Proofs.Tryz
set_option maxRecDepth 10000
def refSh (q : Option (Int × Int)) (r : Int × Int × Bool) : Prop := match q with
 | some (h, n) => r = (h, n, true)
 | none => r.2.2 = false
theorem refShort_y : ∀ (N : Nat) (u : Tm), u.height ≤ N → Pr u → Yields (fun q => R04_Short q u) (refSh (shF u 0)) := by
 intro N
 induction N with
 | zero => intro u hu; have := qt u; omega
 | succ N ih =>
  have L2 : ∀ (v : Tm) (k : Nat), Pr v → v.height ≤ N + 1 → k ≤ 1000 → v.args.length = k → ∀ (ts : List Tm) (i : Nat), v.args.drop i = ts → i + ts.length = v.args.length → Yields (fun q => R04_Short_L2 q (k : Int) v (i : Int)) (fun r => if shArgs ts k i = true then (if v.hd = 1 then r = (v.hd, v.n - k, decide (v.n ≥ k)) else r = (v.hd, v.n, true)) else r.2.2 = false) := by
   intro v k hv hvh hk hvk ts
   have hn := pr_n hv
   have hlen := qg2 hv
   induction ts with
   | nil =>
    intro i hd hi
    simp only [List.length_nil, Nat.add_zero] at hi
    refine Yields.succ (fun q => R04_Short_L2.eq_2 ..) (Yields.ite (fun h => ?_) (fun _ => ?_))
    ·simp at h; omega
    rw [show (fun r : Int × Int × Bool => if shArgs [] (k : Int) (i : Int) = true then (if v.hd = 1 then r = (v.hd, v.n - k, decide (v.n ≥ k)) else r = (v.hd, v.n, true)) else r.2.2 = false) = (fun r => (if v.hd = 1 then r = (v.hd, v.n - k, decide (v.n ≥ k)) else r = (v.hd, v.n, true))) from funext fun r => if_pos rfl]
    refine Yields.ite (fun h => ?_) (fun h => ?_)
    ·have h : v.hd = 1 := by simpa using h
     refine Yields.pure ?_
     rw [if_pos h, wrap_i64 (by omega) (by omega)]
    ·have h : ¬ v.hd = 1 := by simpa using h
     refine Yields.pure ?_
     rw [if_neg h]
   | cons t ts ihl =>
    intro i hd hi
    simp only [List.length_cons] at hi
    have ht := getDrop hd
    have htm := List.mem_of_getElem? ht
    have hth := qan htm
    have e := ih t (by rw [qaf] at hvh; omega) (qa3 hv htm)
    refine Yields.succ (fun q => R04_Short_L2.eq_2 ..) (Yields.ite (fun _ => ?_) (fun h => ?_))
    ·refine Yields.some (qw ht) (Yields.bind e (fun r hr => ?_))
     rw [wrap_i64 (n := (k : Int) - 1) (by omega) (by omega), wrap_i64 (n := (k : Int) - 1 - i) (by omega) (by omega), wrapS (by omega)]
     have hs : shArgs (t :: ts) (k : Int) (i : Int) = ((shF t 0 == some (1, (k : Int) - 1 - i)) && shArgs ts k ((i : Int) + 1)) := rfl
     rw [hs]
     cases hq : shF t 0 with
     | none =>
      rw [hq] at hr
      have hr : r.2.2 = false := hr
      refine Yields.ite (fun _ => Yields.pure ?_) (fun h => ?_)
      ·rw [if_neg (by simp)]
      ·rw [hr] at h; simp at h
     | some q =>
      obtain ⟨h, m⟩ := q
      rw [hq] at hr
      have hr : r = (h, m, true) := hr
      subst hr
      by_cases hc : h = 1 ∧ m = (k : Int) - 1 - i
      ·obtain ⟨rfl, rfl⟩ := hc
       refine Yields.ite (fun h => ?_) (fun _ => ?_)
       ·simp at h
       ·simp only [beq_self_eq_true, Bool.true_and]
        exact ihl (i + 1) (dropDrop hd) (by omega)
      ·have e1 : ((some (h, m) : Option (Int × Int)) == some (1, (k : Int) - 1 - i)) = false := by
        rw [beq_eq_false_iff_ne]
        intro e; injection e with e; injection e with e1 e2; exact hc ⟨e1, e2⟩
       rw [e1, Bool.false_and]
       refine Yields.ite (fun _ => Yields.pure (by rw [if_neg (by decide)])) (fun hh => ?_)
       exfalso
       simp only [Bool.or_eq_false_iff, bne_eq_false_iff_eq] at hh
       exact hc ⟨hh.1.2, hh.2⟩
    ·simp at h; omega
  have L1 : ∀ (M : Nat) (v : Tm) (k : Nat), v.height ≤ M → v.height ≤ N + 1 → Pr v → k + v.height ≤ 1000 → Yields (fun q => R04_Short_L1 q v (k : Int)) (refSh (shF v (k : Int))) := by
   intro M
   induction M with
   | zero => intro v k hv; have := qt v; omega
   | succ M ihM =>
    intro v k hv hvN hp hk
    rw [shF_eq]
    by_cases h3 : v.op = 3
    ·rw [if_pos h3]
     obtain ⟨a, ha, _, hh, _⟩ := qgj (qj hp).1 h3
     have := ihM a (k + 1) (by omega) (by omega) (qa3 hp (by rw [ha]; simp)) (by omega)
     refine Yields.succ (fun q => R04_Short_L1.eq_2 ..) (Yields.ite (fun _ => Yields.some (x := a) (by rw [ha]; rfl) ?_) (fun h => ?_))
     ·rw [wrapS (by omega), ha]
      exact this
     ·simp [h3] at h
    ·rw [if_neg h3]
     refine Yields.succ (fun q => R04_Short_L1.eq_2 ..) (Yields.ite (fun h => ?_) (fun _ => ?_))
     ·simp [h3] at h
     by_cases hc : v.op = 4 ∧ (v.args.length : Int) = k
     ·obtain ⟨c1, c2⟩ := hc
      refine Yields.ite (fun h => ?_) (fun _ => ?_)
      ·rw [Tm.encL_length, c1, c2] at h; simp at h
      refine Yields.mono (L2 v k hp hvN (by omega) (by omega) v.args 0 rfl (by simp)) (fun r hr => ?_)
      have hr : if shArgs v.args (k : Int) 0 = true then (if v.hd = 1 then r = (v.hd, v.n - k, decide (v.n ≥ k)) else r = (v.hd, v.n, true)) else r.2.2 = false := hr
      by_cases ha : shArgs v.args (k : Int) 0 = true
      ·rw [if_pos ha] at hr
       by_cases h1 : v.hd = 1
       ·rw [if_pos h1] at hr
        by_cases hnk : v.n < k
        ·rw [if_neg (fun hh => hh.2.2.1 ⟨h1, hnk⟩)]
         show r.2.2 = false
         rw [hr]; exact decide_eq_false (by omega)
        ·rw [if_pos (show v.op = 4 ∧ (v.args.length : Int) = k ∧ ¬(v.hd = 1 ∧ v.n < k) ∧ shArgs v.args k 0 = true from ⟨c1, c2, fun hh => hnk hh.2, ha⟩), if_pos h1]
         show r = (v.hd, v.n - k, true)
         rw [hr, decide_eq_true (by omega)]
       ·rw [if_neg h1] at hr
        rw [if_pos (show v.op = 4 ∧ (v.args.length : Int) = k ∧ ¬(v.hd = 1 ∧ v.n < k) ∧ shArgs v.args k 0 = true from ⟨c1, c2, fun hh => h1 hh.1, ha⟩), if_neg h1]
        exact hr
      ·rw [if_neg ha] at hr
       rw [if_neg (fun hh => ha hh.2.2.2)]
       exact hr
     ·rw [if_neg (fun hh => hc ⟨hh.1, hh.2.1⟩)]
      refine Yields.ite (fun _ => Yields.pure rfl) (fun h => ?_)
      exfalso
      rw [Tm.encL_length] at h
      simp only [Bool.or_eq_false_iff, bne_eq_false_iff_eq] at h
      exact hc h
  intro u hu hp
  have hpp := (qj hp).2.1
  exact Yields.succ (fun q => R04_Short.eq_2 ..) (L1 u.height u 0 (Nat.le_refl _) hu hp (by omega))
theorem ql8 {st : Sta} {opn : Int → Bool} (hs : Lv st.opn opn) (hl : st.opn.length ≤ 100000) (l : List Tm) (b : Nat) (hb : b ≤ 100000) (hll : l.length ≤ 600) (hp : ∀ x ∈ l, Pr x) (hf : ∀ x ∈ l, ∀ y ∈ fvF x b, y < (st.opn.length : Int)) :
  Ev (fun q => R14_State_pattern q st l (b : Int)) (patF opn b [] l) := by
 have loop : ∀ (ts : List Tm) (i : Nat) (seen : List Int), l.drop i = ts → i + ts.length = l.length → seen.length = i → Ev (fun q => R14_State_pattern_L1 q l (b : Int) st seen (i : Int)) (patF opn b seen ts) := by
  intro ts
  induction ts with
  | nil =>
   intro i seen hd hi hse
   simp only [List.length_nil, Nat.add_zero] at hi
   exact Ev.succ (fun q => R14_State_pattern_L1.eq_2 ..) (Ev.f (by rw [Tm.encL_length]; simp; omega) (Ev.pure _))
  | cons x ts ih =>
   intro i seen hd hi hse
   simp only [List.length_cons] at hi
   have hx := getDrop hd
   have hxm := List.mem_of_getElem? hx
   have hxp := hp x hxm
   obtain ⟨r, r1, r2⟩ := refShort_y x.height x (Nat.le_refl _) hxp
   refine Ev.succ (fun q => R14_State_pattern_L1.eq_2 ..) (Ev.t (by rw [Tm.encL_length]; simp; omega) (Ev.some (qw hx) (r1.bind ?_)))
   simp only [patF]
   cases hq : shF x 0 with
   | none =>
    rw [hq] at r2
    have r2 : r.2.2 = false := r2
    exact Ev.t (by rw [r2]; rfl) (Ev.pure _)
   | some q =>
    obtain ⟨h, n⟩ := q
    rw [hq] at r2
    have r2 : r = (h, n, true) := r2
    subst r2
    by_cases h1 : h = 1
    case neg =>
     have e : (h == 1) = false := by simpa using h1
     refine Ev.t (by simp [h1]) ((Ev.pure _).eq ?_)
     simp only [e, Bool.false_and]
    case pos =>
     subst h1
     dsimp only
     have hn := ql4 x 0 1 n (by omega) (qj hxp).1 hq
     have hcl : decide ((List.map (D.int .i64) (seen ++ [n])).length ≤ 1000000) = true := by
      rw [List.length_map, List.length_append]; simp; omega
     have hrec := ih (i + 1) (seen ++ [n]) (dropDrop hd) (by omega) (by simp; omega)
     have inner : ∀ (us : List Int) (k : Nat), seen.drop k = us → k + us.length = seen.length → Ev (fun q => R14_State_pattern_L2 q seen (1, n, true) (i : Int) st l (b : Int) (k : Int)) (!(us.any (fun y => n == y)) && patF opn b (seen ++ [n]) ts) := by
      intro us
      induction us with
      | nil =>
       intro k hk hkl
       simp only [List.length_nil, Nat.add_zero] at hkl
       refine Ev.succ (fun q => R14_State_pattern_L2.eq_2 ..) (Ev.f (by simp; omega) (Ev.need hcl ?_))
       rw [wrapS (by omega)]
       exact hrec.eq (by simp)
      | cons y us ihu =>
       intro k hk hkl
       simp only [List.length_cons] at hkl
       have hy := getDrop hk
       refine Ev.succ (fun q => R14_State_pattern_L2.eq_2 ..) (Ev.t (by simp; omega) (Ev.need ?_ (Ev.some (x := y) (by rw [Int.toNat_natCast]; exact hy) ?_)))
       ·rw [List.length_map, Int.toNat_natCast]; exact decide_eq_true ⟨by omega, by omega⟩
       ·refine Ev.ite (fun h => (Ev.pure _).eq ?_) (fun h => ?_)
        ·have h : y = n := by simpa using h
         subst h; simp
        ·have h : ¬ y = n := by simpa using h
         rw [wrapS (by omega)]
         refine (ihu (k + 1) (dropDrop hk) (by omega)).eq ?_
         have : (n == y) = false := by
          rw [beq_eq_false_iff_ne]; exact fun e => h e.symm
         simp only [List.any_cons, this, Bool.false_or]
     have hin := inner seen 0 rfl (by simp)
     refine Ev.f rfl ?_
     simp only [beq_self_eq_true, Bool.true_and]
     refine Ev.ite (fun hnb => ?_) (fun hnb => ?_)
     ·have hnb' : n ≥ b := of_decide_eq_true hnb
      have hy := hf x hxm (n - b) (by
       have := sh_fv x 0 b n (by omega) hq hnb'
       rwa [Int.add_zero] at this)
      have hi' := hs (n - b) (by omega) hy
      rw [List.length_map, wrap_i64 (n := (st.opn.length : Int) - 1) (by omega) (by omega), wrap_i64 (n := n - (b : Int)) (by omega) (by omega), wrap_i64 (by omega) (by omega)]
      refine Ev.some hi' ?_
      rw [decide_eq_true hnb', Bool.true_and]
      refine Ev.ite (fun ho => (Ev.pure _).eq (by rw [ho]; simp)) (fun ho => ?_)
      rw [ho]
      exact hin.eq (by simp)
     ·have hnb' : ¬ n ≥ b := of_decide_eq_false hnb
      rw [decide_eq_false hnb', Bool.false_and]
      exact hin.eq (by simp)
 exact Ev.succ (fun q => R14_State_pattern.eq_2 ..) (loop l 0 [] rfl (by simp) rfl)
def setsF : List Bool → List Int → List Bool
 | o, [] => o
 | o, v :: vs => setsF (o.set v.toNat true) vs
theorem qc1 : ∀ (vs : List Int) (o : List Bool), (setsF o vs).length = o.length
 | [], _ => rfl
 | v :: vs, o => by rw [setsF, qc1 vs]; simp
theorem qej : ∀ (a b : List Int) (o : List Bool), setsF o (a ++ b) = setsF (setsF o a) b
 | [], _, _ => rfl
 | v :: a, b, o => by rw [List.cons_append, setsF, qej a b]; rfl
theorem qm1 : ∀ (vs : List Int) (o : List Bool) (j : Nat), j < o.length → (∀ v ∈ vs, 0 ≤ v) → (setsF o vs)[j]? = some ((o[j]?).getD false || decide ((j : Int) ∈ vs))
 | [], o, j, hj, _ => by simp [setsF, List.getElem?_eq_getElem hj]
 | v :: vs, o, j, hj, hv => by
  rw [setsF, qm1 vs _ j (by simpa using hj) (fun x hx => hv x (List.mem_cons_of_mem _ hx))]
  have h0 := hv v (List.mem_cons_self ..)
  by_cases e : v.toNat = j
  ·have e' : (j : Int) = v := by omega
   subst e
   rw [List.getElem?_set_self hj]
   simp [e']
  ·have e' : ¬ (j : Int) = v := by omega
   rw [List.getElem?_set_ne e]
   simp [e']
theorem qmh {st : Sta} {opn : Int → Bool} (hs : Lv st.opn opn) (hl : st.opn.length ≤ 100000) (t : Tm) : ∀ (b : Nat) (out : List Bool), Pr t → b + t.height ≤ 1000 → out.length = st.opn.length → (∀ y ∈ fvF t b, y < (st.opn.length : Int)) →
  Ev (fun q => R14_State_strict q st t (b : Int) out) (setsF out ((strF opn t b).map (lvl st.opn))) := by
 induction t using Tm.ind with
 | h t ih =>
  intro b out hp hb hout hf
  have hn := pr_n hp
  have hlen := qg2 hp
  have hh := hb
  rw [qaf] at hh
  have sub : ∀ (i : Nat) (x : Tm) (u : Nat), t.args[i]? = some x → under t.op (i : Int) = (u : Int) → ∀ (o : List Bool), o.length = st.opn.length → Ev (fun q => R14_State_strict q st x ((b + u : Nat) : Int) o) (setsF o ((strF opn x ((b + u : Nat) : Int)).map (lvl st.opn))) := by
   intro i x u hx hu' o ho
   have hxm := List.mem_of_getElem? hx
   have hxh := qan hxm
   have hu := qbb t.op i
   refine ih x hxm (b + u) o (qa3 hp hxm) (by omega) ho ?_
   intro y hy
   refine hf y ?_
   rw [qkh, List.mem_append]
   refine .inr (qh6 y t.op t.args 0 b i x hx ?_)
   rw [Nat.zero_add, hu']
   exact hy
  have loop : (∀ i : Int, under t.op i = 0) → ∀ (ts : List Tm) (i : Nat) (o : List Bool), t.args.drop i = ts → i + ts.length = t.args.length → o.length = st.opn.length → Ev (fun q => R14_State_strict_L1 q t st (b : Int) out o (i : Int)) (setsF o ((strL opn t.op ts i b).map (lvl st.opn))) := by
   intro h0 ts
   induction ts with
   | nil =>
    intro i o hd hi ho
    simp only [List.length_nil, Nat.add_zero] at hi
    exact Ev.succ (fun q => R14_State_strict_L1.eq_2 ..) (Ev.f (by rw [Tm.encL_length]; simp; omega) (Ev.need (decide_eq_true (by omega)) (Ev.pure _)))
   | cons x ts ihl =>
    intro i o hd hi ho
    simp only [List.length_cons] at hi
    have hx := getDrop hd
    have e := sub i x 0 hx (h0 i) o ho
    refine Ev.succ (fun q => R14_State_strict_L1.eq_2 ..) (Ev.t (by rw [Tm.encL_length]; simp; omega) (Ev.some (qw hx) (e.bind ?_)))
    rw [wrapS (by omega)]
    have := ihl (i + 1) (setsF o ((strF opn x ((b + 0 : Nat) : Int)).map (lvl st.opn))) (dropDrop hd) (by omega) (by rw [qc1]; exact ho)
    refine this.eq ?_
    simp only [strL, h0, List.map_append, qej, Nat.add_zero, Int.add_zero]
  refine Ev.succ (fun q => R14_State_strict.eq_2 ..) ?_
  rw [strF_eq]
  by_cases h3 : t.op = 3
  ·obtain ⟨a, ha, _⟩ := qgj (qj hp).1 h3
   have e := sub 0 a 1 (by rw [ha]; rfl) (by rw [h3]; simp [under]) out hout
   refine Ev.t (by simpa using h3) (Ev.some (x := a) (by rw [ha]; rfl) ?_)
   rw [wrapS (by omega)]
   refine e.bind (Ev.need (decide_eq_true (by rw [qc1])) ((Ev.pure _).eq ?_))
   rw [if_neg (by omega), ha, h3]
   simp only [strL, List.append_nil]
   have : under 3 ((0 : Nat) : Int) = 1 := by simp [under]
   rw [this]; rfl
  refine Ev.f (by simpa using h3) ?_
  by_cases h2 : t.op = 2
  ·obtain ⟨a, c, ha, _⟩ := qaz (qj hp).1 h2
   have e1 := sub 0 a 0 (by rw [ha]; rfl) (by rw [h2]; simp [under]) out hout
   have e2 := sub 1 c 1 (by rw [ha]; rfl) (by rw [h2]; simp [under]) (setsF out ((strF opn a ((b + 0 : Nat) : Int)).map (lvl st.opn))) (by rw [qc1]; exact hout)
   refine Ev.t (by simpa using h2) (Ev.some (x := a) (by rw [ha]; rfl) (e1.bind (Ev.some (x := c) (by rw [ha]; rfl) ?_)))
   rw [wrapS (by omega)]
   refine e2.bind (Ev.need (decide_eq_true (by rw [qc1, qc1])) ((Ev.pure _).eq ?_))
   rw [if_neg (by omega), ha, h2]
   simp only [strL, List.append_nil]
   have u0 : under 2 ((0 : Nat) : Int) = 0 := by simp [under]
   have u1 : under 2 ((0 + 1 : Nat) : Int) = 1 := by simp [under]
   rw [u0, u1, List.map_append, qej, Int.add_zero]; rfl
  refine Ev.f (by simpa using h2) ?_
  have h0 : ∀ i : Int, under t.op i = 0 := by
   intro i; unfold under; rw [if_neg (by omega)]
  have hloop := loop h0 t.args 0 out rfl (by simp) hout
  by_cases h4 : t.op = 4 ∧ t.hd = 1 ∧ t.n ≥ b
  ·obtain ⟨c1, c2, c3⟩ := h4
   have hy := hf (t.n - b) (by rw [qkh, if_pos ⟨c1, c2, c3⟩]; simp)
   have hi' := hs (t.n - b) (by omega) hy
   refine Ev.t (by rw [c1, c2, decide_eq_true c3]; rfl) ?_
   rw [List.length_map, wrap_i64 (n := (st.opn.length : Int) - 1) (by omega) (by omega), wrap_i64 (n := t.n - (b : Int)) (by omega) (by omega), wrap_i64 (n := (st.opn.length : Int) - 1 - (t.n - b)) (by omega) (by omega)]
   refine Ev.some hi' (Ev.ite (fun ho => ?_) (fun ho => ?_))
   ·rw [if_pos (show t.op = 4 ∧ t.hd = 1 ∧ t.n ≥ b ∧ opn (t.n - b) = true from ⟨c1, c2, c3, ho⟩)]
    have hpat := ql8 hs hl t.args b (by omega) hlen (fun x hx => qa3 hp hx) (by
     intro x hx y hy
     obtain ⟨j, hj⟩ := List.mem_iff_getElem?.1 hx
     refine hf y ?_
     rw [qkh, List.mem_append]
     refine .inr (qh6 y t.op t.args 0 b j x hj ?_)
     rw [h0, Int.add_zero]
     exact hy)
    refine hpat.bind (Ev.ite (fun hh => ?_) (fun hh => ?_))
    ·rw [if_pos hh]
     refine Ev.need ?_ (Ev.need (decide_eq_true (by simp)) ((Ev.pure _).eq rfl))
     rw [List.length_map, hout]; exact decide_eq_true ⟨by omega, by omega⟩
    ·rw [if_neg (by rw [hh]; decide)]
     exact Ev.need (decide_eq_true rfl) ((Ev.pure _).eq rfl)
   ·rw [if_neg (fun hh => by rw [hh.2.2.2] at ho; cases ho)]
    exact hloop
  ·rw [if_neg (fun hh => h4 ⟨hh.1, hh.2.1, hh.2.2.1⟩)]
   refine Ev.f ?_ hloop
   simp only [Bool.and_eq_false_iff, beq_eq_false_iff_ne, decide_eq_false_iff_not]
   by_cases c1 : t.op = 4
   ·by_cases c2 : t.hd = 1
    ·exact .inr (fun c3 => h4 ⟨c1, c2, c3⟩)
    ·exact .inl (.inr c2)
   ·exact .inl (.inl c1)
end

section
open Go.Tr Go Go.Proofs.Tryz
set_option maxRecDepth 10000
theorem with_ev (st : Sta) (b : Bool) (h1 : st.opn.length ≤ 100000) (h2 : st.known.length ≤ 100000) : Ev (fun q => R14_State_With q st b) (Sta.mk (st.opn ++ [b]) (st.known ++ [false])) := by
 refine Ev.succ (fun q => R14_State_With.eq_2 ..) (Ev.need ?_ (Ev.need ?_ (Ev.need ?_ (Ev.need ?_ (Ev.pure _)))))
 ·rw [List.length_map]; exact decide_eq_true (by omega)
 ·rw [List.length_map]; exact decide_eq_true (by omega)
 ·rw [List.length_map, List.length_append]; simp; omega
 ·rw [List.length_map, List.length_append]; simp; omega
end

section
open Go.Tr Go Go.Proofs.Tryz
set_option maxRecDepth 10000
theorem okAll_zero {t : Tm} (h : okAll t = true) (ho : t.op = 1) : t.args = [] := by
 cases t with
 | mk o hd n us =>
  simp only [Tm.op] at ho
  subst ho
  simp only [okAll, okNode, Bool.and_eq_true] at h
  have h1 : us.length = 0 := by have := h.1; simp at this; simpa using this.2
  exact List.eq_nil_of_length_eq_zero h1
theorem spl_acc : ∀ (n : Nat) (t : Tm) (l : List Tm), spl n t l = (l ++ (spl n t []).1, (spl n t []).2)
 | 0, t, l => by simp [spl]
 | n + 1, t, l => by
  simp only [spl]
  by_cases h : t.op = 2
  ·rw [if_pos h, if_pos h]
   split
   ·rename_i a b _ _
    rw [spl_acc n b (l ++ [a]), spl_acc n b ([] ++ [a])]
    simp
   ·simp
  ·rw [if_neg h, if_neg h]; simp
theorem qbq {t : Tm} (h : t.op ≠ 2) : split t = ([], t) := by
 unfold split
 cases hh : t.height with
 | zero => rfl
 | succ n => simp only [spl, if_neg h]
theorem qc3 {t a b : Tm} (hok : okAll t = true) (h : t.op = 2) (e : t.args = [a, b]) : split t = (a :: (split b).1, (split b).2) := by
 obtain ⟨a', b', e', _, hb, _, hh, _⟩ := qaz hok h
 rw [e] at e'
 simp only [List.cons.injEq, and_true] at e'
 obtain ⟨rfl, rfl⟩ := e'
 unfold split
 obtain ⟨m, hm⟩ : ∃ m, t.height = m + 1 := ⟨t.height - 1, by have := qt t; omega⟩
 rw [hm]
 simp only [spl, if_pos h, e]
 rw [spl_acc, spl_more m b.height b [] hb (by omega) (Nat.le_refl _)]
 simp
theorem qcb {motive : Tm → Prop} (leaf : ∀ t, okAll t = true → t.op ≠ 2 → motive t) (pi : ∀ t a b, okAll t = true → t.op = 2 → t.args = [a, b] → okAll a = true → okAll b = true → b.height < t.height → a.height < t.height → b.count < t.count → a.count < t.count → motive b → motive t) : ∀ t, okAll t = true → motive t := by
 have key : ∀ (n : Nat) (t : Tm), t.height ≤ n → okAll t = true → motive t := by
  intro n
  induction n with
  | zero => intro t h; have := qt t; omega
  | succ n ih =>
   intro t h hok
   by_cases h2 : t.op = 2
   ·obtain ⟨a, b, e, ha, hb, hha, hhb, hc⟩ := qaz hok h2
    have := qx a
    have := qx b
    exact pi t a b hok h2 e ha hb (by omega) (by omega) (by omega) (by omega) (ih b (by omega) hb)
   ·exact leaf t hok h2
 exact fun t hok => key t.height t (Nat.le_refl _) hok
inductive Kd : Nat → Tm → Prop
 | ty {t : Tm} (h : t.op = 1) : Kd 0 t
 | pi {t a b : Tm} {j : Nat} (h : t.op = 2) (e : t.args = [a, b]) (k : Kd j b) : Kd (j + 1) t
theorem kd_split : ∀ t, okAll t = true → kindT t = true → Kd (split t).1.length t := by
 refine qcb ?_ ?_
 ·intro t hok h2 hk
  rw [kindT, qbq h2] at hk
  rw [qbq h2]
  exact Kd.ty (by simpa using hk)
 ·intro t a b hok h2 e ha hb _ _ _ _ ih hk
  rw [kindT, qc3 hok h2 e] at hk
  rw [qc3 hok h2 e]
  exact Kd.pi h2 e (ih hk)
theorem whole_is (t : Tm) : Yields (fun k => R04_whole k t) (fun r => okR r ∧ (r.2 = 0 → r.1 = t)) := by
 refine Yields.succ (fun k => R04_whole.eq_2 ..) ?_
 rw [qa9]
 refine Yields.ite (fun h => Yields.pure ⟨?_, ?_⟩) (fun h => Yields.pure ⟨?_, ?_⟩)
 ·intro h; cases h
 ·intro h; cases h
 ·intro _; exact nb' h
 ·intro _; rfl
theorem put_kd : ∀ (j : Nat) (t : Tm) (n : Int) (s : Tm) (p : Sm) (c : Int), Kd j t → 0 ≤ c → c ≤ 20000 → Pr t → Pr s → Yields (fun k => R04_count_put k t n s p ⟨c⟩) (fun r => okP c r ∧ (r.2.1 = 0 → Kd j r.1))
 | 0, t, n, s, p, c, hk, h0, h1, ht, hs => by
  cases hk with
  | ty ho =>
  refine Yields.succ (fun k => R04_count_put.eq_2 ..) ?_
  simp only [wrapc h0 (by omega)]
  refine Yields.ite (fun h2 => Yields.pure ?_) (fun h2 => ?_)
  ·have h2 : 20000 < c + 1 := by simpa using h2
   refine ⟨⟨?_, ?_, fun h => by cases h⟩, fun h => by cases h⟩ <;> simp only <;> omega
  have h2 : c + 1 ≤ 20000 := by simpa using h2
  refine Yields.succ (fun k => R04_count_put_L1.eq_2 ..) ?_
  refine Yields.ite (fun h => ?_) (fun _ => ?_)
  ·rw [okAll_zero (qj ht).1 ho] at h
   simp [Tm.encL] at h
  refine Yields.ite (fun _ => ?_) (fun h => ?_)
  ·refine Yields.bind (whole_is _) (fun y hy => Yields.pure ⟨⟨?_, ?_, fun h => ⟨hy.1 h, ?_⟩⟩, fun h => ?_⟩)
   ·simp only; omega
   ·simp only; omega
   ·simp only; omega
   ·have hy2 : y.1 = _ := hy.2 h
    simp only
    rw [hy2]
    exact Kd.ty ho
  ·exfalso; simp [ho] at h
 | j + 1, t, n, s, p, c, hk, h0, h1, ht, hs => by
  cases hk with
  | @pi _ a b _ ho e kb =>
  have hpa : Pr a := qa3 ht (by rw [e]; simp)
  have hpb : Pr b := qa3 ht (by rw [e]; simp)
  refine Yields.succ (fun k => R04_count_put.eq_2 ..) ?_
  simp only [wrapc h0 (by omega)]
  refine Yields.ite (fun h2 => Yields.pure ?_) (fun h2 => ?_)
  ·have h2 : 20000 < c + 1 := by simpa using h2
   refine ⟨⟨?_, ?_, fun h => by cases h⟩, fun h => by cases h⟩ <;> simp only <;> omega
  have h2 : c + 1 ≤ 20000 := by simpa using h2
  refine Yields.succ (fun k => R04_count_put_L1.eq_2 ..) ?_
  refine Yields.ite (fun _ => ?_) (fun h => ?_)
  rotate_left
  ·rw [e] at h; simp [Tm.encL] at h
  refine Yields.ite (fun h => ?_) (fun _ => ?_)
  ·simp [ho] at h
  refine Yields.some (x := a) (by rw [e]; rfl) ?_
  refine Yields.bind (put_y 20001 a _ s p (c + 1) (by omega) h2 (by omega) hpa hs) (fun y hy => ?_)
  obtain ⟨y1, y2, ⟨y3⟩⟩ := y
  obtain ⟨e1, e2, e3⟩ := hy
  simp only at e1 e2 e3 ⊢
  refine Yields.ite (fun h5 => Yields.pure ?_) (fun h5 => ?_)
  ·have h5 : y2 ≠ 0 := by simpa using h5
   exact ⟨⟨by simp only; omega, e2, fun h => (h5 h).elim⟩, fun h => (h5 h).elim⟩
  have h5 : y2 = 0 := by simpa using h5
  have h6 := e3 h5
  refine Yields.need (by simp [Tm.encL, Tm.args]) ?_
  refine Yields.succ (fun k => R04_count_put_L1.eq_2 ..) ?_
  refine Yields.ite (fun _ => ?_) (fun h => ?_)
  rotate_left
  ·rw [e] at h; simp [Tm.encL, IntKind.wrap_i64] at h
  refine Yields.ite (fun _ => ?_) (fun h => ?_)
  rotate_left
  ·simp [ho, IntKind.wrap_i64] at h
  refine Yields.some (x := b) (by rw [e]; rfl) ?_
  refine Yields.bind (put_kd j b _ s p y3 kb (by omega) h6.2 hpb hs) (fun z hz => ?_)
  obtain ⟨z1, z2, ⟨z3⟩⟩ := z
  obtain ⟨⟨g1, g2, g3⟩, g4⟩ := hz
  simp only at g1 g2 g3 g4 ⊢
  refine Yields.ite (fun h7 => Yields.pure ?_) (fun h7 => ?_)
  ·have h7 : z2 ≠ 0 := by simpa using h7
   exact ⟨⟨by simp only; omega, g2, fun h => (h7 h).elim⟩, fun h => (h7 h).elim⟩
  have h7 : z2 = 0 := by simpa using h7
  have h8 := g3 h7
  refine Yields.need (by simp [Tm.encL, Tm.args]) ?_
  refine Yields.succ (fun k => R04_count_put_L1.eq_2 ..) ?_
  refine Yields.ite (fun h => ?_) (fun _ => ?_)
  ·rw [e] at h; simp [Tm.encL, IntKind.wrap_i64] at h
  refine Yields.ite (fun _ => ?_) (fun h => ?_)
  rotate_left
  ·simp [ho] at h
  refine Yields.bind (whole_is _) (fun y hy => Yields.pure ⟨⟨?_, ?_, fun h => ⟨hy.1 h, ?_⟩⟩, fun h => ?_⟩)
  ·simp only; omega
  ·simp only; omega
  ·simp only; omega
  ·have hy2 : y.1 = _ := hy.2 h
   simp only
   rw [hy2]
   exact Kd.pi ho rfl (g4 h7)
theorem step_kd {j : Nat} {t m : Tm} (hk : Kd (j + 1) t) (ht : Pr t) (hm : Pr m) : Yields (fun k => R04_count_step k t m ⟨0⟩) (fun r => okP 0 r ∧ (r.2.1 = 0 → Kd j r.1)) := by
 cases hk with
 | @pi _ a b _ ho e kb =>
 refine Yields.succ (fun k => R04_count_step.eq_2 ..) ?_
 have bad : ∀ e : Int, e ≠ 0 → okP 0 ((Tm.mk 0 0 0 ([])), e, ⟨0⟩) := fun e he => ⟨Int.le_refl _, by simp only; omega, fun h => (he h).elim⟩
 have ha : Pr a := qa3 ht (by rw [e]; simp)
 have hb : Pr b := qa3 ht (by rw [e]; simp)
 refine Yields.ite (fun _ => Yields.pure ⟨bad _ (by decide), fun h => by cases h⟩) (fun h => ?_)
 rw [e]
 refine Yields.some (x := a) rfl ?_
 refine Yields.bind (qhq a.count a (Nat.le_refl _) ha) (fun x hx => ?_)
 refine Yields.ite (fun _ => Yields.pure ⟨bad _ (by decide), fun h => by cases h⟩) (fun _ => ?_)
 refine Yields.bind (small_y hx.2) (fun y _ => ?_)
 refine Yields.ite (fun _ => Yields.pure ⟨bad _ (by decide), fun h => by cases h⟩) (fun _ => ?_)
 refine Yields.some (x := b) rfl ?_
 exact Yields.bind (put_kd j b 0 m x.1 0 kb (by omega) (by omega) hb hm) (fun r hr => Yields.pure hr)
theorem qn6 {j : Nat} {t x : Tm} (hk : Kd (j + 1) t) (ht : Pr t) (hx : Pr x) : Yields (fun k => R04_Instance k t [x]) (fun r => okR r ∧ (r.2 = 0 → Kd j r.1)) := by
 refine Yields.succ (fun k => R04_Instance.eq_2 ..) ?_
 rw [qa9]
 refine Yields.ite (fun h => Yields.pure ⟨fun h => (by cases h), fun h => (by cases h)⟩) (fun _ => ?_)
 refine Yields.bind (list_y [x] (by simp)) (fun y _ => ?_)
 refine Yields.ite (fun h => Yields.pure ⟨fun h => (by cases h), fun h => (by cases h)⟩) (fun _ => ?_)
 refine Yields.succ (fun k => R04_Instance_L1.eq_2 ..) ?_
 refine Yields.ite (fun _ => ?_) (fun h => ?_)
 rotate_left
 ·simp [Tm.encL] at h
 refine Yields.some (x := x) rfl ?_
 refine Yields.bind (step_kd hk ht hx) (fun y hy => ?_)
 obtain ⟨y1, y2, y3⟩ := y
 obtain ⟨⟨e1, e2, e3⟩, e4⟩ := hy
 simp only at e1 e2 e3 e4 ⊢
 refine Yields.ite (fun h5 => Yields.pure ?_) (fun h5 => ?_)
 ·have h5 : y2 ≠ 0 := by simpa using h5
  exact ⟨fun h => (h5 h).elim, fun h => (h5 h).elim⟩
 have h5 : y2 = 0 := by simpa using h5
 refine Yields.succ (fun k => R04_Instance_L1.eq_2 ..) ?_
 refine Yields.ite (fun h => ?_) (fun _ => Yields.pure ⟨fun _ => (e3 h5).1, fun _ => e4 h5⟩)
 simp [Tm.encL, IntKind.wrap_i64] at h
section
variable (sig : List Dc) (hsig : ∀ x ∈ sig, Pr x.cls)
theorem fits_kd {q : Nat} (hobj : ObjY sig q) {ctx : List Tm} (hc : ctxB ctx) {l : List Tm} (hl : ∀ x ∈ l, Pr x ∧ x.count ≤ q) (hb : l.length ≤ 1000000) {t : Tm} (ht : Pr t) {j : Nat} (hk : Kd j t) : Yields (fun k => R06_Kernel_fits k ⟨sig, []⟩ ctx l t) (fun r => r.2 = 0 → l.length ≤ j ∧ Kd (j - l.length) r.1) := by
 have loop : ∀ (p i : Nat) (t : Tm) (m : Nat), p = l.length - i → i ≤ l.length → Pr t → Kd m t → m + i = j → Yields (fun k => R06_Kernel_fits_L1 k l ⟨sig, []⟩ ctx t (i : Int)) (fun r => r.2 = 0 → l.length ≤ j ∧ Kd (j - l.length) r.1) := by
  intro p
  induction p with
  | zero =>
   intro i t m hq hi ht hk hm
   refine Yields.succ (fun k => R06_Kernel_fits_L1.eq_2 ..) ?_
   refine Yields.ite (fun h => ?_) (fun _ => Yields.pure (fun _ => ⟨by omega, ?_⟩))
   ·simp [Tm.encL_length] at h; omega
   ·have : j - l.length = m := by omega
    rw [this]; exact hk
  | succ p ihp =>
   intro i t m hq hi ht hk hm
   refine Yields.succ (fun k => R06_Kernel_fits_L1.eq_2 ..) ?_
   refine Yields.ite (fun _ => ?_) (fun h => ?_)
   rotate_left
   ·simp [Tm.encL_length] at h; omega
   refine Yields.ite (fun _ => Yields.pure (fun h => by cases h)) (fun h => ?_)
   have h2 : t.op = 2 := by simpa using h
   obtain ⟨m', rfl⟩ : ∃ m', m = m' + 1 := by
    cases hk with
    | ty ho => omega
    | pi ho e kb => exact ⟨_, rfl⟩
   obtain ⟨a, b, e, ha, hb', _⟩ := qjm ht h2
   obtain ⟨x, hx, hxm, _⟩ := qd1 (show i < l.length by omega)
   refine Yields.some hx ?_
   refine Yields.some (x := a) (by rw [e]; rfl) ?_
   refine Yields.bind (hobj ctx x a hc (hl x hxm).1 ha (hl x hxm).2) (fun y _ => ?_)
   refine Yields.ite (fun h5 => Yields.pure ?_) (fun h5 => ?_)
   ·have h5 : y ≠ 0 := by simpa using h5
    exact fun h => (h5 h).elim
   refine Yields.some hx ?_
   refine Yields.bind (qn6 hk ht (hl x hxm).1) (fun z hz => ?_)
   refine Yields.ite (fun h6 => Yields.pure ?_) (fun h6 => ?_)
   ·have h6 : z.2 ≠ 0 := by simpa using h6
    exact fun h => (h6 h).elim
   have h6 : z.2 = 0 := by simpa using h6
   rw [wrapS (by omega)]
   exact ihp (i + 1) z.1 m' (by omega) (by omega) (hz.1 h6) (hz.2 h6) (by omega)
 refine Yields.succ (fun k => R06_Kernel_fits.eq_2 ..) ?_
 exact loop _ 0 t j rfl (Nat.zero_le _) ht hk (by omega)
def leafT (t : Tm) : Prop := t.op = 4 ∧ t.hd = 2 ∧ ∃ d, idx sig t.n = some d ∧ kindT d.cls = true ∧ t.args.length = (split d.cls).1.length
inductive TyT : Tm → Prop
 | app {t : Tm} (h : leafT sig t) : TyT t
 | pi {t a b : Tm} (h : t.op = 2) (e : t.args = [a, b]) (ha : TyT a) (hb : TyT b) : TyT t
include hsig in
theorem type_kd : ∀ (q : Nat) (ctx : List Tm) (a : Tm), ctxB ctx → Pr a → a.count ≤ q → Yields (fun k => R06_Kernel_Type k ⟨sig, []⟩ ctx a) (fun e => e = 0 → TyT sig a)
 | 0, ctx, a, hc, ha, hq => by have := qx a; omega
 | q + 1, ctx, a, hc, ha, hq => by
  refine Yields.succ (fun k => R06_Kernel_Type.eq_2 ..) ?_
  refine Yields.ite (fun h2 => ?_) (fun _ => ?_)
  ·have h2 : a.op = 2 := by simpa using h2
   obtain ⟨a0, a1, e, ha0, ha1, c0, c1, _⟩ := qjm ha h2
   refine Yields.bind (q := fun e => e = 0 → TyT sig a) ?_ (fun x hx => Yields.pure hx)
   refine Yields.succ (fun k => R06_Kernel_pi.eq_2 ..) ?_
   refine Yields.some (x := a0) (by rw [e]; rfl) ?_
   refine Yields.bind (type_kd q ctx a0 hc ha0 (by omega)) (fun y hy => ?_)
   refine Yields.ite (fun h => Yields.pure (fun h' => by simp [h'] at h)) (fun h0 => ?_)
   have h0 : y = 0 := by simpa using h0
   refine Yields.some (x := a0) (by rw [e]; rfl) ?_
   refine Yields.bind (qlg hc ha0) (fun z hz => ?_)
   refine Yields.ite (fun h => Yields.pure (fun h' => by simp [h'] at h)) (fun h5 => ?_)
   have hz := hz (by simpa using h5)
   refine Yields.some (x := a1) (by rw [e]; rfl) ?_
   exact Yields.bind (type_kd q z.1 a1 hz ha1 (by omega)) (fun w hw => Yields.pure (fun h => TyT.pi h2 e (hy h0) (hw h)))
  refine Yields.ite (fun _ => Yields.pure (fun h => by cases h)) (fun h4 => ?_)
  refine Yields.bind (Ev.is (has_ev sig a.n)) (fun b hb => ?_)
  subst hb
  refine Yields.ite (fun _ => Yields.pure (fun h => by cases h)) (fun h => ?_)
  have h := nb' h
  simp only [Bool.and_eq_true, decide_eq_true_eq] at h
  obtain ⟨d, hd, hdm⟩ := qi8 h.1 h.2
  have hp := qj (hsig d hdm)
  refine Yields.bind (Ev.is (qdo hd hp.1 (by omega))) (fun b hb => ?_)
  subst hb
  refine Yields.ite (fun _ => Yields.pure (fun h => by cases h)) (fun hk => ?_)
  have hk := nb' hk
  refine Yields.some hd ?_
  have hlen := qg2 ha
  refine Yields.bind (fits_kd sig (qlo sig hsig a.count) hc (l := a.args) (fun x hx => ⟨qa3 ha hx, by have := qmb hx; omega⟩) (by omega) (hsig d hdm) (kd_split d.cls hp.1 hk)) (fun z hz => ?_)
  refine Yields.ite (fun h => Yields.pure (fun h' => by simp [h'] at h)) (fun h0 => ?_)
  refine Yields.ite (fun _ => Yields.pure (fun h => by cases h)) (fun h1 => Yields.pure (fun _ => ?_))
  have h1 : z.1.op = 1 := by simpa using h1
  obtain ⟨g1, g2⟩ := hz (by simpa using h0)
  refine TyT.app ⟨?_, ?_, d, hd, hk, ?_⟩
  ·simp at h4; exact h4.1
  ·simp at h4; exact h4.2
  ·generalize hm : (split d.cls).1.length - a.args.length = m at g2
   cases g2 with
   | ty _ => omega
   | pi ho _ _ => omega
include hsig in
theorem classOf_kd {t : Tm} (ht : Pr t) : Yields (fun k => R06_Kernel_Class k ⟨sig, []⟩ t) (fun e => e = 0 → kindT t = false → TyT sig t) := by
 have hp := qj ht
 have hc : ctxB [] := ⟨by simp, by simp⟩
 refine Yields.succ (fun k => R06_Kernel_Class.eq_2 ..) ?_
 refine Yields.bind (Ev.is (qen hp.1 (by omega))) (fun y hy => ?_)
 subst hy
 refine Yields.ite (fun h => ?_) (fun _ => ?_)
 ·exact Yields.bind (type_y sig hsig t.count [] t hc ht (Nat.le_refl _)).2 (fun _ _ => Yields.pure (fun _ h' => by rw [kindT, h] at h'; cases h'))
 ·exact Yields.bind (type_kd sig hsig t.count [] t hc ht (Nat.le_refl _)) (fun _ h => Yields.pure (fun h' _ => h h'))
end
theorem leafT_take {sig : List Dc} {i : Nat} {t : Tm} (h : leafT (sig.take i) t) : leafT sig t := by
 obtain ⟨h1, h2, d, hd, h3⟩ := h
 refine ⟨h1, h2, d, ?_, h3⟩
 obtain ⟨g1, g2⟩ := qi hd
 have hlt : t.n.toNat < i := by
  rcases Nat.lt_or_ge t.n.toNat i with h | h
  ·exact h
  ·rw [List.getElem?_take, if_neg (by omega)] at g2; cases g2
 rw [List.getElem?_take, if_pos hlt] at g2
 have : t.n = ((t.n.toNat : Nat) : Int) := by omega
 rw [this]
 exact qw g2
theorem tyT_take {sig : List Dc} {i : Nat} {t : Tm} (h : TyT (sig.take i) t) : TyT sig t := by
 induction h with
 | app h => exact TyT.app (leafT_take h)
 | pi h e _ _ iha ihb => exact TyT.pi h e iha ihb
def SigT (sig : List Dc) : Prop := ∀ d ∈ sig, kindT d.cls = false → TyT sig d.cls
theorem qms (sig : List Dc) (hsig : ∀ x ∈ sig, Pr x.cls) (hb : sig.length ≤ 1000) : Yields (fun k => R06_Signature k sig) (fun r => r.2 = 0 → SigT sig) := by
 have loop : ∀ (p i : Nat), p = sig.length - i → i ≤ sig.length → (∀ d ∈ sig.take i, kindT d.cls = false → TyT sig d.cls) → Yields (fun k => R06_Signature_L1 k sig (i : Int)) (fun r => r.2 = 0 → SigT sig) := by
  intro p
  induction p with
  | zero =>
   intro i hq hi hdone
   refine Yields.succ (fun k => R06_Signature_L1.eq_2 ..) ?_
   refine Yields.ite (fun h => ?_) (fun _ => Yields.pure (fun _ => ?_))
   ·simp [Dc.encL_length] at h; omega
   ·intro d hd
    exact hdone d (by rw [List.take_of_length_le (by omega)]; exact hd)
  | succ p ihp =>
   intro i hq hi hdone
   refine Yields.succ (fun k => R06_Signature_L1.eq_2 ..) ?_
   refine Yields.ite (fun _ => ?_) (fun h => ?_)
   rotate_left
   ·simp [Dc.encL_length] at h; omega
   obtain ⟨x, hx, hxm, hxi⟩ := qd1 (show i < sig.length by omega)
   refine Yields.some hx ?_
   refine Yields.need (by simp [Dc.encL_length]; omega) ?_
   rw [Int.toNat_natCast]
   refine Yields.bind (classOf_kd (sig.take i) (fun y hy => hsig y (List.mem_of_mem_take hy)) (hsig x hxm)) (fun y hy => ?_)
   refine Yields.ite (fun h => Yields.pure (fun h' => absurd (show y = 0 from h') (by simpa using h))) (fun h0 => ?_)
   have h0 : y = 0 := by simpa using h0
   rw [wrapS (by omega)]
   refine ihp (i + 1) (by omega) (by omega) (fun d hd => ?_)
   rw [List.take_add_one, hxi] at hd
   rcases List.mem_append.1 hd with h | h
   ·exact hdone d h
   ·simp at h; subst h
    exact fun hk => tyT_take (hy h0 hk)
 refine Yields.succ (fun k => R06_Signature.eq_2 ..) ?_
 exact loop _ 0 rfl (Nat.zero_le _) (by simp)
theorem valid_kd (sig : List Dc) (hs : sigB sig) : Yields (fun k => W14_valid k sig) (fun b => b = true → sigOK sig = true ∧ SigT sig) := by
 obtain ⟨hl, hb⟩ := hs
 have tail : ∀ c : Int, Yields (fun k => cond (decide (c > 3000)) (some (false)) ((R05_Formed k sig).bind (fun v22 => cond (!v22) (some (false)) ((R06_Signature k sig).bind (fun v25 => some ((v25.2 == 0))))))) (fun b => b = true → sigOK sig = true ∧ SigT sig) := by
  intro c
  refine Yields.ite (fun _ => Yields.pure (fun h => by cases h)) (fun _ => ?_)
  refine Yields.bind (Ev.is (qmt sig)) (fun b hb => ?_)
  subst hb
  refine Yields.ite (fun _ => Yields.pure (fun h => by cases h)) (fun h => ?_)
  obtain ⟨h1, h2⟩ := qa6 (nb' h)
  exact Yields.bind (qms sig h2 (by omega)) (fun r hr => Yields.pure (fun h3 => ⟨nb' h, hr (by simpa using h3)⟩))
 have loop : ∀ (q i : Nat) (c : Int), q = sig.length - i → i ≤ sig.length → Yields (fun k => W14_valid_L1 k sig c (i : Int)) (fun b => b = true → sigOK sig = true ∧ SigT sig) := by
  intro q
  induction q with
  | zero =>
   intro i c hq hi
   refine Yields.succ (fun k => W14_valid_L1.eq_2 ..) ?_
   refine Yields.ite (fun h => ?_) (fun _ => tail c)
   simp [Dc.encL_length] at h; omega
  | succ q ihq =>
   intro i c hq hi
   refine Yields.succ (fun k => W14_valid_L1.eq_2 ..) ?_
   refine Yields.ite (fun _ => ?_) (fun _ => tail c)
   obtain ⟨x, hx, hxm, _⟩ := qd1 (show i < sig.length by omega)
   refine Yields.some hx ?_
   refine Yields.bind (size_y (hb x hxm)) (fun y _ => ?_)
   rw [wrapS (by omega)]
   exact ihq (i + 1) _ (by omega) (by omega)
 refine Yields.succ (fun k => W14_valid.eq_2 ..) ?_
 exact loop _ 0 _ rfl (Nat.zero_le _)
end

section
open Go.Tr Go Go.Proofs.Tryz
set_option maxRecDepth 10000
theorem qh7 : ∀ t, okAll t = true → (split t).1.length + (split t).2.height = (split t).1.length + (split t).2.height ∧ (split t).1.length + 1 ≤ t.height := by
 refine qcb ?_ ?_
 ·intro t hok h2
  rw [qbq h2]
  exact ⟨rfl, by have := qt t; simp; omega⟩
 ·intro t a b hok h2 e ha hb hhb _ _ _ ih
  rw [qc3 hok h2 e]
  refine ⟨rfl, ?_⟩
  have := ih.2
  simp only [List.length_cons]; omega
theorem nodesB_pi {m : Nat} {t a b : Tm} {k : Int} (h2 : t.op = 2) (e : t.args = [a, b]) (h : nodesB m t k = true) : nodesB m a k = true ∧ nodesB m b (k + 1) = true := by
 cases t with
 | mk o hd n us =>
  simp only [Tm.op] at h2
  simp only [Tm.args] at e
  subst h2 e
  simp only [nodesB, nodesBL, Bool.and_eq_true] at h
  obtain ⟨_, h1, h3, _⟩ := h
  have u0 : under 2 ((0 : Nat) : Int) = 0 := rfl
  have u1 : under 2 ((0 + 1 : Nat) : Int) = 1 := rfl
  rw [u0, Int.add_zero] at h1
  rw [u1] at h3
  exact ⟨h1, h3⟩
def depN : Nat → Tm → List Bool
 | 0, _ => []
 | n + 1, t => if t.op = 2 then match t.args with
  | _ :: b :: _ => lowF b 0 0 :: depN n b
  | _ => []
  else []
def dep (t : Tm) : List Bool := depN t.height t
theorem qmg : ∀ (n m : Nat) (t : Tm), okAll t = true → t.height ≤ n → t.height ≤ m → depN n t = depN m t
 | 0, m, t, hok, hn, _ => by have := qt t; omega
 | n + 1, 0, t, hok, _, hm => by have := qt t; omega
 | n + 1, m + 1, t, hok, hn, hm => by
  simp only [depN]
  by_cases h : t.op = 2
  ·rw [if_pos h, if_pos h]
   obtain ⟨a, b, e, _, hb, _, hh, _⟩ := qaz hok h
   rw [e]
   simp only
   rw [qmg n m b hb (by omega) (by omega)]
  ·rw [if_neg h, if_neg h]
theorem qlj {t : Tm} (h : t.op ≠ 2) : dep t = [] := by
 unfold dep
 cases hh : t.height with
 | zero => rfl
 | succ n => simp only [depN, if_neg h]
theorem dep_pi {t a b : Tm} (hok : okAll t = true) (h : t.op = 2) (e : t.args = [a, b]) : dep t = lowF b 0 0 :: dep b := by
 obtain ⟨a', b', e', _, hb, _, hh, _⟩ := qaz hok h
 rw [e] at e'
 simp only [List.cons.injEq, and_true] at e'
 obtain ⟨rfl, rfl⟩ := e'
 unfold dep
 obtain ⟨m, hm⟩ : ∃ m, t.height = m + 1 := ⟨t.height - 1, by have := qt t; omega⟩
 rw [hm]
 simp only [depN, if_pos h, e]
 rw [qmg m b.height b hb (by omega) (Nat.le_refl _)]
theorem dep_len : ∀ t, okAll t = true → (dep t).length = (split t).1.length := by
 refine qcb ?_ ?_
 ·intro t hok h2; rw [qlj h2, qbq h2]; rfl
 ·intro t a b hok h2 e ha hb _ _ _ _ ih; rw [dep_pi hok h2 e, qc3 hok h2 e]; simp [ih]
theorem qlm : ∀ t, okAll t = true → ∀ l : List Bool, Pr t → l.length + t.height ≤ 1000 → Ev (fun k => R13_Dependent_L1 k t l) (l ++ dep t) := by
 refine qcb ?_ ?_
 ·intro t hok h2 l hp hl
  refine Ev.succ (fun k => R13_Dependent_L1.eq_2 ..) ?_
  refine Ev.f (beqI' h2) ((Ev.pure _).eq ?_)
  rw [qlj h2, List.append_nil]
 ·intro t a b hok h2 e ha hb hh _ _ _ ih l hp hl
  have hpb : Pr b := qa3 hp (by rw [e]; simp)
  refine Ev.succ (fun k => R13_Dependent_L1.eq_2 ..) ?_
  refine Ev.t (beqI h2) (Ev.some (x := b) (by rw [e]; rfl) ((qm6 hpb).bind ?_))
  refine Ev.need (by simp; omega) (Ev.some (x := b) (by rw [e]; rfl) ?_)
  refine (ih (l ++ [lowF b 0 0]) hpb (by simp; omega)).eq ?_
  rw [dep_pi hok h2 e]; simp
theorem qd5 {t : Tm} (hp : Pr t) : Ev (fun k => R14_Dependent k t) (dep t) := by
 have h := qj hp
 refine Ev.succ (fun k => R14_Dependent.eq_2 ..) ?_
 have e : Ev (fun k => R13_Dependent k t) (dep t) := Ev.succ (fun k => R13_Dependent.eq_2 ..) ((qlm t h.1 [] hp (by simp; omega)).eq (by simp))
 exact e.bind (Ev.pure _)
def premF : List Bool → Nat → List Int
 | [], _ => []
 | b :: l, i => if b then premF l (i + 1) else (i : Int) :: premF l (i + 1)
theorem qob {m : Nat} {t : Tm} {k : Int} (h4 : t.op = 4) (h : nodesB m t k = true) : ∀ x ∈ t.args, nodesB m x k = true := by
 have key : ∀ (us : List Tm) (i : Nat), nodesBL m 4 us i k = true → ∀ x ∈ us, nodesB m x k = true := by
  intro us
  induction us with
  | nil => intro i h x hx; cases hx
  | cons u us ih =>
   intro i h x hx
   simp only [nodesBL, Bool.and_eq_true] at h
   have u0 : under 4 ((i : Nat) : Int) = 0 := by unfold under; rw [if_neg (by omega)]
   rw [u0, Int.add_zero] at h
   rcases List.mem_cons.1 hx with e | e
   ·subst e; exact h.1
   ·exact ih (i + 1) h.2 x e
 cases t with
 | mk o hd n us =>
  simp only [Tm.op] at h4
  subst h4
  simp only [nodesB, Bool.and_eq_true] at h
  exact key us 0 h.2
end

section
open Go.Tr Go Go.Proofs.Tryz
set_option maxRecDepth 10000
theorem qkw : ∀ (post pre : List Dc), sigG pre post = true → ∀ d ∈ post, ∃ m, nodesB m d.cls 0 = true
 | [], _, _, x, hx => by cases hx
 | d :: post, pre, h, x, hx => by
  simp only [sigG, Bool.and_eq_true] at h
  rcases List.mem_cons.1 hx with e | e
  ·subst e
   have h1 := h.1
   simp only [declOK, Bool.and_eq_true] at h1
   exact ⟨_, h1.1.1.2⟩
  ·exact qkw post _ h.2 x e
theorem qn5 {sig : List Dc} (h : sigOK sig = true) : ∀ d ∈ sig, ∃ m, nodesB m d.cls 0 = true := by
 simp only [sigOK, Bool.and_eq_true] at h
 exact qkw sig [] h.2
theorem qm2 {sig : List Dc} : ∀ t, okAll t = true → TyT sig t → leafT sig (split t).2 ∧ ∀ a ∈ (split t).1, TyT sig a := by
 refine qcb ?_ ?_
 ·intro t hok h2 ht
  rw [qbq h2]
  refine ⟨?_, by simp⟩
  cases ht with
  | app h => exact h
  | pi h e _ _ => exact absurd h h2
 ·intro t a b hok h2 e ha hb _ _ _ _ ih ht
  rw [qc3 hok h2 e]
  cases ht with
  | app h => have := h.1; omega
  | @pi _ a' b' h e' ta tb =>
   rw [e] at e'
   simp only [List.cons.injEq, and_true] at e'
   obtain ⟨rfl, rfl⟩ := e'
   obtain ⟨i1, i2⟩ := ih tb
   refine ⟨i1, fun x hx => ?_⟩
   rcases List.mem_cons.1 hx with h | h
   ·subst h; exact ta
   ·exact i2 x h
end

section
open Go.Tr Go Go.Proofs.Tryz
set_option maxRecDepth 10000
def ofG (fam : Int) : List Dc → Nat → List Int
 | [], _ => []
 | d :: r, i => if (!kindT d.cls && ((split d.cls).2.n == fam)) = true then (i : Int) :: ofG fam r (i + 1) else ofG fam r (i + 1)
theorem ofG_len (fam : Int) : ∀ (l : List Dc) (i : Nat), (ofG fam l i).length ≤ l.length
 | [], i => Nat.le_refl _
 | d :: r, i => by
  simp only [ofG]
  have := ofG_len fam r (i + 1)
  split <;> simp only [List.length_cons] <;> omega
theorem ofG_mem (fam : Int) : ∀ (l : List Dc) (i : Nat) (x : Int), x ∈ ofG fam l i → ∃ (j : Nat) (d : Dc), x = ((i + j : Nat) : Int) ∧ l[j]? = some d ∧ kindT d.cls = false
 | [], i, x, h => by cases h
 | d :: r, i, x, h => by
  simp only [ofG] at h
  have key : x ∈ ofG fam r (i + 1) → ∃ (j : Nat) (d' : Dc), x = ((i + j : Nat) : Int) ∧ (d :: r)[j]? = some d' ∧ kindT d'.cls = false := fun h => by
   obtain ⟨j, d', h1, h2, h3⟩ := ofG_mem fam r (i + 1) x h
   exact ⟨j + 1, d', by rw [h1]; omega, h2, h3⟩
  split at h
  ·rename_i hc
   simp only [Bool.and_eq_true, Bool.not_eq_true'] at hc
   rcases List.mem_cons.1 h with e | e
   ·exact ⟨0, d, by simpa using e, rfl, hc.1⟩
   ·exact key e
  ·exact key h
theorem refOf_ev {sig : List Dc} (hs : sigOK sig = true) (n : Int) : Ev (fun k => R05_Of k sig n) (ofG n sig 0) := by
 obtain ⟨hsl, hsp⟩ := qa6 hs
 refine Ev.succ (fun k => R05_Of.eq_2 ..) ?_
 have loop : ∀ (ts : List Dc) (i : Nat) (acc : List Int), sig.drop i = ts → i + ts.length = sig.length → acc.length ≤ i → Ev (fun k => R05_Of_L1 k sig n acc (i : Int)) (acc ++ ofG n ts i) := by
  intro ts
  induction ts with
  | nil =>
   intro i acc hdr hi ha
   refine Ev.succ (fun k => R05_Of_L1.eq_2 ..) ?_
   simp only [List.length_nil, Nat.add_zero] at hi
   exact Ev.f (by rw [Dc.encL_length]; simp [hi]) ((Ev.pure _).eq (by simp [ofG]))
  | cons x ts ih =>
   intro i acc hdr hi ha
   refine Ev.succ (fun k => R05_Of_L1.eq_2 ..) ?_
   simp only [List.length_cons] at hi
   have hx := getDrop hdr
   have hpx := qj (hsp x (List.mem_of_getElem? hx))
   refine Ev.t (by rw [Dc.encL_length]; simp; omega) ((qhz (qw hx) hpx.1 (by omega)).bind ?_)
   rw [wrapS (by omega)]
   simp only [ofG]
   cases hkx : kindT x.cls with
   | true => exact Ev.f rfl ((ih (i + 1) acc (dropDrop hdr) (by omega) (by omega)).eq (by simp))
   | false =>
    have e2 : Ev (fun k => R05_Target k sig (i : Int)) (split x.cls).2.n := by
     refine Ev.succ (fun k => R05_Target.eq_2 ..) ?_
     exact Ev.some (qw hx) ((qen hpx.1 (by omega)).bind (Ev.f hkx (Ev.pure _)))
    refine Ev.t rfl (e2.bind ?_)
    refine Ev.ite (fun h => ?_) (fun h => ?_)
    ·refine Ev.need (by simp; omega) ((ih (i + 1) (acc ++ [(i : Int)]) (dropDrop hdr) (by omega) (by simp; omega)).eq ?_)
     rw [h]; simp
    ·refine (ih (i + 1) acc (dropDrop hdr) (by omega) (by omega)).eq ?_
     rw [h]; simp
 exact (loop sig 0 [] rfl (by simp) (by simp)).eq (by simp)
section
variable {sig} {l} {n}
end
end

section
open Go.Tr Go Go.Proofs.Tryz
set_option maxRecDepth 10000
mutual
theorem qmn (m : Nat) (L : Int) : ∀ (t : Tm) (k : Int), nodesB m t (k + L) = true → ∀ y ∈ fvF t k, y < L
 | .mk o h n us, k, hh, y, hy => by
  simp only [nodesB, Bool.and_eq_true] at hh
  simp only [fvF, List.mem_append] at hy
  rcases hy with hy | hy
  ·split at hy
   ·rename_i hc
    obtain ⟨rfl, rfl, hn⟩ := hc
    rw [List.mem_singleton] at hy
    subst hy
    have := hh.1
    simp only [nodeB, bne_self_eq_false, Bool.false_or, Bool.and_eq_true, decide_eq_true_eq] at this
    omega
   ·cases hy
  ·exact qk5 m L o us 0 k hh.2 y hy
theorem qk5 (m : Nat) (L : Int) : ∀ (o : Int) (us : List Tm) (i : Nat) (k : Int), nodesBL m o us i (k + L) = true → ∀ y ∈ fvL o us i k, y < L
 | _, [], _, _, _, y, hy => by simp [fvL] at hy
 | o, u :: us, i, k, hh, y, hy => by
  simp only [nodesBL, Bool.and_eq_true] at hh
  simp only [fvL, List.mem_append] at hy
  rcases hy with hy | hy
  ·exact qmn m L u (k + under o i) (by rw [show k + under o (i : Int) + L = k + L + under o (i : Int) by omega]; exact hh.1) y hy
  ·exact qk5 m L o us (i + 1) k hh.2 y hy
 end
mutual
theorem fv_bound : ∀ (t : Tm) (b : Int), okAll t = true → 0 ≤ b → ∀ x ∈ fvF t b, 0 ≤ x ∧ x ≤ 9999
 | .mk o h n us, b, hok, hb, x, hx => by
  have hn := qfe hok
  simp only [Tm.n] at hn
  simp only [okAll, Bool.and_eq_true] at hok
  simp only [fvF, List.mem_append] at hx
  rcases hx with hx | hx
  ·split at hx
   ·rw [List.mem_singleton] at hx; omega
   ·cases hx
  ·exact qnl o us 0 b hok.2 hb x hx
theorem qnl : ∀ (o : Int) (us : List Tm) (i : Nat) (b : Int), okAllL us = true → 0 ≤ b → ∀ x ∈ fvL o us i b, 0 ≤ x ∧ x ≤ 9999
 | _, [], _, _, _, _, x, hx => by cases hx
 | o, u :: us, i, b, hok, hb, x, hx => by
  have hu := qbb o i
  simp only [okAllL, Bool.and_eq_true] at hok
  simp only [fvL, List.mem_append] at hx
  rcases hx with hx | hx
  ·exact fv_bound u _ hok.1 (by omega) x hx
  ·exact qnl o us (i + 1) b hok.2 hb x hx
 end
theorem qi5 {t : Tm} (hp : Pr t) (x : Int) : x ∈ freeL t ↔ x ∈ fvF t 0 := by
 obtain ⟨hok, hh, _⟩ := qj hp
 rw [freeL, if_pos hp, numsOf, qk0, qla x t 0 [] hok (by omega) (by omega)]
 simp
structure OkT (t : Tm) (L : Nat) : Prop where
 pr : Pr t
 nod : ∃ m, nodesB m t (L : Int) = true
theorem OkT.fv {t : Tm} {L : Nat} (h : OkT t L) : ∀ y ∈ fvF t 0, 0 ≤ y ∧ y < (L : Int) := by
 obtain ⟨m, hm⟩ := h.nod
 intro y hy
 exact ⟨(fv_bound t 0 (qj h.pr).1 (by omega) y hy).1, qmn m L t 0 (by rw [Int.zero_add]; exact hm) y hy⟩
theorem OkT.pi {t a b : Tm} {L : Nat} (h : OkT t L) (h2 : t.op = 2) (e : t.args = [a, b]) : OkT a L ∧ OkT b (L + 1) := by
 obtain ⟨m, hm⟩ := h.nod
 obtain ⟨ha, hb⟩ := nodesB_pi h2 e hm
 exact ⟨⟨qa3 h.pr (by rw [e]; simp), m, ha⟩, ⟨qa3 h.pr (by rw [e]; simp), m, by rw [show ((L + 1 : Nat) : Int) = (L : Int) + 1 by omega]; exact hb⟩⟩
theorem OkT.args {t : Tm} {L : Nat} (h : OkT t L) (h4 : t.op = 4) : ∀ x ∈ t.args, OkT x L := by
 obtain ⟨m, hm⟩ := h.nod
 exact fun x hx => ⟨qa3 h.pr hx, m, qob h4 hm x hx⟩
theorem OkT.scope {t : Tm} {s : List Bool} (h : OkT t s.length) : inScope s t := fun n hn => h.fv n ((qi5 h.pr n).1 hn)
def opnF (s : List Bool) : Int → Bool := fun v => s.getD (s.length - 1 - v.toNat) false
theorem opnF_lv (s : List Bool) : Lv s (opnF s) := by
 intro v h0 h1
 obtain ⟨j, hj⟩ : ∃ j : Nat, (s.length : Int) - 1 - v = (j : Int) := ⟨((s.length : Int) - 1 - v).toNat, by omega⟩
 rw [hj, qi7]
 have : s.length - 1 - v.toNat = j := by omega
 rw [opnF, this, List.getD_eq_getElem?_getD, List.getElem?_eq_getElem (show j < s.length by omega)]
 rfl
def kl (s : List Bool) (K : Nat → Bool) : List Bool := (List.range s.length).map K
theorem qa7 (s : List Bool) (K : Nat → Bool) : (kl s K).length = s.length := by simp [kl]
theorem qg3 {s : List Bool} {K : Nat → Bool} {i : Nat} (h : i < s.length) : (kl s K)[i]? = some (K i) := by
 simp [kl, List.getElem?_map, List.getElem?_range h]
theorem kl_ext {s : List Bool} {K : Nat → Bool} {l : List Bool} (hl : l.length = s.length) (h : ∀ i, i < s.length → l[i]? = some (K i)) : l = kl s K := by
 apply List.ext_getElem?
 intro i
 by_cases hi : i < s.length
 ·rw [h i hi, qg3 hi]
 ·rw [List.getElem?_eq_none (by omega), List.getElem?_eq_none (by rw [qa7]; omega)]
theorem kl_congr {s : List Bool} {K K' : Nat → Bool} (h : ∀ i, i < s.length → K i = K' i) : kl s K = kl s K' := kl_ext (qa7 s K) (fun i hi => by rw [qg3 hi, h i hi])
def strLev (s : List Bool) (x : Tm) : List Int := (strF (opnF s) x 0).map (lvl s)
theorem qgn {s : List Bool} {x : Tm} (h : OkT x s.length) {i : Int} (hi : i ∈ strLev s x) : 0 ≤ i ∧ i < (s.length : Int) ∧ s.getD i.toNat false = true := by
 obtain ⟨v, hv, rfl⟩ := List.mem_map.1 hi
 obtain ⟨h1, h2⟩ := str_fv x 0 v hv
 obtain ⟨h3, h4⟩ := h.fv v h1
 simp only [lvl]
 refine ⟨by omega, by omega, ?_⟩
 rw [opnF] at h2
 rw [← h2]
 congr 1
 omega
theorem strLev_len {s : List Bool} {x : Tm} (h : Pr x) : (strLev s x).length ≤ 600 := by
 have := qio (opnF s) x 0
 have := (qj h).2.2
 rw [strLev, List.length_map]
 omega
def learnP (s : List Bool) (sign : Int) : List Int → List Tm → (Nat → Bool) → Nat → Bool
 | g :: gs, x :: xs, p => learnP s sign gs xs (if g = sign then plusF p (strLev s x) else p)
 | _, _, p => p
theorem plusF_iff {p : Nat → Bool} {l : List Int} {i : Nat} : plusF p l i = true ↔ p i = true ∨ (i : Int) ∈ l := by
 simp [plusF, List.any_eq_true]
theorem qi2 {s : List Bool} {sign : Int} {i : Nat} : ∀ (gs : List Int) (xs : List Tm) (p : Nat → Bool), (∀ x ∈ xs, OkT x s.length) → learnP s sign gs xs p i = true → p i = true ∨ s.getD i false = true
 | [], xs, p, _, h => .inl (by cases xs <;> simpa [learnP] using h)
 | g :: gs, [], p, _, h => .inl (by simpa [learnP] using h)
 | g :: gs, x :: xs, p, hx, h => by
  simp only [learnP] at h
  rcases qi2 gs xs _ (fun y hy => hx y (List.mem_cons_of_mem _ hy)) h with h1 | h1
  ·split at h1
   ·rcases plusF_iff.1 h1 with h2 | h2
    ·exact .inl h2
    ·have := (qgn (hx x (List.mem_cons_self ..)) h2).2.2
     rw [Int.toNat_natCast] at this
     exact .inr this
   ·exact .inl h1
  ·exact .inr h1
theorem qml {s : List Bool} {sign : Int} {i : Nat} : ∀ (gs : List Int) (xs : List Tm) (p : Nat → Bool), p i = true → learnP s sign gs xs p i = true
 | [], xs, p, h => by cases xs <;> simpa [learnP] using h
 | g :: gs, [], p, h => by simpa [learnP] using h
 | g :: gs, x :: xs, p, h => by
  simp only [learnP]
  refine qml gs xs _ ?_
  split
  ·exact plusF_iff.2 (.inl h)
  ·exact h
theorem qjb {s : List Bool} (hs : s.length ≤ 600) (sign : Int) : ∀ (gs : List Int) (xs : List Tm) (p : Nat → Bool), (∀ x ∈ xs, OkT x s.length) → Ev (fun n => learnF n s sign gs xs p) (learnP s sign gs xs p)
 | [], xs, p, _ => Ev.const (fun n => by cases xs <;> simp [learnF, learnP])
 | g :: gs, [], p, _ => Ev.const (fun n => by simp [learnF, learnP])
 | g :: gs, x :: xs, p, hx => by
  have ih := fun p => qjb hs sign gs xs p (fun y hy => hx y (List.mem_cons_of_mem _ hy))
  have hx0 := hx x (List.mem_cons_self ..)
  have hfun : (fun n => learnF n s sign (g :: gs) (x :: xs) p) = (fun n => cond (decide (g = sign)) ((mode_scope_strict n s x).bind (fun l => cond (levOK l) (learnF n s sign gs xs (plusF p l)) none)) (learnF n s sign gs xs p)) := by
   funext n; rw [learnF]
  rw [hfun]
  simp only [learnP]
  by_cases hg : g = sign
  ·rw [if_pos hg]
   refine Ev.t (decide_eq_true hg) ((qju (opnF_lv s) (by omega) hx0.pr (fun y hy => (hx0.fv y hy).2)).bind (Ev.need ?_ (ih _)))
   unfold levOK
   rw [Bool.and_eq_true]
   refine ⟨decide_eq_true ?_, ?_⟩
   ·have := strLev_len (s := s) hx0.pr
    exact Nat.le_trans this (by decide)
   ·rw [List.all_eq_true]
    intro i hi
    have := qgn hx0 hi
    exact decide_eq_true ⟨this.1, by omega⟩
  ·rw [if_neg hg]
   exact Ev.f (decide_eq_false hg) (ih p)
theorem ql1 (o k : List Bool) (n : Nat) (h1 : n ≤ o.length) (h2 : n ≤ k.length) (h3 : n ≤ 1000000) : Ev (fun q => R14_State_First q (Sta.mk o k) (n : Int)) (Sta.mk (o.take n) (k.take n)) := by
 refine Ev.succ (fun q => R14_State_First.eq_2 ..) (Ev.need ?_ (Ev.need ?_ (Ev.need ?_ (Ev.need ?_ ((Ev.pure _).eq ?_)))))
 ·exact decide_eq_true (by simp; omega)
 ·exact decide_eq_true (by simp; omega)
 ·exact decide_eq_true (by simp; omega)
 ·exact decide_eq_true (by simp; omega)
 ·simp
theorem setsF_kl {s : List Bool} {x : Tm} (hx : OkT x s.length) (q : Nat → Bool) : setsF (kl s q) (strLev s x) = kl s (plusF q (strLev s x)) := by
 refine kl_ext (by rw [qc1, qa7]) (fun i hi => ?_)
 rw [qm1 _ _ i (by rw [qa7]; exact hi) (fun v hv => (qgn hx hv).1), qg3 hi]
 simp only [Option.getD_some]
 congr 1
 rw [Bool.eq_iff_iff, plusF_iff, Bool.or_eq_true, decide_eq_true_eq]
theorem qiu {s : List Bool} (hs : s.length ≤ 600) (sign : Int) (m : Md) (xs : List Tm) (p : Nat → Bool) (hl : m.signs.length = xs.length) (hb : xs.length ≤ 1000) (hx : ∀ x ∈ xs, OkT x s.length) :
  Ev (fun k => R14_State_Learn k (Sta.mk s (kl s p)) m xs sign) (Sta.mk s (kl s (learnP s sign m.signs xs p))) := by
 have loop : ∀ (ts : List Tm) (us : List Int) (i : Nat) (q : Nat → Bool), xs.drop i = ts → m.signs.drop i = us → i + ts.length = xs.length → i + us.length = xs.length → Ev (fun k => R14_State_Learn_L1 k xs m sign (Sta.mk s (kl s p)) (Sta.mk s (kl s q)) (i : Int)) (Sta.mk s (kl s (learnP s sign us ts q))) := by
  intro ts
  induction ts with
  | nil =>
   intro us i q hd hd' hi hi'
   simp only [List.length_nil, Nat.add_zero] at hi
   refine Ev.succ (fun k => R14_State_Learn_L1.eq_2 ..) (Ev.f (by rw [Tm.encL_length]; exact decide_eq_false (by omega)) ((Ev.pure _).eq ?_))
   cases us <;> simp [learnP]
  | cons t ts ih =>
   intro us i q hd hd' hi hi'
   simp only [List.length_cons] at hi
   cases us with
   | nil => simp only [List.length_nil] at hi'; omega
   | cons u us =>
    simp only [List.length_cons] at hi'
    have htx := hx t (List.mem_of_getElem? (getDrop hd))
    refine Ev.succ (fun k => R14_State_Learn_L1.eq_2 ..) (Ev.t (by rw [Tm.encL_length]; exact decide_eq_true (by omega)) (Ev.some (qw (getDrop hd')) ?_))
    rw [wrapS (by omega)]
    simp only [learnP]
    by_cases hu : u = sign
    ·rw [if_pos hu]
     refine Ev.t (beqI hu) (Ev.some (qw (getDrop hd)) ?_)
     have h1 := qmh (st := Sta.mk s (kl s p)) (opnF_lv s) (by simp only; omega) t 0 (kl s q) htx.pr (by have := (qj htx.pr).2.1; omega) (qa7 s q) (fun y hy => (htx.fv y hy).2)
     have h2 : setsF (kl s q) ((strF (opnF s) t ((0 : Nat) : Int)).map (lvl s)) = kl s (plusF q (strLev s t)) := setsF_kl htx q
     simp only at h1
     rw [h2] at h1
     exact h1.bind (ih us (i + 1) _ (dropDrop hd) (dropDrop hd') (by omega) (by omega))
    ·rw [if_neg hu]
     exact Ev.f (beqI' hu) (ih us (i + 1) q (dropDrop hd) (dropDrop hd') (by omega) (by omega))
 refine Ev.succ (fun k => R14_State_Learn.eq_2 ..) ?_
 have h1 := ql1 s (kl s p) s.length (Nat.le_refl _) (by rw [qa7]; exact Nat.le_refl _) (by omega)
 rw [List.take_length, List.take_of_length_le (by rw [qa7]; exact Nat.le_refl _)] at h1
 rw [List.length_map]
 exact h1.bind (loop xs m.signs 0 p rfl rfl (by simp) (by simp [hl]))
theorem qog {s : List Bool} (hs : s.length ≤ 600) (q : Nat → Bool) {x : Tm} (hx : OkT x s.length) : Ev (fun k => R14_State_known k (Sta.mk s (kl s q)) x) (knownF s x q) := by
 obtain ⟨hok, hh, hc⟩ := qj hx.pr
 have hfm : ∀ y, y ∈ headsF 1 x 0 [] ↔ y ∈ fvF x 0 := by
  intro y
  rw [qnc y x 0 [] hok (by omega) (by omega)]
  simp
 have hfl : (headsF 1 x 0 []).length ≤ 600 := by
  have := qcn 1 x 0 []
  simp only [List.length_nil] at this
  omega
 have hk : knownF s x q = !((headsF 1 x 0 []).any (unkF s q)) := by
  unfold knownF
  congr 1
  rw [Bool.eq_iff_iff, List.any_eq_true, List.any_eq_true]
  constructor
  ·rintro ⟨y, hy, h⟩
   exact ⟨y, (hfm y).2 ((qi5 hx.pr y).1 hy), h⟩
  ·rintro ⟨y, hy, h⟩
   exact ⟨y, (qi5 hx.pr y).2 ((hfm y).1 hy), h⟩
 rw [hk]
 generalize hF : headsF 1 x 0 [] = F at hfm hfl
 have hFb : ∀ y ∈ F, 0 ≤ y ∧ y < (s.length : Int) := fun y hy => hx.fv y ((hfm y).1 hy)
 have loop : ∀ (ts : List Int) (i : Nat), F.drop i = ts → i + ts.length = F.length → Ev (fun k => R14_State_known_L1 k F (Sta.mk s (kl s q)) (i : Int)) (!(ts.any (unkF s q))) := by
  intro ts
  induction ts with
  | nil =>
   intro i hd hi
   simp only [List.length_nil, Nat.add_zero] at hi
   exact Ev.succ (fun k => R14_State_known_L1.eq_2 ..) (Ev.f (by rw [List.length_map]; exact decide_eq_false (by omega)) (Ev.pure _))
  | cons y ts ih =>
   intro i hd hi
   simp only [List.length_cons] at hi
   obtain ⟨hy0, hy1⟩ := hFb y (List.mem_of_getElem? (getDrop hd))
   have hw : IntKind.i64.wrap (IntKind.i64.wrap (((List.map D.bool s).length : Int) - 1) - y) = ((lvN s y : Nat) : Int) := by
    rw [List.length_map, wrap_i64 (n := (s.length : Int) - 1) (by omega) (by omega), wrap_i64 (by omega) (by omega)]
    unfold lvN
    omega
   have hlt : lvN s y < s.length := by unfold lvN; omega
   obtain ⟨o, ho⟩ : ∃ o, s[lvN s y]? = some o := ⟨_, List.getElem?_eq_getElem hlt⟩
   have hget : s.getD (lvN s y) false = o := by rw [List.getD_eq_getElem?_getD, ho]; rfl
   refine Ev.succ (fun k => R14_State_known_L1.eq_2 ..) (Ev.t (by rw [List.length_map]; exact decide_eq_true (by omega)) (Ev.some (qw (getDrop hd)) ?_))
   rw [hw]
   refine Ev.some (qw ho) ?_
   rw [wrapS (by omega), List.any_cons, unkF, hget]
   cases o with
   | false =>
    exact Ev.f rfl ((ih (i + 1) (dropDrop hd) (by omega)).eq (by simp))
   | true =>
    refine Ev.t rfl (Ev.some (qw (qg3 hlt)) ?_)
    cases hq : q (lvN s y) with
    | false => exact Ev.t rfl ((Ev.pure _).eq (by simp))
    | true => exact Ev.f rfl ((ih (i + 1) (dropDrop hd) (by omega)).eq (by simp))
 refine Ev.succ (fun k => R14_State_known.eq_2 ..) ?_
 have h1 := qkz (t := x) (by omega) (by omega)
 rw [hF] at h1
 exact h1.bind (loop F 0 rfl (by simp))
def dmR : Option Int → Int
 | some i => i
 | none => -1
theorem qft {s : List Bool} (hs : s.length ≤ 600) (sign : Int) (q : Nat → Bool) (m : Md) (xs : List Tm) (hl : m.signs.length = xs.length) (hb : xs.length ≤ 1000) (hx : ∀ x ∈ xs, OkT x s.length) :
  Ev (fun k => R14_State_unknown k (Sta.mk s (kl s q)) m xs sign) (dmR (demandF s sign q m.signs xs 0)) := by
 have loop : ∀ (ts : List Tm) (us : List Int) (i : Nat), xs.drop i = ts → m.signs.drop i = us → i + ts.length = xs.length → i + us.length = xs.length → Ev (fun k => R14_State_unknown_L1 k xs m sign (Sta.mk s (kl s q)) (i : Int)) (dmR (demandF s sign q us ts i)) := by
  intro ts
  induction ts with
  | nil =>
   intro us i hd hd' hi hi'
   simp only [List.length_nil, Nat.add_zero] at hi
   refine Ev.succ (fun k => R14_State_unknown_L1.eq_2 ..) (Ev.f (by rw [Tm.encL_length]; exact decide_eq_false (by omega)) ((Ev.pure _).eq ?_))
   cases us <;> simp [demandF, dmR]
  | cons t ts ih =>
   intro us i hd hd' hi hi'
   simp only [List.length_cons] at hi
   cases us with
   | nil => simp only [List.length_nil] at hi'; omega
   | cons u us =>
    simp only [List.length_cons] at hi'
    have htx := hx t (List.mem_of_getElem? (getDrop hd))
    refine Ev.succ (fun k => R14_State_unknown_L1.eq_2 ..) (Ev.t (by rw [Tm.encL_length]; exact decide_eq_true (by omega)) (Ev.some (qw (getDrop hd')) ?_))
    rw [wrapS (by omega), demandF]
    by_cases hu : u = sign
    ·rw [decide_eq_true hu, cond_true]
     refine Ev.t (beqI hu) (Ev.some (qw (getDrop hd)) ((qog hs q htx).bind ?_))
     cases hk : knownF s t q with
     | true => exact Ev.f rfl (ih us (i + 1) (dropDrop hd) (dropDrop hd') (by omega) (by omega))
     | false => exact Ev.t rfl (Ev.pure _)
    ·rw [decide_eq_false hu, cond_false]
     exact Ev.f (beqI' hu) (ih us (i + 1) (dropDrop hd) (dropDrop hd') (by omega) (by omega))
 refine Ev.succ (fun k => R14_State_unknown.eq_2 ..) ?_
 exact loop xs m.signs 0 rfl rfl (by simp) (by simp [hl])
end
end Go.Proofs.YtogicnodmgdnbaaGreat
