/- Merged texts: EvB EvC EvK EvL EvP EvQ EvR MoA MoB StA StB StC StD RowMF. Plain law: sign.Check and trussref05.Formed say the same of a signature. No program in sight. Plain law: what trussref05 says of a class; both forms of a signature. No program in sight. Plain law: the reference's kernel answers, whatever the signature is, if its classes are proper. No program in sight. Plain law: the reference's kernel answers, whatever the signature is, if its classes are proper; so does 'valid'. No program in sight. Plain law: the texts of raw expressions, by syntax and by trussref02. No program in sight. Plain law: names of variables, heads, and what print.Raw asks of its arguments. No program in sight. Plain law: occurrences, moved terms, and which nodes are in scope. No program in sight. Plain law: awake answers true. No program in sight. Plain law: the signs of directives; which arguments they stand at. No program in sight. Plain law: long forms, patterns, strict variables, and other numbers for free variables. No program in sight. Plain law: what Short, the patterns and the strict variables by mode are. No program in sight. Plain law: other numbers by mode.Strict, and what it returns. No program in sight. Plain law: what mode.Strict returns; ModeFree answers true at every term and int. No program in sight. ModeFree answers true at every input, and its arguments read as they did. No condition. -/
import Derived.Test.YtogicnodmgdnbaaGreatQI
import Derived.KernelRfl
/-! EvB -/
section
namespace Go.Proofs.YtogicnodmgdnbaaGreat
open Go.Tr Go
set_option linter.unusedVariables false
set_option maxRecDepth 10000

theorem okAll_one {t : Tm} (h : okAll t = true) (ho : t.op = 3) : ∃ a, t.args = [a] ∧ okAll a = true ∧ a.height + 1 ≤ t.height ∧ a.count + 1 = t.count := by
  cases t with
  | mk o hd n us =>
    simp only [Tm.op] at ho
    subst ho
    simp only [okAll, okNode, Bool.and_eq_true] at h
    have h1 : us.length = 1 := by have := h.1; simp at this; exact this.2
    match us, h1 with
    | [a], _ =>
      simp only [okAllL, Bool.and_eq_true] at h
      refine ⟨a, rfl, h.2.1, ?_, ?_⟩
      · simp only [Tm.height, Tm.heightL]; omega
      · simp only [Tm.count, Tm.countL]

/-- The domains of the outermost TPis, behind some that were there, and what is within. -/
def spl : Nat → Tm → List Tm → List Tm × Tm
  | 0, t, l => (l, t)
  | n + 1, t, l => if t.op = 2 then match t.args with
    | a :: b :: _ => spl n b (l ++ [a])
    | _ => (l, t)
    else (l, t)
def split (t : Tm) : List Tm × Tm := spl t.height t []

theorem Tm.length_le_countL : ∀ (us : List Tm), us.length ≤ Tm.countL us
  | [] => Nat.le_refl _
  | u :: us => by have := Tm.length_le_countL us; have := Tm.count_pos u; simp only [List.length_cons, Tm.countL]; omega

/-! what stands at the nodes -/

theorem under_ev (t : Tm) (i : Int) : Ev (fun k => term_Under k t i) (under t.op i) := by
  refine Ev.succ (fun k => term_Under.eq_2 ..) ?_
  by_cases h : t.op = 3 ∨ t.op = 2 ∧ i = 1
  · rw [under, if_pos h]
    exact Ev.t (by simpa using h) (Ev.pure _)
  · rw [under, if_neg h]
    exact Ev.f (by simpa using h) (Ev.pure _)

end Go.Proofs.YtogicnodmgdnbaaGreat
end

/-! EvC -/
section
namespace Go.Proofs.YtogicnodmgdnbaaGreat
open Go.Tr Go
set_option linter.unusedVariables false
set_option linter.unusedSimpArgs false
set_option maxRecDepth 10000





/-- A class proper, and small. -/
theorem proper_small {t : Tm} (h : isProper t = true) : okAll t = true ∧ t.height ≤ 40 ∧ t.count ≤ 600 := by
  have := (isProper_iff t).1 h
  exact ⟨this.1, this.2.2, this.2.1⟩

end Go.Proofs.YtogicnodmgdnbaaGreat
end

/-! EvK -/
section
namespace Go.Proofs.YtogicnodmgdnbaaGreat
open Go.Tr Go
set_option linter.unusedVariables false
set_option linter.unusedSimpArgs false
set_option maxRecDepth 10000

abbrev Pr (t : Tm) : Prop := isProper t = true
theorem pr_arg {t u : Tm} (h : Pr t) (hu : u ∈ t.args) : Pr u := by
  obtain ⟨hok, hh, hc⟩ := proper_small h
  rw [Pr, isProper_iff]
  have h1 := Tm.height_le hu
  rw [Tm.height_eq] at hh
  rw [Tm.count_eq] at hc
  have h2 : u.count ≤ Tm.countL t.args := by
    have : ∀ (us : List Tm), u ∈ us → u.count ≤ Tm.countL us := by
      intro us
      induction us with
      | nil => intro h; cases h
      | cons v us ih =>
        intro h
        simp only [Tm.countL]
        rcases List.mem_cons.1 h with e | e
        · subst e; omega
        · have := ih e; omega
    exact this _ hu
  exact ⟨okAll_arg hok hu, by omega, by omega⟩
theorem pr_len {t : Tm} (h : Pr t) : t.args.length ≤ 600 := by
  obtain ⟨hok, hh, hc⟩ := proper_small h
  have := Tm.length_le_countL t.args
  rw [Tm.count_eq] at hc
  omega
theorem pr_n {t : Tm} (h : Pr t) : 0 ≤ t.n ∧ t.n ≤ 9999 := okAll_n (proper_small h).1
end Go.Proofs.YtogicnodmgdnbaaGreat
end

/-! EvL -/
section
namespace Go.Proofs.YtogicnodmgdnbaaGreat
open Go.Tr Go
set_option linter.unusedVariables false
set_option linter.unusedSimpArgs false
set_option maxRecDepth 10000

theorem Sm.ind {motive : Sm → Prop} (h : ∀ t, (∀ x ∈ t.args, motive x) → motive t) (t : Sm) : motive t := by
  induction t using Sm.rec (motive_2 := fun ts => ∀ x ∈ ts, motive x) with
  | nil => rename_i x hx; cases hx
  | cons t ts ih1 ih2 => rename_i x hx; rcases List.mem_cons.1 hx with e | e; (subst e; exact ih1); exact ih2 x e
  | mk args con ih => exact h _ ih

section
variable (sig : List Dc) (hsig : ∀ x ∈ sig, Pr x.cls)
include hsig

omit hsig in
end

/-! sizes of any terms whose lists are short -/

end Go.Proofs.YtogicnodmgdnbaaGreat
end

/-! EvP -/
section
namespace Go.Proofs.YtogicnodmgdnbaaGreat
open Go.Tr Go
set_option linter.unusedVariables false
set_option linter.unusedSimpArgs false
set_option maxRecDepth 10000

theorem idxOf {α : Type} {l : List α} {i : Nat} (h : i < l.length) : ∃ x, idx l (i : Int) = some x ∧ x ∈ l ∧ l[i]? = some x :=
  ⟨l[i], by rw [idx_nat]; exact List.getElem?_eq_getElem h, List.getElem_mem h, List.getElem?_eq_getElem h⟩
theorem getDrop {α : Type} {l : List α} {i : Nat} {u : α} {ts : List α} (hd : l.drop i = u :: ts) : l[i]? = some u := by
  have := congrArg (fun l => l[0]?) hd
  simpa using this
theorem dropDrop {α : Type} {l : List α} {i : Nat} {u : α} {ts : List α} (hd : l.drop i = u :: ts) : l.drop (i + 1) = ts := by
  rw [← List.drop_drop, hd]; rfl

theorem index_y (l : List Int) (v : Int) (hl : l.length ≤ 1000000) : ∀ (ts : List Int) (i : Nat), l.drop i = ts → i + ts.length = l.length → Yields (fun n => slices_Index_L1 n l v (i : Int)) (fun r => decide (r ≥ 0) = ts.any (fun x => v == x))
  | [], i, hd, hi => by
    refine Yields.succ (fun k => slices_Index_L1.eq_2 ..) ?_
    simp only [List.length_nil, Nat.add_zero] at hi
    refine Yields.ite (fun h => by exfalso; simp [hi] at h) (fun _ => Yields.pure rfl)
  | x :: ts, i, hd, hi => by
    refine Yields.succ (fun k => slices_Index_L1.eq_2 ..) ?_
    simp only [List.length_cons] at hi
    refine Yields.ite (fun _ => ?_) (fun h => by exfalso; simp at h; omega)
    refine Yields.some (idx_get (getDrop hd)) ?_
    refine Yields.ite (fun h => ?_) (fun h => ?_)
    · refine Yields.pure ?_
      simp only [List.any_cons, h, Bool.true_or]
      simp
    · simp only [List.any_cons, h, Bool.false_or]
      rw [wrapS (by omega)]
      exact index_y l v hl ts (i + 1) (dropDrop hd) (by omega)

theorem contains_ev (l : List Int) (v : Int) (hl : l.length ≤ 1000000) : Ev (fun n => slices_Contains n l v) (l.any (fun x => v == x)) := by
  refine Yields.ev ?_
  refine Yields.succ (fun k => slices_Contains.eq_2 ..) ?_
  refine Yields.bind (q := fun r => decide (r ≥ 0) = l.any (fun x => v == x)) ?_ (fun r hr => Yields.pure hr)
  refine Yields.succ (fun k => slices_Index.eq_2 ..) ?_
  exact index_y l v hl l 0 rfl (by simp)

/-! raw expressions -/
end Go.Proofs.YtogicnodmgdnbaaGreat
end

/-! EvQ -/
section
namespace Go.Proofs.YtogicnodmgdnbaaGreat
open Go.Tr Go
set_option linter.unusedVariables false
set_option linter.unusedSimpArgs false
set_option maxRecDepth 10000

/-! a name in a signature -/
/-! metavariables -/
end Go.Proofs.YtogicnodmgdnbaaGreat
end

/-! EvR -/
section
namespace Go.Proofs.YtogicnodmgdnbaaGreat
open Go.Tr Go
set_option linter.unusedVariables false
set_option linter.unusedSimpArgs false
set_option maxRecDepth 10000

theorem refBelow_ev (t : Tm) (i : Int) : Ev (fun k => R03_below k t i) (under t.op i) := by
  refine Ev.succ (fun k => R03_below.eq_2 ..) ?_
  by_cases h : t.op = 3 ∨ t.op = 2 ∧ i = 1
  · rw [under, if_pos h]
    exact Ev.t (by simpa using h) (Ev.pure _)
  · rw [under, if_neg h]
    exact Ev.f (by simpa using h) (Ev.pure _)

theorem low_ev (t : Tm) : ∀ (a b : Int), t.count ≤ 1000 → 0 ≤ a → 0 ≤ b → a + t.height ≤ 1000000 → b + t.height ≤ 1000000 → Ev (fun n => R03_low n t a b) (lowF t a b) := by
  induction t using Tm.ind with
  | h t ih =>
    intro a b hc ha hb ha2 hb2
    have hcl := Tm.length_le_countL t.args
    have hce := Tm.count_eq t
    have hhe := Tm.height_eq t
    have loop : ∀ (ts : List Tm) (i : Nat), t.args.drop i = ts → i + ts.length = t.args.length → Ev (fun k => R03_low_L1 k t a b (i : Int)) (lowL t.op ts i a b) := by
      intro ts
      induction ts with
      | nil =>
        intro i hd hi
        refine Ev.succ (fun k => R03_low_L1.eq_2 ..) ?_
        simp only [List.length_nil, Nat.add_zero] at hi
        exact Ev.f (by simp [Tm.encL_length, hi]) (Ev.pure _)
      | cons u ts ihl =>
        intro i hd hi
        refine Ev.succ (fun k => R03_low_L1.eq_2 ..) ?_
        simp only [List.length_cons] at hi
        have hu := getDrop hd
        have hum := List.mem_of_getElem? hu
        have hh := Tm.height_le hum
        have hul := under_le t.op i
        have hcu : u.count ≤ t.count := by
          have : ∀ (us : List Tm), u ∈ us → u.count ≤ Tm.countL us := by
            intro us
            induction us with
            | nil => intro h; cases h
            | cons v us ih =>
              intro h
              simp only [Tm.countL]
              rcases List.mem_cons.1 h with e | e
              · subst e; omega
              · have := ih e; omega
          have := this _ hum
          omega
        refine Ev.t (by simp [Tm.encL_length]; omega) ?_
        refine (refBelow_ev t _).bind (Ev.some (idx_get hu) ?_)
        rw [wrap_i64 (n := a + under t.op i) (by omega) (by omega), wrap_i64 (n := b + under t.op i) (by omega) (by omega)]
        refine (ih u hum _ _ (by omega) (by omega) (by omega) (by omega) (by omega)).bind ?_
        simp only [lowL]
        refine Ev.ite (fun h => ?_) (fun h => ?_)
        · rw [h, Bool.true_or]; exact Ev.pure _
        · rw [h, Bool.false_or, wrapS (by omega)]
          exact ihl (i + 1) (dropDrop hd) (by omega)
    refine Ev.succ (fun k => R03_low.eq_2 ..) ?_
    rw [lowF_eq]
    refine Ev.ite (fun h => ?_) (fun h => ?_)
    · rw [h, Bool.true_or]; exact Ev.pure _
    · rw [h, Bool.false_or]
      exact loop t.args 0 rfl (by simp)

mutual
theorem low_fv (x : Int) : ∀ (t : Tm) (k : Int), okAll t = true → 0 ≤ k → 0 ≤ x → (lowF t (x + k) (x + k) = true ↔ x ∈ fvF t k)
  | .mk o h n us, k, hok, hk, hx => by
    simp only [okAll, Bool.and_eq_true] at hok
    simp only [lowF, fvF, List.mem_append, Bool.or_eq_true]
    rw [low_fvL x o us 0 k hok.2 hk hx]
    refine or_congr ?_ Iff.rfl
    by_cases h1 : o = 4 ∧ h = 1 ∧ n ≥ k
    · rw [if_pos h1]
      obtain ⟨e1, e2, e3⟩ := h1
      subst e1 e2
      simp; omega
    · rw [if_neg h1]
      simp only [List.not_mem_nil, iff_false, Bool.and_eq_true, beq_iff_eq, decide_eq_true_eq]
      rintro ⟨⟨⟨e1, e2⟩, e3⟩, e4⟩
      exact h1 ⟨e1, e2, by omega⟩
theorem low_fvL (x : Int) : ∀ (o : Int) (us : List Tm) (i : Nat) (k : Int), okAllL us = true → 0 ≤ k → 0 ≤ x → (lowL o us i (x + k) (x + k) = true ↔ x ∈ fvL o us i k)
  | o, [], i, k, _, _, _ => by simp [lowL, fvL]
  | o, u :: us, i, k, hok, hk, hx => by
    simp only [okAllL, Bool.and_eq_true] at hok
    have hu := under_le o i
    simp only [lowL, fvL, List.mem_append, Bool.or_eq_true]
    rw [low_fvL x o us (i + 1) k hok.2 hk hx]
    have e : x + k + under o i = x + (k + under o i) := by omega
    rw [e, low_fv x u (k + under o i) hok.1 (by omega) hx]
 end

/-! moved terms -/

end Go.Proofs.YtogicnodmgdnbaaGreat
end

/-! MoA -/
section
namespace Go.Proofs.YtogicnodmgdnbaaGreat
open Go.Tr Go
set_option linter.unusedVariables false
set_option linter.unusedSimpArgs false
set_option maxRecDepth 10000

set_option maxRecDepth 100000 in
theorem awake14_at (m : Nat) : W14_awake (m + 60) = some true := by kernel_rfl
theorem awake14_ev : Ev (fun k => W14_awake k) true := ⟨60, fun n hn => by
  obtain ⟨m, rfl⟩ : ∃ m, n = m + 60 := ⟨n - 60, by omega⟩
  exact awake14_at m⟩
end Go.Proofs.YtogicnodmgdnbaaGreat
end

/-! MoB -/
section
namespace Go.Proofs.YtogicnodmgdnbaaGreat
open Go.Tr Go
set_option linter.unusedVariables false
set_option linter.unusedSimpArgs false
set_option maxRecDepth 10000

/-! which domains are depended on: only how many there are counts -/
theorem refOccursX_ev {t : Tm} (hp : isProper t = true) {x : Int} (hx : 0 ≤ x) (hx2 : x ≤ 100000) : Ev (fun n => R03_Occurs n t x) (lowF t x x) := by
  obtain ⟨hok, hh, hc⟩ := proper_small hp
  refine Ev.succ (fun k => R03_Occurs.eq_2 ..) ?_
  refine Ev.t (by simpa using hx) ((low_ev t x x (by omega) (by omega) (by omega) (by omega) (by omega)).bind (Ev.pure _))

end Go.Proofs.YtogicnodmgdnbaaGreat
end

/-! StA -/
section
namespace Go.Proofs.YtogicnodmgdnbaaGreat
open Go.Tr Go
set_option linter.unusedVariables false
set_option linter.unusedSimpArgs false
set_option maxRecDepth 10000

mutual
/-- The head of which a term is a long form, within k binders. -/
def shF : Tm → Int → Option (Int × Int)
  | .mk o h n us, k => if o = 3 then shLam us (k + 1) else if o = 4 ∧ (us.length : Int) = k ∧ ¬(h = 1 ∧ n < k) ∧ shArgs us k 0 = true then some (h, if h = 1 then n - k else n) else none
def shLam : List Tm → Int → Option (Int × Int)
  | [], _ => none
  | u :: us, k => shF u k
def shArgs : List Tm → Int → Int → Bool
  | [], _, _ => true
  | u :: us, k, i => (shF u 0 == some (1, k - 1 - i)) && shArgs us k (i + 1)
 end

/-- Whether arguments are long forms of different variables that are bound, or fixed. -/
def patF (opn : Int → Bool) (b : Int) : List Int → List Tm → Bool
  | _, [] => true
  | seen, x :: xs => match shF x 0 with
    | some (h, n) => (h == 1) && (!(seen.any (fun y => n == y)) && (!(decide (n ≥ b) && opn (n - b)) && patF opn b (seen ++ [n]) xs))
    | none => false

mutual
/-- The strict variables, as they stand. -/
def strF (opn : Int → Bool) : Tm → Int → List Int
  | .mk o h n us, b => if o = 4 ∧ h = 1 ∧ n ≥ b ∧ opn (n - b) = true then (if patF opn b [] us = true then [n - b] else []) else strL opn o us 0 b
def strL (opn : Int → Bool) : Int → List Tm → Nat → Int → List Int
  | _, [], _, _ => []
  | o, u :: us, i, b => strF opn u (b + under o i) ++ strL opn o us (i + 1) b
 end

mutual
/-- Other numbers for the free variables. -/
def renF (ρ : Int → Int) : Tm → Int → Tm
  | .mk o h n us, b => .mk o h (if o = 4 ∧ h = 1 ∧ n ≥ b then ρ (n - b) + b else n) (renL ρ o us 0 b)
def renL (ρ : Int → Int) : Int → List Tm → Nat → Int → List Tm
  | _, [], _, _ => []
  | o, u :: us, i, b => renF ρ u (b + under o i) :: renL ρ o us (i + 1) b
 end

theorem renL_length (ρ : Int → Int) : ∀ (o : Int) (us : List Tm) (i : Nat) (b : Int), (renL ρ o us i b).length = us.length
  | _, [], _, _ => rfl
  | o, u :: us, i, b => by simp only [renL, List.length_cons, renL_length ρ o us]

mutual
theorem ren_count (ρ : Int → Int) : ∀ (t : Tm) (b : Int), (renF ρ t b).count = t.count
  | .mk o h n us, b => by simp only [renF, Tm.count, ren_countL ρ o us]
theorem ren_countL (ρ : Int → Int) : ∀ (o : Int) (us : List Tm) (i : Nat) (b : Int), Tm.countL (renL ρ o us i b) = Tm.countL us
  | _, [], _, _ => rfl
  | o, u :: us, i, b => by simp only [renL, Tm.countL, ren_count ρ u, ren_countL ρ o us]
 end
mutual
theorem ren_height (ρ : Int → Int) : ∀ (t : Tm) (b : Int), (renF ρ t b).height = t.height
  | .mk o h n us, b => by simp only [renF, Tm.height, ren_heightL ρ o us]
theorem ren_heightL (ρ : Int → Int) : ∀ (o : Int) (us : List Tm) (i : Nat) (b : Int), Tm.heightL (renL ρ o us i b) = Tm.heightL us
  | _, [], _, _ => rfl
  | o, u :: us, i, b => by simp only [renL, Tm.heightL, ren_height ρ u, ren_heightL ρ o us]
 end
mutual
theorem ren_ok {ρ : Int → Int} (hρ : ∀ v, 0 ≤ v → 0 ≤ ρ v ∧ ρ v ≤ 5000) : ∀ (t : Tm) (b : Int), 0 ≤ b → b + t.height ≤ 4000 → okAll t = true → okAll (renF ρ t b) = true
  | .mk o h n us, b, hb, hh, hok => by
    simp only [okAll, Bool.and_eq_true] at hok
    simp only [Tm.height] at hh
    simp only [renF, okAll, Bool.and_eq_true]
    refine ⟨?_, ren_okL hρ o us 0 b hb (by omega) hok.2⟩
    rw [renL_length]
    by_cases h1 : o = 4 ∧ h = 1 ∧ n ≥ b
    · rw [if_pos h1]
      obtain ⟨e1, e2, e3⟩ := h1
      subst e1 e2
      have := hρ (n - b) (by omega)
      simp [okNode]
      omega
    · rw [if_neg h1]; exact hok.1
theorem ren_okL {ρ : Int → Int} (hρ : ∀ v, 0 ≤ v → 0 ≤ ρ v ∧ ρ v ≤ 5000) : ∀ (o : Int) (us : List Tm) (i : Nat) (b : Int), 0 ≤ b → b + Tm.heightL us + 1 ≤ 4000 → okAllL us = true → okAllL (renL ρ o us i b) = true
  | _, [], _, _, _, _, _ => rfl
  | o, u :: us, i, b, hb, hh, hok => by
    have hu := under_le o i
    simp only [Tm.heightL] at hh
    simp only [okAllL, Bool.and_eq_true] at hok
    simp only [renL, okAllL, Bool.and_eq_true]
    exact ⟨ren_ok hρ u _ (by omega) (by omega) hok.1, ren_okL hρ o us (i + 1) b hb (by omega) hok.2⟩
 end

/-! long forms with other numbers -/
def rnN (ρ : Int → Int) (b : Int) (q : Int × Int) : Int × Int := (q.1, if q.1 = 1 ∧ q.2 ≥ b then ρ (q.2 - b) + b else q.2)
theorem rnN_bound {ρ : Int → Int} (hρ : ∀ v, 0 ≤ v → 0 ≤ ρ v ∧ ρ v ≤ 5000) {b m : Int} (hm : m < b) (q : Int × Int) : rnN ρ b q = (1, m) ↔ q = (1, m) := by
  obtain ⟨h, n⟩ := q
  unfold rnN
  simp only [Prod.mk.injEq]
  by_cases h1 : h = 1 ∧ n ≥ b
  · rw [if_pos h1]
    have := hρ (n - b) (by omega)
    constructor
    · rintro ⟨_, e⟩; omega
    · rintro ⟨_, e⟩; omega
  · rw [if_neg h1]

mutual
theorem sh_ren {ρ : Int → Int} (hρ : ∀ v, 0 ≤ v → 0 ≤ ρ v ∧ ρ v ≤ 5000) : ∀ (t : Tm) (k b : Int), 0 ≤ k → 0 ≤ b → shF (renF ρ t (b + k)) k = (shF t k).map (rnN ρ b)
  | .mk o h n us, k, b, hk, hb => by
    simp only [renF, shF, renL_length]
    by_cases h3 : o = 3
    · rw [if_pos h3, if_pos h3]
      subst h3
      exact sh_renLam hρ us k b hk hb
    rw [if_neg h3, if_neg h3]
    by_cases h4 : o = 4
    · subst h4
      rw [sh_renArgs hρ us k b 0 0 hk hb (by omega)]
      have hun : ∀ i : Int, under 4 i = 0 := by intro i; simp [under]
      by_cases h1 : h = 1
      · subst h1
        by_cases h5 : n ≥ b + k
        · have hr := hρ (n - (b + k)) (by omega)
          rw [show (if (4 : Int) = 4 ∧ (1 : Int) = 1 ∧ n ≥ b + k then ρ (n - (b + k)) + (b + k) else n) = ρ (n - (b + k)) + (b + k) from if_pos ⟨rfl, rfl, h5⟩]
          by_cases hc : (us.length : Int) = k ∧ shArgs us k 0 = true
          · rw [if_pos (show (4 : Int) = 4 ∧ (us.length : Int) = k ∧ ¬((1 : Int) = 1 ∧ ρ (n - (b + k)) + (b + k) < k) ∧ shArgs us k 0 = true from ⟨rfl, hc.1, by omega, hc.2⟩), if_pos (show (4 : Int) = 4 ∧ (us.length : Int) = k ∧ ¬((1 : Int) = 1 ∧ n < k) ∧ shArgs us k 0 = true from ⟨rfl, hc.1, by omega, hc.2⟩)]
            show some ((1 : Int), ρ (n - (b + k)) + (b + k) - k) = some ((1 : Int), if (1 : Int) = 1 ∧ n - k ≥ b then ρ (n - k - b) + b else n - k)
            rw [if_pos ⟨rfl, by omega⟩, show n - k - b = n - (b + k) by omega]
            congr 2; omega
          · rw [if_neg (show ¬((4 : Int) = 4 ∧ (us.length : Int) = k ∧ ¬((1 : Int) = 1 ∧ ρ (n - (b + k)) + (b + k) < k) ∧ shArgs us k 0 = true) from fun hh => hc ⟨hh.2.1, hh.2.2.2⟩), if_neg (show ¬((4 : Int) = 4 ∧ (us.length : Int) = k ∧ ¬((1 : Int) = 1 ∧ n < k) ∧ shArgs us k 0 = true) from fun hh => hc ⟨hh.2.1, hh.2.2.2⟩)]; rfl
        · rw [show (if (4 : Int) = 4 ∧ (1 : Int) = 1 ∧ n ≥ b + k then ρ (n - (b + k)) + (b + k) else n) = n from if_neg (by omega)]
          by_cases hc : (4 : Int) = 4 ∧ (us.length : Int) = k ∧ ¬((1 : Int) = 1 ∧ n < k) ∧ shArgs us k 0 = true
          · rw [if_pos hc]
            show some ((1 : Int), n - k) = some ((1 : Int), if (1 : Int) = 1 ∧ n - k ≥ b then ρ (n - k - b) + b else n - k)
            rw [if_neg (by omega)]
          · rw [if_neg hc]; rfl
      · rw [show (if (4 : Int) = 4 ∧ h = 1 ∧ n ≥ b + k then ρ (n - (b + k)) + (b + k) else n) = n from if_neg (by omega)]
        by_cases hc : (4 : Int) = 4 ∧ (us.length : Int) = k ∧ ¬(h = 1 ∧ n < k) ∧ shArgs us k 0 = true
        · rw [if_pos hc]
          simp only [Option.map_some, rnN]
          rw [if_neg h1, if_neg (by simp [h1])]
        · rw [if_neg hc]; rfl
    · rw [if_neg (fun hh => h4 hh.1), if_neg (fun hh => h4 hh.1)]; rfl
theorem sh_renLam {ρ : Int → Int} (hρ : ∀ v, 0 ≤ v → 0 ≤ ρ v ∧ ρ v ≤ 5000) : ∀ (us : List Tm) (k b : Int), 0 ≤ k → 0 ≤ b → shLam (renL ρ 3 us 0 (b + k)) (k + 1) = (shLam us (k + 1)).map (rnN ρ b)
  | [], _, _, _, _ => rfl
  | u :: us, k, b, hk, hb => by
    have hu : under 3 ((0 : Nat) : Int) = 1 := by simp [under]
    simp only [renL, shLam, hu]
    rw [show b + k + 1 = b + (k + 1) by omega]
    exact sh_ren hρ u (k + 1) b (by omega) hb
theorem sh_renArgs {ρ : Int → Int} (hρ : ∀ v, 0 ≤ v → 0 ≤ ρ v ∧ ρ v ≤ 5000) : ∀ (us : List Tm) (k b : Int) (i : Nat) (j : Int), 0 ≤ k → 0 ≤ b → 0 ≤ j → shArgs (renL ρ 4 us i (b + k)) k j = shArgs us k j
  | [], _, _, _, _, _, _, _ => rfl
  | u :: us, k, b, i, j, hk, hb, hj => by
    have hu : under 4 (i : Int) = 0 := by simp [under]
    simp only [renL, shArgs, hu, Int.add_zero]
    rw [sh_renArgs hρ us k b (i + 1) (j + 1) hk hb (by omega)]
    have h0 := sh_ren hρ u 0 (b + k) (by omega) (by omega)
    rw [Int.add_zero] at h0
    rw [h0]
    congr 1
    cases hs : shF u 0 with
    | none => rfl
    | some q =>
      have := rnN_bound hρ (show k - 1 - j < b + k by omega) q
      rw [Option.map_some, Bool.eq_iff_iff, beq_iff_eq, beq_iff_eq, Option.some.injEq, Option.some.injEq]
      exact this
 end

/-! what a long form is of is free -/
mutual
theorem sh_fv : ∀ (t : Tm) (k b n : Int), 0 ≤ k → shF t k = some (1, n) → n ≥ b → n - b ∈ fvF t (b + k)
  | .mk o h n us, k, b, m, hk, hs, hm => by
    simp only [shF] at hs
    simp only [fvF, List.mem_append]
    by_cases h3 : o = 3
    · rw [if_pos h3] at hs
      subst h3
      exact .inr (sh_fvLam us k b m hk hs hm)
    · rw [if_neg h3] at hs
      split at hs
      · rename_i hc
        simp only [Option.some.injEq, Prod.mk.injEq] at hs
        obtain ⟨e1, e2⟩ := hs
        subst e1
        rw [if_pos rfl] at e2
        left
        rw [if_pos ⟨hc.1, rfl, by omega⟩, List.mem_singleton]
        omega
      · cases hs
theorem sh_fvLam : ∀ (us : List Tm) (k b n : Int), 0 ≤ k → shLam us (k + 1) = some (1, n) → n ≥ b → n - b ∈ fvL 3 us 0 (b + k)
  | [], _, _, _, _, hs, _ => by cases hs
  | u :: us, k, b, n, hk, hs, hm => by
    have hu : under 3 ((0 : Nat) : Int) = 1 := by simp [under]
    simp only [fvL, List.mem_append, hu]
    rw [show b + k + 1 = b + (k + 1) by omega]
    exact .inl (sh_fv u (k + 1) b n (by omega) hs hm)
 end

theorem pat_ren {ρ : Int → Int} (hρ : ∀ v, 0 ≤ v → 0 ≤ ρ v ∧ ρ v ≤ 5000) {P : Int → Prop} (hinj : ∀ x y, P x → P y → ρ x = ρ y → x = y) {opn opn' : Int → Bool} (hop : ∀ x, P x → opn' (ρ x) = opn x) {b : Int} (hb : 0 ≤ b) : ∀ (us : List Tm) (i : Nat) (seen : List Int), (∀ x ∈ fvL 4 us i b, P x) → (∀ y ∈ seen, y ≥ b → P (y - b)) → patF opn' b (seen.map (fun y => if y ≥ b then ρ (y - b) + b else y)) (renL ρ 4 us i b) = patF opn b seen us
  | [], _, _, _, _ => rfl
  | u :: us, i, seen, hP, hseen => by
    have hu : under 4 (i : Int) = 0 := by simp [under]
    simp only [fvL, List.mem_append, hu, Int.add_zero] at hP
    simp only [renL, patF, hu, Int.add_zero]
    have h0 := sh_ren hρ u 0 b (by omega) hb
    rw [Int.add_zero] at h0
    rw [h0]
    cases hs : shF u 0 with
    | none => rfl
    | some q =>
      obtain ⟨h, n⟩ := q
      simp only [Option.map_some, rnN]
      by_cases h1 : ¬ h = 1
      · have e : (h == 1) = false := by simpa using h1
        rw [e, Bool.false_and, Bool.false_and]
      have h1 : h = 1 := Classical.not_not.1 h1
      subst h1
      have hPn : n ≥ b → P (n - b) := fun hn => hP _ (.inl (by
        have := sh_fv u 0 b n (by omega) hs hn
        rwa [Int.add_zero] at this))
      have e0 : (if (1 : Int) = 1 ∧ n ≥ b then ρ (n - b) + b else n) = (if n ≥ b then ρ (n - b) + b else n) := by
        by_cases hn : n ≥ b
        · rw [if_pos ⟨rfl, hn⟩, if_pos hn]
        · rw [if_neg (fun hh => hn hh.2), if_neg hn]
      rw [e0]
      have e1 : (List.map (fun y => if y ≥ b then ρ (y - b) + b else y) seen).any (fun y => (if n ≥ b then ρ (n - b) + b else n) == y) = seen.any (fun y => n == y) := by
        rw [List.any_map, Bool.eq_iff_iff, List.any_eq_true, List.any_eq_true]
        constructor
        · rintro ⟨y, hy, e⟩
          refine ⟨y, hy, ?_⟩
          simp only [Function.comp, beq_iff_eq] at e ⊢
          by_cases hn : n ≥ b
          · rw [if_pos hn] at e
            by_cases hyb : y ≥ b
            · rw [if_pos hyb] at e
              have := hinj _ _ (hPn hn) (hseen y hy hyb) (by omega)
              omega
            · rw [if_neg hyb] at e
              have := hρ (n - b) (by omega)
              omega
          · rw [if_neg hn] at e
            by_cases hyb : y ≥ b
            · rw [if_pos hyb] at e
              have := hρ (y - b) (by omega)
              omega
            · rw [if_neg hyb] at e; exact e
        · rintro ⟨y, hy, e⟩
          refine ⟨y, hy, ?_⟩
          rw [beq_iff_eq] at e
          subst e
          simp
      have e2 : (decide ((if n ≥ b then ρ (n - b) + b else n) ≥ b) && opn' ((if n ≥ b then ρ (n - b) + b else n) - b)) = (decide (n ≥ b) && opn (n - b)) := by
        by_cases hn : n ≥ b
        · rw [if_pos hn]
          have := hρ (n - b) (by omega)
          rw [decide_eq_true (by omega), decide_eq_true hn, show ρ (n - b) + b - b = ρ (n - b) by omega, hop _ (hPn hn)]
        · rw [if_neg hn, decide_eq_false hn, Bool.false_and, Bool.false_and]
      have e3 := pat_ren hρ hinj hop hb us (i + 1) (seen ++ [n]) (fun x hx => hP x (.inr hx)) (by
        intro y hy hyb
        rcases List.mem_append.1 hy with h | h
        · exact hseen y h hyb
        · rw [List.mem_singleton] at h; subst h; exact hPn hyb)
      rw [List.map_append, List.map_cons, List.map_nil] at e3
      rw [e1, e2, e3]

mutual
theorem str_ren {ρ : Int → Int} (hρ : ∀ v, 0 ≤ v → 0 ≤ ρ v ∧ ρ v ≤ 5000) {P : Int → Prop} (hinj : ∀ x y, P x → P y → ρ x = ρ y → x = y) {opn opn' : Int → Bool} (hop : ∀ x, P x → opn' (ρ x) = opn x) : ∀ (t : Tm) (b : Int), 0 ≤ b → (∀ x ∈ fvF t b, P x) → strF opn' (renF ρ t b) b = (strF opn t b).map ρ
  | .mk o h n us, b, hb, hP => by
    simp only [fvF, List.mem_append] at hP
    simp only [renF, strF]
    by_cases h1 : o = 4 ∧ h = 1 ∧ n ≥ b
    · obtain ⟨e1, e2, e3⟩ := h1
      subst e1 e2
      have hr := hρ (n - b) (by omega)
      have hPn : P (n - b) := hP _ (.inl (by rw [if_pos ⟨rfl, rfl, e3⟩]; simp))
      rw [if_pos (show (4 : Int) = 4 ∧ (1 : Int) = 1 ∧ n ≥ b from ⟨rfl, rfl, e3⟩), show ρ (n - b) + b - b = ρ (n - b) by omega, hop _ hPn]
      by_cases ho : opn (n - b) = true
      · rw [if_pos (show (4 : Int) = 4 ∧ (1 : Int) = 1 ∧ ρ (n - b) + b ≥ b ∧ opn (n - b) = true from ⟨rfl, rfl, by omega, ho⟩), if_pos (show (4 : Int) = 4 ∧ (1 : Int) = 1 ∧ n ≥ b ∧ opn (n - b) = true from ⟨rfl, rfl, e3, ho⟩)]
        have := pat_ren hρ hinj hop hb us 0 [] (fun x hx => hP x (.inr hx)) (by simp)
        rw [List.map_nil] at this
        rw [this]
        split <;> simp
      · rw [if_neg (show ¬((4 : Int) = 4 ∧ (1 : Int) = 1 ∧ ρ (n - b) + b ≥ b ∧ opn (n - b) = true) from fun hh => ho hh.2.2.2), if_neg (show ¬((4 : Int) = 4 ∧ (1 : Int) = 1 ∧ n ≥ b ∧ opn (n - b) = true) from fun hh => ho hh.2.2.2)]
        exact str_renL hρ hinj hop 4 us 0 b hb (fun x hx => hP x (.inr hx))
    · rw [if_neg h1, if_neg (fun hh => h1 ⟨hh.1, hh.2.1, hh.2.2.1⟩), if_neg (fun hh => h1 ⟨hh.1, hh.2.1, hh.2.2.1⟩)]
      exact str_renL hρ hinj hop o us 0 b hb (fun x hx => hP x (.inr hx))
theorem str_renL {ρ : Int → Int} (hρ : ∀ v, 0 ≤ v → 0 ≤ ρ v ∧ ρ v ≤ 5000) {P : Int → Prop} (hinj : ∀ x y, P x → P y → ρ x = ρ y → x = y) {opn opn' : Int → Bool} (hop : ∀ x, P x → opn' (ρ x) = opn x) : ∀ (o : Int) (us : List Tm) (i : Nat) (b : Int), 0 ≤ b → (∀ x ∈ fvL o us i b, P x) → strL opn' o (renL ρ o us i b) i b = (strL opn o us i b).map ρ
  | _, [], _, _, _, _ => rfl
  | o, u :: us, i, b, hb, hP => by
    have hu := under_le o i
    simp only [fvL, List.mem_append] at hP
    simp only [renL, strL, List.map_append]
    rw [str_ren hρ hinj hop u _ (by omega) (fun x hx => hP x (.inl hx)), str_renL hρ hinj hop o us (i + 1) b hb (fun x hx => hP x (.inr hx))]
 end

mutual
theorem str_fv {opn : Int → Bool} : ∀ (t : Tm) (b : Int), ∀ x ∈ strF opn t b, x ∈ fvF t b ∧ opn x = true
  | .mk o h n us, b, x, hx => by
    simp only [strF] at hx
    simp only [fvF, List.mem_append]
    split at hx
    · rename_i hc
      split at hx
      · rw [List.mem_singleton] at hx
        subst hx
        exact ⟨.inl (by rw [if_pos ⟨hc.1, hc.2.1, hc.2.2.1⟩]; simp), hc.2.2.2⟩
      · cases hx
    · obtain ⟨h1, h2⟩ := str_fvL o us 0 b x hx
      exact ⟨.inr h1, h2⟩
theorem str_fvL {opn : Int → Bool} : ∀ (o : Int) (us : List Tm) (i : Nat) (b : Int), ∀ x ∈ strL opn o us i b, x ∈ fvL o us i b ∧ opn x = true
  | _, [], _, _, x, hx => by cases hx
  | o, u :: us, i, b, x, hx => by
    simp only [strL, List.mem_append] at hx
    simp only [fvL, List.mem_append]
    rcases hx with hx | hx
    · obtain ⟨h1, h2⟩ := str_fv u _ x hx
      exact ⟨.inl h1, h2⟩
    · obtain ⟨h1, h2⟩ := str_fvL o us (i + 1) b x hx
      exact ⟨.inr h1, h2⟩
 end
end Go.Proofs.YtogicnodmgdnbaaGreat
end

/-! StB -/
section
namespace Go.Proofs.YtogicnodmgdnbaaGreat
open Go.Tr Go
set_option linter.unusedVariables false
set_option linter.unusedSimpArgs false
set_option maxRecDepth 10000

theorem shF_eq (t : Tm) (k : Int) : shF t k = if t.op = 3 then shLam t.args (k + 1) else if t.op = 4 ∧ (t.args.length : Int) = k ∧ ¬(t.hd = 1 ∧ t.n < k) ∧ shArgs t.args k 0 = true then some (t.hd, if t.hd = 1 then t.n - k else t.n) else none := by cases t; rfl
theorem strF_eq (opn : Int → Bool) (t : Tm) (b : Int) : strF opn t b = if t.op = 4 ∧ t.hd = 1 ∧ t.n ≥ b ∧ opn (t.n - b) = true then (if patF opn b [] t.args = true then [t.n - b] else []) else strL opn t.op t.args 0 b := by cases t; rfl
theorem fvF_eq (t : Tm) (b : Int) : fvF t b = (if t.op = 4 ∧ t.hd = 1 ∧ t.n ≥ b then [t.n - b] else []) ++ fvL t.op t.args 0 b := by cases t; rfl
theorem fvL_mem (y : Int) (o : Int) : ∀ (us : List Tm) (i : Nat) (b : Int) (j : Nat) (u : Tm), us[j]? = some u → y ∈ fvF u (b + under o ((i + j : Nat) : Int)) → y ∈ fvL o us i b
  | [], _, _, _, _, h, _ => by simp at h
  | v :: us, i, b, 0, u, h, hy => by
    simp at h; subst h
    simp only [fvL, List.mem_append]
    exact .inl hy
  | v :: us, i, b, j + 1, u, h, hy => by
    simp only [fvL, List.mem_append]
    refine .inr (fvL_mem y o us (i + 1) b j u (by simpa using h) ?_)
    rw [show i + 1 + j = i + (j + 1) by omega]; exact hy

def shP (q : Option (Int × Int)) : Int × Int × Int := match q with
  | some (h, n) => (h, n, 0)
  | none => (0, 0, 6)

theorem short_ev : ∀ (N : Nat) (u : Tm), u.height ≤ N → Pr u → Ev (fun q => subst_Short q u) (shP (shF u 0)) := by
  intro N
  induction N with
  | zero => intro u hu; have := Tm.height_pos u; omega
  | succ N ih =>
    have L2 : ∀ (v : Tm) (k : Nat), Pr v → v.height ≤ N + 1 → k ≤ 1000 → ∀ (ts : List Tm) (i : Nat), v.args.drop i = ts → i + ts.length = v.args.length → Ev (fun q => subst_Short_L2 q v (k : Int) (i : Int)) (if shArgs ts k i = true then (v.hd, (if v.hd = 1 then v.n - k else v.n), 0) else (0, 0, 6)) := by
      intro v k hv hvh hk ts
      have hn := pr_n hv
      have hlen := pr_len hv
      induction ts with
      | nil =>
        intro i hd hi
        simp only [List.length_nil, Nat.add_zero] at hi
        refine Ev.succ (fun q => subst_Short_L2.eq_2 ..) (Ev.f (by rw [Tm.encL_length]; simp; omega) ?_)
        rw [if_pos (show shArgs [] (k : Int) (i : Int) = true from rfl)]
        refine Ev.ite (fun h => ?_) (fun h => ?_)
        · have h : v.hd = 1 := by simpa using h
          rw [if_pos h, wrap_i64 (by omega) (by omega)]; exact Ev.pure _
        · have h : ¬ v.hd = 1 := by simpa using h
          rw [if_neg h]; exact Ev.pure _
      | cons t ts ihl =>
        intro i hd hi
        simp only [List.length_cons] at hi
        have ht := getDrop hd
        have htm := List.mem_of_getElem? ht
        have hth := Tm.height_le htm
        have e := ih t (by rw [Tm.height_eq] at hvh; omega) (pr_arg hv htm)
        refine Ev.succ (fun q => subst_Short_L2.eq_2 ..) (Ev.t (by rw [Tm.encL_length]; simp; omega) (Ev.some (idx_get ht) (e.bind ?_)))
        rw [wrap_i64 (n := (k : Int) - 1) (by omega) (by omega), wrap_i64 (n := (k : Int) - 1 - i) (by omega) (by omega), wrapS (by omega)]
        have hs : shArgs (t :: ts) (k : Int) (i : Int) = ((shF t 0 == some (1, (k : Int) - 1 - i)) && shArgs ts k ((i : Int) + 1)) := rfl
        rw [hs]
        cases hq : shF t 0 with
        | none => exact Ev.t rfl (Ev.pure _)
        | some q =>
          obtain ⟨h, m⟩ := q
          by_cases hc : h = 1 ∧ m = (k : Int) - 1 - i
          · obtain ⟨rfl, rfl⟩ := hc
            refine Ev.f (by simp [shP]) ?_
            have := ihl (i + 1) (dropDrop hd) (by omega)
            rw [show (((1 : Int), (k : Int) - 1 - (i : Int)) : Int × Int) = (1, (k : Int) - 1 - (i : Int)) from rfl]
            simp only [beq_self_eq_true, Bool.true_and]
            exact this
          · have e1 : ((some (h, m) : Option (Int × Int)) == some (1, (k : Int) - 1 - i)) = false := by
              rw [beq_eq_false_iff_ne]
              intro e; injection e with e; injection e with e1 e2; exact hc ⟨e1, e2⟩
            rw [e1, Bool.false_and, if_neg (by decide)]
            refine Ev.t ?_ (Ev.pure _)
            simp only [shP, Bool.or_eq_true, bne_iff_ne]
            by_cases h1 : h = 1
            · exact .inr (fun e => hc ⟨h1, e⟩)
            · exact .inl (.inr h1)
    have L1 : ∀ (M : Nat) (v : Tm) (k : Nat), v.height ≤ M → v.height ≤ N + 1 → Pr v → k + v.height ≤ 1000 → Ev (fun q => subst_Short_L1 q v (k : Int)) (shP (shF v (k : Int))) := by
      intro M
      induction M with
      | zero => intro v k hv; have := Tm.height_pos v; omega
      | succ M ihM =>
        intro v k hv hvN hp hk
        rw [shF_eq]
        by_cases h3 : v.op = 3
        · rw [if_pos h3]
          obtain ⟨a, ha, _, hh, _⟩ := okAll_one (proper_small hp).1 h3
          have := ihM a (k + 1) (by omega) (by omega) (pr_arg hp (by rw [ha]; simp)) (by omega)
          refine Ev.succ (fun q => subst_Short_L1.eq_2 ..) (Ev.t (by simpa using h3) (Ev.some (x := a) (by rw [ha]; rfl) ?_))
          rw [wrapS (by omega), ha]
          exact this
        · rw [if_neg h3]
          refine Ev.succ (fun q => subst_Short_L1.eq_2 ..) (Ev.f (by simpa using h3) ?_)
          by_cases hc : v.op = 4 ∧ (v.args.length : Int) = k ∧ ¬(v.hd = 1 ∧ v.n < k)
          · have := L2 v k hp hvN (by omega) v.args 0 rfl (by simp)
            refine Ev.f ?_ (this.eq ?_)
            · obtain ⟨c1, c2, c3⟩ := hc
              rw [Tm.encL_length]
              simp only [Bool.or_eq_false_iff, bne_eq_false_iff_eq, Bool.and_eq_false_iff, beq_eq_false_iff_ne, decide_eq_false_iff_not]
              refine ⟨⟨c1, c2⟩, ?_⟩
              by_cases h1 : v.hd = 1
              · exact .inr (fun h => c3 ⟨h1, h⟩)
              · exact .inl h1
            · by_cases ha : shArgs v.args (k : Int) 0 = true
              · rw [if_pos (show shArgs v.args (k : Int) ((0 : Nat) : Int) = true from ha), if_pos (show v.op = 4 ∧ (v.args.length : Int) = k ∧ ¬(v.hd = 1 ∧ v.n < k) ∧ shArgs v.args k 0 = true from ⟨hc.1, hc.2.1, hc.2.2, ha⟩)]; rfl
              · rw [if_neg (show ¬ shArgs v.args (k : Int) ((0 : Nat) : Int) = true from ha), if_neg (fun hh => ha hh.2.2.2)]; rfl
          · rw [if_neg (fun hh => hc ⟨hh.1, hh.2.1, hh.2.2.1⟩)]
            refine Ev.t ?_ (Ev.pure _)
            rw [Tm.encL_length]
            simp only [Bool.or_eq_true, bne_iff_ne, Bool.and_eq_true, beq_iff_eq, decide_eq_true_eq]
            by_cases c1 : v.op = 4
            · by_cases c2 : (v.args.length : Int) = k
              · right
                exact Classical.byContradiction (fun c3 => hc ⟨c1, c2, c3⟩)
              · exact .inl (.inr c2)
            · exact .inl (.inl c1)
    intro u hu hp
    have hpp := (proper_small hp).2.1
    exact Ev.succ (fun q => subst_Short.eq_2 ..) (Ev.f (by rw [if_pos hp]; rfl) (L1 u.height u 0 (Nat.le_refl _) hu hp (by omega)))

mutual
theorem sh_bound : ∀ (t : Tm) (k h n : Int), 0 ≤ k → okAll t = true → shF t k = some (h, n) → 0 ≤ n ∧ n ≤ 9999
  | .mk o hd m us, k, h, n, hk, hok, hs => by
    have hn := okAll_n hok
    simp only [Tm.n] at hn
    simp only [okAll, Bool.and_eq_true] at hok
    simp only [shF] at hs
    split at hs
    · exact sh_boundLam us k h n hk hok.2 hs
    · split at hs
      · rename_i hc
        simp only [Option.some.injEq, Prod.mk.injEq] at hs
        obtain ⟨e1, e2⟩ := hs
        have := hc.2.2.1
        split at e2 <;> omega
      · cases hs
theorem sh_boundLam : ∀ (us : List Tm) (k h n : Int), 0 ≤ k → okAllL us = true → shLam us (k + 1) = some (h, n) → 0 ≤ n ∧ n ≤ 9999
  | [], _, _, _, _, _, hs => by cases hs
  | u :: us, k, h, n, hk, hok, hs => by
    simp only [okAllL, Bool.and_eq_true] at hok
    exact sh_bound u (k + 1) h n (by omega) hok.1 hs
 end

/-- A scope that says by levels which variables are open. -/
def Lv (s : List Bool) (opn : Int → Bool) : Prop := ∀ v : Int, 0 ≤ v → v < (s.length : Int) → idx s ((s.length : Int) - 1 - v) = some (opn v)
abbrev lvl (s : List Bool) (v : Int) : Int := (s.length : Int) - 1 - v

theorem level_ev (s : List Bool) (n b : Int) (hl : s.length ≤ 1000000) (hn : 0 ≤ n ∧ n ≤ 1000000) (hb : 0 ≤ b ∧ b ≤ 1000000) : Ev (fun q => mode_scope_level q s n b) (lvl s (n - b), decide (n ≥ b)) := by
  refine Ev.succ (fun q => mode_scope_level.eq_2 ..) ((Ev.pure _).eq ?_)
  rw [List.length_map, wrap_i64 (n := (s.length : Int) - 1) (by omega) (by omega), wrap_i64 (n := n - b) (by omega) (by omega), wrap_i64 (by omega) (by omega)]

theorem pattern_ev {s : List Bool} {opn : Int → Bool} (hs : Lv s opn) (hl : s.length ≤ 100000) (l : List Tm) (b : Nat) (hb : b ≤ 100000) (hll : l.length ≤ 600) (hp : ∀ x ∈ l, Pr x) (hf : ∀ x ∈ l, ∀ y ∈ fvF x b, y < (s.length : Int)) :
    Ev (fun q => mode_scope_pattern q s l (b : Int)) (patF opn b [] l) := by
  have loop : ∀ (ts : List Tm) (i : Nat) (seen : List Int), l.drop i = ts → i + ts.length = l.length → seen.length = i → Ev (fun q => mode_scope_pattern_L1 q l s (b : Int) seen (i : Int)) (patF opn b seen ts) := by
    intro ts
    induction ts with
    | nil =>
      intro i seen hd hi hse
      simp only [List.length_nil, Nat.add_zero] at hi
      exact Ev.succ (fun q => mode_scope_pattern_L1.eq_2 ..) (Ev.f (by rw [Tm.encL_length]; simp; omega) (Ev.pure _))
    | cons x ts ih =>
      intro i seen hd hi hse
      simp only [List.length_cons] at hi
      have hx := getDrop hd
      have hxm := List.mem_of_getElem? hx
      have hxp := hp x hxm
      refine Ev.succ (fun q => mode_scope_pattern_L1.eq_2 ..) (Ev.t (by rw [Tm.encL_length]; simp; omega) (Ev.some (idx_get hx) ((short_ev x.height x (Nat.le_refl _) hxp).bind ?_)))
      simp only [patF]
      cases hq : shF x 0 with
      | none => exact Ev.t rfl (Ev.pure _)
      | some q =>
        obtain ⟨h, n⟩ := q
        by_cases h1 : h = 1
        case neg =>
          have e : (h == 1) = false := by simpa using h1
          refine Ev.t (by simp [shP, h1]) ((Ev.pure _).eq ?_)
          simp only [e, Bool.false_and]
        case pos =>
          subst h1
          dsimp only
          have hn := sh_bound x 0 1 n (by omega) (proper_small hxp).1 hq
          refine Ev.f rfl ((contains_ev seen n (by omega)).bind ?_)
          have hcl : decide ((List.map (D.int .i64) (seen ++ [n])).length ≤ 1000000) = true := by
            rw [List.length_map, List.length_append]; simp; omega
          have hrec := ih (i + 1) (seen ++ [n]) (dropDrop hd) (by omega) (by simp; omega)
          refine Ev.ite (fun h => (Ev.pure _).eq (by rw [h]; simp)) (fun h => (level_ev s n b (by omega) (by omega) (by omega)).bind ?_)
          rw [h, wrapS (by omega)]
          simp only [beq_self_eq_true, Bool.true_and, Bool.not_false]
          refine Ev.ite (fun hnb => ?_) (fun hnb => ?_)
          · have hnb' : n ≥ b := of_decide_eq_true hnb
            have hy := hf x hxm (n - b) (by
              have := sh_fv x 0 b n (by omega) hq hnb'
              rwa [Int.add_zero] at this)
            have hi' := hs (n - b) (by omega) hy
            refine Ev.some hi' ?_
            rw [hnb]
            refine Ev.ite (fun ho => (Ev.pure _).eq (by rw [ho]; rfl)) (fun ho => ?_)
            rw [ho]
            exact Ev.need hcl hrec
          · rw [hnb]
            exact Ev.need hcl hrec
  exact Ev.succ (fun q => mode_scope_pattern.eq_2 ..) (loop l 0 [] rfl (by simp) rfl)

theorem str_lengths (opn : Int → Bool) : (∀ (t : Tm) (b : Int), (strF opn t b).length ≤ t.count) := by
  intro t
  induction t using Tm.rec (motive_2 := fun us => ∀ (o : Int) (i : Nat) (b : Int), (strL opn o us i b).length ≤ Tm.countL us) with
  | mk o h n us ih =>
    intro b
    simp only [strF, Tm.count]
    split
    · split <;> simp
    · have := ih o 0 b; omega
  | nil => simp [strL, Tm.countL]
  | cons u us ih1 ih2 o i b =>
    simp only [strL, List.length_append, Tm.countL]
    have := ih1 (b + under o i)
    have := ih2 o (i + 1) b
    omega

theorem strict1_ev {s : List Bool} {opn : Int → Bool} (hs : Lv s opn) (hl : s.length ≤ 100000) (t : Tm) : ∀ (b : Nat) (out : List Int), Pr t → b + t.height ≤ 1000 → out.length + t.count ≤ 100000 → (∀ y ∈ fvF t b, y < (s.length : Int)) →
    Ev (fun q => mode_scope_strict_1 q t (b : Int) s out) (out ++ (strF opn t b).map (lvl s)) := by
  induction t using Tm.ind with
  | h t ih =>
    intro b out hp hb hc hf
    have hn := pr_n hp
    have hlen := pr_len hp
    have loop : ∀ (ts : List Tm) (i : Nat) (out : List Int), t.args.drop i = ts → i + ts.length = t.args.length → out.length + Tm.countL ts ≤ 100000 → Ev (fun q => mode_scope_strict_1_L1 q t (b : Int) s out (i : Int)) (out ++ (strL opn t.op ts i b).map (lvl s)) := by
      intro ts
      induction ts with
      | nil =>
        intro i out hd hi ho
        simp only [List.length_nil, Nat.add_zero] at hi
        exact Ev.succ (fun q => mode_scope_strict_1_L1.eq_2 ..) (Ev.f (by rw [Tm.encL_length]; simp; omega) ((Ev.pure _).eq (by simp [strL])))
      | cons x ts ihl =>
        intro i out hd hi ho
        simp only [List.length_cons] at hi
        simp only [Tm.countL] at ho
        have hx := getDrop hd
        have hxm := List.mem_of_getElem? hx
        have hxh := Tm.height_le hxm
        have hu := under_le t.op i
        obtain ⟨u, hu'⟩ : ∃ u : Nat, under t.op (i : Int) = (u : Int) := ⟨(under t.op i).toNat, by omega⟩
        rw [Tm.height_eq] at hb
        have e := ih x hxm (b + u) out (pr_arg hp hxm) (by omega) (by omega) (by
          intro y hy
          refine hf y ?_
          rw [fvF_eq, List.mem_append]
          refine .inr (fvL_mem y t.op t.args 0 b i x hx ?_)
          rw [Nat.zero_add, hu']
          exact hy)
        have hsl := str_lengths opn x ((b + u : Nat) : Int)
        refine Ev.succ (fun q => mode_scope_strict_1_L1.eq_2 ..) (Ev.t (by rw [Tm.encL_length]; simp; omega) (Ev.some (idx_get hx) ((under_ev t i).bind ?_)))
        rw [hu', wrap_i64 (n := (b : Int) + u) (by omega) (by omega)]
        refine e.bind ?_
        rw [wrapS (by omega)]
        have := ihl (i + 1) (out ++ (strF opn x ((b + u : Nat) : Int)).map (lvl s)) (dropDrop hd) (by omega) (by rw [List.length_append, List.length_map]; omega)
        refine this.eq ?_
        simp only [strL, hu', List.map_append, List.append_assoc]
        rfl
    have hloop := loop t.args 0 out rfl (by simp) (by rw [Tm.count_eq] at hc; omega)
    refine Ev.succ (fun q => mode_scope_strict_1.eq_2 ..) ((level_ev s t.n b (by omega) (by omega) (by omega)).bind ?_)
    rw [strF_eq]
    by_cases h4 : t.op = 4 ∧ t.hd = 1 ∧ t.n ≥ b
    · obtain ⟨c1, c2, c3⟩ := h4
      have hy := hf (t.n - b) (by rw [fvF_eq, if_pos ⟨c1, c2, c3⟩]; simp)
      have hi' := hs (t.n - b) (by omega) hy
      refine Ev.t (by rw [c1, c2, decide_eq_true c3]; rfl) (Ev.some hi' ?_)
      refine Ev.ite (fun ho => ?_) (fun ho => ?_)
      · rw [if_pos ⟨c1, c2, c3, ho⟩]
        have hpat := pattern_ev hs hl t.args b (by omega) hlen (fun x hx => pr_arg hp hx) (by
          intro x hx y hy
          obtain ⟨j, hj⟩ := List.mem_iff_getElem?.1 hx
          refine hf y ?_
          rw [fvF_eq, List.mem_append]
          refine .inr (fvL_mem y t.op t.args 0 b j x hj ?_)
          rw [c1, show under 4 ((0 + j : Nat) : Int) = 0 by simp [under], Int.add_zero]
          exact hy)
        refine hpat.bind (Ev.ite (fun hh => ?_) (fun hh => ?_))
        · rw [if_pos hh]
          refine Ev.need ?_ ((Ev.pure _).eq rfl)
          have := Tm.count_pos t
          rw [List.length_map, List.length_append]; simp; omega
        · rw [if_neg (by rw [hh]; decide)]
          exact (Ev.pure _).eq (by simp)
      · rw [if_neg (fun hh => by rw [hh.2.2.2] at ho; cases ho)]
        exact hloop
    · rw [if_neg (fun hh => h4 ⟨hh.1, hh.2.1, hh.2.2.1⟩)]
      refine Ev.f ?_ hloop
      simp only [Bool.and_eq_false_iff, beq_eq_false_iff_ne, decide_eq_false_iff_not]
      by_cases c1 : t.op = 4
      · by_cases c2 : t.hd = 1
        · exact .inr (fun c3 => h4 ⟨c1, c2, c3⟩)
        · exact .inl (.inr c2)
      · exact .inl (.inl c1)

theorem scopeStrict_ev {s : List Bool} {opn : Int → Bool} (hs : Lv s opn) (hl : s.length ≤ 100000) {t : Tm} (hp : Pr t) (hf : ∀ y ∈ fvF t 0, y < (s.length : Int)) :
    Ev (fun q => mode_scope_strict q s t) ((strF opn t 0).map (lvl s)) := by
  obtain ⟨h1, h2, h3⟩ := proper_small hp
  refine Ev.succ (fun q => mode_scope_strict.eq_2 ..) ((strict1_ev hs hl t 0 [] hp (by omega) (by simp; omega) hf).bind ((Ev.pure _).eq (by simp)))
end Go.Proofs.YtogicnodmgdnbaaGreat
end

/-! StC -/
section
namespace Go.Proofs.YtogicnodmgdnbaaGreat
open Go.Tr Go
set_option linter.unusedVariables false
set_option linter.unusedSimpArgs false
set_option maxRecDepth 10000

/-! a list without what is there twice in a row -/
def ddpA : Int → List Int → List Int
  | _, [] => []
  | x, y :: ys => if y = x then ddpA x ys else y :: ddpA y ys
def ddp : List Int → List Int
  | [] => []
  | x :: xs => x :: ddpA x xs

theorem ddpA_snoc : ∀ (l : List Int) (x y : Int), ddpA x (l ++ [y]) = ddpA x l ++ (if y = (x :: l).getLast (by simp) then [] else [y])
  | [], x, y => by simp only [List.nil_append, ddpA, List.getLast_singleton]; congr
  | z :: l, x, y => by
    simp only [List.cons_append, ddpA]
    by_cases h : z = x
    · subst h
      rw [if_pos rfl, if_pos rfl, ddpA_snoc l z y]
      rw [show (z :: z :: l).getLast (by simp) = (z :: l).getLast (by simp) from List.getLast_cons (by simp)]
    · rw [if_neg h, if_neg h, ddpA_snoc l z y, List.cons_append]
      rw [show (x :: z :: l).getLast (by simp) = (z :: l).getLast (by simp) from List.getLast_cons (by simp)]
theorem compact_ddp (zs : List Int) : Go.Lib.compact zs = ddp zs := by
  have key : ∀ m : Nat, m ≤ zs.length → Go.Lib.compactUpTo zs.toArray m = ddp (zs.take m) := by
    intro m
    induction m with
    | zero => intro _; simp [Go.Lib.compactUpTo, ddp]
    | succ m ih =>
      intro hm
      rw [Go.Lib.compactUpTo_succ, ih (by omega)]
      have hg : (zs.toArray[m]! : Int) = zs[m]'(by omega) := by
        rw [getElem!_pos _ _ (by simpa using (show m < zs.length by omega))]; simp
      rw [List.take_succ_eq_append_getElem (by omega), hg]
      cases hz : zs.take m with
      | nil =>
        have h0 : m = 0 := by
          have := congrArg List.length hz
          rw [List.length_take, List.length_nil] at this; omega
        subst h0
        simp [Go.Lib.keeps, ddp, ddpA]
      | cons x l =>
        have hm0 : 0 < m := by
          have := congrArg List.length hz
          rw [List.length_take, List.length_cons] at this; omega
        rw [List.cons_append, ddp, ddp, ddpA_snoc, List.cons_append]
        congr 2
        have hl : (x :: l).getLast (by simp) = zs[m - 1]'(by omega) := by
          have hl2 : (zs.take m).length = m := by rw [List.length_take]; omega
          have h1 : (zs.take m).getLast? = some (zs[m - 1]'(by omega)) := by
            rw [List.getLast?_eq_getElem?, hl2, List.getElem?_take_of_lt (by omega), List.getElem?_eq_getElem]
          rw [hz, List.getLast?_eq_some_getLast (by simp)] at h1
          exact Option.some.inj h1
        have hg1 : (zs.toArray[m - 1]! : Int) = zs[m - 1]'(by omega) := by
          rw [getElem!_pos _ _ (by simpa using (show m - 1 < zs.length by omega))]; simp
        rw [hl]
        by_cases he : zs[m]'(by omega) = zs[m - 1]'(by omega)
        · rw [if_pos he, if_neg]
          rw [Go.Lib.keeps_neg hm0 (by rw [hg, hg1]; exact he)]
          decide
        · rw [if_neg he, if_pos]
          exact Go.Lib.keeps_pos (by rw [hg, hg1]; exact he)
  have := key zs.length (Nat.le_refl _)
  rw [List.take_length] at this
  exact this

theorem ddpA_mem (z : Int) : ∀ (l : List Int) (x : Int), (z = x ∨ z ∈ ddpA x l) ↔ (z = x ∨ z ∈ l)
  | [], x => by simp [ddpA]
  | y :: l, x => by
    simp only [ddpA, List.mem_cons]
    by_cases h : y = x
    · subst h
      rw [if_pos rfl, ddpA_mem z l y]
      constructor
      · rintro (h | h)
        · exact .inl h
        · exact .inr (.inr h)
      · rintro (h | h | h)
        · exact .inl h
        · exact .inl h
        · exact .inr h
    · rw [if_neg h, List.mem_cons, ddpA_mem z l y]
theorem ddp_mem (z : Int) : ∀ (l : List Int), z ∈ ddp l ↔ z ∈ l
  | [] => by simp [ddp]
  | x :: l => by simp only [ddp, List.mem_cons]; exact ddpA_mem z l x
theorem ddpA_lt : ∀ (l : List Int) (x : Int), (x :: l).Pairwise (· ≤ ·) → (x :: ddpA x l).Pairwise (· < ·)
  | [], x, _ => by simp [ddpA]
  | y :: l, x, h => by
    rw [List.pairwise_cons] at h
    obtain ⟨h1, h2⟩ := h
    simp only [ddpA]
    by_cases e : y = x
    · subst e
      rw [if_pos rfl]
      exact ddpA_lt l y h2
    · rw [if_neg e]
      have h3 := ddpA_lt l y h2
      rw [List.pairwise_cons] at h2
      refine List.pairwise_cons.2 ⟨?_, h3⟩
      intro z hz
      have hxy := h1 y (List.mem_cons_self ..)
      have : z = y ∨ z ∈ l := by
        have := (ddpA_mem z l y).1 (List.mem_cons.1 hz)
        exact this
      rcases this with rfl | hz
      · omega
      · have := h2.1 z hz; omega
theorem ddp_lt {l : List Int} (h : l.Pairwise (· ≤ ·)) : (ddp l).Pairwise (· < ·) := by
  cases l with
  | nil => simp [ddp]
  | cons x l => exact ddpA_lt l x h
/-! numbers -/
def rho (fixed : Int) (l : List Int) (v : Int) : Int := if v < fixed then v else fixed + (l.idxOf v : Int)
theorem rho_bound {fixed : Int} {l : List Int} (h0 : 0 ≤ fixed) (h1 : fixed ≤ 30) (hl : l.length ≤ 600) : ∀ v, 0 ≤ v → 0 ≤ rho fixed l v ∧ rho fixed l v ≤ 5000 := by
  intro v hv
  unfold rho
  have := List.idxOf_le_length (a := v) (l := l)
  split <;> omega
theorem rho_mem {fixed : Int} {l : List Int} {v : Int} (hv : v ∈ l) (hf : v ≥ fixed) : ∃ k : Nat, rho fixed l v = fixed + (k : Int) ∧ l[k]? = some v := by
  refine ⟨l.idxOf v, ?_, ?_⟩
  · unfold rho; rw [if_neg (by omega)]
  · have := List.idxOf_lt_length_iff.2 hv
    rw [List.getElem?_eq_getElem this, List.getElem_idxOf]
theorem rho_inj {fixed : Int} {l : List Int} (x y : Int) (hx : x ∈ l) (hy : y ∈ l) (h : rho fixed l x = rho fixed l y) : x = y := by
  by_cases h1 : x < fixed
  · by_cases h2 : y < fixed
    · unfold rho at h; rw [if_pos h1, if_pos h2] at h; exact h
    · obtain ⟨k, e, _⟩ := rho_mem hy (show y ≥ fixed by omega)
      rw [e] at h; unfold rho at h; rw [if_pos h1] at h; omega
  · obtain ⟨j, ej, hj⟩ := rho_mem hx (show x ≥ fixed by omega)
    by_cases h2 : y < fixed
    · rw [ej] at h; unfold rho at h; rw [if_pos h2] at h; omega
    · obtain ⟨k, e, hk⟩ := rho_mem hy (show y ≥ fixed by omega)
      rw [ej, e] at h
      have : j = k := by omega
      subst this
      rw [hj] at hk
      exact Option.some.inj hk
theorem rho_open {fixed : Int} {l : List Int} (x : Int) (hx : x ∈ l) : decide (rho fixed l x ≥ fixed) = decide (x ≥ fixed) := by
  by_cases h1 : x < fixed
  · unfold rho; rw [if_pos h1]
  · obtain ⟨j, ej, _⟩ := rho_mem hx (show x ≥ fixed by omega)
    rw [ej, decide_eq_true (by omega), decide_eq_true (by omega)]

theorem indexAt_ev (l : List Int) (v : Int) (hl : l.length ≤ 1000000) : ∀ (ts : List Int) (i : Nat), l.drop i = ts → i + ts.length = l.length → v ∈ ts → Ev (fun n => slices_Index_L1 n l v (i : Int)) (((i + ts.idxOf v : Nat)) : Int) := by
  intro ts
  induction ts with
  | nil => intro i _ _ h; cases h
  | cons u ts ih =>
    intro i hd hi hv
    simp only [List.length_cons] at hi
    refine Ev.succ (fun k => slices_Index_L1.eq_2 ..) (Ev.t (by rw [List.length_map]; simp; omega) (Ev.some (idx_get (getDrop hd)) ?_))
    refine Ev.ite (fun h => ?_) (fun h => ?_)
    · have h : v = u := by simpa using h
      subst h
      exact (Ev.pure _).eq (by simp)
    · have h : ¬ v = u := by simpa using h
      have hv' : v ∈ ts := by
        rcases List.mem_cons.1 hv with e | e
        · exact absurd e h
        · exact e
      rw [wrapS (by omega)]
      refine (ih (i + 1) (dropDrop hd) (by omega) hv').eq ?_
      have : (u :: ts).idxOf v = ts.idxOf v + 1 := by
        rw [List.idxOf_cons]
        have : (u == v) = false := by
          rw [beq_eq_false_iff_ne]; exact fun e => h e.symm
        rw [this]; rfl
      rw [this]
      congr 1; omega
theorem number_ev {fixed : Int} {l : List Int} (v : Int) (h0 : 0 ≤ fixed ∧ fixed ≤ 30) (hl : l.length ≤ 600) (hv : v ∈ l) : Ev (fun n => mode_Strict_1 n v fixed l) (rho fixed l v) := by
  refine Ev.succ (fun k => mode_Strict_1.eq_2 ..) ?_
  unfold rho
  by_cases h : v < fixed
  · rw [if_pos h]
    exact Ev.t (decide_eq_true h) (Ev.pure _)
  · rw [if_neg h]
    have h1 : Ev (fun n => slices_Index n l v) ((l.idxOf v : Nat) : Int) := by
      have := indexAt_ev l v (by omega) l 0 rfl (by simp) hv
      rw [Nat.zero_add] at this
      exact Ev.succ (fun k => slices_Index.eq_2 ..) this
    have := List.idxOf_le_length (a := v) (l := l)
    refine Ev.f (decide_eq_false h) (h1.bind ((Ev.pure _).eq ?_))
    rw [wrap_i64 (by omega) (by omega)]

theorem map_ev {fixed : Int} {l : List Int} (h0 : 0 ≤ fixed ∧ fixed ≤ 30) (hl : l.length ≤ 600) (t : Tm) : ∀ (b : Nat), Pr t → b + t.height ≤ 1000 → (∀ y ∈ fvF t b, y ∈ l) →
    Ev (fun q => term_Map_mode_Strict_2 q t (b : Int) fixed l) (renF (rho fixed l) t b) := by
  induction t using Tm.ind with
  | h t ih =>
    intro b hp hb hf
    have hn := pr_n hp
    have hlen := pr_len hp
    have hh := hb
    rw [Tm.height_eq] at hh
    have node : Ev (fun q => mode_Strict_2 q (Tm.mk t.op t.hd t.n []) (b : Int) fixed l) (Tm.mk t.op t.hd (if t.op = 4 ∧ t.hd = 1 ∧ t.n ≥ b then rho fixed l (t.n - b) + b else t.n) []) := by
      refine Ev.succ (fun q => mode_Strict_2.eq_2 ..) ?_
      have hw : IntKind.i64.wrap (t.n - (b : Int)) = t.n - b := wrap_i64 (by omega) (by omega)
      by_cases h4 : t.op = 4 ∧ t.hd = 1 ∧ t.n ≥ b
      · rw [if_pos h4]
        have hy : t.n - b ∈ l := hf _ (by rw [fvF_eq, if_pos h4]; simp)
        have hrb := rho_bound (fixed := fixed) (l := l) h0.1 h0.2 hl (t.n - b) (by omega)
        have hnum := number_ev (t.n - b) h0 hl hy
        rw [← hw] at hnum
        refine Ev.t ?_ (hnum.bind ((Ev.pure _).eq ?_))
        · show (((t.op == 4) && (t.hd == 1)) && decide (IntKind.i64.wrap (t.n - (b : Int)) ≥ 0)) = true
          rw [h4.1, h4.2.1, hw, decide_eq_true (by omega)]; rfl
        · show Tm.mk t.op t.hd (IntKind.i64.wrap (rho fixed l (IntKind.i64.wrap (t.n - (b : Int))) + b)) [] = _
          rw [hw, wrap_i64 (by omega) (by omega)]
      · rw [if_neg h4]
        refine Ev.f ?_ (Ev.pure _)
        show (((t.op == 4) && (t.hd == 1)) && decide (IntKind.i64.wrap (t.n - (b : Int)) ≥ 0)) = false
        rw [hw]
        simp only [Bool.and_eq_false_iff, beq_eq_false_iff_ne, decide_eq_false_iff_not]
        by_cases c1 : t.op = 4
        · by_cases c2 : t.hd = 1
          · exact .inr (fun c3 => h4 ⟨c1, c2, by omega⟩)
          · exact .inl (.inr c2)
        · exact .inl (.inl c1)
    have loop : ∀ (o h n : Int) (ts : List Tm) (i : Nat) (acc : List Tm), t.args.drop i = ts → i + ts.length = t.args.length → acc.length = i → Ev (fun q => term_Map_mode_Strict_2_L1 q t (b : Int) fixed l (Tm.mk o h n acc) (i : Int)) (Tm.mk o h n (acc ++ renL (rho fixed l) t.op ts i b)) := by
      intro o h n ts
      induction ts with
      | nil =>
        intro i acc hd hi ha
        simp only [List.length_nil, Nat.add_zero] at hi
        exact Ev.succ (fun q => term_Map_mode_Strict_2_L1.eq_2 ..) (Ev.f (by rw [Tm.encL_length]; simp; omega) ((Ev.pure _).eq (by simp [renL])))
      | cons x ts ihl =>
        intro i acc hd hi ha
        simp only [List.length_cons] at hi
        have hx := getDrop hd
        have hxm := List.mem_of_getElem? hx
        have hxh := Tm.height_le hxm
        have hu := under_le t.op i
        obtain ⟨u, hu'⟩ : ∃ u : Nat, under t.op (i : Int) = (u : Int) := ⟨(under t.op i).toNat, by omega⟩
        have e := ih x hxm (b + u) (pr_arg hp hxm) (by omega) (by
          intro y hy
          refine hf y ?_
          rw [fvF_eq, List.mem_append]
          refine .inr (fvL_mem y t.op t.args 0 b i x hx ?_)
          rw [Nat.zero_add, hu']
          exact hy)
        refine Ev.succ (fun q => term_Map_mode_Strict_2_L1.eq_2 ..) (Ev.t (by rw [Tm.encL_length]; simp; omega) (Ev.some (idx_get hx) ((under_ev t i).bind ?_)))
        rw [hu', wrap_i64 (n := (b : Int) + u) (by omega) (by omega)]
        refine e.bind (Ev.need ?_ ?_)
        · rw [Tm.encL_length]
          simp only [Tm.args, List.length_append, List.length_cons, List.length_nil]
          exact decide_eq_true (by omega)
        · rw [wrapS (by omega)]
          have := ihl (i + 1) (acc ++ [renF (rho fixed l) x ((b + u : Nat) : Int)]) (dropDrop hd) (by omega) (by simp; omega)
          refine this.eq ?_
          simp only [renL, hu', List.append_assoc, List.cons_append, List.nil_append]
          rfl
    refine Ev.succ (fun q => term_Map_mode_Strict_2.eq_2 ..) (node.bind ?_)
    have := loop t.op t.hd (if t.op = 4 ∧ t.hd = 1 ∧ t.n ≥ b then rho fixed l (t.n - b) + b else t.n) t.args 0 [] rfl (by simp) rfl
    refine this.eq ?_
    cases t; rfl

mutual
theorem fv_ren {ρ : Int → Int} (hρ : ∀ v, 0 ≤ v → 0 ≤ ρ v ∧ ρ v ≤ 5000) : ∀ (t : Tm) (b : Int), 0 ≤ b → fvF (renF ρ t b) b = (fvF t b).map ρ
  | .mk o h n us, b, hb => by
    simp only [renF, fvF, List.map_append]
    rw [fv_renL hρ o us 0 b hb]
    congr 1
    by_cases h1 : o = 4 ∧ h = 1 ∧ n ≥ b
    · have := hρ (n - b) (by omega)
      rw [show (if o = 4 ∧ h = 1 ∧ n ≥ b then ρ (n - b) + b else n) = ρ (n - b) + b from if_pos h1, if_pos ⟨h1.1, h1.2.1, by omega⟩, if_pos h1]
      simp
    · rw [show (if o = 4 ∧ h = 1 ∧ n ≥ b then ρ (n - b) + b else n) = n from if_neg h1, if_neg h1]; rfl
theorem fv_renL {ρ : Int → Int} (hρ : ∀ v, 0 ≤ v → 0 ≤ ρ v ∧ ρ v ≤ 5000) : ∀ (o : Int) (us : List Tm) (i : Nat) (b : Int), 0 ≤ b → fvL o (renL ρ o us i b) i b = (fvL o us i b).map ρ
  | _, [], _, _, _ => rfl
  | o, u :: us, i, b, hb => by
    have hu := under_le o i
    simp only [renL, fvL, List.map_append]
    rw [fv_ren hρ u _ (by omega), fv_renL hρ o us (i + 1) b hb]
 end
mutual
theorem fv_bound : ∀ (t : Tm) (b : Int), okAll t = true → 0 ≤ b → ∀ x ∈ fvF t b, 0 ≤ x ∧ x ≤ 9999
  | .mk o h n us, b, hok, hb, x, hx => by
    have hn := okAll_n hok
    simp only [Tm.n] at hn
    simp only [okAll, Bool.and_eq_true] at hok
    simp only [fvF, List.mem_append] at hx
    rcases hx with hx | hx
    · split at hx
      · rw [List.mem_singleton] at hx; omega
      · cases hx
    · exact fv_boundL o us 0 b hok.2 hb x hx
theorem fv_boundL : ∀ (o : Int) (us : List Tm) (i : Nat) (b : Int), okAllL us = true → 0 ≤ b → ∀ x ∈ fvL o us i b, 0 ≤ x ∧ x ≤ 9999
  | _, [], _, _, _, _, x, hx => by cases hx
  | o, u :: us, i, b, hok, hb, x, hx => by
    have hu := under_le o i
    simp only [okAllL, Bool.and_eq_true] at hok
    simp only [fvL, List.mem_append] at hx
    rcases hx with hx | hx
    · exact fv_bound u _ hok.1 (by omega) x hx
    · exact fv_boundL o us (i + 1) b hok.2 hb x hx
 end

theorem freeL_mem {t : Tm} (hp : Pr t) (x : Int) : x ∈ freeL t ↔ x ∈ fvF t 0 := by
  obtain ⟨hok, hh, _⟩ := proper_small hp
  rw [freeL, if_pos hp, numsOf, sorted_mem, walk_mem x t 0 [] hok (by omega) (by omega)]
  simp
theorem freeL_len {t : Tm} (hp : Pr t) : (freeL t).length ≤ 600 := by
  have h1 := walkF_length freeOf t [] 0
  have h2 := (proper_small hp).2.2
  rw [freeL, if_pos hp]
  simp only [numsOf, sorted, List.length_mergeSort, List.length_map]
  simp only [List.length_nil] at h1
  omega

/-! what Strict returns -/
abbrev openF (fixed : Int) : Int → Bool := fun v => decide (v ≥ fixed)
def strictL (t : Tm) (fixed : Int) : List Int := ddp (sorted (strF (openF fixed) t 0))

def fillS (n : Nat) (fixed : Int) (k : Nat) : List Bool := (List.range n).map (fun j => if j < k then decide ((n : Int) - 1 - (j : Int) ≥ fixed) else false)
theorem fillS_len (n : Nat) (fixed : Int) (k : Nat) : (fillS n fixed k).length = n := by simp [fillS]
theorem fillS_0 (n : Nat) (fixed : Int) : fillS n fixed 0 = List.replicate n false := by
  apply List.ext_getElem
  · simp [fillS]
  · intro i h1 h2; simp [fillS]
theorem fillS_set (n : Nat) (fixed : Int) (k : Nat) (hk : k < n) : (fillS n fixed k).set k (decide ((n : Int) - 1 - (k : Int) ≥ fixed)) = fillS n fixed (k + 1) := by
  apply List.ext_getElem
  · simp [fillS]
  · intro i h1 h2
    rw [List.getElem_set]
    simp only [fillS, List.getElem_map, List.getElem_range]
    by_cases e : k = i
    · subst e; rw [if_pos rfl, if_pos (by omega)]
    · rw [if_neg e]
      by_cases h : i < k
      · rw [if_pos h, if_pos (by omega)]
      · rw [if_neg h, if_neg (by omega)]
theorem fillS_lv (n : Nat) (fixed : Int) : Lv (fillS n fixed n) (openF fixed) := by
  intro v h0 h1
  rw [fillS_len] at h1 ⊢
  obtain ⟨j, hj⟩ : ∃ j : Nat, (n : Int) - 1 - v = (j : Int) := ⟨((n : Int) - 1 - v).toNat, by omega⟩
  rw [hj, idx_nat]
  simp only [fillS, List.getElem?_map]
  rw [List.getElem?_range (by omega)]
  simp only [Option.map_some, Option.some.injEq]
  rw [if_pos (by omega), show (n : Int) - 1 - (j : Int) = v by omega]
end Go.Proofs.YtogicnodmgdnbaaGreat
end

/-! StD -/
section
namespace Go.Proofs.YtogicnodmgdnbaaGreat
open Go.Tr Go
set_option linter.unusedVariables false
set_option linter.unusedSimpArgs false
set_option maxRecDepth 10000

theorem strict_ev (t : Tm) (fixed : Int) : Ev (fun q => mode_Strict q t fixed) (if isProper t = true ∧ 0 ≤ fixed ∧ fixed ≤ 30 then (strictL t fixed, 0) else ([], 2)) := by
  by_cases hc : isProper t = true ∧ 0 ≤ fixed ∧ fixed ≤ 30
  case neg =>
    rw [if_neg hc]
    refine Ev.succ (fun q => mode_Strict.eq_2 ..) (Ev.t ?_ (Ev.pure _))
    by_cases hp : isProper t = true
    · rw [if_pos hp]
      simp only [Bool.or_eq_true, decide_eq_true_eq, bne_iff_ne]
      by_cases h0 : 0 ≤ fixed
      · exact .inr (by have : ¬ fixed ≤ 30 := fun h => hc ⟨hp, h0, h⟩; omega)
      · exact .inl (.inr (by omega))
    · rw [if_neg hp]; rfl
  case pos =>
    rw [if_pos hc]
    obtain ⟨hp, hf0, hf1⟩ := hc
    obtain ⟨f, rfl⟩ : ∃ f : Nat, fixed = (f : Int) := ⟨fixed.toNat, by omega⟩
    obtain ⟨hok, hh, hcn⟩ := proper_small hp
    have hl := freeL_len hp
    have hfm := freeL_mem hp
    have hw : IntKind.i64.wrap ((f : Int) + ((List.map (D.int .i64) (freeL t)).length : Int)) = ((f + (freeL t).length : Nat) : Int) := by
      rw [List.length_map, wrap_i64 (by omega) (by omega)]; omega
    have hρ := rho_bound (fixed := (f : Int)) (l := freeL t) hf0 hf1 hl
    have hV := str_ren hρ (P := (· ∈ freeL t)) (opn := openF f) (opn' := openF f) (fun x y hx hy h => rho_inj x y hx hy h) (fun x hx => rho_open x hx) t 0 (by omega) (fun x hx => (hfm x).2 hx)
    have hVl := str_lengths (openF f) t 0
    have hVm : ∀ v ∈ strF (openF f) t 0, v ∈ freeL t ∧ v ≥ (f : Int) := by
      intro v hv
      obtain ⟨h1, h2⟩ := str_fv t 0 v hv
      exact ⟨(hfm v).2 h1, of_decide_eq_true h2⟩
    have hsm : Pr (renF (rho (f : Int) (freeL t)) t 0) := by
      rw [Pr, isProper_iff, ren_count, ren_height]
      exact ⟨ren_ok hρ t 0 (by omega) (by omega) hok, hcn, hh⟩
    generalize hN : f + (freeL t).length = N at hw
    have hfv : ∀ y ∈ fvF (renF (rho (f : Int) (freeL t)) t 0) 0, y < (N : Int) := by
      intro y hy
      rw [fv_ren hρ t 0 (by omega), List.mem_map] at hy
      obtain ⟨x, hx, rfl⟩ := hy
      have hx' := (hfm x).2 hx
      by_cases h : x ≥ (f : Int)
      · obtain ⟨k, e, hk⟩ := rho_mem hx' h
        have := (List.getElem?_eq_some_iff.1 hk).1
        omega
      · unfold rho; rw [if_pos (by omega)]; omega
    have hmap := map_ev (fixed := (f : Int)) (l := freeL t) ⟨hf0, hf1⟩ hl t 0 hp (by omega) (fun y hy => (hfm y).2 hy)
    have hsc := scopeStrict_ev (fillS_lv N f) (by rw [fillS_len]; omega) hsm (by rw [fillS_len]; exact hfv)
    rw [hV, List.map_map] at hsc
    generalize hVV : strF (openF f) t 0 = V at hV hVl hVm hsc
    have L2 : ∀ (ts pre : List Int), pre ++ ts = V → Ev (fun q => mode_Strict_L2 q (V.map (lvl (fillS N f N) ∘ rho (f : Int) (freeL t))) t (f : Int) pre (pre.length : Int)) (strictL t f, 0) := by
      intro ts
      induction ts with
      | nil =>
        intro pre h
        rw [List.append_nil] at h
        subst h
        refine Ev.succ (fun q => mode_Strict_L2.eq_2 ..) (Ev.f (by simp) (Ev.need (by rw [List.length_map]; exact decide_eq_true (by omega)) (Ev.need ?_ ((Ev.pure _).eq ?_))))
        · simp only [sorted, List.length_mergeSort]; exact decide_eq_true (by omega)
        · rw [compact_ddp, strictL, hVV]
      | cons v ts ih =>
        intro pre h
        have hpl : pre.length + ts.length + 1 = V.length := by rw [← h]; simp; omega
        obtain ⟨hv1, hv2⟩ := hVm v (by rw [← h]; simp)
        obtain ⟨k, e, hk⟩ := rho_mem hv1 hv2
        have hkl := (List.getElem?_eq_some_iff.1 hk).1
        have hg : idx (V.map (lvl (fillS N f N) ∘ rho (f : Int) (freeL t))) (pre.length : Int) = some ((N : Int) - 1 - ((f : Int) + k)) := by
          rw [idx_nat, List.getElem?_map, ← h, List.getElem?_append_right (Nat.le_refl _), Nat.sub_self]
          simp only [List.getElem?_cons_zero, Option.map_some, Function.comp, lvl, fillS_len, e]
        have hrec := ih (pre ++ [v]) (by rw [List.append_assoc]; exact h)
        refine Ev.succ (fun q => mode_Strict_L2.eq_2 ..) (Ev.t ?_ (Ev.some hg ?_))
        · rw [List.length_map, List.length_map]; exact decide_eq_true (by omega)
        · rw [hw, wrap_i64 (n := (N : Int) - 1) (by omega) (by omega), wrap_i64 (n := (N : Int) - 1 - ((N : Int) - 1 - ((f : Int) + k))) (by omega) (by omega), show (N : Int) - 1 - ((N : Int) - 1 - ((f : Int) + k)) - (f : Int) = (k : Int) by omega, wrap_i64 (n := (k : Int)) (by omega) (by omega)]
          refine Ev.some (idx_get hk) (Ev.need ?_ ?_)
          · rw [List.length_map, List.length_append]; simp; omega
          · rw [wrapS (by omega)]
            have e4 : pre.length + 1 = (pre ++ [v]).length := by simp
            rw [e4]
            exact hrec
    have L1 : ∀ (m k : Nat), k + m = N → Ev (fun q => mode_Strict_L1 q (f : Int) t (renF (rho (f : Int) (freeL t)) t 0) (fillS N f k) (k : Int)) (strictL t f, 0) := by
      intro m
      induction m with
      | zero =>
        intro k hk
        rw [Nat.add_zero] at hk
        subst hk
        refine Ev.succ (fun q => mode_Strict_L1.eq_2 ..) (Ev.f ?_ (hsc.bind (L2 V [] rfl)))
        rw [hw, Int.toNat_natCast, List.length_map, List.length_replicate]
        exact decide_eq_false (by omega)
      | succ m ih =>
        intro k hk
        refine Ev.succ (fun q => mode_Strict_L1.eq_2 ..) (Ev.t ?_ (Ev.need ?_ ?_))
        · rw [hw, Int.toNat_natCast, List.length_map, List.length_replicate]
          exact decide_eq_true (by omega)
        · rw [List.length_map, fillS_len, Int.toNat_natCast]; exact decide_eq_true ⟨by omega, by omega⟩
        · rw [hw, wrap_i64 (n := (N : Int) - 1) (by omega) (by omega), wrap_i64 (n := (N : Int) - 1 - k) (by omega) (by omega), Int.toNat_natCast, fillS_set N f k (by omega), wrapS (by omega)]
          exact ih (k + 1) (by omega)
    refine Ev.succ (fun q => mode_Strict.eq_2 ..) (Ev.f ?_ ?_)
    · rw [if_pos hp]
      rw [decide_eq_false (by omega), decide_eq_false (by omega)]; rfl
    · rw [hw]
      refine Ev.need (decide_eq_true ⟨by omega, by omega⟩) (hmap.bind ?_)
      rw [Int.toNat_natCast, ← fillS_0 N f]
      exact L1 N 0 (by omega)

theorem strictL_mem {t : Tm} {fixed : Int} (x : Int) : x ∈ strictL t fixed ↔ x ∈ strF (openF fixed) t 0 := by
  rw [strictL, ddp_mem, sorted_mem]
theorem strictL_lt (t : Tm) (fixed : Int) : (strictL t fixed).Pairwise (· < ·) := ddp_lt (sorted_le _)
theorem ddpA_len : ∀ (l : List Int) (x : Int), (ddpA x l).length ≤ l.length
  | [], x => by simp [ddpA]
  | y :: l, x => by
    simp only [ddpA]
    split
    · have := ddpA_len l x; simp; omega
    · have := ddpA_len l y; simp; omega
theorem strictL_len {t : Tm} (hp : Pr t) (fixed : Int) : (strictL t fixed).length ≤ 600 := by
  have h1 := str_lengths (openF fixed) t 0
  have h2 := (proper_small hp).2.2
  have h3 : ∀ l : List Int, (ddp l).length ≤ l.length := by
    intro l
    cases l with
    | nil => simp [ddp]
    | cons x l => have := ddpA_len l x; simp [ddp]; omega
  have h4 := h3 (sorted (strF (openF fixed) t 0))
  rw [strictL]
  simp only [sorted, List.length_mergeSort] at h4 ⊢
  omega

theorem modeFree_ev (t : Tm) (fixed : Int) : Ev (fun k => W14_ModeFree k t fixed) true := by
  refine Ev.succ (fun k => W14_ModeFree.eq_2 ..) ((strict_ev t fixed).bind ?_)
  by_cases hc : isProper t = true ∧ 0 ≤ fixed ∧ fixed ≤ 30
  case neg =>
    rw [if_neg hc]
    exact Ev.t rfl (Ev.t rfl (awake14_ev.bind (Ev.pure _)))
  case pos =>
    rw [if_pos hc]
    obtain ⟨hp, hf0, hf1⟩ := hc
    obtain ⟨hok, hh, hcn⟩ := proper_small hp
    have hm : ∀ x ∈ strictL t fixed, 0 ≤ x ∧ x ≤ 9999 ∧ lowF t x x = true ∧ x ≥ fixed := by
      intro x hx
      obtain ⟨h1, h2⟩ := str_fv t 0 x ((strictL_mem x).1 hx)
      have hb := fv_bound t 0 hok (by omega) x h1
      have h3 := low_fv x t 0 hok (by omega) hb.1
      rw [Int.add_zero] at h3
      exact ⟨hb.1, hb.2, h3.2 h1, of_decide_eq_true h2⟩
    have hlt := strictL_lt t fixed
    have hlen := strictL_len hp fixed
    generalize strictL t fixed = L at hm hlt hlen ⊢
    have loop : ∀ (m i : Nat), i + m = L.length → Ev (fun k => W14_ModeFree_L1 k (L, 0) t fixed (i : Int)) true := by
      intro m
      induction m with
      | zero =>
        intro i hi
        exact Ev.succ (fun k => W14_ModeFree_L1.eq_2 ..) (Ev.f (by rw [List.length_map]; exact decide_eq_false (by simp only; omega)) (awake14_ev.bind (Ev.pure _)))
      | succ m ih =>
        intro i hi
        obtain ⟨x, hx, hxm, hx'⟩ := idxOf (l := L) (i := i) (by omega)
        obtain ⟨h1, h2, h3, h4⟩ := hm x hxm
        have hoc := refOccursX_ev (t := t) hp (x := x) h1 (by omega)
        rw [h3] at hoc
        have hrec := ih (i + 1) (by omega)
        refine Ev.succ (fun k => W14_ModeFree_L1.eq_2 ..) (Ev.t (by rw [List.length_map]; exact decide_eq_true (by simp only; omega)) (Ev.some hx (hoc.bind (Ev.f rfl (Ev.some hx (Ev.f (decide_eq_false (by omega)) ?_))))))
        rw [wrapS (by omega)]
        refine Ev.ite (fun h => ?_) (fun _ => hrec)
        have hi0 : 0 < i := by simpa using h
        obtain ⟨y, hy, _, hy'⟩ := idxOf (l := L) (i := i - 1) (by omega)
        have hwi : IntKind.i64.wrap ((i : Int) - 1) = ((i - 1 : Nat) : Int) := by
          rw [wrap_i64 (by omega) (by omega)]; omega
        have hlt' : y < x := by
          obtain ⟨p1, e1⟩ := List.getElem?_eq_some_iff.1 hy'
          obtain ⟨p2, e2⟩ := List.getElem?_eq_some_iff.1 hx'
          have := List.pairwise_iff_getElem.1 hlt (i - 1) i p1 p2 (by omega)
          rw [e1, e2] at this
          exact this
        rw [hwi]
        exact Ev.some hy (Ev.some hx (Ev.f (decide_eq_false (by omega)) hrec))
    exact Ev.f rfl (loop L.length 0 (by simp))
end Go.Proofs.YtogicnodmgdnbaaGreat
end

/-! RowMF -/
section
namespace Go.Proofs.YtogicnodmgdnbaaGreat
open Go.Tr Go
open Go.ChangeShapes Go.WideShapes Go.ChangeAt Go.RowKit
set_option maxRecDepth 10000

theorem modeFree_spec (t : Tm) (f : Int) (a2 : Option Addr) (c2 : Nat) :
    Pure Tryz.prog (fnS 6) [tmS t a2 c2, iS f] [tmR t a2 c2] (fun r out => r = bS true ∧ out = []) := by
  obtain ⟨N, h⟩ := modeFree_ev t f
  exact W14_ModeFree_spec N t f a2 c2 _ (h N (Nat.le_refl _))

set_option maxRecDepth 100000 in
theorem modeFree_lifted (os : Os) (started : os.Started) (H : Type) (enc : TypeId × Value → H) :
    ReturnsInHanded {} Tryz.checked os 6 .any (Rows.modeFreeSpec.pre6 enc Tryz.prog Tryz.f6 Rows.modeFreeRow.domain false) (Rows.modeFreeSpec.post enc Tryz.prog Tryz.f6 false true false false) := by
  refine returnsInHanded_of_change_sized (C := Tryz.checked) own started (by kernel_rfl) Tryz.func6
    (ChangeSpec.witness6 (enc := enc) (C := Tryz.checked) false ⟨#[], #[.agg #[.int .i64 0, .int .i64 0, .int .i64 0, .slice none 0 0], .int .i64 0], []⟩ 8 (by kernel_rfl) (by kernel_rfl) (by kernel_rfl) (by kernel_rfl)) ?_
  intro W base args ds gs before hval hW _ hsz _
  have hW' := hW
  obtain ⟨p, q, hA0, hV, rfl, _, _⟩ := hW
  have hA : DataW.TrodAll enc Tryz.prog W 0 (fun _ => true) true Tryz.f6.params.toList args.toList ds p := hA0
  rw [Tryz.params6] at hA hval
  have hsz : (DataW.weightsEach Tryz.prog ([47, 3] ++ []) (ds ++ gs)).all (· ≤ reachBytes) = true := by
    have := hsz
    rw [Tryz.params6] at this
    exact this
  obtain ⟨v0, vs0, d0, ds0, p0, q0, ha0, rfl, rfl, h0, r0⟩ := trodAll_cons hA
  obtain ⟨v1, vs1, d1, ds1, p1, q1, rfl, rfl, rfl, h1, r1⟩ := trodAll_cons r0
  obtain ⟨rfl, rfl, rfl⟩ := trodAll_nil r1
  obtain ⟨rfl, rfl⟩ := trodVars_none hV
  obtain rfl : args = #[v0, v1] := by rw [← Array.toList_inj, ha0]
  have hw := all_le hsz
  simp only [List.append_nil, DataW.weightsEach, List.mem_append] at hw
  obtain ⟨t, a2, c2, rfl, e2⟩ := arg_Tm (hval 0 _ _ rfl rfl) h0 (fun y hy => hw y (.inl hy))
  obtain ⟨f, rfl, _⟩ := arg_int (hval 1 _ _ rfl rfl) h1
  refine ((modeFree_spec t f a2 c2).calls Tryz.call6 (W := W) ?_).mono ?_
  · intro r hr
    simp only [List.mem_cons, List.not_mem_nil, or_false] at hr
    subst hr
    exact e2
  rintro e W' ⟨r, out, rfl, ⟨rfl, rfl⟩, hx⟩
  refine ⟨_, rfl, post_true kids full hW' rfl ?_ ?_ (by kernel_rfl) Tryz.underlying4 hx⟩
  · rw [Tryz.params6]
    decide +kernel
  · intro ds hl
    rw [Tryz.params6] at hl
    match ds, hl with
    | [_, _], _ => rfl

theorem modeFree_holds : Rows.ModeFreeSaid :=
  OpenClaim.holds_of_wide 6 Tryz.f6 rfl rfl rfl rfl rfl rfl rfl ⟨rfl, rfl, rfl, rfl, rfl⟩ rfl rfl rfl rfl rfl (by kernel_rfl) Tryz.func6 (by kernel_rfl)
    (of_decide_eq_true (by kernel_rfl)) (by unfold Func.isWrapper; first | (rw [if_pos (by decide +kernel)]; kernel_rfl) | (rw [if_neg (by decide +kernel)]; exact ⟨rfl, rfl⟩))
    (fun os started H enc _ => modeFree_lifted os started H enc)
#print axioms modeFree_holds
end Go.Proofs.YtogicnodmgdnbaaGreat
end
