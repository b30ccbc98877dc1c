/- Merged texts: MiB MiC MiD MiE RowLaid RowMI CardMI. Plain law: which modes are right; Item by mode and by trussref14. No program in sight. Plain law: Item by mode and by trussref14, and what is the same. No program in sight. Plain law: ModeItems answers true at every signature, modes and int whose lists are not too long. No program in sight. Plain law: ModeItems answers true at every signature, modes and int whose lists are not too long. No program in sight. A start at which the listed tables read as their initialisers lay them. No condition. ModeItems answers true at every input, and its arguments read as they did. No condition. ModeItems: the card: the row, its listed tables tied to the program's text by the given tie. No condition. -/
import Derived.Test.YtogicnodmgdnbaaGreatDoorQM
import Derived.JoinedAt
import Derived.LaidLaws
import Derived.Deep.DeepLaidRun
import Derived.Test.YtogicnodmgdnbaaGreatDoorCards
import Derived.Test.YtogicnodmgdnbaaGreatDoorTie
import Derived.SevenTiedAt
/-! MiB -/
section
namespace Go.Proofs.YtogicnodmgdnbaaGreatDoor
open Go.Tr Go
set_option linter.unusedVariables false
set_option linter.unusedSimpArgs false
set_option maxRecDepth 10000

theorem idx_bounds {α : Type} {l : List α} {n : Int} {x : α} (h : idx l n = some x) : 0 ≤ n ∧ n < (l.length : Int) := by
  obtain ⟨h0, h1⟩ := idx_some h
  have := (List.getElem?_eq_some_iff.1 h1).1
  omega
theorem idx_no {α : Type} {l : List α} {n : Int} (h : idx l n = none) : n < 0 ∨ n ≥ (l.length : Int) := by
  rcases Int.lt_or_le n 0 with h0 | h0
  · exact .inl h0
  · right
    have e : idx l n = l[n.toNat]? := by
      have := idx_nat l n.toNat
      rwa [show ((n.toNat : Nat) : Int) = n by omega] at this
    rw [e, List.getElem?_eq_none_iff] at h
    omega

def signsB (l : List Int) : Bool := l.all (fun s => decide (1 ≤ s ∧ s ≤ 3))
theorem signsB_is3 {l : List Int} (h : signsB l = true) : ∀ s ∈ l, is3 s := by
  intro s hs
  have := List.all_eq_true.1 h s hs
  simp only [decide_eq_true_eq] at this
  unfold is3; omega
/-- Which modes are right. -/
def rightB (sig : List Dc) (m : Md) : Bool := match idx sig m.family with
  | none => false
  | some d => kindT d.cls && (decide ((split d.cls).1.length = m.signs.length) && signsB m.signs)

theorem rightB_some {sig : List Dc} {m : Md} {d : Dc} (hd : idx sig m.family = some d) : rightB sig m = (kindT d.cls && (decide ((split d.cls).1.length = m.signs.length) && signsB m.signs)) := by
  unfold rightB; rw [hd]
theorem rightB_none {sig : List Dc} {m : Md} (hd : idx sig m.family = none) : rightB sig m = false := by
  unfold rightB; rw [hd]
theorem rightB_yes {sig : List Dc} {m : Md} (h : rightB sig m = true) : ∃ d, idx sig m.family = some d ∧ kindT d.cls = true ∧ (split d.cls).1.length = m.signs.length ∧ ∀ s ∈ m.signs, is3 s := by
  cases hd : idx sig m.family with
  | none => rw [rightB_none hd] at h; cases h
  | some d =>
    rw [rightB_some hd, Bool.and_eq_true, Bool.and_eq_true, decide_eq_true_eq] at h
    exact ⟨d, rfl, h.1, h.2.1, signsB_is3 h.2.2⟩

theorem indexBad_y (l : List Int) (hl : l.length ≤ 1000000) : ∀ (ts : List Int) (i : Nat), l.drop i = ts → i + ts.length = l.length → Yields (fun n => slices_IndexFunc_mode_isMode_1_L1 n l (i : Int)) (fun r => decide (r ≥ 0) = !signsB ts) := by
  intro ts
  induction ts with
  | nil =>
    intro i hd hi
    simp only [List.length_nil, Nat.add_zero] at hi
    refine Yields.succ (fun k => slices_IndexFunc_mode_isMode_1_L1.eq_2 ..) ?_
    refine Yields.ite (fun h => ?_) (fun _ => Yields.pure (by simp [signsB]))
    simp at h; omega
  | cons u ts ih =>
    intro i hd hi
    simp only [List.length_cons] at hi
    refine Yields.succ (fun k => slices_IndexFunc_mode_isMode_1_L1.eq_2 ..) ?_
    refine Yields.ite (fun _ => ?_) (fun h => ?_)
    · refine Yields.some (idx_get (getDrop hd)) ?_
      refine Yields.bind (Ev.is (Ev.succ (fun k => mode_isMode_1.eq_2 ..) (Ev.pure _))) (fun b hb => ?_)
      subst hb
      refine Yields.ite (fun h => Yields.pure ?_) (fun h => ?_)
      · have : signsB (u :: ts) = false := by
          simp only [signsB, List.all_cons, Bool.and_eq_false_iff]
          left
          simp at h ⊢; omega
        rw [this]; simp
      · rw [wrapS (by omega)]
        refine Yields.mono (ih (i + 1) (dropDrop hd) (by omega)) (fun r hr => ?_)
        have : signsB (u :: ts) = signsB ts := by
          simp only [signsB, List.all_cons]
          rw [decide_eq_true (by simp at h; omega), Bool.true_and]
        rw [this]; exact hr
    · exfalso; simp at h; omega

theorem isMode_ev {sig : List Dc} (hs : sigOK sig = true) (m : Md) : Ev (fun k => mode_isMode k sig m) (rightB sig m) := by
  obtain ⟨hsl, hpr⟩ := sigOK_proper hs
  refine Ev.succ (fun k => mode_isMode.eq_2 ..) ?_
  cases hd : idx sig m.family with
  | none =>
    rw [rightB_none hd]
    refine Ev.t ?_ (Ev.pure _)
    rcases idx_no hd with h | h
    · rw [decide_eq_true h]; rfl
    · rw [Dc.encL_length, decide_eq_true h, Bool.or_true]
  | some d =>
    rw [rightB_some hd]
    obtain ⟨h0, h1⟩ := idx_bounds hd
    have hp : Pr d.cls := hpr d (List.mem_of_getElem? (idx_some hd).2)
    obtain ⟨hok, hh, hc⟩ := proper_small hp
    have hsf := (split_facts hp).2.2.2.2
    have hfa := signFamily_ev hd hok (by omega)
    refine Ev.f (by rw [Dc.encL_length]; simp; omega) (hfa.bind ?_)
    cases hk : kindT d.cls with
    | false => exact Ev.t rfl ((Ev.pure _).eq (by simp))
    | true =>
      refine Ev.f rfl (Ev.some (x := d) rfl ((domains_ev hok (by omega)).bind ?_))
      by_cases hl : (split d.cls).1.length = m.signs.length
      · refine Ev.t (by rw [Tm.encL_length]; simp; omega) ?_
        rw [decide_eq_true hl]
        obtain ⟨r, r1, r2⟩ := indexBad_y m.signs (by omega) m.signs 0 rfl (by simp)
        refine Ev.bind (x := decide (r ≥ 0)) ?_ ((Ev.pure _).eq (by rw [r2]; simp))
        refine Ev.succ (fun k => slices_ContainsFunc_mode_isMode_1.eq_2 ..) (Ev.bind (x := r) ?_ (Ev.pure _))
        exact Ev.succ (fun k => slices_IndexFunc_mode_isMode_1.eq_2 ..) r1
      · refine Ev.f (by rw [Tm.encL_length]; simp; omega) ((Ev.pure _).eq ?_)
        rw [decide_eq_false hl]; simp

theorem rightL_ev (m : Md) (hl : m.signs.length ≤ 1000000) : ∀ (ts : List Int) (i : Nat), m.signs.drop i = ts → i + ts.length = m.signs.length → Ev (fun k => R14_Right_L1 k m (i : Int)) (signsB ts) := by
  intro ts
  induction ts with
  | nil =>
    intro i hd hi
    simp only [List.length_nil, Nat.add_zero] at hi
    exact Ev.succ (fun k => R14_Right_L1.eq_2 ..) (Ev.f (by simp; omega) (Ev.pure _))
  | cons u ts ih =>
    intro i hd hi
    simp only [List.length_cons] at hi
    have hu := idx_get (getDrop hd)
    refine Ev.succ (fun k => R14_Right_L1.eq_2 ..) (Ev.t (by simp; omega) (Ev.some hu ?_))
    have e : signsB (u :: ts) = (decide (1 ≤ u ∧ u ≤ 3) && signsB ts) := rfl
    rw [e]
    refine Ev.ite (fun h => ?_) (fun h => Ev.some hu ?_)
    · rw [decide_eq_false (by simp at h; omega)]; exact Ev.pure _
    · refine Ev.ite (fun h' => ?_) (fun h' => ?_)
      · rw [decide_eq_false (by simp at h'; omega)]; exact Ev.pure _
      · rw [decide_eq_true (by simp at h h'; omega), Bool.true_and, wrapS (by omega)]
        exact ih (i + 1) (dropDrop hd) (by omega)

theorem right_ev {sig : List Dc} (hs : sigOK sig = true) (m : Md) : Ev (fun k => R14_Right k sig m) (rightB sig m) := by
  obtain ⟨hsl, hpr⟩ := sigOK_proper hs
  refine Ev.succ (fun k => R14_Right.eq_2 ..) ((has_ev sig m.family).bind ?_)
  cases hd : idx sig m.family with
  | none =>
    rw [rightB_none hd]
    refine Ev.t ?_ (Ev.pure _)
    rcases idx_no hd with h | h
    · rw [decide_eq_false (by omega)]; rfl
    · rw [decide_eq_false (p := m.family < _) (by omega), Bool.and_false]; rfl
  | some d =>
    rw [rightB_some hd]
    obtain ⟨h0, h1⟩ := idx_bounds hd
    have hp : Pr d.cls := hpr d (List.mem_of_getElem? (idx_some hd).2)
    obtain ⟨hok, hh, hc⟩ := proper_small hp
    have hsf := (split_facts hp).2.2.2.2
    have hfb := isFamily_ev hd hok (by omega)
    refine Ev.f (by rw [decide_eq_true h0, decide_eq_true h1]; rfl) (hfb.bind ?_)
    cases hk : kindT d.cls with
    | false => exact Ev.t rfl ((Ev.pure _).eq (by simp))
    | true =>
      obtain ⟨dep, dp1, dp2⟩ := dependent_y hp
      refine Ev.f rfl (Ev.some (x := d) rfl (dp1.bind ?_))
      by_cases hl : (split d.cls).1.length = m.signs.length
      · refine Ev.f (by simp; omega) ?_
        rw [decide_eq_true hl]
        exact (rightL_ev m (by omega) m.signs 0 rfl (by simp)).eq (by simp)
      · refine Ev.t (by simp; omega) ((Ev.pure _).eq ?_)
        rw [decide_eq_false hl]; simp

/-! digits -/
theorem digits_ev (n : Nat) (h : n ≤ 98) : Ev (fun k => R14_digits k (n : Int)) (itoaF (n : Int)) := by
  have low : ∀ n : Nat, n < 10 → Ev (fun k => R14_digits k (n : Int)) (itoaF (n : Int)) := by
    intro n hn
    have key : ∀ k : Fin 10, (⟨#[48, 49, 50, 51, 52, 53, 54, 55, 56, 57]⟩ : ByteArray).extract k.val (k.val + 1) = itoaF (k.val : Int) := by decide +kernel
    have hs : (⟨#[48, 49, 50, 51, 52, 53, 54, 55, 56, 57]⟩ : ByteArray).size = 10 := rfl
    refine Ev.succ (fun k => R14_digits.eq_2 ..) ?_
    rw [wrapS (by omega)]
    refine Ev.t (by simp; omega) (Ev.need (by rw [hs]; simp; omega) ((Ev.pure _).eq ?_))
    exact key ⟨n, hn⟩
  by_cases hn : n < 10
  · exact low n hn
  · have key : ∀ k : Fin 99, 10 ≤ k.val → itoaF ((k.val / 10 : Nat) : Int) ++ itoaF ((k.val % 10 : Nat) : Int) = itoaF (k.val : Int) := by decide +kernel
    have e1 : IntKind.i64.wrap (Int.tdiv (n : Int) 10) = ((n / 10 : Nat) : Int) := by
      rw [show Int.tdiv (n : Int) 10 = ((n / 10 : Nat) : Int) from rfl]
      exact wrap_i64 (by omega) (by omega)
    have e2 : Int.tmod (n : Int) 10 = ((n % 10 : Nat) : Int) := rfl
    refine Ev.succ (fun k => R14_digits.eq_2 ..) (Ev.f (by simp; omega) ?_)
    rw [e1, e2]
    refine (low _ (by omega)).bind ((low _ (by omega)).bind (Ev.need ?_ ((Ev.pure _).eq (key ⟨n, by omega⟩ (by simpa using hn)))))
    have := itoa_size ((n / 10 : Nat) : Int) (by omega) (by omega)
    have := itoa_size ((n % 10 : Nat) : Int) (by omega) (by omega)
    refine decide_eq_true ?_
    omega
end Go.Proofs.YtogicnodmgdnbaaGreatDoor
end

/-! MiC -/
section
namespace Go.Proofs.YtogicnodmgdnbaaGreatDoor
open Go.Tr Go
set_option linter.unusedVariables false
set_option linter.unusedSimpArgs false
set_option maxRecDepth 10000

theorem equalInts_evL (a b : List Int) (hl : a.length ≤ 1000000) : ∀ (ts us : List Int) (i : Nat), a.drop i = ts → b.drop i = us → i + ts.length = a.length → ts.length = us.length → Ev (fun k => slices_Equal_L1 k a b (i : Int)) (decide (ts = us)) := by
  intro ts
  induction ts with
  | nil =>
    intro us i h1 h2 h3 h4
    simp only [List.length_nil, Nat.add_zero] at h3
    have : us = [] := List.eq_nil_of_length_eq_zero h4.symm
    subst this
    exact Ev.succ (fun k => slices_Equal_L1.eq_2 ..) (Ev.f (by simp; omega) (Ev.pure _))
  | cons x ts ih =>
    intro us i h1 h2 h3 h4
    cases us with
    | nil => simp at h4
    | cons y us =>
      simp only [List.length_cons] at h3 h4
      refine Ev.succ (fun k => slices_Equal_L1.eq_2 ..) (Ev.t (by simp; omega) (Ev.some (idx_get (getDrop h1)) (Ev.some (idx_get (getDrop h2)) ?_)))
      refine Ev.ite (fun h => (Ev.pure _).eq ?_) (fun h => ?_)
      · have : x ≠ y := by simpa using h
        simp [this]
      · have : x = y := by simpa using h
        subst this
        rw [wrapS (by omega)]
        exact (ih us (i + 1) (dropDrop h1) (dropDrop h2) (by omega) (by omega)).eq (by simp)
theorem equalInts_ev (a b : List Int) (hl : a.length ≤ 1000000) : Ev (fun k => slices_Equal k a b) (decide (a = b)) := by
  refine Ev.succ (fun k => slices_Equal.eq_2 ..) ?_
  refine Ev.ite (fun h => (Ev.pure _).eq ?_) (fun h => ?_)
  · rw [decide_eq_false]
    intro e
    subst e
    simp at h
  · have hl' : a.length = b.length := by simp at h; omega
    exact equalInts_evL a b hl a b 0 rfl rfl (by simp) hl'

/-- The signs that are written, and their names. -/
def qsL : List Int → Nat → List (Int × ByteArray)
  | [], _ => []
  | v :: vs, j => (v, nmOf j) :: qsL vs (j + 1)
theorem qsL_length : ∀ (l : List Int) (j : Nat), (qsL l j).length = l.length
  | [], _ => rfl
  | _ :: l, j => by simp [qsL, qsL_length l]
theorem qsL_signs : ∀ (l : List Int) (j : Nat), (qsL l j).map (·.1) = l
  | [], _ => rfl
  | _ :: l, j => by simp [qsL, qsL_signs l]
theorem qsL_ok : ∀ (l : List Int) (j : Nat), (∀ s ∈ l, is3 s) → j + l.length ≤ 99 → ∀ q ∈ qsL l j, okQ q
  | [], _, _, _, q, hq => by simp [qsL] at hq
  | v :: l, j, h, hj, q, hq => by
    simp only [List.length_cons] at hj
    simp only [qsL, List.mem_cons] at hq
    rcases hq with e | hq
    · subst e; exact ⟨h v (List.mem_cons_self ..), (nm_named j (by omega)).1⟩
    · exact qsL_ok l (j + 1) (fun s hs => h s (List.mem_cons_of_mem _ hs)) (by omega) q hq

/-- The directive of a mode. -/
abbrev itM (d : Dc) (back : List Int) : It := itW d (qsL back 0)
def agree (d : Dc) (imp : Nat) (signs : List Int) : Bool := decide ((List.range imp).map (dF d (signs.drop imp) imp) ++ signs.drop imp = signs)

section
variable {sig : List Dc} {m : Md} {d : Dc} {imp : Nat}

theorem itW_snoc (d : Dc) (pre : List (Int × ByteArray)) (q : Int × ByteArray) : (It.mk (itW d pre).word (itW d pre).name (itW d pre).raw ((itW d pre).parts ++ [signP q])) = itW d (pre ++ [q]) := by
  simp only [itW, List.map_append, List.map_cons, List.map_nil, List.cons_append]

theorem itemL1_ev (him : d.implicit = (imp : Int)) (h3 : ∀ s ∈ m.signs, is3 s) (hsz : m.signs.length ≤ 90) {R : It × Int}
    (hR : Ev (fun n => (mode_Read n sig (itM d (m.signs.drop imp))).bind (fun v73 => cond (v73.2 != 0) (some (it0, 2)) ((slices_Equal n v73.1.signs m.signs).bind (fun v77 => cond (!v77) (some (it0, 2)) (some (itM d (m.signs.drop imp), 0)))))) R) :
    ∀ (ts : List Int) (j : Nat) (pre : List (Int × ByteArray)), (m.signs.drop imp).drop j = ts → pre ++ qsL ts j = qsL (m.signs.drop imp) 0 → pre.length = j → j + ts.length = (m.signs.drop imp).length → Ev (fun k => mode_Item_L1 k m d sig (itW d pre) (j : Int)) R := by
  have hbk : (m.signs.drop imp).length ≤ 90 := by simp; omega
  have hmem : ∀ s ∈ m.signs.drop imp, is3 s := fun s hs => h3 s (List.mem_of_mem_drop hs)
  have hImp : d.implicit.toNat = imp := by omega
  intro ts
  induction ts with
  | nil =>
    intro j pre h1 h2 hp h4
    simp only [List.length_nil, Nat.add_zero] at h4
    rw [qsL, List.append_nil] at h2
    subst h2
    refine Ev.succ (fun k => mode_Item_L1.eq_2 ..) (Ev.f ?_ hR)
    rw [hImp]; simp at h4 ⊢; omega
  | cons v ts ih =>
    intro j pre h1 h2 hp h4
    simp only [List.length_cons] at h4
    have hv := getDrop h1
    have hv3 := hmem v (List.mem_of_getElem? hv)
    have hit := itoa_size ((j + 1 : Nat) : Int) (by omega) (by omega)
    have hrec := ih (j + 1) (pre ++ [(v, nmOf j)]) (dropDrop h1) (by rw [List.append_assoc]; exact h2) (by simp; omega) (by omega)
    rw [← itW_snoc] at hrec
    have c1 : decide ((0 : Int) ≤ ((j + 1 : Nat) : Int) ∧ (((j + 1 : Nat) : Int) : Int) ≤ 99) = true := decide_eq_true (by omega)
    have c2 : decide ((⟨#[88]⟩ : ByteArray).size + (itoaF ((j + 1 : Nat) : Int)).size ≤ 1000000) = true := by
      have : (⟨#[88]⟩ : ByteArray).size = 1 := rfl
      exact decide_eq_true (by omega)
    have c3 : ∀ p : Pt, decide ((Pt.encL ((itW d pre).parts ++ [p])).length ≤ 1000000) = true := by
      intro p
      rw [Pt.encL_length]
      simp; omega
    refine Ev.succ (fun k => mode_Item_L1.eq_2 ..) (Ev.t ?_ (Ev.some (x := v) ?_ ?_))
    · rw [hImp]; simp at h4 ⊢; omega
    · rw [hImp]; exact idx_get hv
    simp only [wrapS (show j < 2000000000000000000 by omega)]
    rcases hv3 with rfl | rfl | rfl
    · exact Ev.f rfl (Ev.t rfl (Ev.need c1 (Ev.need c2 (Ev.need (c3 _) hrec))))
    · exact Ev.f rfl (Ev.f rfl (Ev.t rfl (Ev.need c1 (Ev.need c2 (Ev.need (c3 _) hrec)))))
    · exact Ev.f rfl (Ev.f rfl (Ev.f rfl (Ev.t rfl (Ev.need c1 (Ev.need c2 (Ev.need (c3 _) hrec))))))

theorem refItemL2_ev (him : d.implicit = (imp : Int)) (h3 : ∀ s ∈ m.signs, is3 s) (hsz : m.signs.length ≤ 90) :
    ∀ (ts : List Int) (j : Nat) (pre : List (Int × ByteArray)), (m.signs.drop imp).drop j = ts → pre ++ qsL ts j = qsL (m.signs.drop imp) 0 → pre.length = j → j + ts.length = (m.signs.drop imp).length → Ev (fun k => R14_Item_L2 k m d (itW d pre) (j : Int)) (itM d (m.signs.drop imp), true) := by
  have hbk : (m.signs.drop imp).length ≤ 90 := by simp; omega
  have hmem : ∀ s ∈ m.signs.drop imp, is3 s := fun s hs => h3 s (List.mem_of_mem_drop hs)
  have hImp : d.implicit.toNat = imp := by omega
  intro ts
  induction ts with
  | nil =>
    intro j pre h1 h2 hp h4
    simp only [List.length_nil, Nat.add_zero] at h4
    rw [qsL, List.append_nil] at h2
    subst h2
    refine Ev.succ (fun k => R14_Item_L2.eq_2 ..) (Ev.f ?_ (Ev.pure _))
    rw [hImp]; simp at h4 ⊢; omega
  | cons v ts ih =>
    intro j pre h1 h2 hp h4
    simp only [List.length_cons] at h4
    have hv := getDrop h1
    have hv3 := hmem v (List.mem_of_getElem? hv)
    have hit := itoa_size ((j + 1 : Nat) : Int) (by omega) (by omega)
    have hrec := ih (j + 1) (pre ++ [(v, nmOf j)]) (dropDrop h1) (by rw [List.append_assoc]; exact h2) (by simp; omega) (by omega)
    rw [← itW_snoc] at hrec
    have c2 : decide ((⟨#[88]⟩ : ByteArray).size + (itoaF ((j + 1 : Nat) : Int)).size ≤ 1000000) = true := by
      have : (⟨#[88]⟩ : ByteArray).size = 1 := rfl
      exact decide_eq_true (by omega)
    have c3 : ∀ p : Pt, decide ((Pt.encL ((itW d pre).parts ++ [p])).length ≤ 1000000) = true := by
      intro p
      rw [Pt.encL_length]
      simp; omega
    have hw : idx [(⟨#[]⟩ : ByteArray), (⟨#[43]⟩ : ByteArray), (⟨#[45]⟩ : ByteArray), (⟨#[42]⟩ : ByteArray)] v = some (sgOf v) := by
      rcases hv3 with rfl | rfl | rfl <;> rfl
    refine Ev.succ (fun k => R14_Item_L2.eq_2 ..) (Ev.t ?_ ?_)
    · rw [hImp]; simp at h4 ⊢; omega
    simp only [wrapS (show j < 2000000000000000000 by omega)]
    refine (digits_ev (j + 1) (by omega)).bind (Ev.need c2 (Ev.some (x := v) ?_ (Ev.some hw (Ev.need (c3 _) hrec))))
    rw [hImp]; exact idx_get hv

theorem agree_all {signs : List Int} (hi : imp ≤ signs.length) (h : ∀ i : Nat, i < imp → signs[i]? = some (dF d (signs.drop imp) imp i)) : agree d imp signs = true := by
  refine decide_eq_true ?_
  have e : (List.range imp).map (dF d (signs.drop imp) imp) = signs.take imp := by
    apply List.ext_getElem?
    intro i
    by_cases hlt : i < imp
    · rw [List.getElem?_map, List.getElem?_range hlt, List.getElem?_take_of_lt hlt, h i hlt]; rfl
    · rw [List.getElem?_eq_none (by simp; omega), List.getElem?_eq_none (by simp; omega)]
  rw [e, List.take_append_drop]
theorem agree_no {signs : List Int} {i : Nat} {v : Int} (hi : i < imp) (hv : signs[i]? = some v) (hne : dF d (signs.drop imp) imp i ≠ v) : agree d imp signs = false := by
  refine decide_eq_false ?_
  intro e
  have h1 : ((List.range imp).map (dF d (signs.drop imp) imp) ++ signs.drop imp)[i]? = some (dF d (signs.drop imp) imp i) := by
    rw [List.getElem?_append_left (by simpa using hi), List.getElem?_map, List.getElem?_range hi]; rfl
  rw [e, hv] at h1
  exact hne (Option.some.inj h1).symm

theorem refItemL1_ev (hp : Pr d.cls) (him : d.implicit = (imp : Int)) (hi : imp ≤ m.signs.length) (h3 : ∀ s ∈ m.signs, is3 s) (hlen : (split d.cls).1.length = m.signs.length) :
    ∀ (n i : Nat), i + n = imp → (∀ i' : Nat, i' < i → m.signs[i']? = some (dF d (m.signs.drop imp) imp i')) → Ev (fun k => R14_Item_L1 k d m (i : Int)) (if agree d imp m.signs = true then (itM d (m.signs.drop imp), true) else (it0, false)) := by
  have hsf := (split_facts hp).2.2.2.2
  have hImp : d.implicit.toNat = imp := by omega
  intro n
  induction n with
  | zero =>
    intro i hii hall
    rw [Nat.add_zero] at hii
    subst hii
    rw [if_pos (agree_all hi hall)]
    exact Ev.succ (fun k => R14_Item_L1.eq_2 ..) (Ev.f (by simp; omega) (refItemL2_ev him h3 (by omega) (m.signs.drop i) 0 [] rfl rfl rfl (by simp)))
  | succ n ih =>
    intro i hii hall
    obtain ⟨v, hv, _, hv'⟩ := idxOf (l := m.signs) (i := i) (by omega)
    have him14 := implicit_ev (d := d) (written := m.signs.drop imp) (i := i) hp (by omega) him (by simp; omega)
    refine Ev.succ (fun k => R14_Item_L1.eq_2 ..) (Ev.t (by simp; omega) (Ev.some hv ?_))
    rw [hImp]
    refine him14.bind ?_
    refine Ev.ite (fun h => ?_) (fun h => ?_)
    · have hne : dF d (m.signs.drop imp) imp i ≠ v := by simpa [dF] using h
      rw [if_neg (by rw [agree_no (by omega) hv' hne]; decide)]
      exact Ev.pure _
    · have he : dF d (m.signs.drop imp) imp i = v := by simpa [dF] using h
      rw [wrapS (by omega)]
      refine ih (i + 1) (by omega) (fun i' hi' => ?_)
      by_cases h' : i' < i
      · exact hall i' h'
      · rw [show i' = i by omega, hv', he]

theorem refItem_ev (hs : sigOK sig = true) (hd : idx sig m.family = some d) (him : d.implicit = (imp : Int)) (h3 : ∀ s ∈ m.signs, is3 s) (hlen : (split d.cls).1.length = m.signs.length) :
    Ev (fun k => R14_Item k sig m) (if agree d imp m.signs = true then (itM d (m.signs.drop imp), true) else (it0, false)) := by
  have hdm : d ∈ sig := List.mem_of_getElem? (idx_some hd).2
  have hp : Pr d.cls := (sigOK_proper hs).2 d hdm
  obtain ⟨hi0, hi1⟩ := sigOK_impM hs d hdm
  exact Ev.succ (fun k => R14_Item.eq_2 ..) (Ev.some hd (Ev.need (by simp; omega) (refItemL1_ev hp him (by omega) h3 hlen imp 0 (by omega) (fun i' h => absurd h (Nat.not_lt_zero _)))))

theorem item_ev (hs : sigOK sig = true) (hd : idx sig m.family = some d) (hk : kindT d.cls = true) (him : d.implicit = (imp : Int)) (h3 : ∀ s ∈ m.signs, is3 s) (hlen : (split d.cls).1.length = m.signs.length) (hr : rightB sig m = true) :
    Ev (fun k => mode_Item k sig m) (if agree d imp m.signs = true then (itM d (m.signs.drop imp), 0) else (it0, 2)) := by
  have hdm : d ∈ sig := List.mem_of_getElem? (idx_some hd).2
  have hp : Pr d.cls := (sigOK_proper hs).2 d hdm
  have hsf := (split_facts hp).2.2.2.2
  obtain ⟨hi0, hi1⟩ := sigOK_impM hs d hdm
  have hck : Ev (fun k => sign_Check k sig) 0 := by have := check_ev sig; rw [if_pos hs] at this; exact this
  have him1 := isMode_ev hs m
  rw [hr] at him1
  have hback : (m.signs.drop imp).length + imp = m.signs.length := by simp; omega
  have hrd := readW_ev hs hd hk him (qsL (m.signs.drop imp) 0) (qsL_ok _ 0 (fun s hs => h3 s (List.mem_of_mem_drop hs)) (by omega)) (by rw [qsL_length]; omega)
  rw [if_pos (by rw [qsL_length]; omega), qsL_signs] at hrd
  refine Ev.succ (fun k => mode_Item.eq_2 ..) (hck.bind (Ev.f rfl (him1.bind (Ev.f rfl (Ev.some hd (Ev.some hd (Ev.need (by simp; omega) ?_)))))))
  refine itemL1_ev (imp := imp) (R := if agree d imp m.signs = true then (itM d (m.signs.drop imp), 0) else (it0, 2)) him h3 (by omega) ?_ (m.signs.drop imp) 0 [] rfl rfl rfl (by simp)
  refine hrd.bind (Ev.f rfl ((equalInts_ev _ _ (by simp; omega)).bind ?_))
  cases ha : agree d imp m.signs with
  | true =>
    have : decide ((List.range imp).map (dF d (m.signs.drop imp) imp) ++ m.signs.drop imp = m.signs) = true := ha
    rw [this]
    exact Ev.f rfl (Ev.pure _)
  | false =>
    have : decide ((List.range imp).map (dF d (m.signs.drop imp) imp) ++ m.signs.drop imp = m.signs) = false := ha
    rw [this]
    exact Ev.t rfl (Ev.pure _)
end
end Go.Proofs.YtogicnodmgdnbaaGreatDoor
end

/-! MiD -/
section
namespace Go.Proofs.YtogicnodmgdnbaaGreatDoor
open Go.Tr Go
set_option linter.unusedVariables false
set_option linter.unusedSimpArgs false
set_option maxRecDepth 10000

/-! the same items -/
theorem sameRw0_ev : Ev (fun k => R02_Same k rw0 rw0) true :=
  Ev.succ (fun k => R02_Same.eq_2 ..) (Ev.f (by decide +kernel) (Ev.succ (fun k => R02_Same_L1.eq_2 ..) (Ev.f (by decide +kernel) (Ev.pure _))))
theorem samePt_ev {p : Pt} (hr : p.raw = rw0) (hp : p.parts = []) : Ev (fun k => R02_SamePart k p p) true := by
  refine Ev.succ (fun k => R02_SamePart.eq_2 ..) (Ev.f (by simp) ?_)
  rw [hr]
  refine sameRw0_ev.bind (Ev.f (by simp) ?_)
  exact Ev.succ (fun k => R02_SamePart_L1.eq_2 ..) (Ev.f (by rw [hp]; simp [Pt.encL_length]) (Ev.pure _))
theorem sameIt_ev {x : It} (hr : x.raw = rw0) (hp : ∀ p ∈ x.parts, p.raw = rw0 ∧ p.parts = []) (hl : x.parts.length ≤ 1000) : Ev (fun k => R02_SameItem k x x) true := by
  have loop : ∀ (ts : List Pt) (i : Nat), x.parts.drop i = ts → i + ts.length = x.parts.length → Ev (fun k => R02_SameItem_L1 k x x (i : Int)) true := by
    intro ts
    induction ts with
    | nil =>
      intro i hd hi
      simp only [List.length_nil, Nat.add_zero] at hi
      exact Ev.succ (fun k => R02_SameItem_L1.eq_2 ..) (Ev.f (by rw [Pt.encL_length]; simp; omega) (Ev.pure _))
    | cons p ts ih =>
      intro i hd hi
      simp only [List.length_cons] at hi
      have hpm := getDrop hd
      obtain ⟨h1, h2⟩ := hp p (List.mem_of_getElem? hpm)
      refine Ev.succ (fun k => R02_SameItem_L1.eq_2 ..) (Ev.t (by rw [Pt.encL_length]; simp; omega) (Ev.some (idx_get hpm) (Ev.some (idx_get hpm) ((samePt_ev h1 h2).bind (Ev.f rfl ?_)))))
      rw [wrapS (by omega)]
      exact ih (i + 1) (dropDrop hd) (by omega)
  refine Ev.succ (fun k => R02_SameItem.eq_2 ..) (Ev.f (by simp) ?_)
  rw [hr]
  exact sameRw0_ev.bind (Ev.f (by simp) (loop x.parts 0 rfl (by simp)))
theorem sameItW_ev (d : Dc) (qs : List (Int × ByteArray)) (hl : qs.length ≤ 500) : Ev (fun k => R02_SameItem k (itW d qs) (itW d qs)) true := by
  refine sameIt_ev rfl (fun p hp => ?_) (by simp; omega)
  rcases List.mem_cons.1 hp with e | e
  · subst e; exact ⟨rfl, rfl⟩
  · obtain ⟨q, _, rfl⟩ := List.mem_map.1 e; exact ⟨rfl, rfl⟩
theorem sameIt0_ev : Ev (fun k => R02_SameItem k it0 it0) true := sameIt_ev rfl (by simp) (by simp)

/-! modes -/
def fndM (f : Int) : List Md → Nat → Int
  | [], _ => -1
  | m :: l, i => if m.family == f then (i : Int) else fndM f l (i + 1)
theorem fndM_range (f : Int) : ∀ (l : List Md) (i : Nat), (fndM f l i = -1 ∧ ∀ m ∈ l, m.family ≠ f) ∨ (∃ k m, l[k]? = some m ∧ m.family = f ∧ fndM f l i = ((i + k : Nat) : Int) ∧ ∀ k' m', k' < k → l[k']? = some m' → m'.family ≠ f)
  | [], i => .inl ⟨rfl, by simp⟩
  | m :: l, i => by
    simp only [fndM]
    by_cases h : m.family = f
    · right
      refine ⟨0, m, rfl, h, by rw [if_pos (by simp [h])]; rfl, fun k' _ hk => absurd hk (Nat.not_lt_zero _)⟩
    · rw [if_neg (by simp [h])]
      rcases fndM_range f l (i + 1) with ⟨h1, h2⟩ | ⟨k, x, h1, h2, h3, h4⟩
      · left
        refine ⟨h1, fun y hy => ?_⟩
        rcases List.mem_cons.1 hy with e | e
        · subst e; exact h
        · exact h2 y e
      · right
        refine ⟨k + 1, x, h1, h2, by rw [h3]; congr 1; omega, fun k' m' hk hm => ?_⟩
        cases k' with
        | zero => simp at hm; subst hm; exact h
        | succ k' => exact h4 k' m' (by omega) hm
theorem findM_evL (l : List Md) (f : Int) (hl : l.length ≤ 1000) : ∀ (ts : List Md) (i : Nat), l.drop i = ts → i + ts.length = l.length → Ev (fun k => R14_Find_L1 k l f (i : Int)) (fndM f ts i) := by
  intro ts
  induction ts with
  | nil =>
    intro i hd hi
    simp only [List.length_nil, Nat.add_zero] at hi
    exact Ev.succ (fun k => R14_Find_L1.eq_2 ..) (Ev.f (by rw [Md.encL_length]; simp; omega) (Ev.pure _))
  | cons m ts ih =>
    intro i hd hi
    simp only [List.length_cons] at hi
    refine Ev.succ (fun k => R14_Find_L1.eq_2 ..) (Ev.t (by rw [Md.encL_length]; simp; omega) (Ev.some (idx_get (getDrop hd)) ?_))
    simp only [fndM]
    refine Ev.ite (fun h => ?_) (fun h => ?_)
    · rw [if_pos h]; exact Ev.pure _
    · rw [if_neg (by rw [h]; decide), wrapS (by omega)]
      exact ih (i + 1) (dropDrop hd) (by omega)
theorem findM_ev (l : List Md) (f : Int) (hl : l.length ≤ 1000) : Ev (fun k => R14_Find k l f) (fndM f l 0) :=
  Ev.succ (fun k => R14_Find.eq_2 ..) (findM_evL l f hl l 0 rfl (by simp))

/-- Modes, of different families. -/
def modesB (sig : List Dc) : List Md → List Md → Bool
  | _, [] => true
  | pre, m :: l => (!pre.any (fun x => x.family == m.family) && rightB sig m) && modesB sig (pre ++ [m]) l

theorem fndM_any (f : Int) (l : List Md) (i : Nat) (m : Md) (hm : l[i]? = some m) : decide (fndM m.family l 0 < (i : Int)) = (l.take i).any (fun x => x.family == m.family) := by
  rcases fndM_range m.family l 0 with ⟨h1, h2⟩ | ⟨k, x, h1, h2, h3, h4⟩
  · exact absurd rfl (h2 m (List.mem_of_getElem? hm))
  · rw [h3, Bool.eq_iff_iff, decide_eq_true_eq, List.any_eq_true]
    constructor
    · intro h
      refine ⟨x, List.mem_of_getElem? (i := k) ?_, by simp [h2]⟩
      rw [List.getElem?_take_of_lt (by omega)]; exact h1
    · rintro ⟨y, hy, he⟩
      obtain ⟨q, hq⟩ := List.getElem?_of_mem hy
      have hqi : q < i := by
        have := (List.getElem?_eq_some_iff.1 hq).1
        simp at this; omega
      rw [List.getElem?_take_of_lt hqi] at hq
      rcases Nat.lt_or_ge q k with h | h
      · exact absurd (by simpa using he) (h4 q y h hq)
      · omega

theorem modesL_ev {sig : List Dc} (hs : sigOK sig = true) (l : List Md) (hl : l.length ≤ 1000) : ∀ (ts : List Md) (i : Nat), l.drop i = ts → i + ts.length = l.length → Ev (fun k => R14_Modes_L1 k l sig (i : Int)) (modesB sig (l.take i) ts) := by
  intro ts
  induction ts with
  | nil =>
    intro i hd hi
    simp only [List.length_nil, Nat.add_zero] at hi
    exact Ev.succ (fun k => R14_Modes_L1.eq_2 ..) (Ev.f (by rw [Md.encL_length]; simp; omega) (Ev.pure _))
  | cons m ts ih =>
    intro i hd hi
    simp only [List.length_cons] at hi
    have hm := getDrop hd
    refine Ev.succ (fun k => R14_Modes_L1.eq_2 ..) (Ev.t (by rw [Md.encL_length]; simp; omega) (Ev.some (idx_get hm) ((right_ev hs m).bind ?_)))
    simp only [modesB]
    rw [← fndM_any 0 l i m hm]
    refine Ev.ite (fun h => ?_) (fun h => Ev.some (idx_get hm) ((findM_ev l m.family hl).bind ?_))
    · rw [nb h]; exact (Ev.pure _).eq (by simp)
    · rw [nb' h]
      refine Ev.ite (fun h' => ?_) (fun h' => ?_)
      · rw [h']; exact Ev.pure _
      · rw [h', wrapS (by omega)]
        have := ih (i + 1) (dropDrop hd) (by omega)
        rw [List.take_add_one, hm] at this
        exact this.eq (by simp)
def modesOK (sig : List Dc) (l : List Md) : Bool := decide (l.length ≤ 40) && modesB sig [] l
theorem modes_ev {sig : List Dc} (hs : sigOK sig = true) (l : List Md) (hl : l.length ≤ 1000) : Ev (fun k => R14_Modes k sig l) (modesOK sig l) := by
  refine Ev.succ (fun k => R14_Modes.eq_2 ..) ?_
  rw [Md.encL_length]
  refine Ev.ite (fun h => ?_) (fun h => ?_)
  · simp only [decide_eq_true_eq] at h
    rw [modesOK, decide_eq_false (by omega)]; exact Ev.pure _
  · simp only [decide_eq_false_iff_not] at h
    rw [modesOK, decide_eq_true (by omega), Bool.true_and]
    exact modesL_ev hs l hl l 0 rfl (by simp)

/-- What the map of modes knows. -/
def mapOf (pre : List Md) (g : List (Int × Md)) : Prop := ∀ f, mget g f = pre.find? (fun x => x.family == f)
theorem mapOf_put {pre : List Md} {g : List (Int × Md)} (h : mapOf pre g) {m : Md} (hn : pre.any (fun x => x.family == m.family) = false) : mapOf (pre ++ [m]) (mput m.family m g) := by
  intro f
  rw [mget_mput, List.find?_append, h f]
  by_cases hf : f = m.family
  · subst hf
    rw [if_pos rfl]
    have : pre.find? (fun x => x.family == m.family) = none := by
      rw [List.find?_eq_none]
      rw [List.any_eq_false] at hn
      exact hn
    rw [this]
    simp [List.find?]
  · rw [if_neg hf]
    have : [m].find? (fun x => x.family == f) = none := by
      rw [List.find?_eq_none]
      intro x hx
      rw [List.mem_singleton] at hx
      subst hx
      simp; omega
    rw [this]
    cases pre.find? (fun x => x.family == f) <;> rfl

theorem fndM_find (f : Int) : ∀ (l : List Md) (i : Nat), (fndM f l i < 0 ∧ l.find? (fun x => x.family == f) = none) ∨ (∃ k m, fndM f l i = ((i + k : Nat) : Int) ∧ l[k]? = some m ∧ l.find? (fun x => x.family == f) = some m)
  | [], i => .inl ⟨by simp [fndM], rfl⟩
  | m :: l, i => by
    simp only [fndM, List.find?]
    cases h : (m.family == f) with
    | true => right; exact ⟨0, m, by simp, rfl, rfl⟩
    | false =>
      simp only [Bool.false_eq_true, if_false]
      rcases fndM_find f l (i + 1) with ⟨h1, h2⟩ | ⟨k, x, h1, h2, h3⟩
      · left; exact ⟨h1, h2⟩
      · right; exact ⟨k + 1, x, by rw [h1]; congr 1; omega, h2, h3⟩

def ofR (sig : List Dc) (l : List Md) (f : Int) : Md × Int := if modesOK sig l = true then (match l.find? (fun x => x.family == f) with | some m => (m, 0) | none => (⟨0, []⟩, 6)) else (⟨0, []⟩, 2)

theorem ofL_ev {sig : List Dc} (hs : sigOK sig = true) (l : List Md) (f : Int) (hl : l.length ≤ 1000) : ∀ (ts : List Md) (i : Nat) (g : List (Int × Md)), l.drop i = ts → i + ts.length = l.length → mapOf (l.take i) g → (∀ x ∈ l.take i, rightB sig x = true) → (i ≠ 0 → l.length ≤ 40) → (ts = [] → l.length ≤ 40) →
    Ev (fun k => mode_Of_L1 k l sig f g (i : Int)) (if (decide (l.length ≤ 40) && modesB sig (l.take i) ts) = true then (match l.find? (fun x => x.family == f) with | some m => (m, 0) | none => (⟨0, []⟩, 6)) else (⟨0, []⟩, 2)) := by
  intro ts
  induction ts with
  | nil =>
    intro i g hd hi hg hr h40 h40'
    simp only [List.length_nil, Nat.add_zero] at hi
    have h40 := h40' rfl
    rw [decide_eq_true h40]
    rw [show l.take i = l by rw [hi, List.take_length]] at hg hr
    refine Ev.succ (fun k => mode_Of_L1.eq_2 ..) (Ev.f (by rw [Md.encL_length]; simp; omega) ?_)
    rw [hg f, if_pos (by simp [modesB])]
    cases hf : l.find? (fun x => x.family == f) with
    | none => exact Ev.t rfl (Ev.pure _)
    | some m =>
      obtain ⟨d, _, _, h3, _⟩ := rightB_yes (hr m (List.mem_of_find?_eq_some hf))
      have hpr : Pr d.cls := (sigOK_proper hs).2 d (List.mem_of_getElem? (idx_some (by assumption)).2)
      have := (split_facts hpr).2.2.2.2
      exact Ev.f rfl (Ev.need (by simp; omega) (Ev.pure _))
  | cons m ts ih =>
    intro i g hd hi hg hr h40 _
    simp only [List.length_cons] at hi
    have hm := getDrop hd
    refine Ev.succ (fun k => mode_Of_L1.eq_2 ..) (Ev.t (by rw [Md.encL_length]; simp; omega) (Ev.some (idx_get hm) ?_))
    have e : (mget g m.family).isSome = (l.take i).any (fun x => x.family == m.family) := by
      rw [hg, Bool.eq_iff_iff, List.find?_isSome, List.any_eq_true]
    have em : modesB sig (l.take i) (m :: ts) = ((!(l.take i).any (fun x => x.family == m.family) && rightB sig m) && modesB sig (l.take i ++ [m]) ts) := rfl
    rw [e, em]
    refine Ev.ite (fun h => ?_) (fun h => (isMode_ev hs m).bind ?_)
    · rw [h, if_neg (by simp)]; exact Ev.pure _
    · rw [h, Md.encL_length]
      refine Ev.ite (fun h' => ?_) (fun h' => ?_)
      · rw [if_neg ?_]
        · exact Ev.pure _
        · intro hc
          simp only [Bool.and_eq_true, Bool.not_false, decide_eq_true_eq, true_and] at hc
          rw [hc.2.1] at h'
          simp at h'; omega
      · rw [Bool.or_eq_false_iff] at h'
        have hrm := nb' h'.1
        have h4 : l.length ≤ 40 := by have := h'.2; simp at this; omega
        have hg' := mapOf_put hg h
        have e2 : l.take i ++ [m] = l.take (i + 1) := by rw [List.take_add_one, hm]; rfl
        rw [e2] at hg'
        rw [wrapS (by omega)]
        have := ih (i + 1) (mput m.family m g) (dropDrop hd) (by omega) hg' (by
          rw [← e2]
          intro x hx
          rcases List.mem_append.1 hx with hx | hx
          · exact hr x hx
          · rw [List.mem_singleton] at hx; subst hx; exact hrm) (fun _ => h4) (fun _ => h4)
        rw [← e2] at this
        rw [hrm]
        simpa using this

theorem of_ev {sig : List Dc} (hs : sigOK sig = true) (l : List Md) (f : Int) (hl : l.length ≤ 1000) : Ev (fun k => mode_Of k sig l f) (ofR sig l f) := by
  have hck : Ev (fun k => sign_Check k sig) 0 := by have := check_ev sig; rw [if_pos hs] at this; exact this
  refine Ev.succ (fun k => mode_Of.eq_2 ..) (hck.bind (Ev.f rfl ?_))
  exact ofL_ev hs l f hl l 0 [] rfl (by simp) (fun f => rfl) (by simp) (by simp) (fun e => by subst e; simp)
end Go.Proofs.YtogicnodmgdnbaaGreatDoor
end

/-! MiE -/
section
namespace Go.Proofs.YtogicnodmgdnbaaGreatDoor
open Go.Tr Go
set_option linter.unusedVariables false
set_option linter.unusedSimpArgs false
set_option maxRecDepth 10000

theorem tailI {sig : List Dc} (hs : sigOK sig = true) (ms : List Md) (f : Int) (hl : ms.length ≤ 1000) :
    Ev (fun n => (R14_Modes n sig ms).bind (fun v50 => cond (!v50) ((W14_same n (ofR sig ms f).1 (Md.mk 0 ([]))).bind (fun v53 => cond (v53 && ((ofR sig ms f).2 == 2)) ((W14_awake n ).bind (fun v56 => some (v56))) (some (false))))
      ((R14_Find n ms f).bind (fun v58 => cond (decide (v58 < 0)) ((W14_same n (ofR sig ms f).1 (Md.mk 0 ([]))).bind (fun v61 => cond (v61 && ((ofR sig ms f).2 == 6)) ((W14_awake n ).bind (fun v64 => some (v64))) (some (false))))
        ((idx ms v58).bind (fun v66 => (W14_same n (ofR sig ms f).1 v66).bind (fun v71 => cond (v71 && ((ofR sig ms f).2 == 0)) ((W14_awake n ).bind (fun v74 => some (v74))) (some (false))))))))) true := by
  refine (modes_ev hs ms hl).bind ?_
  cases hm : modesOK sig ms with
  | false =>
    have e : ofR sig ms f = (⟨0, []⟩, 2) := by rw [ofR, if_neg (by rw [hm]; decide)]
    rw [e]
    exact Ev.t rfl ((same14_ev ⟨0, []⟩ (by simp)).bind (Ev.t rfl (awake14_ev.bind (Ev.pure _))))
  | true =>
    refine Ev.f rfl ((findM_ev ms f hl).bind ?_)
    rcases fndM_find f ms 0 with ⟨h1, h2⟩ | ⟨k, m, h1, h2, h3⟩
    · have e : ofR sig ms f = (⟨0, []⟩, 6) := by rw [ofR, if_pos hm, h2]
      rw [e]
      exact Ev.t (decide_eq_true h1) ((same14_ev ⟨0, []⟩ (by simp)).bind (Ev.t rfl (awake14_ev.bind (Ev.pure _))))
    · have e : ofR sig ms f = (m, 0) := by rw [ofR, if_pos hm, h3]
      rw [e, h1]
      have hr : rightB sig m = true := by
        have key : ∀ (l pre : List Md), modesB sig pre l = true → ∀ x ∈ l, rightB sig x = true := by
          intro l
          induction l with
          | nil => intro pre _ x hx; cases hx
          | cons y l ih =>
            intro pre h x hx
            simp only [modesB, Bool.and_eq_true] at h
            rcases List.mem_cons.1 hx with e | e
            · subst e; exact h.1.2
            · exact ih _ h.2 x e
        simp only [modesOK, Bool.and_eq_true] at hm
        exact key ms [] hm.2 m (List.mem_of_getElem? h2)
      obtain ⟨d, d1, _, d3, _⟩ := rightB_yes hr
      have hp : Pr d.cls := (sigOK_proper hs).2 d (List.mem_of_getElem? (idx_some d1).2)
      have hsf := (split_facts hp).2.2.2.2
      refine Ev.f (decide_eq_false (by omega)) (Ev.some (x := m) (idx_get (by simpa using h2)) ((same14_ev m (by omega)).bind (Ev.t rfl (awake14_ev.bind (Ev.pure _)))))

theorem modeItems_ev (sig : List Dc) (l : List Md) (f : Int) (hb : sigB sig) : Ev (fun k => W14_ModeItems k sig l f) true := by
  refine Ev.succ (fun k => W14_ModeItems.eq_2 ..) (Ev.need ?_ ?_)
  · rw [Md.encL_length]; refine decide_eq_true ?_; split <;> omega
  obtain ⟨b, b1, b2⟩ := valid14_y sig hb
  refine b1.bind ?_
  have hms : (l.take (if 50 < ((Md.encL l).length : Int) then 50 else ((Md.encL l).length : Int)).toNat).length ≤ 1000 := by
    rw [Md.encL_length, List.length_take]; split <;> omega
  generalize l.take (if 50 < ((Md.encL l).length : Int) then 50 else ((Md.encL l).length : Int)).toNat = ms at hms ⊢
  refine Ev.ite (fun _ => awake14_ev.bind (Ev.pure _)) (fun h => ?_)
  rw [Bool.or_eq_false_iff] at h
  have hs := b2 (nb' h.1)
  have hpos : 0 < ms.length := by
    have := h.2
    rw [Md.encL_length] at this
    simp at this
    exact List.length_pos_iff.2 this
  obtain ⟨m, h0, _, h0'⟩ := idxOf (l := ms) (i := 0) hpos
  have h0 : idx ms 0 = some m := h0
  refine Ev.some h0 ?_
  have T := tailI hs ms f hms
  have hof := of_ev hs ms f hms
  cases hr : rightB sig m with
  | false =>
    have hit : Ev (fun k => mode_Item k sig m) (it0, 2) := by
      have hck : Ev (fun k => sign_Check k sig) 0 := by have := check_ev sig; rw [if_pos hs] at this; exact this
      have him := isMode_ev hs m
      rw [hr] at him
      exact Ev.succ (fun k => mode_Item.eq_2 ..) (hck.bind (Ev.f rfl (him.bind (Ev.t rfl (Ev.pure _)))))
    have hrt := right_ev hs m
    rw [hr] at hrt
    refine hit.bind (hof.bind (Ev.some h0 (hrt.bind (Ev.f rfl (Ev.f rfl (Ev.t rfl ?_))))))
    exact sameIt0_ev.bind (Ev.f rfl T)
  | true =>
    obtain ⟨d, hd, hk, hlen, h3⟩ := rightB_yes hr
    have hdm : d ∈ sig := List.mem_of_getElem? (idx_some hd).2
    have hp : Pr d.cls := (sigOK_proper hs).2 d hdm
    have hsf := (split_facts hp).2.2.2.2
    obtain ⟨hi0, hi1⟩ := sigOK_impM hs d hdm
    obtain ⟨imp, him⟩ : ∃ imp : Nat, d.implicit = (imp : Int) := ⟨d.implicit.toNat, by omega⟩
    have hit := item_ev hs hd hk him h3 hlen hr
    have hri := refItem_ev hs hd him h3 hlen
    have hrt := right_ev hs m
    rw [hr] at hrt
    refine hit.bind (hof.bind (Ev.some h0 (hrt.bind (Ev.t rfl (Ev.some h0 (hri.bind ?_))))))
    cases ha : agree d imp m.signs with
    | true =>
      exact Ev.t rfl ((sameItW_ev d _ (by rw [qsL_length]; simp; omega)).bind (Ev.f rfl (Ev.f rfl T)))
    | false =>
      exact Ev.f rfl (Ev.t rfl (sameIt0_ev.bind (Ev.f rfl T)))
end Go.Proofs.YtogicnodmgdnbaaGreatDoor
end

/-! RowLaid -/
section
namespace Go.Proofs.YtogicnodmgdnbaaGreatDoor
open Go.Tr Go
open Go.ChangeShapes Go.WideShapes Go.ChangeAt Go.RowKit
set_option maxRecDepth 10000

def cellsD : DataW Unit → Array Value
  | .agg l => (l.map fun | .lit (.int k n) => Value.int k n | _ => Value.int .i64 0).toArray
  | _ => #[]
def setCells (vs : Array Value) : Obj → Obj
  | .cells _ t frozen => .cells vs t frozen
  | o => o
noncomputable def laidWorld (os : Os) : World :=
  let w0 := World.holding Tryz.prog os ⟨#[], #[], []⟩
  { w0 with heap := ((w0.heap.modify 0 (setCells (cellsD Rows.laid_internal_strconv_uint64pow10))).modify 1 (setCells (cellsD Rows.laid_math_bits_deBruijn32tab))).modify 2 (setCells (cellsD Rows.laid_math_bits_deBruijn64tab)) }
theorem laidWorld_met (os : Os) (args : Array Value) : laidMet Tryz.prog Rows.modeItemsRow.laid ((laidWorld os).forCall (fun _ _ => 0) ⟨#[], args, []⟩).memory :=
  laidMet_of_run3 8 (by kernel_rfl) (by kernel_rfl) (by kernel_rfl)
end Go.Proofs.YtogicnodmgdnbaaGreatDoor
end

/-! RowMI -/
section
namespace Go.Proofs.YtogicnodmgdnbaaGreatDoor
open Go.Tr Go
open Go.ChangeShapes Go.WideShapes Go.ChangeAt Go.RowKit
set_option maxRecDepth 10000

theorem sigB_of {sig : List Dc} (h : okD (.sl 6 (Dc.encL sig))) : sigB sig := by
  simp only [okD] at h
  rw [Dc.encL_length] at h
  refine ⟨h.1, fun d hd => ?_⟩
  have h1 := okL_mem h.2 (List.mem_map_of_mem (f := Dc.enc) hd)
  simp only [okD, okL] at h1
  refine shT_of d.cls ?_
  rw [Tm.enc_eq]
  simp only [okD, okL]
  exact h1.2.1

theorem modeItems_spec (sig : List Dc) (l : List Md) (f : Int) (a2 : Option Addr) (c2 : Nat) (a4 : Option Addr) (c4 : Nat) :
    Pure Tryz.prog (fnS 4) [(.v (.slice a2 ((Dc.encL sig).length) c2)), (.v (.slice a4 ((Md.encL l).length) c4)), (.v (.int .i64 f))] [(.slice a2 ((Dc.encL sig).length) c2, .sl 6 (Dc.encL sig)), (.slice a4 ((Md.encL l).length) c4, .sl 2 (Md.encL l))] (fun r out => r = bS true ∧ out = []) := by
  refine Meets.of_ok fun hok => ?_
  have hb : sigB sig := sigB_of (hok _ (List.mem_cons_self ..))
  obtain ⟨N, h⟩ := modeItems_ev sig l f hb
  exact W14_ModeItems_spec N sig l f a2 c2 a4 c4 _ (h N (Nat.le_refl _))

set_option maxRecDepth 100000 in
theorem modeItems_lifted (os : Os) (started : os.Started) (H : Type) (enc : TypeId × Value → H) :
    ReturnsInHanded {} Tryz.checked os 4 .any (fun w args => (Rows.modeItemsSpec.pre enc Tryz.prog Tryz.f4 Rows.modeItemsRow.domain false w args ∧ laidMet Tryz.prog Rows.modeItemsRow.laid w) ∧ sizedMet enc Tryz.prog Tryz.f4 (OpenSpec.ofChange Rows.modeItemsSpec) false w args)
      (Rows.modeItemsSpec.post enc Tryz.prog Tryz.f4 false true false false) := by
  refine returnsInHanded_of_change_and (C := Tryz.checked) (X := fun w _ => laidMet Tryz.prog Rows.modeItemsRow.laid w) (fun _ _ _ hh h => h.of_heap hh) own started (by kernel_rfl) Tryz.func4
    (ChangeSpec.witness_at (enc := enc) (C := Tryz.checked) (os := os) (X := fun w _ => laidMet Tryz.prog Rows.modeItemsRow.laid w) false (laidWorld os) #[.slice none 0 0, .slice none 0 0, .int .i64 0] 8 rfl (by kernel_rfl) (by kernel_rfl) (by kernel_rfl) (by kernel_rfl) (by kernel_rfl) (laidWorld_met os _)) ?_
  intro W base args ds gs before hval0 hW _ hsz0 hL _
  have hsz : (DataW.weightsEach Tryz.prog (Tryz.f4.params.toList ++ Rows.modeItemsSpec.plain.varTypes Tryz.prog) (ds ++ gs)).all (· ≤ reachBytes) = true := hsz0
  clear hsz0
  have hval : ∀ (j : Nat) t v, Tryz.f4.params[j]? = some t → args[j]? = some v → Value.okWide Tryz.prog W .any base t v := hval0
  have hW' := hW
  obtain ⟨p, q, hA0, hV, rfl, _, _⟩ := hW
  have hA : DataW.TrodAll enc Tryz.prog W 0 (fun _ => true) true Tryz.f4.params.toList args.toList ds p := hA0
  rw [Tryz.params4] at hA hval
  have hsz : (DataW.weightsEach Tryz.prog ([22, 43, 3] ++ []) (ds ++ gs)).all (· ≤ reachBytes) = true := by
    have := hsz
    rw [Tryz.params4] at this
    exact this
  obtain ⟨v0, vs0, d0, ds0, p0, q0, ha0, rfl, rfl, h0, r0⟩ := trodAll_cons hA
  obtain ⟨v1, vs1, d1, ds1, p1, q1, rfl, rfl, rfl, h1, r1⟩ := trodAll_cons r0
  obtain ⟨v2, vs2, d2, ds2, p2, q2, rfl, rfl, rfl, h2, r2⟩ := trodAll_cons r1
  obtain ⟨rfl, rfl, rfl⟩ := trodAll_nil r2
  obtain ⟨rfl, rfl⟩ := trodVars_none hV
  obtain rfl : args = #[v0, v1, v2] := by rw [← Array.toList_inj, ha0]
  have hw := all_le hsz
  simp only [List.append_nil, DataW.weightsEach, List.mem_append] at hw
  obtain ⟨sig, a2, c2, rfl, e2⟩ := argl_Dc (hval 0 _ _ rfl rfl) h0 (fun y hy => hw y (.inl hy))
  obtain ⟨l, a4, c4, rfl, e4⟩ := argl_Md (hval 1 _ _ rfl rfl) h1 (fun y hy => hw y (.inr (.inl hy)))
  obtain ⟨f, rfl, _⟩ := arg_int (hval 2 _ _ rfl rfl) h2
  refine ((modeItems_spec sig l f a2 c2 a4 c4).calls Tryz.call4 (W := W) ?_).mono ?_
  · intro r hr
    simp only [List.mem_cons, List.not_mem_nil, or_false] at hr
    rcases hr with rfl | rfl
    · exact e2
    · exact e4
  rintro e W' ⟨r, out, rfl, ⟨rfl, rfl⟩, hx⟩
  refine ⟨_, rfl, post_true kids full hW' rfl ?_ ?_ (by kernel_rfl) Tryz.underlying4 hx⟩
  · rw [Tryz.params4]
    decide +kernel
  · intro ds hl
    rw [Tryz.params4] at hl
    match ds, hl with
    | [_, _, _], _ => rfl

theorem modeItems_holds : Rows.ModeItemsSaid :=
  OpenClaim.holds_of_wide 4 Tryz.f4 rfl rfl rfl rfl rfl rfl rfl ⟨rfl, rfl, rfl, rfl, rfl⟩ rfl rfl rfl rfl rfl (by kernel_rfl) Tryz.func4 (by kernel_rfl)
    (of_decide_eq_true (by kernel_rfl)) (by unfold Func.isWrapper; first | (rw [if_pos (by decide +kernel)]; kernel_rfl) | (rw [if_neg (by decide +kernel)]; exact ⟨rfl, rfl⟩))
    (fun os started H enc _ => modeItems_lifted os started H enc)
#print axioms modeItems_holds
end Go.Proofs.YtogicnodmgdnbaaGreatDoor
end

/-! CardMI -/
section
namespace Go.Proofs.YtogicnodmgdnbaaGreatDoor
open Go

theorem modeItemsCard_holds : Rows.ModeItemsCardSaid :=
  Claim7.holds_tied_plain_at .later [] [.data, .data, .data] true (true, "d068fd9bab5788f1b75df8f61cec510d30c2e2777fd536834d8297285ab7d35c") true
    modeItems_holds (fun _ h => by cases h) (by kernel_rfl) (fun _ h => by cases h) modeItems_row_tie rfl ⟨rfl, rfl⟩ (by kernel_rfl) rfl
    (fun f fn hf hfn => by
      obtain rfl : f = 4 := Option.some.inj ((show Tryz.prog.funcNamed "truss/trusslaw14.ModeItems" = some 4 by kernel_rfl).symm.trans hf) |>.symm
      obtain rfl : fn = Tryz.f4 := (Option.some.inj (Tryz.func4.symm.trans hfn)).symm
      exact ⟨by kernel_rfl, fun j t ht => by
        rw [Tryz.params4] at ht
        have h3 : t = 22 ∨ t = 43 ∨ t = 3 := by
          rcases j with _ | _ | _ | j
          · left; simpa using ht.symm
          · right; left; simpa using ht.symm
          · right; right; simpa using ht.symm
          · simp at ht
        rcases h3 with rfl | rfl | rfl
        · exact (show Tryz.prog.wantsStandIn 22 = false by kernel_rfl)
        · exact (show Tryz.prog.wantsStandIn 43 = false by kernel_rfl)
        · exact (show Tryz.prog.wantsStandIn 3 = false by kernel_rfl)⟩)
    (by kernel_rfl)
#print axioms modeItemsCard_holds
end Go.Proofs.YtogicnodmgdnbaaGreatDoor
end
