/- Plain law: what is less remains so with a further fixed variable. No program in sight. -/
import Derived.Test.YtjjgfenincdgpaaLawE
namespace Go.Proofs.Ytjjgfenincdgpaa
open Go.Tr Go
set_option maxRecDepth 10000

/-- A term with all variables from f on greater by one. -/
abbrev sh (t : Tm) (f : Int) : Tm := movedF t 1 f

theorem sh_op (t : Tm) (f : Int) : (sh t f).op = t.op := by cases t; rfl
theorem sh_hd (t : Tm) (f : Int) : (sh t f).hd = t.hd := by cases t; rfl
theorem sh_args (t : Tm) (f : Int) : (sh t f).args = movedL t.op t.args 0 1 f := by cases t; rfl
theorem sh_n {t : Tm} (h : okAll t = true) (f : Int) : (sh t f).n = if (t.op = 4 ∧ t.hd = 1) ∧ t.n ≥ f then t.n + 1 else t.n := by
  have hn := okAll_n h
  have hw : IntKind.i64.wrap (t.n + 1) = t.n + 1 := wrap_i64 (by omega) (by omega)
  have : (sh t f).n = if (t.op = 4 ∧ t.hd = 1) ∧ t.n ≥ f then IntKind.i64.wrap (t.n + 1) else t.n := by cases t; rfl
  rw [this, hw]

mutual
theorem sh_count : ∀ (t : Tm) (f : Int), (sh t f).count = t.count
  | .mk o h n us, f => by simp only [sh, movedF, Tm.count, sh_countL us o 0 f]
theorem sh_countL : ∀ (us : List Tm) (o : Int) (i : Nat) (f : Int), Tm.countL (movedL o us i 1 f) = Tm.countL us
  | [], o, i, f => rfl
  | u :: us, o, i, f => by
    have := sh_count u (f + under o i)
    simp only [sh] at this
    simp only [movedL, Tm.countL, this, sh_countL us o (i + 1) f]
 end

/-- What stands for a variable, with a further fixed one. -/
def up (y : Int) : Int := if y < 0 then y else y + 1

theorem up_getD (l : List Int) (j : Nat) : (l.map up).getD j 0 = if j < l.length then up (l.getD j 0) else 0 := by
  simp only [List.getD_eq_getElem?_getD, List.getElem?_map]
  by_cases h : j < l.length
  · rw [if_pos h, List.getElem?_eq_getElem h]; rfl
  · rw [if_neg h, List.getElem?_eq_none (by omega)]; rfl

theorem var_sh (fx a b k : Int) (l l' : List Int) (hv : varF fx a b k l = (true, l')) :
    varF (fx + 1) (if a ≥ k then a + 1 else a) (if b ≥ k + l.length then b + 1 else b) k (l.map up) = (true, l'.map up) := by
  unfold varF at hv
  split at hv
  · rename_i h1
    simp only [Prod.mk.injEq, beq_iff_eq] at hv
    obtain ⟨rfl, rfl⟩ := hv
    rw [if_neg (by omega), if_neg (by omega), varF, if_pos h1]
    simp
  · rename_i h1
    split at hv
    · rename_i h2
      simp only [Prod.mk.injEq, Bool.and_eq_true, decide_eq_true_eq, beq_iff_eq] at hv
      obtain ⟨⟨h3, h4⟩, rfl⟩ := hv
      rw [if_pos h3, if_pos (by omega), varF, if_neg (by omega), if_pos (by rw [List.length_map]; omega)]
      have e1 : decide (a + 1 ≥ k) = true := decide_eq_true (by omega)
      have e2 : (a + 1 - k == b + 1 - k - ((l.map up).length : Int)) = true := by rw [beq_iff_eq, List.length_map]; omega
      rw [e1, e2]; rfl
    · rename_i h2
      split at hv
      · cases hv
      · rename_i h3
        simp only [Prod.mk.injEq, true_and] at hv
        subst hv
        have hlt : (b - k).toNat < l.length := by omega
        rw [if_pos (by omega), if_neg (by omega), varF, if_neg h1, if_neg (by rw [List.length_map]; exact h2), up_getD, if_pos hlt, if_neg]
        · rw [List.map_set]
          have : up (a - k) = a + 1 - k := by rw [up, if_neg (by omega)]; omega
          rw [this]
        · rintro ((h4 | h4) | ⟨h4, h5⟩)
          · omega
          · omega
          · unfold up at h4 h5
            split at h4
            · omega
            · rename_i h6
              rw [if_neg h6] at h5
              exact h3 (.inr ⟨by omega, by omega⟩)

theorem isF_mk (fx o h n o' h' n' : Int) (us vs : List Tm) (k : Int) (l : List Int) : isF fx (.mk o h n us) (.mk o' h' n' vs) k l = if (o ≠ o' ∨ h ≠ h') ∨ us.length ≠ vs.length then (false, l) else
      match (if o = 4 ∧ h = 1 then varF fx n n' k l else (n == n', l)) with
      | (false, l') => (false, l')
      | (true, l') => isL fx o us vs 0 k l' := rfl

theorem sh_mk {o h n : Int} {us : List Tm} (hok : okAll (.mk o h n us) = true) (f : Int) : sh (.mk o h n us) f = .mk o h (if (o = 4 ∧ h = 1) ∧ n ≥ f then n + 1 else n) (movedL o us 0 1 f) := by
  have h1 := sh_n hok f
  have h2 : sh (.mk o h n us) f = .mk o h (sh (.mk o h n us) f).n (movedL o us 0 1 f) := rfl
  rw [h2, h1]
  rfl

mutual
theorem is_sh (fx : Int) : ∀ (t u : Tm) (k : Int) (l l' : List Int), okAll t = true → okAll u = true → 0 ≤ k → isF fx t u k l = (true, l') → isF (fx + 1) (sh t k) (sh u (k + l.length)) k (l.map up) = (true, l'.map up)
  | .mk o h n us, .mk o' h' n' vs, k, l, l', hot, hou, hk, hi => by
    have hus : okAllL us = true := by simp only [okAll, Bool.and_eq_true] at hot; exact hot.2
    have huu : okAllL vs = true := by simp only [okAll, Bool.and_eq_true] at hou; exact hou.2
    have hvl := varF_length fx n n' k l
    rw [sh_mk hot, sh_mk hou, isF_mk]
    rw [isF_mk] at hi
    by_cases hne : (o ≠ o' ∨ h ≠ h') ∨ us.length ≠ vs.length
    · rw [if_pos hne] at hi; cases hi
    rw [if_neg hne] at hi
    rw [movedL_length, movedL_length, if_neg hne]
    have ho : o' = o := by omega
    have hh : h' = h := by omega
    rw [ho, hh]
    by_cases hv : o = 4 ∧ h = 1
    · rw [if_pos hv] at hi ⊢
      cases hvf : varF fx n n' k l with
      | mk b l1 =>
        rw [hvf] at hi hvl
        cases b with
        | false => cases hi
        | true =>
          simp only at hi hvl
          have h1 := var_sh fx n n' k l l1 hvf
          have e1 : (if (o = 4 ∧ h = 1) ∧ n ≥ k then n + 1 else n) = (if n ≥ k then n + 1 else n) := by simp [hv]
          have e2 : (if (o = 4 ∧ h = 1) ∧ n' ≥ k + l.length then n' + 1 else n') = (if n' ≥ k + l.length then n' + 1 else n') := by simp [hv]
          rw [e1, e2, h1]
          simp only
          have h2 := is_shL fx o us vs 0 k l1 l' hus huu hk hi
          rw [hvl] at h2
          exact h2
    · rw [if_neg hv] at hi ⊢
      have e1 : (if (o = 4 ∧ h = 1) ∧ n ≥ k then n + 1 else n) = n := if_neg (fun hh => hv hh.1)
      have e2 : (if (o = 4 ∧ h = 1) ∧ n' ≥ k + l.length then n' + 1 else n') = n' := if_neg (fun hh => hv hh.1)
      rw [e1, e2]
      cases hn : n == n' with
      | false => rw [hn] at hi; cases hi
      | true =>
        rw [hn] at hi
        simp only at hi ⊢
        exact is_shL fx o us vs 0 k l l' hus huu hk hi
theorem is_shL (fx : Int) : ∀ (o : Int) (us vs : List Tm) (i : Nat) (k : Int) (l l' : List Int), okAllL us = true → okAllL vs = true → 0 ≤ k → isL fx o us vs i k l = (true, l') → isL (fx + 1) o (movedL o us i 1 k) (movedL o vs i 1 (k + l.length)) i k (l.map up) = (true, l'.map up)
  | o, u :: us, v :: vs, i, k, l, l', hus, hvs, hk, hi => by
    simp only [okAllL, Bool.and_eq_true] at hus hvs
    have hu := under_le o i
    simp only [isL] at hi
    cases hf : isF fx u v (k + under o i) l with
    | mk b l1 =>
      rw [hf] at hi
      cases b with
      | false => cases hi
      | true =>
        simp only at hi
        have h1 := is_sh fx u v (k + under o i) l l1 hus.1 hvs.1 (by omega) hf
        have hl1 := isF_length fx u v (k + under o i) l
        rw [hf] at hl1
        simp only at hl1
        have h2 := is_shL fx o us vs (i + 1) k l1 l' hus.2 hvs.2 hk hi
        rw [hl1] at h2
        have e : k + (l.length : Int) + under o i = k + under o i + l.length := by omega
        simp only [sh] at h1
        simp only [movedL, isL, e, h1]
        exact h2
  | o, [], [], i, k, l, l', _, _, _, hi => by
    simp only [isL, Prod.mk.injEq, true_and] at hi
    subst hi
    simp [movedL, isL]
  | o, [], v :: vs, i, k, l, l', _, _, _, hi => by
    simp only [isL, Prod.mk.injEq, true_and] at hi
    subst hi
    simp [movedL, isL]
  | o, u :: us, [], i, k, l, l', _, _, _, hi => by
    simp only [isL, Prod.mk.injEq, true_and] at hi
    subst hi
    simp [movedL, isL]
 end

theorem isB_sh {fx : Int} {a x : Tm} {many : Nat} (ha : okAll a = true) (hx : okAll x = true) (h : isB fx a x many = true) : isB (fx + 1) (sh a 0) (sh x many) many = true := by
  unfold isB at h ⊢
  cases hf : isF fx a x 0 (List.replicate many (-1)) with
  | mk b l' =>
    rw [hf] at h
    simp only at h
    subst h
    have h1 := is_sh fx a x 0 _ l' ha hx (by omega) hf
    have e : (List.replicate many (-1)).map up = List.replicate many (-1) := by simp [up]
    simp only [List.length_replicate, Int.zero_add, e] at h1
    rw [h1]

mutual
theorem sh_height : ∀ (t : Tm) (f : Int), (sh t f).height = t.height
  | .mk o h n us, f => by simp only [sh, movedF, Tm.height, sh_heightL us o 0 f]
theorem sh_heightL : ∀ (us : List Tm) (o : Int) (i : Nat) (f : Int), Tm.heightL (movedL o us i 1 f) = Tm.heightL us
  | [], o, i, f => rfl
  | u :: us, o, i, f => by
    have := sh_height u (f + under o i)
    simp only [sh] at this
    simp only [movedL, Tm.heightL, this, sh_heightL us o (i + 1) f]
 end

theorem sh_strip : ∀ (n : Nat) (t : Tm), t.height ≤ n → okAll t = true → ∀ (f : Int), stripF (sh t f) = (sh (stripF t).1 (f + (stripF t).2), (stripF t).2)
  | 0, t, hn, _, _ => by have := Tm.height_eq t; omega
  | n + 1, t, hn, hl, f => by
    by_cases ho : t.op = 3
    · obtain ⟨v, vs, hargs⟩ : ∃ v vs, t.args = v :: vs := List.exists_cons_of_ne_nil (lamOK_ne (okAll_lamOK t hl) ho)
      have hvm : v ∈ t.args := by rw [hargs]; simp
      have hht := Tm.height_le hvm
      have hhe := Tm.height_eq t
      have ih := sh_strip n v (by omega) (okAll_arg hl hvm) (f + 1)
      have hsa : (sh t f).args = sh v (f + 1) :: movedL 3 vs 1 1 f := by rw [sh_args, hargs, ho]; rfl
      rw [stripF_lam (by rw [sh_op]; exact ho) hsa, stripF_lam ho hargs, ih]
      simp only [Prod.mk.injEq, and_true]
      congr 1
      omega
    · rw [stripF_no ho, stripF_no (by rw [sh_op]; exact ho)]
      simp

theorem movedL_four : ∀ (us : List Tm) (i : Nat) (f : Int), movedL 4 us i 1 f = us.map fun x => sh x f
  | [], _, _ => rfl
  | u :: us, i, f => by simp only [movedL, under_four, Int.add_zero, List.map_cons, movedL_four us (i + 1) f]

mutual
theorem sh_lamOK : ∀ (t : Tm) (f : Int), lamOK t = true → lamOK (sh t f) = true
  | .mk o h n us, f, hl => by
    simp only [lamOK, Bool.and_eq_true, Bool.or_eq_true] at hl
    simp only [sh, movedF, lamOK, Bool.and_eq_true, Bool.or_eq_true]
    refine ⟨?_, sh_lamOKL us o 0 f hl.2⟩
    rcases hl.1 with h1 | h1
    · exact .inl h1
    · right
      cases us with
      | nil => simp at h1
      | cons u us => rfl
theorem sh_lamOKL : ∀ (us : List Tm) (o : Int) (i : Nat) (f : Int), lamOKL us = true → lamOKL (movedL o us i 1 f) = true
  | [], _, _, _, _ => rfl
  | u :: us, o, i, f, hl => by
    simp only [lamOKL, Bool.and_eq_true] at hl
    simp only [movedL, lamOKL, Bool.and_eq_true]
    exact ⟨sh_lamOK u (f + under o i) hl.1, sh_lamOKL us o (i + 1) f hl.2⟩
 end

/-- What is less remains so with a further fixed variable. -/
theorem less_sh (fx : Int) (a : Tm) (ha : okAll a = true) (hf : 0 ≤ fx) : ∀ (N : Nat),
    (∀ (us : List Tm) (many : Nat), Tm.heightL us ≤ N → okAllL us = true → anyF fx a us many = true → anyF (fx + 1) (sh a 0) (us.map fun x => sh x many) many = true) ∧
    (∀ (u : Tm) (k many : Nat), u.height ≤ N → okAll u = true → u.op ≠ 3 → lessF fx a u k many = true → lessF (fx + 1) (sh a 0) (sh u ((many + k : Nat) : Int)) k many = true) := by
  intro N
  induction N with
  | zero =>
    refine ⟨?_, ?_⟩
    · intro us many hN _ h
      cases us with
      | nil => simp [anyF] at h
      | cons u us => have := Tm.height_pos u; simp only [Tm.heightL] at hN; omega
    · intro u k many hN; have := Tm.height_pos u; omega
  | succ N ih =>
    have hW : ∀ (u : Tm) (k many : Nat), u.height ≤ N + 1 → okAll u = true → u.op ≠ 3 → lessF fx a u k many = true → lessF (fx + 1) (sh a 0) (sh u ((many + k : Nat) : Int)) k many = true := by
      intro u k many hN hou h3 h
      have hhe := Tm.height_eq u
      have hun := okAll_n hou
      rw [lessF_no fx a h3] at h
      rw [lessF_no _ _ (by rw [sh_op]; exact h3)]
      split at h
      · cases h
      · rename_i hno
        have ho : u.op = 4 := by
          rcases Decidable.em (u.op = 4) with h1 | h1
          · exact h1
          · exact absurd (.inl (.inl (.inr h1))) hno
        rw [if_neg]
        · have hus : okAllL u.args = true := by cases u; simp only [okAll, Bool.and_eq_true] at hou; exact hou.2
          rw [sh_args, ho, movedL_four]
          exact ih.1 u.args (many + k) (by omega) hus h
        · rw [sh_op, sh_hd, sh_n hou]
          rintro (((⟨_, h1⟩ | h1) | h1) | ⟨h1, h2⟩)
          · omega
          · exact h1 ho
          · exact hno (.inl (.inr h1))
          · refine hno (.inr ⟨h1, ?_⟩)
            split at h2 <;> omega
    refine ⟨?_, hW⟩
    intro us
    induction us with
    | nil => intro many _ _ h; simp [anyF] at h
    | cons u us ihu =>
      intro many hN hus h
      simp only [Tm.heightL] at hN
      simp only [okAllL, Bool.and_eq_true] at hus
      obtain ⟨hou, hus⟩ := hus
      rw [anyF_cons, Bool.or_eq_true] at h
      rw [List.map_cons, anyF_cons, Bool.or_eq_true]
      rcases h with h | h
      · left
        rw [inB, Bool.or_eq_true] at h ⊢
        rcases h with h | h
        · exact .inl (isB_sh ha hou h)
        · right
          obtain ⟨hs1, hs2, hs3⟩ := stripF_spec u.height u (Nat.le_refl _) hou
          have hss := sh_strip u.height u (Nat.le_refl _) hou many
          have hls := lessF_strip fx a u.height u (Nat.le_refl _) (okAll_lamOK u hou) 0 many
          have hlo : lamOK (sh u many) = true := sh_lamOK u many (okAll_lamOK u hou)
          have hls2 := lessF_strip (fx + 1) (sh a 0) (sh u many).height (sh u many) (Nat.le_refl _) hlo 0 many
          rw [Nat.zero_add] at hls hls2
          rw [hss] at hls2 ⊢
          simp only at hls2 ⊢
          rw [hls2, sh_op]
          rw [hls] at h
          generalize (stripF u).1 = m at hs1 hs2 hs3 h ⊢
          generalize (stripF u).2 = k at hs2 h ⊢
          split at h
          · cases h
          · rename_i hno
            rw [if_neg (by rintro (⟨_, h1⟩ | h1); omega; exact hno (.inr h1))]
            rw [Bool.or_eq_true, Bool.and_eq_true] at h ⊢
            have ec : (many : Int) + k = ((many + k : Nat) : Int) := by omega
            rw [ec]
            rcases h with ⟨h1, h2⟩ | h
            · exact .inl ⟨h1, isB_sh ha hs3 h2⟩
            · exact .inr (hW m k many (by omega) hs3 hs1 h)
      · exact .inr (ihu many (by omega) hus h)
end Go.Proofs.Ytjjgfenincdgpaa
