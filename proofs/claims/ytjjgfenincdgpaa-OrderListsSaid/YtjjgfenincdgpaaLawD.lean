/- Plain law: what is less has fewer nodes; an argument is less than what it stands in. No program in sight. -/
import Derived.Test.YtjjgfenincdgpaaLawC
namespace Go.Proofs.Ytjjgfenincdgpaa
open Go.Tr Go
set_option maxRecDepth 10000

mutual
theorem sameF_iff : ∀ (a b : Tm), sameF a b = true ↔ a = b
  | .mk o h n us, .mk o' h' n' vs => by
    simp only [sameF, Tm.op, Tm.hd, Tm.n, Tm.args, Bool.and_eq_true, beq_iff_eq, Tm.mk.injEq]
    constructor
    · rintro ⟨⟨⟨h1, h2⟩, h3⟩, h4, h5⟩
      exact ⟨h1, h2, h3, (sameL_iff us vs h4).1 h5⟩
    · rintro ⟨h1, h2, h3, h4⟩
      exact ⟨⟨⟨h1, h2⟩, h3⟩, by rw [h4], (sameL_iff us vs (by rw [h4])).2 h4⟩
theorem sameL_iff : ∀ (us vs : List Tm), us.length = vs.length → (sameL us vs = true ↔ us = vs)
  | [], [], _ => by simp [sameL]
  | u :: us, v :: vs, h => by
    simp only [sameL, Bool.and_eq_true, List.cons.injEq, sameF_iff u v, sameL_iff us vs (by simpa using h)]
  | [], _ :: _, h => by simp at h
  | _ :: _, [], h => by simp at h
 end

mutual
theorem isF_count (fx : Int) : ∀ (t u : Tm) (k : Int) (l : List Int), (isF fx t u k l).1 = true → t.count = u.count
  | .mk o h n us, u, k, l, hi => by
    simp only [isF] at hi
    split at hi
    · cases hi
    · rename_i hne
      have hlen : us.length = u.args.length := by omega
      split at hi
      · cases hi
      · rw [Tm.count_eq u]
        simp only [Tm.count]
        rw [isL_count fx o us u.args 0 k _ hlen hi]
theorem isL_count (fx : Int) : ∀ (o : Int) (us vs : List Tm) (i : Nat) (k : Int) (l : List Int), us.length = vs.length → (isL fx o us vs i k l).1 = true → Tm.countL us = Tm.countL vs
  | o, u :: us, v :: vs, i, k, l, hlen, hi => by
    simp only [isL] at hi
    have h1 := isF_count fx u v (k + under o i) l
    cases hf : isF fx u v (k + under o i) l with
    | mk b l' =>
      rw [hf] at h1 hi
      cases b with
      | false => cases hi
      | true =>
        simp only [Tm.countL]
        rw [h1 rfl, isL_count fx o us vs (i + 1) k l' (by simpa using hlen) hi]
  | _, [], [], _, _, _, _, _ => rfl
  | _, [], _ :: _, _, _, _, h, _ => by simp at h
  | _, _ :: _, [], _, _, _, h, _ => by simp at h
 end

theorem strip_count : ∀ (n : Nat) (t : Tm), t.height ≤ n → (stripF t).1.count ≤ t.count
  | 0, t, hn => by have := Tm.height_eq t; omega
  | n + 1, t, hn => by
    by_cases ho : t.op = 3
    · cases hargs : t.args with
      | nil =>
        cases t with
        | mk o hd m us =>
          simp only [Tm.op] at ho
          simp only [Tm.args] at hargs
          subst ho hargs
          simp [stripF, stripL]
      | cons v vs =>
        have hvm : v ∈ t.args := by rw [hargs]; simp
        have hht := Tm.height_le hvm
        have hhe := Tm.height_eq t
        rw [stripF_lam ho hargs]
        have := strip_count n v (by omega)
        rw [Tm.count_eq t, hargs]
        simp only [Tm.countL]
        omega
    · rw [stripF_no ho]; exact Nat.le_refl _

theorem less_count (fx : Int) (a : Tm) : ∀ (N : Nat),
    (∀ (us : List Tm) (many : Nat), Tm.heightL us ≤ N → okAllL us = true → anyF fx a us many = true → a.count ≤ Tm.countL us) ∧
    (∀ (u : Tm) (k many : Nat), u.height ≤ N → okAll u = true → lessF fx a u k many = true → a.count < u.count) := by
  intro N
  induction N with
  | zero =>
    refine ⟨?_, ?_⟩
    · intro us many hN _ h
      cases us with
      | nil => simp [anyF] at h
      | cons u us => have := Tm.height_pos u; simp only [Tm.heightL] at hN; omega
    · intro u k many hN; have := Tm.height_pos u; omega
  | succ N ih =>
    have hW : ∀ (u : Tm) (k many : Nat), u.height ≤ N + 1 → okAll u = true → lessF fx a u k many = true → a.count < u.count := by
      intro u k many hN hou h
      obtain ⟨hs1, hs2, hs3⟩ := stripF_spec u.height u (Nat.le_refl _) hou
      have hsc := strip_count u.height u (Nat.le_refl _)
      rw [lessF_strip fx a u.height u (Nat.le_refl _) (okAll_lamOK u hou) k many, lessF_no fx a hs1] at h
      split at h
      · cases h
      · generalize (stripF u).1 = m at hs1 hs2 hs3 hsc h
        have hus : okAllL m.args = true := by cases m; simp only [okAll, Bool.and_eq_true] at hs3; exact hs3.2
        have hhe := Tm.height_eq m
        have := ih.1 m.args _ (by omega) hus h
        have := Tm.count_eq m
        omega
    refine ⟨?_, hW⟩
    intro us
    induction us with
    | nil => intro many _ _ h; simp [anyF] at h
    | cons u us ihu =>
      intro many hN hus h
      simp only [Tm.heightL] at hN
      simp only [okAllL, Bool.and_eq_true] at hus
      rw [anyF_cons, Bool.or_eq_true] at h
      simp only [Tm.countL]
      have hp := Tm.count_pos u
      rcases h with h | h
      · rw [inB, Bool.or_eq_true] at h
        have hsc := strip_count u.height u (Nat.le_refl _)
        rcases h with h | h
        · have := isF_count fx a u 0 _ h
          omega
        · split at h
          · cases h
          · rw [Bool.or_eq_true, Bool.and_eq_true] at h
            rcases h with ⟨_, h⟩ | h
            · have := isF_count fx a _ 0 _ h
              omega
            · have := hW u 0 many (by omega) hus.1 h
              omega
      · have := ihu many (by omega) hus.2 h
        omega

/-- What is less has fewer nodes. -/
theorem cmpF_two {fx : Int} {a b : Tm} (hb : okAll b = true) (h : cmpF fx a b = 2) : a.count < b.count ∧ lessF fx a b 0 0 = true := by
  unfold cmpF at h
  split at h
  · cases h
  · split at h
    · rename_i hl
      exact ⟨(less_count fx a b.height).2 b 0 0 (Nat.le_refl _) hb hl, hl⟩
    · cases h

theorem cmpF_cases (fx : Int) (a b : Tm) : cmpF fx a b = 0 ∨ cmpF fx a b = 1 ∨ cmpF fx a b = 2 := by
  unfold cmpF
  split
  · exact .inr (.inl rfl)
  · split
    · exact .inr (.inr rfl)
    · exact .inl rfl

theorem cmpF_one (fx : Int) (a b : Tm) : cmpF fx a b = 1 ↔ a = b := by
  rw [← sameF_iff]
  unfold cmpF
  split
  · rename_i h; simp [h]
  · rename_i h
    split <;> simp [h]

mutual
/-- An object is the same as itself. -/
theorem isF_refl (fx : Int) : ∀ (t : Tm) (k : Int), 0 ≤ k → okAll t = true → isF fx t t k [] = (true, [])
  | .mk o h n us, k, hk, hok => by
    have hus : okAllL us = true := by simp only [okAll, Bool.and_eq_true] at hok; exact hok.2
    have he := isF_eq fx (.mk o h n us) (.mk o h n us) k []
    have hno : ¬ (((Tm.mk o h n us).op ≠ (Tm.mk o h n us).op ∨ (Tm.mk o h n us).hd ≠ (Tm.mk o h n us).hd) ∨ (Tm.mk o h n us).args.length ≠ (Tm.mk o h n us).args.length) := by
      rintro ((h1 | h1) | h1) <;> exact h1 rfl
    rw [if_neg hno] at he
    have hv : (if o = 4 ∧ h = 1 then varF fx n n k [] else (n == n, [])) = (true, []) := by
      split
      · unfold varF
        split
        · simp
        · rename_i h1
          rw [if_pos (by simp; omega)]
          have : decide (n ≥ k) = true := decide_eq_true (by omega)
          rw [this]
          simp
      · simp
    have hv2 : (if (Tm.mk o h n us).op = 4 ∧ (Tm.mk o h n us).hd = 1 then varF fx (Tm.mk o h n us).n (Tm.mk o h n us).n k [] else ((Tm.mk o h n us).n == (Tm.mk o h n us).n, [])) = (true, []) := hv
    rw [hv2] at he
    rw [he]
    exact isL_refl fx o us 0 k hk hus
theorem isL_refl (fx : Int) : ∀ (o : Int) (us : List Tm) (i : Nat) (k : Int), 0 ≤ k → okAllL us = true → isL fx o us us i k [] = (true, [])
  | o, [], i, k, _, _ => by simp [isL]
  | o, u :: us, i, k, hk, hok => by
    simp only [okAllL, Bool.and_eq_true] at hok
    have hu := under_le o i
    simp only [isL, isF_refl fx u (k + under o i) (by omega) hok.1]
    exact isL_refl fx o us (i + 1) k hk hok.2
 end

theorem inB_refl (fx : Int) (a : Tm) (ha : okAll a = true) : inB fx a a 0 = true := by
  rw [inB, isB]
  simp only [List.replicate_zero, isF_refl fx a 0 (by omega) ha]
  rfl

theorem inB_less {fx : Int} {a u : Tm} (hu : okAll u = true) (h : lessF fx a u 0 0 = true) : inB fx a u 0 = true := by
  obtain ⟨hs1, hs2, hs3⟩ := stripF_spec u.height u (Nat.le_refl _) hu
  have h2 := h
  rw [lessF_strip fx a u.height u (Nat.le_refl _) (okAll_lamOK u hu) 0 0, lessF_no fx a hs1, Nat.zero_add] at h2
  split at h2
  · cases h2
  · rename_i hno
    rw [inB, if_neg (fun hh => hno (.inl (.inl hh))), h]
    simp

/-- What stands among the arguments of a TApp of a constant is less. -/
theorem less_app (fx : Int) (a : Tm) (h n : Int) (us : List Tm) (hh : h = 2) (hin : anyF fx a us 0 = true) : lessF fx a (.mk 4 h n us) 0 0 = true := by
  subst hh
  simp only [lessF]
  rw [if_neg (by decide), if_neg]
  · exact hin
  · rintro (((⟨h1, _⟩ | h1) | h1) | ⟨h1, _⟩)
    · exact absurd h1 (by decide)
    · exact h1 rfl
    · exact absurd h1 (by decide)
    · exact absurd h1 (by decide)
end Go.Proofs.Ytjjgfenincdgpaa
