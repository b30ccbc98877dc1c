/- Plain law: what order.compare answers is what trussref15.Compare answers, at terms that are built as terms are. No program in sight. -/
import Derived.Test.YtjjgfenincdgpaaOrders
namespace Go.Proofs.Ytjjgfenincdgpaa
open Go.Tr Go
set_option maxRecDepth 10000

theorem lookI_putI (n v : Int) : ∀ (l : List (Int × Int)) (m : Int), lookI (putI n v l) m = if m = n then some v else lookI l m
  | [], m => by simp only [putI, lookI]
  | (k, u) :: r, m => by
    simp only [putI]
    by_cases h : n = k
    · subst h
      rw [if_pos rfl]
      simp only [lookI]
      split <;> rfl
    · rw [if_neg h]
      simp only [lookI, lookI_putI n v r m]
      by_cases h2 : m = k
      · rw [if_pos h2, if_neg (by omega)]; simp [h2]
      · rw [if_neg h2]; simp [h2]

/-- What is chosen, as the program and the reference keep it. -/
structure Rel (st : Nat) (ch : List (Int × Int)) (l : List Int) : Prop where
  len : l.length = st
  none : ∀ y : Nat, y < st → lookI ch y = none → l.getD y 0 = -1
  some : ∀ (y : Nat) (x : Int), y < st → lookI ch y = some x → l.getD y 0 = x ∧ 0 ≤ x

theorem getD_set {l : List Int} {i j : Nat} {x : Int} (h : i < l.length) : (l.set i x).getD j 0 = if j = i then x else l.getD j 0 := by
  simp only [List.getD_eq_getElem?_getD, List.getElem?_set]
  by_cases hj : i = j
  · subst hj; simp [h]
  · rw [if_neg hj, if_neg (by omega)]

theorem Rel.put {st : Nat} {ch : List (Int × Int)} {l : List Int} (h : Rel st ch l) (y : Nat) (x : Int) (hy : y < st) (hx : 0 ≤ x) : Rel st (putI y x ch) (l.set y x) := by
  have hl := h.len
  refine ⟨by rw [List.length_set, hl], ?_, ?_⟩
  · intro z hz hn
    rw [lookI_putI] at hn
    split at hn
    · cases hn
    · rename_i hne
      rw [getD_set (by omega), if_neg (by omega)]
      exact h.none z hz hn
  · intro z w hz hn
    rw [lookI_putI] at hn
    split at hn
    · rename_i he
      cases hn
      rw [getD_set (by omega), if_pos (by omega)]
      exact ⟨rfl, hx⟩
    · rename_i hne
      rw [getD_set (by omega), if_neg (by omega)]
      exact h.some z w hz hn

theorem head_var {st : Nat} {ch : List (Int × Int)} {l : List Int} (h : Rel st ch l) (fx n m k : Int) (hn0 : 0 ≤ n) (hn1 : n ≤ 9999) (hm0 : 0 ≤ m) (hm1 : m ≤ 9999) (hk0 : 0 ≤ k) (hk1 : k ≤ 1000000) (hst : st ≤ 1000000) :
    (headF st fx 4 1 n m k ch = none ∧ (varF fx n m k l).1 = false) ∨ ∃ ch' l', headF st fx 4 1 n m k ch = some ch' ∧ varF fx n m k l = (true, l') ∧ Rel st ch' l' := by
  have hl := h.len
  have w1 : IntKind.i64.wrap (n - k) = n - k := wrap_i64 (by omega) (by omega)
  have w2 : IntKind.i64.wrap (m - k) = m - k := wrap_i64 (by omega) (by omega)
  have w3 : IntKind.i64.wrap (m - k - st) = m - k - st := wrap_i64 (by omega) (by omega)
  by_cases hkm : k ≤ m
  · have eH : headF st fx 4 1 n m k ch = if n - k < 0 then none
      else if st ≤ m - k ∧ n - k ≠ m - k - st then none
      else if m - k < st then
        if fx ≤ n - k then none
        else match lookI ch (m - k) with
          | some old => if old ≠ n - k then none else some (putI (m - k) (n - k) ch)
          | none => some (putI (m - k) (n - k) ch)
      else some ch := by
      simp only [headF, w1, w2, w3]
      rw [if_pos ⟨trivial, trivial, hkm⟩]
      rfl
    have eV : varF fx n m k l = if m - k ≥ l.length then (decide (n ≥ k) && (n - k == m - k - l.length), l) else
      if (n - k < 0 ∨ n - k ≥ fx) ∨ (l.getD (m - k).toNat 0 ≥ 0 ∧ l.getD (m - k).toNat 0 ≠ n - k) then (false, l) else (true, l.set (m - k).toNat (n - k)) := by
      rw [varF, if_neg (by omega)]
    by_cases hx : n - k < 0
    · rw [if_pos hx] at eH
      refine .inl ⟨eH, ?_⟩
      by_cases hy : m - k ≥ l.length
      · rw [eV, if_pos hy]
        simp; omega
      · rw [eV, if_neg hy, if_pos (.inl (.inl hx))]
    · rw [if_neg hx] at eH
      by_cases hy : m - k ≥ l.length
      · rw [if_pos hy] at eV
        by_cases he : n - k = m - k - st
        · rw [if_neg (by omega), if_neg (by omega)] at eH
          refine .inr ⟨ch, l, eH, ?_, h⟩
          have e1 : decide (n ≥ k) = true := decide_eq_true (by omega)
          have e2 : (n - k == m - k - (l.length : Int)) = true := by rw [beq_iff_eq]; omega
          rw [eV, e1, e2]; rfl
        · rw [if_pos ⟨by omega, he⟩] at eH
          refine .inl ⟨eH, ?_⟩
          have e2 : (n - k == m - k - (l.length : Int)) = false := by rw [beq_eq_false_iff_ne]; omega
          rw [eV, e2, Bool.and_false]
      · rw [if_neg hy] at eV
        rw [if_neg (by omega), if_pos (by omega)] at eH
        have hyn : m - k = ((m - k).toNat : Int) := by omega
        have hlt : (m - k).toNat < st := by omega
        by_cases hfx : fx ≤ n - k
        · rw [if_pos hfx] at eH
          rw [if_pos (.inl (.inr hfx))] at eV
          exact .inl ⟨eH, by rw [eV]⟩
        · rw [if_neg hfx] at eH
          rw [hyn] at eH eV
          simp only [Int.toNat_natCast] at eV
          cases hlk : lookI ch ((m - k).toNat : Int) with
          | none =>
            have hz := h.none _ hlt hlk
            rw [hlk] at eH
            rw [hz, if_neg (by omega)] at eV
            exact .inr ⟨_, _, eH, eV, h.put _ _ hlt (by omega)⟩
          | some old =>
            obtain ⟨hz, hz0⟩ := h.some _ _ hlt hlk
            rw [hlk] at eH
            simp only at eH
            rw [hz] at eV
            by_cases ho : old = n - k
            · rw [if_neg (by simpa using ho)] at eH
              rw [if_neg (by omega)] at eV
              exact .inr ⟨_, _, eH, eV, h.put _ _ hlt (by omega)⟩
            · rw [if_pos ho] at eH
              rw [if_pos (.inr ⟨hz0, ho⟩)] at eV
              exact .inl ⟨eH, by rw [eV]⟩
  · have eH : headF st fx 4 1 n m k ch = if n ≠ m then none else some ch := by rw [headF, if_neg (by rintro ⟨_, _, h3⟩; exact hkm h3)]
    have eV : varF fx n m k l = (n == m, l) := by rw [varF, if_pos (by omega)]
    by_cases he : n = m
    · rw [if_neg (by simpa using he)] at eH
      exact .inr ⟨ch, l, eH, by rw [eV]; simp [he], h⟩
    · rw [if_pos he] at eH
      exact .inl ⟨eH, by rw [eV]; simpa using he⟩

theorem head_no {st fx : Int} {o h n m k : Int} {ch : List (Int × Int)} (hno : ¬ (o = 4 ∧ h = 1)) : headF st fx o h n m k ch = if n ≠ m then none else some ch := by
  rw [headF, if_neg (by rintro ⟨h1, h2, _⟩; exact hno ⟨h1, h2⟩)]

mutual
theorem match_is (fx : Int) (st : Nat) (hst : st ≤ 1000000) : ∀ (t u : Tm) (k : Int) (ch : List (Int × Int)) (l : List Int), okAll t = true → okAll u = true → 0 ≤ k → k + t.height ≤ 1000000 → Rel st ch l →
    ((matchF st fx t u k ch).1 = false ∧ (isF fx t u k l).1 = false) ∨ ∃ ch' l', matchF st fx t u k ch = (true, ch') ∧ isF fx t u k l = (true, l') ∧ Rel st ch' l'
  | .mk o h n us, u, k, ch, l, hot, hou, hk0, hk1, hR => by
    have htn := okAll_n hot
    have hun := okAll_n hou
    simp only [Tm.n] at htn
    have hus : okAllL us = true := by simp only [okAll, Bool.and_eq_true] at hot; exact hot.2
    have huu : okAllL u.args = true := by cases u; simp only [okAll, Bool.and_eq_true] at hou; exact hou.2
    have hth : Tm.heightL us + 1 = (Tm.mk o h n us).height := by simp only [Tm.height]
    simp only [matchF, isF]
    by_cases h1 : o ≠ u.op ∨ h ≠ u.hd ∨ us.length ≠ u.args.length
    · rw [if_pos h1, if_pos (by rcases h1 with h1 | h1 | h1; exact .inl (.inl h1); exact .inl (.inr h1); exact .inr h1)]
      exact .inl ⟨rfl, rfl⟩
    · rw [if_neg h1, if_neg (by rintro ((h2 | h2) | h2); exact h1 (.inl h2); exact h1 (.inr (.inl h2)); exact h1 (.inr (.inr h2)))]
      by_cases h2 : o = 4 ∧ h = 1
      · rw [if_pos h2]
        obtain ⟨rfl, rfl⟩ := h2
        rcases head_var hR fx n u.n k htn.1 htn.2 hun.1 hun.2 hk0 (by omega) hst with ⟨e1, e2⟩ | ⟨ch', l', e1, e2, hR'⟩
        · rw [e1]
          cases hv : varF fx n u.n k l with
          | mk b l' =>
            rw [hv] at e2
            simp only at e2
            subst e2
            exact .inl ⟨rfl, rfl⟩
        · rw [e1, e2]
          exact match_isL fx st hst 4 us u.args 0 k ch' l' hus huu hk0 (by omega) hR'
      · rw [if_neg h2, head_no h2]
        by_cases h3 : n = u.n
        · rw [if_neg (by simpa using h3)]
          have : (n == u.n) = true := by simpa using h3
          rw [this]
          exact match_isL fx st hst o us u.args 0 k ch l hus huu hk0 (by omega) hR
        · rw [if_pos h3]
          have : (n == u.n) = false := by simpa using h3
          rw [this]
          exact .inl ⟨rfl, rfl⟩
theorem match_isL (fx : Int) (st : Nat) (hst : st ≤ 1000000) : ∀ (o : Int) (us vs : List Tm) (i : Nat) (k : Int) (ch : List (Int × Int)) (l : List Int), okAllL us = true → okAllL vs = true → 0 ≤ k → k + 1 + Tm.heightL us ≤ 1000000 → Rel st ch l →
    ((matchL st fx o us vs i k ch).1 = false ∧ (isL fx o us vs i k l).1 = false) ∨ ∃ ch' l', matchL st fx o us vs i k ch = (true, ch') ∧ isL fx o us vs i k l = (true, l') ∧ Rel st ch' l'
  | o, u :: us, v :: vs, i, k, ch, l, hus, hvs, hk0, hk1, hR => by
    simp only [okAllL, Bool.and_eq_true] at hus hvs
    simp only [Tm.heightL] at hk1
    have hu := under_le o i
    have w1 : IntKind.i64.wrap (k + under o i) = k + under o i := wrap_i64 (by omega) (by omega)
    simp only [matchL, isL, w1]
    rcases match_is fx st hst u v (k + under o i) ch l hus.1 hvs.1 (by omega) (by omega) hR with ⟨e1, e2⟩ | ⟨ch', l', e1, e2, hR'⟩
    · cases hm : matchF st fx u v (k + under o i) ch with
      | mk b1 ch1 =>
        cases hi : isF fx u v (k + under o i) l with
        | mk b2 l1 =>
          rw [hm] at e1; rw [hi] at e2
          simp only at e1 e2
          subst e1 e2
          exact .inl ⟨rfl, rfl⟩
    · rw [e1, e2]
      exact match_isL fx st hst o us vs (i + 1) k ch' l' hus.2 hvs.2 hk0 (by omega) hR'
  | _, [], vs, _, _, ch, l, _, _, _, _, hR => by simp only [matchL, isL]; exact .inr ⟨ch, l, rfl, rfl, hR⟩
  | _, _ :: _, [], _, _, ch, l, _, _, _, _, hR => by simp only [matchL, isL]; exact .inr ⟨ch, l, rfl, rfl, hR⟩
 end

theorem Rel.start (st : Nat) : Rel st [] (List.replicate st (-1)) := by
  refine ⟨by simp, ?_, ?_⟩
  · intro y hy _
    simp [List.getD_eq_getElem?_getD, hy]
  · intro y x _ h; cases h

/-- A visit asks what the reference asks. -/
theorem vis_is (fx : Int) (a x : Tm) (st : Nat) (ha : okAll a = true) (hx : okAll x = true) (hh : a.height ≤ 1000000) (hst : st ≤ 1000000) : (matchF st fx a x 0 []).1 = isB fx a x st := by
  rcases match_is fx st hst a x 0 [] _ ha hx (by omega) (by omega) (Rel.start st) with ⟨e1, e2⟩ | ⟨ch', l', e1, e2, _⟩
  · rw [e1, isB, e2]
  · rw [e1, isB, e2]

section
variable (fx : Int) (a : Tm) (ha : okAll a = true) (hh : a.height ≤ 1000000) (hf0 : 0 ≤ fx) (hf1 : fx ≤ 1000000)
include ha hh

theorem vMatch_is (x : Tm) (st : Nat) (hx : okAll x = true) (hst : st ≤ 1000000) : vMatch fx a false x st = (!isB fx a x st, isB fx a x st) := by
  simp only [vMatch, vis_is fx a x st ha hx hh hst, Bool.false_or]

include hf0 hf1

theorem walk_less : ∀ (N : Nat),
    (∀ (us : List Tm) (many : Nat), Tm.heightL us ≤ N → okAllL us = true → many + Tm.heightL us ≤ 1000000 → argsG (vMatch fx a) fx us many false = (!anyF fx a us many, anyF fx a us many)) ∧
    (∀ (u : Tm) (k many : Nat), u.height ≤ N → okAll u = true → u.op ≠ 3 → many + k + u.height ≤ 1000000 → ¬ (0 < k ∧ fx = 0) → walkG (vMatch fx a) fx u ((many + k : Nat) : Int) false = (!lessF fx a u k many, lessF fx a u k many)) := by
  intro N
  induction N with
  | zero =>
    refine ⟨?_, ?_⟩
    · intro us many hN hus hm
      cases us with
      | nil => simp [argsG, anyF]
      | cons u us => have := Tm.height_pos u; simp only [Tm.heightL] at hN; omega
    · intro u k many hN; have := Tm.height_pos u; omega
  | succ N ih =>
    obtain ⟨ihA, ihW⟩ := ih
    -- a TApp
    have hW : ∀ (u : Tm) (k many : Nat), u.height ≤ N + 1 → okAll u = true → u.op ≠ 3 → many + k + u.height ≤ 1000000 → ¬ (0 < k ∧ fx = 0) → walkG (vMatch fx a) fx u ((many + k : Nat) : Int) false = (!lessF fx a u k many, lessF fx a u k many) := by
      intro u k many hN hou h3 hm hkf
      have hun := okAll_n hou
      have hhe := Tm.height_eq u
      have w1 : IntKind.i64.wrap (((many + k : Nat) : Int) + fx) = ((many + k : Nat) : Int) + fx := wrap_i64 (by omega) (by omega)
      rw [walkG, lessF_no fx a h3]
      by_cases hs : shutF fx u.op u.hd u.n ((many + k : Nat) : Int) = true
      · rw [if_pos hs]
        simp only [shutF, w1, Bool.or_eq_true, bne_iff_ne, beq_iff_eq, Bool.and_eq_true, decide_eq_true_eq] at hs
        rw [if_pos]
        · rfl
        · rcases hs with hs | hs | hs
          · exact .inl (.inl (.inr hs))
          · exact .inl (.inr hs)
          · exact .inr hs
      · rw [if_neg hs]
        simp only [shutF, w1, Bool.or_eq_true, bne_iff_ne, beq_iff_eq, Bool.and_eq_true, decide_eq_true_eq] at hs
        rw [if_neg]
        · have hus : okAllL u.args = true := by cases u; simp only [okAll, Bool.and_eq_true] at hou; exact hou.2
          exact ihA u.args (many + k) (by omega) hus (by omega)
        · rintro (((h | h) | h) | h)
          · exact hkf h
          · exact hs (.inl h)
          · exact hs (.inr (.inl h))
          · exact hs (.inr (.inr h))
    refine ⟨?_, hW⟩
    intro us
    induction us with
    | nil => intro many _ _ _; simp [argsG, anyF]
    | cons u us ihu =>
      intro many hN hus hm
      simp only [Tm.heightL] at hN
      simp only [okAllL, Bool.and_eq_true] at hus
      obtain ⟨hou, hus⟩ := hus
      simp only [Tm.heightL] at hm
      have hrest := ihu many (by omega) hus (by omega)
      obtain ⟨hs1, hs2, hs3⟩ := stripF_spec u.height u (Nat.le_refl _) hou
      have hin := (innerG_strip (vMatch fx a) fx u.height u (Nat.le_refl _) (okAll_lamOK u hou) 0 many false).1
      have hls := lessF_strip fx a u.height u (Nat.le_refl _) (okAll_lamOK u hou) 0 many
      rw [Nat.zero_add] at hin hls
      rw [innerG_no _ _ hs1] at hin
      -- what is visited of u
      have hq : inB fx a u many = (isB fx a u many || (innerG (vMatch fx a) fx u 0 many false).2) ∧ (innerG (vMatch fx a) fx u 0 many false).1 = !(innerG (vMatch fx a) fx u 0 many false).2 := by
        rw [hin, inB, hls]
        generalize (stripF u).1 = m at hs1 hs2 hs3 ⊢
        generalize (stripF u).2 = k at hs2 ⊢
        have w1 : IntKind.i64.wrap ((many : Int) + k) = ((many + k : Nat) : Int) := by rw [wrap_i64 (by omega) (by omega)]; omega
        rw [w1]
        by_cases hkf : 0 < k ∧ fx = 0
        · rw [if_pos hkf, if_pos (.inl hkf)]
          exact ⟨rfl, rfl⟩
        · rw [if_neg hkf]
          have hw := hW m k many (by omega) hs3 hs1 (by omega) hkf
          by_cases ho : m.op = 4
          · rw [if_neg (by rintro (h | h); exact hkf h; exact h ho)]
            by_cases hk : 0 < k
            · rw [if_pos ⟨hk, ho⟩, vMatch_is fx a ha hh m (many + k) hs3 (by omega), decide_eq_true hk, Bool.true_and]
              cases isB fx a m (many + k) with
              | true => simp
              | false => simp only [Bool.not_false, Bool.false_or]; rw [hw]; simp
            · rw [if_neg (fun h => hk h.1), decide_eq_false hk]
              simp only [Bool.false_and, Bool.false_or]
              rw [hw]; simp
          · rw [if_pos (.inr ho), if_neg (fun h => ho h.2)]
            simp only
            rw [hw, lessF_no fx a hs1, if_pos (.inl (.inl (.inr ho)))]
            simp
      simp only [argsG]
      rw [vMatch_is fx a ha hh u many hou (by omega), anyF_cons]
      cases hi : isB fx a u many with
      | true =>
        rw [hi] at hq
        rw [hq.1]; simp
      | false =>
        rw [hi] at hq
        simp only [Bool.not_false, Bool.false_or] at hq ⊢
        cases hg : innerG (vMatch fx a) fx u 0 many false with
        | mk b s =>
          rw [hg] at hq
          simp only at hq
          obtain ⟨e1, e2⟩ := hq
          subst e2
          rw [e1]
          cases s with
          | true => rfl
          | false => simpa using hrest

/-- The program's answer is the reference's. -/
theorem compareF_eq (b : Tm) (hb : okAll b = true) (hhb : b.height ≤ 1000) : compareF fx a b = cmpF fx a b := by
  obtain ⟨hs1, hs2, hs3⟩ := stripF_spec b.height b (Nat.le_refl _) hb
  have hls := lessF_strip fx a b.height b (Nat.le_refl _) (okAll_lamOK b hb) 0 0
  rw [Nat.zero_add] at hls
  unfold compareF cmpF
  rw [hls]
  by_cases hsm : sameF a b = true
  · rw [if_pos hsm, if_pos hsm]
  · rw [if_neg hsm, if_neg hsm]
    generalize (stripF b).1 = m at hs1 hs2 hs3 ⊢
    generalize (stripF b).2 = k at hs2 ⊢
    by_cases hkf : 0 < k ∧ fx = 0
    · have hno : lessF fx a m k 0 = false := by rw [lessF_no fx a hs1, if_pos (.inl (.inl (.inl hkf)))]
      rw [if_pos hkf, hno]
      rfl
    · rw [if_neg hkf]
      have hw := (walk_less fx a ha hh hf0 hf1 m.height).2 m k 0 (Nat.le_refl _) hs3 hs1 (by omega) hkf
      rw [Nat.zero_add] at hw
      rw [hw]
end
end Go.Proofs.Ytjjgfenincdgpaa
