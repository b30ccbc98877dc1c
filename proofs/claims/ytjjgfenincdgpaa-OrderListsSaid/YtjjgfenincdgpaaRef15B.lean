/- The contracts of trussref15's in, less and Compare. Conditions: the arguments read as terms that are built as terms are, not nested deep; small numbers of variables. -/
import Derived.Test.YtjjgfenincdgpaaRef15A
namespace Go.Proofs.Ytjjgfenincdgpaa
open Go.Tr Go
set_option maxRecDepth 10000

section
variable (fx : Int) (a : Tm)

mutual
/-- What trussref15.less answers, below k stripped binders. -/
def lessF : Tm → Nat → Nat → Bool
  | .mk o h n us, k, many => if o = 3 then lessU us k many else
      if (((0 < k ∧ fx = 0) ∨ o ≠ 4) ∨ h = 3) ∨ (h = 1 ∧ n ≥ (many + k : Nat) + fx) then false else anyF us (many + k)
def lessU : List Tm → Nat → Nat → Bool
  | [], _, _ => false
  | u :: _, k, many => lessF u (k + 1) many
def anyF : List Tm → Nat → Bool
  | [], _ => false
  | u :: us, many => (isB fx a u many || (if (0 < (stripF u).2 ∧ fx = 0) ∨ (stripF u).1.op ≠ 4 then false else (decide (0 < (stripF u).2) && isB fx a (stripF u).1 (many + (stripF u).2)) || lessF u 0 many)) || anyF us many
 end

def inB (u : Tm) (many : Nat) : Bool := isB fx a u many || (if (0 < (stripF u).2 ∧ fx = 0) ∨ (stripF u).1.op ≠ 4 then false else (decide (0 < (stripF u).2) && isB fx a (stripF u).1 (many + (stripF u).2)) || lessF fx a u 0 many)

theorem anyF_cons (u : Tm) (us : List Tm) (many : Nat) : anyF fx a (u :: us) many = (inB fx a u many || anyF fx a us many) := by simp only [anyF, inB]

theorem lessF_no {t : Tm} (h : t.op ≠ 3) (k many : Nat) : lessF fx a t k many = if (((0 < k ∧ fx = 0) ∨ t.op ≠ 4) ∨ t.hd = 3) ∨ (t.hd = 1 ∧ t.n ≥ (many + k : Nat) + fx) then false else anyF fx a t.args (many + k) := by
  cases t with
  | mk o hd n us =>
    simp only [Tm.op] at h
    simp only [lessF, if_neg h, Tm.op, Tm.hd, Tm.n, Tm.args]
    rfl

theorem lessF_strip : ∀ (n : Nat) (t : Tm), t.height ≤ n → lamOK t = true → ∀ (k many : Nat), lessF fx a t k many = lessF fx a (stripF t).1 (k + (stripF t).2) many
  | 0, t, hn, _, _, _ => by have := Tm.height_eq t; omega
  | n + 1, t, hn, hl, k, many => by
    by_cases ho : t.op = 3
    · obtain ⟨v, vs, hargs⟩ : ∃ v vs, t.args = v :: vs := List.exists_cons_of_ne_nil (lamOK_ne hl ho)
      have hvm : v ∈ t.args := by rw [hargs]; simp
      have hht := Tm.height_le hvm
      have hhe := Tm.height_eq t
      have ih := lessF_strip n v (by omega) (lamOK_arg hl hvm) (k + 1) many
      rw [stripF_lam ho hargs]
      cases t with
      | mk o hd m us =>
        simp only [Tm.op] at ho
        simp only [Tm.args] at hargs
        subst ho hargs
        simp only [lessF, if_true, lessU]
        rw [ih]
        congr 1
        omega
    · rw [stripF_no ho]; rfl
end

theorem stripF_spec : ∀ (n : Nat) (t : Tm), t.height ≤ n → okAll t = true → (stripF t).1.op ≠ 3 ∧ (stripF t).1.height + (stripF t).2 ≤ t.height ∧ okAll (stripF t).1 = true
  | 0, t, hn, _ => by have := Tm.height_eq t; omega
  | n + 1, t, hn, hl => by
    by_cases ho : t.op = 3
    · obtain ⟨v, vs, hargs⟩ : ∃ v vs, t.args = v :: vs := List.exists_cons_of_ne_nil (lamOK_ne (okAll_lamOK t hl) ho)
      have hvm : v ∈ t.args := by rw [hargs]; simp
      have hht := Tm.height_le hvm
      have hhe := Tm.height_eq t
      have ih := stripF_spec n v (by omega) (okAll_arg hl hvm)
      rw [stripF_lam ho hargs]
      exact ⟨ih.1, by simp only; omega, ih.2.2⟩
    · rw [stripF_no ho]
      exact ⟨ho, Nat.le_refl _, hl⟩

theorem okL_mem : ∀ {ds : List D} {d : D}, okL ds → d ∈ ds → okD d
  | [], d, _, h => by simp at h
  | e :: ds, d, h, hm => by
    simp only [okL] at h
    rcases List.mem_cons.1 hm with r | r
    · subst r; exact h.1
    · exact okL_mem h.2 r

theorem ok_strip : ∀ (n : Nat) (t : Tm), t.height ≤ n → okD (.sl 4 (Tm.encL t.args)) → okD (.sl 4 (Tm.encL (stripF t).1.args))
  | 0, t, hn, _ => by have := Tm.height_eq t; omega
  | n + 1, t, hn, hk => by
    by_cases ho : t.op = 3
    · cases hargs : t.args with
      | nil =>
        cases t with
        | mk o hd m us =>
          simp only [Tm.op] at ho
          simp only [Tm.args] at hargs
          subst ho hargs
          simpa [stripF, stripL] using hk
      | cons v vs =>
        have hvm : v ∈ t.args := by rw [hargs]; simp
        have hht := Tm.height_le hvm
        have hhe := Tm.height_eq t
        rw [stripF_lam ho hargs]
        refine ok_strip n v (by omega) ?_
        simp only [okD] at hk
        have := okL_mem hk.2 (d := v.enc) (by rw [Tm.encL_eq]; exact List.mem_map_of_mem hvm)
        rw [Tm.enc_eq] at this
        simp only [okD, okL] at this
        exact this.2.2.2.1
    · rw [stripF_no ho]; exact hk

theorem less_in_spec (fx : Int) (a : Tm) (a1 : Option Addr) (c1 : Nat) (hoa : okAll a = true) (hha : a.height ≤ 1000000) (hf0 : 0 ≤ fx) (hf1 : fx ≤ 1000000) : ∀ (N : Nat) (u : Tm), u.height ≤ N → okAll u = true → ∀ (many : Nat), many + u.height ≤ 1000000 →
    (∀ a2 c2, Pure Try.prog (fnS 28) [tmS a a1 c1, tmS u a2 c2, iS fx, iS many] [tmR a a1 c1, tmR u a2 c2] (fun r out => r = bS (lessF fx a u 0 many) ∧ out = [])) ∧
    (∀ a2 c2, Pure Try.prog (fnS 48) [tmS a a1 c1, tmS u a2 c2, iS fx, iS many] [tmR a a1 c1, tmR u a2 c2] (fun r out => r = bS (inB fx a u many) ∧ out = [])) := by
  intro N
  induction N with
  | zero => intro u h; have := Tm.height_eq u; omega
  | succ N ih =>
  intro u hN hou many hmany
  obtain ⟨hs1, hs2, hs3⟩ := stripF_spec u.height u (Nat.le_refl _) hou
  have hlu := okAll_lamOK u hou
  have hls := lessF_strip fx a u.height u (Nat.le_refl _) hlu 0 many
  rw [Nat.zero_add, lessF_no fx a hs1] at hls
  have hless : ∀ a2 c2, Pure Try.prog (fnS 28) [tmS a a1 c1, tmS u a2 c2, iS fx, iS many] [tmR a a1 c1, tmR u a2 c2] (fun r out => r = bS (lessF fx a u 0 many) ∧ out = []) := by
    intro a2 c2
    refine Meets.of_ok fun hok => ?_
    have hbm : (Tm.encL (stripF u).1.args).length ≤ 1152921504606846976 := by
      have := ok_strip u.height u (Nat.le_refl _) (hok (tmR u a2 c2) (by simp))
      simp only [okD] at this
      exact this.1
    refine spec_of_body (N := 66) (m := 0) (dt := drawsOf [(7, .node [0, 1, 2, 3, 4, 5, 6, 7, 8, 9] [(10, .leaf [])], [10])]) [] ttOK Try.func28 rfl Try.call28 Try.ntmps28 rfl rfl rfl mixed (by kernel_rfl) ?_
    refine (lams_spec u a2 c2 hlu (by omega)).at (by simp) rfl rfl ?_
    rintro r out ⟨a3, c3, rfl, rfl⟩
    generalize (stripF u).1 = m at hs1 hs2 hs3 hls hbm ⊢
    generalize (stripF u).2 = k at hs2 hls ⊢
    have hmn := okAll_n hs3
    have hw1 : IntKind.i64.wrap (many + k) = ((many + k : Nat) : Int) := by rw [wrap_i64 (by omega) (by omega)]; omega
    have hw2 : IntKind.i64.wrap (((many + k : Nat) : Int) + fx) = ((many + k : Nat) : Int) + fx := wrap_i64 (by omega) (by omega)
    refine AtIf.mk (fun h1 => ?_) (fun h1 => ?_)
    · rw [hw1, hw2] at h1
      have h1 : (((0 < k ∧ fx = 0) ∨ m.op ≠ 4) ∨ m.hd = 3) ∨ (m.hd = 1 ∧ m.n ≥ (many + k : Nat) + fx) := by
        simp only [Bool.or_eq_true, Bool.and_eq_true, decide_eq_true_eq, beq_iff_eq, bne_iff_ne] at h1
        rcases h1 with ((h1 | h1) | h1) | h1
        · exact .inl (.inl (.inl ⟨by omega, h1.2⟩))
        · exact .inl (.inl (.inr h1))
        · exact .inl (.inr h1)
        · exact .inr h1
      rw [if_pos h1] at hls
      exact AtRet.pure [] rfl (by simp) ⟨by rw [hls], rfl⟩
    rw [hw1, hw2] at h1
    have h1 : ¬ ((((0 < k ∧ fx = 0) ∨ m.op ≠ 4) ∨ m.hd = 3) ∨ (m.hd = 1 ∧ m.n ≥ (many + k : Nat) + fx)) := by
      intro hh
      rw [Bool.eq_false_iff] at h1
      apply h1
      simp only [Bool.or_eq_true, Bool.and_eq_true, decide_eq_true_eq, beq_iff_eq, bne_iff_ne]
      rcases hh with ((hh | hh) | hh) | hh
      · exact .inl (.inl (.inl ⟨by omega, hh.2⟩))
      · exact .inl (.inl (.inr hh))
      · exact .inl (.inr hh)
      · exact .inr hh
    rw [if_neg h1] at hls
    refine AtLoop.mk ⟨Nat, fun i => [(11, iS i), (4, .loc 0 0), (10, .loc 2 0), (9, iS k), (2, iS fx), (3, iS many)], fun _ => ⟨[.cells 24 [iS a.op, iS a.hd, iS a.n, .v (.slice a1 (Tm.encL a.args).length c1)], .cells 24 [iS u.op, iS u.hd, iS u.n, .v (.slice a2 (Tm.encL u.args).length c2)], .cells 24 [iS m.op, iS m.hd, iS m.n, .v (.slice a3 (Tm.encL m.args).length c3)]], [], [tmR a a1 c1, tmR u a2 c2, tmR m a3 c3]⟩,
      fun i => i ≤ m.args.length ∧ lessF fx a u 0 many = anyF fx a (m.args.drop i) (many + k), fun i => m.args.length - i, 0, ⟨Nat.zero_le _, hls⟩, ⟨rfl, rfl, rfl, rfl, rfl, rfl, trivial⟩, StLe.refl _, fun _ _ => ⟨rfl, rfl⟩, ?_⟩
    rintro i ⟨hi, hinv⟩
    have hlen := Tm.encL_length m.args
    refine AtIf.mk (fun h1 => ?_) (fun h1 => ?_)
    · simp only [decide_eq_true_eq, hlen] at h1
      obtain ⟨x, hx⟩ : ∃ x, m.args[i]? = some x := ⟨_, List.getElem?_eq_getElem (by omega)⟩
      have hxm := List.mem_of_getElem? hx
      have hxh := Tm.height_le hxm
      have hmh := Tm.height_eq m
      refine at_index ttOK 2 rfl rfl rfl rfl (by omega) (by rw [Int.toNat_natCast]; exact Tm.encL_get hx) ?_
      intro a5 c5 hokx _
      have hsp := (ih x (by omega) (okAll_arg hs3 hxm) (many + k) (by omega)).2 a5 c5
      rw [← hw1] at hsp
      refine hsp.at (by simp) rfl rfl ?_
      rintro r out ⟨rfl, rfl⟩
      rw [drop_cons hx, anyF_cons] at hinv
      refine AtIf.mk (fun h2 => ?_) (fun h2 => ?_)
      · have h2 : inB fx a x (many + k) = true := h2
        exact AtRet.pure [] rfl (by simp) ⟨by rw [hinv, h2]; rfl, rfl⟩
      · have h2 : inB fx a x (many + k) = false := h2
        have hw3 : IntKind.i64.wrap (i + 1) = ((i + 1 : Nat) : Int) := wrap_i64 (by omega) (by have := hbm; omega)
        exact ⟨i + 1, ⟨by omega, by rw [hinv, h2]; rfl⟩, by simp only; omega, ⟨by rw [← hw3]; rfl, rfl, rfl, rfl, rfl, rfl, trivial⟩, StLe.to _ _ rfl (by simp) rfl rfl⟩
    · simp only [decide_eq_false_iff_not, hlen] at h1
      rw [List.drop_of_length_le (by omega)] at hinv
      exact AtRet.pure [] rfl (by simp) ⟨by rw [hinv]; rfl, rfl⟩
  refine ⟨hless, ?_⟩
  intro a2 c2
  have hin : inB fx a u many = (isB fx a u many || (if (0 < (stripF u).2 ∧ fx = 0) ∨ (stripF u).1.op ≠ 4 then false else (decide (0 < (stripF u).2) && isB fx a (stripF u).1 (many + (stripF u).2)) || lessF fx a u 0 many)) := rfl
  refine spec_of_body (N := 50) (m := 0) (dt := fun _ => none) [] ttOK Try.func48 rfl Try.call48 Try.ntmps48 rfl rfl rfl mixed (by kernel_rfl) ?_
  refine (is_spec fx a u many a1 a2 c1 c2 hoa hou hha (by omega)).at (by simp) rfl rfl ?_
  rintro r out ⟨rfl, rfl⟩
  refine AtIf.mk (fun h1 => ?_) (fun h1 => ?_)
  · have h1 : isB fx a u many = true := h1
    exact AtRet.pure [] rfl (by simp) ⟨by rw [hin, h1]; rfl, rfl⟩
  have h1 : isB fx a u many = false := h1
  rw [h1, Bool.false_or] at hin
  refine (lams_spec u a2 c2 hlu (by omega)).at (by simp) rfl rfl ?_
  rintro r out ⟨a3, c3, rfl, rfl⟩
  generalize (stripF u).1 = m at hs1 hs2 hs3 hin ⊢
  generalize (stripF u).2 = k at hs2 hin ⊢
  have hw1 : IntKind.i64.wrap (many + k) = ((many + k : Nat) : Int) := by rw [wrap_i64 (by omega) (by omega)]; omega
  refine AtIf.mk (fun h2 => ?_) (fun h2 => ?_)
  · have h2 : (0 < k ∧ fx = 0) ∨ m.op ≠ 4 := by simpa using h2
    rw [if_pos h2] at hin
    exact AtRet.pure [] rfl (by simp) ⟨by rw [hin], rfl⟩
  have h2 : ¬ ((0 < k ∧ fx = 0) ∨ m.op ≠ 4) := by
    intro hh
    rw [Bool.eq_false_iff] at h2
    apply h2
    simpa using hh
  rw [if_neg h2] at hin
  refine AtGuard.mk (fun h3 => ?_) (fun h3 => ?_)
  · have h3 : 0 < k := by simpa using h3
    rw [decide_eq_true h3, Bool.true_and] at hin
    have hsp := is_spec fx a m (many + k) a1 a3 c1 c3 hoa hs3 hha (by omega)
    rw [← hw1] at hsp
    refine hsp.at (by simp) rfl rfl ?_
    rintro r out ⟨rfl, rfl⟩
    refine AtGuard.mk (fun h4 => ?_) (fun h4 => ?_)
    · have h4 : isB fx a m (many + k) = false := by simpa [h3] using h4
      rw [h4, Bool.false_or] at hin
      refine (hless a2 c2).at (by simp) rfl rfl ?_
      rintro r out ⟨rfl, rfl⟩
      exact AtRet.pure [] rfl (by simp) ⟨by rw [hin], rfl⟩
    · have h4 : isB fx a m (many + k) = true := by simpa [h3] using h4
      rw [h4, Bool.true_or] at hin
      exact AtRet.pure [] rfl (by simp) ⟨by rw [hin], rfl⟩
  · have h3 : ¬ 0 < k := by simpa using h3
    rw [decide_eq_false h3, Bool.false_and, Bool.false_or] at hin
    refine AtGuard.mk (fun h4 => ?_) (fun h4 => ?_)
    rotate_left
    · simp at h4
    refine (hless a2 c2).at (by simp) rfl rfl ?_
    rintro r out ⟨rfl, rfl⟩
    exact AtRet.pure [] rfl (by simp) ⟨by rw [hin], rfl⟩

/-- What trussref15.Compare answers. -/
def cmpF (fx : Int) (a b : Tm) : Int := if sameF a b = true then 1 else if lessF fx a b 0 0 = true then 2 else 0

theorem refCompare_spec (fx : Int) (a b : Tm) (a1 a2 : Option Addr) (c1 c2 : Nat) (hoa : okAll a = true) (hha : a.height ≤ 1000000) (hob : okAll b = true) (hhb : b.height ≤ 1000000) (hf0 : 0 ≤ fx) (hf1 : fx ≤ 1000000) :
    Pure Try.prog (fnS 12) [iS fx, tmS a a1 c1, tmS b a2 c2] [tmR a a1 c1, tmR b a2 c2] (fun r out => r = iS (cmpF fx a b) ∧ out = []) := by
  refine spec_of_body (N := 16) (m := 0) (dt := fun _ => none) [] ttOK Try.func12 rfl Try.call12 Try.ntmps12 rfl rfl rfl mixed (by kernel_rfl) ?_
  refine (refSame_spec a b a1 a2 c1 c2).at (by simp) rfl rfl ?_
  rintro r out ⟨rfl, rfl⟩
  refine AtIf.mk (fun h => ?_) (fun h => ?_)
  · have h : sameF a b = true := h
    exact AtRet.pure [] rfl (by simp) ⟨by rw [cmpF, if_pos h], rfl⟩
  have hsm : sameF a b = false := h
  refine ((less_in_spec fx a a1 c1 hoa hha hf0 hf1 b.height b (Nat.le_refl _) hob 0 (by omega)).1 a2 c2).at (by simp) rfl rfl ?_
  rintro r out ⟨rfl, rfl⟩
  refine AtIf.mk (fun h => ?_) (fun h => ?_)
  · have h : lessF fx a b 0 0 = true := h
    exact AtRet.pure [] rfl (by simp) ⟨by rw [cmpF, if_neg (by simp [hsm]), if_pos h], rfl⟩
  · have h : lessF fx a b 0 0 = false := h
    exact AtRet.pure [] rfl (by simp) ⟨by rw [cmpF, if_neg (by simp [hsm]), if_neg (by simp [h])], rfl⟩
end Go.Proofs.Ytjjgfenincdgpaa
