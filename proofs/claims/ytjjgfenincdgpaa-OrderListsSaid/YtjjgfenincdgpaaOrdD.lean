/- The contract of order's walk, for a visitor that is handed own blocks. Conditions: each TLam has an argument; what the visitor does stands in its contract. -/
import Derived.Test.YtjjgfenincdgpaaOrdC
namespace Go.Proofs.Ytjjgfenincdgpaa
open Go.Tr Go
set_option maxRecDepth 10000

section
variable {σ : Type} (vis : σ → Tm → Int → Bool × σ) (fx : Int)

/-- Nothing is sought in such a term. -/
def shutF (o h n st : Int) : Bool := o != 4 || (h == 3 || (h == 1 && decide (n ≥ IntKind.i64.wrap (st + fx))))

mutual
def innerG : Tm → Nat → Int → σ → Bool × σ
  | .mk o h n us, k, st, s => if o = 3 then innerL us k st s else
      if 0 < k ∧ fx = 0 then (true, s) else
        match (if 0 < k ∧ o = 4 then vis s (.mk o h n us) (IntKind.i64.wrap (st + k)) else (true, s)) with
        | (false, s2) => (false, s2)
        | (true, s2) => if shutF fx o h n (IntKind.i64.wrap (st + k)) then (true, s2) else argsG us (IntKind.i64.wrap (st + k)) s2
def innerL : List Tm → Nat → Int → σ → Bool × σ
  | [], _, _, s => (true, s)
  | u :: _, k, st, s => innerG u (k + 1) st s
def argsG : List Tm → Int → σ → Bool × σ
  | [], _, s => (true, s)
  | x :: xs, st, s => match vis s x st with
    | (false, s1) => (false, s1)
    | (true, s1) => match innerG x 0 st s1 with
      | (false, s2) => (false, s2)
      | (true, s2) => argsG xs st s2
 end

def walkG (t : Tm) (st : Int) (s : σ) : Bool × σ := if shutF fx t.op t.hd t.n st then (true, s) else argsG vis fx t.args st s

theorem innerG_no {t : Tm} (h : t.op ≠ 3) (k : Nat) (st : Int) (s : σ) : innerG vis fx t k st s = if 0 < k ∧ fx = 0 then (true, s) else
    match (if 0 < k ∧ t.op = 4 then vis s t (IntKind.i64.wrap (st + k)) else (true, s)) with
    | (false, s2) => (false, s2)
    | (true, s2) => walkG vis fx t (IntKind.i64.wrap (st + k)) s2 := by
  cases t with
  | mk o hd n us =>
    simp only [Tm.op] at h
    simp only [innerG, if_neg h, walkG, Tm.op, Tm.hd, Tm.n, Tm.args]
    rfl

theorem innerG_strip : ∀ (n : Nat) (t : Tm), t.height ≤ n → lamOK t = true → ∀ (k : Nat) (st : Int) (s : σ), innerG vis fx t k st s = innerG vis fx (stripF t).1 (k + (stripF t).2) st s ∧ (stripF t).1.op ≠ 3 ∧ (stripF t).1.height ≤ t.height ∧ lamOK (stripF t).1 = true
  | 0, t, hn, _, _, _, _ => by have := Tm.height_eq t; omega
  | n + 1, t, hn, hl, k, st, s => by
    by_cases ho : t.op = 3
    · obtain ⟨v, vs, hargs⟩ : ∃ v vs, t.args = v :: vs := List.exists_cons_of_ne_nil (lamOK_ne hl ho)
      have hvm : v ∈ t.args := by rw [hargs]; simp
      have hht := Tm.height_le hvm
      have hhe := Tm.height_eq t
      have ih := innerG_strip n v (by omega) (lamOK_arg hl hvm) (k + 1) st s
      rw [stripF_lam ho hargs]
      refine ⟨?_, ih.2.1, by simp only; omega, ih.2.2.2⟩
      cases t with
      | mk o hd m us =>
        simp only [Tm.op] at ho
        simp only [Tm.args] at hargs
        subst ho hargs
        simp only [innerG, if_true, innerL]
        rw [ih.1]
        congr 1
        omega
    · rw [stripF_no ho]
      exact ⟨rfl, ho, Nat.le_refl _, hl⟩
end

/-- A visitor that is handed four own blocks. -/
structure Visits {σ : Type} (vis : σ → Tm → Int → Bool × σ) (Y : SV) (B0 B1 B2 B3 : σ → Blk) (xr : Value × D) (I : σ → Prop) : Prop where
  wf0 : Y.wf 4 = true
  wf : ∀ s, (B0 s).wf 4 = true ∧ (B1 s).wf 4 = true ∧ (B2 s).wf 4 = true ∧ (B3 s).wf 4 = true
  mt : ∀ s s', (B0 s).mut = (B0 s').mut ∧ (B1 s).mut = (B1 s').mut ∧ (B2 s).mut = (B2 s').mut ∧ (B3 s).mut = (B3 s').mut
  does : ∀ s t k a c, I s → Meets Try.prog (.val Y) [tmS t a c, iS k] ⟨[B0 s, B1 s, B2 s, B3 s], [], [tmR t a c, xr]⟩ (fun o S' => o = .ret (bS (vis s t k).1) ∧ ((vis s t k).1 = true → I (vis s t k).2) ∧ S' = ⟨[B0 (vis s t k).2, B1 (vis s t k).2, B2 (vis s t k).2, B3 (vis s t k).2], [], []⟩)

theorem walk_spec {σ : Type} (vis : σ → Tm → Int → Bool × σ) (n fx : Int) (Y : SV) (B0 B1 B2 B3 : σ → Blk) (xr : Value × D) (I : σ → Prop) (hV : Visits vis Y B0 B1 B2 B3 xr I) :
    ∀ (N : Nat) (t : Tm), t.height ≤ N → N ≤ 1000000 → lamOK t = true → ∀ (st : Int) (s : σ) a c, I s → Meets Try.prog (fnS 57) [.agg [iS n, iS fx], tmS t a c, iS st, Y] ⟨[B0 s, B1 s, B2 s, B3 s], [], [tmR t a c, xr]⟩
      (fun o S' => o = .ret (bS (walkG vis fx t st s).1) ∧ ((walkG vis fx t st s).1 = true → I (walkG vis fx t st s).2) ∧ S' = ⟨[B0 (walkG vis fx t st s).2, B1 (walkG vis fx t st s).2, B2 (walkG vis fx t st s).2, B3 (walkG vis fx t st s).2], [], []⟩) := by
  intro N
  induction N with
  | zero => intro t h; have := Tm.height_eq t; omega
  | succ N ih =>
  intro t hN hN2 hl st s a c hI
  refine Meets.of_ok fun hok => ?_
  have hB : (Tm.encL t.args).length ≤ 1152921504606846976 := (hok _ (List.mem_cons_self ..)).1
  have hlen := Tm.encL_length t.args
  have hown : ∀ s, ∀ q ∈ [B0 s, B1 s, B2 s, B3 s], q.wf [B0 s, B1 s, B2 s, B3 s].length = true := by
    intro s q hq
    have := hV.wf s
    simp only [List.mem_cons, List.not_mem_nil, or_false] at hq
    rcases hq with rfl | rfl | rfl | rfl
    · exact this.1
    · exact this.2.1
    · exact this.2.2.1
    · exact this.2.2.2
  have hwfB : ∀ s, wfB 4 [B0 s, B1 s, B2 s, B3 s] = true := by
    intro s
    have := hV.wf s
    simp only [wfB, this.1, this.2.1, this.2.2.1, this.2.2.2]
  have hmut : ∀ s s', [B0 s, B1 s, B2 s, B3 s].map Blk.mut = [B0 s', B1 s', B2 s', B3 s'].map Blk.mut := by
    intro s s'
    have := hV.mt s s'
    simp [this.1, this.2.1, this.2.2.1, this.2.2.2]
  refine spec_of_body (N := 88) (m := 4) (dt := fun _ => none) [] ttOK Try.func57 rfl Try.call57 Try.ntmps57 rfl (by simp [SV.wfL, SV.wf, hV.wf0]) rfl mixed (by kernel_rfl) ?_
  refine AtIf.mk (fun h1 => ?_) (fun h1 => ?_)
  · refine ret_own [B0 s, B1 s, B2 s, B3 s] rfl rfl rfl (hwfB s) rfl ?_
    have hsh : shutF fx t.op t.hd t.n st = true := h1
    rw [walkG, if_pos hsh]
    exact ⟨rfl, fun _ => hI, rfl⟩
  have hsh : shutF fx t.op t.hd t.n st = false := h1
  have hw : walkG vis fx t st s = argsG vis fx t.args st s := by rw [walkG, hsh]; rfl
  rw [hw]
  refine AtLoop.mk ⟨Nat × σ, fun x => [(40, iS x.1), (39, iS (Tm.encL t.args).length), (38, .v (.slice a (Tm.encL t.args).length c)), (2, iS st), (3, Y), (4, .loc 4 0)],
    fun x => ⟨[B0 x.2, B1 x.2, B2 x.2, B3 x.2, .cells 54 [iS n, iS fx]], [], [tmR t a c, xr]⟩,
    fun x => x.1 ≤ t.args.length ∧ I x.2 ∧ argsG vis fx t.args st s = argsG vis fx (t.args.drop x.1) st x.2, fun x => t.args.length - x.1, (0, s), ⟨Nat.zero_le _, hI, rfl⟩, ⟨rfl, rfl, rfl, rfl, rfl, rfl, trivial⟩, StLe.to _ _ rfl (by simp) rfl ?_, ?_, ?_⟩
  · have := hV.wf s
    simp only [wfB, List.length_cons, List.length_nil, Blk.wf_mono (show 4 ≤ 0 + 1 + 1 + 1 + 1 + 1 by omega) this.1, Blk.wf_mono (show 4 ≤ 0 + 1 + 1 + 1 + 1 + 1 by omega) this.2.1, Blk.wf_mono (show 4 ≤ 0 + 1 + 1 + 1 + 1 + 1 by omega) this.2.2.1, Blk.wf_mono (show 4 ≤ 0 + 1 + 1 + 1 + 1 + 1 by omega) this.2.2.2]
    rfl
  · intro x _
    exact ⟨by simp [envWf, SV.wf, SV.wf_mono (show 4 ≤ 5 by omega) Y hV.wf0]; rfl, rfl⟩
  rintro ⟨i, s1⟩ ⟨hi, hI1, hinv⟩
  simp only at hi hI1 hinv ⊢
  refine AtIf.mk (fun h2 => ?_) (fun h2 => ?_)
  rotate_left
  · refine ret_own [B0 s1, B1 s1, B2 s1, B3 s1] rfl rfl rfl (hwfB s1) rfl ?_
    simp only [decide_eq_false_iff_not, hlen] at h2
    rw [List.drop_of_length_le (by omega)] at hinv
    rw [hinv]
    exact ⟨rfl, fun _ => hI1, rfl⟩
  simp only [decide_eq_true_eq, hlen] at h2
  have hlt : i < t.args.length := by omega
  have hx : t.args[i]? = some t.args[i] := List.getElem?_eq_getElem hlt
  have hxm : t.args[i] ∈ t.args := List.getElem_mem hlt
  have hxh := Tm.height_le hxm
  have hth := Tm.height_eq t
  have hxl := lamOK_arg hl hxm
  have hd : argsG vis fx (t.args.drop i) st s1 = match vis s1 t.args[i] st with
      | (false, s2) => (false, s2)
      | (true, s2) => match innerG vis fx t.args[i] 0 st s2 with
        | (false, s3) => (false, s3)
        | (true, s3) => argsG vis fx (t.args.drop (i + 1)) st s3 := by
    rw [List.drop_eq_getElem_cons hlt]; rfl
  rw [hd] at hinv
  generalize t.args[i] = x at hx hxm hxh hxl hinv
  refine at_index ttOK 0 rfl rfl rfl rfl (by omega) (by rw [Int.toNat_natCast]; exact Tm.encL_get hx) ?_
  intro a1 c1 _ _
  refine (hV.does s1 x st a1 c1 hI1).frame0 _ [] rfl (by simp) (hown s1) (by intro p hp; simp at hp; rcases hp with rfl | rfl <;> simp) rfl hV.wf0 ?_
  rintro o s' ⟨rfl, hI2, rfl⟩
  refine ⟨hmut _ _, ?_⟩
  cases hv : vis s1 x st with
  | mk b1 s2 =>
  rw [hv] at hI2 hinv
  simp only at hI2 hinv ⊢
  refine AtIf.mk (fun h3 => ?_) (fun h3 => ?_)
  · have hb : b1 = false := by simpa using h3
    subst hb
    refine ret_own [B0 s2, B1 s2, B2 s2, B3 s2] rfl rfl rfl (hwfB s2) rfl ?_
    rw [hinv]
    exact ⟨rfl, fun h => (by cases h), rfl⟩
  have hb : b1 = true := by simpa using h3
  subst hb
  have hI2 := hI2 rfl
  simp only at hinv
  refine (strip_spec x a1 c1 hxl (by omega)).at (by simp) rfl rfl ?_
  rintro r out ⟨a2, c2, rfl, rfl⟩
  obtain ⟨he1, he2, he3, he4⟩ := innerG_strip vis fx x.height x (Nat.le_refl _) hxl 0 st s2
  rw [Nat.zero_add] at he1
  rw [he1, innerG_no vis fx he2] at hinv
  generalize (stripF x).1 = mm at he2 he3 he4 hinv ⊢
  generalize hkk : (stripF x).2 = kk at hinv ⊢
  have hw3 : IntKind.i64.wrap (i + 1) = ((i + 1 : Nat) : Int) := wrap_i64 (by omega) (by omega)
  -- on with the next argument
  have next : ∀ (s3 : σ) (env : Env) (extra : List Blk) (reps : List (Value × D)), I s3 → argsG vis fx t.args st s = argsG vis fx (t.args.drop (i + 1)) st s3 → (∀ p ∈ [tmR t a c, xr], p ∈ reps) → find env 40 = some (iS (IntKind.i64.wrap (i + 1))) → envLe env [(39, iS (Tm.encL t.args).length), (38, .v (.slice a (Tm.encL t.args).length c)), (2, iS st), (3, Y), (4, .loc 4 0)] →
      ∃ x' : Nat × σ, (x'.1 ≤ t.args.length ∧ I x'.2 ∧ argsG vis fx t.args st s = argsG vis fx (t.args.drop x'.1) st x'.2) ∧ t.args.length - x'.1 < t.args.length - i ∧ envLe env [(40, iS x'.1), (39, iS (Tm.encL t.args).length), (38, .v (.slice a (Tm.encL t.args).length c)), (2, iS st), (3, Y), (4, .loc 4 0)] ∧ StLe ⟨[B0 s3, B1 s3, B2 s3, B3 s3, .cells 54 [iS n, iS fx]] ++ extra, [], reps⟩ ⟨[B0 x'.2, B1 x'.2, B2 x'.2, B3 x'.2, .cells 54 [iS n, iS fx]], [], [tmR t a c, xr]⟩ := by
    intro s3 env extra reps hI3 hq hr hf he
    refine ⟨(i + 1, s3), ⟨by omega, hI3, hq⟩, by simp only; omega, ⟨by rw [hf, hw3], he⟩, StLe.to _ _ rfl hr rfl ?_⟩
    have := hV.wf s3
    simp only [wfB, List.length_cons, List.length_nil, Blk.wf_mono (show 4 ≤ 0 + 1 + 1 + 1 + 1 + 1 by omega) this.1, Blk.wf_mono (show 4 ≤ 0 + 1 + 1 + 1 + 1 + 1 by omega) this.2.1, Blk.wf_mono (show 4 ≤ 0 + 1 + 1 + 1 + 1 + 1 by omega) this.2.2.1, Blk.wf_mono (show 4 ≤ 0 + 1 + 1 + 1 + 1 + 1 by omega) this.2.2.2]
    rfl
  refine AtIf.mk (fun h4 => ?_) (fun h4 => ?_)
  · have hc : 0 < kk ∧ fx = 0 := by simpa using h4
    rw [if_pos hc] at hinv
    exact next s2 _ _ _ hI2 hinv (by intro p hp; simp at hp; rcases hp with rfl | rfl <;> simp) rfl ⟨rfl, rfl, rfl, rfl, rfl, trivial⟩
  have hc : ¬ (0 < kk ∧ fx = 0) := by
    intro hh
    simp [hh.1, hh.2] at h4
  rw [if_neg hc] at hinv
  have hwalk := fun (s3 : σ) (h : I s3) => ih mm (by omega) (by omega) he4 (IntKind.i64.wrap (st + kk)) s3 a2 c2 h
  refine AtGuard.mk (fun h5 => ?_) (fun h5 => ?_)
  · have hc5 : 0 < kk ∧ mm.op = 4 := by simpa using h5
    rw [if_pos hc5] at hinv
    refine (hV.does s2 mm (IntKind.i64.wrap (st + kk)) a2 c2 hI2).frame0 _ [] rfl (by simp) (hown s2) (by intro p hp; simp at hp; rcases hp with rfl | rfl <;> simp) rfl hV.wf0 ?_
    rintro o s' ⟨rfl, hI3, rfl⟩
    refine ⟨hmut _ _, ?_⟩
    cases hv2 : vis s2 mm (IntKind.i64.wrap (st + kk)) with
    | mk b2 s3 =>
    rw [hv2] at hI3 hinv
    simp only at hI3 hinv ⊢
    refine AtGuard.mk (fun h6 => ?_) (fun h6 => ?_)
    · have hb2 : b2 = true := by simpa using h6
      subst hb2
      refine (hwalk s3 (hI3 rfl)).frame0 _ [] rfl (by simp) (hown s3) (by intro p hp; simp at hp; rcases hp with rfl | rfl <;> simp) (by simp [SV.wfL, SV.wf, hV.wf0]) rfl ?_
      rintro o s' ⟨rfl, hI4, rfl⟩
      refine ⟨hmut _ _, ?_⟩
      cases hw4 : walkG vis fx mm (IntKind.i64.wrap (st + kk)) s3 with
      | mk b4 s4 =>
      rw [hw4] at hI4
      simp only [hw4] at hinv
      refine AtIf.mk (fun h7 => ?_) (fun h7 => ?_)
      · have hb4 : b4 = false := by simpa using h7
        subst hb4
        refine ret_own [B0 s4, B1 s4, B2 s4, B3 s4] rfl rfl rfl (hwfB s4) rfl ?_
        rw [hinv]
        exact ⟨rfl, fun h => (by cases h), rfl⟩
      · have hb4 : b4 = true := by simpa using h7
        subst hb4
        exact next s4 _ _ _ (hI4 rfl) hinv (by intro p hp; simp at hp; rcases hp with rfl | rfl <;> simp) rfl ⟨rfl, rfl, rfl, rfl, rfl, trivial⟩
    · have hb2 : b2 = false := by simpa using h6
      subst hb2
      refine AtIf.mk (fun h7 => ?_) (fun h7 => ?_)
      · refine ret_own [B0 s3, B1 s3, B2 s3, B3 s3] rfl rfl rfl (hwfB s3) rfl ?_
        rw [hinv]
        exact ⟨rfl, fun h => (by cases h), rfl⟩
      · simp at h7
  · have hc5 : ¬ (0 < kk ∧ mm.op = 4) := by
      intro hh
      simp [hh.1, hh.2] at h5
    rw [if_neg hc5] at hinv
    simp only at hinv
    refine AtGuard.mk (fun h6 => ?_) (fun h6 => ?_)
    rotate_left
    · exfalso
      apply hc5
      simp at h6
    refine (hwalk s2 hI2).frame0 _ [] rfl (by simp) (hown s2) (by intro p hp; simp at hp; rcases hp with rfl | rfl <;> simp) (by simp [SV.wfL, SV.wf, hV.wf0]) rfl ?_
    rintro o s' ⟨rfl, hI4, rfl⟩
    refine ⟨hmut _ _, ?_⟩
    cases hw4 : walkG vis fx mm (IntKind.i64.wrap (st + kk)) s2 with
    | mk b4 s4 =>
    rw [hw4] at hI4
    simp only [hw4] at hinv
    refine AtIf.mk (fun h7 => ?_) (fun h7 => ?_)
    · have hb4 : b4 = false := by simpa using h7
      subst hb4
      refine ret_own [B0 s4, B1 s4, B2 s4, B3 s4] rfl rfl rfl (hwfB s4) rfl ?_
      rw [hinv]
      exact ⟨rfl, fun h => (by cases h), rfl⟩
    · have hb4 : b4 = true := by simpa using h7
      subst hb4
      exact next s4 _ _ _ (hI4 rfl) hinv (by intro p hp; simp at hp; rcases hp with rfl | rfl <;> simp) rfl ⟨rfl, rfl, rfl, rfl, rfl, trivial⟩
end Go.Proofs.Ytjjgfenincdgpaa
