/- The contracts of order's within, compare and Compare. Conditions: for compare, each TLam has an argument, and the terms are not nested deeper than 10^6. -/
import Derived.Test.YtjjgfenincdgpaaOrdD
namespace Go.Proofs.Ytjjgfenincdgpaa
open Go.Tr Go
set_option maxRecDepth 10000

/-- The first loop over a function in a code: what it does ahead of its body, and its body. -/
noncomputable def rfOf : Code → Option (Code × Code)
  | .rangeFunc _ _ a b => some (a, b)
  | .seq a b => match rfOf a with
    | some r => some r
    | none => rfOf b
  | .cond _ t e => match rfOf t with
    | some r => some r
    | none => rfOf e
  | .block _ b => rfOf b
  | .loop b => rfOf b
  | .scope b => rfOf b
  | _ => none

noncomputable def rfAs (f : Func) : Code := match f.body with
  | none => .skip
  | some c => match rfOf c with
    | some (a, _) => a
    | none => .skip
noncomputable def rfBody (f : Func) : Code := match f.body with
  | none => .skip
  | some c => match rfOf c with
    | some (_, b) => b
    | none => .skip

theorem within1_spec {σ : Type} (vis : σ → Tm → Int → Bool × σ) (n fx : Int) (Y : SV) (B0 B1 B2 B3 : σ → Blk) (xr : Value × D) (I : σ → Prop) (hV : Visits vis Y B0 B1 B2 B3 xr I)
    (t : Tm) (hh : t.height ≤ 1000000) (hl : lamOK t = true) (st : Int) (s : σ) (a : Option Addr) (c : Nat) (hI : I s) : Meets Try.prog (.val (.fn (.func 56) [] [.loc 4 0, .loc 5 0, .loc 6 0])) [Y]
      ⟨[B0 s, B1 s, B2 s, B3 s, .cells 54 [iS n, iS fx], .cells 24 [iS t.op, iS t.hd, iS t.n, .v (.slice a (Tm.encL t.args).length c)], .cells 3 [iS st]], [], [tmR t a c, xr]⟩
      (fun o S' => o = .ret (.tup []) ∧ ((walkG vis fx t st s).1 = true → I (walkG vis fx t st s).2) ∧ S' = ⟨[B0 (walkG vis fx t st s).2, B1 (walkG vis fx t st s).2, B2 (walkG vis fx t st s).2, B3 (walkG vis fx t st s).2, .cells 54 [iS n, iS fx], .cells 24 [iS t.op, iS t.hd, iS t.n, .v (.slice a (Tm.encL t.args).length c)], .cells 3 [iS st]], [], []⟩) := by
  have hown : ∀ s, ∀ q ∈ [B0 s, B1 s, B2 s, B3 s], q.wf [B0 s, B1 s, B2 s, B3 s].length = true := by
    intro s q hq
    have := hV.wf s
    simp only [List.mem_cons, List.not_mem_nil, or_false] at hq
    rcases hq with rfl | rfl | rfl | rfl
    · exact this.1
    · exact this.2.1
    · exact this.2.2.1
    · exact this.2.2.2
  have hmut : ∀ s s', [B0 s, B1 s, B2 s, B3 s].map Blk.mut = [B0 s', B1 s', B2 s', B3 s'].map Blk.mut := by
    intro s s'
    have := hV.mt s s'
    simp [this.1, this.2.1, this.2.2.1, this.2.2.2]
  refine spec_of_body (N := 10) (m := 7) (dt := fun _ => none) [] ttOK Try.func56 rfl Try.call56 Try.ntmps56 rfl (by simp [SV.wfL, SV.wf, SV.wf_mono (show 4 ≤ 7 by omega) Y hV.wf0]) rfl mixed (by kernel_rfl) ?_
  refine (walk_spec vis n fx Y B0 B1 B2 B3 xr I hV t.height t (Nat.le_refl _) hh hl st s a c hI).frame0 _ [] rfl (by simp) (hown s) (by intro p hp; simp at hp; rcases hp with rfl | rfl <;> simp) (by simp [SV.wfL, SV.wf, hV.wf0]) rfl ?_
  rintro o s' ⟨rfl, hI4, rfl⟩
  refine ⟨hmut _ _, ?_⟩
  generalize walkG vis fx t st s = r at hI4 ⊢
  refine ret_own [B0 r.2, B1 r.2, B2 r.2, B3 r.2, .cells 54 [iS n, iS fx], .cells 24 [iS t.op, iS t.hd, iS t.n, .v (.slice a (Tm.encL t.args).length c)], .cells 3 [iS st]] rfl rfl rfl ?_ rfl ⟨rfl, hI4, rfl⟩
  have := hV.wf r.2
  simp only [wfB, List.length_cons, List.length_nil, Blk.wf_mono (show 4 ≤ 0 + 1 + 1 + 1 + 1 + 1 + 1 + 1 by omega) this.1, Blk.wf_mono (show 4 ≤ 0 + 1 + 1 + 1 + 1 + 1 + 1 + 1 by omega) this.2.1, Blk.wf_mono (show 4 ≤ 0 + 1 + 1 + 1 + 1 + 1 + 1 + 1 by omega) this.2.2.1, Blk.wf_mono (show 4 ≤ 0 + 1 + 1 + 1 + 1 + 1 + 1 + 1 by omega) this.2.2.2]
  rfl

theorem within_spec (n fx : Int) (t : Tm) (st : Int) (a : Option Addr) (c : Nat) : Meets Try.prog (fnS 44) [.agg [iS n, iS fx], tmS t a c, iS st] ⟨[], [], []⟩
      (fun o S' => o = .ret (.fn (.func 56) [] [.loc 0 0, .loc 1 0, .loc 2 0]) ∧ S' = ⟨[.cells 54 [iS n, iS fx], .cells 24 [iS t.op, iS t.hd, iS t.n, .v (.slice a (Tm.encL t.args).length c)], .cells 3 [iS st]], [], []⟩) := by
  refine spec_of_body (N := 8) (m := 0) (dt := fun _ => none) [] ttOK Try.func44 rfl Try.call44 Try.ntmps44 rfl rfl rfl mixed (by kernel_rfl) ?_
  exact AtRet.mk ⟨⟨[.cells 54 [iS n, iS fx], .cells 24 [iS t.op, iS t.hd, iS t.n, .v (.slice a (Tm.encL t.args).length c)], .cells 3 [iS st]], [], []⟩, StLe.to _ _ rfl (by simp) rfl rfl, Nat.zero_le _, rfl, rfl, rfl⟩

/-- What compare does with an object that is visited. -/
abbrev vMatch (fx : Int) (a : Tm) : Bool → Tm → Int → Bool × Bool := fun s x k => (!(matchF k fx a x 0 []).1, s || (matchF k fx a x 0 []).1)

noncomputable abbrev recB (s : Bool) : Blk := .lp ⟨39, [(3, .loc 0 0), (4, .loc 1 0), (9, .loc 2 0)], #[31, 32], rfAs Try.f26, rfBody Try.f26, (match s with
  | true => .done
  | false => .ready), (match s with
  | true => some (.exit 0)
  | false => none)⟩

abbrev outB (s : Bool) : Blk := .cells 3 [iS (match s with
  | true => 2
  | false => 0)]

abbrev tmB (t : Tm) (a : Option Addr) (c : Nat) : Blk := .cells 24 [iS t.op, iS t.hd, iS t.n, .v (.slice a (Tm.encL t.args).length c)]

theorem round_spec (n fx : Int) (a : Tm) (a1 : Option Addr) (c1 : Nat) : Visits (vMatch fx a) (.yld 3) (fun _ => .cells 54 [iS n, iS fx]) (fun _ => tmB a a1 c1) outB recB (tmR a a1 c1) (fun s => s = false) := by
  refine ⟨rfl, fun s => by cases s <;> exact ⟨rfl, rfl, rfl, rfl⟩, fun s s' => by cases s <;> cases s' <;> exact ⟨rfl, rfl, rfl, rfl⟩, ?_⟩
  intro s t k a2 c2 hs
  subst hs
  refine spec_of_round (N := 39) (m := 4) (dt := fun _ => none) [] ttOK rfl rfl rfl rfl rfl rfl mixed (by kernel_rfl) (by kernel_rfl) ?_
  refine (match_spec n fx k a t a1 a2 c1 c2).at (by intro p hp; simp at hp; rcases hp with rfl | rfl <;> simp) rfl rfl ?_
  rintro r out ⟨rfl, rfl⟩
  refine AtIf.mk (fun h => ?_) (fun h => ?_)
  · have hm : (matchF k fx a t 0 []).1 = true := h
    refine ret_own [.cells 54 [iS n, iS fx], tmB a a1 c1, outB true, recB true] rfl rfl rfl rfl rfl ?_
    simp only [hm, Bool.or_true]
    exact ⟨rfl, by simp, trivial⟩
  · have hm : (matchF k fx a t 0 []).1 = false := h
    refine ret_own [.cells 54 [iS n, iS fx], tmB a a1 c1, outB false, recB false] rfl rfl rfl rfl rfl ?_
    simp only [hm, Bool.or_false]
    exact ⟨rfl, by simp, trivial⟩

def compareF (fx : Int) (a b : Tm) : Int := if sameF a b then 1 else if 0 < (stripF b).2 ∧ fx = 0 then 0 else if (walkG (vMatch fx a) fx (stripF b).1 (stripF b).2 false).2 then 2 else 0

theorem compare_spec (n fx : Int) (a b : Tm) (a1 a2 : Option Addr) (c1 c2 : Nat) (hl : lamOK b = true) (hh : b.height ≤ 1000000) :
    Pure Try.prog (fnS 26) [.agg [iS n, iS fx], tmS a a1 c1, tmS b a2 c2] [tmR a a1 c1, tmR b a2 c2] (fun r out => r = iS (compareF fx a b) ∧ out = []) := by
  refine spec_of_body (N := 39) (m := 0) (dt := fun _ => none) [] ttOK Try.func26 rfl Try.call26 Try.ntmps26 rfl rfl rfl mixed (by kernel_rfl) ?_
  refine (same_spec a b a1 a2 c1 c2).at (by simp) rfl rfl ?_
  rintro r out ⟨rfl, rfl⟩
  refine AtIf.mk (fun h => ?_) (fun h => ?_)
  · have h : sameF a b = true := h
    exact AtRet.pure [] rfl (by simp) ⟨by rw [compareF, if_pos h], rfl⟩
  have hsm : sameF a b = false := h
  refine (strip_spec b a2 c2 hl hh).at (by simp) rfl rfl ?_
  rintro r out ⟨a3, c3, rfl, rfl⟩
  refine AtIf.mk (fun h => ?_) (fun h => ?_)
  · have h : 0 < (stripF b).2 ∧ fx = 0 := by simpa using h
    exact AtRet.pure [] rfl (by simp) ⟨by rw [compareF, if_neg (by simp [hsm]), if_pos h], rfl⟩
  have hk : ¬ (0 < (stripF b).2 ∧ fx = 0) := by
    intro hh
    simp [hh.1, hh.2] at h
  obtain ⟨-, -, hh2, hl2⟩ := innerG_strip (vMatch fx a) fx b.height b (Nat.le_refl _) hl 0 0 false
  have hc : compareF fx a b = if (walkG (vMatch fx a) fx (stripF b).1 (stripF b).2 false).2 then 2 else 0 := by rw [compareF, if_neg (by simp [hsm]), if_neg hk]
  rw [hc]
  generalize (stripF b).1 = m at hh2 hl2 ⊢
  generalize (stripF b).2 = k
  refine (within_spec n fx m k a3 c3).frameG [] (rest := []) rfl rfl (List.Perm.refl _) (by decide) rfl (by simp) (by simp) rfl rfl ?_
  rintro o s' ⟨rfl, rfl⟩ _ _
  refine ⟨[], _, rfl, rfl, ?_⟩
  refine AtRange.mk ⟨[(3, .loc 0 0), (4, .loc 1 0), (9, .loc 4 0)], ⟨rfl, rfl, rfl, trivial⟩, rfl, rfl, ⟨_, _, _, rfl, Try.call56⟩, ?_⟩
  refine (within1_spec (vMatch fx a) n fx (.yld 3) _ _ outB recB (tmR a a1 c1) (fun s => s = false) (round_spec n fx a a1 c1) m (by omega) hl2 k false a3 c3 rfl).frame [0, 1, 4, 8, 5, 6, 7] rfl rfl (by decide) rfl ?_ ?_ rfl rfl ?_
  · intro p q hp
    match p, hp with
    | 0, hp => simp at hp; subst hp; exact ⟨0, rfl, rfl, rfl⟩
    | 1, hp => simp at hp; subst hp; exact ⟨1, rfl, rfl, rfl⟩
    | 2, hp => simp at hp; subst hp; exact ⟨4, rfl, rfl, rfl⟩
    | 3, hp => simp at hp; subst hp; exact ⟨8, rfl, rfl, rfl⟩
    | 4, hp => simp at hp; subst hp; exact ⟨5, rfl, rfl, rfl⟩
    | 5, hp => simp at hp; subst hp; exact ⟨6, rfl, rfl, rfl⟩
    | 6, hp => simp at hp; subst hp; exact ⟨7, rfl, rfl, rfl⟩
  · intro p hp
    simp only [List.mem_cons, List.not_mem_nil, or_false] at hp
    rcases hp with rfl | rfl <;> simp
  rintro o s' ⟨rfl, _, rfl⟩
  cases (walkG (vMatch fx a) fx m k false).2 with
  | true =>
    refine ⟨rfl, rfl, _, rfl, ?_⟩
    exact AtRet.pure [] rfl (by simp) ⟨rfl, rfl⟩
  | false =>
    refine ⟨rfl, rfl, _, rfl, ?_⟩
    exact AtRet.pure [] rfl (by simp) ⟨rfl, rfl⟩
end Go.Proofs.Ytjjgfenincdgpaa
