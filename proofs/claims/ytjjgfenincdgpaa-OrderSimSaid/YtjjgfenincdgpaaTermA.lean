import Derived.Test.YtjjgfenincdgpaaBase
namespace Go.Proofs.Ytjjgfenincdgpaa
open Go.Tr Go
set_option maxRecDepth 10000

def under (op i : Int) : Int := if op = 3 ∨ op = 2 ∧ i = 1 then 1 else 0
theorem under_le (op i : Int) : 0 ≤ under op i ∧ under op i ≤ 1 := by unfold under; split <;> omega

theorem under_spec (t : Tm) (a : Option Addr) (c : Nat) (i : Int) : Pure Try.prog (fnS 59) [tmS t a c, iS i] [] (fun r out => r = iS (under t.op i) ∧ out = []) := by
  refine spec_of_body (N := 17) (m := 0) (dt := fun _ => none) [] ttOK Try.func59 rfl Try.call59 Try.ntmps59 rfl rfl rfl mixed (by kernel_rfl) ?_
  refine AtIf.mk (fun h => ?_) (fun h => ?_)
  · refine AtRet.pure [] rfl (by simp) ⟨?_, rfl⟩
    unfold under; rw [if_pos (by simpa using h)]
  · refine AtRet.pure [] rfl (by simp) ⟨?_, rfl⟩
    unfold under; rw [if_neg (by simpa using h)]

section
variable {σ : Type} (step : σ → Tm → Int → σ)
mutual
def walkF : Tm → σ → Int → σ
  | .mk o h n args, s, b => walkL o args 0 (step s (.mk o h n args) b) b
def walkL : Int → List Tm → Nat → σ → Int → σ
  | _, [], _, s, _ => s
  | o, t :: ts, i, s, b => walkL o ts (i + 1) (walkF t s (b + under o i)) b
 end
theorem walkF_eq (t : Tm) (s : σ) (b : Int) : walkF step t s b = walkL step t.op t.args 0 (step s t b) b := by cases t; rfl
end

mutual
def Tm.height : Tm → Nat
  | .mk _ _ _ args => Tm.heightL args + 1
def Tm.heightL : List Tm → Nat
  | [] => 0
  | t :: ts => max t.height (Tm.heightL ts)
 end
theorem Tm.height_eq (t : Tm) : t.height = Tm.heightL t.args + 1 := by cases t; rfl
theorem Tm.height_le {ts : List Tm} {t : Tm} (h : t ∈ ts) : t.height ≤ Tm.heightL ts := by
  induction ts with
  | nil => cases h
  | cons x xs ih =>
    simp only [Tm.heightL]
    rcases List.mem_cons.1 h with e | e
    · subst e; omega
    · have := ih e; omega

/-- A visitor that is handed the own blocks 0, 1, 2: what a visit makes of them. -/
theorem each_spec3 {σ : Type} (F : SV) (hF0 : F.wf 3 = true) (B0 B1 B2 : σ → Blk) (I : σ → Prop) (step : σ → Tm → Int → σ)
    (hmut : ∀ s s', (B0 s).mut = (B0 s').mut ∧ (B1 s).mut = (B1 s').mut ∧ (B2 s).mut = (B2 s').mut) (hwf : ∀ s, (B0 s).wf 3 = true ∧ (B1 s).wf 3 = true ∧ (B2 s).wf 3 = true)
    (hren : ∀ s, (B0 s).ren (rix [0, 1, 2]) = B0 s ∧ (B1 s).ren (rix [0, 1, 2]) = B1 s ∧ (B2 s).ren (rix [0, 1, 2]) = B2 s) (hFren : F.ren (rix [0, 1, 2]) = F)
    (hF : ∀ s t b a c, I s → 0 ≤ b → b ≤ 1000000 → Meets Try.prog (.val F) [tmS t a c, iS b] ⟨[B0 s, B1 s, B2 s], [], [tmR t a c]⟩ (fun o S' => o = .ret (.tup []) ∧ I (step s t b) ∧ S' = ⟨[B0 (step s t b), B1 (step s t b), B2 (step s t b)], [], []⟩)) :
    ∀ (t : Tm) (s : σ) (b : Int) a c, I s → 0 ≤ b → b + t.height ≤ 1000000 → Meets Try.prog (fnS 64) [tmS t a c, iS b, F] ⟨[B0 s, B1 s, B2 s], [], [tmR t a c]⟩
      (fun o S' => o = .ret (.tup []) ∧ I (walkF step t s b) ∧ S' = ⟨[B0 (walkF step t s b), B1 (walkF step t s b), B2 (walkF step t s b)], [], []⟩) := by
  intro t
  induction t using Tm.ind with
  | h t ih =>
  intro s b a c hI hb1 hb2
  refine Meets.of_ok fun hok => ?_
  have hB : (Tm.encL t.args).length ≤ 1152921504606846976 := (hok _ (List.mem_cons_self ..)).1
  refine spec_of_body (N := 29) (m := 3) (dt := drawsOf [(5, .node [0, 1, 2, 3, 6] [(4, .node [5] [(7, .leaf [])])], [7])]) [] ttOK Try.func64 rfl Try.call64 Try.ntmps64 rfl (by simp [SV.wfL, SV.wf, hF0]) rfl mixed (by kernel_rfl) ?_
  have hw := hwf s
  have frameOK : ∀ (s : σ) (tail : List Blk) (p : Nat) (k : Blk), [B0 s, B1 s, B2 s][p]? = some k → ∃ i, [0, 1, 2][p]? = some i ∧ (B0 s :: B1 s :: B2 s :: tail)[i]? = some (k.ren (rix [0, 1, 2])) ∧ k.wf 3 = true := by
    intro s tail p k hp
    match p, hp with
    | 0, hp => simp at hp; subst hp; exact ⟨0, rfl, by rw [(hren s).1]; rfl, (hwf s).1⟩
    | 1, hp => simp at hp; subst hp; exact ⟨1, rfl, by rw [(hren s).2.1]; rfl, (hwf s).2.1⟩
    | 2, hp => simp at hp; subst hp; exact ⟨2, rfl, by rw [(hren s).2.2]; rfl, (hwf s).2.2⟩
  refine (hF s t b a c hI hb1 (by omega)).frame [0, 1, 2] (by simp [Cal.ren, hFren]) rfl (by decide) rfl ?_ (by simp) rfl hF0 ?_
  · exact fun p k hp => frameOK s _ p k hp
  rintro o s' ⟨rfl, hI1, rfl⟩
  have hm := hmut s (step s t b)
  refine ⟨rfl, by simp [hm], [B0 (step s t b), B1 (step s t b), B2 (step s t b)], by simp [hren], ?_⟩
  have hlen := Tm.encL_length t.args
  have hh := Tm.height_eq t
  refine AtLoop.mk ⟨Nat × σ, fun x => [(15, iS x.1), (14, iS (Tm.encL t.args).length), (13, .v (.slice a (Tm.encL t.args).length c)), (3, .loc 3 0), (1, iS b), (2, F)],
    fun x => ⟨[B0 x.2, B1 x.2, B2 x.2, .cells 24 [iS t.op, iS t.hd, iS t.n, .v (.slice a (Tm.encL t.args).length c)]], [], [tmR t a c]⟩,
    fun x => x.1 ≤ t.args.length ∧ I x.2 ∧ walkF step t s b = walkL step t.op (t.args.drop x.1) x.1 x.2 b,
    fun x => t.args.length - x.1, (0, step s t b), ⟨Nat.zero_le _, hI1, by simpa using walkF_eq step t s b⟩, ⟨rfl, rfl, rfl, rfl, rfl, rfl, trivial⟩, StLe.refl _, ?_, ?_⟩
  · intro x _
    have hF4 : F.wf 4 = true := SV.wf_mono (by omega) F hF0
    exact ⟨by simp [envWf, SV.wf, hF4]; rfl, rfl⟩
  rintro ⟨i, s1⟩ ⟨hi, hI2, hinv⟩
  simp only at hi hI2 hinv ⊢
  refine AtIf.mk (fun h1 => ?_) (fun h1 => ?_)
  · simp only [decide_eq_true_eq, hlen] at h1
    have hlt : i < t.args.length := by omega
    obtain ⟨t', ht'⟩ : ∃ t', t.args[i]? = some t' := ⟨_, List.getElem?_eq_getElem hlt⟩
    refine at_index ttOK 0 rfl rfl rfl rfl (by omega) (by rw [Int.toNat_natCast]; exact Tm.encL_get ht') ?_
    intro a' c' _ hB'
    refine (under_spec t a c i).at (by simp) rfl rfl ?_
    rintro r out ⟨rfl, rfl⟩
    refine ⟨fun _ _ h => h, ?_⟩
    have hu := under_le t.op i
    have hht : t'.height ≤ Tm.heightL t.args := Tm.height_le (List.mem_of_getElem? ht')
    have hw2 : IntKind.i64.wrap (b + under t.op i) = b + under t.op i := wrap_i64 (by omega) (by omega)
    have hs := ih t' (List.mem_of_getElem? ht') s1 (b + under t.op i) a' c' hI2 (by omega) (by omega)
    refine hs.frame [0, 1, 2] rfl (by simp only [hw2]; show _ = [_, _, F.ren _]; rw [hFren]; rfl) (by decide) rfl ?_ ?_ ?_ rfl ?_
    · exact fun p k hp => frameOK s1 _ p k hp
    · intro p hp; simp at hp; subst hp; simp
    · simp [SV.wfL, SV.wf, hF0]
    · rintro o s' ⟨rfl, hI3, rfl⟩
      have hm := hmut s1 (walkF step t' s1 (b + under t.op i))
      refine ⟨rfl, by simp [hm], [B0 (walkF step t' s1 (b + under t.op i)), B1 (walkF step t' s1 (b + under t.op i)), B2 (walkF step t' s1 (b + under t.op i))], by simp [hren], ?_⟩
      have hw3 : IntKind.i64.wrap (i + 1) = ((i + 1 : Nat) : Int) := wrap_i64 (by omega) (by omega)
      refine ⟨(i + 1, walkF step t' s1 (b + under t.op i)), ⟨by omega, hI3, ?_⟩, by simp; omega, ⟨by rw [← hw3]; rfl, rfl, rfl, rfl, rfl, rfl, trivial⟩, StLe.to _ _ rfl (by simp) rfl ?_⟩
      · rw [hinv]
        have hd : t.args.drop i = t' :: t.args.drop (i + 1) := by
          rw [List.drop_eq_getElem_cons hlt]
          congr 1
          rw [List.getElem?_eq_getElem hlt] at ht'
          simpa using ht'
        simp only [hd, walkL]
      · have := hwf (walkF step t' s1 (b + under t.op i))
        simp only [wfB, List.length_cons, List.length_nil, Blk.wf_mono (show 3 ≤ 0 + 1 + 1 + 1 + 1 by omega) this.1, Blk.wf_mono (show 3 ≤ 0 + 1 + 1 + 1 + 1 by omega) this.2.1, Blk.wf_mono (show 3 ≤ 0 + 1 + 1 + 1 + 1 by omega) this.2.2]
        rfl
  · refine ret_own [B0 s1, B1 s1, B2 s1] rfl rfl rfl ?_ rfl ⟨rfl, ?_⟩
    · have := hwf s1
      simp only [wfB, List.length_cons, List.length_nil, this.1, this.2.1, this.2.2]
    · simp only [decide_eq_false_iff_not, hlen] at h1
      rw [List.drop_of_length_le (by omega)] at hinv
      simp only [walkL] at hinv
      rw [hinv]
      exact ⟨hI2, rfl⟩
end Go.Proofs.Ytjjgfenincdgpaa
