/- Merged texts: TermA TermB TermC Sorted Free OrdA OrdB OrdC OrdD OrdE OrdF Ref3A Ref3B. TermA The contracts of term.proper and term.Check. Condition: the argument reads as a term (its slices are not longer than 2^60). The contracts of term.numbers' visitor, of maps.Keys' iterator and slices.Collect over it (at ints). Conditions stand in each. The contract of slices.Sort at a slice of ints that the run has made: it is sorted in its place. Condition: fewer than 2^62 elements. The contracts of maps.Keys, term.numbers and term.Free. Condition: the argument reads as a term. The contracts of order.isScope, order.isObject, term.Same. Condition: the arguments read as terms. The contract of order's match (its inner function). Condition: the arguments read as terms. The contracts of order's match and strip. Condition: the arguments read as terms; strip: each TLam has an argument, and the term is not nested deeper than 10^6. The contract of order's walk, for a visitor that is handed own blocks. Conditions: each TLam has an argument; what the visitor does stands in its contract. The contracts of order's within, compare and Compare. Conditions: for compare, each TLam has an argument, and the terms are not nested deeper than 10^6. Proper terms in plain words; the contract of order.Compare. Condition: the arguments read as terms. The contracts of trussref03's formed, nodes, Proper, Depth, Size, Same and below. Conditions: the arguments read as terms; Depth: a term nested at most 10^6 deep. The contracts of trussref03's Depth, Size, Same, below and low. Conditions: the arguments read as terms; Depth and low: nested at most 10^6 deep, and small numbers of binders. -/
import Derived.Test.YtpibdcjdamibdaaGreatQD
import Derived.Sort.OwnSortedInts
/-! TermA -/
section
namespace Go.Proofs.YtpibdcjdamibdaaGreat
open Go.Tr Go
set_option maxRecDepth 10000

def under (op i : Int) : Int := if op = 3 ∨ op = 2 ∧ i = 1 then 1 else 0
theorem under_le (op i : Int) : 0 ≤ under op i ∧ under op i ≤ 1 := by unfold under; split <;> omega

theorem under_spec (t : Tm) (a : Option Addr) (c : Nat) (i : Int) : Pure Tryz.prog (fnS 102) [tmS t a c, iS i] [] (fun r out => r = iS (under t.op i) ∧ out = []) := by
  refine spec_of_body (N := 17) (m := 0) (dt := fun _ => none) [] ttOK Tryz.func102 rfl Tryz.call102 Tryz.ntmps102 rfl rfl rfl mixed (by kernel_rfl) ?_
  refine AtIf.mk (fun h => ?_) (fun h => ?_)
  · refine AtRet.pure [] rfl (by simp) ⟨?_, rfl⟩
    unfold under; rw [if_pos (by simpa using h)]
  · refine AtRet.pure [] rfl (by simp) ⟨?_, rfl⟩
    unfold under; rw [if_neg (by simpa using h)]

section
variable {σ : Type} (step : σ → Tm → Int → σ)
mutual
def walkF : Tm → σ → Int → σ
  | .mk o h n args, s, b => walkL o args 0 (step s (.mk o h n args) b) b
def walkL : Int → List Tm → Nat → σ → Int → σ
  | _, [], _, s, _ => s
  | o, t :: ts, i, s, b => walkL o ts (i + 1) (walkF t s (b + under o i)) b
 end
theorem walkF_eq (t : Tm) (s : σ) (b : Int) : walkF step t s b = walkL step t.op t.args 0 (step s t b) b := by cases t; rfl
end

mutual
def Tm.height : Tm → Nat
  | .mk _ _ _ args => Tm.heightL args + 1
def Tm.heightL : List Tm → Nat
  | [] => 0
  | t :: ts => max t.height (Tm.heightL ts)
 end
theorem Tm.height_eq (t : Tm) : t.height = Tm.heightL t.args + 1 := by cases t; rfl
theorem Tm.height_le {ts : List Tm} {t : Tm} (h : t ∈ ts) : t.height ≤ Tm.heightL ts := by
  induction ts with
  | nil => cases h
  | cons x xs ih =>
    simp only [Tm.heightL]
    rcases List.mem_cons.1 h with e | e
    · subst e; omega
    · have := ih e; omega

/-- A visitor that is handed the own blocks 0, 1, 2: what a visit makes of them. -/
theorem each_spec3 {σ : Type} (F : SV) (hF0 : F.wf 3 = true) (B0 B1 B2 : σ → Blk) (I : σ → Prop) (step : σ → Tm → Int → σ)
    (hmut : ∀ s s', (B0 s).mut = (B0 s').mut ∧ (B1 s).mut = (B1 s').mut ∧ (B2 s).mut = (B2 s').mut) (hwf : ∀ s, (B0 s).wf 3 = true ∧ (B1 s).wf 3 = true ∧ (B2 s).wf 3 = true)
    (hren : ∀ s, (B0 s).ren (rix [0, 1, 2]) = B0 s ∧ (B1 s).ren (rix [0, 1, 2]) = B1 s ∧ (B2 s).ren (rix [0, 1, 2]) = B2 s) (hFren : F.ren (rix [0, 1, 2]) = F)
    (hF : ∀ s t b a c, I s → 0 ≤ b → b ≤ 1000000 → Meets Tryz.prog (.val F) [tmS t a c, iS b] ⟨[B0 s, B1 s, B2 s], [], [tmR t a c]⟩ (fun o S' => o = .ret (.tup []) ∧ I (step s t b) ∧ S' = ⟨[B0 (step s t b), B1 (step s t b), B2 (step s t b)], [], []⟩)) :
    ∀ (t : Tm) (s : σ) (b : Int) a c, I s → 0 ≤ b → b + t.height ≤ 1000000 → Meets Tryz.prog (fnS 79) [tmS t a c, iS b, F] ⟨[B0 s, B1 s, B2 s], [], [tmR t a c]⟩
      (fun o S' => o = .ret (.tup []) ∧ I (walkF step t s b) ∧ S' = ⟨[B0 (walkF step t s b), B1 (walkF step t s b), B2 (walkF step t s b)], [], []⟩) := by
  intro t
  induction t using Tm.ind with
  | h t ih =>
  intro s b a c hI hb1 hb2
  refine Meets.of_ok fun hok => ?_
  have hB : (Tm.encL t.args).length ≤ 1152921504606846976 := (hok _ (List.mem_cons_self ..)).1
  refine spec_of_body (N := 29) (m := 3) (dt := drawsOf [(5, .node [0, 1, 2, 3, 6] [(4, .node [5] [(7, .leaf [])])], [7], [])]) [] ttOK Tryz.func79 rfl Tryz.call79 Tryz.ntmps79 rfl (by simp [SV.wfL, SV.wf, hF0]) rfl mixed (by kernel_rfl) ?_
  have hw := hwf s
  have frameOK : ∀ (s : σ) (tail : List Blk) (p : Nat) (k : Blk), [B0 s, B1 s, B2 s][p]? = some k → ∃ i, [0, 1, 2][p]? = some i ∧ (B0 s :: B1 s :: B2 s :: tail)[i]? = some (k.ren (rix [0, 1, 2])) ∧ k.wf 3 = true := by
    intro s tail p k hp
    match p, hp with
    | 0, hp => simp at hp; subst hp; exact ⟨0, rfl, by rw [(hren s).1]; rfl, (hwf s).1⟩
    | 1, hp => simp at hp; subst hp; exact ⟨1, rfl, by rw [(hren s).2.1]; rfl, (hwf s).2.1⟩
    | 2, hp => simp at hp; subst hp; exact ⟨2, rfl, by rw [(hren s).2.2]; rfl, (hwf s).2.2⟩
  refine (hF s t b a c hI hb1 (by omega)).frame [0, 1, 2] (by simp [Cal.ren, hFren]) rfl (by decide) rfl ?_ (by simp) rfl hF0 ?_
  · exact fun p k hp => frameOK s _ p k hp
  rintro o s' ⟨rfl, hI1, rfl⟩
  have hm := hmut s (step s t b)
  refine ⟨rfl, by simp [hm], [B0 (step s t b), B1 (step s t b), B2 (step s t b)], by simp [hren], ?_⟩
  have hlen := Tm.encL_length t.args
  have hh := Tm.height_eq t
  refine AtLoop.mk ⟨Nat × σ, fun x => [(15, iS x.1), (14, iS (Tm.encL t.args).length), (13, .v (.slice a (Tm.encL t.args).length c)), (3, .loc 3 0), (1, iS b), (2, F)],
    fun x => ⟨[B0 x.2, B1 x.2, B2 x.2, .cells 51 [iS t.op, iS t.hd, iS t.n, .v (.slice a (Tm.encL t.args).length c)]], [], [tmR t a c]⟩,
    fun x => x.1 ≤ t.args.length ∧ I x.2 ∧ walkF step t s b = walkL step t.op (t.args.drop x.1) x.1 x.2 b,
    fun x => t.args.length - x.1, (0, step s t b), ⟨Nat.zero_le _, hI1, by simpa using walkF_eq step t s b⟩, ⟨rfl, rfl, rfl, rfl, rfl, rfl, trivial⟩, StLe.refl _, ?_, ?_⟩
  · intro x _
    have hF4 : F.wf 4 = true := SV.wf_mono (by omega) F hF0
    exact ⟨by simp [envWf, SV.wf, hF4]; rfl, rfl⟩
  rintro ⟨i, s1⟩ ⟨hi, hI2, hinv⟩
  simp only at hi hI2 hinv ⊢
  refine AtIf.mk (fun h1 => ?_) (fun h1 => ?_)
  · simp only [decide_eq_true_eq, hlen] at h1
    have hlt : i < t.args.length := by omega
    obtain ⟨t', ht'⟩ : ∃ t', t.args[i]? = some t' := ⟨_, List.getElem?_eq_getElem hlt⟩
    refine at_index ttOK 0 rfl rfl rfl rfl (by omega) (by rw [Int.toNat_natCast]; exact Tm.encL_get ht') ?_
    intro a' c' _ hB'
    refine (under_spec t a c i).at (by simp) rfl rfl ?_
    rintro r out ⟨rfl, rfl⟩
    refine ⟨fun _ _ h => h, ?_⟩
    have hu := under_le t.op i
    have hht : t'.height ≤ Tm.heightL t.args := Tm.height_le (List.mem_of_getElem? ht')
    have hw2 : IntKind.i64.wrap (b + under t.op i) = b + under t.op i := wrap_i64 (by omega) (by omega)
    have hs := ih t' (List.mem_of_getElem? ht') s1 (b + under t.op i) a' c' hI2 (by omega) (by omega)
    refine hs.frame [0, 1, 2] rfl (by simp only [hw2]; show _ = [_, _, F.ren _]; rw [hFren]; rfl) (by decide) rfl ?_ ?_ ?_ rfl ?_
    · exact fun p k hp => frameOK s1 _ p k hp
    · intro p hp; simp at hp; subst hp; simp
    · simp [SV.wfL, SV.wf, hF0]
    · rintro o s' ⟨rfl, hI3, rfl⟩
      have hm := hmut s1 (walkF step t' s1 (b + under t.op i))
      refine ⟨rfl, by simp [hm], [B0 (walkF step t' s1 (b + under t.op i)), B1 (walkF step t' s1 (b + under t.op i)), B2 (walkF step t' s1 (b + under t.op i))], by simp [hren], ?_⟩
      have hw3 : IntKind.i64.wrap (i + 1) = ((i + 1 : Nat) : Int) := wrap_i64 (by omega) (by omega)
      refine ⟨(i + 1, walkF step t' s1 (b + under t.op i)), ⟨by omega, hI3, ?_⟩, by simp; omega, ⟨by rw [← hw3]; rfl, rfl, rfl, rfl, rfl, rfl, trivial⟩, StLe.to _ _ rfl (by simp) rfl ?_⟩
      · rw [hinv]
        have hd : t.args.drop i = t' :: t.args.drop (i + 1) := by
          rw [List.drop_eq_getElem_cons hlt]
          congr 1
          rw [List.getElem?_eq_getElem hlt] at ht'
          simpa using ht'
        simp only [hd, walkL]
      · have := hwf (walkF step t' s1 (b + under t.op i))
        simp only [wfB, List.length_cons, List.length_nil, Blk.wf_mono (show 3 ≤ 0 + 1 + 1 + 1 + 1 by omega) this.1, Blk.wf_mono (show 3 ≤ 0 + 1 + 1 + 1 + 1 by omega) this.2.1, Blk.wf_mono (show 3 ≤ 0 + 1 + 1 + 1 + 1 by omega) this.2.2]
        rfl
  · refine ret_own [B0 s1, B1 s1, B2 s1] rfl rfl rfl ?_ rfl ⟨rfl, ?_⟩
    · have := hwf s1
      simp only [wfB, List.length_cons, List.length_nil, this.1, this.2.1, this.2.2]
    · simp only [decide_eq_false_iff_not, hlen] at h1
      rw [List.drop_of_length_le (by omega)] at hinv
      simp only [walkL] at hinv
      rw [hinv]
      exact ⟨hI2, rfl⟩
end Go.Proofs.YtpibdcjdamibdaaGreat
end

/-! TermB -/
section
namespace Go.Proofs.YtpibdcjdamibdaaGreat
open Go.Tr Go
set_option maxRecDepth 10000
theorem proper_spec (t : Tm) : ∀ (depth k : Int) (a : Option Addr) (c : Nat), 0 ≤ depth → depth ≤ 41 → 0 ≤ k → k ≤ 600 →
    Meets Tryz.prog (fnS 106) [tmS t a c, iS depth, .loc 0 0] ⟨[.cells 3 [iS k]], [], [tmR t a c]⟩
      (fun o S' => o = .ret (bS (properF t depth k).1) ∧ S' = ⟨[.cells 3 [iS (properF t depth k).2]], [], []⟩) := by
  induction t using Tm.ind with
  | h t ih =>
  intro depth k a c hd1 hd2 hk1 hk2
  refine Meets.of_ok fun hok => ?_
  have hB : (Tm.encL t.args).length ≤ 1152921504606846976 := (hok _ (List.mem_cons_self ..)).1
  have hlen := Tm.encL_length t.args
  refine spec_of_body (N := 95) (m := 1) (dt := fun _ => none) [6] ttOK Tryz.func106 rfl Tryz.call106 Tryz.ntmps106 rfl rfl rfl mixed (by kernel_rfl) ?_
  have hw : IntKind.i64.wrap (k + 1) = k + 1 := wrap_i64 (by omega) (by omega)
  have hF := properF_eq t depth k
  refine AtIf.mk ?_ ?_
  · intro h
    rw [hw] at h
    refine ret_own [.cells 3 [iS (k + 1)]] (by simp only [hw]; rfl) rfl rfl rfl rfl ?_
    rw [hF, if_pos (by simpa using h)]
    exact ⟨rfl, rfl⟩
  · intro h
    rw [hw] at h
    have hno : ¬ (600 < k + 1 ∨ 40 < depth) := by simpa using h
    rw [if_neg hno] at hF
    refine AtCut.mk ⟨Unit, fun _ => [(7, iS (Tm.encL t.args).length), (8, bS (okNode t.op t.hd t.n t.args.length)), (3, .loc 1 0), (1, iS depth), (2, .loc 0 0)],
      fun _ => ⟨[.cells 3 [iS (k + 1)], .cells 51 [iS t.op, iS t.hd, iS t.n, .v (.slice a (Tm.encL t.args).length c)]], [], [tmR t a c]⟩,
      fun _ => True, fun _ _ => ⟨rfl, rfl⟩, ?_, ?_⟩
    · have fin : ∀ {b : Bool} {env : Env} {S : St}, b = okNode t.op t.hd t.n t.args.length → S = ⟨[.cells 3 [iS (IntKind.i64.wrap (k + 1))], .cells 51 [iS t.op, iS t.hd, iS t.n, .v (.slice a (Tm.encL t.args).length c)]], [], [tmR t a c]⟩ →
          envLe env [(7, iS (Tm.encL t.args).length), (8, bS b), (3, .loc 1 0), (1, iS depth), (2, .loc 0 0)] → 
          ∃ x : Unit, True ∧ envLe env [(7, iS (Tm.encL t.args).length), (8, bS (okNode t.op t.hd t.n t.args.length)), (3, .loc 1 0), (1, iS depth), (2, .loc 0 0)] ∧ StLe S ⟨[.cells 3 [iS (k + 1)], .cells 51 [iS t.op, iS t.hd, iS t.n, .v (.slice a (Tm.encL t.args).length c)]], [], [tmR t a c]⟩ := by
        rintro b env S rfl rfl he
        exact ⟨(), trivial, he, by rw [hw]; exact StLe.refl _⟩
      refine AtIf.mk (fun h1 => ?_) (fun h1 => AtIf.mk (fun h2 => ?_) (fun h2 => AtIf.mk (fun h3 => ?_) (fun h3 => AtIf.mk (fun h4 => ?_) (fun h4 => ?_))))
      · refine fin ?_ rfl ⟨rfl, rfl, rfl, rfl, rfl, trivial⟩
        simp only [beq_iff_eq] at h1
        simp only [okNode, h1, hlen]
        rw [Bool.eq_iff_iff]; simp
      · refine fin ?_ rfl ⟨rfl, rfl, rfl, rfl, rfl, trivial⟩
        simp only [beq_iff_eq] at h2
        simp only [okNode, h2, hlen]
        rw [Bool.eq_iff_iff]; simp; omega
      · refine fin ?_ rfl ⟨rfl, rfl, rfl, rfl, rfl, trivial⟩
        simp only [beq_iff_eq] at h3
        simp only [okNode, h3, hlen]
        rw [Bool.eq_iff_iff]; simp; omega
      · refine fin ?_ rfl ⟨rfl, rfl, rfl, rfl, rfl, trivial⟩
        simp only [beq_iff_eq] at h4
        simp only [okNode, h4]
        rw [Bool.eq_iff_iff]; simp
      · simp only [beq_eq_false_iff_ne] at h1 h2 h3 h4
        refine ret_own [.cells 3 [iS (k + 1)]] (by simp only [hw]; rfl) rfl rfl rfl rfl ?_
        have : okNode t.op t.hd t.n t.args.length = false := by simp [okNode, h1, h2, h3, h4]
        rw [hF, this]
        exact ⟨rfl, rfl⟩
    · intro _ _
      refine AtLoop.mk ⟨Nat × Bool × Int, fun x => [(9, iS x.1), (7, iS (Tm.encL t.args).length), (8, bS x.2.1), (3, .loc 1 0), (1, iS depth), (2, .loc 0 0)],
        fun x => ⟨[.cells 3 [iS x.2.2], .cells 51 [iS t.op, iS t.hd, iS t.n, .v (.slice a (Tm.encL t.args).length c)]], [], [tmR t a c]⟩,
        fun x => x.1 ≤ t.args.length ∧ 0 ≤ x.2.2 ∧ (x.2.1 = true → x.2.2 ≤ 600) ∧ properF t depth k = if x.2.1 then properL (t.args.drop x.1) (depth + 1) x.2.2 else (false, x.2.2),
        fun x => t.args.length - x.1, (0, okNode t.op t.hd t.n t.args.length, k + 1), ?_, ⟨rfl, rfl, rfl, rfl, rfl, rfl, trivial⟩, StLe.refl _, fun x _ => ⟨rfl, rfl⟩, ?_⟩
      · exact ⟨Nat.zero_le _, by simp; omega, fun _ => by simp; omega, by simpa using hF⟩
      · rintro ⟨i, ok, kk⟩ ⟨hi, hk0, hk6, hinv⟩
        simp only at hi hk0 hk6 hinv ⊢
        refine AtIf.mk (fun h1 => ?_) (fun h1 => ?_)
        · simp only [Bool.and_eq_true, decide_eq_true_eq, hlen] at h1
          obtain ⟨h1, rfl⟩ := h1
          have hlt : i < t.args.length := by omega
          obtain ⟨t', ht'⟩ : ∃ t', t.args[i]? = some t' := ⟨_, List.getElem?_eq_getElem hlt⟩
          refine at_index ttOK 0 rfl rfl rfl rfl (by omega) (by rw [Int.toNat_natCast]; exact Tm.encL_get ht') ?_
          intro a' c' _ _
          have hw2 : IntKind.i64.wrap (depth + 1) = depth + 1 := wrap_i64 (by omega) (by omega)
          have hspec := ih t' (List.mem_of_getElem? ht') (depth + 1) kk a' c' (by omega) (by omega) hk0 (hk6 rfl)
          refine hspec.frame [0] rfl (by simp only [hw2]; rfl) (by simp) rfl ?_ ?_ rfl rfl ?_
          · intro p q hp
            match p, hp with
            | 0, hp => simp at hp; subst hp; exact ⟨0, rfl, rfl, rfl⟩
          · intro p hp; simp at hp; subst hp; exact List.mem_cons_of_mem _ (List.mem_cons_self ..)
          · rintro o s' ⟨rfl, rfl⟩
            refine ⟨rfl, rfl, [.cells 3 [iS (properF t' (depth + 1) kk).2]], rfl, ?_⟩
            have hle := properF_le t' (depth + 1) kk hk0 (hk6 rfl)
            have hw3 : IntKind.i64.wrap (i + 1) = ((i + 1 : Nat) : Int) := wrap_i64 (by omega) (by omega)
            refine ⟨(i + 1, (properF t' (depth + 1) kk).1, (properF t' (depth + 1) kk).2), ⟨by omega, by simp; omega, hle.2.2, ?_⟩, by simp; omega, ⟨by rw [← hw3]; rfl, rfl, rfl, rfl, rfl, rfl, trivial⟩, StLe.to _ _ rfl (by simp) rfl rfl⟩
            rw [hinv]
            have hd : t.args.drop i = t' :: t.args.drop (i + 1) := by
              rw [List.drop_eq_getElem_cons hlt]
              congr 1
              rw [List.getElem?_eq_getElem hlt] at ht'
              simpa using ht'
            simp only [if_true, hd, properL]
            cases properF t' (depth + 1) kk with
            | mk b k' => cases b <;> rfl
        · refine ret_own [.cells 3 [iS kk]] rfl rfl rfl rfl rfl ?_
          have : properF t depth k = (ok, kk) := by
            rw [hinv]
            cases ok with
            | false => rfl
            | true =>
              simp only [Bool.and_true, decide_eq_false_iff_not, hlen] at h1
              rw [List.drop_of_length_le (by omega)]
              rfl
          rw [this]
          exact ⟨rfl, rfl⟩

/-- A term is proper. -/
def isProper (t : Tm) : Bool := (properF t 1 0).1

theorem check_spec (t : Tm) (a : Option Addr) (c : Nat) : Pure Tryz.prog (fnS 77) [tmS t a c] [tmR t a c] (fun r out => r = iS (if isProper t then 0 else 2) ∧ out = []) := by
  refine spec_of_body (N := 7) (m := 0) (dt := fun _ => none) [] ttOK Tryz.func77 rfl Tryz.call77 Tryz.ntmps77 rfl rfl rfl mixed (by kernel_rfl) ?_
  have hs := proper_spec t 1 0 a c (by omega) (by omega) (by omega) (by omega)
  refine hs.frame [1] rfl rfl (by decide) rfl ?_ (by simp) rfl rfl ?_
  · intro p q hp
    match p, hp with
    | 0, hp => simp at hp; subst hp; exact ⟨1, rfl, rfl, rfl⟩
  rintro o s' ⟨rfl, rfl⟩
  refine ⟨rfl, rfl, [.cells 3 [iS (properF t 1 0).2]], rfl, ?_⟩
  refine AtIf.mk (fun h => ?_) (fun h => ?_)
  · refine AtRet.pure [] rfl (by simp) ⟨?_, rfl⟩
    simp only [Bool.not_eq_true'] at h
    simp [isProper, h]
  · refine AtRet.pure [] rfl (by simp) ⟨?_, rfl⟩
    simp only [Bool.not_eq_false'] at h
    simp [isProper, h]
end Go.Proofs.YtpibdcjdamibdaaGreat
end

/-! TermC -/
section
namespace Go.Proofs.YtpibdcjdamibdaaGreat
open Go.Tr Go
set_option maxRecDepth 10000

theorem nodup_bound : ∀ (n : Nat) (l : List Nat), l.Nodup → (∀ m ∈ l, m < n) → l.length ≤ n
  | 0, l, _, h => by
    cases l with
    | nil => simp
    | cons a l => have := h a (by simp); omega
  | n + 1, l, hn, h => by
    by_cases hm : n ∈ l
    · have h1 := nodup_bound n (l.erase n) (hn.erase n) (fun m hm' => by
        have := (hn.mem_erase_iff.1 hm')
        have := h m this.2
        omega)
      rw [List.length_erase_of_mem hm] at h1
      omega
    · have h1 := nodup_bound n l hn (fun m hm' => by
        have h2 := h m hm'
        have h3 : m ≠ n := fun e => hm (e ▸ hm')
        omega)
      omega

theorem int_under : Tryz.prog.underlying 3 = some (.int .i64) := Tryz.underlying3

/-- What a node adds to the numbers that were found. -/
def noteStep (f : Tm → Int → Int × Bool) (l : List (Int × Value)) (t : Tm) (b : Int) : List (Int × Value) :=
  if t.op = 4 ∧ (f t b).2 = true then putAt (f t b).1 (.bool true) l else l

/-- The function that numbers asks of each node, by what it answers. -/
def AsksOK (OF : SV) (f : Tm → Int → Int × Bool) : Prop :=
  ∀ t b a c, 0 ≤ b → b ≤ 1000000 → Pure Tryz.prog (.val OF) [tmS t a c, iS b] [tmR t a c] (fun r out => r = .tup [iS (f t b).1, bS (f t b).2] ∧ out = [])

theorem numbers1_spec (OF : SV) (hOF : OF.wf 0 = true) (f : Tm → Int → Int × Bool) (hf : AsksOK OF f) (t : Tm) (a : Option Addr) (c : Nat) (b : Int) (hb : 0 ≤ b) (hb1 : b ≤ 1000000) (l : List (Int × Value)) :
    Meets Tryz.prog (.val (.fn (.func 117) [] [.loc 0 0, .loc 2 0])) [tmS t a c, iS b] ⟨[.cells 132 [OF], .obj (mapO .i64 l), .cells 148 [.mp 1]], [], [tmR t a c]⟩
      (fun o S' => o = .ret (.tup []) ∧ S' = ⟨[.cells 132 [OF], .obj (mapO .i64 (noteStep f l t b)), .cells 148 [.mp 1]], [], []⟩) := by
  refine spec_of_body (N := 21) (m := 3) (dt := fun _ => none) [] ttOK Tryz.func117 rfl Tryz.call117 Tryz.ntmps117 rfl (by simp [SV.wfL, SV.wf]) rfl mixed (by kernel_rfl) ?_
  refine AtIf.mk (fun h => ?_) (fun h => ?_)
  · simp only [beq_iff_eq] at h
    refine (hf t b a c hb hb1).at (by simp) rfl hOF ?_
    rintro r out ⟨rfl, rfl⟩
    refine AtIf.mk (fun h2 => ?_) (fun h2 => ?_)
    · refine at_mapPut ttOK (.bool true) rfl int_under rfl rfl rfl (fun _ => rfl) ?_
      refine ret_own [.cells 132 [OF], .obj (mapO .i64 (putAt (f t b).1 (.bool true) l)), .cells 148 [.mp 1]] rfl rfl rfl ?_ rfl ⟨rfl, ?_⟩
      · simp [wfB, Blk.wf, SV.wfL, SV.wf, SV.wf_mono (Nat.zero_le _) OF hOF, mapO]; rfl
      · rw [noteStep, if_pos ⟨h, h2⟩]
    · refine ret_own [.cells 132 [OF], .obj (mapO .i64 l), .cells 148 [.mp 1]] rfl rfl rfl ?_ rfl ⟨rfl, ?_⟩
      · simp [wfB, Blk.wf, SV.wfL, SV.wf, SV.wf_mono (Nat.zero_le _) OF hOF, mapO]; rfl
      · rw [noteStep, if_neg (fun hh => by rw [h2] at hh; cases hh.2)]
  · simp only [beq_eq_false_iff_ne] at h
    refine ret_own [.cells 132 [OF], .obj (mapO .i64 l), .cells 148 [.mp 1]] rfl rfl rfl ?_ rfl ⟨rfl, ?_⟩
    · simp [wfB, Blk.wf, SV.wfL, SV.wf, SV.wf_mono (Nat.zero_le _) OF hOF, mapO]; rfl
    · rw [noteStep, if_neg (fun hh => h hh.1)]

/-- What Free asks of a node. -/
def freeOf (t : Tm) (b : Int) : Int × Bool := (IntKind.i64.wrap (t.n - b), t.hd == 1 && decide (b ≤ t.n))

theorem free1_spec : AsksOK (.fn (.func 97) [] []) freeOf := by
  intro t b a c _ _
  refine spec_of_body (N := 19) (m := 0) (dt := drawsOf [(1, .leaf [0, 1, 2, 3, 4, 5, 6, 7, 8, 9, 10, 11, 12, 13, 14], [], [])]) [] ttOK Tryz.func97 rfl Tryz.call97 Tryz.ntmps97 rfl rfl rfl mixed (by kernel_rfl) ?_
  refine AtRet.pure [] rfl (by simp) ⟨rfl, rfl⟩

/-- A function that is asked for each key, from left to right: the keys so far are told by its state. -/
structure AsksKey (n0 : Nat) (Y : SV) {σ : Type} (m0 m1 : Blk) (B2 B3 : σ → Blk) (A : σ → List Acc) (kof : σ → List Int) (L : Nat) : Prop where
  wf : Y.wf n0 = true
  does : ∀ s k, (kof s).length < L → Meets Tryz.prog (.val Y) [iS k] ⟨[m0, m1, B2 s, B3 s], A s, []⟩ (fun o S' => o = .ret (bS true) ∧ ∃ s', kof s' = kof s ++ [k] ∧ S' = ⟨[m0, m1, B2 s', B3 s'], A s', []⟩)

theorem keys1_spec (l : List (Int × Value)) {σ : Type} (Y : SV) (B2 B3 : σ → Blk) (A : σ → List Acc) (kof : σ → List Int) (hY : AsksKey 4 Y (.obj (mapO .i64 l)) (.cells 148 [.mp 0]) B2 B3 A kof l.length)
    (hB : ∀ s s', (B2 s).mut = (B2 s').mut ∧ (B3 s).mut = (B3 s').mut) (hwf : ∀ s, (B2 s).wf 4 = true ∧ (B3 s).wf 4 = true) (s0 : σ) (h0 : kof s0 = []) :
    Meets Tryz.prog (.val (.fn (.func 133) [] [.loc 1 0])) [Y] ⟨[.obj (mapO .i64 l), .cells 148 [.mp 0], B2 s0, B3 s0], A s0, []⟩
      (fun o S' => o = .ret (.tup []) ∧ ∃ s, (kof s).Perm (l.map (·.1)) ∧ S' = ⟨[.obj (mapO .i64 l), .cells 148 [.mp 0], B2 s, B3 s], A s, []⟩) := by
  refine spec_of_body (N := 14) (m := 4) (dt := fun _ => none) [] ttOK Tryz.func133 rfl Tryz.call133 Tryz.ntmps133 rfl (by simp [SV.wfL, SV.wf, hY.wf]) rfl mixed (by kernel_rfl) ?_
  refine at_range ttOK rfl rfl rfl ?_
  have hlt : ∀ (seen : Array Nat), seen.toList.Nodup → (∀ m ∈ seen.toList, m < l.length) → seen.size ≤ l.length := fun seen h1 h2 => by
    simpa using nodup_bound l.length seen.toList h1 h2
  refine AtLoop.mk ⟨σ × Array Nat, fun _ => [(5, .loc 4 0), (0, Y)], fun x => ⟨[.obj (mapO .i64 l), .cells 148 [.mp 0], B2 x.1, B3 x.1, .iter 0 l.length x.2 l.length], A x.1, []⟩,
    fun x => kof x.1 = x.2.toList.map (fun m => ((l[m]?).map (·.1)).getD 0) ∧ x.2.toList.Nodup ∧ ∀ m ∈ x.2.toList, m < l.length, fun x => l.length - x.2.size, (s0, #[]), ⟨by simp [h0], by simp, by simp⟩, ⟨rfl, rfl, trivial⟩, StLe.refl _, ?_, ?_⟩
  · intro x _
    refine ⟨?_, rfl⟩
    simp [envWf, SV.wf, SV.wf_mono (show 4 ≤ 5 by omega) Y hY.wf]
    rfl
  rintro ⟨s, seen⟩ ⟨hk, hnd, hsm⟩
  simp only at hk hnd hsm ⊢
  refine at_next rfl rfl rfl ?_ ?_
  · intro hall
    refine AtIf.mk (fun h => by cases h) (fun _ => ?_)
    refine ret_keep [.obj (mapO .i64 l), .cells 148 [.mp 0], B2 s, B3 s] rfl rfl rfl ?_ rfl ⟨rfl, s, ?_, rfl⟩
    · have := hwf s
      simp only [wfB, List.length_cons, List.length_nil, this.1, this.2]
      rfl
    · rw [hk]
      have hp : seen.toList.Perm (List.range l.length) := by
        refine (List.perm_ext_iff_of_nodup hnd List.nodup_range).2 (fun m => ?_)
        rw [List.mem_range]
        exact ⟨hsm m, fun hm => by simpa using hall m hm⟩
      refine (hp.map _).trans (List.Perm.of_eq ?_)
      apply List.ext_getElem?
      intro m
      simp only [List.getElem?_map]
      rcases Nat.lt_or_ge m l.length with h | h
      · simp [h]
      · simp [Nat.not_lt.2 h]
  · intro m p hp hns
    refine AtIf.mk (fun _ => ?_) (fun h => by cases h)
    refine at_entry rfl rfl rfl hp ?_
    have hmlt : m < l.length := (List.getElem?_eq_some_iff.1 hp).1
    have hsz : (seen.push m).size ≤ l.length := hlt (seen.push m) (by simp [List.nodup_append, hnd]; intro a ha e; subst e; exact hns (by simpa using ha)) (by simp; rintro a (ha | ha); exact hsm a (by simpa using ha); omega)
    have hs := hY.does s p.1 (by rw [hk]; simp at hsz ⊢; omega)
    have hw := hwf s
    refine hs.frame0 [.iter 0 l.length (seen.push m) l.length] [] rfl (by simp) ?_ (by simp) rfl hY.wf ?_
    · intro q hq
      simp only [List.mem_cons, List.not_mem_nil, or_false] at hq
      rcases hq with rfl | rfl | rfl | rfl
      · rfl
      · rfl
      · exact hw.1
      · exact hw.2
    rintro o s' ⟨rfl, s2, hk2, rfl⟩
    refine ⟨by simp [hB s s2], ?_⟩
    refine AtIf.mk (fun h => by cases h) (fun _ => ?_)
    refine ⟨(s2, seen.push m), ⟨?_, ?_, ?_⟩, ?_, ⟨rfl, rfl, trivial⟩, ?_⟩
    · simp [hk2, hk, hp]
    · simp [List.nodup_append, hnd]; intro a ha e; subst e; exact hns (by simpa using ha)
    · simp; rintro a (ha | ha); exact hsm a (by simpa using ha); omega
    · simp at hsz ⊢; omega
    · simp only [List.append_nil]
      exact StLe.refl _

/-- What slices.AppendSeq has collected. -/
abbrev seqB2 (x : List Int × Value) : Blk := .cells 31 [.v x.2]
abbrev seqA (x : List Int × Value) : List Acc := [⟨x.2, 1, 3, x.1.map (D.int .i64)⟩]

theorem appendSeq_spec (l : List (Int × Value)) (hL : l.length ≤ 1000000) :
    Meets Tryz.prog (fnS 141) [.v (.slice none 0 0), .fn (.func 133) [] [.loc 1 0]] ⟨[.obj (mapO .i64 l), .cells 148 [.mp 0]], [⟨.slice none 0 0, 1, 3, []⟩], []⟩
      (fun o S' => ∃ (ks : List Int) (v : Value), ks.Perm (l.map (·.1)) ∧ o = .ret (.v v) ∧ S' = ⟨[.obj (mapO .i64 l), .cells 148 [.mp 0]], [⟨v, 1, 3, ks.map (D.int .i64)⟩], []⟩) := by
  refine spec_of_body (N := 13) (m := 2) (dt := fun _ => none) [] ttOK Tryz.func141 rfl Tryz.call141 Tryz.ntmps141 rfl rfl rfl mixed (by kernel_rfl) ?_
  refine AtRange.mk ⟨[(2, .loc 2 0)], ⟨rfl, trivial⟩, rfl, rfl, ⟨_, _, _, rfl, Tryz.call133⟩, ?_⟩
  refine (keys1_spec l (.yld 3) seqB2 (fun _ => _) seqA (·.1) ⟨rfl, ?_⟩ (fun _ _ => ⟨rfl, rfl⟩) (fun _ => ⟨rfl, rfl⟩) ([], .slice none 0 0) rfl).mono ?_
  · rintro ⟨ks, v⟩ k hlt
    simp only at hlt
    refine spec_of_round (N := 13) (m := 4) (dt := fun _ => none) [] ttOK rfl rfl rfl rfl rfl rfl mixed (by kernel_rfl) (by kernel_rfl) ?_
    refine at_build ttOK 8 [.int .i64 k] rfl (by kernel_rfl) ⟨⟨rfl, rfl, rfl, rfl⟩, trivial⟩ rfl (by decide) (by decide) ?_
    intro a
    refine at_append ttOK 8 0 0 rfl (by kernel_rfl) rfl rfl rfl rfl (by simp; omega) (by simp; omega) ?_
    intro a' c'
    refine ret_keep [.obj (mapO .i64 l), .cells 148 [.mp 0], seqB2 (ks ++ [k], .slice a' ((ks.map (D.int .i64)).length + 1) c'), _] rfl rfl rfl rfl rfl ⟨rfl, (ks ++ [k], .slice a' ((ks.map (D.int .i64)).length + 1) c'), rfl, ?_⟩
    simp [stOf]
  · rintro o S' ⟨rfl, ⟨ks, v⟩, hp, rfl⟩
    refine ⟨⟨_, StLe.of (S' := ⟨[.obj (mapO .i64 l), .cells 148 [.mp 0]], seqA (ks, v), []⟩) rfl (List.Sublist.refl _) (by simp) rfl rfl, Nat.le_refl _, rfl, ks, v, hp, rfl, rfl⟩⟩
end Go.Proofs.YtpibdcjdamibdaaGreat
end

/-! Sorted -/
section
namespace Go.Proofs.YtpibdcjdamibdaaGreat
open Go.Tr Go
set_option maxRecDepth 10000

theorem repE_ints {J : Nat → Prop} {w : World} : ∀ (ks : List Int) (cs : List Value), RepE J w 1 (ks.map (D.int .i64)) cs ↔ cs.take ks.length = ks.map (Value.int .i64)
  | [], cs => by simp [RepE]
  | k :: ks, cs => by
    simp only [List.map_cons, RepE, repE_ints ks, RepC, List.length_cons]
    cases cs with
    | nil => simp
    | cons c cs => simp

def sorted (ks : List Int) : List Int := ks.mergeSort fun x y => decide (x ≤ y)

theorem sorted_perm {l l' : List Int} (h : l.Perm l') : sorted l = sorted l' := by
  have tr : ∀ a b c : Int, decide (a ≤ b) = true → decide (b ≤ c) = true → decide (a ≤ c) = true := by simp; omega
  have tot : ∀ a b : Int, (decide (a ≤ b) || decide (b ≤ a)) = true := by simp; omega
  refine List.Perm.eq_of_pairwise (le := fun x y : Int => x ≤ y) ?_ ?_ ?_ (((List.mergeSort_perm l _).trans h).trans (List.mergeSort_perm l' _).symm)
  · intro a b _ _ h1 h2; omega
  · exact (List.pairwise_mergeSort tr tot l).imp (by simp)
  · exact (List.pairwise_mergeSort tr tot l').imp (by simp)

theorem sort_some (ks : List Int) (b cap : Nat) (hlen : ks.length < 4611686018427387904) :
    Meets Tryz.prog (fnS 132) [.v (.slice (some ⟨b, 0, none⟩) ks.length cap)] ⟨[], [⟨.slice (some ⟨b, 0, none⟩) ks.length cap, 1, 3, ks.map (D.int .i64)⟩], []⟩
      (fun o S' => o = .ret (.tup []) ∧ S' = ⟨[], [⟨.slice (some ⟨b, 0, none⟩) ks.length cap, 1, 3, (sorted ks).map (D.int .i64)⟩], []⟩) := by
  intro J ℓ w hG hJ
  have hl : ℓ = [] := by have := hG.len; simpa using this
  subst hl
  have hacc := hG.accs _ (List.mem_singleton.2 rfl)
  rcases hacc with ⟨hv, _⟩ | ⟨g, cp, c, hv, hgb, hcs, hle, hre⟩
  · cases hv
  simp only [List.length_map, Value.slice.injEq, Option.some.injEq, Addr.mk.injEq, and_true, true_and] at hv
  obtain ⟨rfl, rfl⟩ := hv
  simp only [List.length_map] at hle
  have ht := (repE_ints ks c.toList).1 hre
  refine ⟨.enter 132 #[.slice (some ⟨b, 0, none⟩) ks.length cap], ?_, ?_⟩
  · simp only [Cal.sem, SV.den, SV.denL, Deferred.ofValue, Sem.run_bind, Sem.run_pure, Result.andThen_ok, invoke]
    exact Tryz.call132 _ _
  · have hc := Any.slices_Sort_int sortLays b 0 cap ks w (holds_of_blockI hgb ht) (lt_of_get hgb) hlen
    refine CallsIn.mono ((callsIn_wide (n := 0)).2 hc) ?_
    rintro e w' ⟨rfl, n, os, rfl⟩
    have hsl : (sorted ks).length = ks.length := by simp [sorted, List.length_mergeSort]
    have hgr := grownBy_sortedI (w := w) (g := b) (n := n) (os := os) (sorted ks).toArray
    have hhs := heap_sortedI (n := n) (os := os) (sorted ks).toArray hgb
    have hgood := hG.regrow (j := 0) (a' := ⟨.slice (some ⟨b, 0, none⟩) ks.length cap, 1, 3, (sorted ks).map (D.int .i64)⟩) (w' := Go.Sort.grow (Go.Sort.putRow (Value.int .i64) (Go.Sort.ahead w n) b 0 (sorted ks).toArray) os) hJ rfl hgr.size
      (fun x hx hm => hgr.block x hx (fun e => hm (by simp only [Option.some.injEq] at e; simp [accBlk, e]))) (by simp [accBlk]) (fun x hx => ?_) (fun J' hj => ?_)
    · refine ⟨[], .ret (.tup []), _, rfl, rfl, List.prefix_refl _, ⟨hgr.os, hgr.output, hgr.size, fun x hx hm => hgr.block x hx (fun e => hm ?_)⟩, hgood.1, hgood.2, rfl, rfl⟩
      simp only [Option.some.injEq] at e
      simp [mutS, mutL, accBlk, e]
    · simp [accBlk] at hx
      subst hx
      exact ⟨.inl (by simp [accBlk]), lt_of_get hhs⟩
    · refine .inr ⟨b, cap, _, by simp [hsl], hhs, by simp [Go.Sort.putCells, hcs], by simp [hsl]; exact hle, ?_⟩
      rw [repE_ints, hsl, ← hsl]
      exact take_putCellsI c (sorted ks) (by rw [hsl, hcs]; simp; exact hle.1)

abbrev nilS : SV := .v (.slice none 0 0)

theorem insertion_none : Pure Tryz.prog (fnS 151) [nilS, iS 0, iS 0] [] (fun r out => r = .tup [] ∧ out = []) := by
  refine spec_of_body (N := 49) (m := 0) (dt := drawsOf [(4, .node [0, 1, 2, 3, 4, 5, 6, 7, 8, 9, 10, 11, 12] [(13, .leaf [14])], [13], []), (6, .node [0, 1, 2, 3, 4, 5, 6, 7, 8, 9, 10, 11, 12, 13, 14] [(15, .node [16] [(17, .leaf [])])], [17], [])]) [] ttOK Tryz.func151 rfl Tryz.call151 Tryz.ntmps151 rfl rfl rfl mixed (by kernel_rfl) ?_
  refine AtLoop.mk ⟨Unit, fun _ => [(6, iS 1), (2, iS 0)], fun _ => ⟨[], [], []⟩, fun _ => True, fun _ => 0, (), trivial, ⟨rfl, rfl, trivial⟩, StLe.refl _, fun _ _ => ⟨rfl, rfl⟩, ?_⟩
  intro _ _
  refine AtIf.mk (fun h => by cases h) (fun _ => ?_)
  exact AtRet.pure [] rfl (by simp) ⟨rfl, rfl⟩

theorem pdq_none (lim : Int) : Pure Tryz.prog (fnS 142) [nilS, iS 0, iS 0, iS lim] [] (fun r out => r = .tup [] ∧ out = []) := by
  refine spec_of_body (N := 134) (m := 0) (dt := drawsOf [(17, .node [0, 1, 2, 3, 4, 5, 6, 7, 8, 9, 10, 11] [(12, .leaf [13, 14])], [12], [])]) [] ttOK Tryz.func142 rfl Tryz.call142 Tryz.ntmps142 rfl rfl rfl mixed (by kernel_rfl) ?_
  refine AtLoop.mk ⟨Unit, fun _ => [(0, nilS), (1, iS 0), (2, iS 0)], fun _ => ⟨[], [], []⟩, fun _ => True, fun _ => 0, (), trivial, ⟨rfl, rfl, rfl, trivial⟩, StLe.refl _, fun _ _ => ⟨rfl, rfl⟩, ?_⟩
  intro _ _
  refine AtIf.mk (fun _ => ?_) (fun h => by cases h)
  refine insertion_none.at (by simp) rfl rfl ?_
  rintro r out ⟨rfl, rfl⟩
  exact AtRet.pure [] rfl (by simp) ⟨rfl, rfl⟩

theorem len64_zero : Pure Tryz.prog (fnS 161) [.v (.int .u64 0)] [] (fun r out => r = iS 0 ∧ out = []) := by
  refine spec_of_body (N := 25) (m := 0) (dt := fun _ => none) [] ttOK Tryz.func161 rfl Tryz.call161 Tryz.ntmps161 rfl rfl rfl mixed (by kernel_rfl) ?_
  refine AtIf.mk (fun h => by cases h) (fun _ => ?_)
  refine AtIf.mk (fun h => by cases h) (fun _ => ?_)
  refine AtIf.mk (fun h => by cases h) (fun _ => ?_)
  refine AtSem.val (.v (.int .u8 0)) rfl (fun _ _ => by kernel_rfl) ?_
  refine AtPure.val (.v (.int .u8 0)) rfl (fun _ _ => by kernel_rfl) ?_
  refine AtSem.val (.v (.int .i64 0)) rfl (fun _ _ => by kernel_rfl) ?_
  exact AtRet.pure [] rfl (by simp) ⟨rfl, rfl⟩

theorem len_zero : Pure Tryz.prog (fnS 143) [.v (.int .u64 0)] [] (fun r out => r = iS 0 ∧ out = []) := by
  refine spec_of_body (N := 8) (m := 0) (dt := fun _ => none) [] ttOK Tryz.func143 rfl Tryz.call143 Tryz.ntmps143 rfl rfl rfl mixed (by kernel_rfl) ?_
  refine AtIf.mk (fun h => by cases h) (fun _ => ?_)
  refine len64_zero.at (by simp) rfl rfl ?_
  rintro r out ⟨rfl, rfl⟩
  exact AtRet.pure [] rfl (by simp) ⟨rfl, rfl⟩

theorem sort_none : Pure Tryz.prog (fnS 132) [nilS] [] (fun r out => r = .tup [] ∧ out = []) := by
  refine spec_of_body (N := 11) (m := 0) (dt := fun _ => none) [] ttOK Tryz.func132 rfl Tryz.call132 Tryz.ntmps132 rfl rfl rfl mixed (by kernel_rfl) ?_
  refine AtSem.val (.v (.int .u64 0)) rfl (fun _ _ => by kernel_rfl) ?_
  refine len_zero.at (by simp) rfl rfl ?_
  rintro r out ⟨rfl, rfl⟩
  refine (pdq_none 0).at (by simp) rfl rfl ?_
  rintro r out ⟨rfl, rfl⟩
  exact AtRet.pure [] rfl (by simp) ⟨rfl, rfl⟩

/-- What may grow is nil, or lies in a block. -/
theorem acc_cases {P : Program} {cl : Cal} {args : List SV} {v : Value} {k : Nat} {T : TypeId} {ds : List D} {R : Out → St → Prop} (h1 : v = .slice none 0 0 → ds = [] → Meets P cl args ⟨[], [⟨v, k, T, ds⟩], []⟩ R) (h2 : ∀ b cap, v = .slice (some ⟨b, 0, none⟩) ds.length cap → Meets P cl args ⟨[], [⟨v, k, T, ds⟩], []⟩ R) : Meets P cl args ⟨[], [⟨v, k, T, ds⟩], []⟩ R := by
  intro J ℓ w hG hJ
  rcases hG.accs _ (List.mem_singleton.2 rfl) with ⟨hv, hd⟩ | ⟨b, cap, c, hv, _⟩
  · exact h1 hv hd J ℓ w hG hJ
  · exact h2 b cap hv J ℓ w hG hJ

theorem sort_spec (ks : List Int) (v : Value) (hlen : ks.length < 4611686018427387904) :
    Meets Tryz.prog (fnS 132) [.v v] ⟨[], [⟨v, 1, 3, ks.map (D.int .i64)⟩], []⟩ (fun o S' => o = .ret (.tup []) ∧ S' = ⟨[], [⟨v, 1, 3, (sorted ks).map (D.int .i64)⟩], []⟩) := by
  refine acc_cases (fun hv hd => ?_) (fun b cap hv => ?_)
  · have hk : ks = [] := by simpa using hd
    subst hv hk
    refine sort_none.at (by simp) rfl rfl ?_
    rintro r out ⟨rfl, rfl⟩
    exact ⟨rfl, by simp [sorted]⟩
  · rw [List.length_map] at hv
    subst hv
    exact sort_some ks b cap hlen

theorem collect_spec (l : List (Int × Value)) (hL : l.length ≤ 1000000) :
    Meets Tryz.prog (fnS 131) [.fn (.func 133) [] [.loc 1 0]] ⟨[.obj (mapO .i64 l), .cells 148 [.mp 0]], [], []⟩
      (fun o S' => ∃ (ks : List Int) (v : Value), ks.Perm (l.map (·.1)) ∧ o = .ret (.v v) ∧ S' = ⟨[.obj (mapO .i64 l), .cells 148 [.mp 0]], [⟨v, 1, 3, ks.map (D.int .i64)⟩], []⟩) := by
  refine spec_of_body (N := 5) (m := 2) (dt := fun _ => none) [] ttOK Tryz.func131 rfl Tryz.call131 Tryz.ntmps131 rfl rfl rfl mixed (by kernel_rfl) ?_
  refine (Meets.nilAcc 1 3 (appendSeq_spec l hL)).frame0 [] [] rfl (by simp) ?_ (by simp) rfl rfl ?_
  · intro q hq
    simp only [List.mem_cons, List.not_mem_nil, or_false] at hq
    rcases hq with rfl | rfl <;> rfl
  rintro o s' ⟨ks, v, hp, rfl, rfl⟩
  refine ⟨rfl, ?_⟩
  exact ret_keep [.obj (mapO .i64 l), .cells 148 [.mp 0]] rfl rfl rfl rfl rfl ⟨ks, v, hp, rfl, rfl⟩

theorem sorted_spec (l : List (Int × Value)) (hL : l.length ≤ 1000000) :
    Meets Tryz.prog (fnS 118) [.fn (.func 133) [] [.loc 1 0]] ⟨[.obj (mapO .i64 l), .cells 148 [.mp 0]], [], []⟩
      (fun o S' => ∃ (v : Value), o = .ret (.v v) ∧ S' = ⟨[.obj (mapO .i64 l), .cells 148 [.mp 0]], [⟨v, 1, 3, (sorted (l.map (·.1))).map (D.int .i64)⟩], []⟩) := by
  refine spec_of_body (N := 9) (m := 2) (dt := fun _ => none) [] ttOK Tryz.func118 rfl Tryz.call118 Tryz.ntmps118 rfl rfl rfl mixed (by kernel_rfl) ?_
  refine (collect_spec l hL).frame0 [] [] rfl (by simp) ?_ (by simp) rfl rfl ?_
  · intro q hq
    simp only [List.mem_cons, List.not_mem_nil, or_false] at hq
    rcases hq with rfl | rfl <;> rfl
  rintro o s' ⟨ks, v, hp, rfl, rfl⟩
  refine ⟨rfl, ?_⟩
  have hks : ks.length ≤ 1000000 := by rw [hp.length_eq, List.length_map]; exact hL
  refine (sort_spec ks v (by omega)).frame0 [.obj (mapO .i64 l), .cells 148 [.mp 0]] [] rfl (by simp) (by simp) (by simp) rfl rfl ?_
  rintro o s' ⟨rfl, rfl⟩
  refine ⟨rfl, ?_⟩
  refine ret_keep [.obj (mapO .i64 l), .cells 148 [.mp 0]] rfl rfl rfl rfl rfl ⟨v, rfl, ?_⟩
  have hs : sorted ks = sorted (l.map (·.1)) := sorted_perm hp
  rw [hs]; rfl
end Go.Proofs.YtpibdcjdamibdaaGreat
end

/-! Free -/
section
namespace Go.Proofs.YtpibdcjdamibdaaGreat
open Go.Tr Go
set_option maxRecDepth 10000

theorem keys_spec (l : List (Int × Value)) : Meets Tryz.prog (fnS 119) [.mp 0] ⟨[.obj (mapO .i64 l)], [], []⟩
    (fun o S' => o = .ret (.fn (.func 133) [] [.loc 1 0]) ∧ S' = ⟨[.obj (mapO .i64 l), .cells 148 [.mp 0]], [], []⟩) := by
  refine spec_of_body (N := 4) (m := 1) (dt := fun _ => none) [] ttOK Tryz.func119 rfl Tryz.call119 Tryz.ntmps119 rfl rfl rfl mixed (by kernel_rfl) ?_
  exact AtRet.mk ⟨⟨[.obj (mapO .i64 l), .cells 148 [.mp 0]], [], []⟩, StLe.to _ _ rfl (by simp) rfl rfl, Nat.le_of_ble_eq_true rfl, rfl, rfl, rfl⟩

/-- The numbers that the nodes of a term give. -/
def numsOf (f : Tm → Int → Int × Bool) (t : Tm) : List Int := sorted ((walkF (noteStep f) t [] 0).map (·.1))

theorem putAt_length (n : Int) (v : Value) : ∀ (l : List (Int × Value)), (putAt n v l).length ≤ l.length + 1
  | [] => by simp [putAt]
  | (k, u) :: r => by
    simp only [putAt]
    split
    · simp
    · simp; exact putAt_length n v r

mutual
def Tm.count : Tm → Nat
  | .mk _ _ _ args => Tm.countL args + 1
def Tm.countL : List Tm → Nat
  | [] => 0
  | t :: ts => t.count + Tm.countL ts
 end

theorem noteStep_length (f : Tm → Int → Int × Bool) (l : List (Int × Value)) (t : Tm) (b : Int) : (noteStep f l t b).length ≤ l.length + 1 := by
  unfold noteStep; split
  · exact putAt_length _ _ _
  · omega

mutual
theorem walkF_length (f : Tm → Int → Int × Bool) : ∀ (t : Tm) (l : List (Int × Value)) (b : Int), (walkF (noteStep f) t l b).length ≤ l.length + t.count
  | .mk o h n args, l, b => by
    simp only [walkF, Tm.count]
    have h1 := walkL_length f o args 0 (noteStep f l (.mk o h n args) b) b
    have h2 := noteStep_length f l (.mk o h n args) b
    omega
theorem walkL_length (f : Tm → Int → Int × Bool) : ∀ (o : Int) (ts : List Tm) (i : Nat) (l : List (Int × Value)) (b : Int), (walkL (noteStep f) o ts i l b).length ≤ l.length + Tm.countL ts
  | o, [], i, l, b => by simp [walkL, Tm.countL]
  | o, t :: ts, i, l, b => by
    simp only [walkL, Tm.countL]
    have h1 := walkF_length f t l (b + under o i)
    have h2 := walkL_length f o ts (i + 1) (walkF (noteStep f) t l (b + under o i)) b
    omega
 end

mutual
/-- A proper term has few nodes, and is not nested deep. -/
theorem properF_count : ∀ (t : Tm) (d k : Int), (properF t d k).1 = true → (properF t d k).2 = k + t.count ∧ d + t.height ≤ 41
  | .mk o h n args, d, k, hp => by
    rw [properF_eq] at hp ⊢
    split at hp
    · cases hp
    · split at hp
      · rename_i h1 h2
        have h3 := properL_count args (d + 1) (k + 1) hp
        rw [if_neg h1, if_pos h2]
        simp only [Tm.args, Tm.count, Tm.height] at h3 ⊢
        refine ⟨by omega, ?_⟩
        have := h3.2
        rcases this with h4 | h4
        · omega
        · subst h4; simp only [Tm.heightL]; omega
      · cases hp
theorem properL_count : ∀ (ts : List Tm) (d k : Int), (properL ts d k).1 = true → (properL ts d k).2 = k + Tm.countL ts ∧ (d + Tm.heightL ts ≤ 41 ∨ ts = [])
  | [], d, k, _ => by simp [properL, Tm.countL]
  | t :: ts, d, k, hp => by
    simp only [properL] at hp ⊢
    cases hq : properF t d k with
    | mk b k' =>
      rw [hq] at hp
      cases b with
      | false => cases hp
      | true =>
        simp only at hp ⊢
        have h1 := properF_count t d k (by rw [hq])
        rw [hq] at h1
        have h2 := properL_count ts d k' hp
        simp only [Tm.countL, Tm.heightL] at h1 h2 ⊢
        refine ⟨by omega, .inl ?_⟩
        rcases h2.2 with h3 | h3
        · omega
        · subst h3; simp only [Tm.heightL]; omega
 end

theorem isProper_count {t : Tm} (h : isProper t = true) : t.count ≤ 600 ∧ t.height ≤ 40 := by
  have h1 := properF_count t 1 0 h
  have h2 := properF_le t 1 0 (by omega) (by omega)
  have h3 := h2.2.2 h
  omega

/-- A slice of ints, as data. -/
abbrev intsD (l : List Int) : D := .sl 1 (l.map (D.int .i64))

abbrev fS (g : Nat) : SV := .fn (.func g) [] []

theorem numbers_spec (g : Nat) (f : Tm → Int → Int × Bool) (hf : AsksOK (fS g) f) (t : Tm) (a : Option Addr) (c : Nat) :
    Pure Tryz.prog (fnS 96) [tmS t a c, fS g] [tmR t a c] (fun r out => (isProper t = false ∧ r = .tup [nilS, iS 2] ∧ out = []) ∨
      (isProper t = true ∧ ∃ v, r = .tup [.v v, iS 0] ∧ out = [(v, intsD (numsOf f t))])) := by
  refine spec_of_body (N := 20) (m := 0) (dt := fun _ => none) [] ttOK Tryz.func96 rfl Tryz.call96 Tryz.ntmps96 rfl rfl rfl mixed (by kernel_rfl) ?_
  refine (check_spec t a c).at (by simp) rfl rfl ?_
  rintro r out ⟨rfl, rfl⟩
  refine AtIf.mk (fun h => ?_) (fun h => ?_)
  · cases hp : isProper t with
    | true => rw [hp] at h; cases h
    | false => exact AtRet.pure [] rfl (by simp) (.inl ⟨rfl, by simp, rfl⟩)
  cases hp : isProper t with
  | false => rw [hp] at h; cases h
  | true =>
  obtain ⟨hc1, hc2⟩ := isProper_count hp
  refine at_makeMap .i64 ?_
  have hv := each_spec3 (.fn (.func 117) [] [.loc 0 0, .loc 2 0]) rfl (fun _ : List (Int × Value) => .cells 132 [fS g]) (fun l => .obj (mapO .i64 l)) (fun _ => .cells 148 [.mp 1]) (fun _ => True) (noteStep f)
    (fun _ _ => ⟨rfl, rfl, rfl⟩) (fun _ => ⟨rfl, rfl, rfl⟩) (fun _ => ⟨rfl, rfl, rfl⟩) rfl
    (fun l t b a c _ hb hb1 => (numbers1_spec (fS g) rfl f hf t a c b hb hb1 l).mono (by rintro o S' ⟨rfl, rfl⟩; exact ⟨rfl, trivial, rfl⟩)) t [] 0 a c trivial (by omega) (by omega)
  refine hv.frame [1, 2, 3] rfl rfl (by decide) rfl ?_ (by simp) rfl rfl ?_
  · intro p q hp
    match p, hp with
    | 0, hp => simp at hp; subst hp; exact ⟨1, rfl, rfl, rfl⟩
    | 1, hp => simp at hp; subst hp; exact ⟨2, rfl, rfl, rfl⟩
    | 2, hp => simp at hp; subst hp; exact ⟨3, rfl, rfl, rfl⟩
  rintro o s' ⟨rfl, _, rfl⟩
  have hl := walkF_length f t [] 0
  generalize hl' : walkF (noteStep f) t [] 0 = l at hl ⊢
  refine ⟨rfl, rfl, [.cells 132 [fS g], .obj (mapO .i64 l), .cells 148 [.mp 2]], rfl, ?_⟩
  refine (keys_spec l).frameG [2] (rest := []) rfl rfl (List.Perm.refl _) (by decide) rfl ?_ (by simp) rfl rfl ?_
  · intro p q hp
    match p, hp with
    | 0, hp => simp at hp; subst hp; exact ⟨2, rfl, rfl, rfl⟩
  rintro o s' ⟨rfl, rfl⟩ _ _
  refine ⟨[.obj (mapO .i64 l)], [.cells 148 [.mp 0]], rfl, rfl, ?_⟩
  refine (sorted_spec l (by simp at hl; omega)).frameG [2, 4] (rest := []) rfl rfl (List.Perm.refl _) (by decide) rfl ?_ (by simp) rfl rfl ?_
  · intro p q hp
    match p, hp with
    | 0, hp => simp at hp; subst hp; exact ⟨2, rfl, rfl, rfl⟩
    | 1, hp => simp at hp; subst hp; exact ⟨4, rfl, rfl, rfl⟩
  rintro o s' ⟨v, rfl, rfl⟩ _ _
  refine ⟨_, [], (List.append_nil _).symm, rfl, ?_⟩
  refine AtRet.grown [(v, intsD (numsOf f t))] rfl (fun p hp => .inr ?_) (.inr ⟨rfl, v, rfl, rfl⟩)
  simp only [List.mem_singleton] at hp
  subst hp
  refine ⟨_, List.mem_append.2 (.inl (List.mem_singleton.2 rfl)), ?_⟩
  simp only [numsOf, hl']

theorem free_spec (t : Tm) (a : Option Addr) (c : Nat) :
    Pure Tryz.prog (fnS 66) [tmS t a c] [tmR t a c] (fun r out => (isProper t = false ∧ r = .tup [nilS, iS 2] ∧ out = []) ∨
      (isProper t = true ∧ ∃ v, r = .tup [.v v, iS 0] ∧ out = [(v, intsD (numsOf freeOf t))])) := by
  refine spec_of_body (N := 8) (m := 0) (dt := fun _ => none) [] ttOK Tryz.func66 rfl Tryz.call66 Tryz.ntmps66 rfl rfl rfl mixed (by kernel_rfl) ?_
  refine (numbers_spec 97 freeOf free1_spec t a c).at (by simp) rfl rfl ?_
  rintro r out (⟨hp, rfl, rfl⟩ | ⟨hp, v, rfl, rfl⟩)
  · exact AtRet.pure [] rfl (by simp) (.inl ⟨hp, rfl, rfl⟩)
  · exact AtRet.pure [(v, intsD (numsOf freeOf t))] rfl (by simp) (.inr ⟨hp, v, rfl, rfl⟩)
end Go.Proofs.YtpibdcjdamibdaaGreat
end

/-! OrdA -/
section
namespace Go.Proofs.YtpibdcjdamibdaaGreat
open Go.Tr Go
set_option maxRecDepth 10000

def isScopeF (n fixed : Int) : Bool := ((decide (n ≥ 0) && decide (n ≤ 30)) && decide (fixed ≥ 0)) && decide (fixed ≤ n)

theorem isScope_spec (n fixed : Int) : Pure Tryz.prog (fnS 38) [iS n, iS fixed] [] (fun r out => r = bS (isScopeF n fixed) ∧ out = []) := by
  refine spec_of_body (N := 20) (m := 0) (dt := fun _ => none) [] ttOK Tryz.func38 rfl Tryz.call38 Tryz.ntmps38 rfl rfl rfl mixed (by kernel_rfl) ?_
  exact AtRet.pure [] rfl (by simp) ⟨rfl, rfl⟩

theorem encL_ints_get {l : List Int} {i : Nat} {k : Int} (h : l[i]? = some k) : (l.map (D.int .i64))[i]? = some (.int .i64 k) := by simp [h]

/-- All free numbers are below n. -/
def isObjectF (t : Tm) (n : Int) : Bool := isProper t && match (numsOf freeOf t).getLast? with
  | none => true
  | some k => decide (k < n)

theorem isObject_spec (t : Tm) (a : Option Addr) (c : Nat) (n : Int) : Pure Tryz.prog (fnS 39) [tmS t a c, iS n] [tmR t a c] (fun r out => r = bS (isObjectF t n) ∧ out = []) := by
  refine spec_of_body (N := 29) (m := 0) (dt := fun _ => none) [] ttOK Tryz.func39 rfl Tryz.call39 Tryz.ntmps39 rfl rfl rfl mixed (by kernel_rfl) ?_
  refine (free_spec t a c).opened.at (by simp) rfl rfl ?_
  rintro r out ⟨⟨hp, rfl, rfl⟩ | ⟨hp, v, rfl, rfl⟩, ho⟩
  · refine AtGuard.mk (fun h => by cases h) (fun _ => ?_)
    exact AtRet.pure [] rfl (by simp) ⟨by simp [isObjectF, hp], rfl⟩
  · obtain ⟨a', c', rfl, hle, hle2⟩ := ho _ (List.mem_singleton.2 rfl)
    refine AtGuard.mk (fun _ => ?_) (fun h => by cases h)
    have hlen : ((numsOf freeOf t).map (D.int .i64)).length = (numsOf freeOf t).length := List.length_map _
    refine AtGuard.mk (fun h => ?_) (fun h => ?_)
    · have hne : numsOf freeOf t ≠ [] := fun e => by rw [e] at h; simp at h
      have hpos : 0 < (numsOf freeOf t).length := List.length_pos_iff.2 hne
      have hw : IntKind.i64.wrap ((((numsOf freeOf t).map (D.int .i64)).length : Int) - 1) = ((numsOf freeOf t).length - 1 : Nat) := by rw [hlen, wrap_i64 (by omega) (by rw [hlen] at hle2; omega)]; omega
      have hget : (numsOf freeOf t)[(numsOf freeOf t).length - 1]? = some ((numsOf freeOf t).getLast hne) := by rw [List.getLast_eq_getElem, List.getElem?_eq_getElem]
      refine at_index ttOK 1 rfl (by rw [hw]) rfl rfl (by omega) (by rw [Int.toNat_natCast]; exact encL_ints_get hget) ?_
      refine AtRet.pure [] rfl (by simp) ⟨?_, rfl⟩
      simp only [isObjectF, hp, List.getLast?_eq_some_getLast hne]
      rfl
    · refine AtRet.pure [] rfl (by simp) ⟨?_, rfl⟩
      have he : numsOf freeOf t = [] := by
        rw [hlen] at h
        exact List.eq_nil_of_length_eq_zero (by simpa using h)
      simp [isObjectF, hp, he]

def all2 (p : Tm → Tm → Bool) : List Tm → List Tm → Bool
  | a :: us, b :: vs => p a b && all2 p us vs
  | _, _ => true

theorem all2_drop {p : Tm → Tm → Bool} {us vs : List Tm} {i : Nat} {x y : Tm} (hx : us[i]? = some x) (hy : vs[i]? = some y) : all2 p (us.drop i) (vs.drop i) = (p x y && all2 p (us.drop (i + 1)) (vs.drop (i + 1))) := by
  have h1 := List.getElem?_eq_some_iff.1 hx
  have h2 := List.getElem?_eq_some_iff.1 hy
  rw [List.drop_eq_getElem_cons h1.1, List.drop_eq_getElem_cons h2.1, h1.2, h2.2]
  rfl

/-- slices.EqualFunc at terms, by what the function that it asks answers. -/
theorem equalTerms_spec (g : Nat) (p : Tm → Tm → Bool) (us vs : List Tm) (a1 a2 : Option Addr) (c1 c2 : Nat)
    (hg : ∀ x ∈ us, ∀ y b1 b2 d1 d2, Pure Tryz.prog (fnS g) [tmS x b1 d1, tmS y b2 d2] [tmR x b1 d1, tmR y b2 d2] (fun r out => r = bS (p x y) ∧ out = [])) :
    Pure Tryz.prog (fnS 98) [.v (.slice a1 (Tm.encL us).length c1), .v (.slice a2 (Tm.encL vs).length c2), fS g] [(.slice a1 (Tm.encL us).length c1, .sl 4 (Tm.encL us)), (.slice a2 (Tm.encL vs).length c2, .sl 4 (Tm.encL vs))]
      (fun r out => r = bS (us.length == vs.length && all2 p us vs) ∧ out = []) := by
  refine Meets.of_ok fun hok => ?_
  have hB : (Tm.encL us).length ≤ 1152921504606846976 := (hok _ (List.mem_cons_self ..)).1
  have hla := Tm.encL_length us
  have hlb := Tm.encL_length vs
  refine spec_of_body (N := 32) (m := 0) (dt := fun _ => none) [] ttOK Tryz.func98 rfl Tryz.call98 Tryz.ntmps98 rfl rfl rfl mixed (by kernel_rfl) ?_
  refine AtIf.mk (fun h => ?_) (fun h => ?_)
  · refine AtRet.pure [] rfl (by simp) ⟨?_, rfl⟩
    have hne : (us.length == vs.length) = false := by
      rw [hla, hlb] at h
      simp only [bne_iff_ne, ne_eq, Int.natCast_inj] at h
      simpa using h
    rw [hne]; rfl
  have hlen : us.length = vs.length := by
    rw [hla, hlb] at h
    simpa only [bne_eq_false_iff_eq, Int.natCast_inj] using h
  refine AtLoop.mk ⟨Nat, fun i => [(17, iS i), (16, iS (Tm.encL us).length), (15, .v (.slice a1 (Tm.encL us).length c1)), (1, .v (.slice a2 (Tm.encL vs).length c2)), (2, fS g)], fun _ => ⟨[], [], [(.slice a1 (Tm.encL us).length c1, .sl 4 (Tm.encL us)), (.slice a2 (Tm.encL vs).length c2, .sl 4 (Tm.encL vs))]⟩,
    fun i => i ≤ us.length ∧ all2 p us vs = all2 p (us.drop i) (vs.drop i), fun i => us.length - i, 0, ⟨Nat.zero_le _, rfl⟩, ⟨rfl, rfl, rfl, rfl, rfl, trivial⟩, StLe.refl _, fun _ _ => ⟨rfl, rfl⟩, ?_⟩
  rintro i ⟨hi, hinv⟩
  refine AtIf.mk (fun h1 => ?_) (fun h1 => ?_)
  · simp only [decide_eq_true_eq, hla] at h1
    obtain ⟨x, hx⟩ : ∃ x, us[i]? = some x := ⟨_, List.getElem?_eq_getElem (by omega)⟩
    obtain ⟨y, hy⟩ : ∃ y, vs[i]? = some y := ⟨_, List.getElem?_eq_getElem (by omega)⟩
    refine at_index ttOK 0 rfl rfl rfl rfl (by omega) (by rw [Int.toNat_natCast]; exact Tm.encL_get hx) ?_
    intro b1 d1 _ _
    refine at_index ttOK 1 rfl rfl rfl rfl (by omega) (by rw [Int.toNat_natCast]; exact Tm.encL_get hy) ?_
    intro b2 d2 _ _
    refine (hg x (List.mem_of_getElem? hx) y b1 b2 d1 d2).at (by simp) rfl rfl ?_
    rintro r out ⟨rfl, rfl⟩
    have hstep := all2_drop (p := p) hx hy
    refine AtIf.mk (fun h2 => ?_) (fun h2 => ?_)
    · refine AtRet.pure [] rfl (by simp) ⟨?_, rfl⟩
      have hp : p x y = false := by simpa using h2
      rw [hinv, hstep, hp]
      simp
    · have hp : p x y = true := by simpa using h2
      have hw3 : IntKind.i64.wrap (i + 1) = ((i + 1 : Nat) : Int) := wrap_i64 (by omega) (by omega)
      refine ⟨i + 1, ⟨by omega, by rw [hinv, hstep, hp]; rfl⟩, by simp only; omega, ⟨by rw [← hw3]; rfl, rfl, rfl, rfl, rfl, trivial⟩, StLe.to _ _ rfl (by simp) rfl rfl⟩
  · refine AtRet.pure [] rfl (by simp) ⟨?_, rfl⟩
    simp only [decide_eq_false_iff_not, hla] at h1
    rw [hinv, List.drop_of_length_le (by omega), hlen]
    simp [all2]

mutual
def sameF : Tm → Tm → Bool
  | .mk o h n us, b => ((o == b.op && h == b.hd) && n == b.n) && (us.length == b.args.length && sameL us b.args)
def sameL : List Tm → List Tm → Bool
  | u :: us, v :: vs => sameF u v && sameL us vs
  | _, _ => true
 end
theorem sameF_eq (a b : Tm) : sameF a b = (((a.op == b.op && a.hd == b.hd) && a.n == b.n) && (a.args.length == b.args.length && sameL a.args b.args)) := by cases a; rfl
theorem all2_same : ∀ (us vs : List Tm), all2 sameF us vs = sameL us vs
  | [], _ => by simp [all2, sameL]
  | _ :: _, [] => by simp [all2, sameL]
  | u :: us, v :: vs => by simp only [all2, sameL, all2_same us vs]

theorem same_spec (a : Tm) : ∀ (b : Tm) (a1 a2 : Option Addr) (c1 c2 : Nat), Pure Tryz.prog (fnS 67) [tmS a a1 c1, tmS b a2 c2] [tmR a a1 c1, tmR b a2 c2] (fun r out => r = bS (sameF a b) ∧ out = []) := by
  induction a using Tm.ind with
  | h a ih =>
  intro b a1 a2 c1 c2
  refine spec_of_body (N := 31) (m := 0) (dt := fun _ => none) [] ttOK Tryz.func67 rfl Tryz.call67 Tryz.ntmps67 rfl rfl rfl mixed (by kernel_rfl) ?_
  have hE := equalTerms_spec 67 sameF a.args b.args a1 a2 c1 c2 (fun x hx y b1 b2 d1 d2 => ih x hx y b1 b2 d1 d2)
  have hF := sameF_eq a b
  refine AtGuard.mk (fun h1 => ?_) (fun h1 => ?_)
  · refine hE.at (by simp) rfl rfl ?_
    rintro r out ⟨rfl, rfl⟩
    refine AtRet.pure [] rfl (by simp) ⟨?_, rfl⟩
    rw [hF, h1, ← all2_same]
    rfl
  · refine AtRet.pure [] rfl (by simp) ⟨?_, rfl⟩
    rw [hF, h1]
    rfl
end Go.Proofs.YtpibdcjdamibdaaGreat
end

/-! OrdB -/
section
namespace Go.Proofs.YtpibdcjdamibdaaGreat
open Go.Tr Go
set_option maxRecDepth 10000

/-- A map from ints to ints, as the machine has it. -/
def encI (l : List (Int × Int)) : List (Int × Value) := l.map fun p => (p.1, Value.int .i64 p.2)

def lookI : List (Int × Int) → Int → Option Int
  | [], _ => none
  | (k, v) :: r, n => if n = k then some v else lookI r n

def putI (n v : Int) : List (Int × Int) → List (Int × Int)
  | [] => [(n, v)]
  | (k, u) :: r => if n = k then (k, v) :: r else (k, u) :: putI n v r

theorem look_encI (n : Int) : ∀ (l : List (Int × Int)), lookM (encI l) n = (lookI l n).map (Value.int .i64)
  | [] => rfl
  | (k, v) :: r => by
    simp only [encI, List.map_cons, lookM, lookI]
    split
    · rfl
    · exact look_encI n r

theorem putAt_encI (n v : Int) : ∀ (l : List (Int × Int)), putAt n (.int .i64 v) (encI l) = encI (putI n v l)
  | [] => rfl
  | (k, u) :: r => by
    simp only [encI, List.map_cons, putAt, putI]
    split
    · rfl
    · simp only [List.map_cons, List.cons.injEq, true_and]
      exact putAt_encI n v r

/-- What a node decides: none: not the same. -/
def headF (st fx o h n m k : Int) (l : List (Int × Int)) : Option (List (Int × Int)) :=
  if o = 4 ∧ h = 1 ∧ k ≤ m then
    if IntKind.i64.wrap (n - k) < 0 then none
    else if st ≤ IntKind.i64.wrap (m - k) ∧ IntKind.i64.wrap (n - k) ≠ IntKind.i64.wrap (IntKind.i64.wrap (m - k) - st) then none
    else if IntKind.i64.wrap (m - k) < st then
      if fx ≤ IntKind.i64.wrap (n - k) then none
      else match lookI l (IntKind.i64.wrap (m - k)) with
        | some old => if old ≠ IntKind.i64.wrap (n - k) then none else some (putI (IntKind.i64.wrap (m - k)) (IntKind.i64.wrap (n - k)) l)
        | none => some (putI (IntKind.i64.wrap (m - k)) (IntKind.i64.wrap (n - k)) l)
    else some l
  else if n ≠ m then none else some l

mutual
def matchF (st fx : Int) : Tm → Tm → Int → List (Int × Int) → Bool × List (Int × Int)
  | .mk o h n us, b, k, l =>
    if o ≠ b.op ∨ h ≠ b.hd ∨ us.length ≠ b.args.length then (false, l)
    else match headF st fx o h n b.n k l with
      | none => (false, l)
      | some l' => matchL st fx o us b.args 0 k l'
def matchL (st fx : Int) : Int → List Tm → List Tm → Nat → Int → List (Int × Int) → Bool × List (Int × Int)
  | o, u :: us, v :: vs, i, k, l => match matchF st fx u v (IntKind.i64.wrap (k + under o i)) l with
    | (true, l') => matchL st fx o us vs (i + 1) k l'
    | (false, l') => (false, l')
  | _, _, _, _, _, l => (true, l)
 end

theorem matchF_eq (st fx : Int) (a b : Tm) (k : Int) (l : List (Int × Int)) : matchF st fx a b k l = if a.op ≠ b.op ∨ a.hd ≠ b.hd ∨ a.args.length ≠ b.args.length then (false, l)
    else match headF st fx a.op a.hd a.n b.n k l with
      | none => (false, l)
      | some l' => matchL st fx a.op a.args b.args 0 k l' := by cases a; rfl

/-- The own blocks of match: what is captured. -/
abbrev matchB (st n fx : Int) (l : List (Int × Int)) : List Blk :=
  [.cells 3 [iS st], .obj (mapO .i64 (encI l)), .cells 135 [.mp 1], .cells 81 [iS n, iS fx], .cells 117 [.fn (.func 101) [] [.loc 0 0, .loc 2 0, .loc 3 0, .loc 4 0]]]

abbrev matchS : SV := .fn (.func 101) [] [.loc 0 0, .loc 2 0, .loc 3 0, .loc 4 0]

theorem match1_spec (st n fx : Int) (a : Tm) : ∀ (b : Tm) (k : Int) (l : List (Int × Int)) (a1 a2 : Option Addr) (c1 c2 : Nat),
    Meets Tryz.prog (.val matchS) [tmS a a1 c1, tmS b a2 c2, iS k] ⟨matchB st n fx l, [], [tmR a a1 c1, tmR b a2 c2]⟩
      (fun o S' => o = .ret (bS (matchF st fx a b k l).1) ∧ S' = ⟨matchB st n fx (matchF st fx a b k l).2, [], []⟩) := by
  induction a using Tm.ind with
  | h a ih =>
  intro b k l a1 a2 c1 c2
  refine Meets.of_ok fun hok => ?_
  have hB : (Tm.encL a.args).length ≤ 1152921504606846976 := (hok _ (List.mem_cons_self ..)).1
  refine spec_of_body (N := 127) (m := 5) (dt := drawsOf [(4, .leaf [0, 1, 2, 3, 4, 5, 6, 7, 8, 9], [], []), (19, .node [0, 1, 2, 3, 4, 5, 6, 7, 8, 9] [(10, .node [11] [(12, .leaf [13])])], [12], [])]) [3] ttOK Tryz.func101 rfl Tryz.call101 Tryz.ntmps101 rfl rfl rfl mixed (by kernel_rfl) ?_
  have hF := matchF_eq st fx a b k l
  have hla := Tm.encL_length a.args
  have hlb := Tm.encL_length b.args
  refine AtIf.mk (fun h1 => ?_) (fun h1 => ?_)
  · refine ret_own (matchB st n fx l) rfl rfl rfl rfl rfl ?_
    have hc : a.op ≠ b.op ∨ a.hd ≠ b.hd ∨ a.args.length ≠ b.args.length := by
      rw [hla, hlb] at h1
      simp only [Bool.or_eq_true, bne_iff_ne, ne_eq, Int.natCast_inj] at h1
      rcases h1 with (h1 | h1) | h1
      · exact .inl h1
      · exact .inr (.inl h1)
      · exact .inr (.inr h1)
    rw [hF, if_pos hc]
    exact ⟨rfl, rfl⟩
  have hc : ¬ (a.op ≠ b.op ∨ a.hd ≠ b.hd ∨ a.args.length ≠ b.args.length) := by
    rw [hla, hlb] at h1
    simp only [Bool.or_eq_false_iff, bne_eq_false_iff_eq, Int.natCast_inj] at h1
    obtain ⟨⟨h2, h3⟩, h4⟩ := h1
    simp [h2, h3, h4]
  rw [if_neg hc] at hF
  have hlen : a.args.length = b.args.length := by
    rcases Decidable.em (a.args.length = b.args.length) with h | h
    · exact h
    · exact (hc (.inr (.inr h))).elim
  have none_end : headF st fx a.op a.hd a.n b.n k l = none → matchF st fx a b k l = (false, l) := fun h => by rw [hF, h]
  refine AtCut.mk ⟨List (Int × Int), fun _ => [(2, iS k), (6, .loc 4 0), (7, .loc 5 0), (8, .loc 6 0)],
    fun l' => ⟨matchB st n fx l' ++ [.cells 51 [iS a.op, iS a.hd, iS a.n, .v (.slice a1 (Tm.encL a.args).length c1)], .cells 51 [iS b.op, iS b.hd, iS b.n, .v (.slice a2 (Tm.encL b.args).length c2)]], [], [tmR a a1 c1, tmR b a2 c2]⟩,
    fun l' => headF st fx a.op a.hd a.n b.n k l = some l', fun _ _ => ⟨rfl, rfl⟩, ?_, ?_⟩
  · have fail : headF st fx a.op a.hd a.n b.n k l = none → (Out.ret (bS false) = Out.ret (bS (matchF st fx a b k l).1) ∧ (⟨matchB st n fx l, [], []⟩ : St) = ⟨matchB st n fx (matchF st fx a b k l).2, [], []⟩) := fun h => by rw [none_end h]; exact ⟨rfl, rfl⟩
    refine AtIf.mk (fun h2 => ?_) (fun h2 => ?_)
    · have hk : a.op = 4 ∧ a.hd = 1 ∧ k ≤ b.n := by
        simp only [Bool.and_eq_true, beq_iff_eq, decide_eq_true_eq, ge_iff_le] at h2
        exact ⟨h2.1.1, h2.1.2, h2.2⟩
      refine AtIf.mk (fun h3 => ?_) (fun h3 => ?_)
      · refine ret_own (matchB st n fx l) rfl rfl rfl rfl rfl (fail ?_)
        simp only [decide_eq_true_eq] at h3
        rw [headF, if_pos hk, if_pos h3]
      simp only [decide_eq_false_iff_not] at h3
      refine AtIf.mk (fun h4 => ?_) (fun h4 => ?_)
      · refine ret_own (matchB st n fx l) rfl rfl rfl rfl rfl (fail ?_)
        simp only [Bool.and_eq_true, decide_eq_true_eq, bne_iff_ne, ge_iff_le] at h4
        rw [headF, if_pos hk, if_neg h3, if_pos h4]
      have h4' : ¬ (st ≤ IntKind.i64.wrap (b.n - k) ∧ IntKind.i64.wrap (a.n - k) ≠ IntKind.i64.wrap (IntKind.i64.wrap (b.n - k) - st)) := by
        simp only [Bool.and_eq_false_iff, decide_eq_false_iff_not, bne_eq_false_iff_eq, ge_iff_le] at h4
        rintro ⟨h5, h6⟩
        rcases h4 with h4 | h4
        · exact h4 h5
        · exact h6 h4
      refine AtIf.mk (fun h5 => ?_) (fun h5 => ?_)
      · simp only [decide_eq_true_eq] at h5
        refine at_lookup ttOK (.int .i64 0) rfl int_under Tryz.zeroValue3 rfl rfl rfl (fun v hv => ?_) (fun hv => ?_)
        · rw [look_encI] at hv
          cases hl : lookI l (IntKind.i64.wrap (b.n - k)) with
          | none => rw [hl] at hv; cases hv
          | some old =>
            rw [hl] at hv
            cases hv
            refine AtIf.mk (fun h6 => ?_) (fun h6 => ?_)
            · refine ret_own (matchB st n fx l) rfl rfl rfl rfl rfl (fail ?_)
              rw [headF, if_pos hk, if_neg h3, if_neg h4', if_pos h5, hl]
              split
              · rfl
              · rename_i h7
                simp only [Bool.or_eq_true, decide_eq_true_eq, bne_iff_ne, ge_iff_le, Bool.true_and] at h6
                rcases h6 with h6 | h6
                · exact (h7 h6).elim
                · simp [h6]
            · simp only [Bool.or_eq_false_iff, decide_eq_false_iff_not, bne_eq_false_iff_eq, ge_iff_le, Bool.true_and] at h6
              refine at_mapPut ttOK (.int .i64 (IntKind.i64.wrap (a.n - k))) rfl int_under rfl rfl rfl (fun _ => rfl) ?_
              refine ⟨putI (IntKind.i64.wrap (b.n - k)) (IntKind.i64.wrap (a.n - k)) l, ?_, ⟨rfl, rfl, rfl, rfl, trivial⟩, StLe.to _ _ (by rw [putAt_encI]; rfl) (by simp) rfl rfl⟩
              rw [headF, if_pos hk, if_neg h3, if_neg h4', if_pos h5, if_neg h6.1, hl]
              simp [h6.2]
        · rw [look_encI] at hv
          have hl : lookI l (IntKind.i64.wrap (b.n - k)) = none := by
            cases hl : lookI l (IntKind.i64.wrap (b.n - k)) with
            | none => rfl
            | some old => rw [hl] at hv; cases hv
          refine AtIf.mk (fun h6 => ?_) (fun h6 => ?_)
          · refine ret_own (matchB st n fx l) rfl rfl rfl rfl rfl (fail ?_)
            simp only [Bool.or_eq_true, decide_eq_true_eq, ge_iff_le, Bool.false_and, Bool.false_eq_true, or_false] at h6
            rw [headF, if_pos hk, if_neg h3, if_neg h4', if_pos h5, if_pos h6]
          · simp only [Bool.or_eq_false_iff, decide_eq_false_iff_not, ge_iff_le] at h6
            refine at_mapPut ttOK (.int .i64 (IntKind.i64.wrap (a.n - k))) rfl int_under rfl rfl rfl (fun _ => rfl) ?_
            refine ⟨putI (IntKind.i64.wrap (b.n - k)) (IntKind.i64.wrap (a.n - k)) l, ?_, ⟨rfl, rfl, rfl, rfl, trivial⟩, StLe.to _ _ (by rw [putAt_encI]; rfl) (by simp) rfl rfl⟩
            rw [headF, if_pos hk, if_neg h3, if_neg h4', if_pos h5, if_neg h6.1, hl]
      · refine ⟨l, ?_, ⟨rfl, rfl, rfl, rfl, trivial⟩, StLe.to _ _ rfl (by simp) rfl rfl⟩
        simp only [decide_eq_false_iff_not] at h5
        rw [headF, if_pos hk, if_neg h3, if_neg h4', if_neg h5]
    · have hk : ¬ (a.op = 4 ∧ a.hd = 1 ∧ k ≤ b.n) := by
        rintro ⟨e1, e2, e3⟩
        simp [e1, e2, e3] at h2
      refine AtIf.mk (fun h3 => ?_) (fun h3 => ?_)
      · refine ret_own (matchB st n fx l) rfl rfl rfl rfl rfl (fail ?_)
        simp only [bne_iff_ne] at h3
        rw [headF, if_neg hk, if_pos h3]
      · refine ⟨l, ?_, ⟨rfl, rfl, rfl, rfl, trivial⟩, StLe.to _ _ rfl (by simp) rfl rfl⟩
        simp only [bne_eq_false_iff_eq] at h3
        rw [headF, if_neg hk, if_neg (by simpa using h3)]
  · intro l0 hl0
    rw [hl0] at hF
    simp only at hF
    refine AtLoop.mk ⟨Nat × List (Int × Int), fun x => [(107, iS x.1), (106, iS (Tm.encL a.args).length), (105, .v (.slice a1 (Tm.encL a.args).length c1)), (2, iS k), (6, .loc 4 0), (7, .loc 5 0), (8, .loc 6 0)],
      fun x => ⟨matchB st n fx x.2 ++ [.cells 51 [iS a.op, iS a.hd, iS a.n, .v (.slice a1 (Tm.encL a.args).length c1)], .cells 51 [iS b.op, iS b.hd, iS b.n, .v (.slice a2 (Tm.encL b.args).length c2)]], [], [tmR a a1 c1, tmR b a2 c2]⟩,
      fun x => x.1 ≤ a.args.length ∧ matchF st fx a b k l = matchL st fx a.op (a.args.drop x.1) (b.args.drop x.1) x.1 k x.2, fun x => a.args.length - x.1, (0, l0), ⟨Nat.zero_le _, hF⟩, ⟨rfl, rfl, rfl, rfl, rfl, rfl, rfl, trivial⟩, StLe.refl _, fun _ _ => ⟨rfl, rfl⟩, ?_⟩
    rintro ⟨i, l1⟩ ⟨hi, hinv⟩
    simp only at hi hinv ⊢
    refine AtIf.mk (fun h1 => ?_) (fun h1 => ?_)
    · simp only [decide_eq_true_eq, hla] at h1
      have hlt : i < a.args.length := by omega
      have hx : a.args[i]? = some a.args[i] := List.getElem?_eq_getElem hlt
      have hy : b.args[i]? = some (b.args[i]'(by omega)) := List.getElem?_eq_getElem (by omega)
      refine at_index ttOK 0 rfl rfl rfl rfl (by omega) (by rw [Int.toNat_natCast]; exact Tm.encL_get hx) ?_
      intro b1 d1 _ _
      refine at_index ttOK 1 rfl rfl rfl rfl (by omega) (by rw [Int.toNat_natCast]; exact Tm.encL_get hy) ?_
      intro b2 d2 _ _
      refine (under_spec a a1 c1 i).at (by simp) rfl rfl ?_
      rintro r out ⟨rfl, rfl⟩
      refine ⟨fun _ _ h => h, ?_⟩
      have hs := ih a.args[i] (List.getElem_mem hlt) (b.args[i]'(by omega)) (IntKind.i64.wrap (k + under a.op i)) l1 b1 b2 d1 d2
      refine hs.frame0 _ [] rfl (by simp) ?_ ?_ rfl rfl ?_
      · intro q hq
        simp only [List.mem_cons, List.not_mem_nil, or_false] at hq
        rcases hq with rfl | rfl | rfl | rfl | rfl <;> rfl
      · intro p hp
        simp only [List.mem_cons, List.not_mem_nil, or_false] at hp
        rcases hp with rfl | rfl <;> simp
      rintro o s' ⟨rfl, rfl⟩
      refine ⟨rfl, ?_⟩
      have hd : matchL st fx a.op (a.args.drop i) (b.args.drop i) i k l1 = match matchF st fx a.args[i] (b.args[i]'(by omega)) (IntKind.i64.wrap (k + under a.op i)) l1 with
          | (true, l') => matchL st fx a.op (a.args.drop (i + 1)) (b.args.drop (i + 1)) (i + 1) k l'
          | (false, l') => (false, l') := by
        rw [List.drop_eq_getElem_cons hlt, List.drop_eq_getElem_cons (show i < b.args.length by omega)]
        rfl
      rw [hd] at hinv
      cases hm : matchF st fx a.args[i] (b.args[i]'(by omega)) (IntKind.i64.wrap (k + under a.op i)) l1 with
      | mk bb l2 =>
      rw [hm] at hinv
      refine AtIf.mk (fun h2 => ?_) (fun h2 => ?_)
      · have hb : bb = false := by simpa using h2
        subst hb
        refine ret_own (matchB st n fx l2) rfl rfl rfl rfl rfl ?_
        rw [hinv]
        exact ⟨rfl, rfl⟩
      · have hb : bb = true := by simpa using h2
        subst hb
        have hw3 : IntKind.i64.wrap (i + 1) = ((i + 1 : Nat) : Int) := wrap_i64 (by omega) (by omega)
        refine ⟨(i + 1, l2), ⟨by omega, hinv⟩, by simp only; omega, ⟨by rw [← hw3]; rfl, rfl, rfl, rfl, rfl, rfl, rfl, trivial⟩, StLe.to _ _ rfl ?_ rfl rfl⟩
        intro p hp
        simp only [List.mem_cons, List.not_mem_nil, or_false] at hp
        rcases hp with rfl | rfl <;> simp
    · refine ret_own (matchB st n fx l1) rfl rfl rfl rfl rfl ?_
      simp only [decide_eq_false_iff_not, hla] at h1
      rw [List.drop_of_length_le (by omega)] at hinv
      rw [hinv]
      exact ⟨rfl, rfl⟩
end Go.Proofs.YtpibdcjdamibdaaGreat
end

/-! OrdC -/
section
namespace Go.Proofs.YtpibdcjdamibdaaGreat
open Go.Tr Go
set_option maxRecDepth 10000

theorem match_spec (n fx st : Int) (a b : Tm) (a1 a2 : Option Addr) (c1 c2 : Nat) :
    Pure Tryz.prog (fnS 70) [.agg [iS n, iS fx], tmS a a1 c1, tmS b a2 c2, iS st] [tmR a a1 c1, tmR b a2 c2] (fun r out => r = bS (matchF st fx a b 0 []).1 ∧ out = []) := by
  refine spec_of_body (N := 17) (m := 0) (dt := fun _ => none) [] ttOK Tryz.func70 rfl Tryz.call70 Tryz.ntmps70 rfl rfl rfl mixed (by kernel_rfl) ?_
  refine at_makeMap .i64 ?_
  refine (match1_spec st n fx a b 0 [] a1 a2 c1 c2).frame [3, 4, 5, 0, 6] rfl rfl (by decide) rfl ?_ ?_ rfl rfl ?_
  · intro p q hp
    match p, hp with
    | 0, hp => simp at hp; subst hp; exact ⟨3, rfl, rfl, rfl⟩
    | 1, hp => simp at hp; subst hp; exact ⟨4, rfl, rfl, rfl⟩
    | 2, hp => simp at hp; subst hp; exact ⟨5, rfl, rfl, rfl⟩
    | 3, hp => simp at hp; subst hp; exact ⟨0, rfl, rfl, rfl⟩
    | 4, hp => simp at hp; subst hp; exact ⟨6, rfl, rfl, rfl⟩
  · intro p hp
    simp only [List.mem_cons, List.not_mem_nil, or_false] at hp
    rcases hp with rfl | rfl <;> simp
  rintro o s' ⟨rfl, rfl⟩
  refine ⟨rfl, rfl, _, rfl, ?_⟩
  exact AtRet.pure [] rfl (by simp) ⟨rfl, rfl⟩

mutual
def stripF : Tm → Tm × Nat
  | .mk o h n us => if o = 3 then stripL us (.mk o h n us) else (.mk o h n us, 0)
def stripL : List Tm → Tm → Tm × Nat
  | [], t => (t, 0)
  | u :: _, _ => ((stripF u).1, (stripF u).2 + 1)
 end

mutual
/-- Each TLam has an argument. -/
def lamOK : Tm → Bool
  | .mk o _ _ us => (o != 3 || !us.isEmpty) && lamOKL us
def lamOKL : List Tm → Bool
  | [] => true
  | u :: us => lamOK u && lamOKL us
 end

theorem lamOKL_mem : ∀ {us : List Tm} {u : Tm}, lamOKL us = true → u ∈ us → lamOK u = true
  | [], u, _, h => by simp at h
  | v :: us, u, h, hm => by
    simp only [lamOKL, Bool.and_eq_true] at h
    rcases List.mem_cons.1 hm with e | e
    · subst e; exact h.1
    · exact lamOKL_mem h.2 e

theorem lamOK_arg {t u : Tm} (h : lamOK t = true) (hu : u ∈ t.args) : lamOK u = true := by
  cases t; simp only [lamOK, Bool.and_eq_true] at h; exact lamOKL_mem h.2 hu

theorem lamOK_ne {t : Tm} (h : lamOK t = true) (ho : t.op = 3) : t.args ≠ [] := by
  cases t with
  | mk o hd n us =>
    simp only [Tm.op] at ho
    subst ho
    simp only [lamOK, Bool.and_eq_true, bne_self_eq_false, Bool.false_or] at h
    intro e
    simp only [Tm.args] at e
    subst e
    simp at h

theorem stripF_lam {t u : Tm} {us : List Tm} (ho : t.op = 3) (hu : t.args = u :: us) : stripF t = ((stripF u).1, (stripF u).2 + 1) := by
  cases t with
  | mk o hd n vs =>
    simp only [Tm.op] at ho
    simp only [Tm.args] at hu
    subst ho hu
    simp [stripF, stripL]
theorem stripF_no {t : Tm} (ho : t.op ≠ 3) : stripF t = (t, 0) := by
  cases t with
  | mk o hd n vs => simp only [Tm.op] at ho; simp [stripF, ho]

theorem strip_spec (t : Tm) (a : Option Addr) (c : Nat) (hl : lamOK t = true) (hh : t.height ≤ 1000000) : Pure Tryz.prog (fnS 68) [tmS t a c] [tmR t a c]
    (fun r out => ∃ a' c', r = .tup [tmS (stripF t).1 a' c', iS (stripF t).2] ∧ out = [tmR (stripF t).1 a' c']) := by
  refine spec_of_body (N := 16) (m := 0) (dt := fun _ => none) [] ttOK Tryz.func68 rfl Tryz.call68 Tryz.ntmps68 rfl rfl rfl mixed (by kernel_rfl) ?_
  refine AtLoop.mk ⟨Tm × Nat × Option Addr × Nat, fun x => [(4, iS x.2.1), (1, .loc 0 0), (2, .loc 1 0)], fun x => ⟨[.cells 51 [iS x.1.op, iS x.1.hd, iS x.1.n, .v (.slice x.2.2.1 (Tm.encL x.1.args).length x.2.2.2)], .cells 51 [iS 0, iS 0, iS 0, .v (.slice none 0 0)]], [], [tmR x.1 x.2.2.1 x.2.2.2]⟩,
    fun x => lamOK x.1 = true ∧ x.2.1 + x.1.height ≤ 1000000 ∧ stripF t = ((stripF x.1).1, (stripF x.1).2 + x.2.1), fun x => x.1.height, (t, 0, a, c), ⟨hl, by simpa using hh, by simp⟩, ⟨rfl, rfl, rfl, trivial⟩, StLe.refl _, fun _ _ => ⟨rfl, rfl⟩, ?_⟩
  rintro ⟨u, i, a1, c1⟩ ⟨hu, hb, hinv⟩
  simp only at hu hb hinv ⊢
  refine AtIf.mk (fun h => ?_) (fun h => ?_)
  · simp only [beq_iff_eq] at h
    have hne := lamOK_ne hu h
    obtain ⟨v, vs, hargs⟩ : ∃ v vs, u.args = v :: vs := List.exists_cons_of_ne_nil hne
    have hv : u.args[0]? = some v := by rw [hargs]; rfl
    have hvm : v ∈ u.args := List.mem_of_getElem? hv
    have hht := Tm.height_le hvm
    have hhe := Tm.height_eq u
    refine at_index ttOK 0 rfl rfl rfl rfl (by omega) (Tm.encL_get hv) ?_
    intro a2 c2 _ _
    have hw3 : IntKind.i64.wrap (i + 1) = ((i + 1 : Nat) : Int) := wrap_i64 (by omega) (by omega)
    refine ⟨(v, i + 1, a2, c2), ⟨lamOK_arg hu hvm, by simp only; omega, ?_⟩, by simp only; omega, ⟨by rw [← hw3]; rfl, rfl, rfl, trivial⟩, StLe.to _ _ rfl (by simp) rfl rfl⟩
    rw [hinv, stripF_lam h hargs]
    simp only [Nat.add_assoc, Nat.add_comm 1 i]
  · simp only [beq_eq_false_iff_ne] at h
    rw [stripF_no h] at hinv
    refine AtRet.pure [tmR u a1 c1] rfl (by simp) ?_
    rw [hinv]
    exact ⟨a1, c1, by simp, rfl⟩
end Go.Proofs.YtpibdcjdamibdaaGreat
end

/-! OrdD -/
section
namespace Go.Proofs.YtpibdcjdamibdaaGreat
open Go.Tr Go
set_option maxRecDepth 10000

section
variable {σ : Type} (vis : σ → Tm → Int → Bool × σ) (fx : Int)

/-- Nothing is sought in such a term. -/
def shutF (o h n st : Int) : Bool := o != 4 || (h == 3 || (h == 1 && decide (n ≥ IntKind.i64.wrap (st + fx))))

mutual
def innerG : Tm → Nat → Int → σ → Bool × σ
  | .mk o h n us, k, st, s => if o = 3 then innerL us k st s else
      if 0 < k ∧ fx = 0 then (true, s) else
        match (if 0 < k ∧ o = 4 then vis s (.mk o h n us) (IntKind.i64.wrap (st + k)) else (true, s)) with
        | (false, s2) => (false, s2)
        | (true, s2) => if shutF fx o h n (IntKind.i64.wrap (st + k)) then (true, s2) else argsG us (IntKind.i64.wrap (st + k)) s2
def innerL : List Tm → Nat → Int → σ → Bool × σ
  | [], _, _, s => (true, s)
  | u :: _, k, st, s => innerG u (k + 1) st s
def argsG : List Tm → Int → σ → Bool × σ
  | [], _, s => (true, s)
  | x :: xs, st, s => match vis s x st with
    | (false, s1) => (false, s1)
    | (true, s1) => match innerG x 0 st s1 with
      | (false, s2) => (false, s2)
      | (true, s2) => argsG xs st s2
 end

def walkG (t : Tm) (st : Int) (s : σ) : Bool × σ := if shutF fx t.op t.hd t.n st then (true, s) else argsG vis fx t.args st s

theorem innerG_no {t : Tm} (h : t.op ≠ 3) (k : Nat) (st : Int) (s : σ) : innerG vis fx t k st s = if 0 < k ∧ fx = 0 then (true, s) else
    match (if 0 < k ∧ t.op = 4 then vis s t (IntKind.i64.wrap (st + k)) else (true, s)) with
    | (false, s2) => (false, s2)
    | (true, s2) => walkG vis fx t (IntKind.i64.wrap (st + k)) s2 := by
  cases t with
  | mk o hd n us =>
    simp only [Tm.op] at h
    simp only [innerG, if_neg h, walkG, Tm.op, Tm.hd, Tm.n, Tm.args]
    rfl

theorem innerG_strip : ∀ (n : Nat) (t : Tm), t.height ≤ n → lamOK t = true → ∀ (k : Nat) (st : Int) (s : σ), innerG vis fx t k st s = innerG vis fx (stripF t).1 (k + (stripF t).2) st s ∧ (stripF t).1.op ≠ 3 ∧ (stripF t).1.height ≤ t.height ∧ lamOK (stripF t).1 = true
  | 0, t, hn, _, _, _, _ => by have := Tm.height_eq t; omega
  | n + 1, t, hn, hl, k, st, s => by
    by_cases ho : t.op = 3
    · obtain ⟨v, vs, hargs⟩ : ∃ v vs, t.args = v :: vs := List.exists_cons_of_ne_nil (lamOK_ne hl ho)
      have hvm : v ∈ t.args := by rw [hargs]; simp
      have hht := Tm.height_le hvm
      have hhe := Tm.height_eq t
      have ih := innerG_strip n v (by omega) (lamOK_arg hl hvm) (k + 1) st s
      rw [stripF_lam ho hargs]
      refine ⟨?_, ih.2.1, by simp only; omega, ih.2.2.2⟩
      cases t with
      | mk o hd m us =>
        simp only [Tm.op] at ho
        simp only [Tm.args] at hargs
        subst ho hargs
        simp only [innerG, if_true, innerL]
        rw [ih.1]
        congr 1
        omega
    · rw [stripF_no ho]
      exact ⟨rfl, ho, Nat.le_refl _, hl⟩
end

/-- A visitor that is handed four own blocks. -/
structure Visits {σ : Type} (vis : σ → Tm → Int → Bool × σ) (Y : SV) (B0 B1 B2 B3 : σ → Blk) (xr : Value × D) (I : σ → Prop) : Prop where
  wf0 : Y.wf 4 = true
  wf : ∀ s, (B0 s).wf 4 = true ∧ (B1 s).wf 4 = true ∧ (B2 s).wf 4 = true ∧ (B3 s).wf 4 = true
  mt : ∀ s s', (B0 s).mut = (B0 s').mut ∧ (B1 s).mut = (B1 s').mut ∧ (B2 s).mut = (B2 s').mut ∧ (B3 s).mut = (B3 s').mut
  does : ∀ s t k a c, I s → Meets Tryz.prog (.val Y) [tmS t a c, iS k] ⟨[B0 s, B1 s, B2 s, B3 s], [], [tmR t a c, xr]⟩ (fun o S' => o = .ret (bS (vis s t k).1) ∧ ((vis s t k).1 = true → I (vis s t k).2) ∧ S' = ⟨[B0 (vis s t k).2, B1 (vis s t k).2, B2 (vis s t k).2, B3 (vis s t k).2], [], []⟩)

theorem walk_spec {σ : Type} (vis : σ → Tm → Int → Bool × σ) (n fx : Int) (Y : SV) (B0 B1 B2 B3 : σ → Blk) (xr : Value × D) (I : σ → Prop) (hV : Visits vis Y B0 B1 B2 B3 xr I) :
    ∀ (N : Nat) (t : Tm), t.height ≤ N → N ≤ 1000000 → lamOK t = true → ∀ (st : Int) (s : σ) a c, I s → Meets Tryz.prog (fnS 100) [.agg [iS n, iS fx], tmS t a c, iS st, Y] ⟨[B0 s, B1 s, B2 s, B3 s], [], [tmR t a c, xr]⟩
      (fun o S' => o = .ret (bS (walkG vis fx t st s).1) ∧ ((walkG vis fx t st s).1 = true → I (walkG vis fx t st s).2) ∧ S' = ⟨[B0 (walkG vis fx t st s).2, B1 (walkG vis fx t st s).2, B2 (walkG vis fx t st s).2, B3 (walkG vis fx t st s).2], [], []⟩) := by
  intro N
  induction N with
  | zero => intro t h; have := Tm.height_eq t; omega
  | succ N ih =>
  intro t hN hN2 hl st s a c hI
  refine Meets.of_ok fun hok => ?_
  have hB : (Tm.encL t.args).length ≤ 1152921504606846976 := (hok _ (List.mem_cons_self ..)).1
  have hlen := Tm.encL_length t.args
  have hown : ∀ s, ∀ q ∈ [B0 s, B1 s, B2 s, B3 s], q.wf [B0 s, B1 s, B2 s, B3 s].length = true := by
    intro s q hq
    have := hV.wf s
    simp only [List.mem_cons, List.not_mem_nil, or_false] at hq
    rcases hq with rfl | rfl | rfl | rfl
    · exact this.1
    · exact this.2.1
    · exact this.2.2.1
    · exact this.2.2.2
  have hwfB : ∀ s, wfB 4 [B0 s, B1 s, B2 s, B3 s] = true := by
    intro s
    have := hV.wf s
    simp only [wfB, this.1, this.2.1, this.2.2.1, this.2.2.2]
  have hmut : ∀ s s', [B0 s, B1 s, B2 s, B3 s].map Blk.mut = [B0 s', B1 s', B2 s', B3 s'].map Blk.mut := by
    intro s s'
    have := hV.mt s s'
    simp [this.1, this.2.1, this.2.2.1, this.2.2.2]
  refine spec_of_body (N := 88) (m := 4) (dt := fun _ => none) [] ttOK Tryz.func100 rfl Tryz.call100 Tryz.ntmps100 rfl (by simp [SV.wfL, SV.wf, hV.wf0]) rfl mixed (by kernel_rfl) ?_
  refine AtIf.mk (fun h1 => ?_) (fun h1 => ?_)
  · refine ret_own [B0 s, B1 s, B2 s, B3 s] rfl rfl rfl (hwfB s) rfl ?_
    have hsh : shutF fx t.op t.hd t.n st = true := h1
    rw [walkG, if_pos hsh]
    exact ⟨rfl, fun _ => hI, rfl⟩
  have hsh : shutF fx t.op t.hd t.n st = false := h1
  have hw : walkG vis fx t st s = argsG vis fx t.args st s := by rw [walkG, hsh]; rfl
  rw [hw]
  refine AtLoop.mk ⟨Nat × σ, fun x => [(40, iS x.1), (39, iS (Tm.encL t.args).length), (38, .v (.slice a (Tm.encL t.args).length c)), (2, iS st), (3, Y), (4, .loc 4 0)],
    fun x => ⟨[B0 x.2, B1 x.2, B2 x.2, B3 x.2, .cells 81 [iS n, iS fx]], [], [tmR t a c, xr]⟩,
    fun x => x.1 ≤ t.args.length ∧ I x.2 ∧ argsG vis fx t.args st s = argsG vis fx (t.args.drop x.1) st x.2, fun x => t.args.length - x.1, (0, s), ⟨Nat.zero_le _, hI, rfl⟩, ⟨rfl, rfl, rfl, rfl, rfl, rfl, trivial⟩, StLe.to _ _ rfl (by simp) rfl ?_, ?_, ?_⟩
  · have := hV.wf s
    simp only [wfB, List.length_cons, List.length_nil, Blk.wf_mono (show 4 ≤ 0 + 1 + 1 + 1 + 1 + 1 by omega) this.1, Blk.wf_mono (show 4 ≤ 0 + 1 + 1 + 1 + 1 + 1 by omega) this.2.1, Blk.wf_mono (show 4 ≤ 0 + 1 + 1 + 1 + 1 + 1 by omega) this.2.2.1, Blk.wf_mono (show 4 ≤ 0 + 1 + 1 + 1 + 1 + 1 by omega) this.2.2.2]
    rfl
  · intro x _
    exact ⟨by simp [envWf, SV.wf, SV.wf_mono (show 4 ≤ 5 by omega) Y hV.wf0]; rfl, rfl⟩
  rintro ⟨i, s1⟩ ⟨hi, hI1, hinv⟩
  simp only at hi hI1 hinv ⊢
  refine AtIf.mk (fun h2 => ?_) (fun h2 => ?_)
  rotate_left
  · refine ret_own [B0 s1, B1 s1, B2 s1, B3 s1] rfl rfl rfl (hwfB s1) rfl ?_
    simp only [decide_eq_false_iff_not, hlen] at h2
    rw [List.drop_of_length_le (by omega)] at hinv
    rw [hinv]
    exact ⟨rfl, fun _ => hI1, rfl⟩
  simp only [decide_eq_true_eq, hlen] at h2
  have hlt : i < t.args.length := by omega
  have hx : t.args[i]? = some t.args[i] := List.getElem?_eq_getElem hlt
  have hxm : t.args[i] ∈ t.args := List.getElem_mem hlt
  have hxh := Tm.height_le hxm
  have hth := Tm.height_eq t
  have hxl := lamOK_arg hl hxm
  have hd : argsG vis fx (t.args.drop i) st s1 = match vis s1 t.args[i] st with
      | (false, s2) => (false, s2)
      | (true, s2) => match innerG vis fx t.args[i] 0 st s2 with
        | (false, s3) => (false, s3)
        | (true, s3) => argsG vis fx (t.args.drop (i + 1)) st s3 := by
    rw [List.drop_eq_getElem_cons hlt]; rfl
  rw [hd] at hinv
  generalize t.args[i] = x at hx hxm hxh hxl hinv
  refine at_index ttOK 0 rfl rfl rfl rfl (by omega) (by rw [Int.toNat_natCast]; exact Tm.encL_get hx) ?_
  intro a1 c1 _ _
  refine (hV.does s1 x st a1 c1 hI1).frame0 _ [] rfl (by simp) (hown s1) (by intro p hp; simp at hp; rcases hp with rfl | rfl <;> simp) rfl hV.wf0 ?_
  rintro o s' ⟨rfl, hI2, rfl⟩
  refine ⟨hmut _ _, ?_⟩
  cases hv : vis s1 x st with
  | mk b1 s2 =>
  rw [hv] at hI2 hinv
  simp only at hI2 hinv ⊢
  refine AtIf.mk (fun h3 => ?_) (fun h3 => ?_)
  · have hb : b1 = false := by simpa using h3
    subst hb
    refine ret_own [B0 s2, B1 s2, B2 s2, B3 s2] rfl rfl rfl (hwfB s2) rfl ?_
    rw [hinv]
    exact ⟨rfl, fun h => (by cases h), rfl⟩
  have hb : b1 = true := by simpa using h3
  subst hb
  have hI2 := hI2 rfl
  simp only at hinv
  refine (strip_spec x a1 c1 hxl (by omega)).at (by simp) rfl rfl ?_
  rintro r out ⟨a2, c2, rfl, rfl⟩
  obtain ⟨he1, he2, he3, he4⟩ := innerG_strip vis fx x.height x (Nat.le_refl _) hxl 0 st s2
  rw [Nat.zero_add] at he1
  rw [he1, innerG_no vis fx he2] at hinv
  generalize (stripF x).1 = mm at he2 he3 he4 hinv ⊢
  generalize hkk : (stripF x).2 = kk at hinv ⊢
  have hw3 : IntKind.i64.wrap (i + 1) = ((i + 1 : Nat) : Int) := wrap_i64 (by omega) (by omega)
  -- on with the next argument
  have next : ∀ (s3 : σ) (env : Env) (extra : List Blk) (reps : List (Value × D)), I s3 → argsG vis fx t.args st s = argsG vis fx (t.args.drop (i + 1)) st s3 → (∀ p ∈ [tmR t a c, xr], p ∈ reps) → find env 40 = some (iS (IntKind.i64.wrap (i + 1))) → envLe env [(39, iS (Tm.encL t.args).length), (38, .v (.slice a (Tm.encL t.args).length c)), (2, iS st), (3, Y), (4, .loc 4 0)] →
      ∃ x' : Nat × σ, (x'.1 ≤ t.args.length ∧ I x'.2 ∧ argsG vis fx t.args st s = argsG vis fx (t.args.drop x'.1) st x'.2) ∧ t.args.length - x'.1 < t.args.length - i ∧ envLe env [(40, iS x'.1), (39, iS (Tm.encL t.args).length), (38, .v (.slice a (Tm.encL t.args).length c)), (2, iS st), (3, Y), (4, .loc 4 0)] ∧ StLe ⟨[B0 s3, B1 s3, B2 s3, B3 s3, .cells 81 [iS n, iS fx]] ++ extra, [], reps⟩ ⟨[B0 x'.2, B1 x'.2, B2 x'.2, B3 x'.2, .cells 81 [iS n, iS fx]], [], [tmR t a c, xr]⟩ := by
    intro s3 env extra reps hI3 hq hr hf he
    refine ⟨(i + 1, s3), ⟨by omega, hI3, hq⟩, by simp only; omega, ⟨by rw [hf, hw3], he⟩, StLe.to _ _ rfl hr rfl ?_⟩
    have := hV.wf s3
    simp only [wfB, List.length_cons, List.length_nil, Blk.wf_mono (show 4 ≤ 0 + 1 + 1 + 1 + 1 + 1 by omega) this.1, Blk.wf_mono (show 4 ≤ 0 + 1 + 1 + 1 + 1 + 1 by omega) this.2.1, Blk.wf_mono (show 4 ≤ 0 + 1 + 1 + 1 + 1 + 1 by omega) this.2.2.1, Blk.wf_mono (show 4 ≤ 0 + 1 + 1 + 1 + 1 + 1 by omega) this.2.2.2]
    rfl
  refine AtIf.mk (fun h4 => ?_) (fun h4 => ?_)
  · have hc : 0 < kk ∧ fx = 0 := by simpa using h4
    rw [if_pos hc] at hinv
    exact next s2 _ _ _ hI2 hinv (by intro p hp; simp at hp; rcases hp with rfl | rfl <;> simp) rfl ⟨rfl, rfl, rfl, rfl, rfl, trivial⟩
  have hc : ¬ (0 < kk ∧ fx = 0) := by
    intro hh
    simp [hh.1, hh.2] at h4
  rw [if_neg hc] at hinv
  have hwalk := fun (s3 : σ) (h : I s3) => ih mm (by omega) (by omega) he4 (IntKind.i64.wrap (st + kk)) s3 a2 c2 h
  refine AtGuard.mk (fun h5 => ?_) (fun h5 => ?_)
  · have hc5 : 0 < kk ∧ mm.op = 4 := by simpa using h5
    rw [if_pos hc5] at hinv
    refine (hV.does s2 mm (IntKind.i64.wrap (st + kk)) a2 c2 hI2).frame0 _ [] rfl (by simp) (hown s2) (by intro p hp; simp at hp; rcases hp with rfl | rfl <;> simp) rfl hV.wf0 ?_
    rintro o s' ⟨rfl, hI3, rfl⟩
    refine ⟨hmut _ _, ?_⟩
    cases hv2 : vis s2 mm (IntKind.i64.wrap (st + kk)) with
    | mk b2 s3 =>
    rw [hv2] at hI3 hinv
    simp only at hI3 hinv ⊢
    refine AtGuard.mk (fun h6 => ?_) (fun h6 => ?_)
    · have hb2 : b2 = true := by simpa using h6
      subst hb2
      refine (hwalk s3 (hI3 rfl)).frame0 _ [] rfl (by simp) (hown s3) (by intro p hp; simp at hp; rcases hp with rfl | rfl <;> simp) (by simp [SV.wfL, SV.wf, hV.wf0]) rfl ?_
      rintro o s' ⟨rfl, hI4, rfl⟩
      refine ⟨hmut _ _, ?_⟩
      cases hw4 : walkG vis fx mm (IntKind.i64.wrap (st + kk)) s3 with
      | mk b4 s4 =>
      rw [hw4] at hI4
      simp only [hw4] at hinv
      refine AtIf.mk (fun h7 => ?_) (fun h7 => ?_)
      · have hb4 : b4 = false := by simpa using h7
        subst hb4
        refine ret_own [B0 s4, B1 s4, B2 s4, B3 s4] rfl rfl rfl (hwfB s4) rfl ?_
        rw [hinv]
        exact ⟨rfl, fun h => (by cases h), rfl⟩
      · have hb4 : b4 = true := by simpa using h7
        subst hb4
        exact next s4 _ _ _ (hI4 rfl) hinv (by intro p hp; simp at hp; rcases hp with rfl | rfl <;> simp) rfl ⟨rfl, rfl, rfl, rfl, rfl, trivial⟩
    · have hb2 : b2 = false := by simpa using h6
      subst hb2
      refine AtIf.mk (fun h7 => ?_) (fun h7 => ?_)
      · refine ret_own [B0 s3, B1 s3, B2 s3, B3 s3] rfl rfl rfl (hwfB s3) rfl ?_
        rw [hinv]
        exact ⟨rfl, fun h => (by cases h), rfl⟩
      · simp at h7
  · have hc5 : ¬ (0 < kk ∧ mm.op = 4) := by
      intro hh
      simp [hh.1, hh.2] at h5
    rw [if_neg hc5] at hinv
    simp only at hinv
    refine AtGuard.mk (fun h6 => ?_) (fun h6 => ?_)
    rotate_left
    · exfalso
      apply hc5
      simp at h6
    refine (hwalk s2 hI2).frame0 _ [] rfl (by simp) (hown s2) (by intro p hp; simp at hp; rcases hp with rfl | rfl <;> simp) (by simp [SV.wfL, SV.wf, hV.wf0]) rfl ?_
    rintro o s' ⟨rfl, hI4, rfl⟩
    refine ⟨hmut _ _, ?_⟩
    cases hw4 : walkG vis fx mm (IntKind.i64.wrap (st + kk)) s2 with
    | mk b4 s4 =>
    rw [hw4] at hI4
    simp only [hw4] at hinv
    refine AtIf.mk (fun h7 => ?_) (fun h7 => ?_)
    · have hb4 : b4 = false := by simpa using h7
      subst hb4
      refine ret_own [B0 s4, B1 s4, B2 s4, B3 s4] rfl rfl rfl (hwfB s4) rfl ?_
      rw [hinv]
      exact ⟨rfl, fun h => (by cases h), rfl⟩
    · have hb4 : b4 = true := by simpa using h7
      subst hb4
      exact next s4 _ _ _ (hI4 rfl) hinv (by intro p hp; simp at hp; rcases hp with rfl | rfl <;> simp) rfl ⟨rfl, rfl, rfl, rfl, rfl, trivial⟩
end Go.Proofs.YtpibdcjdamibdaaGreat
end

/-! OrdE -/
section
namespace Go.Proofs.YtpibdcjdamibdaaGreat
open Go.Tr Go
set_option maxRecDepth 10000

/-- The first loop over a function in a code: what it does ahead of its body, and its body. -/
noncomputable def rfOf : Code → Option (Code × Code)
  | .rangeFunc _ _ a b => some (a, b)
  | .seq a b => match rfOf a with
    | some r => some r
    | none => rfOf b
  | .cond _ t e => match rfOf t with
    | some r => some r
    | none => rfOf e
  | .block _ b => rfOf b
  | .loop b => rfOf b
  | .scope b => rfOf b
  | _ => none

noncomputable def rfAs (f : Func) : Code := match f.body with
  | none => .skip
  | some c => match rfOf c with
    | some (a, _) => a
    | none => .skip
noncomputable def rfBody (f : Func) : Code := match f.body with
  | none => .skip
  | some c => match rfOf c with
    | some (_, b) => b
    | none => .skip

theorem within1_spec {σ : Type} (vis : σ → Tm → Int → Bool × σ) (n fx : Int) (Y : SV) (B0 B1 B2 B3 : σ → Blk) (xr : Value × D) (I : σ → Prop) (hV : Visits vis Y B0 B1 B2 B3 xr I)
    (t : Tm) (hh : t.height ≤ 1000000) (hl : lamOK t = true) (st : Int) (s : σ) (a : Option Addr) (c : Nat) (hI : I s) : Meets Tryz.prog (.val (.fn (.func 99) [] [.loc 4 0, .loc 5 0, .loc 6 0])) [Y]
      ⟨[B0 s, B1 s, B2 s, B3 s, .cells 81 [iS n, iS fx], .cells 51 [iS t.op, iS t.hd, iS t.n, .v (.slice a (Tm.encL t.args).length c)], .cells 3 [iS st]], [], [tmR t a c, xr]⟩
      (fun o S' => o = .ret (.tup []) ∧ ((walkG vis fx t st s).1 = true → I (walkG vis fx t st s).2) ∧ S' = ⟨[B0 (walkG vis fx t st s).2, B1 (walkG vis fx t st s).2, B2 (walkG vis fx t st s).2, B3 (walkG vis fx t st s).2, .cells 81 [iS n, iS fx], .cells 51 [iS t.op, iS t.hd, iS t.n, .v (.slice a (Tm.encL t.args).length c)], .cells 3 [iS st]], [], []⟩) := by
  have hown : ∀ s, ∀ q ∈ [B0 s, B1 s, B2 s, B3 s], q.wf [B0 s, B1 s, B2 s, B3 s].length = true := by
    intro s q hq
    have := hV.wf s
    simp only [List.mem_cons, List.not_mem_nil, or_false] at hq
    rcases hq with rfl | rfl | rfl | rfl
    · exact this.1
    · exact this.2.1
    · exact this.2.2.1
    · exact this.2.2.2
  have hmut : ∀ s s', [B0 s, B1 s, B2 s, B3 s].map Blk.mut = [B0 s', B1 s', B2 s', B3 s'].map Blk.mut := by
    intro s s'
    have := hV.mt s s'
    simp [this.1, this.2.1, this.2.2.1, this.2.2.2]
  refine spec_of_body (N := 10) (m := 7) (dt := fun _ => none) [] ttOK Tryz.func99 rfl Tryz.call99 Tryz.ntmps99 rfl (by simp [SV.wfL, SV.wf, SV.wf_mono (show 4 ≤ 7 by omega) Y hV.wf0]) rfl mixed (by kernel_rfl) ?_
  refine (walk_spec vis n fx Y B0 B1 B2 B3 xr I hV t.height t (Nat.le_refl _) hh hl st s a c hI).frame0 _ [] rfl (by simp) (hown s) (by intro p hp; simp at hp; rcases hp with rfl | rfl <;> simp) (by simp [SV.wfL, SV.wf, hV.wf0]) rfl ?_
  rintro o s' ⟨rfl, hI4, rfl⟩
  refine ⟨hmut _ _, ?_⟩
  generalize walkG vis fx t st s = r at hI4 ⊢
  refine ret_own [B0 r.2, B1 r.2, B2 r.2, B3 r.2, .cells 81 [iS n, iS fx], .cells 51 [iS t.op, iS t.hd, iS t.n, .v (.slice a (Tm.encL t.args).length c)], .cells 3 [iS st]] rfl rfl rfl ?_ rfl ⟨rfl, hI4, rfl⟩
  have := hV.wf r.2
  simp only [wfB, List.length_cons, List.length_nil, Blk.wf_mono (show 4 ≤ 0 + 1 + 1 + 1 + 1 + 1 + 1 + 1 by omega) this.1, Blk.wf_mono (show 4 ≤ 0 + 1 + 1 + 1 + 1 + 1 + 1 + 1 by omega) this.2.1, Blk.wf_mono (show 4 ≤ 0 + 1 + 1 + 1 + 1 + 1 + 1 + 1 by omega) this.2.2.1, Blk.wf_mono (show 4 ≤ 0 + 1 + 1 + 1 + 1 + 1 + 1 + 1 by omega) this.2.2.2]
  rfl

theorem within_spec (n fx : Int) (t : Tm) (st : Int) (a : Option Addr) (c : Nat) : Meets Tryz.prog (fnS 69) [.agg [iS n, iS fx], tmS t a c, iS st] ⟨[], [], []⟩
      (fun o S' => o = .ret (.fn (.func 99) [] [.loc 0 0, .loc 1 0, .loc 2 0]) ∧ S' = ⟨[.cells 81 [iS n, iS fx], .cells 51 [iS t.op, iS t.hd, iS t.n, .v (.slice a (Tm.encL t.args).length c)], .cells 3 [iS st]], [], []⟩) := by
  refine spec_of_body (N := 8) (m := 0) (dt := fun _ => none) [] ttOK Tryz.func69 rfl Tryz.call69 Tryz.ntmps69 rfl rfl rfl mixed (by kernel_rfl) ?_
  exact AtRet.mk ⟨⟨[.cells 81 [iS n, iS fx], .cells 51 [iS t.op, iS t.hd, iS t.n, .v (.slice a (Tm.encL t.args).length c)], .cells 3 [iS st]], [], []⟩, StLe.to _ _ rfl (by simp) rfl rfl, Nat.zero_le _, rfl, rfl, rfl⟩

/-- What compare does with an object that is visited. -/
abbrev vMatch (fx : Int) (a : Tm) : Bool → Tm → Int → Bool × Bool := fun s x k => (!(matchF k fx a x 0 []).1, s || (matchF k fx a x 0 []).1)

noncomputable abbrev recB (s : Bool) : Blk := .lp ⟨39, [(3, .loc 0 0), (4, .loc 1 0), (9, .loc 2 0)], #[31, 32], rfAs Tryz.f40, rfBody Tryz.f40, (match s with
  | true => .done
  | false => .ready), (match s with
  | true => some (.exit 0)
  | false => none)⟩

abbrev outB (s : Bool) : Blk := .cells 3 [iS (match s with
  | true => 2
  | false => 0)]

abbrev tmB (t : Tm) (a : Option Addr) (c : Nat) : Blk := .cells 51 [iS t.op, iS t.hd, iS t.n, .v (.slice a (Tm.encL t.args).length c)]

theorem round_spec (n fx : Int) (a : Tm) (a1 : Option Addr) (c1 : Nat) : Visits (vMatch fx a) (.yld 3) (fun _ => .cells 81 [iS n, iS fx]) (fun _ => tmB a a1 c1) outB recB (tmR a a1 c1) (fun s => s = false) := by
  refine ⟨rfl, fun s => by cases s <;> exact ⟨rfl, rfl, rfl, rfl⟩, fun s s' => by cases s <;> cases s' <;> exact ⟨rfl, rfl, rfl, rfl⟩, ?_⟩
  intro s t k a2 c2 hs
  subst hs
  refine spec_of_round (N := 39) (m := 4) (dt := fun _ => none) [] ttOK rfl rfl rfl rfl rfl rfl mixed (by kernel_rfl) (by kernel_rfl) ?_
  refine (match_spec n fx k a t a1 a2 c1 c2).at (by intro p hp; simp at hp; rcases hp with rfl | rfl <;> simp) rfl rfl ?_
  rintro r out ⟨rfl, rfl⟩
  refine AtIf.mk (fun h => ?_) (fun h => ?_)
  · have hm : (matchF k fx a t 0 []).1 = true := h
    refine ret_own [.cells 81 [iS n, iS fx], tmB a a1 c1, outB true, recB true] rfl rfl rfl rfl rfl ?_
    simp only [hm, Bool.or_true]
    exact ⟨rfl, by simp, trivial⟩
  · have hm : (matchF k fx a t 0 []).1 = false := h
    refine ret_own [.cells 81 [iS n, iS fx], tmB a a1 c1, outB false, recB false] rfl rfl rfl rfl rfl ?_
    simp only [hm, Bool.or_false]
    exact ⟨rfl, by simp, trivial⟩

def compareF (fx : Int) (a b : Tm) : Int := if sameF a b then 1 else if 0 < (stripF b).2 ∧ fx = 0 then 0 else if (walkG (vMatch fx a) fx (stripF b).1 (stripF b).2 false).2 then 2 else 0

theorem compare_spec (n fx : Int) (a b : Tm) (a1 a2 : Option Addr) (c1 c2 : Nat) (hl : lamOK b = true) (hh : b.height ≤ 1000000) :
    Pure Tryz.prog (fnS 40) [.agg [iS n, iS fx], tmS a a1 c1, tmS b a2 c2] [tmR a a1 c1, tmR b a2 c2] (fun r out => r = iS (compareF fx a b) ∧ out = []) := by
  refine spec_of_body (N := 39) (m := 0) (dt := fun _ => none) [] ttOK Tryz.func40 rfl Tryz.call40 Tryz.ntmps40 rfl rfl rfl mixed (by kernel_rfl) ?_
  refine (same_spec a b a1 a2 c1 c2).at (by simp) rfl rfl ?_
  rintro r out ⟨rfl, rfl⟩
  refine AtIf.mk (fun h => ?_) (fun h => ?_)
  · have h : sameF a b = true := h
    exact AtRet.pure [] rfl (by simp) ⟨by rw [compareF, if_pos h], rfl⟩
  have hsm : sameF a b = false := h
  refine (strip_spec b a2 c2 hl hh).at (by simp) rfl rfl ?_
  rintro r out ⟨a3, c3, rfl, rfl⟩
  refine AtIf.mk (fun h => ?_) (fun h => ?_)
  · have h : 0 < (stripF b).2 ∧ fx = 0 := by simpa using h
    exact AtRet.pure [] rfl (by simp) ⟨by rw [compareF, if_neg (by simp [hsm]), if_pos h], rfl⟩
  have hk : ¬ (0 < (stripF b).2 ∧ fx = 0) := by
    intro hh
    simp [hh.1, hh.2] at h
  obtain ⟨-, -, hh2, hl2⟩ := innerG_strip (vMatch fx a) fx b.height b (Nat.le_refl _) hl 0 0 false
  have hc : compareF fx a b = if (walkG (vMatch fx a) fx (stripF b).1 (stripF b).2 false).2 then 2 else 0 := by rw [compareF, if_neg (by simp [hsm]), if_neg hk]
  rw [hc]
  generalize (stripF b).1 = m at hh2 hl2 ⊢
  generalize (stripF b).2 = k
  refine (within_spec n fx m k a3 c3).frameG [] (rest := []) rfl rfl (List.Perm.refl _) (by decide) rfl (by simp) (by simp) rfl rfl ?_
  rintro o s' ⟨rfl, rfl⟩ _ _
  refine ⟨[], _, rfl, rfl, ?_⟩
  refine AtRange.mk ⟨[(3, .loc 0 0), (4, .loc 1 0), (9, .loc 4 0)], ⟨rfl, rfl, rfl, trivial⟩, rfl, rfl, ⟨_, _, _, rfl, Tryz.call99⟩, ?_⟩
  refine (within1_spec (vMatch fx a) n fx (.yld 3) _ _ outB recB (tmR a a1 c1) (fun s => s = false) (round_spec n fx a a1 c1) m (by omega) hl2 k false a3 c3 rfl).frame [0, 1, 4, 8, 5, 6, 7] rfl rfl (by decide) rfl ?_ ?_ rfl rfl ?_
  · intro p q hp
    match p, hp with
    | 0, hp => simp at hp; subst hp; exact ⟨0, rfl, rfl, rfl⟩
    | 1, hp => simp at hp; subst hp; exact ⟨1, rfl, rfl, rfl⟩
    | 2, hp => simp at hp; subst hp; exact ⟨4, rfl, rfl, rfl⟩
    | 3, hp => simp at hp; subst hp; exact ⟨8, rfl, rfl, rfl⟩
    | 4, hp => simp at hp; subst hp; exact ⟨5, rfl, rfl, rfl⟩
    | 5, hp => simp at hp; subst hp; exact ⟨6, rfl, rfl, rfl⟩
    | 6, hp => simp at hp; subst hp; exact ⟨7, rfl, rfl, rfl⟩
  · intro p hp
    simp only [List.mem_cons, List.not_mem_nil, or_false] at hp
    rcases hp with rfl | rfl <;> simp
  rintro o s' ⟨rfl, _, rfl⟩
  cases (walkG (vMatch fx a) fx m k false).2 with
  | true =>
    refine ⟨rfl, rfl, _, rfl, ?_⟩
    exact AtRet.pure [] rfl (by simp) ⟨rfl, rfl⟩
  | false =>
    refine ⟨rfl, rfl, _, rfl, ?_⟩
    exact AtRet.pure [] rfl (by simp) ⟨rfl, rfl⟩
end Go.Proofs.YtpibdcjdamibdaaGreat
end

/-! OrdF -/
section
namespace Go.Proofs.YtpibdcjdamibdaaGreat
open Go.Tr Go
set_option maxRecDepth 10000

mutual
/-- Each node is built as nodes are. -/
def okAll : Tm → Bool
  | .mk o h n us => okNode o h n us.length && okAllL us
def okAllL : List Tm → Bool
  | [] => true
  | u :: us => okAll u && okAllL us
 end

theorem okAllL_mem : ∀ {us : List Tm} {u : Tm}, okAllL us = true → u ∈ us → okAll u = true
  | [], u, _, h => by simp at h
  | v :: us, u, h, hm => by
    simp only [okAllL, Bool.and_eq_true] at h
    rcases List.mem_cons.1 hm with e | e
    · subst e; exact h.1
    · exact okAllL_mem h.2 e

theorem okAll_arg {t u : Tm} (h : okAll t = true) (hu : u ∈ t.args) : okAll u = true := by
  cases t; simp only [okAll, Bool.and_eq_true] at h; exact okAllL_mem h.2 hu

mutual
theorem Tm.count_pos : ∀ t : Tm, 1 ≤ t.count
  | .mk _ _ _ us => by simp only [Tm.count]; omega
theorem Tm.height_pos : ∀ t : Tm, 1 ≤ t.height
  | .mk _ _ _ us => by simp only [Tm.height]; omega
 end

mutual
theorem properF_iff : ∀ (t : Tm) (d k : Int), (properF t d k).1 = true ↔ okAll t = true ∧ k + t.count ≤ 600 ∧ d + t.height ≤ 41
  | .mk o h n us, d, k => by
    have hl := properL_iff us (d + 1) (k + 1)
    simp only [properF, Tm.count, Tm.height, okAll, Bool.and_eq_true]
    by_cases h1 : 600 < k + 1 ∨ 40 < d
    · rw [if_pos h1]
      simp only [Bool.false_eq_true, false_iff]
      omega
    · rw [if_neg h1]
      by_cases h2 : okNode o h n us.length = true
      · rw [if_pos h2, hl]
        simp only [h2, true_and]
        constructor
        · rintro ⟨h3, h4, h5⟩
          refine ⟨h3, ?_, ?_⟩
          · rcases h4 with h4 | rfl
            · omega
            · simp only [Tm.countL]; omega
          rcases h5 with rfl | h5
          · simp only [Tm.heightL]; omega
          · omega
        · rintro ⟨h3, h4, h5⟩
          exact ⟨h3, .inl (by omega), .inr (by omega)⟩
      · rw [if_neg h2]
        simp [h2]
theorem properL_iff : ∀ (us : List Tm) (d k : Int), (properL us d k).1 = true ↔ okAllL us = true ∧ (k + Tm.countL us ≤ 600 ∨ us = []) ∧ (us = [] ∨ d + Tm.heightL us ≤ 41)
  | [], d, k => by simp [properL, okAllL]
  | u :: us, d, k => by
    have h1 := properF_iff u d k
    have hc := fun h => properF_count u d k h
    have hp := Tm.count_pos u
    have hq := Tm.height_pos u
    simp only [properL, okAllL, Tm.countL, Tm.heightL, Bool.and_eq_true]
    cases hu : properF u d k with
    | mk b k' =>
      rw [hu] at h1 hc
      cases b with
      | false =>
        simp only [Bool.false_eq_true, false_iff] at h1 ⊢
        rintro ⟨⟨h2, h3⟩, h4, h5⟩
        simp at h4 h5
        exact h1 ⟨h2, by omega, by omega⟩
      | true =>
        have h1 := h1.1 rfl
        have hk := (hc rfl).1
        simp only at hk
        subst hk
        simp only
        rw [properL_iff us d (k + u.count)]
        simp only [h1.1, true_and, reduceCtorEq, or_false, false_or]
        constructor
        · rintro ⟨h2, h3, h4⟩
          refine ⟨h2, ?_, ?_⟩
          · rcases h3 with h3 | rfl
            · omega
            · simp only [Tm.countL]; omega
          · rcases h4 with rfl | h4
            · simp only [Tm.heightL]; omega
            · omega
        · rintro ⟨h2, h3, h4⟩
          exact ⟨h2, .inl (by omega), .inr (by omega)⟩
 end

theorem isProper_iff (t : Tm) : isProper t = true ↔ okAll t = true ∧ t.count ≤ 600 ∧ t.height ≤ 40 := by
  rw [isProper, properF_iff]
  constructor
  · rintro ⟨h1, h2, h3⟩; exact ⟨h1, by omega, by omega⟩
  · rintro ⟨h1, h2, h3⟩; exact ⟨h1, by omega, by omega⟩

mutual
theorem okAll_lamOK : ∀ t : Tm, okAll t = true → lamOK t = true
  | .mk o h n us, hp => by
    simp only [okAll, Bool.and_eq_true] at hp
    simp only [lamOK, Bool.and_eq_true, Bool.or_eq_true, bne_iff_ne]
    refine ⟨?_, okAllL_lamOK us hp.2⟩
    by_cases ho : o = 3
    · right
      subst ho
      have := hp.1
      cases us with
      | nil => simp [okNode] at this
      | cons u us => rfl
    · exact .inl ho
theorem okAllL_lamOK : ∀ us : List Tm, okAllL us = true → lamOKL us = true
  | [], _ => rfl
  | u :: us, hp => by
    simp only [okAllL, Bool.and_eq_true] at hp
    simp only [lamOKL, Bool.and_eq_true]
    exact ⟨okAll_lamOK u hp.1, okAllL_lamOK us hp.2⟩
 end

theorem isObjectF_proper {t : Tm} {n : Int} (h : isObjectF t n = true) : isProper t = true := by
  simp only [isObjectF, Bool.and_eq_true] at h; exact h.1

/-- What order.Compare answers. -/
def compareE (n fx : Int) (a b : Tm) : Int × Int := if isScopeF n fx = true ∧ isObjectF a n = true ∧ isObjectF b n = true then (compareF fx a b, 0) else (0, 2)

theorem Compare_spec (n fx : Int) (a b : Tm) (a1 a2 : Option Addr) (c1 c2 : Nat) :
    Pure Tryz.prog (fnS 20) [iS n, iS fx, tmS a a1 c1, tmS b a2 c2] [tmR a a1 c1, tmR b a2 c2] (fun r out => r = .tup [iS (compareE n fx a b).1, iS (compareE n fx a b).2] ∧ out = []) := by
  refine spec_of_body (N := 32) (m := 0) (dt := fun _ => none) [] ttOK Tryz.func20 rfl Tryz.call20 Tryz.ntmps20 rfl rfl rfl mixed (by kernel_rfl) ?_
  refine (isScope_spec n fx).at (by simp) rfl rfl ?_
  rintro r out ⟨rfl, rfl⟩
  have bad : ¬ (isScopeF n fx = true ∧ isObjectF a n = true ∧ isObjectF b n = true) → compareE n fx a b = (0, 2) := fun h => by rw [compareE, if_neg h]
  refine AtGuard.mk (fun h1 => ?_) (fun h1 => ?_)
  rotate_left
  · have h1 : isScopeF n fx = false := by simpa using h1
    refine AtGuard.mk (fun h2 => by simp at h2) (fun h2 => ?_)
    refine AtIf.mk (fun h3 => ?_) (fun h3 => by simp at h3)
    rw [bad (by simp [h1])]
    exact AtRet.pure [] rfl (by simp) ⟨rfl, rfl⟩
  have h1 : isScopeF n fx = true := by simpa using h1
  refine (isObject_spec a a1 c1 n).at (by simp) rfl rfl ?_
  rintro r out ⟨rfl, rfl⟩
  refine AtGuard.mk (fun h2 => ?_) (fun h2 => ?_)
  rotate_left
  · have h2 : isObjectF a n = false := by simpa [h1] using h2
    refine AtIf.mk (fun h3 => ?_) (fun h3 => by simp at h3)
    rw [bad (by simp [h2])]
    exact AtRet.pure [] rfl (by simp) ⟨rfl, rfl⟩
  have h2 : isObjectF a n = true := by simpa [h1] using h2
  refine (isObject_spec b a2 c2 n).at (by simp) rfl rfl ?_
  rintro r out ⟨rfl, rfl⟩
  refine AtIf.mk (fun h3 => ?_) (fun h3 => ?_)
  · have h3 : isObjectF b n = false := by simpa [h1, h2] using h3
    rw [bad (by simp [h3])]
    exact AtRet.pure [] rfl (by simp) ⟨rfl, rfl⟩
  have h3 : isObjectF b n = true := by simpa [h1, h2] using h3
  have hp := (isProper_iff b).1 (isObjectF_proper h3)
  refine (compare_spec n fx a b a1 a2 c1 c2 (okAll_lamOK b hp.1) (by omega)).at (by simp) rfl rfl ?_
  rintro r out ⟨rfl, rfl⟩
  rw [compareE, if_pos ⟨h1, h2, h3⟩]
  exact AtRet.pure [] rfl (by simp) ⟨rfl, rfl⟩
end Go.Proofs.YtpibdcjdamibdaaGreat
end

/-! Ref3A -/
section
namespace Go.Proofs.YtpibdcjdamibdaaGreat
open Go.Tr Go
set_option maxRecDepth 10000

theorem drop_cons {α : Type} {l : List α} {i : Nat} {x : α} (h : l[i]? = some x) : l.drop i = x :: l.drop (i + 1) := by
  obtain ⟨hlt, he⟩ := List.getElem?_eq_some_iff.1 h
  rw [List.drop_eq_getElem_cons hlt, he]

mutual
def formedF : Tm → Int → Bool
  | .mk o h n us, d => if 40 < d then false else okNode o h n us.length && formedL us (d + 1)
def formedL : List Tm → Int → Bool
  | [], _ => true
  | u :: us, d => formedF u d && formedL us d
 end
theorem formedF_eq (t : Tm) (d : Int) : formedF t d = if 40 < d then false else okNode t.op t.hd t.n t.args.length && formedL t.args (d + 1) := by cases t; rfl

theorem formed_spec (t : Tm) : ∀ (d : Int) (a : Option Addr) (c : Nat), 0 ≤ d → d ≤ 41 → Pure Tryz.prog (fnS 85) [tmS t a c, iS d] [tmR t a c] (fun r out => r = bS (formedF t d) ∧ out = []) := by
  induction t using Tm.ind with
  | h t ih =>
  intro d a c hd0 hd1
  refine Meets.of_ok fun hok => ?_
  have hB : (Tm.encL t.args).length ≤ 1152921504606846976 := (hok _ (List.mem_cons_self ..)).1
  have hlen := Tm.encL_length t.args
  have hF := formedF_eq t d
  refine spec_of_body (N := 94) (m := 0) (dt := fun _ => none) [3] ttOK Tryz.func85 rfl Tryz.call85 Tryz.ntmps85 rfl rfl rfl mixed (by kernel_rfl) ?_
  refine AtIf.mk (fun h => ?_) (fun h => ?_)
  · simp only [decide_eq_true_eq] at h
    exact AtRet.pure [] rfl (by simp) ⟨by rw [hF, if_pos h], rfl⟩
  have h : ¬ 40 < d := by simpa using h
  rw [if_neg h] at hF
  refine AtCut.mk ⟨Unit, fun _ => [(2, .loc 0 0), (1, iS d)],
      fun _ => ⟨[.cells 51 [iS t.op, iS t.hd, iS t.n, .v (.slice a (Tm.encL t.args).length c)]], [], [tmR t a c]⟩,
      fun _ => okNode t.op t.hd t.n t.args.length = true, fun _ _ => ⟨rfl, rfl⟩, ?_, ?_⟩
  · have bad : okNode t.op t.hd t.n t.args.length = false → formedF t d = false := fun h => by rw [hF, h]; rfl
    refine AtIf.mk (fun h1 => ?_) (fun h1 => AtIf.mk (fun h2 => ?_) (fun h2 => AtIf.mk (fun h3 => ?_) (fun h3 => AtIf.mk (fun h4 => ?_) (fun h4 => ?_))))
    · simp only [beq_iff_eq] at h1
      refine AtIf.mk (fun h5 => ?_) (fun h5 => ?_)
      · refine AtRet.pure [] rfl (by simp) ⟨?_, rfl⟩
        rw [bad]
        simp only [okNode, h1]
        simp [hlen] at h5 ⊢
        first | omega | (intros; simp_all) | simp_all
      · refine ⟨(), ?_, ⟨rfl, rfl, trivial⟩, StLe.refl _⟩
        simp only [okNode, h1]
        simp [hlen] at h5 ⊢
        first | omega | (intros; simp_all) | simp_all
    · simp only [beq_iff_eq] at h2
      refine AtIf.mk (fun h5 => ?_) (fun h5 => ?_)
      · refine AtRet.pure [] rfl (by simp) ⟨?_, rfl⟩
        rw [bad]
        simp only [okNode, h2]
        simp [hlen] at h5 ⊢
        omega
      · refine ⟨(), ?_, ⟨rfl, rfl, trivial⟩, StLe.refl _⟩
        simp only [okNode, h2]
        simp [hlen] at h5 ⊢
        omega
    · simp only [beq_iff_eq] at h3
      refine AtIf.mk (fun h5 => ?_) (fun h5 => ?_)
      · refine AtRet.pure [] rfl (by simp) ⟨?_, rfl⟩
        rw [bad]
        simp only [okNode, h3]
        simp [hlen] at h5 ⊢
        omega
      · refine ⟨(), ?_, ⟨rfl, rfl, trivial⟩, StLe.refl _⟩
        simp only [okNode, h3]
        simp [hlen] at h5 ⊢
        omega
    · simp only [beq_iff_eq] at h4
      refine AtIf.mk (fun h5 => ?_) (fun h5 => ?_)
      · refine AtRet.pure [] rfl (by simp) ⟨?_, rfl⟩
        rw [bad]
        simp only [okNode, h4]
        simp at h5 ⊢
        omega
      · refine ⟨(), ?_, ⟨rfl, rfl, trivial⟩, StLe.refl _⟩
        simp only [okNode, h4]
        simp at h5 ⊢
        omega
    · simp only [beq_eq_false_iff_ne] at h1 h2 h3 h4
      refine AtRet.pure [] rfl (by simp) ⟨?_, rfl⟩
      rw [bad]
      simp [okNode, h1, h2, h3, h4]
  intro _ hok2
  rw [hok2, Bool.true_and] at hF
  refine AtLoop.mk ⟨Nat, fun i => [(5, iS i), (2, .loc 0 0), (1, iS d)], fun _ => ⟨[.cells 51 [iS t.op, iS t.hd, iS t.n, .v (.slice a (Tm.encL t.args).length c)]], [], [tmR t a c]⟩,
    fun i => i ≤ t.args.length ∧ formedF t d = formedL (t.args.drop i) (d + 1), fun i => t.args.length - i, 0, ⟨Nat.zero_le _, hF⟩, ⟨rfl, rfl, rfl, trivial⟩, StLe.refl _, fun _ _ => ⟨rfl, rfl⟩, ?_⟩
  rintro i ⟨hi, hinv⟩
  refine AtIf.mk (fun h1 => ?_) (fun h1 => ?_)
  · simp only [decide_eq_true_eq, hlen] at h1
    obtain ⟨x, hx⟩ : ∃ x, t.args[i]? = some x := ⟨_, List.getElem?_eq_getElem (by omega)⟩
    refine at_index ttOK 0 rfl rfl rfl rfl (by omega) (by rw [Int.toNat_natCast]; exact Tm.encL_get hx) ?_
    intro a1 c1 _ _
    have hw2 : IntKind.i64.wrap (d + 1) = d + 1 := wrap_i64 (by omega) (by omega)
    have hsp := ih x (List.mem_of_getElem? hx) (d + 1) a1 c1 (by omega) (by omega)
    rw [← hw2] at hsp
    refine hsp.at (by simp) rfl rfl ?_
    rintro r out ⟨rfl, rfl⟩
    rw [drop_cons hx, formedL, ← hw2] at hinv
    refine AtIf.mk (fun h2 => ?_) (fun h2 => ?_)
    · have h2 : formedF x (IntKind.i64.wrap (d + 1)) = false := by simpa using h2
      exact AtRet.pure [] rfl (by simp) ⟨by rw [hinv, h2]; rfl, rfl⟩
    · have h2 : formedF x (IntKind.i64.wrap (d + 1)) = true := by simpa using h2
      have hw3 : IntKind.i64.wrap (i + 1) = ((i + 1 : Nat) : Int) := wrap_i64 (by omega) (by omega)
      exact ⟨i + 1, ⟨by omega, by rw [hinv, h2, hw2]; rfl⟩, by simp only; omega, ⟨by rw [← hw3]; rfl, rfl, rfl, trivial⟩, StLe.to _ _ rfl (by simp) rfl rfl⟩
  · simp only [decide_eq_false_iff_not, hlen] at h1
    rw [List.drop_of_length_le (by omega)] at hinv
    exact AtRet.pure [] rfl (by simp) ⟨by rw [hinv]; rfl, rfl⟩

mutual
def nodesF : Tm → Int → Int
  | .mk _ _ _ us, m => if m + 1 < nodesL us m 1 then m + 1 else nodesL us m 1
def nodesL : List Tm → Int → Int → Int
  | [], _, n => n
  | u :: us, m, n => if n ≤ m then nodesL us m (n + nodesF u (m - n)) else n
 end
theorem nodesF_eq (t : Tm) (m : Int) : nodesF t m = if m + 1 < nodesL t.args m 1 then m + 1 else nodesL t.args m 1 := by cases t; rfl

mutual
theorem nodesF_le : ∀ (t : Tm) (m : Int), 0 ≤ m → 1 ≤ nodesF t m ∧ nodesF t m ≤ m + 1
  | .mk _ _ _ us, m, h => by
    have := nodesL_le us m 1 (by omega) (by omega)
    simp only [nodesF]
    split <;> omega
theorem nodesL_le : ∀ (us : List Tm) (m n : Int), 1 ≤ n → n ≤ m + 1 → n ≤ nodesL us m n ∧ nodesL us m n ≤ m + 1
  | [], m, n, h1, h2 => by simp only [nodesL]; omega
  | u :: us, m, n, h1, h2 => by
    simp only [nodesL]
    split
    · have h3 := nodesF_le u (m - n) (by omega)
      have h4 := nodesL_le us m (n + nodesF u (m - n)) (by omega) (by omega)
      omega
    · omega
 end

theorem nodes_spec (t : Tm) : ∀ (m : Int) (a : Option Addr) (c : Nat), 0 ≤ m → m ≤ 1000000 → Pure Tryz.prog (fnS 57) [tmS t a c, iS m] [tmR t a c] (fun r out => r = iS (nodesF t m) ∧ out = []) := by
  induction t using Tm.ind with
  | h t ih =>
  intro m a c hm0 hm1
  refine Meets.of_ok fun hok => ?_
  have hB : (Tm.encL t.args).length ≤ 1152921504606846976 := (hok _ (List.mem_cons_self ..)).1
  have hlen := Tm.encL_length t.args
  refine spec_of_body (N := 34) (m := 0) (dt := fun _ => none) [] ttOK Tryz.func57 rfl Tryz.call57 Tryz.ntmps57 rfl rfl rfl mixed (by kernel_rfl) ?_
  refine AtLoop.mk ⟨Nat × Int, fun x => [(6, iS x.1), (5, iS x.2), (2, .loc 0 0), (1, iS m)], fun _ => ⟨[.cells 51 [iS t.op, iS t.hd, iS t.n, .v (.slice a (Tm.encL t.args).length c)]], [], [tmR t a c]⟩,
    fun x => x.1 ≤ t.args.length ∧ 1 ≤ x.2 ∧ x.2 ≤ m + 1 ∧ nodesL t.args m 1 = nodesL (t.args.drop x.1) m x.2, fun x => t.args.length - x.1, (0, 1), ⟨Nat.zero_le _, Int.le_refl _, by simp only; omega, rfl⟩, ⟨rfl, rfl, rfl, rfl, trivial⟩, StLe.refl _, fun _ _ => ⟨rfl, rfl⟩, ?_⟩
  rintro ⟨i, n⟩ ⟨hi, hn0, hn1, hinv⟩
  simp only at hi hn0 hn1 hinv ⊢
  refine AtIf.mk (fun h1 => ?_) (fun h1 => ?_)
  · simp only [Bool.and_eq_true, decide_eq_true_eq, hlen] at h1
    obtain ⟨x, hx⟩ : ∃ x, t.args[i]? = some x := ⟨_, List.getElem?_eq_getElem (by omega)⟩
    refine at_index ttOK 0 rfl rfl rfl rfl (by omega) (by rw [Int.toNat_natCast]; exact Tm.encL_get hx) ?_
    intro a1 c1 _ _
    have hw2 : IntKind.i64.wrap (m - n) = m - n := wrap_i64 (by omega) (by omega)
    have hsp := ih x (List.mem_of_getElem? hx) (m - n) a1 c1 (by omega) (by omega)
    rw [← hw2] at hsp
    refine hsp.at (by simp) rfl rfl ?_
    rintro r out ⟨rfl, rfl⟩
    have hle := nodesF_le x (m - n) (by omega)
    have hw3 : IntKind.i64.wrap (i + 1) = ((i + 1 : Nat) : Int) := wrap_i64 (by omega) (by omega)
    have hw4 : IntKind.i64.wrap (n + nodesF x (m - n)) = n + nodesF x (m - n) := wrap_i64 (by omega) (by omega)
    refine ⟨(i + 1, n + nodesF x (m - n)), ⟨by omega, by simp only; omega, by simp only; omega, ?_⟩, by simp only; omega, ⟨by rw [← hw3]; rfl, by simp only [hw2, hw4]; rfl, rfl, rfl, trivial⟩, StLe.to _ _ rfl (by simp) rfl rfl⟩
    rw [hinv, drop_cons hx, nodesL, if_pos h1.2]
  · have hw2 : IntKind.i64.wrap (m + 1) = m + 1 := wrap_i64 (by omega) (by omega)
    refine at_min ?_
    have hres : nodesL t.args m 1 = n := by
      rw [hinv]
      by_cases hlt : i < t.args.length
      · obtain ⟨x, hx⟩ : ∃ x, t.args[i]? = some x := ⟨_, List.getElem?_eq_getElem (by omega)⟩
        simp only [Bool.and_eq_false_iff, decide_eq_false_iff_not, hlen] at h1
        rw [drop_cons hx, nodesL, if_neg (by omega)]
      · rw [List.drop_of_length_le (by omega), nodesL]
    refine AtRet.pure [] rfl (by simp) ⟨?_, rfl⟩
    rw [nodesF_eq, hres, hw2]

/-- What trussref03.Proper answers. -/
def refProper (t : Tm) : Bool := decide (nodesF t 600 ≤ 600) && formedF t 1

theorem refProper_spec (t : Tm) (a : Option Addr) (c : Nat) : Pure Tryz.prog (fnS 53) [tmS t a c] [tmR t a c] (fun r out => r = bS (refProper t) ∧ out = []) := by
  refine spec_of_body (N := 10) (m := 0) (dt := fun _ => none) [] ttOK Tryz.func53 rfl Tryz.call53 Tryz.ntmps53 rfl rfl rfl mixed (by kernel_rfl) ?_
  refine (nodes_spec t 600 a c (by omega) (by omega)).at (by simp) rfl rfl ?_
  rintro r out ⟨rfl, rfl⟩
  refine AtGuard.mk (fun h => ?_) (fun h => ?_)
  · refine (formed_spec t 1 a c (by omega) (by omega)).at (by simp) rfl rfl ?_
    rintro r out ⟨rfl, rfl⟩
    have h : decide (nodesF t 600 ≤ 600) = true := h
    exact AtRet.pure [] rfl (by simp) ⟨by rw [refProper, h]; rfl, rfl⟩
  · have h : decide (nodesF t 600 ≤ 600) = false := h
    exact AtRet.pure [] rfl (by simp) ⟨by rw [refProper, h]; rfl, rfl⟩
end Go.Proofs.YtpibdcjdamibdaaGreat
end

/-! Ref3B -/
section
namespace Go.Proofs.YtpibdcjdamibdaaGreat
open Go.Tr Go
set_option maxRecDepth 10000

theorem refSame_spec (t : Tm) : ∀ (u : Tm) (a1 a2 : Option Addr) (c1 c2 : Nat), Pure Tryz.prog (fnS 115) [tmS t a1 c1, tmS u a2 c2] [tmR t a1 c1, tmR u a2 c2] (fun r out => r = bS (sameF t u) ∧ out = []) := by
  induction t using Tm.ind with
  | h t ih =>
  intro u a1 a2 c1 c2
  refine Meets.of_ok fun hok => ?_
  have hB : (Tm.encL t.args).length ≤ 1152921504606846976 := (hok _ (List.mem_cons_self ..)).1
  have hlen := Tm.encL_length t.args
  have hlen2 := Tm.encL_length u.args
  have hF := sameF_eq t u
  refine spec_of_body (N := 53) (m := 0) (dt := drawsOf [(6, .node [0, 1, 2, 3, 4, 5, 6, 7, 8, 9] [(10, .leaf [11])], [10], [])]) [] ttOK Tryz.func115 rfl Tryz.call115 Tryz.ntmps115 rfl rfl rfl mixed (by kernel_rfl) ?_
  refine AtIf.mk (fun h1 => ?_) (fun h1 => ?_)
  · refine AtRet.pure [] rfl (by simp) ⟨?_, rfl⟩
    simp only [hlen, hlen2] at h1
    have : sameF t u = false := by
      rw [hF]
      simp at h1 ⊢
      intro e1 e2 e3 e4
      omega
    rw [this]
  have hl : t.args.length = u.args.length := by
    simp only [hlen, hlen2] at h1
    simp at h1
    omega
  have hF : sameF t u = sameL t.args u.args := by
    simp only [hlen, hlen2] at h1
    simp at h1
    obtain ⟨⟨⟨e1, e2⟩, e3⟩, e4⟩ := h1
    rw [hF]
    simp [e1, e2, e3, hl]
  refine AtLoop.mk ⟨Nat, fun i => [(5, iS i), (2, .loc 0 0), (3, .loc 1 0)], fun _ => ⟨[.cells 51 [iS t.op, iS t.hd, iS t.n, .v (.slice a1 (Tm.encL t.args).length c1)], .cells 51 [iS u.op, iS u.hd, iS u.n, .v (.slice a2 (Tm.encL u.args).length c2)]], [], [tmR t a1 c1, tmR u a2 c2]⟩,
    fun i => i ≤ t.args.length ∧ sameF t u = sameL (t.args.drop i) (u.args.drop i), fun i => t.args.length - i, 0, ⟨Nat.zero_le _, hF⟩, ⟨rfl, rfl, rfl, trivial⟩, StLe.refl _, fun _ _ => ⟨rfl, rfl⟩, ?_⟩
  rintro i ⟨hi, hinv⟩
  refine AtIf.mk (fun h1 => ?_) (fun h1 => ?_)
  · simp only [decide_eq_true_eq, hlen] at h1
    obtain ⟨x, hx⟩ : ∃ x, t.args[i]? = some x := ⟨_, List.getElem?_eq_getElem (by omega)⟩
    obtain ⟨y, hy⟩ : ∃ y, u.args[i]? = some y := ⟨_, List.getElem?_eq_getElem (by omega)⟩
    refine at_index ttOK 0 rfl rfl rfl rfl (by omega) (by rw [Int.toNat_natCast]; exact Tm.encL_get hx) ?_
    intro b1 d1 _ _
    refine at_index ttOK 1 rfl rfl rfl rfl (by omega) (by rw [Int.toNat_natCast]; exact Tm.encL_get hy) ?_
    intro b2 d2 _ _
    refine (ih x (List.mem_of_getElem? hx) y b1 b2 d1 d2).at (by simp) rfl rfl ?_
    rintro r out ⟨rfl, rfl⟩
    rw [drop_cons hx, drop_cons hy, sameL] at hinv
    refine AtIf.mk (fun h2 => ?_) (fun h2 => ?_)
    · have h2 : sameF x y = false := by simpa using h2
      exact AtRet.pure [] rfl (by simp) ⟨by rw [hinv, h2]; rfl, rfl⟩
    · have h2 : sameF x y = true := by simpa using h2
      have hw3 : IntKind.i64.wrap (i + 1) = ((i + 1 : Nat) : Int) := wrap_i64 (by omega) (by omega)
      exact ⟨i + 1, ⟨by omega, by rw [hinv, h2]; rfl⟩, by simp only; omega, ⟨by rw [← hw3]; rfl, rfl, rfl, trivial⟩, StLe.to _ _ rfl (by simp) rfl rfl⟩
  · simp only [decide_eq_false_iff_not, hlen] at h1
    rw [List.drop_of_length_le (by omega)] at hinv
    exact AtRet.pure [] rfl (by simp) ⟨by rw [hinv]; rfl, rfl⟩

theorem below_spec (t : Tm) (a : Option Addr) (c : Nat) (i : Int) : Pure Tryz.prog (fnS 114) [tmS t a c, iS i] [] (fun r out => r = iS (under t.op i) ∧ out = []) := by
  refine spec_of_body (N := 17) (m := 0) (dt := fun _ => none) [] ttOK Tryz.func114 rfl Tryz.call114 Tryz.ntmps114 rfl rfl rfl mixed (by kernel_rfl) ?_
  refine AtIf.mk (fun h => ?_) (fun h => ?_)
  · refine AtRet.pure [] rfl (by simp) ⟨?_, rfl⟩
    simp at h
    rw [under, if_pos h]
  · refine AtRet.pure [] rfl (by simp) ⟨?_, rfl⟩
    have : ¬ (t.op = 3 ∨ t.op = 2 ∧ i = 1) := by
      simp at h
      omega
    rw [under, if_neg this]

mutual
def lowF : Tm → Int → Int → Bool
  | .mk o h n us, f, g => (((o == 4 && h == 1) && decide (n ≥ f)) && decide (n ≤ g)) || lowL o us 0 f g
def lowL : Int → List Tm → Nat → Int → Int → Bool
  | _, [], _, _, _ => false
  | o, u :: us, i, f, g => lowF u (f + under o i) (g + under o i) || lowL o us (i + 1) f g
 end
theorem lowF_eq (t : Tm) (f g : Int) : lowF t f g = ((((t.op == 4 && t.hd == 1) && decide (t.n ≥ f)) && decide (t.n ≤ g)) || lowL t.op t.args 0 f g) := by cases t; rfl

theorem low_spec (t : Tm) : ∀ (f g : Int) (a : Option Addr) (c : Nat), 0 ≤ f → -1 ≤ g → f + t.height ≤ 1000000 → g + t.height ≤ 1000000 → Pure Tryz.prog (fnS 93) [tmS t a c, iS f, iS g] [tmR t a c] (fun r out => r = bS (lowF t f g) ∧ out = []) := by
  induction t using Tm.ind with
  | h t ih =>
  intro f g a c hf0 hg0 hf1 hg1
  refine Meets.of_ok fun hok => ?_
  have hB : (Tm.encL t.args).length ≤ 1152921504606846976 := (hok _ (List.mem_cons_self ..)).1
  have hlen := Tm.encL_length t.args
  have hth := Tm.height_eq t
  have hF := lowF_eq t f g
  refine spec_of_body (N := 51) (m := 0) (dt := fun _ => none) [] ttOK Tryz.func93 rfl Tryz.call93 Tryz.ntmps93 rfl rfl rfl mixed (by kernel_rfl) ?_
  refine AtIf.mk (fun h1 => ?_) (fun h1 => ?_)
  · refine AtRet.pure [] rfl (by simp) ⟨?_, rfl⟩
    rw [hF]
    have h1 : (((t.op == 4 && t.hd == 1) && decide (t.n ≥ f)) && decide (t.n ≤ g)) = true := h1
    rw [h1]; rfl
  have h1 : (((t.op == 4 && t.hd == 1) && decide (t.n ≥ f)) && decide (t.n ≤ g)) = false := h1
  rw [h1, Bool.false_or] at hF
  refine AtLoop.mk ⟨Nat, fun i => [(7, iS i), (3, .loc 0 0), (1, iS f), (2, iS g)], fun _ => ⟨[.cells 51 [iS t.op, iS t.hd, iS t.n, .v (.slice a (Tm.encL t.args).length c)]], [], [tmR t a c]⟩,
    fun i => i ≤ t.args.length ∧ lowF t f g = lowL t.op (t.args.drop i) i f g, fun i => t.args.length - i, 0, ⟨Nat.zero_le _, hF⟩, ⟨rfl, rfl, rfl, rfl, trivial⟩, StLe.refl _, fun _ _ => ⟨rfl, rfl⟩, ?_⟩
  rintro i ⟨hi, hinv⟩
  refine AtIf.mk (fun h1 => ?_) (fun h1 => ?_)
  · simp only [decide_eq_true_eq, hlen] at h1
    obtain ⟨x, hx⟩ : ∃ x, t.args[i]? = some x := ⟨_, List.getElem?_eq_getElem (by omega)⟩
    have hxm := List.mem_of_getElem? hx
    have hxh := Tm.height_le hxm
    have hu := under_le t.op i
    refine (below_spec t a c i).at (by simp) rfl rfl ?_
    rintro r out ⟨rfl, rfl⟩
    refine at_index ttOK 0 rfl rfl rfl rfl (by omega) (by rw [Int.toNat_natCast]; exact Tm.encL_get hx) ?_
    intro a1 c1 _ _
    have hw1 : IntKind.i64.wrap (f + under t.op i) = f + under t.op i := wrap_i64 (by omega) (by omega)
    have hw2 : IntKind.i64.wrap (g + under t.op i) = g + under t.op i := wrap_i64 (by omega) (by omega)
    have hsp := ih x hxm (f + under t.op i) (g + under t.op i) a1 c1 (by omega) (by omega) (by omega) (by omega)
    rw [← hw1, ← hw2] at hsp
    refine hsp.at (by simp) rfl rfl ?_
    rintro r out ⟨rfl, rfl⟩
    rw [drop_cons hx, lowL, ← hw1, ← hw2] at hinv
    refine AtIf.mk (fun h2 => ?_) (fun h2 => ?_)
    · have h2 : lowF x (IntKind.i64.wrap (f + under t.op i)) (IntKind.i64.wrap (g + under t.op i)) = true := h2
      exact AtRet.pure [] rfl (by simp) ⟨by rw [hinv, h2]; rfl, rfl⟩
    · have h2 : lowF x (IntKind.i64.wrap (f + under t.op i)) (IntKind.i64.wrap (g + under t.op i)) = false := h2
      have hw3 : IntKind.i64.wrap (i + 1) = ((i + 1 : Nat) : Int) := wrap_i64 (by omega) (by omega)
      exact ⟨i + 1, ⟨by omega, by rw [hinv, h2]; rfl⟩, by simp only; omega, ⟨by rw [← hw3]; rfl, rfl, rfl, rfl, trivial⟩, StLe.to _ _ rfl (by simp) rfl rfl⟩
  · simp only [decide_eq_false_iff_not, hlen] at h1
    rw [List.drop_of_length_le (by omega)] at hinv
    exact AtRet.pure [] rfl (by simp) ⟨by rw [hinv]; rfl, rfl⟩
end Go.Proofs.YtpibdcjdamibdaaGreat
end
