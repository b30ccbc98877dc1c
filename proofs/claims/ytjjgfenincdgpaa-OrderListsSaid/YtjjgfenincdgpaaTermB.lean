/- The contracts of term.proper and term.Check. Condition: the argument reads as a term (its slices are not longer than 2^60). -/
import Derived.Test.YtjjgfenincdgpaaTermA
namespace Go.Proofs.Ytjjgfenincdgpaa
open Go.Tr Go
set_option maxRecDepth 10000
theorem proper_spec (t : Tm) : ∀ (depth k : Int) (a : Option Addr) (c : Nat), 0 ≤ depth → depth ≤ 41 → 0 ≤ k → k ≤ 600 →
    Meets Try.prog (fnS 69) [tmS t a c, iS depth, .loc 0 0] ⟨[.cells 3 [iS k]], [], [tmR t a c]⟩
      (fun o S' => o = .ret (bS (properF t depth k).1) ∧ S' = ⟨[.cells 3 [iS (properF t depth k).2]], [], []⟩) := by
  induction t using Tm.ind with
  | h t ih =>
  intro depth k a c hd1 hd2 hk1 hk2
  refine Meets.of_ok fun hok => ?_
  have hB : (Tm.encL t.args).length ≤ 1152921504606846976 := (hok _ (List.mem_cons_self ..)).1
  have hlen := Tm.encL_length t.args
  refine spec_of_body (N := 95) (m := 1) (dt := fun _ => none) [6] ttOK Try.func69 rfl Try.call69 Try.ntmps69 rfl rfl rfl mixed (by kernel_rfl) ?_
  have hw : IntKind.i64.wrap (k + 1) = k + 1 := wrap_i64 (by omega) (by omega)
  have hF := properF_eq t depth k
  refine AtIf.mk ?_ ?_
  · intro h
    rw [hw] at h
    refine ret_own [.cells 3 [iS (k + 1)]] (by simp only [hw]; rfl) rfl rfl rfl rfl ?_
    rw [hF, if_pos (by simpa using h)]
    exact ⟨rfl, rfl⟩
  · intro h
    rw [hw] at h
    have hno : ¬ (600 < k + 1 ∨ 40 < depth) := by simpa using h
    rw [if_neg hno] at hF
    refine AtCut.mk ⟨Unit, fun _ => [(7, iS (Tm.encL t.args).length), (8, bS (okNode t.op t.hd t.n t.args.length)), (3, .loc 1 0), (1, iS depth), (2, .loc 0 0)],
      fun _ => ⟨[.cells 3 [iS (k + 1)], .cells 24 [iS t.op, iS t.hd, iS t.n, .v (.slice a (Tm.encL t.args).length c)]], [], [tmR t a c]⟩,
      fun _ => True, fun _ _ => ⟨rfl, rfl⟩, ?_, ?_⟩
    · have fin : ∀ {b : Bool} {env : Env} {S : St}, b = okNode t.op t.hd t.n t.args.length → S = ⟨[.cells 3 [iS (IntKind.i64.wrap (k + 1))], .cells 24 [iS t.op, iS t.hd, iS t.n, .v (.slice a (Tm.encL t.args).length c)]], [], [tmR t a c]⟩ →
          envLe env [(7, iS (Tm.encL t.args).length), (8, bS b), (3, .loc 1 0), (1, iS depth), (2, .loc 0 0)] → 
          ∃ x : Unit, True ∧ envLe env [(7, iS (Tm.encL t.args).length), (8, bS (okNode t.op t.hd t.n t.args.length)), (3, .loc 1 0), (1, iS depth), (2, .loc 0 0)] ∧ StLe S ⟨[.cells 3 [iS (k + 1)], .cells 24 [iS t.op, iS t.hd, iS t.n, .v (.slice a (Tm.encL t.args).length c)]], [], [tmR t a c]⟩ := by
        rintro b env S rfl rfl he
        exact ⟨(), trivial, he, by rw [hw]; exact StLe.refl _⟩
      refine AtIf.mk (fun h1 => ?_) (fun h1 => AtIf.mk (fun h2 => ?_) (fun h2 => AtIf.mk (fun h3 => ?_) (fun h3 => AtIf.mk (fun h4 => ?_) (fun h4 => ?_))))
      · refine fin ?_ rfl ⟨rfl, rfl, rfl, rfl, rfl, trivial⟩
        simp only [beq_iff_eq] at h1
        simp only [okNode, h1, hlen]
        rw [Bool.eq_iff_iff]; simp
      · refine fin ?_ rfl ⟨rfl, rfl, rfl, rfl, rfl, trivial⟩
        simp only [beq_iff_eq] at h2
        simp only [okNode, h2, hlen]
        rw [Bool.eq_iff_iff]; simp; omega
      · refine fin ?_ rfl ⟨rfl, rfl, rfl, rfl, rfl, trivial⟩
        simp only [beq_iff_eq] at h3
        simp only [okNode, h3, hlen]
        rw [Bool.eq_iff_iff]; simp; omega
      · refine fin ?_ rfl ⟨rfl, rfl, rfl, rfl, rfl, trivial⟩
        simp only [beq_iff_eq] at h4
        simp only [okNode, h4]
        rw [Bool.eq_iff_iff]; simp
      · simp only [beq_eq_false_iff_ne] at h1 h2 h3 h4
        refine ret_own [.cells 3 [iS (k + 1)]] (by simp only [hw]; rfl) rfl rfl rfl rfl ?_
        have : okNode t.op t.hd t.n t.args.length = false := by simp [okNode, h1, h2, h3, h4]
        rw [hF, this]
        exact ⟨rfl, rfl⟩
    · intro _ _
      refine AtLoop.mk ⟨Nat × Bool × Int, fun x => [(9, iS x.1), (7, iS (Tm.encL t.args).length), (8, bS x.2.1), (3, .loc 1 0), (1, iS depth), (2, .loc 0 0)],
        fun x => ⟨[.cells 3 [iS x.2.2], .cells 24 [iS t.op, iS t.hd, iS t.n, .v (.slice a (Tm.encL t.args).length c)]], [], [tmR t a c]⟩,
        fun x => x.1 ≤ t.args.length ∧ 0 ≤ x.2.2 ∧ (x.2.1 = true → x.2.2 ≤ 600) ∧ properF t depth k = if x.2.1 then properL (t.args.drop x.1) (depth + 1) x.2.2 else (false, x.2.2),
        fun x => t.args.length - x.1, (0, okNode t.op t.hd t.n t.args.length, k + 1), ?_, ⟨rfl, rfl, rfl, rfl, rfl, rfl, trivial⟩, StLe.refl _, fun x _ => ⟨rfl, rfl⟩, ?_⟩
      · exact ⟨Nat.zero_le _, by simp; omega, fun _ => by simp; omega, by simpa using hF⟩
      · rintro ⟨i, ok, kk⟩ ⟨hi, hk0, hk6, hinv⟩
        simp only at hi hk0 hk6 hinv ⊢
        refine AtIf.mk (fun h1 => ?_) (fun h1 => ?_)
        · simp only [Bool.and_eq_true, decide_eq_true_eq, hlen] at h1
          obtain ⟨h1, rfl⟩ := h1
          have hlt : i < t.args.length := by omega
          obtain ⟨t', ht'⟩ : ∃ t', t.args[i]? = some t' := ⟨_, List.getElem?_eq_getElem hlt⟩
          refine at_index ttOK 0 rfl rfl rfl rfl (by omega) (by rw [Int.toNat_natCast]; exact Tm.encL_get ht') ?_
          intro a' c' _ _
          have hw2 : IntKind.i64.wrap (depth + 1) = depth + 1 := wrap_i64 (by omega) (by omega)
          have hspec := ih t' (List.mem_of_getElem? ht') (depth + 1) kk a' c' (by omega) (by omega) hk0 (hk6 rfl)
          refine hspec.frame [0] rfl (by simp only [hw2]; rfl) (by simp) rfl ?_ ?_ rfl rfl ?_
          · intro p q hp
            match p, hp with
            | 0, hp => simp at hp; subst hp; exact ⟨0, rfl, rfl, rfl⟩
          · intro p hp; simp at hp; subst hp; exact List.mem_cons_of_mem _ (List.mem_cons_self ..)
          · rintro o s' ⟨rfl, rfl⟩
            refine ⟨rfl, rfl, [.cells 3 [iS (properF t' (depth + 1) kk).2]], rfl, ?_⟩
            have hle := properF_le t' (depth + 1) kk hk0 (hk6 rfl)
            have hw3 : IntKind.i64.wrap (i + 1) = ((i + 1 : Nat) : Int) := wrap_i64 (by omega) (by omega)
            refine ⟨(i + 1, (properF t' (depth + 1) kk).1, (properF t' (depth + 1) kk).2), ⟨by omega, by simp; omega, hle.2.2, ?_⟩, by simp; omega, ⟨by rw [← hw3]; rfl, rfl, rfl, rfl, rfl, rfl, trivial⟩, StLe.to _ _ rfl (by simp) rfl rfl⟩
            rw [hinv]
            have hd : t.args.drop i = t' :: t.args.drop (i + 1) := by
              rw [List.drop_eq_getElem_cons hlt]
              congr 1
              rw [List.getElem?_eq_getElem hlt] at ht'
              simpa using ht'
            simp only [if_true, hd, properL]
            cases properF t' (depth + 1) kk with
            | mk b k' => cases b <;> rfl
        · refine ret_own [.cells 3 [iS kk]] rfl rfl rfl rfl rfl ?_
          have : properF t depth k = (ok, kk) := by
            rw [hinv]
            cases ok with
            | false => rfl
            | true =>
              simp only [Bool.and_true, decide_eq_false_iff_not, hlen] at h1
              rw [List.drop_of_length_le (by omega)]
              rfl
          rw [this]
          exact ⟨rfl, rfl⟩

/-- A term is proper. -/
def isProper (t : Tm) : Bool := (properF t 1 0).1

theorem check_spec (t : Tm) (a : Option Addr) (c : Nat) : Pure Try.prog (fnS 63) [tmS t a c] [tmR t a c] (fun r out => r = iS (if isProper t then 0 else 2) ∧ out = []) := by
  refine spec_of_body (N := 7) (m := 0) (dt := fun _ => none) [] ttOK Try.func63 rfl Try.call63 Try.ntmps63 rfl rfl rfl mixed (by kernel_rfl) ?_
  have hs := proper_spec t 1 0 a c (by omega) (by omega) (by omega) (by omega)
  refine hs.frame [1] rfl rfl (by decide) rfl ?_ (by simp) rfl rfl ?_
  · intro p q hp
    match p, hp with
    | 0, hp => simp at hp; subst hp; exact ⟨1, rfl, rfl, rfl⟩
  rintro o s' ⟨rfl, rfl⟩
  refine ⟨rfl, rfl, [.cells 3 [iS (properF t 1 0).2]], rfl, ?_⟩
  refine AtIf.mk (fun h => ?_) (fun h => ?_)
  · refine AtRet.pure [] rfl (by simp) ⟨?_, rfl⟩
    simp only [Bool.not_eq_true'] at h
    simp [isProper, h]
  · refine AtRet.pure [] rfl (by simp) ⟨?_, rfl⟩
    simp only [Bool.not_eq_false'] at h
    simp [isProper, h]
end Go.Proofs.Ytjjgfenincdgpaa
