/- The contracts of trussref03's formed, nodes, Proper, Depth, Size, Same and below. Conditions: the arguments read as terms; Depth: a term nested at most 10^6 deep. -/
import Derived.Test.YtjjgfenincdgpaaOrdF
namespace Go.Proofs.Ytjjgfenincdgpaa
open Go.Tr Go
set_option maxRecDepth 10000

theorem drop_cons {α : Type} {l : List α} {i : Nat} {x : α} (h : l[i]? = some x) : l.drop i = x :: l.drop (i + 1) := by
  obtain ⟨hlt, he⟩ := List.getElem?_eq_some_iff.1 h
  rw [List.drop_eq_getElem_cons hlt, he]

mutual
def formedF : Tm → Int → Bool
  | .mk o h n us, d => if 40 < d then false else okNode o h n us.length && formedL us (d + 1)
def formedL : List Tm → Int → Bool
  | [], _ => true
  | u :: us, d => formedF u d && formedL us d
 end
theorem formedF_eq (t : Tm) (d : Int) : formedF t d = if 40 < d then false else okNode t.op t.hd t.n t.args.length && formedL t.args (d + 1) := by cases t; rfl

theorem formed_spec (t : Tm) : ∀ (d : Int) (a : Option Addr) (c : Nat), 0 ≤ d → d ≤ 41 → Pure Try.prog (fnS 33) [tmS t a c, iS d] [tmR t a c] (fun r out => r = bS (formedF t d) ∧ out = []) := by
  induction t using Tm.ind with
  | h t ih =>
  intro d a c hd0 hd1
  refine Meets.of_ok fun hok => ?_
  have hB : (Tm.encL t.args).length ≤ 1152921504606846976 := (hok _ (List.mem_cons_self ..)).1
  have hlen := Tm.encL_length t.args
  have hF := formedF_eq t d
  refine spec_of_body (N := 94) (m := 0) (dt := fun _ => none) [3] ttOK Try.func33 rfl Try.call33 Try.ntmps33 rfl rfl rfl mixed (by kernel_rfl) ?_
  refine AtIf.mk (fun h => ?_) (fun h => ?_)
  · simp only [decide_eq_true_eq] at h
    exact AtRet.pure [] rfl (by simp) ⟨by rw [hF, if_pos h], rfl⟩
  have h : ¬ 40 < d := by simpa using h
  rw [if_neg h] at hF
  refine AtCut.mk ⟨Unit, fun _ => [(2, .loc 0 0), (1, iS d)],
      fun _ => ⟨[.cells 24 [iS t.op, iS t.hd, iS t.n, .v (.slice a (Tm.encL t.args).length c)]], [], [tmR t a c]⟩,
      fun _ => okNode t.op t.hd t.n t.args.length = true, fun _ _ => ⟨rfl, rfl⟩, ?_, ?_⟩
  · have bad : okNode t.op t.hd t.n t.args.length = false → formedF t d = false := fun h => by rw [hF, h]; rfl
    refine AtIf.mk (fun h1 => ?_) (fun h1 => AtIf.mk (fun h2 => ?_) (fun h2 => AtIf.mk (fun h3 => ?_) (fun h3 => AtIf.mk (fun h4 => ?_) (fun h4 => ?_))))
    · simp only [beq_iff_eq] at h1
      refine AtIf.mk (fun h5 => ?_) (fun h5 => ?_)
      · refine AtRet.pure [] rfl (by simp) ⟨?_, rfl⟩
        rw [bad]
        simp only [okNode, h1]
        simp [hlen] at h5 ⊢
        first | omega | (intros; simp_all) | simp_all
      · refine ⟨(), ?_, ⟨rfl, rfl, trivial⟩, StLe.refl _⟩
        simp only [okNode, h1]
        simp [hlen] at h5 ⊢
        first | omega | (intros; simp_all) | simp_all
    · simp only [beq_iff_eq] at h2
      refine AtIf.mk (fun h5 => ?_) (fun h5 => ?_)
      · refine AtRet.pure [] rfl (by simp) ⟨?_, rfl⟩
        rw [bad]
        simp only [okNode, h2]
        simp [hlen] at h5 ⊢
        omega
      · refine ⟨(), ?_, ⟨rfl, rfl, trivial⟩, StLe.refl _⟩
        simp only [okNode, h2]
        simp [hlen] at h5 ⊢
        omega
    · simp only [beq_iff_eq] at h3
      refine AtIf.mk (fun h5 => ?_) (fun h5 => ?_)
      · refine AtRet.pure [] rfl (by simp) ⟨?_, rfl⟩
        rw [bad]
        simp only [okNode, h3]
        simp [hlen] at h5 ⊢
        omega
      · refine ⟨(), ?_, ⟨rfl, rfl, trivial⟩, StLe.refl _⟩
        simp only [okNode, h3]
        simp [hlen] at h5 ⊢
        omega
    · simp only [beq_iff_eq] at h4
      refine AtIf.mk (fun h5 => ?_) (fun h5 => ?_)
      · refine AtRet.pure [] rfl (by simp) ⟨?_, rfl⟩
        rw [bad]
        simp only [okNode, h4]
        simp at h5 ⊢
        omega
      · refine ⟨(), ?_, ⟨rfl, rfl, trivial⟩, StLe.refl _⟩
        simp only [okNode, h4]
        simp at h5 ⊢
        omega
    · simp only [beq_eq_false_iff_ne] at h1 h2 h3 h4
      refine AtRet.pure [] rfl (by simp) ⟨?_, rfl⟩
      rw [bad]
      simp [okNode, h1, h2, h3, h4]
  intro _ hok2
  rw [hok2, Bool.true_and] at hF
  refine AtLoop.mk ⟨Nat, fun i => [(5, iS i), (2, .loc 0 0), (1, iS d)], fun _ => ⟨[.cells 24 [iS t.op, iS t.hd, iS t.n, .v (.slice a (Tm.encL t.args).length c)]], [], [tmR t a c]⟩,
    fun i => i ≤ t.args.length ∧ formedF t d = formedL (t.args.drop i) (d + 1), fun i => t.args.length - i, 0, ⟨Nat.zero_le _, hF⟩, ⟨rfl, rfl, rfl, trivial⟩, StLe.refl _, fun _ _ => ⟨rfl, rfl⟩, ?_⟩
  rintro i ⟨hi, hinv⟩
  refine AtIf.mk (fun h1 => ?_) (fun h1 => ?_)
  · simp only [decide_eq_true_eq, hlen] at h1
    obtain ⟨x, hx⟩ : ∃ x, t.args[i]? = some x := ⟨_, List.getElem?_eq_getElem (by omega)⟩
    refine at_index ttOK 0 rfl rfl rfl rfl (by omega) (by rw [Int.toNat_natCast]; exact Tm.encL_get hx) ?_
    intro a1 c1 _ _
    have hw2 : IntKind.i64.wrap (d + 1) = d + 1 := wrap_i64 (by omega) (by omega)
    have hsp := ih x (List.mem_of_getElem? hx) (d + 1) a1 c1 (by omega) (by omega)
    rw [← hw2] at hsp
    refine hsp.at (by simp) rfl rfl ?_
    rintro r out ⟨rfl, rfl⟩
    rw [drop_cons hx, formedL, ← hw2] at hinv
    refine AtIf.mk (fun h2 => ?_) (fun h2 => ?_)
    · have h2 : formedF x (IntKind.i64.wrap (d + 1)) = false := by simpa using h2
      exact AtRet.pure [] rfl (by simp) ⟨by rw [hinv, h2]; rfl, rfl⟩
    · have h2 : formedF x (IntKind.i64.wrap (d + 1)) = true := by simpa using h2
      have hw3 : IntKind.i64.wrap (i + 1) = ((i + 1 : Nat) : Int) := wrap_i64 (by omega) (by omega)
      exact ⟨i + 1, ⟨by omega, by rw [hinv, h2, hw2]; rfl⟩, by simp only; omega, ⟨by rw [← hw3]; rfl, rfl, rfl, trivial⟩, StLe.to _ _ rfl (by simp) rfl rfl⟩
  · simp only [decide_eq_false_iff_not, hlen] at h1
    rw [List.drop_of_length_le (by omega)] at hinv
    exact AtRet.pure [] rfl (by simp) ⟨by rw [hinv]; rfl, rfl⟩

mutual
def nodesF : Tm → Int → Int
  | .mk _ _ _ us, m => if m + 1 < nodesL us m 1 then m + 1 else nodesL us m 1
def nodesL : List Tm → Int → Int → Int
  | [], _, n => n
  | u :: us, m, n => if n ≤ m then nodesL us m (n + nodesF u (m - n)) else n
 end
theorem nodesF_eq (t : Tm) (m : Int) : nodesF t m = if m + 1 < nodesL t.args m 1 then m + 1 else nodesL t.args m 1 := by cases t; rfl

mutual
theorem nodesF_le : ∀ (t : Tm) (m : Int), 0 ≤ m → 1 ≤ nodesF t m ∧ nodesF t m ≤ m + 1
  | .mk _ _ _ us, m, h => by
    have := nodesL_le us m 1 (by omega) (by omega)
    simp only [nodesF]
    split <;> omega
theorem nodesL_le : ∀ (us : List Tm) (m n : Int), 1 ≤ n → n ≤ m + 1 → n ≤ nodesL us m n ∧ nodesL us m n ≤ m + 1
  | [], m, n, h1, h2 => by simp only [nodesL]; omega
  | u :: us, m, n, h1, h2 => by
    simp only [nodesL]
    split
    · have h3 := nodesF_le u (m - n) (by omega)
      have h4 := nodesL_le us m (n + nodesF u (m - n)) (by omega) (by omega)
      omega
    · omega
 end

theorem nodes_spec (t : Tm) : ∀ (m : Int) (a : Option Addr) (c : Nat), 0 ≤ m → m ≤ 1000000 → Pure Try.prog (fnS 29) [tmS t a c, iS m] [tmR t a c] (fun r out => r = iS (nodesF t m) ∧ out = []) := by
  induction t using Tm.ind with
  | h t ih =>
  intro m a c hm0 hm1
  refine Meets.of_ok fun hok => ?_
  have hB : (Tm.encL t.args).length ≤ 1152921504606846976 := (hok _ (List.mem_cons_self ..)).1
  have hlen := Tm.encL_length t.args
  refine spec_of_body (N := 34) (m := 0) (dt := fun _ => none) [] ttOK Try.func29 rfl Try.call29 Try.ntmps29 rfl rfl rfl mixed (by kernel_rfl) ?_
  refine AtLoop.mk ⟨Nat × Int, fun x => [(6, iS x.1), (5, iS x.2), (2, .loc 0 0), (1, iS m)], fun _ => ⟨[.cells 24 [iS t.op, iS t.hd, iS t.n, .v (.slice a (Tm.encL t.args).length c)]], [], [tmR t a c]⟩,
    fun x => x.1 ≤ t.args.length ∧ 1 ≤ x.2 ∧ x.2 ≤ m + 1 ∧ nodesL t.args m 1 = nodesL (t.args.drop x.1) m x.2, fun x => t.args.length - x.1, (0, 1), ⟨Nat.zero_le _, Int.le_refl _, by simp only; omega, rfl⟩, ⟨rfl, rfl, rfl, rfl, trivial⟩, StLe.refl _, fun _ _ => ⟨rfl, rfl⟩, ?_⟩
  rintro ⟨i, n⟩ ⟨hi, hn0, hn1, hinv⟩
  simp only at hi hn0 hn1 hinv ⊢
  refine AtIf.mk (fun h1 => ?_) (fun h1 => ?_)
  · simp only [Bool.and_eq_true, decide_eq_true_eq, hlen] at h1
    obtain ⟨x, hx⟩ : ∃ x, t.args[i]? = some x := ⟨_, List.getElem?_eq_getElem (by omega)⟩
    refine at_index ttOK 0 rfl rfl rfl rfl (by omega) (by rw [Int.toNat_natCast]; exact Tm.encL_get hx) ?_
    intro a1 c1 _ _
    have hw2 : IntKind.i64.wrap (m - n) = m - n := wrap_i64 (by omega) (by omega)
    have hsp := ih x (List.mem_of_getElem? hx) (m - n) a1 c1 (by omega) (by omega)
    rw [← hw2] at hsp
    refine hsp.at (by simp) rfl rfl ?_
    rintro r out ⟨rfl, rfl⟩
    have hle := nodesF_le x (m - n) (by omega)
    have hw3 : IntKind.i64.wrap (i + 1) = ((i + 1 : Nat) : Int) := wrap_i64 (by omega) (by omega)
    have hw4 : IntKind.i64.wrap (n + nodesF x (m - n)) = n + nodesF x (m - n) := wrap_i64 (by omega) (by omega)
    refine ⟨(i + 1, n + nodesF x (m - n)), ⟨by omega, by simp only; omega, by simp only; omega, ?_⟩, by simp only; omega, ⟨by rw [← hw3]; rfl, by simp only [hw2, hw4]; rfl, rfl, rfl, trivial⟩, StLe.to _ _ rfl (by simp) rfl rfl⟩
    rw [hinv, drop_cons hx, nodesL, if_pos h1.2]
  · have hw2 : IntKind.i64.wrap (m + 1) = m + 1 := wrap_i64 (by omega) (by omega)
    refine at_min ?_
    have hres : nodesL t.args m 1 = n := by
      rw [hinv]
      by_cases hlt : i < t.args.length
      · obtain ⟨x, hx⟩ : ∃ x, t.args[i]? = some x := ⟨_, List.getElem?_eq_getElem (by omega)⟩
        simp only [Bool.and_eq_false_iff, decide_eq_false_iff_not, hlen] at h1
        rw [drop_cons hx, nodesL, if_neg (by omega)]
      · rw [List.drop_of_length_le (by omega), nodesL]
    refine AtRet.pure [] rfl (by simp) ⟨?_, rfl⟩
    rw [nodesF_eq, hres, hw2]

/-- What trussref03.Proper answers. -/
def refProper (t : Tm) : Bool := decide (nodesF t 600 ≤ 600) && formedF t 1

theorem refProper_spec (t : Tm) (a : Option Addr) (c : Nat) : Pure Try.prog (fnS 17) [tmS t a c] [tmR t a c] (fun r out => r = bS (refProper t) ∧ out = []) := by
  refine spec_of_body (N := 10) (m := 0) (dt := fun _ => none) [] ttOK Try.func17 rfl Try.call17 Try.ntmps17 rfl rfl rfl mixed (by kernel_rfl) ?_
  refine (nodes_spec t 600 a c (by omega) (by omega)).at (by simp) rfl rfl ?_
  rintro r out ⟨rfl, rfl⟩
  refine AtGuard.mk (fun h => ?_) (fun h => ?_)
  · refine (formed_spec t 1 a c (by omega) (by omega)).at (by simp) rfl rfl ?_
    rintro r out ⟨rfl, rfl⟩
    have h : decide (nodesF t 600 ≤ 600) = true := h
    exact AtRet.pure [] rfl (by simp) ⟨by rw [refProper, h]; rfl, rfl⟩
  · have h : decide (nodesF t 600 ≤ 600) = false := h
    exact AtRet.pure [] rfl (by simp) ⟨by rw [refProper, h]; rfl, rfl⟩
end Go.Proofs.Ytjjgfenincdgpaa
