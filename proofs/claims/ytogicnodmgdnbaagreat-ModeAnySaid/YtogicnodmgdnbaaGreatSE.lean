/- Merged texts: Ref3A Ref3B Ref3C Ref3D FwQ Ref15A Ref15B Orders LawA LawB FwR Reads RowKit FwS Gx Hand. Conditions stand in each rule. -/
import Derived.Test.YtogicnodmgdnbaaGreatSD
import Derived.Laws.CopyRow
import Derived.RowKit3
import Derived.ProofKit
import Derived.OpenShut
import Derived.JoinedCond
import Derived.ReadAgain
import Derived.ChangeReads
import Derived.ChangeArms
import Derived.ChangeSame
import Derived.Deep.CondSized
import Derived.Test.YtogicnodmgdnbaaGreatRows
import Derived.SizedLaws
import Derived.Handed
import Derived.WalkKit
set_option linter.unusedSimpArgs false
set_option linter.unusedVariables false

namespace Go.Proofs.YtogicnodmgdnbaaGreat
section
open Go.Tr Go Go.Proofs.Tryz
set_option maxRecDepth 10000
theorem qah {α : Type} {l : List α} {i : Nat} {x : α} (h : l[i]? = some x) : l.drop i = x :: l.drop (i + 1) := by
 obtain ⟨hlt, he⟩ := List.getElem?_eq_some_iff.1 h
 rw [List.drop_eq_getElem_cons hlt, he]
mutual
def formedF : Tm → Int → Bool
 | .mk o h n us, d => if 40 < d then false else okNode o h n us.length && formedL us (d + 1)
def formedL : List Tm → Int → Bool
 | [], _ => true
 | u :: us, d => formedF u d && formedL us d
 end
theorem formedF_eq (t : Tm) (d : Int) : formedF t d = if 40 < d then false else okNode t.op t.hd t.n t.args.length && formedL t.args (d + 1) := by cases t; rfl
theorem qoi (t : Tm) : ∀ (d : Int) (a : OA) (c : Nat), 0 ≤ d → d ≤ 41 → Pure Tryz.prog (fnS 70) [tmS t a c, iS d] [tmR t a c] (fun r out => r = bS (formedF t d) ∧ out = []) := by
 induction t using Tm.ind with
 | h t ih =>
 intro d a c hd0 hd1
 refine qv fun hok => ?_
 have hB : (Tm.encL t.args).length ≤ 1152921504606846976 := (hok _ (List.mem_cons_self ..)).1
 have hlen := Tm.encL_length t.args
 have hF := formedF_eq t d
 refine qb (N := 94) (m := 0) (dt := fun _ => none) [3] ttOK Tryz.func70 rfl Tryz.call70 Tryz.ntmps70 rfl rfl rfl mixed (by kernel_rfl) ?_
 refine AtIf.mk (fun h => ?_) (fun h => ?_)
 ·simp only [decide_eq_true_eq] at h
  exact AtRet.pure [] rfl (by simp) ⟨by rw [hF, if_pos h], rfl⟩
 have h : ¬ 40 < d := by simpa using h
 rw [if_neg h] at hF
 refine AtCut.mk ⟨Unit, fun _ => [(2, .loc 0 0), (1, iS d)],
   fun _ => ⟨[.cells 47 [iS t.op, iS t.hd, iS t.n, .v (.slice a (Tm.encL t.args).length c)]], [], [tmR t a c]⟩,
   fun _ => okNode t.op t.hd t.n t.args.length = true, fun _ _ => ⟨rfl, rfl⟩, ?_, ?_⟩
 ·have bad : okNode t.op t.hd t.n t.args.length = false → formedF t d = false := fun h => by rw [hF, h]; rfl
  refine AtIf.mk (fun h1 => ?_) (fun h1 => AtIf.mk (fun h2 => ?_) (fun h2 => AtIf.mk (fun h3 => ?_) (fun h3 => AtIf.mk (fun h4 => ?_) (fun h4 => ?_))))
  ·simp only [beq_iff_eq] at h1
   refine AtIf.mk (fun h5 => ?_) (fun h5 => ?_)
   ·refine AtRet.pure [] rfl (by simp) ⟨?_, rfl⟩
    rw [bad]
    simp only [okNode, h1]
    simp [hlen] at h5 ⊢
    first | omega | (intros; simp_all) | simp_all
   ·refine ⟨(), ?_, ⟨rfl, rfl, trivial⟩, StLe.refl _⟩
    simp only [okNode, h1]
    simp [hlen] at h5 ⊢
    first | omega | (intros; simp_all) | simp_all
  ·simp only [beq_iff_eq] at h2
   refine AtIf.mk (fun h5 => ?_) (fun h5 => ?_)
   ·refine AtRet.pure [] rfl (by simp) ⟨?_, rfl⟩
    rw [bad]
    simp only [okNode, h2]
    simp [hlen] at h5 ⊢
    omega
   ·refine ⟨(), ?_, ⟨rfl, rfl, trivial⟩, StLe.refl _⟩
    simp only [okNode, h2]
    simp [hlen] at h5 ⊢
    omega
  ·simp only [beq_iff_eq] at h3
   refine AtIf.mk (fun h5 => ?_) (fun h5 => ?_)
   ·refine AtRet.pure [] rfl (by simp) ⟨?_, rfl⟩
    rw [bad]
    simp only [okNode, h3]
    simp [hlen] at h5 ⊢
    omega
   ·refine ⟨(), ?_, ⟨rfl, rfl, trivial⟩, StLe.refl _⟩
    simp only [okNode, h3]
    simp [hlen] at h5 ⊢
    omega
  ·simp only [beq_iff_eq] at h4
   refine AtIf.mk (fun h5 => ?_) (fun h5 => ?_)
   ·refine AtRet.pure [] rfl (by simp) ⟨?_, rfl⟩
    rw [bad]
    simp only [okNode, h4]
    simp at h5 ⊢
    omega
   ·refine ⟨(), ?_, ⟨rfl, rfl, trivial⟩, StLe.refl _⟩
    simp only [okNode, h4]
    simp at h5 ⊢
    omega
  ·simp only [beq_eq_false_iff_ne] at h1 h2 h3 h4
   refine AtRet.pure [] rfl (by simp) ⟨?_, rfl⟩
   rw [bad]
   simp [okNode, h1, h2, h3, h4]
 intro _ hok2
 rw [hok2, Bool.true_and] at hF
 refine AtLoop.mk ⟨Nat, fun i => [(5, iS i), (2, .loc 0 0), (1, iS d)], fun _ => ⟨[.cells 47 [iS t.op, iS t.hd, iS t.n, .v (.slice a (Tm.encL t.args).length c)]], [], [tmR t a c]⟩,
  fun i => i ≤ t.args.length ∧ formedF t d = formedL (t.args.drop i) (d + 1), fun i => t.args.length - i, 0, ⟨Nat.zero_le _, hF⟩, ⟨rfl, rfl, rfl, trivial⟩, StLe.refl _, fun _ _ => ⟨rfl, rfl⟩, ?_⟩
 rintro i ⟨hi, hinv⟩
 refine AtIf.mk (fun h1 => ?_) (fun h1 => ?_)
 ·simp only [decide_eq_true_eq, hlen] at h1
  obtain ⟨x, hx⟩ : ∃ x, t.args[i]? = some x := ⟨_, List.getElem?_eq_getElem (by omega)⟩
  refine qd ttOK 0 rfl rfl rfl rfl (by omega) (by rw [Int.toNat_natCast]; exact Tm.encL_get hx) ?_
  intro a1 c1 _ _
  have hw2 : IntKind.i64.wrap (d + 1) = d + 1 := wrap_i64 (by omega) (by omega)
  have hsp := ih x (List.mem_of_getElem? hx) (d + 1) a1 c1 (by omega) (by omega)
  rw [← hw2] at hsp
  refine hsp.at (by simp) rfl rfl ?_
  rintro r out ⟨rfl, rfl⟩
  rw [qah hx, formedL, ← hw2] at hinv
  refine AtIf.mk (fun h2 => ?_) (fun h2 => ?_)
  ·have h2 : formedF x (IntKind.i64.wrap (d + 1)) = false := by simpa using h2
   exact AtRet.pure [] rfl (by simp) ⟨by rw [hinv, h2]; rfl, rfl⟩
  ·have h2 : formedF x (IntKind.i64.wrap (d + 1)) = true := by simpa using h2
   have hw3 : IntKind.i64.wrap (i + 1) = ((i + 1 : Nat) : Int) := wrap_i64 (by omega) (by omega)
   exact ⟨i + 1, ⟨by omega, by rw [hinv, h2, hw2]; rfl⟩, by simp only; omega, ⟨by rw [← hw3]; rfl, rfl, rfl, trivial⟩, StLe.to _ _ rfl (by simp) rfl rfl⟩
 ·simp only [decide_eq_false_iff_not, hlen] at h1
  rw [List.drop_of_length_le (by omega)] at hinv
  exact AtRet.pure [] rfl (by simp) ⟨by rw [hinv]; rfl, rfl⟩
mutual
def nodesF : Tm → Int → Int
 | .mk _ _ _ us, m => if m + 1 < nodesL us m 1 then m + 1 else nodesL us m 1
def nodesL : List Tm → Int → Int → Int
 | [], _, n => n
 | u :: us, m, n => if n ≤ m then nodesL us m (n + nodesF u (m - n)) else n
 end
theorem nodesF_eq (t : Tm) (m : Int) : nodesF t m = if m + 1 < nodesL t.args m 1 then m + 1 else nodesL t.args m 1 := by cases t; rfl
mutual
theorem qh4 : ∀ (t : Tm) (m : Int), 0 ≤ m → 1 ≤ nodesF t m ∧ nodesF t m ≤ m + 1
 | .mk _ _ _ us, m, h => by
  have := qng us m 1 (by omega) (by omega)
  simp only [nodesF]
  split <;> omega
theorem qng : ∀ (us : List Tm) (m n : Int), 1 ≤ n → n ≤ m + 1 → n ≤ nodesL us m n ∧ nodesL us m n ≤ m + 1
 | [], m, n, h1, h2 => by simp only [nodesL]; omega
 | u :: us, m, n, h1, h2 => by
  simp only [nodesL]
  split
  ·have h3 := qh4 u (m - n) (by omega)
   have h4 := qng us m (n + nodesF u (m - n)) (by omega) (by omega)
   omega
  ·omega
 end
theorem nodes_spec (t : Tm) : ∀ (m : Int) (a : OA) (c : Nat), 0 ≤ m → m ≤ 1000000 → Pure Tryz.prog (fnS 69) [tmS t a c, iS m] [tmR t a c] (fun r out => r = iS (nodesF t m) ∧ out = []) := by
 induction t using Tm.ind with
 | h t ih =>
 intro m a c hm0 hm1
 refine qv fun hok => ?_
 have hB : (Tm.encL t.args).length ≤ 1152921504606846976 := (hok _ (List.mem_cons_self ..)).1
 have hlen := Tm.encL_length t.args
 refine qb (N := 34) (m := 0) (dt := fun _ => none) [] ttOK Tryz.func69 rfl Tryz.call69 Tryz.ntmps69 rfl rfl rfl mixed (by kernel_rfl) ?_
 refine AtLoop.mk ⟨Nat × Int, fun x => [(6, iS x.1), (5, iS x.2), (2, .loc 0 0), (1, iS m)], fun _ => ⟨[.cells 47 [iS t.op, iS t.hd, iS t.n, .v (.slice a (Tm.encL t.args).length c)]], [], [tmR t a c]⟩,
  fun x => x.1 ≤ t.args.length ∧ 1 ≤ x.2 ∧ x.2 ≤ m + 1 ∧ nodesL t.args m 1 = nodesL (t.args.drop x.1) m x.2, fun x => t.args.length - x.1, (0, 1), ⟨Nat.zero_le _, Int.le_refl _, by simp only; omega, rfl⟩, ⟨rfl, rfl, rfl, rfl, trivial⟩, StLe.refl _, fun _ _ => ⟨rfl, rfl⟩, ?_⟩
 rintro ⟨i, n⟩ ⟨hi, hn0, hn1, hinv⟩
 simp only at hi hn0 hn1 hinv ⊢
 refine AtIf.mk (fun h1 => ?_) (fun h1 => ?_)
 ·simp only [Bool.and_eq_true, decide_eq_true_eq, hlen] at h1
  obtain ⟨x, hx⟩ : ∃ x, t.args[i]? = some x := ⟨_, List.getElem?_eq_getElem (by omega)⟩
  refine qd ttOK 0 rfl rfl rfl rfl (by omega) (by rw [Int.toNat_natCast]; exact Tm.encL_get hx) ?_
  intro a1 c1 _ _
  have hw2 : IntKind.i64.wrap (m - n) = m - n := wrap_i64 (by omega) (by omega)
  have hsp := ih x (List.mem_of_getElem? hx) (m - n) a1 c1 (by omega) (by omega)
  rw [← hw2] at hsp
  refine hsp.at (by simp) rfl rfl ?_
  rintro r out ⟨rfl, rfl⟩
  have hle := qh4 x (m - n) (by omega)
  have hw3 : IntKind.i64.wrap (i + 1) = ((i + 1 : Nat) : Int) := wrap_i64 (by omega) (by omega)
  have hw4 : IntKind.i64.wrap (n + nodesF x (m - n)) = n + nodesF x (m - n) := wrap_i64 (by omega) (by omega)
  refine ⟨(i + 1, n + nodesF x (m - n)), ⟨by omega, by simp only; omega, by simp only; omega, ?_⟩, by simp only; omega, ⟨by rw [← hw3]; rfl, by simp only [hw2, hw4]; rfl, rfl, rfl, trivial⟩, StLe.to _ _ rfl (by simp) rfl rfl⟩
  rw [hinv, qah hx, nodesL, if_pos h1.2]
 ·have hw2 : IntKind.i64.wrap (m + 1) = m + 1 := wrap_i64 (by omega) (by omega)
  refine at_min ?_
  have hres : nodesL t.args m 1 = n := by
   rw [hinv]
   by_cases hlt : i < t.args.length
   ·obtain ⟨x, hx⟩ : ∃ x, t.args[i]? = some x := ⟨_, List.getElem?_eq_getElem (by omega)⟩
    simp only [Bool.and_eq_false_iff, decide_eq_false_iff_not, hlen] at h1
    rw [qah hx, nodesL, if_neg (by omega)]
   ·rw [List.drop_of_length_le (by omega), nodesL]
  refine AtRet.pure [] rfl (by simp) ⟨?_, rfl⟩
  rw [nodesF_eq, hres, hw2]
def refProper (t : Tm) : Bool := decide (nodesF t 600 ≤ 600) && formedF t 1
theorem qa2 (t : Tm) (a : OA) (c : Nat) : Pure Tryz.prog (fnS 25) [tmS t a c] [tmR t a c] (fun r out => r = bS (refProper t) ∧ out = []) := by
 refine qb (N := 10) (m := 0) (dt := fun _ => none) [] ttOK Tryz.func25 rfl Tryz.call25 Tryz.ntmps25 rfl rfl rfl mixed (by kernel_rfl) ?_
 refine (nodes_spec t 600 a c (by omega) (by omega)).at (by simp) rfl rfl ?_
 rintro r out ⟨rfl, rfl⟩
 refine AtGuard.mk (fun h => ?_) (fun h => ?_)
 ·refine (qoi t 1 a c (by omega) (by omega)).at (by simp) rfl rfl ?_
  rintro r out ⟨rfl, rfl⟩
  have h : decide (nodesF t 600 ≤ 600) = true := h
  exact AtRet.pure [] rfl (by simp) ⟨by rw [refProper, h]; rfl, rfl⟩
 ·have h : decide (nodesF t 600 ≤ 600) = false := h
  exact AtRet.pure [] rfl (by simp) ⟨by rw [refProper, h]; rfl, rfl⟩
end

section
open Go.Tr Go Go.Proofs.Tryz
set_option maxRecDepth 10000
theorem qns (t : Tm) : ∀ (u : Tm) (a1 a2 : OA) (c1 c2 : Nat), Pure Tryz.prog (fnS 75) [tmS t a1 c1, tmS u a2 c2] [tmR t a1 c1, tmR u a2 c2] (fun r out => r = bS (sameF t u) ∧ out = []) := by
 induction t using Tm.ind with
 | h t ih =>
 intro u a1 a2 c1 c2
 refine qv fun hok => ?_
 have hB : (Tm.encL t.args).length ≤ 1152921504606846976 := (hok _ (List.mem_cons_self ..)).1
 have hlen := Tm.encL_length t.args
 have hlen2 := Tm.encL_length u.args
 have hF := sameF_eq t u
 refine qb (N := 53) (m := 0) (dt := drawsOf [(6, .node [0, 1, 2, 3, 4, 5, 6, 7, 8, 9] [(10, .leaf [11])], [10], [])]) [] ttOK Tryz.func75 rfl Tryz.call75 Tryz.ntmps75 rfl rfl rfl mixed (by kernel_rfl) ?_
 refine AtIf.mk (fun h1 => ?_) (fun h1 => ?_)
 ·refine AtRet.pure [] rfl (by simp) ⟨?_, rfl⟩
  simp only [hlen, hlen2] at h1
  have : sameF t u = false := by
   rw [hF]
   simp at h1 ⊢
   intro e1 e2 e3 e4
   omega
  rw [this]
 have hl : t.args.length = u.args.length := by
  simp only [hlen, hlen2] at h1
  simp at h1
  omega
 have hF : sameF t u = sameL t.args u.args := by
  simp only [hlen, hlen2] at h1
  simp at h1
  obtain ⟨⟨⟨e1, e2⟩, e3⟩, e4⟩ := h1
  rw [hF]
  simp [e1, e2, e3, hl]
 refine AtLoop.mk ⟨Nat, fun i => [(5, iS i), (2, .loc 0 0), (3, .loc 1 0)], fun _ => ⟨[.cells 47 [iS t.op, iS t.hd, iS t.n, .v (.slice a1 (Tm.encL t.args).length c1)], .cells 47 [iS u.op, iS u.hd, iS u.n, .v (.slice a2 (Tm.encL u.args).length c2)]], [], [tmR t a1 c1, tmR u a2 c2]⟩,
  fun i => i ≤ t.args.length ∧ sameF t u = sameL (t.args.drop i) (u.args.drop i), fun i => t.args.length - i, 0, ⟨Nat.zero_le _, hF⟩, ⟨rfl, rfl, rfl, trivial⟩, StLe.refl _, fun _ _ => ⟨rfl, rfl⟩, ?_⟩
 rintro i ⟨hi, hinv⟩
 refine AtIf.mk (fun h1 => ?_) (fun h1 => ?_)
 ·simp only [decide_eq_true_eq, hlen] at h1
  obtain ⟨x, hx⟩ : ∃ x, t.args[i]? = some x := ⟨_, List.getElem?_eq_getElem (by omega)⟩
  obtain ⟨y, hy⟩ : ∃ y, u.args[i]? = some y := ⟨_, List.getElem?_eq_getElem (by omega)⟩
  refine qd ttOK 0 rfl rfl rfl rfl (by omega) (by rw [Int.toNat_natCast]; exact Tm.encL_get hx) ?_
  intro b1 d1 _ _
  refine qd ttOK 1 rfl rfl rfl rfl (by omega) (by rw [Int.toNat_natCast]; exact Tm.encL_get hy) ?_
  intro b2 d2 _ _
  refine (ih x (List.mem_of_getElem? hx) y b1 b2 d1 d2).at (by simp) rfl rfl ?_
  rintro r out ⟨rfl, rfl⟩
  rw [qah hx, qah hy, sameL] at hinv
  refine AtIf.mk (fun h2 => ?_) (fun h2 => ?_)
  ·have h2 : sameF x y = false := by simpa using h2
   exact AtRet.pure [] rfl (by simp) ⟨by rw [hinv, h2]; rfl, rfl⟩
  ·have h2 : sameF x y = true := by simpa using h2
   have hw3 : IntKind.i64.wrap (i + 1) = ((i + 1 : Nat) : Int) := wrap_i64 (by omega) (by omega)
   exact ⟨i + 1, ⟨by omega, by rw [hinv, h2]; rfl⟩, by simp only; omega, ⟨by rw [← hw3]; rfl, rfl, rfl, trivial⟩, StLe.to _ _ rfl (by simp) rfl rfl⟩
 ·simp only [decide_eq_false_iff_not, hlen] at h1
  rw [List.drop_of_length_le (by omega)] at hinv
  exact AtRet.pure [] rfl (by simp) ⟨by rw [hinv]; rfl, rfl⟩
theorem qgr (t : Tm) (a : OA) (c : Nat) (i : Int) : Pure Tryz.prog (fnS 115) [tmS t a c, iS i] [] (fun r out => r = iS (under t.op i) ∧ out = []) := by
 refine qb (N := 17) (m := 0) (dt := fun _ => none) [] ttOK Tryz.func115 rfl Tryz.call115 Tryz.ntmps115 rfl rfl rfl mixed (by kernel_rfl) ?_
 refine AtIf.mk (fun h => ?_) (fun h => ?_)
 ·refine AtRet.pure [] rfl (by simp) ⟨?_, rfl⟩
  simp at h
  rw [under, if_pos h]
 ·refine AtRet.pure [] rfl (by simp) ⟨?_, rfl⟩
  have : ¬ (t.op = 3 ∨ t.op = 2 ∧ i = 1) := by
   simp at h
   omega
  rw [under, if_neg this]
mutual
def lowF : Tm → Int → Int → Bool
 | .mk o h n us, f, g => (((o == 4 && h == 1) && decide (n ≥ f)) && decide (n ≤ g)) || lowL o us 0 f g
def lowL : Int → List Tm → Nat → Int → Int → Bool
 | _, [], _, _, _ => false
 | o, u :: us, i, f, g => lowF u (f + under o i) (g + under o i) || lowL o us (i + 1) f g
 end
theorem lowF_eq (t : Tm) (f g : Int) : lowF t f g = ((((t.op == 4 && t.hd == 1) && decide (t.n ≥ f)) && decide (t.n ≤ g)) || lowL t.op t.args 0 f g) := by cases t; rfl
theorem low_spec (t : Tm) : ∀ (f g : Int) (a : OA) (c : Nat), 0 ≤ f → -1 ≤ g → f + t.height ≤ 1000000 → g + t.height ≤ 1000000 → Pure Tryz.prog (fnS 68) [tmS t a c, iS f, iS g] [tmR t a c] (fun r out => r = bS (lowF t f g) ∧ out = []) := by
 induction t using Tm.ind with
 | h t ih =>
 intro f g a c hf0 hg0 hf1 hg1
 refine qv fun hok => ?_
 have hB : (Tm.encL t.args).length ≤ 1152921504606846976 := (hok _ (List.mem_cons_self ..)).1
 have hlen := Tm.encL_length t.args
 have hth := qaf t
 have hF := lowF_eq t f g
 refine qb (N := 51) (m := 0) (dt := fun _ => none) [] ttOK Tryz.func68 rfl Tryz.call68 Tryz.ntmps68 rfl rfl rfl mixed (by kernel_rfl) ?_
 refine AtIf.mk (fun h1 => ?_) (fun h1 => ?_)
 ·refine AtRet.pure [] rfl (by simp) ⟨?_, rfl⟩
  rw [hF]
  have h1 : (((t.op == 4 && t.hd == 1) && decide (t.n ≥ f)) && decide (t.n ≤ g)) = true := h1
  rw [h1]; rfl
 have h1 : (((t.op == 4 && t.hd == 1) && decide (t.n ≥ f)) && decide (t.n ≤ g)) = false := h1
 rw [h1, Bool.false_or] at hF
 refine AtLoop.mk ⟨Nat, fun i => [(7, iS i), (3, .loc 0 0), (1, iS f), (2, iS g)], fun _ => ⟨[.cells 47 [iS t.op, iS t.hd, iS t.n, .v (.slice a (Tm.encL t.args).length c)]], [], [tmR t a c]⟩,
  fun i => i ≤ t.args.length ∧ lowF t f g = lowL t.op (t.args.drop i) i f g, fun i => t.args.length - i, 0, ⟨Nat.zero_le _, hF⟩, ⟨rfl, rfl, rfl, rfl, trivial⟩, StLe.refl _, fun _ _ => ⟨rfl, rfl⟩, ?_⟩
 rintro i ⟨hi, hinv⟩
 refine AtIf.mk (fun h1 => ?_) (fun h1 => ?_)
 ·simp only [decide_eq_true_eq, hlen] at h1
  obtain ⟨x, hx⟩ : ∃ x, t.args[i]? = some x := ⟨_, List.getElem?_eq_getElem (by omega)⟩
  have hxm := List.mem_of_getElem? hx
  have hxh := qan hxm
  have hu := qbb t.op i
  refine (qgr t a c i).at (by simp) rfl rfl ?_
  rintro r out ⟨rfl, rfl⟩
  refine qd ttOK 0 rfl rfl rfl rfl (by omega) (by rw [Int.toNat_natCast]; exact Tm.encL_get hx) ?_
  intro a1 c1 _ _
  have hw1 : IntKind.i64.wrap (f + under t.op i) = f + under t.op i := wrap_i64 (by omega) (by omega)
  have hw2 : IntKind.i64.wrap (g + under t.op i) = g + under t.op i := wrap_i64 (by omega) (by omega)
  have hsp := ih x hxm (f + under t.op i) (g + under t.op i) a1 c1 (by omega) (by omega) (by omega) (by omega)
  rw [← hw1, ← hw2] at hsp
  refine hsp.at (by simp) rfl rfl ?_
  rintro r out ⟨rfl, rfl⟩
  rw [qah hx, lowL, ← hw1, ← hw2] at hinv
  refine AtIf.mk (fun h2 => ?_) (fun h2 => ?_)
  ·have h2 : lowF x (IntKind.i64.wrap (f + under t.op i)) (IntKind.i64.wrap (g + under t.op i)) = true := h2
   exact AtRet.pure [] rfl (by simp) ⟨by rw [hinv, h2]; rfl, rfl⟩
  ·have h2 : lowF x (IntKind.i64.wrap (f + under t.op i)) (IntKind.i64.wrap (g + under t.op i)) = false := h2
   have hw3 : IntKind.i64.wrap (i + 1) = ((i + 1 : Nat) : Int) := wrap_i64 (by omega) (by omega)
   exact ⟨i + 1, ⟨by omega, by rw [hinv, h2]; rfl⟩, by simp only; omega, ⟨by rw [← hw3]; rfl, rfl, rfl, rfl, trivial⟩, StLe.to _ _ rfl (by simp) rfl rfl⟩
 ·simp only [decide_eq_false_iff_not, hlen] at h1
  rw [List.drop_of_length_le (by omega)] at hinv
  exact AtRet.pure [] rfl (by simp) ⟨by rw [hinv]; rfl, rfl⟩
end

section
open Go.Tr Go Go.Proofs.Tryz
set_option maxRecDepth 10000
theorem nilRep {P : Program} {cl : Cal} {args : List SV} {own : List Blk} {accs : List Acc} {rs : List (Value × D)} {R : Out → St → Prop} (k : Nat) (h : Meets P cl args ⟨own, accs, (.slice none 0 0, .sl k []) :: rs⟩ R) : Meets P cl args ⟨own, accs, rs⟩ R := by
 intro J ℓ w hG hJ
 refine h J ℓ w ⟨hG.len, hG.nodup, hG.lt, hG.memJ, hG.wf, hG.own, hG.accs, ?_⟩ hJ
 intro p hp
 rcases List.mem_cons.1 hp with e | e
 ·subst e
  exact ⟨none, 0, rfl, ⟨Nat.zero_le _, Nat.zero_le _⟩, .inl rfl⟩
 ·exact hG.reps p e
def putF : List Int → Int → List Int
 | [], n => [n]
 | x :: xs, n => if x < n then x :: putF xs n else if x = n then x :: xs else n :: x :: xs
abbrev intsS (l : List Int) (a : OA) (c : Nat) : SV := .v (.slice a l.length c)
abbrev intsR (l : List Int) (a : OA) (c : Nat) : Value × D := (.slice a l.length c, intsD l)
theorem ints_get {l : List Int} {i : Nat} {x : Int} (h : l[i]? = some x) : (l.map (D.int .i64))[i]? = some (.int .i64 x) := by simp [h]
theorem put_spec (l : List Int) (n : Int) (a : OA) (c : Nat) (hl : l.length ≤ 1000000) :
  Pure Tryz.prog (fnS 161) [intsS l a c, iS n] [intsR l a c] (fun r out => ∃ a' c', r = intsS (putF l n) a' c' ∧ out = [intsR (putF l n) a' c']) := by
 refine Meets.nilAcc 1 3 ?_
 refine qb (N := 49) (m := 0) (dt := fun _ => none) [2,4] ttOK Tryz.func161 rfl Tryz.call161 Tryz.ntmps161 rfl rfl rfl mixed (by kernel_rfl) ?_
 refine AtCut.mk ⟨Nat, fun k => [(5, iS k), (0, intsS l a c), (1, iS n)], fun _ => ⟨[], [⟨.slice none 0 0, 1, 3, []⟩], [intsR l a c]⟩,
  fun k => k ≤ l.length ∧ putF l n = l.take k ++ if l[k]? = some n then l.drop k else n :: l.drop k, fun _ _ => ⟨rfl, rfl⟩, ?_, ?_⟩
 ·refine AtLoop.mk ⟨Nat, fun k => [(5, iS k), (0, intsS l a c), (1, iS n)], fun _ => ⟨[], [⟨.slice none 0 0, 1, 3, []⟩], [intsR l a c]⟩,
   fun k => k ≤ l.length ∧ putF l n = l.take k ++ putF (l.drop k) n, fun k => l.length - k, 0, ⟨Nat.zero_le _, rfl⟩, ⟨rfl, rfl, rfl, trivial⟩, StLe.refl _, fun _ _ => ⟨rfl, rfl⟩, ?_⟩
  rintro k ⟨hk, hinv⟩
  refine AtGuard.mk (fun h1 => ?_) (fun h1 => ?_)
  ·have h1 : k < l.length := by simpa using h1
   obtain ⟨x, hx⟩ : ∃ x, l[k]? = some x := ⟨_, List.getElem?_eq_getElem (by omega)⟩
   refine qd ttOK 0 rfl rfl rfl rfl (by omega) (by rw [Int.toNat_natCast]; exact ints_get hx) ?_
   refine AtIf.mk (fun h2 => ?_) (fun h2 => ?_)
   ·have h2 : x < n := by simpa using h2
    have hw3 : IntKind.i64.wrap (k + 1) = ((k + 1 : Nat) : Int) := wrap_i64 (by omega) (by omega)
    refine ⟨k + 1, ⟨by omega, ?_⟩, by simp only; omega, ⟨by rw [← hw3]; rfl, rfl, rfl, trivial⟩, StLe.of rfl (List.Sublist.refl _) (by simp) rfl rfl⟩
    rw [hinv, qah hx, putF, if_pos h2, List.take_add_one, hx]
    simp
   ·have h2 : ¬ x < n := by simpa using h2
    refine ⟨k, ⟨hk, ?_⟩, ⟨rfl, rfl, rfl, trivial⟩, StLe.of rfl (List.Sublist.refl _) (by simp) rfl rfl⟩
    rw [hinv, qah hx, putF, if_neg h2, hx]
    simp
  ·have h1 : ¬ k < l.length := by simpa using h1
   refine AtIf.mk (fun h2 => by cases h2) (fun _ => ?_)
   refine ⟨k, ⟨hk, ?_⟩, ⟨rfl, rfl, rfl, trivial⟩, StLe.refl _⟩
   rw [hinv, List.drop_of_length_le (by omega)]
   simp [putF]
   intro h; have := (List.getElem?_eq_some_iff.1 h).1; omega
 rintro k ⟨hk, hinv⟩
 refine AtCut.mk ⟨Unit, fun _ => [(5, iS k), (0, intsS l a c), (1, iS n)], fun _ => ⟨[], [⟨.slice none 0 0, 1, 3, []⟩], [intsR l a c]⟩, fun _ => putF l n = l.take k ++ n :: l.drop k, fun _ _ => ⟨rfl, rfl⟩, ?_, ?_⟩
 ·refine AtGuard.mk (fun h1 => ?_) (fun h1 => ?_)
  ·have h1 : k < l.length := by simpa using h1
   obtain ⟨x, hx⟩ : ∃ x, l[k]? = some x := ⟨_, List.getElem?_eq_getElem (by omega)⟩
   refine qd ttOK 0 rfl rfl rfl rfl (by omega) (by rw [Int.toNat_natCast]; exact ints_get hx) ?_
   rw [hx] at hinv
   refine AtIf.mk (fun h4 => ?_) (fun h4 => ?_)
   ·have h4 : x = n := by simpa using h4
    subst h4
    rw [if_pos rfl, List.take_append_drop] at hinv
    rw [hinv]
    exact AtRet.pure [intsR l a c] rfl (by simp) ⟨a, c, rfl, rfl⟩
   ·have h4 : ¬ x = n := by simpa using h4
    rw [if_neg (by simpa using h4)] at hinv
    exact ⟨(), hinv, ⟨rfl, rfl, rfl, trivial⟩, StLe.of rfl (List.Sublist.refl _) (by simp) rfl rfl⟩
  ·have h1 : ¬ k < l.length := by simpa using h1
   have hlk : l[k]? = none := List.getElem?_eq_none_iff.2 (by omega)
   rw [hlk, if_neg (by simp)] at hinv
   refine AtIf.mk (fun h2 => by cases h2) (fun _ => ?_)
   exact ⟨(), hinv, ⟨rfl, rfl, rfl, trivial⟩, StLe.refl _⟩
 intro _ hres
 have hml : (l.map (D.int .i64)).length = l.length := List.length_map ..
 refine qly ttOK 0 0 k rfl rfl rfl rfl rfl (by omega) (by omega) ?_
 intro a1 c1 _
 refine qdd ttOK 8 0 1 rfl (by kernel_rfl) rfl rfl rfl rfl (by simp; omega) (by simp; omega) ?_
 intro a2 c2
 refine qep ttOK 8 [.int .i64 n] rfl (by kernel_rfl) ⟨⟨rfl, rfl, rfl, rfl⟩, trivial⟩ rfl (by decide) (by decide) ?_
 intro a3
 refine qdd ttOK 8 0 2 rfl (by kernel_rfl) rfl rfl rfl rfl (by simp; omega) (by simp; omega) ?_
 intro a4 c4
 refine qly ttOK 0 k l.length rfl rfl rfl rfl rfl (by omega) (by omega) ?_
 intro a5 c5 _
 refine qdd ttOK 8 0 3 rfl (by kernel_rfl) rfl rfl rfl rfl (by simp; omega) (by simp; omega) ?_
 intro a6 c6
 have hds : (([] ++ ((l.map (D.int .i64)).take k).drop 0) ++ [D.int .i64 n]) ++ ((l.map (D.int .i64)).take l.length).drop k = (putF l n).map (D.int .i64) := by
  rw [hres, List.take_of_length_le (by omega : (l.map (D.int .i64)).length ≤ l.length)]
  simp [List.map_take, List.map_drop]
 have hln : (([] ++ ((l.map (D.int .i64)).take k).drop 0) ++ [D.int .i64 n]).length + (((l.map (D.int .i64)).take l.length).drop k).length = (putF l n).length := by
  rw [← List.length_append, hds, List.length_map]
 refine qfl [(intsR (putF l n) a6 c6)] rfl (fun p hp => .inr ?_) ⟨a6, c6, ?_, rfl⟩
 ·simp only [List.mem_singleton] at hp
  subst hp
  refine ⟨_, List.mem_singleton.2 rfl, ?_⟩
  simp only [hds, hln]
 ·simp only [hln]
mutual
def headsF (hd : Int) : Tm → Int → List Int → List Int
 | .mk o h n us, k, l => headsL hd o us 0 k (if o = 4 ∧ h = hd then (if hd ≠ 1 then putF l n else if n ≥ k then putF l (IntKind.i64.wrap (n - k)) else l) else l)
def headsL (hd : Int) : Int → List Tm → Nat → Int → List Int → List Int
 | _, [], _, _, l => l
 | o, u :: us, i, k, l => headsL hd o us (i + 1) k (headsF hd u (k + under o i) l)
 end
theorem headsF_eq (hd : Int) (t : Tm) (k : Int) (l : List Int) : headsF hd t k l = headsL hd t.op t.args 0 k (if t.op = 4 ∧ t.hd = hd then (if hd ≠ 1 then putF l t.n else if t.n ≥ k then putF l (IntKind.i64.wrap (t.n - k)) else l) else l) := by cases t; rfl
theorem qcv : ∀ (l : List Int) (n : Int), (putF l n).length ≤ l.length + 1
 | [], n => by simp [putF]
 | x :: xs, n => by
  simp only [putF]
  split
  ·have := qcv xs n; simp; omega
  ·split <;> simp
mutual
theorem qcn (hd : Int) : ∀ (t : Tm) (k : Int) (l : List Int), (headsF hd t k l).length ≤ l.length + t.count
 | .mk o h n us, k, l => by
  simp only [headsF, Tm.count]
  refine Nat.le_trans (qgk hd o us 0 k _) ?_
  have h1 := qcv l n
  have h2 := qcv l (IntKind.i64.wrap (n - k))
  split
  ·split
   ·omega
   ·split <;> omega
  ·omega
theorem qgk (hd : Int) : ∀ (o : Int) (us : List Tm) (i : Nat) (k : Int) (l : List Int), (headsL hd o us i k l).length ≤ l.length + qn us
 | o, [], i, k, l => by simp [headsL, qn]
 | o, u :: us, i, k, l => by
  simp only [headsL, qn]
  have h1 := qgk hd o us (i + 1) k (headsF hd u (k + under o i) l)
  have h2 := qcn hd u (k + under o i) l
  omega
 end
theorem qnm {t x : Tm} {i : Nat} (h : t.args[i]? = some x) : x.count + qn (t.args.drop (i + 1)) = qn (t.args.drop i) := by
 rw [qah h]; rfl
theorem qai (t : Tm) : t.count = qn t.args + 1 := by cases t; rfl
theorem heads_spec (hd : Int) (t : Tm) : ∀ (k : Int) (l : List Int) (a a1 : OA) (c c1 : Nat), 0 ≤ k → k + t.height ≤ 1000000 → l.length + t.count ≤ 1000000 →
  Pure Tryz.prog (fnS 116) [tmS t a c, iS hd, iS k, intsS l a1 c1] [tmR t a c, intsR l a1 c1] (fun r out => ∃ a' c', r = intsS (headsF hd t k l) a' c' ∧ out = [intsR (headsF hd t k l) a' c']) := by
 induction t using Tm.ind with
 | h t ih =>
 intro k l a a1 c c1 hk0 hk1 hl
 refine qv fun hok => ?_
 have hB : (Tm.encL t.args).length ≤ 1152921504606846976 := (hok _ (List.mem_cons_self ..)).1
 have hlen := Tm.encL_length t.args
 have hth := qaf t
 have htc := qai t
 have hF := headsF_eq hd t k l
 refine qb (N := 56) (m := 0) (dt := drawsOf [(9, .node [0, 1, 2, 3, 4, 5, 6, 7, 8, 11] [(9, .node [10] [(12, .leaf [13])])], [12], [])]) [1] ttOK Tryz.func116 rfl Tryz.call116 Tryz.ntmps116 rfl rfl rfl mixed (by kernel_rfl) ?_
 refine AtCut.mk ⟨List Int × Option Addr × Nat, fun x => [(3, intsS x.1 x.2.1 x.2.2), (4, .loc 0 0), (1, iS hd), (2, iS k)], fun x => ⟨[.cells 47 [iS t.op, iS t.hd, iS t.n, .v (.slice a (Tm.encL t.args).length c)]], [], [tmR t a c, intsR x.1 x.2.1 x.2.2]⟩,
  fun x => x.1.length ≤ l.length + 1 ∧ headsF hd t k l = headsL hd t.op t.args 0 k x.1, fun _ _ => ⟨rfl, rfl⟩, ?_, ?_⟩
 ·refine AtIf.mk (fun h1 => ?_) (fun h1 => ?_)
  ·have h1 : t.op = 4 ∧ t.hd = hd := by simpa using h1
   rw [if_pos h1] at hF
   refine AtIf.mk (fun h2 => ?_) (fun h2 => ?_)
   ·have h2 : hd ≠ 1 := by simpa using h2
    rw [if_pos h2] at hF
    refine (put_spec l t.n a1 c1 (by omega)).at (by simp) rfl rfl ?_
    rintro r out ⟨a', c', rfl, rfl⟩
    have hpl := qcv l t.n
    exact ⟨(putF l t.n, a', c'), ⟨hpl, hF⟩, ⟨rfl, rfl, rfl, rfl, trivial⟩, StLe.to _ _ rfl (by simp) rfl rfl⟩
   ·have h2 : ¬ hd ≠ 1 := by simpa using h2
    rw [if_neg h2] at hF
    refine AtIf.mk (fun h3 => ?_) (fun h3 => ?_)
    ·have h3 : t.n ≥ k := by simpa using h3
     rw [if_pos h3] at hF
     refine (put_spec l (IntKind.i64.wrap (t.n - k)) a1 c1 (by omega)).at (by simp) rfl rfl ?_
     rintro r out ⟨a', c', rfl, rfl⟩
     have hpl := qcv l (IntKind.i64.wrap (t.n - k))
     exact ⟨(putF l (IntKind.i64.wrap (t.n - k)), a', c'), ⟨hpl, hF⟩, ⟨rfl, rfl, rfl, rfl, trivial⟩, StLe.to _ _ rfl (by simp) rfl rfl⟩
    ·have h3 : ¬ t.n ≥ k := by simpa using h3
     rw [if_neg h3] at hF
     exact ⟨(l, a1, c1), ⟨by simp, hF⟩, ⟨rfl, rfl, rfl, rfl, trivial⟩, StLe.to _ _ rfl (by simp) rfl rfl⟩
  ·have h1 : ¬ (t.op = 4 ∧ t.hd = hd) := by
    intro hh
    simp [hh.1, hh.2] at h1
   rw [if_neg h1] at hF
   exact ⟨(l, a1, c1), ⟨by simp, hF⟩, ⟨rfl, rfl, rfl, rfl, trivial⟩, StLe.to _ _ rfl (by simp) rfl rfl⟩
 rintro ⟨l1, a3, c3⟩ ⟨hl1, hF1⟩
 simp only at hl1 hF1 ⊢
 refine AtLoop.mk ⟨Nat × List Int × Option Addr × Nat, fun x => [(9, iS x.1), (3, intsS x.2.1 x.2.2.1 x.2.2.2), (4, .loc 0 0), (1, iS hd), (2, iS k)], fun x => ⟨[.cells 47 [iS t.op, iS t.hd, iS t.n, .v (.slice a (Tm.encL t.args).length c)]], [], [tmR t a c, intsR x.2.1 x.2.2.1 x.2.2.2]⟩,
  fun x => x.1 ≤ t.args.length ∧ x.2.1.length + qn (t.args.drop x.1) ≤ 1000000 ∧ headsF hd t k l = headsL hd t.op (t.args.drop x.1) x.1 k x.2.1, fun x => t.args.length - x.1, (0, l1, a3, c3), ⟨Nat.zero_le _, by simp only [List.drop_zero]; omega, hF1⟩, ⟨rfl, rfl, rfl, rfl, rfl, trivial⟩, StLe.refl _, fun _ _ => ⟨rfl, rfl⟩, ?_⟩
 rintro ⟨i, l2, a4, c4⟩ ⟨hi, hll, hinv⟩
 simp only at hi hll hinv ⊢
 refine AtIf.mk (fun h1 => ?_) (fun h1 => ?_)
 ·simp only [decide_eq_true_eq, hlen] at h1
  obtain ⟨x, hx⟩ : ∃ x, t.args[i]? = some x := ⟨_, List.getElem?_eq_getElem (by omega)⟩
  have hxm := List.mem_of_getElem? hx
  have hxh := qan hxm
  have hxc := qnm hx
  have hu := qbb t.op i
  refine qd ttOK 0 rfl rfl rfl rfl (by omega) (by rw [Int.toNat_natCast]; exact Tm.encL_get hx) ?_
  intro a5 c5 _ _
  refine (qgr t a c i).at (by simp) rfl rfl ?_
  rintro r out ⟨rfl, rfl⟩
  refine ⟨fun _ _ h => h, ?_⟩
  have hw1 : IntKind.i64.wrap (k + under t.op i) = k + under t.op i := wrap_i64 (by omega) (by omega)
  have hsp := ih x hxm (k + under t.op i) l2 a5 a4 c5 c4 (by omega) (by omega) (by omega)
  rw [← hw1] at hsp
  refine hsp.at (by simp) rfl rfl ?_
  rintro r out ⟨a6, c6, rfl, rfl⟩
  rw [qah hx, headsL, ← hw1] at hinv
  have hhl := qcn hd x (IntKind.i64.wrap (k + under t.op i)) l2
  have hw3 : IntKind.i64.wrap (i + 1) = ((i + 1 : Nat) : Int) := wrap_i64 (by omega) (by omega)
  exact ⟨(i + 1, headsF hd x (IntKind.i64.wrap (k + under t.op i)) l2, a6, c6), ⟨by omega, by simp only; omega, hinv⟩, by simp only; omega, ⟨by rw [← hw3]; rfl, rfl, rfl, rfl, rfl, trivial⟩, StLe.to _ _ rfl (by simp) rfl rfl⟩
 ·simp only [decide_eq_false_iff_not, hlen] at h1
  rw [List.drop_of_length_le (by omega)] at hinv
  refine AtRet.pure [intsR l2 a4 c4] rfl (by simp) ⟨a4, c4, ?_⟩
  rw [hinv]
  exact ⟨rfl, rfl⟩
end

section
open Go.Tr Go Go.Proofs.Tryz
set_option maxRecDepth 10000
theorem Tm.enc_eq (t : Tm) : t.enc = .agg [.int .i64 t.op, .int .i64 t.hd, .int .i64 t.n, .sl 4 (Tm.encL t.args)] := by cases t; rfl
theorem RepS_tm {reps : List (Value × D)} {t : Tm} {a : Option Addr} {c : Nat} (h : tmR t a c ∈ reps) : RepS reps t.enc (cellsOf (tmS t a c)) := by
 rw [Tm.enc_eq]
 exact ⟨[iS t.op], _, rfl, rfl, [iS t.hd], _, rfl, rfl, [iS t.n], _, rfl, rfl, [.v (.slice a (Tm.encL t.args).length c)], [], rfl, .inl ⟨_, rfl, h⟩, rfl⟩
theorem qmv (l : List Tm) (t : Tm) : Tm.encL (l ++ [t]) = Tm.encL l ++ [t.enc] := by simp [Tm.encL_eq]
mutual
def movedF : Tm → Int → Int → Tm
 | .mk o h n us, by_, f => .mk o h (if (o = 4 ∧ h = 1) ∧ n ≥ f then IntKind.i64.wrap (n + by_) else n) (movedL o us 0 by_ f)
def movedL : Int → List Tm → Nat → Int → Int → List Tm
 | _, [], _, _, _ => []
 | o, u :: us, i, by_, f => movedF u by_ (f + under o i) :: movedL o us (i + 1) by_ f
 end
theorem movedF_eq (t : Tm) (by_ f : Int) : movedF t by_ f = .mk t.op t.hd (if (t.op = 4 ∧ t.hd = 1) ∧ t.n ≥ f then IntKind.i64.wrap (t.n + by_) else t.n) (movedL t.op t.args 0 by_ f) := by cases t; rfl
theorem qh9 : ∀ (us : List Tm) (i : Nat), qn (us.drop i) ≤ qn us
 | us, 0 => by simp
 | [], i + 1 => by simp
 | u :: us, i + 1 => by
  have := qh9 us i
  simp only [List.drop_succ_cons, qn]
  omega
theorem moved_spec (t : Tm) (b : Int) : ∀ (f : Int) (a : OA) (c : Nat), 0 ≤ f → f + t.height ≤ 1000000 → t.count ≤ 1000000 → Pure Tryz.prog (fnS 205) [tmS t a c, iS b, iS f] [tmR t a c] (fun r out => ∃ a' c', r = tmS (movedF t b f) a' c' ∧ out = [tmR (movedF t b f) a' c']) := by
 induction t using Tm.ind with
 | h t ih =>
 intro f a c hf0 hf1 hct
 refine qv fun hok => ?_
 have hB : (Tm.encL t.args).length ≤ 1152921504606846976 := (hok _ (List.mem_cons_self ..)).1
 have hlen := Tm.encL_length t.args
 have hth := qaf t
 have htc := qai t
 have hF := movedF_eq t b f
 have hcl : ∀ us : List Tm, us.length ≤ qn us := by
  intro us
  induction us with
  | nil => simp
  | cons u us ih => have := qx u; simp only [List.length_cons, qn]; omega
 have hcl := hcl t.args
 refine Meets.nilAcc 4 47 ?_
 refine qb (N := 55) (m := 0) (dt := drawsOf [(8, .node [0, 1, 2, 3, 4, 5, 6, 7, 8, 9, 10] [(11, .node [12] [(13, .node [] [(14, .node [] [(15, .node [16] [(17, .leaf [])])])])])], [15, 17], [])]) [3] ttOK Tryz.func205 rfl Tryz.call205 Tryz.ntmps205 rfl rfl rfl mixed (by kernel_rfl) ?_
 refine AtCut.mk ⟨Unit, fun _ => [(3, .loc 0 0), (6, .loc 1 0), (7, .loc 2 0), (1, iS b), (2, iS f)],
  fun _ => ⟨[.cells 47 [iS t.op, iS t.hd, iS t.n, .v (.slice a (Tm.encL t.args).length c)], .cells 47 [iS 0, iS 0, iS 0, .v (.slice none 0 0)], .cells 47 [iS t.op, iS t.hd, iS (movedF t b f).n, .v (.slice none 0 0)]], [⟨.slice none 0 0, 4, 47, []⟩], [tmR t a c]⟩, fun _ => True, fun _ _ => ⟨rfl, rfl⟩, ?_, ?_⟩
 ·refine AtIf.mk (fun h1 => ?_) (fun h1 => ?_)
  ·have h1 : (t.op = 4 ∧ t.hd = 1) ∧ t.n ≥ f := by simpa using h1
   have hn : (movedF t b f).n = IntKind.i64.wrap (t.n + b) := by rw [hF, if_pos h1]; rfl
   exact ⟨(), trivial, ⟨rfl, rfl, rfl, rfl, rfl, trivial⟩, StLe.of (by rw [hn]; rfl) (List.Sublist.refl _) (by simp) rfl rfl⟩
  ·have h1 : ¬ ((t.op = 4 ∧ t.hd = 1) ∧ t.n ≥ f) := by
    intro hh
    simp [hh.1.1, hh.1.2, hh.2] at h1
   have hn : (movedF t b f).n = t.n := by rw [hF, if_neg h1]; rfl
   exact ⟨(), trivial, ⟨rfl, rfl, rfl, rfl, rfl, trivial⟩, StLe.of (by rw [hn]; rfl) (List.Sublist.refl _) (by simp) rfl rfl⟩
 intro _ _
 refine AtLoop.mk ⟨Nat × List Tm × Option Addr × Nat, fun x => [(8, iS x.1), (3, .loc 0 0), (6, .loc 1 0), (7, .loc 2 0), (1, iS b), (2, iS f)],
  fun x => ⟨[.cells 47 [iS t.op, iS t.hd, iS t.n, .v (.slice a (Tm.encL t.args).length c)], .cells 47 [iS 0, iS 0, iS 0, .v (.slice none 0 0)], .cells 47 [iS t.op, iS t.hd, iS (movedF t b f).n, .v (.slice x.2.2.1 (Tm.encL x.2.1).length x.2.2.2)]], [⟨.slice x.2.2.1 (Tm.encL x.2.1).length x.2.2.2, 4, 47, Tm.encL x.2.1⟩], [tmR t a c]⟩,
  fun x => x.1 ≤ t.args.length ∧ x.2.1.length = x.1 ∧ movedL t.op t.args 0 b f = x.2.1 ++ movedL t.op (t.args.drop x.1) x.1 b f, fun x => t.args.length - x.1, (0, [], none, 0), ⟨Nat.zero_le _, rfl, rfl⟩, ⟨rfl, rfl, rfl, rfl, rfl, rfl, trivial⟩, StLe.refl _, fun _ _ => ⟨rfl, rfl⟩, ?_⟩
 rintro ⟨i, done, a2, c2⟩ ⟨hi, hdl, hinv⟩
 simp only at hi hdl hinv ⊢
 have hdle := Tm.encL_length done
 refine AtIf.mk (fun h1 => ?_) (fun h1 => ?_)
 ·simp only [decide_eq_true_eq, hlen] at h1
  obtain ⟨x, hx⟩ : ∃ x, t.args[i]? = some x := ⟨_, List.getElem?_eq_getElem (by omega)⟩
  have hxm := List.mem_of_getElem? hx
  have hxh := qan hxm
  have hxc : x.count ≤ 1000000 := by
   have h2 := qnm hx
   have h3 := qh9 t.args i
   omega
  have hu := qbb t.op i
  refine qd ttOK 0 rfl rfl rfl rfl (by omega) (by rw [Int.toNat_natCast]; exact Tm.encL_get hx) ?_
  intro a5 c5 _ _
  refine (qgr t a c i).at (by simp) rfl rfl ?_
  rintro r out ⟨rfl, rfl⟩
  refine ⟨fun _ _ h => h, ?_⟩
  have hw1 : IntKind.i64.wrap (f + under t.op i) = f + under t.op i := wrap_i64 (by omega) (by omega)
  have hsp := ih x hxm (f + under t.op i) a5 c5 (by omega) (by omega) hxc
  rw [← hw1] at hsp
  refine hsp.at (by simp) rfl rfl ?_
  rintro r out ⟨a6, c6, rfl, rfl⟩
  refine ⟨fun _ _ h => h, ?_⟩
  refine qep ttOK 48 [(movedF x b (IntKind.i64.wrap (f + under t.op i))).enc] rfl (by kernel_rfl) ⟨⟨rfl, rfl, rfl, RepS_tm (by simp)⟩, trivial⟩ rfl (by decide) (by decide) ?_
  intro a7
  refine ⟨fun _ _ h => h, ?_⟩
  refine qdd ttOK 48 0 3 rfl (by kernel_rfl) rfl rfl rfl rfl (by simp; omega) (by simp; omega) ?_
  intro a8 c8
  rw [qah hx, movedL, ← hw1] at hinv
  have hw3 : IntKind.i64.wrap (i + 1) = ((i + 1 : Nat) : Int) := wrap_i64 (by omega) (by omega)
  have he : (Tm.encL (done ++ [movedF x b (IntKind.i64.wrap (f + under t.op i))])).length = (Tm.encL done).length + 1 := by simp [Tm.encL_length]
  refine ⟨(i + 1, done ++ [movedF x b (IntKind.i64.wrap (f + under t.op i))], a8, c8), ⟨by omega, by simp [hdl], by rw [hinv]; simp⟩, by simp only; omega, ⟨by rw [← hw3]; rfl, rfl, rfl, rfl, rfl, rfl, trivial⟩, StLe.of ?_ ?_ (by simp) rfl rfl⟩
  ·simp only [he]; rfl
  ·rw [qmv, List.length_append]; exact List.Sublist.refl _
 ·simp only [decide_eq_false_iff_not, hlen] at h1
  rw [List.drop_of_length_le (by omega)] at hinv
  simp only [movedL, List.append_nil] at hinv
  have hm : movedF t b f = .mk t.op t.hd (movedF t b f).n done := by rw [hF, hinv]; rfl
  refine qfl [(.slice a2 (Tm.encL done).length c2, .sl 4 (Tm.encL done))] rfl (fun p hp => .inr ?_) ⟨a2, c2, ?_⟩
  ·simp only [List.mem_singleton] at hp
   subst hp
   exact ⟨_, List.mem_singleton.2 rfl, rfl⟩
  ·rw [hm]
   exact ⟨rfl, rfl⟩
mutual
theorem qg4 : ∀ (t : Tm) (m : Int), 0 ≤ m → nodesF t m = min (t.count : Int) (m + 1)
 | .mk o h n us, m, hm => by
  have := qhb us m 1 (by omega)
  have e := qai (.mk o h n us)
  simp only [Tm.args] at e
  rw [e]
  simp only [nodesF, this]
  split <;> omega
theorem qhb : ∀ (us : List Tm) (m n : Int), n ≤ m + 1 → nodesL us m n = min (n + (qn us : Nat)) (m + 1)
 | [], m, n, h => by simp only [nodesL, qn]; omega
 | u :: us, m, n, h => by
  have hp := qx u
  simp only [nodesL, qn]
  split
  ·have h1 := qg4 u (m - n) (by omega)
   have h2 := qh4 u (m - n) (by omega)
   have h3 := qhb us m (n + nodesF u (m - n)) (by omega)
   rw [h3, h1]
   omega
  ·omega
 end
mutual
theorem qi0 : ∀ (t : Tm) (d : Int), formedF t d = true ↔ okAll t = true ∧ d + t.height ≤ 41
 | .mk o h n us, d => by
  have hl := qjj us (d + 1)
  simp only [formedF, okAll, Tm.height, Bool.and_eq_true]
  by_cases h1 : 40 < d
  ·rw [if_pos h1]
   simp only [Bool.false_eq_true, false_iff]
   omega
  ·rw [if_neg h1, Bool.and_eq_true, hl]
   constructor
   ·rintro ⟨h2, h3, h4⟩
    refine ⟨⟨h2, h3⟩, ?_⟩
    rcases h4 with rfl | h4
    ·simp only [qs]; omega
    ·omega
   ·rintro ⟨⟨h2, h3⟩, h4⟩
    exact ⟨h2, h3, .inr (by omega)⟩
theorem qjj : ∀ (us : List Tm) (d : Int), formedL us d = true ↔ okAllL us = true ∧ (us = [] ∨ d + qs us ≤ 41)
 | [], d => by simp [formedL, okAllL]
 | u :: us, d => by
  have h1 := qi0 u d
  have h2 := qjj us d
  have hq := qt u
  simp only [formedL, okAllL, qs, Bool.and_eq_true, h1, h2, reduceCtorEq, false_or]
  constructor
  ·rintro ⟨⟨h3, h4⟩, h5, h6⟩
   refine ⟨⟨h3, h5⟩, ?_⟩
   rcases h6 with rfl | h6
   ·simp only [qs]; omega
   ·omega
  ·rintro ⟨⟨h3, h5⟩, h6⟩
   exact ⟨⟨h3, by omega⟩, h5, .inr (by omega)⟩
 end
theorem qa9 (t : Tm) : refProper t = isProper t := by
 rw [Bool.eq_iff_iff, qc5, refProper, Bool.and_eq_true, qi0, qg4 t 600 (by omega), decide_eq_true_eq]
 constructor
 ·rintro ⟨h1, h2, h3⟩
  exact ⟨h2, by omega, by omega⟩
 ·rintro ⟨h1, h2, h3⟩
  exact ⟨by omega, h1, by omega⟩
def tm0 : Tm := .mk 0 0 0 []
def shiftF (t : Tm) (b f : Int) : Tm × Int :=
 if isProper t = false ∨ b < -9999 ∨ b > 9999 ∨ f < 0 ∨ f > 9999 then (tm0, 2)
 else if b < 0 ∧ lowF t f (f - b - 1) = true then (tm0, 27)
 else if isProper (movedF t b f) = false then (tm0, 5)
 else (movedF t b f, 0)
theorem qk6 (t : Tm) (b f : Int) (a : OA) (c : Nat) : Pure Tryz.prog (fnS 200) [tmS t a c, iS b, iS f] [tmR t a c] (fun r out => ∃ a' c', r = .tup [tmS (shiftF t b f).1 a' c', iS (shiftF t b f).2] ∧ out = [tmR (shiftF t b f).1 a' c']) := by
 refine nilRep 4 ?_
 refine qb (N := 50) (m := 0) (dt := fun _ => none) [3] ttOK Tryz.func200 rfl Tryz.call200 Tryz.ntmps200 rfl rfl rfl mixed (by kernel_rfl) ?_
 refine (qa2 t a c).at (by simp) rfl rfl ?_
 rintro r out ⟨rfl, rfl⟩
 rw [qa9]
 refine AtIf.mk (fun h1 => ?_) (fun h1 => ?_)
 ·have h1 : isProper t = false ∨ b < -9999 ∨ b > 9999 ∨ f < 0 ∨ f > 9999 := by
   simp only [Bool.or_eq_true, Bool.not_eq_true', decide_eq_true_eq] at h1
   rcases h1 with (((h1 | h1) | h1) | h1) | h1 <;> simp [h1]
  refine AtRet.pure [tmR tm0 none 0] rfl (by simp [tm0, Tm.args, Tm.encL]) ⟨none, 0, ?_⟩
  rw [shiftF, if_pos h1]
  exact ⟨rfl, rfl⟩
 simp only [Bool.or_eq_false_iff, Bool.not_eq_false', decide_eq_false_iff_not] at h1
 obtain ⟨⟨⟨⟨hp, hb1⟩, hb2⟩, hf1⟩, hf2⟩ := h1
 have hno : ¬ (isProper t = false ∨ b < -9999 ∨ b > 9999 ∨ f < 0 ∨ f > 9999) := by
  rw [hp]
  simp only [Bool.true_eq_false, false_or]
  omega
 have hpp := (qc5 t).1 hp
 have hw1 : IntKind.i64.wrap (f - b) = f - b := wrap_i64 (by omega) (by omega)
 have hw2 : IntKind.i64.wrap (f - b - 1) = f - b - 1 := wrap_i64 (by omega) (by omega)
 refine AtCut.mk ⟨Unit, fun _ => [(3, .loc 0 0), (6, .loc 1 0), (1, iS b), (2, iS f)], fun _ => ⟨[.cells 47 [iS t.op, iS t.hd, iS t.n, .v (.slice a (Tm.encL t.args).length c)], .cells 47 [iS 0, iS 0, iS 0, .v (.slice none 0 0)]], [], [(.slice none 0 0, .sl 4 []), tmR t a c]⟩,
  fun _ => ¬ (b < 0 ∧ lowF t f (f - b - 1) = true), fun _ _ => ⟨rfl, rfl⟩, ?_, ?_⟩
 ·refine AtGuard.mk (fun h2 => ?_) (fun h2 => ?_)
  ·have h2 : b < 0 := by simpa using h2
   have hsp := low_spec t f (f - b - 1) a c (by omega) (by omega) (by omega) (by omega)
   rw [← hw2, ← hw1] at hsp
   refine hsp.at (by simp) rfl rfl ?_
   rintro r out ⟨rfl, rfl⟩
   rw [hw1, hw2]
   refine AtIf.mk (fun h3 => ?_) (fun h3 => ?_)
   ·have h3 : b < 0 ∧ lowF t f (f - b - 1) = true := ⟨h2, by simpa [h2] using h3⟩
    refine AtRet.pure [tmR tm0 none 0] rfl (by simp [tm0, Tm.args, Tm.encL]) ⟨none, 0, ?_⟩
    rw [shiftF, if_neg hno, if_pos h3]
    exact ⟨rfl, rfl⟩
   ·refine ⟨(), ?_, ⟨rfl, rfl, rfl, rfl, trivial⟩, StLe.to _ _ rfl (by simp) rfl rfl⟩
    rintro ⟨h4, h5⟩
    simp [h5] at h3
  ·have h2 : ¬ b < 0 := by simpa using h2
   refine AtIf.mk (fun h3 => ?_) (fun h3 => ?_)
   ·simp at h3
   ·exact ⟨(), fun h => h2 h.1, ⟨rfl, rfl, rfl, rfl, trivial⟩, StLe.to _ _ rfl (by simp) rfl rfl⟩
 intro _ hno2
 refine (moved_spec t b f a c (by omega) (by omega) (by omega)).at (by simp) rfl rfl ?_
 rintro r out ⟨a1, c1, rfl, rfl⟩
 refine (qa2 (movedF t b f) a1 c1).at (by simp) rfl rfl ?_
 rintro r out ⟨rfl, rfl⟩
 rw [qa9]
 refine AtIf.mk (fun h3 => ?_) (fun h3 => ?_)
 ·have h3 : isProper (movedF t b f) = false := by simpa using h3
  refine AtRet.pure [tmR tm0 none 0] rfl (by simp [tm0, Tm.args, Tm.encL]) ⟨none, 0, ?_⟩
  rw [shiftF, if_neg hno, if_neg hno2, if_pos h3]
  exact ⟨rfl, rfl⟩
 ·have h3 : isProper (movedF t b f) = true := by simpa using h3
  refine AtRet.pure [tmR (movedF t b f) a1 c1] rfl (by simp) ⟨a1, c1, ?_⟩
  rw [shiftF, if_neg hno, if_neg hno2, if_neg (by simp [h3])]
  exact ⟨rfl, rfl⟩
end
end Go.Proofs.YtogicnodmgdnbaaGreat

namespace Go.Tr
section
open Go
theorem Meets.nilRep {P : Program} {cl : Cal} {args : List SV} {own : List Blk} {accs : List Acc} {rs : List (Value × D)} {R : Out → St → Prop} (k : Nat) (h : Meets P cl args ⟨own, accs, (.slice none 0 0, .sl k []) :: rs⟩ R) : Meets P cl args ⟨own, accs, rs⟩ R := by
 intro J ℓ w hG hJ
 refine h J ℓ w ⟨hG.len, hG.nodup, hG.lt, hG.memJ, hG.wf, hG.own, hG.accs, ?_⟩ hJ
 intro p hp
 rcases List.mem_cons.1 hp with e | e
 ·subst e
  exact ⟨none, 0, rfl, ⟨Nat.zero_le _, Nat.zero_le _⟩, .inl rfl⟩
 ·exact hG.reps p e
theorem qg5 {P : Program} {tt : Tab} (hT : TTOK P tt) {t e : TypeId} {k : Nat} {x ix : SV} {S : St} {K : SV → St → Prop} {b n c : Nat} {i : Int} {kk : IntKind} (hx : x = .v (.slice (some ⟨b, 0, none⟩) n c)) (hi : ix = .v (.int kk i)) (ht : tt t = some (.slice e k))
  (h0 : 0 ≤ i) (hlt : i < n) (h : K (.v (.pointer (some ⟨b, i.toNat * k, none⟩))) S) : AtPure P (fun ℓ => Instr.indexAt t (x.den ℓ) (ix.den ℓ)) S K := by
 subst hx hi
 refine AtPure.val _ rfl (fun ℓ w => ?_) h
 obtain ⟨_, hu, hse⟩ := hT t _ ht
 simp only [Instr.indexAt, SV.den, asIntOf, pure_bind, Sem.run_bind, qk hu, Result.andThen_ok, Sem.run_pure]
 rw [if_pos ⟨h0, hlt⟩]
 simp only [Sem.run_bind, hse, Result.andThen_ok, Sem.run_pure, qbi, Nat.zero_add]
end
end Go.Tr

namespace Go.Proofs.YtogicnodmgdnbaaGreat
section
open Go.Tr Go Go.Proofs.Tryz
set_option maxRecDepth 10000
theorem qfe {t : Tm} (h : okAll t = true) : 0 ≤ t.n ∧ t.n ≤ 9999 := by
 cases t with
 | mk o hd n us =>
  simp only [okAll, Bool.and_eq_true] at h
  have h1 := h.1
  simp only [Tm.n]
  unfold okNode at h1
  split at h1
  ·simp at h1; omega
  ·split at h1
   ·simp at h1; omega
   ·split at h1
    ·simp at h1; omega
    ·split at h1
     ·simp at h1; omega
     ·cases h1
end

section
open Go.Tr Go Go.Proofs.Tryz
set_option maxRecDepth 10000
section
variable (fx : Int) (a : Tm)
end
theorem okL_mem : ∀ {ds : List D} {d : D}, okL ds → d ∈ ds → okD d
 | [], d, _, h => by simp at h
 | e :: ds, d, h, hm => by
  simp only [okL] at h
  rcases List.mem_cons.1 hm with r | r
  ·subst r; exact h.1
  ·exact okL_mem h.2 r
end

section
open Go.Tr Go Go.Proofs.Tryz
set_option maxRecDepth 10000
inductive Od where
 | mk (op n : Int) (parts : List Od)
def Od.op : Od → Int | .mk o _ _ => o
def Od.n : Od → Int | .mk _ n _ => n
def Od.parts : Od → List Od | .mk _ _ p => p
mutual
def Od.enc : Od → D
 | .mk o n p => .agg [.int .i64 o, .int .i64 n, .sl 3 (Od.encL p)]
def Od.encL : List Od → List D
 | [] => []
 | t :: ts => t.enc :: Od.encL ts
 end
theorem Od.encL_eq : ∀ (l : List Od), Od.encL l = l.map Od.enc
 | [] => rfl
 | t :: ts => by simp only [Od.encL, List.map_cons, Od.encL_eq ts]
theorem Od.encL_length (l : List Od) : (Od.encL l).length = l.length := by simp [Od.encL_eq]
theorem Od.encL_get {l : List Od} {i : Nat} {t : Od} (h : l[i]? = some t) : (Od.encL l)[i]? = some (.agg [.int .i64 t.op, .int .i64 t.n, .sl 3 (Od.encL t.parts)]) := by
 rw [Od.encL_eq, List.getElem?_map, h]; cases t; rfl
theorem Od.ind {motive : Od → Prop} (h : ∀ t, (∀ x ∈ t.parts, motive x) → motive t) (t : Od) : motive t := by
 induction t using Od.rec (motive_2 := fun ts => ∀ x ∈ ts, motive x) with
 | nil => rename_i x hx; cases hx
 | cons t ts ih1 ih2 => rename_i x hx; rcases List.mem_cons.1 hx with e | e; (subst e; exact ih1); exact ih2 x e
 | mk op n parts ih => exact h _ ih
end

section
open Go.Tr Go Go.Proofs.Tryz
set_option maxRecDepth 10000
theorem qgy (n v : Int) : ∀ (l : List (Int × Int)) (m : Int), lookI (putI n v l) m = if m = n then some v else lookI l m
 | [], m => by simp only [putI, lookI]
 | (k, u) :: r, m => by
  simp only [putI]
  by_cases h : n = k
  ·subst h
   rw [if_pos rfl]
   simp only [lookI]
   split <;> rfl
  ·rw [if_neg h]
   simp only [lookI, qgy n v r m]
   by_cases h2 : m = k
   ·rw [if_pos h2, if_neg (by omega)]; simp [h2]
   ·rw [if_neg h2]; simp [h2]
structure Rel (st : Nat) (ch : List (Int × Int)) (l : List Int) : Prop where
 len : l.length = st
 none : ∀ y : Nat, y < st → lookI ch y = none → l.getD y 0 = -1
 some : ∀ (y : Nat) (x : Int), y < st → lookI ch y = some x → l.getD y 0 = x ∧ 0 ≤ x
theorem qlr {l : List Int} {i j : Nat} {x : Int} (h : i < l.length) : (l.set i x).getD j 0 = if j = i then x else l.getD j 0 := by
 simp only [List.getD_eq_getElem?_getD, List.getElem?_set]
 by_cases hj : i = j
 ·subst hj; simp [h]
 ·rw [if_neg hj, if_neg (by omega)]
theorem Rel.put {st : Nat} {ch : List (Int × Int)} {l : List Int} (h : Rel st ch l) (y : Nat) (x : Int) (hy : y < st) (hx : 0 ≤ x) : Rel st (putI y x ch) (l.set y x) := by
 have hl := h.len
 refine ⟨by rw [List.length_set, hl], ?_, ?_⟩
 ·intro z hz hn
  rw [qgy] at hn
  split at hn
  ·cases hn
  ·rename_i hne
   rw [qlr (by omega), if_neg (by omega)]
   exact h.none z hz hn
 ·intro z w hz hn
  rw [qgy] at hn
  split at hn
  ·rename_i he
   cases hn
   rw [qlr (by omega), if_pos (by omega)]
   exact ⟨rfl, hx⟩
  ·rename_i hne
   rw [qlr (by omega), if_neg (by omega)]
   exact h.some z w hz hn
section
variable (fx : Int) (a : Tm) (ha : okAll a = true) (hh : a.height ≤ 1000000) (hf0 : 0 ≤ fx) (hf1 : fx ≤ 1000000)
include ha hh
include hf0 hf1
end
end

section
open Go.Tr Go Go.Proofs.Tryz
set_option maxRecDepth 10000
mutual
def fvF : Tm → Int → List Int
 | .mk o h n us, k => (if o = 4 ∧ h = 1 ∧ n ≥ k then [n - k] else []) ++ fvL o us 0 k
def fvL : Int → List Tm → Nat → Int → List Int
 | _, [], _, _ => []
 | o, u :: us, i, k => fvF u (k + under o i) ++ fvL o us (i + 1) k
 end
theorem qfm (x n : Int) : ∀ (l : List Int), x ∈ putF l n ↔ x = n ∨ x ∈ l
 | [] => by simp [putF]
 | y :: l => by
  simp only [putF]
  split
  ·simp only [List.mem_cons, qfm x n l]
   constructor
   ·rintro (h | h | h)
    ·exact .inr (.inl h)
    ·exact .inl h
    ·exact .inr (.inr h)
   ·rintro (h | h | h)
    ·exact .inr (.inl h)
    ·exact .inl h
    ·exact .inr (.inr h)
  ·split
   ·rename_i h1 h2
    subst h2
    simp
   ·simp
theorem qff (n : Int) : ∀ (l : List Int), l.Pairwise (· < ·) → (putF l n).Pairwise (· < ·)
 | [], _ => by simp [putF]
 | y :: l, h => by
  simp only [putF]
  rw [List.pairwise_cons] at h
  split
  ·rename_i h1
   rw [List.pairwise_cons]
   refine ⟨?_, qff n l h.2⟩
   intro z hz
   rw [qfm] at hz
   rcases hz with rfl | hz
   ·exact h1
   ·exact h.1 z hz
  ·split
   ·rw [List.pairwise_cons]; exact h
   ·rename_i h1 h2
    rw [List.pairwise_cons, List.pairwise_cons]
    refine ⟨?_, h⟩
    intro z hz
    rcases List.mem_cons.1 hz with rfl | hz
    ·omega
    ·have := h.1 z hz; omega
mutual
theorem qnc (x : Int) : ∀ (t : Tm) (k : Int) (l : List Int), okAll t = true → 0 ≤ k → k + t.height ≤ 1000000 → (x ∈ headsF 1 t k l ↔ x ∈ l ∨ x ∈ fvF t k)
 | .mk o h n us, k, l, hok, hk0, hk1 => by
  have hn := qfe hok
  simp only [Tm.n] at hn
  have hus : okAllL us = true := by simp only [okAll, Bool.and_eq_true] at hok; exact hok.2
  have hth : qs us + 1 = (Tm.mk o h n us).height := by simp only [Tm.height]
  have w1 : IntKind.i64.wrap (n - k) = n - k := wrap_i64 (by omega) (by omega)
  simp only [headsF, fvF, w1, List.mem_append]
  rw [qkm x o us 0 k _ hus hk0 (by omega)]
  by_cases h1 : o = 4 ∧ h = 1
  ·rw [if_pos h1, if_neg (by simp)]
   by_cases h2 : n ≥ k
   ·rw [if_pos h2, if_pos ⟨h1.1, h1.2, h2⟩, qfm]
    simp only [List.mem_singleton, or_assoc]
    constructor
    ·rintro (h | h | h)
     ·exact .inr (.inl h)
     ·exact .inl h
     ·exact .inr (.inr h)
    ·rintro (h | h | h)
     ·exact .inr (.inl h)
     ·exact .inl h
     ·exact .inr (.inr h)
   ·rw [if_neg h2, if_neg (fun h => h2 h.2.2)]
    simp
  ·rw [if_neg h1, if_neg (fun h => h1 ⟨h.1, h.2.1⟩)]
   simp
theorem qkm (x : Int) : ∀ (o : Int) (us : List Tm) (i : Nat) (k : Int) (l : List Int), okAllL us = true → 0 ≤ k → k + 1 + qs us ≤ 1000000 → (x ∈ headsL 1 o us i k l ↔ x ∈ l ∨ x ∈ fvL o us i k)
 | o, [], i, k, l, _, _, _ => by simp [headsL, fvL]
 | o, u :: us, i, k, l, hok, hk0, hk1 => by
  simp only [okAllL, Bool.and_eq_true] at hok
  simp only [qs] at hk1
  have hu := qbb o i
  simp only [headsL, fvL, List.mem_append]
  rw [qkm x o us (i + 1) k _ hok.2 hk0 (by omega), qnc x u _ l hok.1 (by omega) (by omega), or_assoc]
 end
theorem qnd (x n : Int) (v : Value) : ∀ (l : List (Int × Value)), x ∈ (putAt n v l).map (·.1) ↔ x = n ∨ x ∈ l.map (·.1)
 | [] => by simp [putAt]
 | (k, u) :: r => by
  simp only [putAt]
  split
  ·rename_i h
   subst h
   simp
  ·simp only [List.map_cons, List.mem_cons, qnd x n v r]
   constructor
   ·rintro (h | h | h)
    ·exact .inr (.inl h)
    ·exact .inl h
    ·exact .inr (.inr h)
   ·rintro (h | h | h)
    ·exact .inr (.inl h)
    ·exact .inl h
    ·exact .inr (.inr h)
theorem qos (o h n : Int) (us : List Tm) (k : Int) (l : List (Int × Value)) : noteStep freeOf l (.mk o h n us) k = if o = 4 ∧ h = 1 ∧ k ≤ n then putAt (IntKind.i64.wrap (n - k)) (.bool true) l else l := by
 have hc : ((Tm.mk o h n us).op = 4 ∧ (freeOf (.mk o h n us) k).2 = true) ↔ (o = 4 ∧ h = 1 ∧ k ≤ n) := by
  simp [freeOf, Tm.op, Tm.hd, Tm.n]
  intro _ _
  exact decide_eq_true_iff
 rw [noteStep]
 by_cases h1 : o = 4 ∧ h = 1 ∧ k ≤ n
 ·rw [if_pos h1, if_pos (hc.2 h1)]; rfl
 ·rw [if_neg h1, if_neg (fun h => h1 (hc.1 h))]
mutual
theorem qla (x : Int) : ∀ (t : Tm) (k : Int) (l : List (Int × Value)), okAll t = true → 0 ≤ k → k + t.height ≤ 1000000 → (x ∈ (walkF (noteStep freeOf) t l k).map (·.1) ↔ x ∈ l.map (·.1) ∨ x ∈ fvF t k)
 | .mk o h n us, k, l, hok, hk0, hk1 => by
  have hn := qfe hok
  simp only [Tm.n] at hn
  have hus : okAllL us = true := by simp only [okAll, Bool.and_eq_true] at hok; exact hok.2
  have hth : qs us + 1 = (Tm.mk o h n us).height := by simp only [Tm.height]
  have w1 : IntKind.i64.wrap (n - k) = n - k := wrap_i64 (by omega) (by omega)
  simp only [walkF, fvF, List.mem_append]
  rw [qm3 x o us 0 k _ hus hk0 (by omega)]
  rw [qos, w1]
  have hge : (o = 4 ∧ h = 1 ∧ n ≥ k) = (o = 4 ∧ h = 1 ∧ k ≤ n) := rfl
  simp only [hge]
  by_cases h1 : o = 4 ∧ h = 1 ∧ k ≤ n
  ·rw [if_pos h1, if_pos h1, qnd]
   simp only [List.mem_singleton, or_assoc]
   constructor
   ·rintro (h | h | h)
    ·exact .inr (.inl h)
    ·exact .inl h
    ·exact .inr (.inr h)
   ·rintro (h | h | h)
    ·exact .inr (.inl h)
    ·exact .inl h
    ·exact .inr (.inr h)
  ·rw [if_neg h1, if_neg h1]
   simp
theorem qm3 (x : Int) : ∀ (o : Int) (us : List Tm) (i : Nat) (k : Int) (l : List (Int × Value)), okAllL us = true → 0 ≤ k → k + 1 + qs us ≤ 1000000 → (x ∈ (walkL (noteStep freeOf) o us i l k).map (·.1) ↔ x ∈ l.map (·.1) ∨ x ∈ fvL o us i k)
 | o, [], i, k, l, _, _, _ => by simp [walkL, fvL]
 | o, u :: us, i, k, l, hok, hk0, hk1 => by
  simp only [okAllL, Bool.and_eq_true] at hok
  simp only [qs] at hk1
  have hu := qbb o i
  simp only [walkL, fvL, List.mem_append]
  rw [qm3 x o us (i + 1) k _ hok.2 hk0 (by omega), qla x u _ l hok.1 (by omega) (by omega), or_assoc]
 end
theorem qk0 (x : Int) (l : List Int) : x ∈ sorted l ↔ x ∈ l := by
 simp only [sorted, List.mem_mergeSort]
end
end Go.Proofs.YtogicnodmgdnbaaGreat

namespace Go.Tr
section
open Go
theorem list_of {α : Type} {p : Nat → α → Prop} : ∀ (n : Nat), (∀ i, i < n → ∃ a, p i a) → ∃ l : List α, l.length = n ∧ ∀ i, i < n → ∃ a, l[i]? = some a ∧ p i a
 | 0, _ => ⟨[], rfl, fun i h => by omega⟩
 | n + 1, h => by
  obtain ⟨l, hl, hp⟩ := list_of n (fun i hi => h i (by omega))
  obtain ⟨a, ha⟩ := h n (by omega)
  refine ⟨l ++ [a], by simp [hl], fun i hi => ?_⟩
  by_cases hin : i < n
  ·obtain ⟨b, h1, h2⟩ := hp i hin
   exact ⟨b, by rw [List.getElem?_append_left (by omega)]; exact h1, h2⟩
  ·have : i = n := by omega
   subst this
   exact ⟨a, by rw [List.getElem?_append_right (by omega)]; simp [hl], ha⟩
theorem qf5 {J : Nat → Prop} {w : World} {k : Nat} : ∀ {ds : List D} {cs : List Value}, (∀ (i : Nat) (d : D), ds[i]? = some d → i * k + k ≤ cs.length ∧ RepC J w d ((cs.drop (i * k)).take k)) → RepE J w k ds cs
 | [], _, _ => by simp [RepE]
 | d :: ds, cs, h => by
  simp only [RepE]
  have h0 := h 0 d rfl
  simp only [Nat.zero_mul, Nat.zero_add, List.drop_zero] at h0
  refine ⟨h0.1, h0.2, qf5 fun i e hi => ?_⟩
  have h1 := h (i + 1) e (by simpa using hi)
  rw [Nat.add_mul, Nat.one_mul] at h1
  refine ⟨by rw [List.length_drop]; omega, ?_⟩
  rw [List.drop_drop, Nat.add_comm k]
  exact h1.2
theorem cells_take {w : World} {b off n k : Nat} {c : Array Value} {T : TypeId} {fz : Nat × Nat} {cs : List Value} (hb : w.heap[b]? = some (.cells c T fz)) (h : w.cells? 0 ((⟨b, off, none⟩ : Addr).add n) k = some cs) :
  (k = 0 ∨ n + k ≤ (c.toList.drop off).length) ∧ ((c.toList.drop off).drop n).take k = cs := by
 obtain ⟨_, hl, hc⟩ := World.cells?_some h
 have he : ((c.toList.drop off).drop n).take k = cs := by
  apply List.ext_getElem?
  intro j
  rw [List.getElem?_take]
  by_cases hj : j < k
  ·rw [if_pos hj]
   have := hc j hj
   rw [qbi, qbi] at this
   simp only [World.cell?, hb] at this
   rw [← this]
   simp [List.getElem?_drop, Nat.add_assoc]
  ·rw [if_neg hj, List.getElem?_eq_none (by omega)]
 refine ⟨?_, he⟩
 have := congrArg List.length he
 rw [List.length_take, List.length_drop, hl] at this
 omega
theorem qe5 {H : Type} {P : Program} {e : TypeId} {d : DataW H} {y : Nat} (hy : y ∈ d.weights P e) : ∀ {l : List (DataW H)}, d ∈ l → y ∈ DataW.weightsAll P e l
 | [], h => by simp at h
 | x :: l, h => by
  simp only [DataW.weightsAll, List.mem_append]
  rcases List.mem_cons.1 h with r | r
  ·subst r; exact .inl hy
  ·exact .inr (qe5 hy r)
section
variable {H : Type} {enc : TypeId × Value → H} {P : Program} {W : World}
theorem qkl {t e : TypeId} {k : Nat} (ht : P.underlying t = some (.slice e)) (hk : P.cellsOf e = k) (hk0 : 0 < k) (hby : 1 ≤ P.bytesOf e) {α : Type} (en : α → D) (n : Nat)
  (hel : ∀ m, m < n → ∀ cs x, DataW.trod enc P W 0 (fun _ => true) true m e cs = some x → (∀ y ∈ x.1.weights P e, y ≤ reachBytes) → ∃ a, RepC (fun _ => True) W (en a) cs)
  {cs : List Value} {x : DataW H × List MemPlace} (h : DataW.trod enc P W 0 (fun _ => true) true n t cs = some x) (hw : ∀ y ∈ x.1.weights P t, y ≤ reachBytes) :
  ∃ (l : List α) (a : OA) (c : Nat), cs = [.slice a l.length c] ∧ RepC (fun _ => True) W (.sl k (l.map en)) cs := by
 rcases DataW.trod_slice ht h with ⟨rfl, rfl⟩ | ⟨a, len, cap, elems, rest, m, rfl, rfl, rfl, _, hlc, hcm, hlen, hels, _, _⟩
 ·exact ⟨[], none, 0, rfl, none, 0, rfl, ⟨Nat.le_refl _, Nat.zero_le _⟩, .inl rfl⟩
 simp only [DataW.weights, ht] at hw
 have hsz : len ≤ 1152921504606846976 := by
  have h1 := hw _ (List.mem_cons_self ..)
  simp only [List.length_map, hlen] at h1
  have h2 : len ≤ (len + rest.length) * P.bytesOf e := Nat.le_trans (Nat.le_add_right _ _) (Nat.le_mul_of_pos_right _ hby)
  have h3 : reachBytes = 140737488351232 := rfl
  omega
 have hex : ∀ i, i < len → ∃ b : α, ∃ cs', W.cells? 0 (a.add (i * k)) k = some cs' ∧ RepC (fun _ => True) W (en b) cs' := by
  intro i hi
  have h1 := hels i hi
  rw [hk, List.getElem?_eq_getElem (by omega)] at h1
  obtain ⟨cs', h2, h3⟩ := Option.bind_eq_some_iff.1 h1
  obtain ⟨b, hb⟩ := hel m (by omega) cs' _ h3 (fun y hy => hw y (List.mem_cons_of_mem _ (List.mem_append.2 (.inl (qe5 hy (List.mem_map_of_mem (List.getElem_mem (by omega))))))))
  exact ⟨b, cs', h2, hb⟩
 obtain ⟨l, hl, hp⟩ := list_of len hex
 refine ⟨l, some a, cap, by rw [hl], some a, cap, by rw [List.length_map, hl], ⟨by rw [List.length_map, hl]; exact hlc, by rw [List.length_map, hl]; exact hsz⟩, ?_⟩
 by_cases hz : len = 0
 ·left
  have : l = [] := List.eq_nil_of_length_eq_zero (by omega)
  rw [this]; rfl
 right
 -- the block
 obtain ⟨b0, _, cs0, h0, _⟩ := hp 0 (by omega)
 obtain ⟨_, hl0, hc0⟩ := World.cells?_some h0
 have hc := hc0 0 hk0
 rw [List.getElem?_eq_getElem (by omega)] at hc
 have ha0 : (a.add (0 * k)).add 0 = a := by simp [Addr.add]
 rw [ha0] at hc
 simp only [World.cell?] at hc
 split at hc
 ·rename_i c T fz hb
  split at hc
  ·cases hc
  ·rename_i hs
   have hsp : a.spot = none := by cases hq : a.spot with | none => rfl | some v => simp [hq] at hs
   obtain ⟨bk, off, sp⟩ := a
   simp only at hsp
   subst hsp
   refine ⟨bk, off, c, T, fz, rfl, trivial, hb, qf5 fun i d hi => ?_⟩
   rw [List.getElem?_map] at hi
   have hil : i < len := by
    rcases Nat.lt_or_ge i len with h1 | h1
    ·exact h1
    ·rw [List.getElem?_eq_none (by omega)] at hi; cases hi
   obtain ⟨b', h1, cs', h2, h3⟩ := hp i hil
   rw [h1] at hi
   cases hi
   obtain ⟨h4, h5⟩ := cells_take hb h2
   rw [h5]
   exact ⟨by omega, h3⟩
 ·cases hc
theorem qka {W W' : World} (h : Ext [] W W') (may : MemPlace → Prop) : W.keptBut W' may := by
 refine ⟨h.os, h.output, fun i hi => ?_⟩
 rw [h.block i hi (by simp)]
 exact (World.keptBut_refl W may).2.2 i hi
theorem ql0 {W W' : World} (h : Ext [] W W') {a : Addr} (ha : a.block < W.heap.size) : W'.frozen? a = W.frozen? a := by
 simp only [World.frozen?, h.block a.block ha (by simp)]
theorem qlx {W W' : World} (h : Ext [] W W') {p : MemPlace} (hp : p.block < W.heap.size) : W.sameAt W' p := by
 cases p with
 | cell b off =>
  simp only [World.sameAt, World.cell?]
  rw [h.block b hp (by simp)]
 | map b => exact h.block b hp (by simp)
theorem qf0 {W' : World} {base : Nat} {spare : Nat → Bool} {held : Bool} : ∀ {ts : List TypeId} {vs : List Value} {ds : List (DataW H)} {ps : List MemPlace}, DataW.TrodAll enc P W base spare held ts vs ds ps → (∀ p ∈ ps, W.sameAt W' p) → DataW.TrodAll enc P W' base spare held ts vs ds ps
 | [], [], [], _, h, _ => h
 | _ :: _, _ :: _, _ :: _, _, ⟨p, q, ⟨n, h1⟩, h2, e⟩, hs => ⟨p, q, ⟨n, DataW.trod_carry n _ _ _ h1 (fun x hx => hs x (by rw [e]; exact List.mem_append_left _ hx))⟩, qf0 h2 (fun x hx => hs x (by rw [e]; exact List.mem_append_right _ hx)), e⟩
theorem qjk {base : Nat} {spare : Nat → Bool} {held : Bool} : ∀ {ts : List TypeId} {vs : List Value} {ds : List (DataW H)} {ps : List MemPlace}, DataW.TrodAll enc P W base spare held ts vs ds ps → ds.length = ts.length
 | [], [], [], _, _ => rfl
 | _ :: _, _ :: _, _ :: _, _, ⟨_, _, _, h2, _⟩ => by simp only [List.length_cons, qjk h2]
theorem post_true {f : Func} {s : ChangeSpec} {fresh handsOn again : Bool} {t : TypeId} {W W' : World} {args : Array Value} {ds gs : List (DataW H)} {before : List MemPlace} (K : Kids P (· < P.types.size)) (hz : ∀ t e, t < P.types.size → P.underlying t = some (.slice e) → 0 < P.cellsOf e)
  (hW : DataW.Whole enc P f.params.toList s.vars false W args.toList ds gs before) (hv : s.vars = []) (hT : ∀ t ∈ f.params.toList, t < P.types.size)
  (hs : ∀ ds : List (DataW H), ds.length = f.params.size → s.fn H ds = { results := [.lit (.bool true)], args := ds }) (hr : f.resultTypes = #[t]) (ht : P.underlying t = some .bool) (hx : Ext [] W W') :
  s.post enc P f false fresh handsOn again W args (.bool true) W' := by
 have hW0 := hW
 obtain ⟨p, q, hA, hV, rfl, hfz, hnd⟩ := hW0
 rw [hv] at hV
 obtain ⟨rfl, rfl⟩ := Go.ChangeShapes.trodVars_none hV
 have hlen : (ds ++ ([] : List (DataW H))).length = f.params.size := by
  rw [List.append_nil]
  have := qjk hA
  simpa using this
 have hfn := hs (ds ++ []) hlen
 rw [List.append_nil] at hW
 have hlt : ∀ x ∈ p, x.block < W.heap.size := fun x hx => hW.lt x hx
 have hcar := qf0 hA (fun x hx' => qlx hx (hlt x hx'))
 have hargs : ∀ sp : Nat → Bool, (∀ x ∈ p, sp x.block = true) → DataW.TrodAll enc P W' 0 sp true f.params.toList args.toList ds p := fun sp hsp => hcar.respare K hz hT hsp
 have hres : ∀ (b : Nat) (sp : Nat → Bool) (hd : Bool), DataW.TrodAll enc P W' b sp hd f.resultTypes.toList ((Value.bool true).resultList f.resultTypes.size) [.lit (.bool true)] [] := by
  intro b sp hd
  rw [hr]
  exact trodAll_cons_mk (Go.RowKit.shut_bool ht _) Go.ChangeShapes.trodAll_mk0
 have hok : ∀ (j : Nat) (t' : TypeId) (r : Value), f.resultTypes[j]? = some t' → ((Value.bool true).resultList f.resultTypes.size)[j]? = some r → Value.okWide P W' .any 0 t' r := Go.RowKit.ok_one hr rfl (Go.RowKit.okWide_bool_mk ht _)
 have hold : ∀ x ∈ p, (fun b => decide (b < W.heap.size)) x.block = true := fun x hx => by simpa using hlt x hx
 refine ⟨ds, [], p, [], p, [], by rw [hv]; simpa [hv] using hW, ?_, ?_, ?_, World.keptBut_mono (fun x hx => ⟨hx, .inr (.inl hx)⟩) (qka hx (· ∈ p)), fun _ => ?_⟩
 ·rw [hfn]; exact hres _ _ _
 ·rw [hfn, List.append_nil]; exact hargs _ hold
 ·rw [hfn, hv]; exact rfl
 ·refine ⟨hok, _, [], ([] ++ p) ++ [], ⟨[] ++ p, [], Go.ChangeShapes.trodAll_append (hargs _ (fun _ _ => rfl)) (hres _ _ _), by rw [hv]; exact rfl, rfl, ?_, by intro h; cases h⟩, ?_⟩
  ·intro b off hp
   have hp : MemPlace.cell b off ∈ p := by simpa using hp
   rw [ql0 hx (hlt _ hp)]
   exact hfz b off (by simpa using hp)
  ·intro y hy _
   simpa using hy
end
theorem Pure.calls {P : Program} {f : FuncId} {args : List SV} {rs : List (Value × D)} {R : SV → List (Value × D) → Prop} (h : Pure P (.val (.fn (.func f) [] [])) args rs R) (hc : ∀ ag w, (callFunc f ag).run P w = .ok (.enter f ag) w) {W : World} (hr : ∀ p ∈ rs, Rep (fun _ => True) W p.1 p.2) :
  Calls P f (qc [] args).toArray W (fun e W' => ∃ r out, e = .returned (r.den []) ∧ R r out ∧ Ext [] W W') := by
 have hm : mutS [] (⟨[], [], rs⟩ : St) = [] := rfl
 have hG : Good (fun _ => True) [] ⟨[], [], rs⟩ W := by
  refine ⟨rfl, by simp [hm], by simp [hm], by simp [hm], by simp, by simp, by simp, ?_⟩
  intro p hp
  rw [hm]
  exact (hr p hp).map (fun b _ _ => ⟨⟨trivial, by simp⟩, rfl⟩)
 obtain ⟨nx, h1, h2⟩ := h (fun _ => True) [] W hG (fun _ _ => trivial)
 simp only [Cal.sem, SV.den, qc, Deferred.ofValue, Sem.run_bind, Sem.run_pure, Result.andThen_ok, invoke] at h1
 have h3 := hc (qc [] args).toArray W
 have h4 : nx = .enter f (qc [] args).toArray := by
  have h5 := h1
  simp only [List.append_nil, Array.append_empty, Array.empty_append] at h5
  rw [h3] at h5
  cases h5
  rfl
 subst h4
 refine (callsIn_wide (n := 0)).1 (CallsIn.mono h2 ?_)
 rintro e w' ⟨ℓ', o, S', rfl, _, _, hx, hG', _, r, out, rfl, rfl, hwf, hR⟩
 have hl : ℓ' = [] := by have := hG'.len; simpa using this
 subst hl
 exact ⟨r, out, rfl, hR, hx⟩
end
end Go.Tr

namespace Go.Proofs.YtogicnodmgdnbaaGreat
section
open Go.Tr Go Go.Proofs.Tryz
set_option maxRecDepth 10000
section
variable {H : Type} {enc : TypeId × Value → H} {W : World}
theorem arg_int {base : Nat} {v : Value} {d : DataW H} {p : List MemPlace} (hok : Value.okWide Tryz.prog W .any base 3 v) (h : DataW.Trod enc Tryz.prog W 0 (fun _ => true) true 3 v d p) :
  ∃ n : Int, v = (iS n).den [] ∧ (Lit.int .i64 n).wf = true := by
 obtain ⟨n, rfl, _, _, hwf⟩ := Go.ChangeShapes.open_int Tryz.underlying3 hok h
 exact ⟨n, rfl, hwf⟩
end
end

section
open Go.Tr Go Go.Proofs.Tryz
open Go.ChangeShapes Go.WideShapes Go.ChangeAt Go.RowKit
set_option maxRecDepth 10000
theorem own : ownKnob Tryz.prog.godebug = none := by kernel_rfl
theorem kids : Kids Tryz.prog (· < Tryz.prog.types.size) := kids_rows (by kernel_rfl) (by kernel_rfl)
theorem full : ∀ t e, t < Tryz.prog.types.size → Tryz.prog.underlying t = some (.slice e) → 0 < Tryz.prog.cellsOf e := slices_full_of Tryz.prog (by kernel_rfl)
theorem all_le {l : List Nat} (h : l.all (· ≤ reachBytes) = true) : ∀ y ∈ l, y ≤ reachBytes := fun y hy => by simpa using List.all_eq_true.1 h y hy
section
variable {H : Type} {enc : TypeId × Value → H} {W : World}
end
end
end Go.Proofs.YtogicnodmgdnbaaGreat

namespace Go.Tr
section
open Go
theorem bytes_get (s : ByteArray) (i : Nat) : s[i]? = s.data[i]? := by
 simp [getElem?_def]; rfl
theorem strEq (a b : ByteArray) : (a.toList == b.toList) = decide (a = b) := by
 rw [Bool.eq_iff_iff]
 simp only [ByteArray.toList_eq, beq_iff_eq, decide_eq_true_eq]
 constructor
 ·intro h
  cases a; cases b
  simp only [Array.toList_inj] at h
  subst h; rfl
 ·intro h; rw [h]
theorem strBeq (a b : ByteArray) : (a == b) = decide (a = b) := by
 cases a with | mk a => cases b with | mk b =>
 have h : ((⟨a⟩ : ByteArray) == ⟨b⟩) = (a == b) := by
  first | rfl | simp [BEq.beq]
 rw [h, Bool.eq_iff_iff]; simp
theorem qb8 {P : Program} {tt : Tab} (hT : TTOK P tt) {t : TypeId} {x ix : SV} {S : St} {K : SV → St → Prop} {s : ByteArray} {i : Int} {kk : IntKind} {b : UInt8} (hx : x = .v (.string s)) (hi : ix = .v (.int kk i)) (ht : tt t = some .str) (h0 : 0 ≤ i) (hb : s.data.toList[i.toNat]? = some b)
  (h : K (.v (.int .u8 b.toNat)) S) : AtPure P (fun ℓ => Instr.index t (x.den ℓ) (ix.den ℓ)) S K := by
 subst hx hi
 refine AtPure.val _ rfl (fun ℓ w => ?_) h
 have hu := (hT t _ ht).2
 have hb' : s.data[i.toNat]? = some b := by rw [← Array.getElem?_toList]; exact hb
 simp only [Instr.index, SV.den, asIntOf, pure_bind, Sem.run_bind, qk hu, Result.andThen_ok, if_pos h0, bytes_get, hb', Sem.run_pure]
def entriesS : List (ByteArray × Value) → Nat → List MapEntry
 | [], _ => []
 | (k, v) :: r, i => ⟨.string k, v, i⟩ :: entriesS r (i + 1)
def mapS (l : List (ByteArray × Value)) : Obj := .map (entriesS l 0).toArray l.length
def lookS : List (ByteArray × Value) → ByteArray → Option Value
 | [], _ => none
 | (k, v) :: r, n => if n = k then some v else lookS r n
def putS (n : ByteArray) (v : Value) : List (ByteArray × Value) → List (ByteArray × Value)
 | [] => [(n, v)]
 | (k, u) :: r => if n = k then (k, v) :: r else (k, u) :: putS n v r
theorem qef : ∀ (l l' : List (ByteArray × Value)) (i : Nat), entriesS (l ++ l') i = entriesS l i ++ entriesS l' (i + l.length)
 | [], l', i => by simp [entriesS]
 | (k, v) :: r, l', i => by
  simp only [List.cons_append, entriesS, qef r l', List.length_cons]
  congr 3; omega
theorem qnv (a b : ByteArray) : Instr.sameNow .string (.string a) (.string b) = some (decide (a = b)) := by
 simp only [Instr.sameNow, strBeq]
theorem qh1 (n : ByteArray) : ∀ (l : List (ByteArray × Value)) (i j : Nat), Instr.findNow .string (.string n) (entriesS l i) j =
  some (match l.findIdx? (fun p => n = p.1) with
   | some m => (l[m]?).map (fun p => (j + m, p.2))
   | none => none)
 | [], i, j => by simp [entriesS, Instr.findNow]
 | (k, v) :: r, i, j => by
  simp only [entriesS, Instr.findNow, qnv]
  by_cases h : n = k
  ·subst h; simp [List.findIdx?_cons]
  ·simp only [h, decide_false, qh1 n r (i + 1) (j + 1), List.findIdx?_cons]
   cases hf : r.findIdx? (fun p => n = p.1) with
   | none => simp
   | some m =>
    have e : j + 1 + m = j + (m + 1) := by omega
    simp [e]
theorem qnt (n : ByteArray) : ∀ (l : List (ByteArray × Value)), lookS l n = match l.findIdx? (fun p => n = p.1) with
  | some m => (l[m]?).map (·.2)
  | none => none
 | [] => rfl
 | (k, v) :: r => by
  simp only [lookS, List.findIdx?_cons]
  by_cases h : n = k
  ·subst h; simp
  ·rw [if_neg h, qnt n r]
   simp only [h, decide_false]
   cases hf : r.findIdx? (fun p => n = p.1) with
   | none => simp
   | some m => simp
theorem qme (n : ByteArray) (v : Value) : ∀ (l : List (ByteArray × Value)), l.findIdx? (fun p => n = p.1) = none → putS n v l = l ++ [(n, v)]
 | [], _ => rfl
 | (k, u) :: r, h => by
  simp only [List.findIdx?_cons] at h
  by_cases hk : n = k
  ·subst hk; simp at h
  ·simp only [putS, if_neg hk, List.cons_append]
   rw [qme n v r]
   cases hf : r.findIdx? (fun p => n = p.1) with
   | none => rfl
   | some m => rw [hf] at h; simp [hk] at h
theorem qmx (n : ByteArray) (v : Value) : ∀ (l : List (ByteArray × Value)) (m i : Nat), l.findIdx? (fun p => n = p.1) = some m → (entriesS l i).modify m (fun e => { e with key := .string n, val := v }) = entriesS (putS n v l) i ∧ (putS n v l).length = l.length
 | [], m, i, h => by simp at h
 | (k, u) :: r, m, i, h => by
  simp only [List.findIdx?_cons] at h
  by_cases hk : n = k
  ·subst hk
   simp at h
   subst h
   simp [putS, entriesS]
  ·simp only [hk, decide_false] at h
   cases hf : r.findIdx? (fun p => n = p.1) with
   | none => rw [hf] at h; simp at h
   | some m' =>
    rw [hf] at h
    simp at h
    subst h
    obtain ⟨h1, h2⟩ := qmx n v r m' (i + 1) hf
    simp only [putS, if_neg hk, entriesS, List.modify_succ_cons, h1, List.length_cons, h2, and_self]
theorem qnk (l : List (ByteArray × Value)) (i m : Nat) : ((entriesS l i)[m]?).map (·.key) = (l[m]?).map (fun p => Value.string p.1) := by
 induction l generalizing i m with
 | nil => simp [entriesS]
 | cons p r ih =>
  obtain ⟨k, v⟩ := p
  cases m with
  | zero => simp [entriesS]
  | succ m => simpa [entriesS] using ih (i + 1) m
theorem qd0 {P : Program} {k : TypeId} (hk : P.underlying k = some .string) (b : Bool) (n : ByteArray) (w : World) : (Instr.checkKey b 10000 k (.string n)).run P w = .ok () w := by
 unfold Instr.checkKey
 simp [run_underlying hk]
theorem qih {P : Program} {t : TypeId} {S : St} {K : SV → St → Prop} (h : forceL (S.own ++ [.obj (mapS [])]) (fun own => putOwn S own (fun S' => K (.mp S.own.length) S'))) : AtSem P (fun ℓ => Instr.makeMap t (denO ℓ none)) S K := by
 rw [qq, qag] at h
 refine qgv .i64 ?_
 rw [qq, qag]
 exact h
theorem at_lookupS {P : Program} {tt : Tab} (hT : TTOK P tt) {t k e : TypeId} {x ix : SV} {S : St} {K : SV → St → Prop} {i : Nat} {n : ByteArray} {l : List (ByteArray × Value)} {ok : Bool} (z : Value) (ht : tt t = some (.map k e)) (hk : P.underlying k = some .string) (hz : ∀ w, (zeroValue e).run P w = .ok z w)
  (hx : x = .mp i) (hi : nth S.own i = some (.obj (mapS l))) (hix : ix = .v (.string n))
  (h1 : ∀ v, lookS l n = some v → K (if ok then .tup [.v v, .v (.bool true)] else .v v) S) (h2 : lookS l n = none → K (if ok then .tup [.v z, .v (.bool false)] else .v z) S) : AtSem P (fun ℓ => Instr.lookup t (x.den ℓ) (ix.den ℓ) ok) S K := by
 subst hx hix
 constructor
 intro J ℓ w hG hJ
 obtain ⟨b, hb, hk', hbl, hoff, hh⟩ := qfb hG hi
 have hu := (hT t _ ht).2
 have hrun : (Instr.lookup t ((SV.mp i).den ℓ) ((SV.v (.string n)).den ℓ) ok).run P w = .ok ((match lookS l n with
   | some v => (if ok then SV.tup [.v v, .v (.bool true)] else .v v)
   | none => (if ok then .tup [.v z, .v (.bool false)] else .v z)).den ℓ) w := by
  simp only [Instr.lookup, SV.den, Sem.run_bind, qk hu, Result.andThen_ok]
  have hg := qbz (P := P) hh
  rw [hbl]
  simp only [Sem.run_bind, hg, Result.andThen_ok, Sem.run_pure]
  simp only [qd0 hk, Result.andThen_ok, Instr.findKey, Sem.run_bind, run_underlying hk, qh1]
  rw [qnt]
  cases hf : l.findIdx? (fun p => n = p.1) with
  | none => simp [hz, Result.andThen]; cases ok <;> simp [SV.den, qc]
  | some m =>
   have hlt : m < l.length := by
    obtain ⟨hlt, _⟩ := List.findIdx?_eq_some_iff_getElem.1 hf
    exact hlt
   simp only [List.getElem?_eq_getElem hlt, Option.map_some, Sem.run_pure, Result.andThen_ok]
   cases ok <;> simp [SV.den, qc]
 cases hl : lookS l n with
 | some v =>
  rw [hl] at hrun
  exact ⟨_, ℓ, S, w, hrun, by cases ok <;> rfl, List.prefix_refl _, Ext.refl _ _, hG, fun b hb => .inl hb, h1 v hl⟩
 | none =>
  rw [hl] at hrun
  exact ⟨_, ℓ, S, w, hrun, by cases ok <;> rfl, List.prefix_refl _, Ext.refl _ _, hG, fun b hb => .inl hb, h2 hl⟩
theorem qes {P : Program} {tt : Tab} (hT : TTOK P tt) {t k e : TypeId} {x ix y : SV} {S : St} {K : SV → St → Prop} {i : Nat} {n : ByteArray} {l : List (ByteArray × Value)} (v : Value) (ht : tt t = some (.map k e)) (hk : P.underlying k = some .string)
  (hx : x = .mp i) (hi : nth S.own i = some (.obj (mapS l))) (hix : ix = .v (.string n)) (hy : ∀ ℓ, y.den ℓ = v)
  (h : forceL (setNth S.own i (.obj (mapS (putS n v l)))) (fun own => putOwn S own (fun S' => K undefS S'))) : AtSem P (fun ℓ => do Instr.mapUpdate t (x.den ℓ) (ix.den ℓ) (y.den ℓ); pure undef) S K := by
 subst hx hix
 rw [qq, qag] at h
 constructor
 intro J ℓ w hG hJ
 obtain ⟨b, hb, hk', hbl, hoff, hh⟩ := qfb hG hi
 have hu := (hT t _ ht).2
 have hrun : (Instr.mapUpdate t ((SV.mp i).den ℓ) ((SV.v (.string n)).den ℓ) (y.den ℓ)).run P w = .ok () (w.putObj b.block (mapS (putS n v l))) := by
  simp only [Instr.mapUpdate, SV.den, hy, Sem.run_bind, qk hu, Result.andThen_ok, hbl]
  have hg := qbz (P := P) hh
  simp only [hg, Result.andThen_ok, qd0 hk, Instr.findKey, Sem.run_bind, run_underlying hk, qh1]
  cases hf : l.findIdx? (fun p => n = p.1) with
  | none =>
   simp only [Sem.run_pure, Result.andThen_ok]
   rw [qeo _ hh, qme n v l hf]
   simp [mapS, qef, entriesS]
  | some m =>
   obtain ⟨hlt, hpm, _⟩ := List.findIdx?_eq_some_iff_getElem.1 hf
   simp only [decide_eq_true_eq] at hpm
   simp only [List.getElem?_eq_getElem hlt, Option.map_some, Sem.run_pure, Result.andThen_ok, Nat.zero_add]
   have hkey : (((entriesS l 0).toArray[m]?).map (·.key)).getD (.string n) = .string n := by
    have := qnk l 0 m
    simp only [List.getElem?_toArray]
    rw [this, List.getElem?_eq_getElem hlt]
    simp [← hpm]
   rw [hkey]
   have hst : (Instr.keyThatStays (.string n) (.string n)).run P w = .ok (.string n) w := by simp [Instr.keyThatStays, Instr.sameBits, strBeq]
   simp only [Sem.run_bind, hst, Result.andThen_ok]
   rw [qeo _ hh]
   obtain ⟨h1, h2⟩ := qmx n v l m 0 hf
   simp only [mapS, h2]
   rw [← h1]
   simp
 obtain ⟨g1, g2, g3⟩ := hG.putObj (k' := .obj (mapS (putS n v l))) hk' hb rfl rfl rfl (mapS (putS n v l)) ⟨hoff, World.putObj_heap_same (qad hh)⟩
 refine ⟨undefS, ℓ, _, w.putObj b.block (mapS (putS n v l)), ?_, rfl, List.prefix_refl _, g1, g2, g3, h⟩
 simp only [Sem.run_bind, hrun, Result.andThen_ok, Sem.run_pure]
 rfl
end

section
open Go
theorem bind_some {α β : Type} {x : Option α} {f : α → Option β} {r : β} (h : x.bind f = some r) : ∃ y, x = some y ∧ f y = some r := by
 cases x with
 | none => cases h
 | some y => exact ⟨y, rfl, h⟩
theorem qf {α : Type} {b : Bool} {A B : Option α} {r : α} (hb : b = true) (h : cond b A B = some r) : A = some r := by subst hb; exact h
theorem qg {α : Type} {b : Bool} {A B : Option α} {r : α} (hb : b = false) (h : cond b A B = some r) : B = some r := by subst hb; exact h
theorem qm {α : Type} {b : Bool} {A : Option α} {r : α} (h : cond b A none = some r) : b = true ∧ A = some r := by
 cases b with
 | true => exact ⟨rfl, h⟩
 | false => cases h
theorem ff {A : Prop} (h : false = true) : A := by cases h
theorem tf {A : Prop} (h : true = false) : A := by cases h
def idx {α : Type} (l : List α) (i : Int) : Option α := cond (decide (0 ≤ i)) l[i.toNat]? none
theorem qi {α : Type} {l : List α} {i : Int} {x : α} (h : idx l i = some x) : 0 ≤ i ∧ l[i.toNat]? = some x := by
 obtain ⟨h1, h2⟩ := qm h
 exact ⟨of_decide_eq_true h1, h2⟩
theorem qi7 {α : Type} (l : List α) (i : Nat) : idx l (i : Int) = l[i]? := by simp [idx]
def pickR {α : Type} (l : List α) : List Nat → Option (List α)
 | [] => some []
 | j :: js => match nth l j, pickR l js with
  | some x, some r => some (x :: r)
  | _, _ => none
theorem qf6 {α : Type} {l : List α} : ∀ {js : List Nat} {r : List α}, pickR l js = some r → ∀ p ∈ r, p ∈ l
 | [], r, h, p, hp => by cases h; cases hp
 | j :: js, r, h, p, hp => by
  simp only [pickR] at h
  split at h
  ·rename_i x r' h1 h2
   cases h
   rcases List.mem_cons.1 hp with e | e
   ·subst e; exact List.mem_of_getElem? (by rw [← qz]; exact h1)
   ·exact qf6 h2 p e
  ·cases h
theorem qd9 {α : Type} {l : List α} : ∀ {js : List Nat} {r : List α}, pickR l js = some r → js.length = r.length ∧ ∀ (p : Nat) (x : α), r[p]? = some x → ∃ i, js[p]? = some i ∧ l[i]? = some x
 | [], r, h => by cases h; exact ⟨rfl, fun p x hp => by simp at hp⟩
 | j :: js, r, h => by
  simp only [pickR] at h
  split at h
  ·rename_i x r' h1 h2
   cases h
   obtain ⟨h3, h4⟩ := qd9 h2
   refine ⟨by simp [h3], fun p y hp => ?_⟩
   cases p with
   | zero => simp at hp; subst hp; exact ⟨j, rfl, by rw [← qz]; exact h1⟩
   | succ p => exact h4 p y (by simpa using hp)
  ·cases h
theorem Pure.atR {P : Program} {cl : Cal} {args : List SV} {rs : List (Value × D)} {R : SV → List (Value × D) → Prop} {S : St} {K : Out → St → Prop} (h : Pure P cl args rs R) (js : List Nat) (hrs : pickR S.reps js = some rs) (hargs : qo 0 args = true) (hcl : cl.wf 0 = true)
  (k : ∀ r out, R r out → addReps S out (fun S' => K (.ret r) S')) : Meets P cl args S K := h.at (qf6 hrs) hargs hcl k
def noDup : List Nat → Bool
 | [] => true
 | j :: js => !js.contains j && noDup js
theorem qdb : ∀ {l : List Nat}, noDup l = true → l.Nodup
 | [], _ => .nil
 | j :: js, h => by
  simp only [noDup, Bool.and_eq_true, Bool.not_eq_true', List.contains_eq_mem, decide_eq_false_iff_not] at h
  exact List.nodup_cons.2 ⟨h.1, qdb h.2⟩
theorem Meets.frameR {P : Program} {cl : Cal} {args : List SV} {own : List Blk} {rs : List (Value × D)} {R : Out → St → Prop} {S : St} {K : Out → St → Prop} {cl' : Cal} {args' : List SV} (h : Meets P cl args ⟨own, [], rs⟩ R) (ix js : List Nat)
  (hcl' : cl' = cl.ren (rix ix)) (hargs' : args' = SV.renL (rix ix) args)
  (hn : noDup ix = true) (hown : pickR S.own ix = some (own.map (Blk.ren (rix ix)))) (hw : wfB ix.length own = true)
  (hrs : pickR S.reps js = some rs) (hargs : qo ix.length args = true) (hcl : cl.wf ix.length = true)
  (k : ∀ o s', R o s' → s'.accs = [] ∧ s'.own.map Blk.mut = own.map Blk.mut ∧ ∃ ks, s'.own.map (Blk.ren (rix ix)) = ks ∧ forceL (setAll S.own ix ks) (fun own => putOwn S own (fun S1 => addReps S1 s'.reps (fun S' => K (o.ren (rix ix)) S')))) : Meets P cl' args' S K := by
 obtain ⟨h1, h2⟩ := qd9 hown
 refine Meets.frame h ix hcl' hargs' (qdb hn) (by simpa using h1.symm) ?_ (qf6 hrs) hargs hcl k
 intro p q hp
 obtain ⟨i, h3, h4⟩ := h2 p (q.ren (rix ix)) (by rw [List.getElem?_map, hp]; rfl)
 exact ⟨i, h3, h4, qdk hw q (List.mem_of_getElem? hp)⟩
inductive ASel where
 | old (j : Nat)
 | nil (k : Nat) (T : TypeId)
inductive RSel where
 | old (j : Nat)
 | froz (j : Nat)
 | nil (k : Nat)
def selAccs (S : St) : List ASel → Option (List Acc)
 | [] => some []
 | .old j :: r => match nth S.accs j, selAccs S r with
  | some a, some l => some (a :: l)
  | _, _ => none
 | .nil k T :: r => match selAccs S r with
  | some l => some (⟨.slice none 0 0, k, T, []⟩ :: l)
  | none => none
def selReps (S : St) : List RSel → Option (List (Value × D))
 | [] => some []
 | .old j :: r => match nth S.reps j, selReps S r with
  | some a, some l => some (a :: l)
  | _, _ => none
 | .froz j :: r => match nth S.accs j, selReps S r with
  | some a, some l => some ((a.v, .sl a.k a.ds) :: l)
  | _, _ => none
 | .nil k :: r => match selReps S r with
  | some l => some ((.slice none 0 0, .sl k []) :: l)
  | none => none
def oldsA : List ASel → List Nat
 | [] => []
 | .old j :: r => j :: oldsA r
 | .nil _ _ :: r => oldsA r
def frozR : List RSel → List Nat
 | [] => []
 | .froz j :: r => j :: frozR r
 | _ :: r => frozR r
def apartN (l : List Nat) : List Nat → Bool
 | [] => true
 | j :: r => !l.contains j && apartN l r
theorem qbx {S : St} : ∀ {ag : List ASel} {l : List Acc}, selAccs S ag = some l → ∀ a ∈ l, (∃ j ∈ oldsA ag, S.accs[j]? = some a) ∨ (∃ k T, a = ⟨.slice none 0 0, k, T, []⟩)
 | [], l, h, a, ha => by cases h; cases ha
 | .old j :: r, l, h, a, ha => by
  simp only [selAccs] at h
  split at h
  ·rename_i x l' h1 h2
   cases h
   rcases List.mem_cons.1 ha with e | e
   ·subst e; exact .inl ⟨j, by simp [oldsA], by rw [← qz]; exact h1⟩
   ·rcases qbx h2 a e with ⟨i, hi, hi'⟩ | h3
    ·exact .inl ⟨i, by simp [oldsA, hi], hi'⟩
    ·exact .inr h3
  ·cases h
 | .nil k T :: r, l, h, a, ha => by
  simp only [selAccs] at h
  split at h
  ·rename_i l' h2
   cases h
   rcases List.mem_cons.1 ha with e | e
   ·exact .inr ⟨k, T, e⟩
   ·rcases qbx h2 a e with ⟨i, hi, hi'⟩ | h3
    ·exact .inl ⟨i, by simpa [oldsA] using hi, hi'⟩
    ·exact .inr h3
  ·cases h
theorem qc2 {S : St} : ∀ {rs : List RSel} {l : List (Value × D)}, selReps S rs = some l → ∀ p ∈ l, p ∈ S.reps ∨ (∃ j a, j ∈ frozR rs ∧ S.accs[j]? = some a ∧ p = (a.v, .sl a.k a.ds)) ∨ (∃ k, p = (.slice none 0 0, .sl k []))
 | [], l, h, a, ha => by cases h; cases ha
 | .old j :: r, l, h, a, ha => by
  simp only [selReps] at h
  split at h
  ·rename_i x l' h1 h2
   cases h
   rcases List.mem_cons.1 ha with e | e
   ·subst e; exact .inl (List.mem_of_getElem? (by rw [← qz]; exact h1))
   ·exact qc2 h2 a e
  ·cases h
 | .froz j :: r, l, h, a, ha => by
  simp only [selReps] at h
  split at h
  ·rename_i x l' h1 h2
   cases h
   rcases List.mem_cons.1 ha with e | e
   ·exact .inr (.inl ⟨j, x, by simp [frozR], by rw [← qz]; exact h1, e⟩)
   ·rcases qc2 h2 a e with h3 | ⟨i, y, h4, h5⟩ | h3
    ·exact .inl h3
    ·exact .inr (.inl ⟨i, y, by simp [frozR, h4], h5⟩)
    ·exact .inr (.inr h3)
  ·cases h
 | .nil k :: r, l, h, a, ha => by
  simp only [selReps] at h
  split at h
  ·rename_i l' h2
   cases h
   rcases List.mem_cons.1 ha with e | e
   ·exact .inr (.inr ⟨k, e⟩)
   ·exact qc2 h2 a e
  ·cases h
theorem qdu {α : Type} {f : α → List Nat} : ∀ {l : List α}, (l.flatMap f).Nodup → ∀ {i j : Nat} {x y : α} {b : Nat}, l[i]? = some x → l[j]? = some y → i ≠ j → b ∈ f x → b ∈ f y → False
 | [], _, i, j, x, y, b, h, _, _, _, _ => by simp at h
 | a :: l, hn, i, j, x, y, b, hi, hj, hij, hx, hy => by
  rw [List.flatMap_cons, List.nodup_append] at hn
  cases i with
  | zero =>
   simp at hi; subst hi
   cases j with
   | zero => exact hij rfl
   | succ j => exact hn.2.2 b hx b (List.mem_flatMap.2 ⟨y, List.mem_of_getElem? (by simpa using hj), hy⟩) rfl
  | succ i =>
   cases j with
   | zero =>
    simp at hj; subst hj
    exact hn.2.2 b hy b (List.mem_flatMap.2 ⟨x, List.mem_of_getElem? (by simpa using hi), hx⟩) rfl
   | succ j => exact qdu hn.2.1 (by simpa using hi) (by simpa using hj) (by omega) hx hy
theorem qmm {S : St} (f : Acc → List Nat) (hf : ∀ k T, f ⟨.slice none 0 0, k, T, []⟩ = []) {ag : List ASel} {l : List Acc} (h : selAccs S ag = some l) : ∀ b, b ∈ l.flatMap f → b ∈ S.accs.flatMap f := by
 intro b hb
 obtain ⟨a, ha, hba⟩ := List.mem_flatMap.1 hb
 rcases qbx h a ha with ⟨j, _, hj⟩ | ⟨k, T, rfl⟩
 ·exact List.mem_flatMap.2 ⟨a, List.mem_of_getElem? hj, hba⟩
 ·rw [hf] at hba; cases hba
theorem qdl {S : St} (f : Acc → List Nat) (hf : ∀ k T, f ⟨.slice none 0 0, k, T, []⟩ = []) (hn : (S.accs.flatMap f).Nodup) : ∀ {ag : List ASel} {l : List Acc}, selAccs S ag = some l → (oldsA ag).Nodup → (l.flatMap f).Nodup
 | [], l, h, _ => by cases h; simp
 | .old j :: r, l, h, hh => by
  simp only [selAccs] at h
  split at h
  ·rename_i x l' h1 h2
   cases h
   simp only [oldsA] at hh
   obtain ⟨hj, hr⟩ := List.nodup_cons.1 hh
   have hx : S.accs[j]? = some x := by rw [← qz]; exact h1
   rw [List.flatMap_cons, List.nodup_append]
   refine ⟨?_, qdl f hf hn h2 hr, fun b hb b' hb' e => ?_⟩
   ·have hm := List.mem_of_getElem? hx
    obtain ⟨s, t, hst⟩ := List.append_of_mem hm
    rw [hst, List.flatMap_append, List.flatMap_cons, List.nodup_append, List.nodup_append] at hn
    exact hn.2.1.1
   ·subst e
    obtain ⟨a, ha, hba⟩ := List.mem_flatMap.1 hb'
    rcases qbx h2 a ha with ⟨i, hi, hia⟩ | ⟨k, T, rfl⟩
    ·refine qdu hn hx hia ?_ hb hba
     rintro rfl
     exact hj hi
    ·rw [hf] at hba; cases hba
  ·cases h
 | .nil k T :: r, l, h, hh => by
  simp only [selAccs] at h
  split at h
  ·rename_i l' h2
   cases h
   rw [List.flatMap_cons, hf, List.nil_append]
   exact qdl f hf hn h2 hh
  ·cases h
theorem qht {l : List Nat} : ∀ {r : List Nat}, apartN l r = true → ∀ j ∈ r, j ∉ l
 | [], _, j, hj => by cases hj
 | i :: r, h, j, hj => by
  simp only [apartN, Bool.and_eq_true, Bool.not_eq_true', List.contains_eq_mem, decide_eq_false_iff_not] at h
  rcases List.mem_cons.1 hj with e | e
  ·subst e; exact h.1
  ·exact qht h.2 j e
theorem StLe.gen {S : St} (n : Nat) (ag : List ASel) (rs : List RSel) {own : List Blk} {accs : List Acc} {reps : List (Value × D)} (ho : S.own.take n = own) (ha : selAccs S ag = some accs) (hr : selReps S rs = some reps)
  (hn : Nat.ble n S.own.length = true) (hw : wfB n own = true) (hd : noDup (oldsA ag) = true) (hf : apartN (oldsA ag) (frozR rs) = true) : StLe S ⟨own, accs, reps⟩ := by
 subst ho
 have hn := Nat.le_of_ble_eq_true hn
 have hlen : (S.own.take n).length = n := by rw [List.length_take]; omega
 have hmemA : ∀ b, b ∈ accs.flatMap (fun a => accBlk a.v) → b ∈ S.accs.flatMap (fun a => accBlk a.v) := fun b hb => qmm (fun a => accBlk a.v) (fun _ _ => rfl) ha b hb
 refine ⟨by simp only [hlen]; exact hn, fun J ℓ w h => ?_⟩
 simp only [hlen]
 have hmem : ∀ b ∈ mutS (ℓ.take n) ⟨S.own.take n, accs, reps⟩, b ∈ mutS ℓ S := fun b hb => by
  simp only [mutS] at hb ⊢
  rcases List.mem_append.1 hb with h1 | h1
  ·exact List.mem_append.2 (.inl ((qct n).subset h1))
  ·exact List.mem_append.2 (.inr (hmemA b h1))
 have hx : ∀ x, x < w.heap.size → Jx J (mutS ℓ S) x → Jx J (mutS (ℓ.take n) ⟨S.own.take n, accs, reps⟩) x ∧ w.heap[x]? = w.heap[x]? := fun x _ hj => ⟨⟨hj.1, fun hx => hj.2 (hmem x hx)⟩, rfl⟩
 obtain ⟨_, h2⟩ := StLe.part S n hn (qdk hw) [] (List.nil_sublist _) [] (by simp)
 obtain ⟨hg, _⟩ := h2 J ℓ w h
 simp only [hlen] at hg
 have hnd := h.nodup
 simp only [mutS] at hnd
 rw [List.nodup_append] at hnd
 have hnodup : (mutS (ℓ.take n) ⟨S.own.take n, accs, reps⟩).Nodup := by
  simp only [mutS]
  rw [List.nodup_append]
  exact ⟨(qct n).nodup hnd.1, qdl (fun a => accBlk a.v) (fun _ _ => rfl) hnd.2.1 ha (qdb hd), fun x hx y hy => hnd.2.2 x ((qct n).subset hx) y (hmemA y hy)⟩
 refine ⟨⟨hg.len, hnodup, fun b hb => h.lt b (hmem b hb), fun b hb => h.memJ b (hmem b hb), hg.wf, ?_, ?_, ?_⟩, hmem⟩
 ·intro i b k hi hk
  simp only at hk
  have hin : i < n := by
   rcases Nat.lt_or_ge i n with h1 | h1
   ·exact h1
   ·rw [List.getElem?_eq_none (by rw [hlen]; exact h1)] at hk; cases hk
  rw [List.getElem?_take, if_pos hin] at hi hk
  refine (h.own i b k hi hk).keep (qdk hw k (List.mem_of_getElem? (by rw [List.getElem?_take, if_pos hin]; exact hk))) (fun j hj => ?_) (fun x hx' hj => (hx x hx' hj).1) (fun _ => rfl)
  simp [List.getD, hj]
 ·intro a haa
  rcases qbx ha a haa with ⟨j, _, hj⟩ | ⟨k, T, rfl⟩
  ·exact (h.accs a (List.mem_of_getElem? hj)).keep hx (fun _ _ _ => rfl)
  ·exact .inl ⟨rfl, rfl⟩
 ·intro p hp
  rcases qc2 hr p hp with h1 | ⟨j, a, hj, haj, rfl⟩ | ⟨k, rfl⟩
  ·exact (h.reps p h1).map hx
  ·have hok := h.accs a (List.mem_of_getElem? haj)
   simp only [Rep, RepC]
   rcases hok with ⟨hv, hd⟩ | ⟨b, cp, cc, hv, hgb, hcs, hl, hre⟩
   ·rw [hv, hd]
    exact ⟨none, 0, rfl, ⟨Nat.le_refl _, Nat.zero_le _⟩, .inl rfl⟩
   ·rw [hv]
    have hba : b ∈ accBlk a.v := by simp [hv, accBlk]
    have hbm : b ∈ S.accs.flatMap (fun a => accBlk a.v) := List.mem_flatMap.2 ⟨a, List.mem_of_getElem? haj, hba⟩
    refine ⟨_, cp, rfl, hl, .inr ⟨b, 0, cc, a.T, (0, 0), rfl, ⟨h.memJ b (by simp only [mutS]; exact List.mem_append.2 (.inr hbm)), fun hmm => ?_⟩, hgb, ?_⟩⟩
    ·simp only [mutS] at hmm
     rcases List.mem_append.1 hmm with hm1 | hm1
     ·exact hnd.2.2 b ((qct n).subset hm1) b hbm rfl
     ·obtain ⟨a', ha', hb'⟩ := List.mem_flatMap.1 hm1
      rcases qbx ha a' ha' with ⟨i, hi, hia⟩ | ⟨k, T, rfl⟩
      ·refine qdu (f := fun (x : Acc) => accBlk x.v) hnd.2.1 hia haj ?_ hb' hba
       rintro rfl
       exact qht hf i hj hi
      ·simp [accBlk] at hb'
    ·simpa using RepE.map hx a.k _ _ hre
  ·exact ⟨none, 0, rfl, ⟨Nat.zero_le _, Nat.zero_le _⟩, .inl rfl⟩
theorem AtRet.gen {m : Nat} {o : Out} {S : St} {R : Out → St → Prop} (S' : St) (h : StLe S S') (hm : Nat.ble m S'.own.length = true) (ho : o.wf S'.own.length = true) (hR : R o S') : AtRet m o S R :=
 ⟨⟨S', h, Nat.le_of_ble_eq_true hm, ho, hR⟩⟩
theorem qa {r : SV} {S : St} {R : SV → List (Value × D) → Prop} (rs : List RSel) (out : List (Value × D)) (hout : selReps S rs = some out) (hr : r.wf 0 = true) (h : R r out) : AtRet 0 (.ret r) S (fun o S' => ∃ r out, o = .ret r ∧ S' = ⟨[], [], out⟩ ∧ r.wf 0 = true ∧ R r out) :=
 ⟨⟨[], [], out⟩, StLe.gen 0 [] rs rfl rfl hout (by simp) rfl rfl (by simp only [oldsA]; induction (frozR rs) with | nil => rfl | cons a l ih => simpa [apartN] using ih), Nat.zero_le _, hr, r, out, rfl, rfl, hr, h⟩
theorem Meets.le {P : Program} {cl : Cal} {args : List SV} {S S' : St} {R : Out → St → Prop} (h : StLe S S') (hl : Nat.beq S'.own.length S.own.length = true) (k : Meets P cl args S' R) : Meets P cl args S R := by
 intro J ℓ w hG hJ
 have hl := Nat.eq_of_beq_eq_true hl
 obtain ⟨h1, h2⟩ := h.2 J ℓ w hG
 rw [hl, ← hG.len, List.take_length] at h1 h2
 obtain ⟨nx, e1, e2⟩ := k J ℓ w h1 hJ
 refine ⟨nx, e1, e2.mono ?_⟩
 rintro e w' ⟨ℓ', o, S'', a1, a2, a3, a4, a5, a6, a7⟩
 exact ⟨ℓ', o, S'', a1, a2, a3, a4.mono (fun x hx _ => h2 x hx), a5, fun b hb => (a6 b hb).imp (h2 b) id, a7⟩
theorem AtSem.le {P : Program} {m : List Base → Sem Value} {S S' : St} {K : SV → St → Prop} (h : StLe S S') (hl : Nat.beq S'.own.length S.own.length = true) (k : AtSem P m S' K) : AtSem P m S K := by
 constructor
 intro J ℓ w hG hJ
 have hl := Nat.eq_of_beq_eq_true hl
 obtain ⟨h1, h2⟩ := h.2 J ℓ w hG
 rw [hl, ← hG.len, List.take_length] at h1 h2
 obtain ⟨r, ℓ', S'', w', a1, a2, a3, a4, a5, a6, a7⟩ := k.sem J ℓ w h1 hJ
 exact ⟨r, ℓ', S'', w', a1, a2, a3, a4.mono (fun x hx _ => h2 x hx), a5, fun b hb => (a6 b hb).imp (h2 b) id, a7⟩
theorem qu {P : Program} {tt : Tab} (hT : TTOK P tt) {t e ty : TypeId} {k : Nat} {x y : SV} {S : St} {K : SV → St → Prop} {v : Value} {a : Option Addr} {m c : Nat} {ds es ds' : List D} (bytes j i : Nat) (ht : tt t = some (.slice e k)) (hel : elemB P e k bytes = true)
  (hx : x = .v v) (hacc : nth S.accs j = some ⟨v, k, e, ds⟩) (hy : y = .v (.slice a m c)) (hr : nth S.reps i = some (.slice a m c, .sl k es)) (hds : ds' = ds ++ es) (hc : decide (ds'.length ≤ 1000000) = true) (hb : Nat.ble bytes 100000 = true)
  (h : ∀ a' c', forceL (setNth S.accs j ⟨.slice a' ds'.length c', k, e, ds'⟩) (fun accs => K (.v (.slice a' ds'.length c')) ⟨S.own, accs, S.reps⟩)) : AtSem P (fun ℓ => Builtin.append_ #[t, t] ty (qc ℓ [x, y]).toArray) S K := by
 subst hds
 have hc := of_decide_eq_true hc
 have hb := Nat.le_of_ble_eq_true hb
 simp only [List.length_append] at h hc
 have : (ds.length + es.length) * bytes ≤ 1000000 * 100000 := Nat.mul_le_mul hc hb
 exact qdd hT bytes j i ht hel hx hacc hy hr (by omega) (by omega) h
theorem qav {α : Type} (f : α → D) {l : List α} {i : Nat} {x : α} (h : l[i]? = some x) : (l.map f)[i]? = some (f x) := by simp [h]
def Ev {α : Type} (f : Nat → Option α) (r : α) : Prop := ∃ N, ∀ n, N ≤ n → f n = some r
theorem Ev.pure {α : Type} (r : α) : Ev (fun _ => some r) r := ⟨0, fun _ _ => rfl⟩
theorem Ev.const {α : Type} {f : Nat → Option α} {r : α} (h : ∀ n, f n = some r) : Ev f r := ⟨0, fun n _ => h n⟩
theorem Ev.succ {α : Type} {f g : Nat → Option α} {r : α} (hf : ∀ n, f (n + 1) = g n) (h : Ev g r) : Ev f r := by
 obtain ⟨N, h⟩ := h
 refine ⟨N + 1, fun n hn => ?_⟩
 obtain ⟨m, rfl⟩ : ∃ m, n = m + 1 := ⟨n - 1, by omega⟩
 rw [hf]; exact h m (by omega)
theorem Ev.bind {α β : Type} {f : Nat → Option α} {g : Nat → α → Option β} {x : α} {r : β} (h : Ev f x) (k : Ev (fun n => g n x) r) : Ev (fun n => (f n).bind (g n)) r := by
 obtain ⟨N, h⟩ := h
 obtain ⟨M, k⟩ := k
 refine ⟨max N M, fun n hn => ?_⟩
 show (f n).bind (g n) = some r
 rw [h n (by omega)]
 exact k n (by omega)
theorem Ev.t {α : Type} {b : Bool} {f g : Nat → Option α} {r : α} (hb : b = true) (h : Ev f r) : Ev (fun n => cond b (f n) (g n)) r := by subst hb; exact h
theorem Ev.f {α : Type} {b : Bool} {f g : Nat → Option α} {r : α} (hb : b = false) (h : Ev g r) : Ev (fun n => cond b (f n) (g n)) r := by subst hb; exact h
theorem Ev.eq {α : Type} {f : Nat → Option α} {r r' : α} (h : Ev f r) (e : r = r') : Ev f r' := e ▸ h
theorem Ev.ite {α : Type} {b : Bool} {f g : Nat → Option α} {r : α} (h : b = true → Ev f r) (k : b = false → Ev g r) : Ev (fun n => cond b (f n) (g n)) r := by
 cases b with
 | true => exact h rfl
 | false => exact k rfl
theorem qe {α : Type} {r : α} {A : Prop} (h : (none : Option α) = some r) : A := by cases h
theorem qr {α : Type} {l : List α} {j : Nat} {x : α} (h : nth l j = some x) : x ∈ l := List.mem_of_getElem? (by rw [← qz]; exact h)
theorem OwnKeptBut.append {W : List Nat} {S : St} {l : List Blk} {accs : List Acc} {reps : List (Value × D)} : OwnKeptBut W S ⟨S.own ++ l, accs, reps⟩ := (OwnKept.append S l accs reps).but W
theorem ql {P : Program} {tt : Tab} (hT : TTOK P tt) {t e : TypeId} {k n : Nat} {l : List (Nat × SV)} {S : St} {K : SV → St → Prop} (bytes : Nat) (ds : List D) {ds' : List D} (ht : tt t = some (.slice e k)) (hel : elemB P e k bytes = true) (hl : partsOK S.reps k 0 l ds) (hn : ds'.length = n) (hds : ds' = ds) (hlim : n * k ≤ 16777216) (hpos : n ≤ 16777216)
  (h : ∀ a, addReps S [(.slice a ds'.length n, .sl k ds')] (fun S' => K (.v (.slice a ds'.length n)) S')) : AtSem P (fun ℓ => Instr.buildSlice t n (denParts ℓ l).toArray) S K := by
 subst hds
 rw [hn] at h
 exact qep hT bytes _ ht hel hl hn hlim hpos h
theorem qb7 {P : Program} {tt : Tab} (hT : TTOK P tt) {t e : TypeId} {k : Nat} {x : SV} {sl sh : Option SV} {S : St} {K : SV → St → Prop} {a : Option Addr} {n c : Nat} {ds ds' : List D} (j : Nat) (lo hi : Int) (hx : x = .v (.slice a n c)) (ht : tt t = some (.slice e k))
  (hr : nth S.reps j = some (.slice a n c, .sl k ds)) (hlo : (∃ q, sl = some (.v (.int q lo))) ∨ (sl = none ∧ lo = 0)) (hhi : (∃ q, sh = some (.v (.int q hi))) ∨ (sh = none ∧ hi = n)) (h0 : decide (0 ≤ lo ∧ lo ≤ hi ∧ hi ≤ n) = true) (hds : ds' = (ds.take hi.toNat).drop lo.toNat)
  (h : ∀ a' c', addReps S [(.slice a' ds'.length c', .sl k ds')] (fun S' => K (.v (.slice a' ds'.length c')) S')) : AtPure P (fun ℓ => Instr.sliceAt t (x.den ℓ) (denO ℓ sl) (denO ℓ sh) (denO ℓ none)) S K := by
 obtain ⟨h1, h2, h3⟩ := of_decide_eq_true h0
 have hb1 : bnd 0 lo.toNat sl := by
  rcases hlo with ⟨q, rfl⟩ | ⟨rfl, rfl⟩
  ·simp only [bnd]; omega
  ·rfl
 have hb2 : bnd n hi.toNat sh := by
  rcases hhi with ⟨q, rfl⟩ | ⟨rfl, rfl⟩
  ·simp only [bnd]; omega
  ·simp only [bnd]; omega
 constructor
 intro J ℓ w hG hJ
 have hrep := hG.reps _ (List.mem_of_getElem? (by rw [← qz]; exact hr))
 simp only [Rep, RepC] at hrep
 obtain ⟨a', cap, heq, hle, _⟩ := hrep
 simp only [List.cons.injEq, Value.slice.injEq, and_true] at heq
 obtain ⟨_, hn, _⟩ := heq
 have hl : ds'.length = hi.toNat - lo.toNat := by subst hds; simp; omega
 refine (qly hT j lo.toNat hi.toNat hx ht hr hb1 hb2 (by omega) (by omega) ?_).sem J ℓ w hG hJ
 intro a' c' _
 have := h a' c'
 rw [hl, hds] at this
 exact this
theorem sl_l {α : Type} (f : α → D) (l : List α) (lo : Int) : (l.drop lo.toNat).map f = ((l.map f).take (((l.map f).length : Nat) : Int).toNat).drop lo.toNat := by
 rw [Int.toNat_natCast, List.take_length, List.map_drop]
theorem sl_h {α : Type} (f : α → D) (l : List α) (hi : Int) : (l.take hi.toNat).map f = ((l.map f).take hi.toNat).drop (0 : Int).toNat := by simp [List.map_take]
theorem qnz {P : Program} {tt : Tab} (hT : TTOK P tt) {t e : TypeId} {k n : Nat} {l : List (Nat × SV)} {S : St} {K : SV → St → Prop} (bytes : Nat) (ds : List D) {ds' : List D} (ht : tt t = some (.slice e k)) (hel : elemB P e k bytes = true) (hl : partsOK S.reps k 0 l ds) (hn : ds'.length = n) (hds : ds' = ds) (hlim : n * k ≤ 16777216) (hpos : n ≤ 16777216)
  (h : ∀ a, forceL (⟨.slice a ds'.length n, k, e, ds'⟩ :: S.accs) (fun accs => K (.v (.slice a ds'.length n)) ⟨S.own, accs, S.reps⟩)) : AtSem P (fun ℓ => Instr.buildSlice t n (denParts ℓ l).toArray) S K := by
 subst hds
 simp only [qq] at h
 rw [hn] at h
 constructor
 intro J ℓ w hG hJ
 obtain ⟨flat, hfl, hrun, hrep⟩ := qmq hT ht hel (ℓ := ℓ) hl hn hlim w
 have hold : ∀ x, x < w.heap.size → (w.alloc (.cells flat.toArray e (0, 0))).heap[x]? = w.heap[x]? := fun x hx => by
  show (w.heap.push _)[x]? = _
  rw [Array.getElem?_push, if_neg (by omega)]
 have hG1 : Good J ℓ ⟨S.own, ⟨.slice none 0 0, k, e, []⟩ :: S.accs, S.reps⟩ w := Good.nilAcc k e hG
 have hm1 : mutS ℓ ⟨S.own, ⟨.slice none 0 0, k, e, []⟩ :: S.accs, S.reps⟩ = mutS ℓ S := by simp [mutS, accBlk]
 have hsz : w.heap.size ≤ (w.alloc (.cells flat.toArray e (0, 0))).heap.size := by simp
 obtain ⟨hG2, hf⟩ := hG1.regrow hJ (j := 0) (a := ⟨.slice none 0 0, k, e, []⟩) (a' := ⟨.slice (some ⟨w.heap.size, 0, none⟩) n n, k, e, ds'⟩) rfl hsz (fun b hb _ => hold b hb) (by simp [accBlk]) (by
  intro b hb
  simp only [accBlk, List.mem_singleton] at hb
  subst hb
  exact ⟨.inr (Nat.le_refl _), by simp⟩) (fun J' hj => by
  refine .inr ⟨w.heap.size, n, flat.toArray, ?_, World.alloc_heap_new w _, ?_, ?_, ?_⟩
  ·simp only; rw [hn]
  ·simpa using hfl
  ·simp only; rw [hn]; exact ⟨Nat.le_refl _, by omega⟩
  ·simp only
   refine hrep (J := J') fun p hp => ?_
   have := hG1.reps p hp
   exact this.map hj)
 refine ⟨.v (.slice (some ⟨w.heap.size, 0, none⟩) n n), ℓ, _, _, hrun, rfl, List.prefix_refl _, ⟨rfl, rfl, hsz, fun b hb _ => hold b hb⟩, hG2, fun b hb => ?_, h _⟩
 rcases hf b hb with h1 | h1
 ·rw [hm1] at h1; exact .inl h1
 ·exact .inr h1
theorem wfB_of {n : Nat} : ∀ {l : List Blk}, (∀ k ∈ l, k.wf n = true) → wfB n l = true
 | [], _ => rfl
 | k :: r, h => by
  simp only [wfB]
  rw [h k (List.mem_cons_self ..)]
  exact wfB_of (fun q hq => h q (List.mem_cons_of_mem _ hq))
theorem Good.pick {J : Nat → Prop} {ℓ : List Base} {o own : List Blk} {accs : List Acc} {rs : List (Value × D)} {w : World} (hG : Good J ℓ ⟨o, accs, rs⟩ w) (ix : List Nat) (hn : noDup ix = true) (hown : pickR o ix = some (own.map (Blk.ren (rixD ix)))) (hw : wfB ix.length own = true) :
  Good J (ix.map (fun i => ℓ.getD i default)) ⟨own, accs, rs⟩ w ∧ ∀ b ∈ mutS (ix.map (fun i => ℓ.getD i default)) ⟨own, accs, rs⟩, b ∈ mutS ℓ ⟨o, accs, rs⟩ := by
 have hn := qdb hn
 obtain ⟨hlen0, hget⟩ := qd9 hown
 have hlen : own.length = ix.length := by simpa using hlen0.symm
 have hown' : ∀ (p : Nat) (k : Blk), own[p]? = some k → ∃ i, ix[p]? = some i ∧ o[i]? = some (k.ren (rixD ix)) ∧ k.wf ix.length = true := by
  intro p k hp
  obtain ⟨i, h3, h4⟩ := hget p (k.ren (rixD ix)) (by rw [List.getElem?_map, hp]; rfl)
  exact ⟨i, h3, h4, qdk hw k (List.mem_of_getElem? hp)⟩
 let ℓs : List Base := ix.map (fun i => ℓ.getD i default)
 have hixlt : ∀ (p i : Nat), ix[p]? = some i → i < o.length := by
  intro p i hp
  have hp' : p < own.length := by rw [hlen]; exact (List.getElem?_eq_some_iff.1 hp).1
  obtain ⟨i', h1, h2, _⟩ := hown' p own[p] (List.getElem?_eq_getElem hp')
  rw [hp] at h1
  cases h1
  exact (List.getElem?_eq_some_iff.1 h2).1
 have hr : ∀ i, i < ix.length → ℓ.getD (rixD ix i) default = ℓs.getD i default := by
  intro i hi
  simp [ℓs, rixD, List.getD, List.getElem?_map, List.getElem?_eq_getElem hi]
 have hℓs : ∀ (p : Nat) (b : Base), ℓs[p]? = some b → ∃ i, ix[p]? = some i ∧ ℓ[i]? = some b := by
  intro p b hp
  simp only [ℓs, List.getElem?_map, Option.map_eq_some_iff] at hp
  obtain ⟨i, hi, rfl⟩ := hp
  have hlt : i < ℓ.length := by rw [hG.len]; exact hixlt p i hi
  exact ⟨i, hi, by simp [List.getD, List.getElem?_eq_getElem hlt]⟩
 have hmem : ∀ b, b ∈ mutL ℓs own → b ∈ mutL ℓ o := by
  intro b hb
  obtain ⟨p, b', q, h1, h2, h3, h4⟩ := mem_mutL.1 hb
  obtain ⟨i, h5, h6⟩ := hℓs p b' h1
  obtain ⟨i', h7, h8, _⟩ := hown' p q h2
  rw [h5] at h7
  cases h7
  exact mem_mutL.2 ⟨i, b', _, h6, h8, by rw [qax]; exact h3, h4⟩
 have hnS := hG.nodup
 simp only [mutS] at hnS
 rw [List.nodup_append] at hnS
 obtain ⟨hnA, hnC, hAC⟩ := hnS
 have hnd : (mutL ℓs own).Nodup := by
  refine qk2 ?_
  intro p q b b' k1 k2 h1 h2 h3 h4 h5 h6 h7
  obtain ⟨i, e1, e2⟩ := hℓs p b h1
  obtain ⟨j, e3, e4⟩ := hℓs q b' h4
  obtain ⟨i', e5, e6, _⟩ := hown' p k1 h2
  obtain ⟨j', e7, e8, _⟩ := hown' q k2 h5
  rw [e1] at e5; cases e5
  rw [e3] at e7; cases e7
  have := qjg hnA i j b b' _ _ e2 e6 (by rw [qax]; exact h3) e4 e8 (by rw [qax]; exact h6) h7
  subst this
  have hp1 := (List.getElem?_eq_some_iff.1 e1)
  have hq1 := (List.getElem?_eq_some_iff.1 e3)
  exact (List.getElem_inj hn).1 (hp1.2.trans hq1.2.symm)
 have hmemS : ∀ b, b ∈ mutS ℓs ⟨own, accs, rs⟩ → b ∈ mutS ℓ ⟨o, accs, rs⟩ := fun b hb => by
  simp only [mutS] at hb ⊢
  rcases List.mem_append.1 hb with h1 | h1
  ·exact List.mem_append.2 (.inl (hmem b h1))
  ·exact List.mem_append.2 (.inr h1)
 have hJin : ∀ b, Jx J (mutS ℓ ⟨o, accs, rs⟩) b → Jx J (mutS ℓs ⟨own, accs, rs⟩) b := fun b ⟨h1, h2⟩ => ⟨h1, fun hb => h2 (hmemS b hb)⟩
 refine ⟨⟨by simp [hlen], ?_, fun b hb => hG.lt b (hmemS b hb), fun b hb => hG.memJ b (hmemS b hb), ?_, ?_, ?_, ?_⟩, hmemS⟩
 ·simp only [mutS]
  rw [List.nodup_append]
  exact ⟨hnd, hnC, fun x hx y hy e => hAC x (hmem x hx) y hy e⟩
 ·intro q hq
  obtain ⟨p, hp⟩ := List.getElem?_of_mem hq
  simp only [hlen]
  exact (hown' p q hp).choose_spec.2.2
 ·intro p b q hb hq
  obtain ⟨i, e1, e2⟩ := hℓs p b hb
  obtain ⟨i', e3, e4, e5⟩ := hown' p q hq
  rw [e1] at e3; cases e3
  exact (hG.own i b _ e2 e4).unren hr e5 hJin
 ·intro ac hac
  exact (hG.accs ac hac).keep (fun x _ hj => ⟨hJin x hj, rfl⟩) (fun _ _ _ => rfl)
 ·intro p hp
  exact (hG.reps p hp).map (fun b _ hb => ⟨hJin b hb, rfl⟩)
theorem StLeR.gen {S : St} (ix : List Nat) (ag : List ASel) (rs : List RSel) {own : List Blk} {accs : List Acc} {reps : List (Value × D)} (hown : pickR S.own ix = some (own.map (Blk.ren (rixD ix)))) (ha : selAccs S ag = some accs) (hr : selReps S rs = some reps)
  (hn : noDup ix = true) (hw : wfB ix.length own = true) (hd : noDup (oldsA ag) = true) (hf : apartN (oldsA ag) (frozR rs) = true) : StLeR ix S ⟨own, accs, reps⟩ := by
 refine ⟨by have := (qd9 hown).1; simpa using this, fun J ℓ w hG => ?_⟩
 have h1 : StLe S ⟨S.own, accs, reps⟩ := by
  refine ⟨Nat.le_refl _, fun J ℓ w hG => ?_⟩
  have hwS : wfB S.own.length S.own = true := wfB_of hG.wf
  have h2 := StLe.gen (S := S) S.own.length ag rs (List.take_length) ha hr (Nat.ble_self_eq_true _) hwS hd hf
  exact h2.2 J ℓ w hG
 obtain ⟨hg, hm⟩ := h1.2 J ℓ w hG
 simp only [← hG.len, List.take_length] at hg hm
 obtain ⟨hg2, hm2⟩ := hg.pick ix hn hown hw
 exact ⟨hg2, fun b hb => hm b (hm2 b hb)⟩
def splitR {α : Type} : List α → Nat → List Nat → List α × List α
 | [], _, _ => ([], [])
 | a :: l, _, [] => ([], a :: l)
 | a :: l, k, j :: js => match Nat.beq j k with
  | true => (a :: (splitR l (k + 1) js).1, (splitR l (k + 1) js).2)
  | false => ((splitR l (k + 1) (j :: js)).1, a :: (splitR l (k + 1) (j :: js)).2)
theorem qfh {α : Type} : ∀ (l : List α) (k : Nat) (js : List Nat), l.Perm ((splitR l k js).1 ++ (splitR l k js).2)
 | [], _, _ => .refl _
 | a :: l, _, [] => .refl _
 | a :: l, k, j :: js => by
  simp only [splitR]
  split
  ·exact (qfh l (k + 1) js).cons a
  ·exact ((qfh l (k + 1) (j :: js)).cons a).trans List.perm_middle.symm
theorem Meets.frameRA {P : Program} {cl : Cal} {args : List SV} {own : List Blk} {accs rest : List Acc} {rs : List (Value × D)} {R : Out → St → Prop} {S : St} {K : Out → St → Prop} {cl' : Cal} {args' : List SV} (h : Meets P cl args ⟨own, accs, rs⟩ R) (ix ax js : List Nat)
  (hac : splitR S.accs 0 ax = (accs, rest)) (hcl' : cl' = cl.ren (rix ix)) (hargs' : args' = SV.renL (rix ix) args)
  (hn : noDup ix = true) (hown : pickR S.own ix = some (own.map (Blk.ren (rix ix)))) (hw : wfB ix.length own = true)
  (hrs : pickR S.reps js = some rs) (hargs : qo ix.length args = true) (hcl : cl.wf ix.length = true)
  (k : ∀ o s', R o s' → s'.own.map Blk.mut = own.map Blk.mut ∧ ∃ ks, s'.own.map (Blk.ren (rix ix)) = ks ∧ forceL (setAll S.own ix ks) (fun own => forceL (s'.accs ++ rest) (fun accs => forceL (S.reps ++ s'.reps) (fun reps => K (o.ren (rix ix)) ⟨own, accs, reps⟩)))) : Meets P cl' args' S K := by
 simp only [qq] at k
 obtain ⟨h1, h2⟩ := qd9 hown
 have hlen : own.length = ix.length := by simpa using h1.symm
 have hown' : ∀ (p : Nat) (k : Blk), own[p]? = some k → ∃ i, ix[p]? = some i ∧ S.own[i]? = some (k.ren (rix ix)) ∧ k.wf ix.length = true := by
  intro p q hp
  obtain ⟨i, h3, h4⟩ := h2 p (q.ren (rix ix)) (by rw [List.getElem?_map, hp]; rfl)
  exact ⟨i, h3, h4, qdk hw q (List.mem_of_getElem? hp)⟩
 have hc := rixN_low ix S.own.length
 have hperm : S.accs.Perm (accs ++ rest) := by
  have := qfh S.accs 0 ax
  rw [hac] at this
  exact this
 refine Meets.frameG (rest := rest) h ix ?_ ?_ hperm (qdb hn) hlen ?_ (qf6 hrs) hargs hcl ?_
 ·rw [hcl']
  cases cl with
  | val F => simp only [Cal.ren]; rw [SV.ren_congr hc F hcl]
  | meth x name => simp only [Cal.ren]; rw [SV.ren_congr hc x hcl]
 ·rw [hargs', qam hc args hargs]
 ·intro p q hp
  obtain ⟨i, h1, h2, h3⟩ := hown' p q hp
  exact ⟨i, h1, by rw [← Blk.ren_congr hc h3]; exact h2, h3⟩
 ·intro o s' hR hwo hws
  obtain ⟨hmut, ks, hks, hK⟩ := k o s' hR
  have hsl : s'.own.length = ix.length := by have := congrArg List.length hmut; simpa [hlen] using this
  refine ⟨s'.own, [], by simp, hmut, ?_⟩
  have e1 : s'.own.map (Blk.ren (rixN ix S.own.length)) = ks := by
   rw [← hks]
   refine List.map_congr_left (fun q hq => ?_)
   exact (Blk.ren_congr hc (by rw [← hsl]; exact hws q hq)).symm
  have e2 : o.ren (rixN ix S.own.length) = o.ren (rix ix) := by
   cases o with
   | ret x => simp only [Out.ren]; rw [SV.ren_congr hc x (by rw [← hsl]; exact hwo)]
   | pan x => simp only [Out.ren]; rw [SV.ren_congr hc x (by rw [← hsl]; exact hwo)]
  rw [e1, e2]
  simpa using hK
def D.one : D → Option Value
 | .int k n => some (.int k n)
 | .bool b => some (.bool b)
 | .str s => some (.string s)
 | _ => none
theorem qgb {J : Nat → Prop} {w : World} {d : D} {u : Value} (h : D.one d = some u) (cs : List Value) : RepC J w d cs ↔ cs = [u] := by
 cases d <;> simp only [D.one, Option.some.injEq, reduceCtorEq] at h <;> subst h <;> simp only [RepC]
theorem qho {d : D} {u : Value} (h : D.one d = some u) : u.oneCell' = true ∧ u.cells = #[u] := by
 cases d <;> simp only [D.one, Option.some.injEq, reduceCtorEq] at h <;> subst h <;> exact ⟨rfl, rfl⟩
theorem RepE.setOne {J : Nat → Prop} {w : World} {d0 : D} {u : Value} (hu : D.one d0 = some u) : ∀ {ds : List D} {cs : List Value} {i : Nat}, RepE J w 1 ds cs → i < ds.length → RepE J w 1 (ds.set i d0) (cs.set i u)
 | d :: ds, cs, 0, h, _ => by
  simp only [RepE] at h
  obtain ⟨c, cs, rfl⟩ : ∃ c r, cs = c :: r := by cases cs with | nil => simp at h | cons c r => exact ⟨c, r, rfl⟩
  simp only [List.set_cons_zero, RepE, List.length_cons, List.take_succ_cons, List.take_zero, List.drop_succ_cons, List.drop_zero] at h ⊢
  exact ⟨by omega, (qgb hu _).2 rfl, h.2.2⟩
 | d :: ds, cs, i + 1, h, hlt => by
  simp only [RepE] at h
  obtain ⟨c, cs, rfl⟩ : ∃ c r, cs = c :: r := by cases cs with | nil => simp at h | cons c r => exact ⟨c, r, rfl⟩
  simp only [List.set_cons_succ, RepE, List.length_cons, List.take_succ_cons, List.take_zero, List.drop_succ_cons, List.drop_zero, List.length_set] at h ⊢
  exact ⟨h.1, h.2.1, RepE.setOne hu h.2.2 (by simpa using hlt)⟩
theorem qfv {P : Program} {tt : Tab} (hT : TTOK P tt) {t e e' : TypeId} {x ix : SV} {S : St} {K : SV → St → Prop} {a : Option Addr} {n c : Nat} {i : Int} {kk : IntKind} {ds : List D} (j : Nat) (hx : x = .v (.slice a n c)) (hi : ix = .v (.int kk i)) (ht : tt t = some (.slice e 1))
  (hacc : nth S.accs j = some ⟨.slice a n c, 1, e', ds⟩) (h0 : decide (0 ≤ i ∧ i.toNat < ds.length) = true) (h : ∀ b, a = some ⟨b, 0, none⟩ → K (.v (.pointer (some ⟨b, i.toNat, none⟩))) S) : AtPure P (fun ℓ => Instr.indexAt t (x.den ℓ) (ix.den ℓ)) S K := by
 obtain ⟨h0, hlt⟩ := of_decide_eq_true h0
 constructor
 intro J ℓ w hG hJ
 have ha : S.accs[j]? = some ⟨.slice a n c, 1, e', ds⟩ := by rw [← qz]; exact hacc
 rcases hG.accs _ (List.mem_of_getElem? ha) with ⟨_, hd⟩ | ⟨b, cap, cc, hv, _, _, _, _⟩
 ·simp only at hd; subst hd; simp at hlt
 simp only [Value.slice.injEq] at hv
 obtain ⟨rfl, rfl, rfl⟩ := hv
 have := h b rfl
 rw [← Nat.mul_one i.toNat] at this
 exact (qg5 hT hx hi ht h0 (by omega) this).sem J ℓ w hG hJ
theorem tt_cell {P : Program} {tt : Tab} (hT : TTOK P tt) {t : TypeId} (ht : (∃ z, tt t = some (.cell z)) ∨ tt t = some .str) : (∀ w, (isAgg t).run P w = .ok false w) ∧ ∀ w, (sizeOf t).run P w = .ok 1 w := by
 rcases ht with ⟨z, h⟩ | h
 ·have := hT t _ h; exact ⟨this.agg, this.size⟩
 ·have := (hT t _ h).1; exact ⟨this.agg, this.size⟩
theorem qf8 {P : Program} {tt : Tab} (hT : TTOK P tt) {t e : TypeId} {x s : SV} {S : St} {K : SV → St → Prop} {b n c i : Nat} {d : D} {u : Value} {ds ds' : List D} (j : Nat) (hacc : nth S.accs j = some ⟨.slice (some ⟨b, 0, none⟩) n c, 1, e, ds⟩) (hi : i < ds.length) (hu : D.one d = some u)
  (ht : (∃ z, tt t = some (.cell z)) ∨ tt t = some .str) (hx : x = .v (.pointer (some ⟨b, i, none⟩))) (hs : s = .v u) (hds : ds' = ds.set i d) (h : forceL (setNth S.accs j ⟨.slice (some ⟨b, 0, none⟩) n c, 1, e, ds'⟩) (fun accs => K undefS ⟨S.own, accs, S.reps⟩)) :
  AtSem P (fun ℓ => do Instr.storeAt t (x.den ℓ) (s.den ℓ); pure undef) S K := by
 subst hx hs hds
 rw [qq] at h
 obtain ⟨hu1, hu2⟩ := qho hu
 constructor
 intro J ℓ w hG hJ
 have ha : S.accs[j]? = some ⟨.slice (some ⟨b, 0, none⟩) n c, 1, e, ds⟩ := by rw [← qz]; exact hacc
 rcases hG.accs _ (List.mem_of_getElem? ha) with ⟨hv, _⟩ | ⟨b', cap, cc, hv, hb, hcs, hle, hre⟩
 ·cases hv
 simp only [Value.slice.injEq, Option.some.injEq, Addr.mk.injEq, and_true] at hv
 obtain ⟨⟨rfl, _⟩, rfl, rfl⟩ := hv
 simp only at hb hcs hle hre
 have hsz := (tt_cell hT ht).2 w
 have hicc : i < cc.size := by omega
 have hst := run_storeCells_at P b i e [u] 0 cc w hb (by simp; omega) (by simp [hu1])
 have hset : (cc.toList.take i ++ [u] ++ cc.toList.drop (i + 1)) = cc.toList.set i u := by
  rw [List.set_eq_take_append_cons_drop, if_pos (by simpa using hicc)]
  simp
 simp only [Nat.add_zero, List.length_cons, List.length_nil, Nat.zero_add, hset] at hst
 have hrow := setRow_heap w b cc (cc.toList.set i u).toArray e (0, 0) hb
 have hgood := hG.regrow (j := j) (a' := ⟨.slice (some ⟨b, 0, none⟩) ds.length c, 1, e, ds.set i d⟩) (w' := w.setRow b (cc.toList.set i u).toArray) hJ ha (by simp [World.setRow])
  (fun x hx hm => setRow_other w b x _ (fun e => hm (by simp [accBlk, e]))) (by simp [accBlk]) (fun x hx => ?_) (fun J' hj => ?_)
 ·refine ⟨undefS, ℓ, _, w.setRow b (cc.toList.set i u).toArray, ?_, rfl, List.prefix_refl _, ⟨rfl, rfl, by simp [World.setRow], fun x hx hm => setRow_other w b x _ (fun e => hm ?_)⟩, hgood.1, hgood.2, h⟩
  ·have hce : u.cells.size = 1 := by rw [hu2]; rfl
   have hcl : u.cells.toList = [u] := by rw [hu2]
   simp only [SV.den, Instr.storeAt, Instr.sureAddr, pure_bind, storeVar, Sem.run_bind, hsz, Result.andThen_ok, hce, ne_eq, not_true_eq_false, if_false, hcl, hst, Sem.run_pure, undefS, qc, undef]
  ·simp only [mutS]
   exact List.mem_append.2 (.inr (List.mem_flatMap.2 ⟨_, List.mem_of_getElem? ha, by simp [accBlk, e]⟩))
 ·simp [accBlk] at hx
  subst hx
  exact ⟨.inl (by simp [accBlk]), by simpa [World.setRow] using qad hb⟩
 ·refine .inr ⟨b, c, _, by simp, hrow, by simpa using hcs, by simpa using hle, ?_⟩
  simp only
  exact RepE.setOne hu (RepE.map hj 1 _ _ hre) hi
theorem map_set' {α : Type} (f : α → D) (l : List α) (i : Nat) (x : α) : (l.set i x).map f = (l.map f).set i (f x) := List.map_set
def mget {κ β : Type} [DecidableEq κ] : List (κ × β) → κ → Option β
 | [], _ => none
 | (k, v) :: r, n => if n = k then some v else mget r n
def mput {κ β : Type} [DecidableEq κ] (n : κ) (v : β) : List (κ × β) → List (κ × β)
 | [] => [(n, v)]
 | (k, u) :: r => if n = k then (k, v) :: r else (k, u) :: mput n v r
def encM {κ β : Type} (f : β → Value) (l : List (κ × β)) : List (κ × Value) := l.map fun p => (p.1, f p.2)
theorem qhy {β : Type} (f : β → Value) (n : ByteArray) : ∀ (l : List (ByteArray × β)), lookS (encM f l) n = (mget l n).map f
 | [] => rfl
 | (k, v) :: r => by
  have ih := qhy f n r
  simp only [encM] at ih
  simp only [encM, List.map_cons, lookS, mget]
  split
  ·rfl
  ·exact ih
theorem qgf {β : Type} (f : β → Value) (n : ByteArray) (v : β) : ∀ (l : List (ByteArray × β)), putS n (f v) (encM f l) = encM f (mput n v l)
 | [] => rfl
 | (k, u) :: r => by
  have ih := qgf f n v r
  simp only [encM] at ih
  simp only [encM, List.map_cons, putS, mput]
  split
  ·rfl
  ·simp only [List.map_cons, ih]
theorem qi1 {β : Type} (f : β → Value) (n : Int) : ∀ (l : List (Int × β)), lookM (encM f l) n = (mget l n).map f
 | [] => rfl
 | (k, v) :: r => by
  have ih := qi1 f n r
  simp only [encM] at ih
  simp only [encM, List.map_cons, lookM, mget]
  split
  ·rfl
  ·exact ih
theorem qna {β : Type} (f : β → Value) (n : Int) (v : β) : ∀ (l : List (Int × β)), putAt n (f v) (encM f l) = encM f (mput n v l)
 | [] => rfl
 | (k, u) :: r => by
  have ih := qna f n v r
  simp only [encM] at ih
  simp only [encM, List.map_cons, putAt, mput]
  split
  ·rfl
  ·simp only [List.map_cons, ih]
theorem qi3 {P : Program} {tt : Tab} (hT : TTOK P tt) {β : Type} (f : β → Value) (z : β) {t k e : TypeId} {x ix : SV} {S : St} {K : SV → St → Prop} {i : Nat} {n : ByteArray} {l : List (ByteArray × β)} {ok : Bool} (ht : tt t = some (.map k e)) (hk : P.underlying k = some .string) (hz : tt e = some (.cell (f z)))
  (hx : x = .mp i) (hi : nth S.own i = some (.obj (mapS (encM f l)))) (hix : ix = .v (.string n))
  (h : K (match ok with | true => .tup [.v (f ((mget l n).getD z)), .v (.bool (mget l n).isSome)] | false => .v (f ((mget l n).getD z))) S) : AtSem P (fun ℓ => Instr.lookup t (x.den ℓ) (ix.den ℓ) ok) S K := by
 refine at_lookupS hT (f z) ht hk (hT e _ hz).zero hx hi hix ?_ ?_
 ·intro v hv
  rw [qhy, Option.map_eq_some_iff] at hv
  obtain ⟨u, hu, rfl⟩ := hv
  cases ok <;> simpa [hu] using h
 ·intro hv
  rw [qhy, Option.map_eq_none_iff] at hv
  cases ok <;> simpa [hv] using h
theorem AtPure.le {P : Program} {m : List Base → Sem Value} {S S' : St} {K : SV → St → Prop} (h : StLe S S') (ho : S'.own = S.own) (k : AtPure P m S' K) : AtPure P m S K := by
 constructor
 intro J ℓ w hG hJ
 obtain ⟨h1, h2⟩ := h.2 J ℓ w hG
 rw [ho, ← hG.len, List.take_length] at h1 h2
 obtain ⟨r, ℓ', S'', a1, a2, a3, a4, a5, a6, a7⟩ := k.sem J ℓ w h1 hJ
 refine ⟨r, ℓ', S'', a1, a2, a3, a4, fun b hb => h2 b (a5 b hb), ?_, a7⟩
 intro i cs hi
 refine a6 i cs ?_
 rw [ho]; exact hi
end
end Go.Tr

namespace Go.Proofs.YtogicnodmgdnbaaGreat
section
open Go.Tr Go Go.Proofs.Tryz
set_option maxRecDepth 10000
theorem heads0 (hd : Int) (t : Tm) (k : Int) (l : List Int) (a a1 : OA) (c c1 : Nat) (h1 : 0 ≤ k) (h2 : k + t.height ≤ 1000000) (h3 : l.length + t.count ≤ 1000000) :
  Pure Tryz.prog (fnS 116) [tmS t a c, iS hd, iS k, .v (.slice a1 (List.map (D.int .i64) l).length c1)] [tmR t a c, (.slice a1 (List.map (D.int .i64) l).length c1, .sl 1 (List.map (D.int .i64) l))]
   (fun r out => ∃ a' c', r = .v (.slice a' (List.map (D.int .i64) (headsF hd t k l)).length c') ∧ out = [(.slice a' (List.map (D.int .i64) (headsF hd t k l)).length c', .sl 1 (List.map (D.int .i64) (headsF hd t k l)))]) := by
 have := heads_spec hd t k l a a1 c c1 h1 h2 h3
 simp only [List.length_map]
 exact this
end
end Go.Proofs.YtogicnodmgdnbaaGreat
