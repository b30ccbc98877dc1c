/- The contracts of order's match and strip. Condition: the arguments read as terms; strip: each TLam has an argument, and the term is not nested deeper than 10^6. -/
import Derived.Test.YtjjgfenincdgpaaOrdB
namespace Go.Proofs.Ytjjgfenincdgpaa
open Go.Tr Go
set_option maxRecDepth 10000

theorem match_spec (n fx st : Int) (a b : Tm) (a1 a2 : Option Addr) (c1 c2 : Nat) :
    Pure Try.prog (fnS 45) [.agg [iS n, iS fx], tmS a a1 c1, tmS b a2 c2, iS st] [tmR a a1 c1, tmR b a2 c2] (fun r out => r = bS (matchF st fx a b 0 []).1 ∧ out = []) := by
  refine spec_of_body (N := 17) (m := 0) (dt := fun _ => none) [] ttOK Try.func45 rfl Try.call45 Try.ntmps45 rfl rfl rfl mixed (by kernel_rfl) ?_
  refine at_makeMap .i64 ?_
  refine (match1_spec st n fx a b 0 [] a1 a2 c1 c2).frame [3, 4, 5, 0, 6] rfl rfl (by decide) rfl ?_ ?_ rfl rfl ?_
  · intro p q hp
    match p, hp with
    | 0, hp => simp at hp; subst hp; exact ⟨3, rfl, rfl, rfl⟩
    | 1, hp => simp at hp; subst hp; exact ⟨4, rfl, rfl, rfl⟩
    | 2, hp => simp at hp; subst hp; exact ⟨5, rfl, rfl, rfl⟩
    | 3, hp => simp at hp; subst hp; exact ⟨0, rfl, rfl, rfl⟩
    | 4, hp => simp at hp; subst hp; exact ⟨6, rfl, rfl, rfl⟩
  · intro p hp
    simp only [List.mem_cons, List.not_mem_nil, or_false] at hp
    rcases hp with rfl | rfl <;> simp
  rintro o s' ⟨rfl, rfl⟩
  refine ⟨rfl, rfl, _, rfl, ?_⟩
  exact AtRet.pure [] rfl (by simp) ⟨rfl, rfl⟩

mutual
def stripF : Tm → Tm × Nat
  | .mk o h n us => if o = 3 then stripL us (.mk o h n us) else (.mk o h n us, 0)
def stripL : List Tm → Tm → Tm × Nat
  | [], t => (t, 0)
  | u :: _, _ => ((stripF u).1, (stripF u).2 + 1)
 end

mutual
/-- Each TLam has an argument. -/
def lamOK : Tm → Bool
  | .mk o _ _ us => (o != 3 || !us.isEmpty) && lamOKL us
def lamOKL : List Tm → Bool
  | [] => true
  | u :: us => lamOK u && lamOKL us
 end

theorem lamOKL_mem : ∀ {us : List Tm} {u : Tm}, lamOKL us = true → u ∈ us → lamOK u = true
  | [], u, _, h => by simp at h
  | v :: us, u, h, hm => by
    simp only [lamOKL, Bool.and_eq_true] at h
    rcases List.mem_cons.1 hm with e | e
    · subst e; exact h.1
    · exact lamOKL_mem h.2 e

theorem lamOK_arg {t u : Tm} (h : lamOK t = true) (hu : u ∈ t.args) : lamOK u = true := by
  cases t; simp only [lamOK, Bool.and_eq_true] at h; exact lamOKL_mem h.2 hu

theorem lamOK_ne {t : Tm} (h : lamOK t = true) (ho : t.op = 3) : t.args ≠ [] := by
  cases t with
  | mk o hd n us =>
    simp only [Tm.op] at ho
    subst ho
    simp only [lamOK, Bool.and_eq_true, bne_self_eq_false, Bool.false_or] at h
    intro e
    simp only [Tm.args] at e
    subst e
    simp at h

theorem stripF_lam {t u : Tm} {us : List Tm} (ho : t.op = 3) (hu : t.args = u :: us) : stripF t = ((stripF u).1, (stripF u).2 + 1) := by
  cases t with
  | mk o hd n vs =>
    simp only [Tm.op] at ho
    simp only [Tm.args] at hu
    subst ho hu
    simp [stripF, stripL]
theorem stripF_no {t : Tm} (ho : t.op ≠ 3) : stripF t = (t, 0) := by
  cases t with
  | mk o hd n vs => simp only [Tm.op] at ho; simp [stripF, ho]

theorem strip_spec (t : Tm) (a : Option Addr) (c : Nat) (hl : lamOK t = true) (hh : t.height ≤ 1000000) : Pure Try.prog (fnS 43) [tmS t a c] [tmR t a c]
    (fun r out => ∃ a' c', r = .tup [tmS (stripF t).1 a' c', iS (stripF t).2] ∧ out = [tmR (stripF t).1 a' c']) := by
  refine spec_of_body (N := 16) (m := 0) (dt := fun _ => none) [] ttOK Try.func43 rfl Try.call43 Try.ntmps43 rfl rfl rfl mixed (by kernel_rfl) ?_
  refine AtLoop.mk ⟨Tm × Nat × Option Addr × Nat, fun x => [(4, iS x.2.1), (1, .loc 0 0), (2, .loc 1 0)], fun x => ⟨[.cells 24 [iS x.1.op, iS x.1.hd, iS x.1.n, .v (.slice x.2.2.1 (Tm.encL x.1.args).length x.2.2.2)], .cells 24 [iS 0, iS 0, iS 0, .v (.slice none 0 0)]], [], [tmR x.1 x.2.2.1 x.2.2.2]⟩,
    fun x => lamOK x.1 = true ∧ x.2.1 + x.1.height ≤ 1000000 ∧ stripF t = ((stripF x.1).1, (stripF x.1).2 + x.2.1), fun x => x.1.height, (t, 0, a, c), ⟨hl, by simpa using hh, by simp⟩, ⟨rfl, rfl, rfl, trivial⟩, StLe.refl _, fun _ _ => ⟨rfl, rfl⟩, ?_⟩
  rintro ⟨u, i, a1, c1⟩ ⟨hu, hb, hinv⟩
  simp only at hu hb hinv ⊢
  refine AtIf.mk (fun h => ?_) (fun h => ?_)
  · simp only [beq_iff_eq] at h
    have hne := lamOK_ne hu h
    obtain ⟨v, vs, hargs⟩ : ∃ v vs, u.args = v :: vs := List.exists_cons_of_ne_nil hne
    have hv : u.args[0]? = some v := by rw [hargs]; rfl
    have hvm : v ∈ u.args := List.mem_of_getElem? hv
    have hht := Tm.height_le hvm
    have hhe := Tm.height_eq u
    refine at_index ttOK 0 rfl rfl rfl rfl (by omega) (Tm.encL_get hv) ?_
    intro a2 c2 _ _
    have hw3 : IntKind.i64.wrap (i + 1) = ((i + 1 : Nat) : Int) := wrap_i64 (by omega) (by omega)
    refine ⟨(v, i + 1, a2, c2), ⟨lamOK_arg hu hvm, by simp only; omega, ?_⟩, by simp only; omega, ⟨by rw [← hw3]; rfl, rfl, rfl, trivial⟩, StLe.to _ _ rfl (by simp) rfl rfl⟩
    rw [hinv, stripF_lam h hargs]
    simp only [Nat.add_assoc, Nat.add_comm 1 i]
  · simp only [beq_eq_false_iff_ne] at h
    rw [stripF_no h] at hinv
    refine AtRet.pure [tmR u a1 c1] rfl (by simp) ?_
    rw [hinv]
    exact ⟨a1, c1, by simp, rfl⟩
end Go.Proofs.Ytjjgfenincdgpaa
