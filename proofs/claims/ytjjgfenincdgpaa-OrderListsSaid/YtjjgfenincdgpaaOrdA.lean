/- The contracts of order.isScope, order.isObject, term.Same. Condition: the arguments read as terms. -/
import Derived.Test.YtjjgfenincdgpaaFree
namespace Go.Proofs.Ytjjgfenincdgpaa
open Go.Tr Go
set_option maxRecDepth 10000

def isScopeF (n fixed : Int) : Bool := ((decide (n ≥ 0) && decide (n ≤ 30)) && decide (fixed ≥ 0)) && decide (fixed ≤ n)

theorem isScope_spec (n fixed : Int) : Pure Try.prog (fnS 24) [iS n, iS fixed] [] (fun r out => r = bS (isScopeF n fixed) ∧ out = []) := by
  refine spec_of_body (N := 20) (m := 0) (dt := fun _ => none) [] ttOK Try.func24 rfl Try.call24 Try.ntmps24 rfl rfl rfl mixed (by kernel_rfl) ?_
  exact AtRet.pure [] rfl (by simp) ⟨rfl, rfl⟩

theorem encL_ints_get {l : List Int} {i : Nat} {k : Int} (h : l[i]? = some k) : (l.map (D.int .i64))[i]? = some (.int .i64 k) := by simp [h]

/-- All free numbers are below n. -/
def isObjectF (t : Tm) (n : Int) : Bool := isProper t && match (numsOf freeOf t).getLast? with
  | none => true
  | some k => decide (k < n)

theorem isObject_spec (t : Tm) (a : Option Addr) (c : Nat) (n : Int) : Pure Try.prog (fnS 25) [tmS t a c, iS n] [tmR t a c] (fun r out => r = bS (isObjectF t n) ∧ out = []) := by
  refine spec_of_body (N := 29) (m := 0) (dt := fun _ => none) [] ttOK Try.func25 rfl Try.call25 Try.ntmps25 rfl rfl rfl mixed (by kernel_rfl) ?_
  refine (free_spec t a c).opened.at (by simp) rfl rfl ?_
  rintro r out ⟨⟨hp, rfl, rfl⟩ | ⟨hp, v, rfl, rfl⟩, ho⟩
  · refine AtGuard.mk (fun h => by cases h) (fun _ => ?_)
    exact AtRet.pure [] rfl (by simp) ⟨by simp [isObjectF, hp], rfl⟩
  · obtain ⟨a', c', rfl, hle, hle2⟩ := ho _ (List.mem_singleton.2 rfl)
    refine AtGuard.mk (fun _ => ?_) (fun h => by cases h)
    have hlen : ((numsOf freeOf t).map (D.int .i64)).length = (numsOf freeOf t).length := List.length_map _
    refine AtGuard.mk (fun h => ?_) (fun h => ?_)
    · have hne : numsOf freeOf t ≠ [] := fun e => by rw [e] at h; simp at h
      have hpos : 0 < (numsOf freeOf t).length := List.length_pos_iff.2 hne
      have hw : IntKind.i64.wrap ((((numsOf freeOf t).map (D.int .i64)).length : Int) - 1) = ((numsOf freeOf t).length - 1 : Nat) := by rw [hlen, wrap_i64 (by omega) (by rw [hlen] at hle2; omega)]; omega
      have hget : (numsOf freeOf t)[(numsOf freeOf t).length - 1]? = some ((numsOf freeOf t).getLast hne) := by rw [List.getLast_eq_getElem, List.getElem?_eq_getElem]
      refine at_index ttOK 1 rfl (by rw [hw]) rfl rfl (by omega) (by rw [Int.toNat_natCast]; exact encL_ints_get hget) ?_
      refine AtRet.pure [] rfl (by simp) ⟨?_, rfl⟩
      simp only [isObjectF, hp, List.getLast?_eq_some_getLast hne]
      rfl
    · refine AtRet.pure [] rfl (by simp) ⟨?_, rfl⟩
      have he : numsOf freeOf t = [] := by
        rw [hlen] at h
        exact List.eq_nil_of_length_eq_zero (by simpa using h)
      simp [isObjectF, hp, he]

def all2 (p : Tm → Tm → Bool) : List Tm → List Tm → Bool
  | a :: us, b :: vs => p a b && all2 p us vs
  | _, _ => true

theorem all2_drop {p : Tm → Tm → Bool} {us vs : List Tm} {i : Nat} {x y : Tm} (hx : us[i]? = some x) (hy : vs[i]? = some y) : all2 p (us.drop i) (vs.drop i) = (p x y && all2 p (us.drop (i + 1)) (vs.drop (i + 1))) := by
  have h1 := List.getElem?_eq_some_iff.1 hx
  have h2 := List.getElem?_eq_some_iff.1 hy
  rw [List.drop_eq_getElem_cons h1.1, List.drop_eq_getElem_cons h2.1, h1.2, h2.2]
  rfl

/-- slices.EqualFunc at terms, by what the function that it asks answers. -/
theorem equalTerms_spec (g : Nat) (p : Tm → Tm → Bool) (us vs : List Tm) (a1 a2 : Option Addr) (c1 c2 : Nat)
    (hg : ∀ x ∈ us, ∀ y b1 b2 d1 d2, Pure Try.prog (fnS g) [tmS x b1 d1, tmS y b2 d2] [tmR x b1 d1, tmR y b2 d2] (fun r out => r = bS (p x y) ∧ out = [])) :
    Pure Try.prog (fnS 55) [.v (.slice a1 (Tm.encL us).length c1), .v (.slice a2 (Tm.encL vs).length c2), fS g] [(.slice a1 (Tm.encL us).length c1, .sl 4 (Tm.encL us)), (.slice a2 (Tm.encL vs).length c2, .sl 4 (Tm.encL vs))]
      (fun r out => r = bS (us.length == vs.length && all2 p us vs) ∧ out = []) := by
  refine Meets.of_ok fun hok => ?_
  have hB : (Tm.encL us).length ≤ 1152921504606846976 := (hok _ (List.mem_cons_self ..)).1
  have hla := Tm.encL_length us
  have hlb := Tm.encL_length vs
  refine spec_of_body (N := 32) (m := 0) (dt := fun _ => none) [] ttOK Try.func55 rfl Try.call55 Try.ntmps55 rfl rfl rfl mixed (by kernel_rfl) ?_
  refine AtIf.mk (fun h => ?_) (fun h => ?_)
  · refine AtRet.pure [] rfl (by simp) ⟨?_, rfl⟩
    have hne : (us.length == vs.length) = false := by
      rw [hla, hlb] at h
      simp only [bne_iff_ne, ne_eq, Int.natCast_inj] at h
      simpa using h
    rw [hne]; rfl
  have hlen : us.length = vs.length := by
    rw [hla, hlb] at h
    simpa only [bne_eq_false_iff_eq, Int.natCast_inj] using h
  refine AtLoop.mk ⟨Nat, fun i => [(17, iS i), (16, iS (Tm.encL us).length), (15, .v (.slice a1 (Tm.encL us).length c1)), (1, .v (.slice a2 (Tm.encL vs).length c2)), (2, fS g)], fun _ => ⟨[], [], [(.slice a1 (Tm.encL us).length c1, .sl 4 (Tm.encL us)), (.slice a2 (Tm.encL vs).length c2, .sl 4 (Tm.encL vs))]⟩,
    fun i => i ≤ us.length ∧ all2 p us vs = all2 p (us.drop i) (vs.drop i), fun i => us.length - i, 0, ⟨Nat.zero_le _, rfl⟩, ⟨rfl, rfl, rfl, rfl, rfl, trivial⟩, StLe.refl _, fun _ _ => ⟨rfl, rfl⟩, ?_⟩
  rintro i ⟨hi, hinv⟩
  refine AtIf.mk (fun h1 => ?_) (fun h1 => ?_)
  · simp only [decide_eq_true_eq, hla] at h1
    obtain ⟨x, hx⟩ : ∃ x, us[i]? = some x := ⟨_, List.getElem?_eq_getElem (by omega)⟩
    obtain ⟨y, hy⟩ : ∃ y, vs[i]? = some y := ⟨_, List.getElem?_eq_getElem (by omega)⟩
    refine at_index ttOK 0 rfl rfl rfl rfl (by omega) (by rw [Int.toNat_natCast]; exact Tm.encL_get hx) ?_
    intro b1 d1 _ _
    refine at_index ttOK 1 rfl rfl rfl rfl (by omega) (by rw [Int.toNat_natCast]; exact Tm.encL_get hy) ?_
    intro b2 d2 _ _
    refine (hg x (List.mem_of_getElem? hx) y b1 b2 d1 d2).at (by simp) rfl rfl ?_
    rintro r out ⟨rfl, rfl⟩
    have hstep := all2_drop (p := p) hx hy
    refine AtIf.mk (fun h2 => ?_) (fun h2 => ?_)
    · refine AtRet.pure [] rfl (by simp) ⟨?_, rfl⟩
      have hp : p x y = false := by simpa using h2
      rw [hinv, hstep, hp]
      simp
    · have hp : p x y = true := by simpa using h2
      have hw3 : IntKind.i64.wrap (i + 1) = ((i + 1 : Nat) : Int) := wrap_i64 (by omega) (by omega)
      refine ⟨i + 1, ⟨by omega, by rw [hinv, hstep, hp]; rfl⟩, by simp only; omega, ⟨by rw [← hw3]; rfl, rfl, rfl, rfl, rfl, trivial⟩, StLe.to _ _ rfl (by simp) rfl rfl⟩
  · refine AtRet.pure [] rfl (by simp) ⟨?_, rfl⟩
    simp only [decide_eq_false_iff_not, hla] at h1
    rw [hinv, List.drop_of_length_le (by omega), hlen]
    simp [all2]

mutual
def sameF : Tm → Tm → Bool
  | .mk o h n us, b => ((o == b.op && h == b.hd) && n == b.n) && (us.length == b.args.length && sameL us b.args)
def sameL : List Tm → List Tm → Bool
  | u :: us, v :: vs => sameF u v && sameL us vs
  | _, _ => true
 end
theorem sameF_eq (a b : Tm) : sameF a b = (((a.op == b.op && a.hd == b.hd) && a.n == b.n) && (a.args.length == b.args.length && sameL a.args b.args)) := by cases a; rfl
theorem all2_same : ∀ (us vs : List Tm), all2 sameF us vs = sameL us vs
  | [], _ => by simp [all2, sameL]
  | _ :: _, [] => by simp [all2, sameL]
  | u :: us, v :: vs => by simp only [all2, sameL, all2_same us vs]

theorem same_spec (a : Tm) : ∀ (b : Tm) (a1 a2 : Option Addr) (c1 c2 : Nat), Pure Try.prog (fnS 42) [tmS a a1 c1, tmS b a2 c2] [tmR a a1 c1, tmR b a2 c2] (fun r out => r = bS (sameF a b) ∧ out = []) := by
  induction a using Tm.ind with
  | h a ih =>
  intro b a1 a2 c1 c2
  refine spec_of_body (N := 31) (m := 0) (dt := fun _ => none) [] ttOK Try.func42 rfl Try.call42 Try.ntmps42 rfl rfl rfl mixed (by kernel_rfl) ?_
  have hE := equalTerms_spec 42 sameF a.args b.args a1 a2 c1 c2 (fun x hx y b1 b2 d1 d2 => ih x hx y b1 b2 d1 d2)
  have hF := sameF_eq a b
  refine AtGuard.mk (fun h1 => ?_) (fun h1 => ?_)
  · refine hE.at (by simp) rfl rfl ?_
    rintro r out ⟨rfl, rfl⟩
    refine AtRet.pure [] rfl (by simp) ⟨?_, rfl⟩
    rw [hF, h1, ← all2_same]
    rfl
  · refine AtRet.pure [] rfl (by simp) ⟨?_, rfl⟩
    rw [hF, h1]
    rfl
end Go.Proofs.Ytjjgfenincdgpaa
