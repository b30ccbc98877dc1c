/- Orders as plain data; the contracts of order.Similar, trussref15.Similar and trusslaw15.free. Conditions: the arguments read as orders, and as a term. -/
import Derived.Test.YtjjgfenincdgpaaRef15B
namespace Go.Proofs.Ytjjgfenincdgpaa
open Go.Tr Go
set_option maxRecDepth 10000

inductive Od where
  | mk (op n : Int) (parts : List Od)

def Od.op : Od → Int | .mk o _ _ => o
def Od.n : Od → Int | .mk _ n _ => n
def Od.parts : Od → List Od | .mk _ _ p => p

mutual
def Od.enc : Od → D
  | .mk o n p => .agg [.int .i64 o, .int .i64 n, .sl 3 (Od.encL p)]
def Od.encL : List Od → List D
  | [] => []
  | t :: ts => t.enc :: Od.encL ts
 end

theorem Od.encL_eq : ∀ (l : List Od), Od.encL l = l.map Od.enc
  | [] => rfl
  | t :: ts => by simp only [Od.encL, List.map_cons, Od.encL_eq ts]
theorem Od.encL_length (l : List Od) : (Od.encL l).length = l.length := by simp [Od.encL_eq]
theorem Od.encL_get {l : List Od} {i : Nat} {t : Od} (h : l[i]? = some t) : (Od.encL l)[i]? = some (.agg [.int .i64 t.op, .int .i64 t.n, .sl 3 (Od.encL t.parts)]) := by
  rw [Od.encL_eq, List.getElem?_map, h]; cases t; rfl

theorem Od.ind {motive : Od → Prop} (h : ∀ t, (∀ x ∈ t.parts, motive x) → motive t) (t : Od) : motive t := by
  induction t using Od.rec (motive_2 := fun ts => ∀ x ∈ ts, motive x) with
  | nil => rename_i x hx; cases hx
  | cons t ts ih1 ih2 => rename_i x hx; rcases List.mem_cons.1 hx with e | e; (subst e; exact ih1); exact ih2 x e
  | mk op n parts ih => exact h _ ih

abbrev odS (t : Od) (a : Option Addr) (c : Nat) : SV := .agg [.v (.int .i64 t.op), .v (.int .i64 t.n), .v (.slice a (Od.encL t.parts).length c)]
abbrev odR (t : Od) (a : Option Addr) (c : Nat) : Value × D := (.slice a (Od.encL t.parts).length c, .sl 3 (Od.encL t.parts))

mutual
def simF : Od → Od → Bool
  | .mk o _ us, b => o == b.op && (us.length == b.parts.length && simL us b.parts)
def simL : List Od → List Od → Bool
  | u :: us, v :: vs => simF u v && simL us vs
  | _, _ => true
 end
theorem simF_eq (a b : Od) : simF a b = (a.op == b.op && (a.parts.length == b.parts.length && simL a.parts b.parts)) := by cases a; rfl

/-- slices.EqualFunc at orders, asking whether they are similar. -/
theorem equalOrders_spec (us vs : List Od) (a1 a2 : Option Addr) (c1 c2 : Nat)
    (hg : ∀ x ∈ us, ∀ y b1 b2 d1 d2, Pure Try.prog (fnS 20) [odS x b1 d1, odS y b2 d2] [odR x b1 d1, odR y b2 d2] (fun r out => r = bS (simF x y) ∧ out = [])) :
    Pure Try.prog (fnS 39) [.v (.slice a1 (Od.encL us).length c1), .v (.slice a2 (Od.encL vs).length c2), fS 20] [(.slice a1 (Od.encL us).length c1, .sl 3 (Od.encL us)), (.slice a2 (Od.encL vs).length c2, .sl 3 (Od.encL vs))]
      (fun r out => r = bS (us.length == vs.length && simL us vs) ∧ out = []) := by
  refine Meets.of_ok fun hok => ?_
  have hB : (Od.encL us).length ≤ 1152921504606846976 := (hok _ (List.mem_cons_self ..)).1
  have hla := Od.encL_length us
  have hlb := Od.encL_length vs
  refine spec_of_body (N := 32) (m := 0) (dt := fun _ => none) [] ttOK Try.func39 rfl Try.call39 Try.ntmps39 rfl rfl rfl mixed (by kernel_rfl) ?_
  refine AtIf.mk (fun h => ?_) (fun h => ?_)
  · refine AtRet.pure [] rfl (by simp) ⟨?_, rfl⟩
    have hne : (us.length == vs.length) = false := by
      rw [hla, hlb] at h
      simp only [bne_iff_ne, ne_eq, Int.natCast_inj] at h
      simpa using h
    rw [hne]; rfl
  have hlen : us.length = vs.length := by
    rw [hla, hlb] at h
    simpa only [bne_eq_false_iff_eq, Int.natCast_inj] using h
  refine AtLoop.mk ⟨Nat, fun i => [(17, iS i), (16, iS (Od.encL us).length), (15, .v (.slice a1 (Od.encL us).length c1)), (1, .v (.slice a2 (Od.encL vs).length c2)), (2, fS 20)], fun _ => ⟨[], [], [(.slice a1 (Od.encL us).length c1, .sl 3 (Od.encL us)), (.slice a2 (Od.encL vs).length c2, .sl 3 (Od.encL vs))]⟩,
    fun i => i ≤ us.length ∧ simL us vs = simL (us.drop i) (vs.drop i), fun i => us.length - i, 0, ⟨Nat.zero_le _, rfl⟩, ⟨rfl, rfl, rfl, rfl, rfl, trivial⟩, StLe.refl _, fun _ _ => ⟨rfl, rfl⟩, ?_⟩
  rintro i ⟨hi, hinv⟩
  refine AtIf.mk (fun h1 => ?_) (fun h1 => ?_)
  · simp only [decide_eq_true_eq, hla] at h1
    obtain ⟨x, hx⟩ : ∃ x, us[i]? = some x := ⟨_, List.getElem?_eq_getElem (by omega)⟩
    obtain ⟨y, hy⟩ : ∃ y, vs[i]? = some y := ⟨_, List.getElem?_eq_getElem (by omega)⟩
    refine at_index ttOK 0 rfl rfl rfl rfl (by omega) (by rw [Int.toNat_natCast]; exact Od.encL_get hx) ?_
    intro b1 d1 _ _
    refine at_index ttOK 1 rfl rfl rfl rfl (by omega) (by rw [Int.toNat_natCast]; exact Od.encL_get hy) ?_
    intro b2 d2 _ _
    refine (hg x (List.mem_of_getElem? hx) y b1 b2 d1 d2).at (by simp) rfl rfl ?_
    rintro r out ⟨rfl, rfl⟩
    rw [drop_cons hx, drop_cons hy, simL] at hinv
    refine AtIf.mk (fun h2 => ?_) (fun h2 => ?_)
    · refine AtRet.pure [] rfl (by simp) ⟨?_, rfl⟩
      have hp : simF x y = false := by simpa using h2
      rw [hinv, hp]
      simp
    · have hp : simF x y = true := by simpa using h2
      have hw3 : IntKind.i64.wrap (i + 1) = ((i + 1 : Nat) : Int) := wrap_i64 (by omega) (by omega)
      refine ⟨i + 1, ⟨by omega, by rw [hinv, hp]; rfl⟩, by simp only; omega, ⟨by rw [← hw3]; rfl, rfl, rfl, rfl, rfl, trivial⟩, StLe.to _ _ rfl (by simp) rfl rfl⟩
  · refine AtRet.pure [] rfl (by simp) ⟨?_, rfl⟩
    simp only [decide_eq_false_iff_not, hla] at h1
    rw [hinv, List.drop_of_length_le (by omega), hlen]
    simp [simL]

theorem similar_spec (a : Od) : ∀ (b : Od) (a1 a2 : Option Addr) (c1 c2 : Nat), Pure Try.prog (fnS 20) [odS a a1 c1, odS b a2 c2] [odR a a1 c1, odR b a2 c2] (fun r out => r = bS (simF a b) ∧ out = []) := by
  induction a using Od.ind with
  | h a ih =>
  intro b a1 a2 c1 c2
  refine spec_of_body (N := 17) (m := 0) (dt := fun _ => none) [] ttOK Try.func20 rfl Try.call20 Try.ntmps20 rfl rfl rfl mixed (by kernel_rfl) ?_
  have hE := equalOrders_spec a.parts b.parts a1 a2 c1 c2 (fun x hx y b1 b2 d1 d2 => ih x hx y b1 b2 d1 d2)
  have hF := simF_eq a b
  refine AtGuard.mk (fun h1 => ?_) (fun h1 => ?_)
  · refine hE.at (by simp) rfl rfl ?_
    rintro r out ⟨rfl, rfl⟩
    refine AtRet.pure [] rfl (by simp) ⟨?_, rfl⟩
    have h1 : (a.op == b.op) = true := h1
    rw [hF, h1]
    rfl
  · refine AtRet.pure [] rfl (by simp) ⟨?_, rfl⟩
    have h1 : (a.op == b.op) = false := h1
    rw [hF, h1]
    rfl

theorem refSimilar_spec (t : Od) : ∀ (u : Od) (a1 a2 : Option Addr) (c1 c2 : Nat), Pure Try.prog (fnS 21) [odS t a1 c1, odS u a2 c2] [odR t a1 c1, odR u a2 c2] (fun r out => r = bS (simF t u) ∧ out = []) := by
  induction t using Od.ind with
  | h t ih =>
  intro u a1 a2 c1 c2
  refine Meets.of_ok fun hok => ?_
  have hB : (Od.encL t.parts).length ≤ 1152921504606846976 := (hok _ (List.mem_cons_self ..)).1
  have hlen := Od.encL_length t.parts
  have hlen2 := Od.encL_length u.parts
  have hF := simF_eq t u
  refine spec_of_body (N := 39) (m := 0) (dt := drawsOf [(6, .node [0, 1, 2, 3, 4, 5, 6, 7, 8, 9] [(10, .leaf [11])], [10])]) [] ttOK Try.func21 rfl Try.call21 Try.ntmps21 rfl rfl rfl mixed (by kernel_rfl) ?_
  refine AtIf.mk (fun h1 => ?_) (fun h1 => ?_)
  · refine AtRet.pure [] rfl (by simp) ⟨?_, rfl⟩
    simp only [hlen, hlen2] at h1
    have : simF t u = false := by
      rw [hF]
      simp at h1 ⊢
      intro e1 e2
      omega
    rw [this]
  have hl : t.parts.length = u.parts.length := by
    simp only [hlen, hlen2] at h1
    simp at h1
    omega
  have hF : simF t u = simL t.parts u.parts := by
    simp only [hlen, hlen2] at h1
    simp at h1
    rw [hF]
    simp [h1.1, hl]
  refine AtLoop.mk ⟨Nat, fun i => [(5, iS i), (2, .loc 0 0), (3, .loc 1 0)], fun _ => ⟨[.cells 41 [iS t.op, iS t.n, .v (.slice a1 (Od.encL t.parts).length c1)], .cells 41 [iS u.op, iS u.n, .v (.slice a2 (Od.encL u.parts).length c2)]], [], [odR t a1 c1, odR u a2 c2]⟩,
    fun i => i ≤ t.parts.length ∧ simF t u = simL (t.parts.drop i) (u.parts.drop i), fun i => t.parts.length - i, 0, ⟨Nat.zero_le _, hF⟩, ⟨rfl, rfl, rfl, trivial⟩, StLe.refl _, fun _ _ => ⟨rfl, rfl⟩, ?_⟩
  rintro i ⟨hi, hinv⟩
  refine AtIf.mk (fun h1 => ?_) (fun h1 => ?_)
  · simp only [decide_eq_true_eq, hlen] at h1
    obtain ⟨x, hx⟩ : ∃ x, t.parts[i]? = some x := ⟨_, List.getElem?_eq_getElem (by omega)⟩
    obtain ⟨y, hy⟩ : ∃ y, u.parts[i]? = some y := ⟨_, List.getElem?_eq_getElem (by omega)⟩
    refine at_index ttOK 0 rfl rfl rfl rfl (by omega) (by rw [Int.toNat_natCast]; exact Od.encL_get hx) ?_
    intro b1 d1 _ _
    refine at_index ttOK 1 rfl rfl rfl rfl (by omega) (by rw [Int.toNat_natCast]; exact Od.encL_get hy) ?_
    intro b2 d2 _ _
    refine (ih x (List.mem_of_getElem? hx) y b1 b2 d1 d2).at (by simp) rfl rfl ?_
    rintro r out ⟨rfl, rfl⟩
    rw [drop_cons hx, drop_cons hy, simL] at hinv
    refine AtIf.mk (fun h2 => ?_) (fun h2 => ?_)
    · have h2 : simF x y = false := by simpa using h2
      exact AtRet.pure [] rfl (by simp) ⟨by rw [hinv, h2]; rfl, rfl⟩
    · have h2 : simF x y = true := by simpa using h2
      have hw3 : IntKind.i64.wrap (i + 1) = ((i + 1 : Nat) : Int) := wrap_i64 (by omega) (by omega)
      exact ⟨i + 1, ⟨by omega, by rw [hinv, h2]; rfl⟩, by simp only; omega, ⟨by rw [← hw3]; rfl, rfl, rfl, trivial⟩, StLe.to _ _ rfl (by simp) rfl rfl⟩
  · simp only [decide_eq_false_iff_not, hlen] at h1
    rw [List.drop_of_length_le (by omega)] at hinv
    exact AtRet.pure [] rfl (by simp) ⟨by rw [hinv]; rfl, rfl⟩

/-- What trusslaw15.free answers. -/
def lawFree (t : Tm) (n : Int) : Bool := isProper t && match (headsF 1 t 0 []).getLast? with
  | none => true
  | some k => decide (k < n)

theorem lawFree_spec (t : Tm) (n : Int) (a : Option Addr) (c : Nat) : Pure Try.prog (fnS 10) [tmS t a c, iS n] [tmR t a c] (fun r out => r = bS (lawFree t n) ∧ out = []) := by
  refine spec_of_body (N := 24) (m := 0) (dt := fun _ => none) [] ttOK Try.func10 rfl Try.call10 Try.ntmps10 rfl rfl rfl mixed (by kernel_rfl) ?_
  refine (refProper_spec t a c).at (by simp) rfl rfl ?_
  rintro r out ⟨rfl, rfl⟩
  rw [refProper_eq]
  refine AtIf.mk (fun h => ?_) (fun h => ?_)
  · have h : isProper t = false := by simpa using h
    exact AtRet.pure [] rfl (by simp) ⟨by rw [lawFree, h]; rfl, rfl⟩
  have hp : isProper t = true := by simpa using h
  have hpp := (isProper_iff t).1 hp
  refine (refFree_spec t a c (by omega) (by omega)).at (by simp) rfl rfl ?_
  rintro r out ⟨a1, c1, rfl, rfl⟩
  have hL : lawFree t n = match (headsF 1 t 0 []).getLast? with
    | none => true
    | some k => decide (k < n) := by rw [lawFree, hp, Bool.true_and]
  have hll := headsF_length 1 t 0 []
  generalize headsF 1 t 0 [] = l at hL hll ⊢
  refine AtGuard.mk (fun h1 => ?_) (fun h1 => ?_)
  · have h1 : l.length ≠ 0 := by
      intro e
      simp [e] at h1
    have hw : IntKind.i64.wrap ((l.length : Int) - 1) = ((l.length - 1 : Nat) : Int) := by
      simp at hll
      rw [wrap_i64 (by omega) (by omega)]; omega
    obtain ⟨x, hx⟩ : ∃ x, l[l.length - 1]? = some x := ⟨_, List.getElem?_eq_getElem (by omega)⟩
    refine at_index ttOK 1 rfl rfl rfl rfl (by rw [hw]; omega) (by rw [hw, Int.toNat_natCast]; exact ints_get hx) ?_
    refine AtRet.pure [] rfl (by simp) ⟨?_, rfl⟩
    rw [hL, List.getLast?_eq_getElem?, hx]
  · have h1 : l.length = 0 := by simpa using h1
    refine AtRet.pure [] rfl (by simp) ⟨?_, rfl⟩
    have : l = [] := List.eq_nil_of_length_eq_zero h1
    subst this
    rw [hL]
    rfl
end Go.Proofs.Ytjjgfenincdgpaa
