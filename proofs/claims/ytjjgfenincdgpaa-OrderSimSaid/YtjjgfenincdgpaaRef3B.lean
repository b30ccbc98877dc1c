/- The contracts of trussref03's Depth, Size, Same, below and low. Conditions: the arguments read as terms; Depth and low: nested at most 10^6 deep, and small numbers of binders. -/
import Derived.Test.YtjjgfenincdgpaaRef3A
namespace Go.Proofs.Ytjjgfenincdgpaa
open Go.Tr Go
set_option maxRecDepth 10000

theorem heightL_drop : ∀ (us : List Tm) (i : Nat) (x : Tm), us[i]? = some x → Tm.heightL (us.drop i) = max x.height (Tm.heightL (us.drop (i + 1))) := by
  intro us i x hx
  rw [drop_cons hx]
  rfl

theorem depth_spec (t : Tm) : ∀ (a : Option Addr) (c : Nat), t.height ≤ 1000000 → Pure Try.prog (fnS 30) [tmS t a c] [tmR t a c] (fun r out => r = iS t.height ∧ out = []) := by
  induction t using Tm.ind with
  | h t ih =>
  intro a c hh
  refine Meets.of_ok fun hok => ?_
  have hB : (Tm.encL t.args).length ≤ 1152921504606846976 := (hok _ (List.mem_cons_self ..)).1
  have hlen := Tm.encL_length t.args
  have hth := Tm.height_eq t
  refine spec_of_body (N := 22) (m := 0) (dt := fun _ => none) [] ttOK Try.func30 rfl Try.call30 Try.ntmps30 rfl rfl rfl mixed (by kernel_rfl) ?_
  refine AtLoop.mk ⟨Nat × Nat, fun x => [(4, iS x.1), (3, iS x.2), (1, .loc 0 0)], fun _ => ⟨[.cells 24 [iS t.op, iS t.hd, iS t.n, .v (.slice a (Tm.encL t.args).length c)]], [], [tmR t a c]⟩,
    fun x => x.1 ≤ t.args.length ∧ Tm.heightL t.args = max x.2 (Tm.heightL (t.args.drop x.1)), fun x => t.args.length - x.1, (0, 0), ⟨Nat.zero_le _, by simp⟩, ⟨rfl, rfl, rfl, trivial⟩, StLe.refl _, fun _ _ => ⟨rfl, rfl⟩, ?_⟩
  rintro ⟨i, d⟩ ⟨hi, hinv⟩
  simp only at hi hinv ⊢
  refine AtIf.mk (fun h1 => ?_) (fun h1 => ?_)
  · simp only [decide_eq_true_eq, hlen] at h1
    obtain ⟨x, hx⟩ : ∃ x, t.args[i]? = some x := ⟨_, List.getElem?_eq_getElem (by omega)⟩
    have hxm := List.mem_of_getElem? hx
    have hxh := Tm.height_le hxm
    refine at_index ttOK 0 rfl rfl rfl rfl (by omega) (by rw [Int.toNat_natCast]; exact Tm.encL_get hx) ?_
    intro a1 c1 _ _
    refine (ih x hxm a1 c1 (by omega)).at (by simp) rfl rfl ?_
    rintro r out ⟨rfl, rfl⟩
    refine at_max ?_
    have hw3 : IntKind.i64.wrap (i + 1) = ((i + 1 : Nat) : Int) := wrap_i64 (by omega) (by omega)
    have hm : (if (x.height : Int) > d then (x.height : Int) else d) = ((max d x.height : Nat) : Int) := by
      split <;> omega
    refine ⟨(i + 1, max d x.height), ⟨by omega, ?_⟩, by simp only; omega, ⟨by rw [← hw3]; rfl, by simp only [hm]; rfl, rfl, trivial⟩, StLe.to _ _ rfl (by simp) rfl rfl⟩
    rw [hinv, heightL_drop _ _ _ hx, Nat.max_assoc]
  · simp only [decide_eq_false_iff_not, hlen] at h1
    rw [List.drop_of_length_le (by omega)] at hinv
    simp only [Tm.heightL, Nat.max_zero] at hinv
    have hw3 : IntKind.i64.wrap (d + 1) = ((d + 1 : Nat) : Int) := wrap_i64 (by omega) (by omega)
    refine AtRet.pure [] rfl (by simp) ⟨?_, rfl⟩
    rw [hw3]
    have : t.height = d + 1 := by omega
    rw [this]

theorem size_spec (t : Tm) (a : Option Addr) (c : Nat) (hh : t.height ≤ 1000000) : Pure Try.prog (fnS 13) [tmS t a c] [tmR t a c] (fun r out => r = .tup [iS (nodesF t 600), iS t.height] ∧ out = []) := by
  refine spec_of_body (N := 8) (m := 0) (dt := drawsOf [(1, .node [0, 2] [(1, .node [] [(3, .leaf [4, 5])])], [3])]) [] ttOK Try.func13 rfl Try.call13 Try.ntmps13 rfl rfl rfl mixed (by kernel_rfl) ?_
  refine (nodes_spec t 600 a c (by omega) (by omega)).at (by simp) rfl rfl ?_
  rintro r out ⟨rfl, rfl⟩
  refine ⟨fun _ _ h => h, ?_⟩
  refine (depth_spec t a c hh).at (by simp) rfl rfl ?_
  rintro r out ⟨rfl, rfl⟩
  exact AtRet.pure [] rfl (by simp) ⟨rfl, rfl⟩

theorem refSame_spec (t : Tm) : ∀ (u : Tm) (a1 a2 : Option Addr) (c1 c2 : Nat), Pure Try.prog (fnS 14) [tmS t a1 c1, tmS u a2 c2] [tmR t a1 c1, tmR u a2 c2] (fun r out => r = bS (sameF t u) ∧ out = []) := by
  induction t using Tm.ind with
  | h t ih =>
  intro u a1 a2 c1 c2
  refine Meets.of_ok fun hok => ?_
  have hB : (Tm.encL t.args).length ≤ 1152921504606846976 := (hok _ (List.mem_cons_self ..)).1
  have hlen := Tm.encL_length t.args
  have hlen2 := Tm.encL_length u.args
  have hF := sameF_eq t u
  refine spec_of_body (N := 53) (m := 0) (dt := drawsOf [(6, .node [0, 1, 2, 3, 4, 5, 6, 7, 8, 9] [(10, .leaf [11])], [10])]) [] ttOK Try.func14 rfl Try.call14 Try.ntmps14 rfl rfl rfl mixed (by kernel_rfl) ?_
  refine AtIf.mk (fun h1 => ?_) (fun h1 => ?_)
  · refine AtRet.pure [] rfl (by simp) ⟨?_, rfl⟩
    simp only [hlen, hlen2] at h1
    have : sameF t u = false := by
      rw [hF]
      simp at h1 ⊢
      intro e1 e2 e3 e4
      omega
    rw [this]
  have hl : t.args.length = u.args.length := by
    simp only [hlen, hlen2] at h1
    simp at h1
    omega
  have hF : sameF t u = sameL t.args u.args := by
    simp only [hlen, hlen2] at h1
    simp at h1
    obtain ⟨⟨⟨e1, e2⟩, e3⟩, e4⟩ := h1
    rw [hF]
    simp [e1, e2, e3, hl]
  refine AtLoop.mk ⟨Nat, fun i => [(5, iS i), (2, .loc 0 0), (3, .loc 1 0)], fun _ => ⟨[.cells 24 [iS t.op, iS t.hd, iS t.n, .v (.slice a1 (Tm.encL t.args).length c1)], .cells 24 [iS u.op, iS u.hd, iS u.n, .v (.slice a2 (Tm.encL u.args).length c2)]], [], [tmR t a1 c1, tmR u a2 c2]⟩,
    fun i => i ≤ t.args.length ∧ sameF t u = sameL (t.args.drop i) (u.args.drop i), fun i => t.args.length - i, 0, ⟨Nat.zero_le _, hF⟩, ⟨rfl, rfl, rfl, trivial⟩, StLe.refl _, fun _ _ => ⟨rfl, rfl⟩, ?_⟩
  rintro i ⟨hi, hinv⟩
  refine AtIf.mk (fun h1 => ?_) (fun h1 => ?_)
  · simp only [decide_eq_true_eq, hlen] at h1
    obtain ⟨x, hx⟩ : ∃ x, t.args[i]? = some x := ⟨_, List.getElem?_eq_getElem (by omega)⟩
    obtain ⟨y, hy⟩ : ∃ y, u.args[i]? = some y := ⟨_, List.getElem?_eq_getElem (by omega)⟩
    refine at_index ttOK 0 rfl rfl rfl rfl (by omega) (by rw [Int.toNat_natCast]; exact Tm.encL_get hx) ?_
    intro b1 d1 _ _
    refine at_index ttOK 1 rfl rfl rfl rfl (by omega) (by rw [Int.toNat_natCast]; exact Tm.encL_get hy) ?_
    intro b2 d2 _ _
    refine (ih x (List.mem_of_getElem? hx) y b1 b2 d1 d2).at (by simp) rfl rfl ?_
    rintro r out ⟨rfl, rfl⟩
    rw [drop_cons hx, drop_cons hy, sameL] at hinv
    refine AtIf.mk (fun h2 => ?_) (fun h2 => ?_)
    · have h2 : sameF x y = false := by simpa using h2
      exact AtRet.pure [] rfl (by simp) ⟨by rw [hinv, h2]; rfl, rfl⟩
    · have h2 : sameF x y = true := by simpa using h2
      have hw3 : IntKind.i64.wrap (i + 1) = ((i + 1 : Nat) : Int) := wrap_i64 (by omega) (by omega)
      exact ⟨i + 1, ⟨by omega, by rw [hinv, h2]; rfl⟩, by simp only; omega, ⟨by rw [← hw3]; rfl, rfl, rfl, trivial⟩, StLe.to _ _ rfl (by simp) rfl rfl⟩
  · simp only [decide_eq_false_iff_not, hlen] at h1
    rw [List.drop_of_length_le (by omega)] at hinv
    exact AtRet.pure [] rfl (by simp) ⟨by rw [hinv]; rfl, rfl⟩

theorem below_spec (t : Tm) (a : Option Addr) (c : Nat) (i : Int) : Pure Try.prog (fnS 49) [tmS t a c, iS i] [] (fun r out => r = iS (under t.op i) ∧ out = []) := by
  refine spec_of_body (N := 17) (m := 0) (dt := fun _ => none) [] ttOK Try.func49 rfl Try.call49 Try.ntmps49 rfl rfl rfl mixed (by kernel_rfl) ?_
  refine AtIf.mk (fun h => ?_) (fun h => ?_)
  · refine AtRet.pure [] rfl (by simp) ⟨?_, rfl⟩
    simp at h
    rw [under, if_pos h]
  · refine AtRet.pure [] rfl (by simp) ⟨?_, rfl⟩
    have : ¬ (t.op = 3 ∨ t.op = 2 ∧ i = 1) := by
      simp at h
      omega
    rw [under, if_neg this]

mutual
def lowF : Tm → Int → Int → Bool
  | .mk o h n us, f, g => (((o == 4 && h == 1) && decide (n ≥ f)) && decide (n ≤ g)) || lowL o us 0 f g
def lowL : Int → List Tm → Nat → Int → Int → Bool
  | _, [], _, _, _ => false
  | o, u :: us, i, f, g => lowF u (f + under o i) (g + under o i) || lowL o us (i + 1) f g
 end
theorem lowF_eq (t : Tm) (f g : Int) : lowF t f g = ((((t.op == 4 && t.hd == 1) && decide (t.n ≥ f)) && decide (t.n ≤ g)) || lowL t.op t.args 0 f g) := by cases t; rfl

theorem low_spec (t : Tm) : ∀ (f g : Int) (a : Option Addr) (c : Nat), 0 ≤ f → -1 ≤ g → f + t.height ≤ 1000000 → g + t.height ≤ 1000000 → Pure Try.prog (fnS 31) [tmS t a c, iS f, iS g] [tmR t a c] (fun r out => r = bS (lowF t f g) ∧ out = []) := by
  induction t using Tm.ind with
  | h t ih =>
  intro f g a c hf0 hg0 hf1 hg1
  refine Meets.of_ok fun hok => ?_
  have hB : (Tm.encL t.args).length ≤ 1152921504606846976 := (hok _ (List.mem_cons_self ..)).1
  have hlen := Tm.encL_length t.args
  have hth := Tm.height_eq t
  have hF := lowF_eq t f g
  refine spec_of_body (N := 51) (m := 0) (dt := fun _ => none) [] ttOK Try.func31 rfl Try.call31 Try.ntmps31 rfl rfl rfl mixed (by kernel_rfl) ?_
  refine AtIf.mk (fun h1 => ?_) (fun h1 => ?_)
  · refine AtRet.pure [] rfl (by simp) ⟨?_, rfl⟩
    rw [hF]
    have h1 : (((t.op == 4 && t.hd == 1) && decide (t.n ≥ f)) && decide (t.n ≤ g)) = true := h1
    rw [h1]; rfl
  have h1 : (((t.op == 4 && t.hd == 1) && decide (t.n ≥ f)) && decide (t.n ≤ g)) = false := h1
  rw [h1, Bool.false_or] at hF
  refine AtLoop.mk ⟨Nat, fun i => [(7, iS i), (3, .loc 0 0), (1, iS f), (2, iS g)], fun _ => ⟨[.cells 24 [iS t.op, iS t.hd, iS t.n, .v (.slice a (Tm.encL t.args).length c)]], [], [tmR t a c]⟩,
    fun i => i ≤ t.args.length ∧ lowF t f g = lowL t.op (t.args.drop i) i f g, fun i => t.args.length - i, 0, ⟨Nat.zero_le _, hF⟩, ⟨rfl, rfl, rfl, rfl, trivial⟩, StLe.refl _, fun _ _ => ⟨rfl, rfl⟩, ?_⟩
  rintro i ⟨hi, hinv⟩
  refine AtIf.mk (fun h1 => ?_) (fun h1 => ?_)
  · simp only [decide_eq_true_eq, hlen] at h1
    obtain ⟨x, hx⟩ : ∃ x, t.args[i]? = some x := ⟨_, List.getElem?_eq_getElem (by omega)⟩
    have hxm := List.mem_of_getElem? hx
    have hxh := Tm.height_le hxm
    have hu := under_le t.op i
    refine (below_spec t a c i).at (by simp) rfl rfl ?_
    rintro r out ⟨rfl, rfl⟩
    refine at_index ttOK 0 rfl rfl rfl rfl (by omega) (by rw [Int.toNat_natCast]; exact Tm.encL_get hx) ?_
    intro a1 c1 _ _
    have hw1 : IntKind.i64.wrap (f + under t.op i) = f + under t.op i := wrap_i64 (by omega) (by omega)
    have hw2 : IntKind.i64.wrap (g + under t.op i) = g + under t.op i := wrap_i64 (by omega) (by omega)
    have hsp := ih x hxm (f + under t.op i) (g + under t.op i) a1 c1 (by omega) (by omega) (by omega) (by omega)
    rw [← hw1, ← hw2] at hsp
    refine hsp.at (by simp) rfl rfl ?_
    rintro r out ⟨rfl, rfl⟩
    rw [drop_cons hx, lowL, ← hw1, ← hw2] at hinv
    refine AtIf.mk (fun h2 => ?_) (fun h2 => ?_)
    · have h2 : lowF x (IntKind.i64.wrap (f + under t.op i)) (IntKind.i64.wrap (g + under t.op i)) = true := h2
      exact AtRet.pure [] rfl (by simp) ⟨by rw [hinv, h2]; rfl, rfl⟩
    · have h2 : lowF x (IntKind.i64.wrap (f + under t.op i)) (IntKind.i64.wrap (g + under t.op i)) = false := h2
      have hw3 : IntKind.i64.wrap (i + 1) = ((i + 1 : Nat) : Int) := wrap_i64 (by omega) (by omega)
      exact ⟨i + 1, ⟨by omega, by rw [hinv, h2]; rfl⟩, by simp only; omega, ⟨by rw [← hw3]; rfl, rfl, rfl, rfl, trivial⟩, StLe.to _ _ rfl (by simp) rfl rfl⟩
  · simp only [decide_eq_false_iff_not, hlen] at h1
    rw [List.drop_of_length_le (by omega)] at hinv
    exact AtRet.pure [] rfl (by simp) ⟨by rw [hinv]; rfl, rfl⟩
end Go.Proofs.Ytjjgfenincdgpaa
