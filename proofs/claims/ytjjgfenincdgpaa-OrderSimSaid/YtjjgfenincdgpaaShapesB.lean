/- The contracts of slices.IndexFunc and ContainsFunc as Lists asks them, of isOrder, and of Lists' inner function. Conditions: the arguments read as orders and terms. -/
import Derived.Test.YtjjgfenincdgpaaShapes
namespace Go.Proofs.Ytjjgfenincdgpaa
open Go.Tr Go
set_option maxRecDepth 10000

/-- The first place where p holds, or -1. -/
def idxFrom {α : Type} (p : α → Bool) : List α → Nat → Int
  | [], _ => -1
  | x :: xs, i => if p x then i else idxFrom p xs (i + 1)

theorem idxFrom_any {α : Type} (p : α → Bool) : ∀ (l : List α) (i : Nat), idxFrom p l i ≥ 0 ↔ l.any p = true
  | [], i => by simp [idxFrom]
  | x :: xs, i => by
    simp only [idxFrom, List.any_cons, Bool.or_eq_true]
    split
    · rename_i h; simp [h]
    · rename_i h; rw [idxFrom_any p xs (i + 1)]; simp [h]

abbrev ordY : SV := .fn (.func 51) [] [.loc 0 0, .loc 1 0]
abbrev ordB (m d : Int) : List Blk := [.cells 3 [iS m], .cells 3 [iS d]]

theorem indexOrders_spec (m d : Int) (p : Od → Bool) (us : List Od) (a : Option Addr) (c : Nat)
    (hg : ∀ x ∈ us, ∀ b1 d1, Meets Try.prog (.val ordY) [odS x b1 d1] ⟨ordB m d, [], [odR x b1 d1]⟩ (fun o S' => o = .ret (bS (p x)) ∧ S' = ⟨ordB m d, [], []⟩)) :
    Meets Try.prog (fnS 62) [.v (.slice a (Od.encL us).length c), ordY] ⟨ordB m d, [], [(.slice a (Od.encL us).length c, .sl 3 (Od.encL us))]⟩ (fun o S' => o = .ret (iS (idxFrom p us 0)) ∧ S' = ⟨ordB m d, [], []⟩) := by
  refine Meets.of_ok fun hok => ?_
  have hB : (Od.encL us).length ≤ 1152921504606846976 := (hok _ (List.mem_cons_self ..)).1
  have hlen := Od.encL_length us
  refine spec_of_body (N := 19) (m := 2) (dt := fun _ => none) [] ttOK Try.func62 rfl Try.call62 Try.ntmps62 rfl rfl rfl mixed (by kernel_rfl) ?_
  refine AtLoop.mk ⟨Nat, fun i => [(8, iS i), (7, iS (Od.encL us).length), (0, .v (.slice a (Od.encL us).length c)), (1, ordY)], fun _ => ⟨ordB m d, [], [(.slice a (Od.encL us).length c, .sl 3 (Od.encL us))]⟩,
    fun i => i ≤ us.length ∧ idxFrom p us 0 = idxFrom p (us.drop i) i, fun i => us.length - i, 0, ⟨Nat.zero_le _, rfl⟩, ⟨rfl, rfl, rfl, rfl, trivial⟩, StLe.refl _, fun _ _ => ⟨rfl, rfl⟩, ?_⟩
  rintro i ⟨hi, hinv⟩
  refine AtIf.mk (fun h1 => ?_) (fun h1 => ?_)
  · simp only [decide_eq_true_eq, hlen] at h1
    obtain ⟨x, hx⟩ : ∃ x, us[i]? = some x := ⟨_, List.getElem?_eq_getElem (by omega)⟩
    refine at_index ttOK 0 rfl rfl rfl rfl (by omega) (by rw [Int.toNat_natCast]; exact Od.encL_get hx) ?_
    intro b1 d1 _ _
    refine (hg x (List.mem_of_getElem? hx) b1 d1).frame0 _ [] rfl (by simp) (by intro q hq; simp at hq; rcases hq with rfl | rfl <;> rfl) (by simp) rfl rfl ?_
    rintro o s' ⟨rfl, rfl⟩
    refine ⟨rfl, ?_⟩
    rw [drop_cons hx, idxFrom] at hinv
    refine AtIf.mk (fun h2 => ?_) (fun h2 => ?_)
    · have h2 : p x = true := h2
      rw [if_pos h2] at hinv
      refine ret_own (ordB m d) rfl rfl rfl rfl rfl ?_
      rw [hinv]
      exact ⟨rfl, rfl⟩
    · have h2 : p x = false := h2
      rw [if_neg (by simp [h2])] at hinv
      have hw3 : IntKind.i64.wrap (i + 1) = ((i + 1 : Nat) : Int) := wrap_i64 (by omega) (by omega)
      exact ⟨i + 1, ⟨by omega, hinv⟩, by simp only; omega, ⟨by rw [← hw3]; rfl, rfl, rfl, rfl, trivial⟩, StLe.to _ _ rfl (by simp) rfl rfl⟩
  · simp only [decide_eq_false_iff_not, hlen] at h1
    rw [List.drop_of_length_le (by omega)] at hinv
    refine ret_own (ordB m d) rfl rfl rfl rfl rfl ?_
    rw [hinv]
    exact ⟨rfl, rfl⟩

theorem containsOrders_spec (m d : Int) (p : Od → Bool) (us : List Od) (a : Option Addr) (c : Nat)
    (hg : ∀ x ∈ us, ∀ b1 d1, Meets Try.prog (.val ordY) [odS x b1 d1] ⟨ordB m d, [], [odR x b1 d1]⟩ (fun o S' => o = .ret (bS (p x)) ∧ S' = ⟨ordB m d, [], []⟩)) :
    Meets Try.prog (fnS 50) [.v (.slice a (Od.encL us).length c), ordY] ⟨ordB m d, [], [(.slice a (Od.encL us).length c, .sl 3 (Od.encL us))]⟩ (fun o S' => o = .ret (bS (us.any p)) ∧ S' = ⟨ordB m d, [], []⟩) := by
  refine spec_of_body (N := 9) (m := 2) (dt := fun _ => none) [] ttOK Try.func50 rfl Try.call50 Try.ntmps50 rfl rfl rfl mixed (by kernel_rfl) ?_
  refine (indexOrders_spec m d p us a c hg).frame0 _ [] rfl (by simp) (by intro q hq; simp at hq; rcases hq with rfl | rfl <;> rfl) (by simp) rfl rfl ?_
  rintro o s' ⟨rfl, rfl⟩
  refine ⟨rfl, ?_⟩
  refine ret_own (ordB m d) rfl rfl rfl rfl rfl ⟨?_, rfl⟩
  have : decide (idxFrom p us 0 ≥ 0) = us.any p := by rw [Bool.eq_iff_iff, decide_eq_true_eq, idxFrom_any]
  rw [← this]

theorem rightL_any (m : Int) : ∀ (us : List Od) (d : Int), rightL m us d = !us.any (fun x => !rightF m x d)
  | [], _ => rfl
  | u :: us, d => by simp only [rightL, List.any_cons, rightL_any m us d]; cases rightF m u d <;> simp

theorem isOrder_spec (m : Int) (t : Od) : ∀ (d : Int) (a : Option Addr) (c : Nat), 0 ≤ d → d ≤ 1000000 → Pure Try.prog (fnS 36) [odS t a c, iS m, iS d] [odR t a c] (fun r out => r = bS (rightF m t d) ∧ out = []) := by
  induction t using Od.ind with
  | h t ih =>
  intro d a c hd0 hd1
  have hlen := Od.encL_length t.parts
  have hF := rightF_eq m t d
  refine spec_of_body (N := 59) (m := 0) (dt := fun _ => none) [4] ttOK Try.func36 rfl Try.call36 Try.ntmps36 rfl rfl rfl mixed (by kernel_rfl) ?_
  refine AtIf.mk (fun h1 => ?_) (fun h1 => ?_)
  · have h1 : t.op = 1 := by simpa using h1
    rw [if_pos h1] at hF
    refine AtRet.pure [] rfl (by simp) ⟨?_, rfl⟩
    rw [hF]
    congr 2
    rw [Bool.eq_iff_iff]
    simp only [Bool.and_eq_true, decide_eq_true_eq, beq_iff_eq, List.isEmpty_iff, hlen]
    constructor
    · rintro ⟨⟨⟨h2, h3⟩, h4⟩, h5⟩
      exact ⟨⟨⟨h4, h5⟩, List.eq_nil_of_length_eq_zero (by omega)⟩, h2⟩
    · rintro ⟨⟨⟨h4, h5⟩, h3⟩, h2⟩
      rw [h3]
      exact ⟨⟨⟨h2, rfl⟩, h4⟩, h5⟩
  have h1 : ¬ t.op = 1 := by simpa using h1
  rw [if_neg h1] at hF
  -- a list of orders
  have parts : d < 4 → ∀ x ∈ t.parts, ∀ b1 d1, Meets Try.prog (.val ordY) [odS x b1 d1] ⟨ordB m d, [], [odR x b1 d1]⟩ (fun o S' => o = .ret (bS (!rightF m x (d + 1))) ∧ S' = ⟨ordB m d, [], []⟩) := by
    intro hd x hx b1 d1
    have hw2 : IntKind.i64.wrap (d + 1) = d + 1 := wrap_i64 (by omega) (by omega)
    refine spec_of_body (N := 11) (m := 2) (dt := fun _ => none) [] ttOK Try.func51 rfl Try.call51 Try.ntmps51 rfl rfl rfl mixed (by kernel_rfl) ?_
    have hsp := ih x hx (d + 1) b1 d1 (by omega) (by omega)
    rw [← hw2] at hsp
    refine hsp.at (by simp) rfl rfl ?_
    rintro r out ⟨rfl, rfl⟩
    refine ret_own (ordB m d) rfl rfl rfl rfl rfl ⟨?_, rfl⟩
    rw [hw2]
  refine AtCut.mk ⟨Unit, fun _ => [(30, bS (decide (t.op = 2 ∨ t.op = 3))), (3, .loc 0 0), (4, .loc 1 0), (5, .loc 2 0)], fun _ => ⟨[.cells 41 [iS t.op, iS t.n, .v (.slice a (Od.encL t.parts).length c)], .cells 3 [iS m], .cells 3 [iS d]], [], [odR t a c]⟩, fun _ => True, fun _ _ => ⟨rfl, rfl⟩, ?_, ?_⟩
  · refine AtIf.mk (fun h2 => ?_) (fun h2 => ?_)
    · have h2 : t.op = 2 := by simpa using h2
      exact ⟨(), trivial, ⟨by rw [decide_eq_true (.inl h2)]; simp only [h2]; rfl, rfl, rfl, rfl, trivial⟩, StLe.refl _⟩
    · have h2 : ¬ t.op = 2 := by simpa using h2
      have : decide (t.op = 2 ∨ t.op = 3) = (t.op == 3) := by rw [Bool.eq_iff_iff]; simp [h2]
      exact ⟨(), trivial, ⟨by rw [this]; rfl, rfl, rfl, rfl, trivial⟩, StLe.refl _⟩
  intro _ _
  refine AtIf.mk (fun ho => ?_) (fun ho => ?_)
  rotate_left
  · have ho : ¬ (t.op = 2 ∨ t.op = 3) := by simpa using ho
    rw [if_neg (by rintro ⟨⟨⟨h2, _⟩, _⟩, _⟩; exact ho h2)] at hF
    exact AtRet.pure [] rfl (by simp) ⟨by rw [hF], rfl⟩
  have ho : t.op = 2 ∨ t.op = 3 := by simpa using ho
  refine AtGuard.mk (fun h2 => ?_) (fun h2 => ?_)
  · have hyes : (((t.op = 2 ∨ t.op = 3) ∧ t.n = 0) ∧ (1 ≤ t.parts.length ∧ t.parts.length ≤ 8)) ∧ d < 4 := by
      simp [hlen] at h2
      exact ⟨⟨⟨ho, by omega⟩, by omega, by omega⟩, by omega⟩
    rw [if_pos hyes] at hF
    refine (containsOrders_spec m d (fun x => !rightF m x (d + 1)) t.parts a c (parts hyes.2)).frame [1, 2] rfl rfl (by decide) rfl ?_ (by simp) rfl rfl ?_
    · intro p q hp
      match p, hp with
      | 0, hp => simp at hp; subst hp; exact ⟨1, rfl, rfl, rfl⟩
      | 1, hp => simp at hp; subst hp; exact ⟨2, rfl, rfl, rfl⟩
    rintro o s' ⟨rfl, rfl⟩
    refine ⟨rfl, rfl, _, rfl, ?_⟩
    refine AtRet.pure [] rfl (by simp) ⟨?_, rfl⟩
    rw [hF, rightL_any]
  · have hno : ¬ ((((t.op = 2 ∨ t.op = 3) ∧ t.n = 0) ∧ (1 ≤ t.parts.length ∧ t.parts.length ≤ 8)) ∧ d < 4) := by
      rintro ⟨⟨⟨_, h3⟩, h4, h5⟩, h6⟩
      simp [hlen, h3, h6] at h2
      omega
    rw [if_neg hno] at hF
    exact AtRet.pure [] rfl (by simp) ⟨by rw [hF], rfl⟩
end Go.Proofs.Ytjjgfenincdgpaa
