/- The law OrderLists: it answers true. Condition: the arguments read as orders, ints and terms. -/
import Derived.Test.YtjjgfenincdgpaaRefLists
import Derived.Test.YtjjgfenincdgpaaLawE
namespace Go.Proofs.Ytjjgfenincdgpaa
open Go.Tr Go
set_option maxRecDepth 10000

/-- The place of an element of an array among the own blocks. -/
theorem at_index_arr {P : Program} {tt : Tab} (hT : TTOK P tt) {t e : TypeId} {k len : Nat} {zs : List Value} {x ix : SV} {S : St} {K : SV → St → Prop} {i off : Nat} {n : Int} {kk : IntKind} (hx : x = .loc i off) (hi : ix = .v (.int kk n)) (ht : tt t = some (.arr len e k zs)) (h0 : 0 ≤ n) (hlt : n < len) (hl : Nat.blt i S.own.length = true)
    (h : K (.loc i (off + n.toNat * k)) S) : AtPure P (fun ℓ => Instr.indexAt t (x.den ℓ) (ix.den ℓ)) S K := by
  subst hx hi
  refine AtPure.val _ (by simpa [SV.wf] using hl) (fun ℓ w => ?_) h
  obtain ⟨_, _, _, hu, hse⟩ := hT t _ ht
  simp only [Instr.indexAt, SV.den, asIntOf, pure_bind, Sem.run_bind, run_underlying' hu, Result.andThen_ok, Instr.sureAddr]
  rw [if_pos ⟨h0, hlt⟩]
  simp only [Sem.run_bind, hse, Result.andThen_ok, Sem.run_pure, addr_add, Nat.add_assoc]

theorem simF_refl (t : Od) : simF t t = true := by
  induction t using Od.ind with
  | h t ih =>
  rw [simF_eq]
  have : ∀ (l : List Od), (∀ x ∈ l, simF x x = true) → simL l l = true := by
    intro l
    induction l with
    | nil => intro _; rfl
    | cons x l ihl => intro h; simp only [simL, h x (by simp), ihl (fun y hy => h y (by simp [hy]))]; rfl
  rw [this t.parts ih]
  simp

theorem encL_take (l : List Tm) (k : Nat) : ((Tm.encL l).take k).drop 0 = Tm.encL (l.take k) := by rw [List.drop_zero, Tm.encL_eq, Tm.encL_eq, List.map_take]

/-- What OrderLists finds of its arguments. -/
def okF (t : Od) (n fx : Int) (A B : List Tm) : Bool := ((isScopeF n fx && rightF (min A.length B.length : Nat) t 0) && A.all (fun x => lawFree x n)) && B.all (fun x => lawFree x n)

theorem listsE_ok (t : Od) (n fx : Int) (A B : List Tm) : listsE t n fx A B = if okF t n fx A B = true then (refO fx A B t, 0) else (0, 2) := by
  have e : ∀ l : List Tm, (l.any fun x => !isObjectF x n) = !l.all (fun x => lawFree x n) := by
    intro l
    induction l with
    | nil => rfl
    | cons x l ih => simp only [List.any_cons, List.all_cons, ih, lawFree_eq]; cases isObjectF x n <;> simp
  rw [listsE, e, e, okF]
  by_cases h : isScopeF n fx = true ∧ rightF (min A.length B.length : Nat) t 0 = true ∧ (!A.all fun x => lawFree x n) = false ∧ (!B.all fun x => lawFree x n) = false
  · rw [if_pos h]
    obtain ⟨h1, h2, h3, h4⟩ := h
    have h3' : (A.all fun x => lawFree x n) = true := by simpa using h3
    have h4' : (B.all fun x => lawFree x n) = true := by simpa using h4
    rw [h1, h2, h3', h4', if_pos (show (true && true && true && true) = true from rfl)]
    have hs := h1
    simp only [isScopeF, Bool.and_eq_true, decide_eq_true_eq] at hs
    have hp : ∀ (l : List Tm), (l.all fun x => lawFree x n) = true → ∀ x ∈ l, okAll x = true ∧ x.height ≤ 1000 := by
      intro l hl x hx
      have h5 := List.all_eq_true.1 hl x hx
      have h6 := (isProper_iff x).1 ((lawFree_iff x n).1 h5).1
      exact ⟨h6.1, by omega⟩
    rw [cmpO_refO ⟨Nat.min_le_left .., Nat.min_le_right .., hp A h3', hp B h4', by omega, by omega⟩ t (right_fit _ t 0 h2).1]
  · rw [if_neg h, if_neg]
    intro hh
    simp only [Bool.and_eq_true] at hh
    exact h ⟨hh.1.1.1, hh.1.1.2, by simp [hh.1.2], by simp [hh.2]⟩

theorem all_take {p : Tm → Bool} {l : List Tm} {i : Nat} {x : Tm} (h : l[i]? = some x) : (l.take (i + 1)).all p = ((l.take i).all p && p x) := by
  rw [List.take_add_one, h]
  simp

theorem orderLists_spec (t u : Od) (n fx : Int) (A B : List Tm) (a1 a2 a3 a4 : Option Addr) (c1 c2 c3 c4 : Nat) :
    Pure Try.prog (fnS 7) [odS t a1 c1, odS u a2 c2, .agg [iS n, iS fx], .agg [.v (.slice a3 (Tm.encL A).length c3), .v (.slice a4 (Tm.encL B).length c4)]]
      [odR t a1 c1, odR u a2 c2, (.slice a3 (Tm.encL A).length c3, .sl 4 (Tm.encL A)), (.slice a4 (Tm.encL B).length c4, .sl 4 (Tm.encL B))] (fun r out => r = bS true ∧ out = []) := by
  refine Meets.of_ok fun hok => ?_
  refine spec_of_body (N := 147) (m := 0) (dt := drawsOf [(3, .leaf [0, 1, 2, 3, 4, 5], []), (4, .leaf [0, 1, 2, 3, 4, 5, 6, 7, 8, 9, 10, 11, 12, 13, 14, 15], []), (6, .node [0, 1, 3, 4] [(2, .node [] [(5, .node [6, 7, 8, 9] [(10, .leaf [11, 12])])])], [5, 10])]) [4,8,9,13] ttOK Try.func7 rfl Try.call7 Try.ntmps7 rfl rfl rfl mixed (by kernel_rfl) ?_
  refine (small_spec t a1 c1).at (by simp) rfl rfl ?_
  rintro r out ⟨rfl, rfl⟩
  cases h1 : decide (manyF t 0 ≤ 400) with
  | false =>
    refine AtGuard.mk (fun h => by cases h) (fun _ => ?_)
    refine AtIf.mk (fun _ => ?_) (fun h => by cases h)
    refine awake_spec.at (by simp) rfl rfl ?_
    rintro r out ⟨rfl, rfl⟩
    exact AtRet.pure [] rfl (by simp) ⟨rfl, rfl⟩
  | true =>
  refine AtGuard.mk (fun _ => ?_) (fun h => by cases h)
  refine (small_spec u a2 c2).at (by simp) rfl rfl ?_
  rintro r out ⟨rfl, rfl⟩
  cases h2 : decide (manyF u 0 ≤ 400) with
  | false =>
    refine AtIf.mk (fun _ => ?_) (fun h => by cases h)
    refine awake_spec.at (by simp) rfl rfl ?_
    rintro r out ⟨rfl, rfl⟩
    exact AtRet.pure [] rfl (by simp) ⟨rfl, rfl⟩
  | true =>
  refine AtIf.mk (fun h => by cases h) (fun _ => ?_)
  refine at_index_arr ttOK rfl rfl rfl (by omega) (by decide) rfl ?_
  refine at_index_arr ttOK rfl rfl rfl (by omega) (by decide) rfl ?_
  have hla := Tm.encL_length A
  have hlb := Tm.encL_length B
  -- the lists, cut
  refine AtCut.mk ⟨(Option Addr × Nat) × (Option Addr × Nat), fun x => [(9, iS n), (10, iS fx), (11, .v (.slice x.1.1 (Tm.encL (A.take 20)).length x.1.2)), (12, .v (.slice x.2.1 (Tm.encL (B.take 20)).length x.2.2)), (4, .loc 0 0), (5, .loc 1 0)],
    fun x => ⟨[.cells 41 [iS t.op, iS t.n, .v (.slice a1 (Od.encL t.parts).length c1)], .cells 41 [iS u.op, iS u.n, .v (.slice a2 (Od.encL u.parts).length c2)]], [], [odR t a1 c1, odR u a2 c2, (.slice x.1.1 (Tm.encL (A.take 20)).length x.1.2, .sl 4 (Tm.encL (A.take 20))), (.slice x.2.1 (Tm.encL (B.take 20)).length x.2.2, .sl 4 (Tm.encL (B.take 20)))]⟩,
    fun _ => True, fun _ _ => ⟨rfl, rfl⟩, ?_, ?_⟩
  · have hm : ∀ l : List Tm, (if (20 : Int) < (Tm.encL l).length then (20 : Int) else (Tm.encL l).length) = ((min l.length 20 : Nat) : Int) := by
      intro l
      rw [Tm.encL_length]
      split <;> omega
    have ht : ∀ l : List Tm, ((Tm.encL l).take (min l.length 20)).drop 0 = Tm.encL (l.take 20) := by
      intro l
      rw [encL_take]
      congr 1
      rw [Nat.min_comm, ← List.take_take, List.take_length]
    have hn : ∀ l : List Tm, min l.length 20 - 0 = (Tm.encL (l.take 20)).length := by
      intro l
      rw [Tm.encL_length, List.length_take, Nat.min_comm]; rfl
    refine at_index_arr ttOK rfl rfl rfl (by omega) (by decide) rfl ?_
    refine at_index_arr ttOK rfl rfl rfl (by omega) (by decide) rfl ?_
    refine at_min ?_
    refine at_slice ttOK 2 0 (min A.length 20) rfl rfl rfl rfl (hm A) (by omega) (by omega) ?_
    intro a5 c5 _
    refine at_index_arr ttOK rfl rfl rfl (by omega) (by decide) rfl ?_
    refine at_index_arr ttOK rfl rfl rfl (by omega) (by decide) rfl ?_
    refine at_min ?_
    refine at_slice ttOK 3 0 (min B.length 20) rfl rfl rfl rfl (hm B) (by omega) (by omega) ?_
    intro a6 c6 _
    rw [ht A, ht B, hn A, hn B]
    exact ⟨((a5, c5), (a6, c6)), trivial, ⟨rfl, rfl, rfl, rfl, rfl, rfl, trivial⟩, StLe.to _ _ rfl (by simp) rfl rfl⟩
  rintro ⟨⟨a5, c5⟩, a6, c6⟩ _
  simp only
  have hbA : (A.take 20).length ≤ 20 := by rw [List.length_take]; omega
  have hbB : (B.take 20).length ≤ 20 := by rw [List.length_take]; omega
  generalize A.take 20 = A' at hbA ⊢
  generalize B.take 20 = B' at hbB ⊢
  have hla := Tm.encL_length A'
  have hlb := Tm.encL_length B'
  refine (lists_spec t n fx A' B' a1 a5 a6 c1 c5 c6).at ?_ rfl rfl ?_
  · intro p hp
    simp only [List.mem_cons, List.not_mem_nil, or_false] at hp
    rcases hp with rfl | rfl | rfl <;> simp
  rintro r out ⟨rfl, rfl⟩
  refine (similar_spec t u a1 a2 c1 c2).at (by simp) rfl rfl ?_
  rintro r out ⟨rfl, rfl⟩
  refine ⟨fun _ _ h => h, ?_⟩
  refine (refSimilar_spec t u a1 a2 c1 c2).at (by simp) rfl rfl ?_
  rintro r out ⟨rfl, rfl⟩
  refine at_boolNe ?_
  rw [bne_self_eq_false]
  refine AtGuard.mk (fun _ => ?_) (fun h => by cases h)
  refine (similar_spec t t a1 a1 c1 c1).at (by simp) rfl rfl ?_
  rintro r out ⟨rfl, rfl⟩
  rw [simF_refl]
  refine AtIf.mk (fun h => by cases h) (fun _ => ?_)
  -- what the law finds of the arguments
  have hE := listsE_ok t n fx A' B'
  have hsc : (((decide (n ≥ 0) && decide (n ≤ 30)) && decide (fx ≥ 0)) && decide (fx ≤ n)) = isScopeF n fx := rfl
  refine AtCut.mk ⟨Unit, fun _ => [(15, bS (isScopeF n fx && rightF (min A'.length B'.length : Nat) t 0)), (13, iS (listsE t n fx A' B').1), (14, iS (listsE t n fx A' B').2), (9, iS n), (10, iS fx), (11, .v (.slice a5 (Tm.encL A').length c5)), (12, .v (.slice a6 (Tm.encL B').length c6)), (4, .loc 0 0), (5, .loc 1 0)],
    fun _ => ⟨[.cells 41 [iS t.op, iS t.n, .v (.slice a1 (Od.encL t.parts).length c1)], .cells 41 [iS u.op, iS u.n, .v (.slice a2 (Od.encL u.parts).length c2)]], [], [odR t a1 c1, odR u a2 c2, (.slice a5 (Tm.encL A').length c5, .sl 4 (Tm.encL A')), (.slice a6 (Tm.encL B').length c6, .sl 4 (Tm.encL B'))]⟩,
    fun _ => True, fun _ _ => ⟨rfl, rfl⟩, ?_, ?_⟩
  · refine AtGuard.mk (fun h => ?_) (fun h => ?_)
    · have h : isScopeF n fx = true := h
      refine at_min ?_
      have hmin : (if ((Tm.encL B').length : Int) < (Tm.encL A').length then ((Tm.encL B').length : Int) else (Tm.encL A').length) = ((min A'.length B'.length : Nat) : Int) := by
        rw [hla, hlb]
        split <;> omega
      rw [hmin]
      refine (Right_spec ((min A'.length B'.length : Nat) : Int) t a1 c1).at (by simp) rfl rfl ?_
      rintro r out ⟨rfl, rfl⟩
      refine ⟨(), trivial, ⟨by rw [h]; rfl, rfl, rfl, rfl, rfl, rfl, rfl, rfl, rfl, trivial⟩, StLe.to _ _ rfl (by simp) rfl rfl⟩
    · have h : isScopeF n fx = false := h
      refine ⟨(), trivial, ⟨by rw [h]; rfl, rfl, rfl, rfl, rfl, rfl, rfl, rfl, rfl, trivial⟩, StLe.to _ _ rfl (by simp) rfl rfl⟩
  intro _ _
  generalize hok0 : (isScopeF n fx && rightF (min A'.length B'.length : Nat) t 0) = ok0
  -- the first list
  refine AtCut.mk ⟨Unit, fun _ => [(15, bS (ok0 && A'.all (fun x => lawFree x n))), (13, iS (listsE t n fx A' B').1), (14, iS (listsE t n fx A' B').2), (9, iS n), (10, iS fx), (11, .v (.slice a5 (Tm.encL A').length c5)), (12, .v (.slice a6 (Tm.encL B').length c6)), (4, .loc 0 0), (5, .loc 1 0)],
    fun _ => ⟨[.cells 41 [iS t.op, iS t.n, .v (.slice a1 (Od.encL t.parts).length c1)], .cells 41 [iS u.op, iS u.n, .v (.slice a2 (Od.encL u.parts).length c2)]], [], [odR t a1 c1, odR u a2 c2, (.slice a5 (Tm.encL A').length c5, .sl 4 (Tm.encL A')), (.slice a6 (Tm.encL B').length c6, .sl 4 (Tm.encL B'))]⟩,
    fun _ => True, fun _ _ => ⟨rfl, rfl⟩, ?_, ?_⟩
  · refine AtLoop.mk ⟨Nat, fun i => [(16, iS i), (15, bS (ok0 && (A'.take i).all (fun x => lawFree x n))), (13, iS (listsE t n fx A' B').1), (14, iS (listsE t n fx A' B').2), (9, iS n), (10, iS fx), (11, .v (.slice a5 (Tm.encL A').length c5)), (12, .v (.slice a6 (Tm.encL B').length c6)), (4, .loc 0 0), (5, .loc 1 0)],
      fun _ => ⟨[.cells 41 [iS t.op, iS t.n, .v (.slice a1 (Od.encL t.parts).length c1)], .cells 41 [iS u.op, iS u.n, .v (.slice a2 (Od.encL u.parts).length c2)]], [], [odR t a1 c1, odR u a2 c2, (.slice a5 (Tm.encL A').length c5, .sl 4 (Tm.encL A')), (.slice a6 (Tm.encL B').length c6, .sl 4 (Tm.encL B'))]⟩,
      fun i => i ≤ A'.length, fun i => A'.length - i, 0, Nat.zero_le _, ⟨rfl, by simp; rfl, rfl, rfl, rfl, rfl, rfl, rfl, rfl, rfl, trivial⟩, StLe.refl _, fun _ _ => ⟨rfl, rfl⟩, ?_⟩
    rintro i hi
    refine AtIf.mk (fun h3 => ?_) (fun h3 => ?_)
    · simp only [decide_eq_true_eq, hla] at h3
      obtain ⟨x, hx⟩ : ∃ x, A'[i]? = some x := ⟨_, List.getElem?_eq_getElem (by omega)⟩
      have hw3 : IntKind.i64.wrap (i + 1) = ((i + 1 : Nat) : Int) := wrap_i64 (by omega) (by omega)
      refine AtGuard.mk (fun h4 => ?_) (fun h4 => ?_)
      · have h4 : (ok0 && (A'.take i).all (fun x => lawFree x n)) = true := h4
        refine at_index ttOK 2 rfl rfl rfl rfl (by omega) (by rw [Int.toNat_natCast]; exact Tm.encL_get hx) ?_
        intro b1 d1 _ _
        refine (lawFree_spec x n b1 d1).at (by simp) rfl rfl ?_
        rintro r out ⟨rfl, rfl⟩
        have e : (ok0 && (A'.take (i + 1)).all (fun x => lawFree x n)) = ((ok0 && (A'.take i).all (fun x => lawFree x n)) && lawFree x n) := by rw [all_take hx, Bool.and_assoc]
        exact ⟨i + 1, by omega, by simp only; omega, ⟨by rw [← hw3]; rfl, by rw [e, h4]; rfl, rfl, rfl, rfl, rfl, rfl, rfl, rfl, rfl, trivial⟩, StLe.to _ _ rfl (by simp) rfl rfl⟩
      · have h4 : (ok0 && (A'.take i).all (fun x => lawFree x n)) = false := h4
        have e : (ok0 && (A'.take (i + 1)).all (fun x => lawFree x n)) = ((ok0 && (A'.take i).all (fun x => lawFree x n)) && lawFree x n) := by rw [all_take hx, Bool.and_assoc]
        exact ⟨i + 1, by omega, by simp only; omega, ⟨by rw [← hw3]; rfl, by rw [e, h4]; rfl, rfl, rfl, rfl, rfl, rfl, rfl, rfl, rfl, trivial⟩, StLe.to _ _ rfl (by simp) rfl rfl⟩
    · simp only [decide_eq_false_iff_not, hla] at h3
      have : (ok0 && A'.all (fun x => lawFree x n)) = (ok0 && (A'.take i).all (fun x => lawFree x n)) := by rw [List.take_of_length_le (by omega)]
      exact ⟨(), trivial, ⟨by rw [this]; rfl, rfl, rfl, rfl, rfl, rfl, rfl, rfl, rfl, trivial⟩, StLe.to _ _ rfl (by simp) rfl rfl⟩
  intro _ _
  generalize hok1 : (ok0 && A'.all (fun x => lawFree x n)) = ok1
  -- the second one
  refine AtCut.mk ⟨Unit, fun _ => [(15, bS (ok1 && B'.all (fun x => lawFree x n))), (13, iS (listsE t n fx A' B').1), (14, iS (listsE t n fx A' B').2), (9, iS n), (10, iS fx), (11, .v (.slice a5 (Tm.encL A').length c5)), (12, .v (.slice a6 (Tm.encL B').length c6)), (4, .loc 0 0), (5, .loc 1 0)],
    fun _ => ⟨[.cells 41 [iS t.op, iS t.n, .v (.slice a1 (Od.encL t.parts).length c1)], .cells 41 [iS u.op, iS u.n, .v (.slice a2 (Od.encL u.parts).length c2)]], [], [odR t a1 c1, odR u a2 c2, (.slice a5 (Tm.encL A').length c5, .sl 4 (Tm.encL A')), (.slice a6 (Tm.encL B').length c6, .sl 4 (Tm.encL B'))]⟩,
    fun _ => True, fun _ _ => ⟨rfl, rfl⟩, ?_, ?_⟩
  · refine AtLoop.mk ⟨Nat, fun i => [(17, iS i), (15, bS (ok1 && (B'.take i).all (fun x => lawFree x n))), (13, iS (listsE t n fx A' B').1), (14, iS (listsE t n fx A' B').2), (9, iS n), (10, iS fx), (11, .v (.slice a5 (Tm.encL A').length c5)), (12, .v (.slice a6 (Tm.encL B').length c6)), (4, .loc 0 0), (5, .loc 1 0)],
      fun _ => ⟨[.cells 41 [iS t.op, iS t.n, .v (.slice a1 (Od.encL t.parts).length c1)], .cells 41 [iS u.op, iS u.n, .v (.slice a2 (Od.encL u.parts).length c2)]], [], [odR t a1 c1, odR u a2 c2, (.slice a5 (Tm.encL A').length c5, .sl 4 (Tm.encL A')), (.slice a6 (Tm.encL B').length c6, .sl 4 (Tm.encL B'))]⟩,
      fun i => i ≤ B'.length, fun i => B'.length - i, 0, Nat.zero_le _, ⟨rfl, by simp; rfl, rfl, rfl, rfl, rfl, rfl, rfl, rfl, rfl, trivial⟩, StLe.refl _, fun _ _ => ⟨rfl, rfl⟩, ?_⟩
    rintro i hi
    refine AtIf.mk (fun h3 => ?_) (fun h3 => ?_)
    · simp only [decide_eq_true_eq, hlb] at h3
      obtain ⟨x, hx⟩ : ∃ x, B'[i]? = some x := ⟨_, List.getElem?_eq_getElem (by omega)⟩
      have hw3 : IntKind.i64.wrap (i + 1) = ((i + 1 : Nat) : Int) := wrap_i64 (by omega) (by omega)
      refine AtGuard.mk (fun h4 => ?_) (fun h4 => ?_)
      · have h4 : (ok1 && (B'.take i).all (fun x => lawFree x n)) = true := h4
        refine at_index ttOK 3 rfl rfl rfl rfl (by omega) (by rw [Int.toNat_natCast]; exact Tm.encL_get hx) ?_
        intro b1 d1 _ _
        refine (lawFree_spec x n b1 d1).at (by simp) rfl rfl ?_
        rintro r out ⟨rfl, rfl⟩
        have e : (ok1 && (B'.take (i + 1)).all (fun x => lawFree x n)) = ((ok1 && (B'.take i).all (fun x => lawFree x n)) && lawFree x n) := by rw [all_take hx, Bool.and_assoc]
        exact ⟨i + 1, by omega, by simp only; omega, ⟨by rw [← hw3]; rfl, by rw [e, h4]; rfl, rfl, rfl, rfl, rfl, rfl, rfl, rfl, rfl, trivial⟩, StLe.to _ _ rfl (by simp) rfl rfl⟩
      · have h4 : (ok1 && (B'.take i).all (fun x => lawFree x n)) = false := h4
        have e : (ok1 && (B'.take (i + 1)).all (fun x => lawFree x n)) = ((ok1 && (B'.take i).all (fun x => lawFree x n)) && lawFree x n) := by rw [all_take hx, Bool.and_assoc]
        exact ⟨i + 1, by omega, by simp only; omega, ⟨by rw [← hw3]; rfl, by rw [e, h4]; rfl, rfl, rfl, rfl, rfl, rfl, rfl, rfl, rfl, trivial⟩, StLe.to _ _ rfl (by simp) rfl rfl⟩
    · simp only [decide_eq_false_iff_not, hlb] at h3
      have : (ok1 && B'.all (fun x => lawFree x n)) = (ok1 && (B'.take i).all (fun x => lawFree x n)) := by rw [List.take_of_length_le (by omega)]
      exact ⟨(), trivial, ⟨by rw [this]; rfl, rfl, rfl, rfl, rfl, rfl, rfl, rfl, rfl, trivial⟩, StLe.to _ _ rfl (by simp) rfl rfl⟩
  intro _ _
  have hokF : (ok1 && B'.all (fun x => lawFree x n)) = okF t n fx A' B' := by rw [← hok1, ← hok0]; rfl
  rw [hokF]
  cases hk : okF t n fx A' B' with
  | false =>
    rw [hE, hk, if_neg (by decide)]
    refine AtIf.mk (fun _ => ?_) (fun h => by cases h)
    refine AtGuard.mk (fun _ => ?_) (fun h => by cases h)
    refine awake_spec.at (by simp) rfl rfl ?_
    rintro r out ⟨rfl, rfl⟩
    exact AtRet.pure [] rfl (by simp) ⟨rfl, rfl⟩
  | true =>
    rw [hE, hk, if_pos rfl]
    refine AtIf.mk (fun h => by cases h) (fun _ => ?_)
    have hk2 := hk
    simp only [okF, Bool.and_eq_true] at hk2
    obtain ⟨⟨⟨k1, k2⟩, k3⟩, k4⟩ := hk2
    have hs := k1
    simp only [isScopeF, Bool.and_eq_true, decide_eq_true_eq] at hs
    have hp : ∀ (l : List Tm), (l.all fun x => lawFree x n) = true → ∀ x ∈ l, okAll x = true ∧ x.height ≤ 1000000 := by
      intro l hl x hx
      have h5 := List.all_eq_true.1 hl x hx
      have h6 := (isProper_iff x).1 ((lawFree_iff x n).1 h5).1
      exact ⟨h6.1, by omega⟩
    refine (refLists_spec fx A' B' a5 a6 c5 c6 (min A'.length B'.length) (Nat.min_le_left ..) (Nat.min_le_right ..) (hp A' k3) (hp B' k4) (by omega) (by omega) t a1 a1 c1 c1 (right_fit _ t 0 k2).1).at ?_ rfl rfl ?_
    · intro p hp
      simp only [List.mem_cons, List.not_mem_nil, or_false] at hp
      rcases hp with rfl | rfl | rfl | rfl <;> simp
    rintro r out ⟨rfl, rfl⟩
    refine AtGuard.mk (fun _ => ?_) (fun h => by simp at h)
    refine awake_spec.at (by simp) rfl rfl ?_
    rintro r out ⟨rfl, rfl⟩
    refine AtRet.pure [] rfl (by simp) ⟨?_, rfl⟩
    simp
end Go.Proofs.Ytjjgfenincdgpaa
