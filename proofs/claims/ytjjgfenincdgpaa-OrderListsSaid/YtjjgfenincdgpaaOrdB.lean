/- The contract of order's match (its inner function). Condition: the arguments read as terms. -/
import Derived.Test.YtjjgfenincdgpaaOrdA
namespace Go.Proofs.Ytjjgfenincdgpaa
open Go.Tr Go
set_option maxRecDepth 10000

/-- A map from ints to ints, as the machine has it. -/
def encI (l : List (Int × Int)) : List (Int × Value) := l.map fun p => (p.1, Value.int .i64 p.2)

def lookI : List (Int × Int) → Int → Option Int
  | [], _ => none
  | (k, v) :: r, n => if n = k then some v else lookI r n

def putI (n v : Int) : List (Int × Int) → List (Int × Int)
  | [] => [(n, v)]
  | (k, u) :: r => if n = k then (k, v) :: r else (k, u) :: putI n v r

theorem look_encI (n : Int) : ∀ (l : List (Int × Int)), lookM (encI l) n = (lookI l n).map (Value.int .i64)
  | [] => rfl
  | (k, v) :: r => by
    simp only [encI, List.map_cons, lookM, lookI]
    split
    · rfl
    · exact look_encI n r

theorem putAt_encI (n v : Int) : ∀ (l : List (Int × Int)), putAt n (.int .i64 v) (encI l) = encI (putI n v l)
  | [] => rfl
  | (k, u) :: r => by
    simp only [encI, List.map_cons, putAt, putI]
    split
    · rfl
    · simp only [List.map_cons, List.cons.injEq, true_and]
      exact putAt_encI n v r

/-- What a node decides: none: not the same. -/
def headF (st fx o h n m k : Int) (l : List (Int × Int)) : Option (List (Int × Int)) :=
  if o = 4 ∧ h = 1 ∧ k ≤ m then
    if IntKind.i64.wrap (n - k) < 0 then none
    else if st ≤ IntKind.i64.wrap (m - k) ∧ IntKind.i64.wrap (n - k) ≠ IntKind.i64.wrap (IntKind.i64.wrap (m - k) - st) then none
    else if IntKind.i64.wrap (m - k) < st then
      if fx ≤ IntKind.i64.wrap (n - k) then none
      else match lookI l (IntKind.i64.wrap (m - k)) with
        | some old => if old ≠ IntKind.i64.wrap (n - k) then none else some (putI (IntKind.i64.wrap (m - k)) (IntKind.i64.wrap (n - k)) l)
        | none => some (putI (IntKind.i64.wrap (m - k)) (IntKind.i64.wrap (n - k)) l)
    else some l
  else if n ≠ m then none else some l

mutual
def matchF (st fx : Int) : Tm → Tm → Int → List (Int × Int) → Bool × List (Int × Int)
  | .mk o h n us, b, k, l =>
    if o ≠ b.op ∨ h ≠ b.hd ∨ us.length ≠ b.args.length then (false, l)
    else match headF st fx o h n b.n k l with
      | none => (false, l)
      | some l' => matchL st fx o us b.args 0 k l'
def matchL (st fx : Int) : Int → List Tm → List Tm → Nat → Int → List (Int × Int) → Bool × List (Int × Int)
  | o, u :: us, v :: vs, i, k, l => match matchF st fx u v (IntKind.i64.wrap (k + under o i)) l with
    | (true, l') => matchL st fx o us vs (i + 1) k l'
    | (false, l') => (false, l')
  | _, _, _, _, _, l => (true, l)
 end

theorem matchF_eq (st fx : Int) (a b : Tm) (k : Int) (l : List (Int × Int)) : matchF st fx a b k l = if a.op ≠ b.op ∨ a.hd ≠ b.hd ∨ a.args.length ≠ b.args.length then (false, l)
    else match headF st fx a.op a.hd a.n b.n k l with
      | none => (false, l)
      | some l' => matchL st fx a.op a.args b.args 0 k l' := by cases a; rfl

/-- The own blocks of match: what is captured. -/
abbrev matchB (st n fx : Int) (l : List (Int × Int)) : List Blk :=
  [.cells 3 [iS st], .obj (mapO .i64 (encI l)), .cells 90 [.mp 1], .cells 54 [iS n, iS fx], .cells 76 [.fn (.func 58) [] [.loc 0 0, .loc 2 0, .loc 3 0, .loc 4 0]]]

abbrev matchS : SV := .fn (.func 58) [] [.loc 0 0, .loc 2 0, .loc 3 0, .loc 4 0]

theorem match1_spec (st n fx : Int) (a : Tm) : ∀ (b : Tm) (k : Int) (l : List (Int × Int)) (a1 a2 : Option Addr) (c1 c2 : Nat),
    Meets Try.prog (.val matchS) [tmS a a1 c1, tmS b a2 c2, iS k] ⟨matchB st n fx l, [], [tmR a a1 c1, tmR b a2 c2]⟩
      (fun o S' => o = .ret (bS (matchF st fx a b k l).1) ∧ S' = ⟨matchB st n fx (matchF st fx a b k l).2, [], []⟩) := by
  induction a using Tm.ind with
  | h a ih =>
  intro b k l a1 a2 c1 c2
  refine Meets.of_ok fun hok => ?_
  have hB : (Tm.encL a.args).length ≤ 1152921504606846976 := (hok _ (List.mem_cons_self ..)).1
  refine spec_of_body (N := 127) (m := 5) (dt := drawsOf [(4, .leaf [0, 1, 2, 3, 4, 5, 6, 7, 8, 9], []), (19, .node [0, 1, 2, 3, 4, 5, 6, 7, 8, 9] [(10, .node [11] [(12, .leaf [13])])], [12])]) [3] ttOK Try.func58 rfl Try.call58 Try.ntmps58 rfl rfl rfl mixed (by kernel_rfl) ?_
  have hF := matchF_eq st fx a b k l
  have hla := Tm.encL_length a.args
  have hlb := Tm.encL_length b.args
  refine AtIf.mk (fun h1 => ?_) (fun h1 => ?_)
  · refine ret_own (matchB st n fx l) rfl rfl rfl rfl rfl ?_
    have hc : a.op ≠ b.op ∨ a.hd ≠ b.hd ∨ a.args.length ≠ b.args.length := by
      rw [hla, hlb] at h1
      simp only [Bool.or_eq_true, bne_iff_ne, ne_eq, Int.natCast_inj] at h1
      rcases h1 with (h1 | h1) | h1
      · exact .inl h1
      · exact .inr (.inl h1)
      · exact .inr (.inr h1)
    rw [hF, if_pos hc]
    exact ⟨rfl, rfl⟩
  have hc : ¬ (a.op ≠ b.op ∨ a.hd ≠ b.hd ∨ a.args.length ≠ b.args.length) := by
    rw [hla, hlb] at h1
    simp only [Bool.or_eq_false_iff, bne_eq_false_iff_eq, Int.natCast_inj] at h1
    obtain ⟨⟨h2, h3⟩, h4⟩ := h1
    simp [h2, h3, h4]
  rw [if_neg hc] at hF
  have hlen : a.args.length = b.args.length := by
    rcases Decidable.em (a.args.length = b.args.length) with h | h
    · exact h
    · exact (hc (.inr (.inr h))).elim
  have none_end : headF st fx a.op a.hd a.n b.n k l = none → matchF st fx a b k l = (false, l) := fun h => by rw [hF, h]
  refine AtCut.mk ⟨List (Int × Int), fun _ => [(2, iS k), (6, .loc 4 0), (7, .loc 5 0), (8, .loc 6 0)],
    fun l' => ⟨matchB st n fx l' ++ [.cells 24 [iS a.op, iS a.hd, iS a.n, .v (.slice a1 (Tm.encL a.args).length c1)], .cells 24 [iS b.op, iS b.hd, iS b.n, .v (.slice a2 (Tm.encL b.args).length c2)]], [], [tmR a a1 c1, tmR b a2 c2]⟩,
    fun l' => headF st fx a.op a.hd a.n b.n k l = some l', fun _ _ => ⟨rfl, rfl⟩, ?_, ?_⟩
  · have fail : headF st fx a.op a.hd a.n b.n k l = none → (Out.ret (bS false) = Out.ret (bS (matchF st fx a b k l).1) ∧ (⟨matchB st n fx l, [], []⟩ : St) = ⟨matchB st n fx (matchF st fx a b k l).2, [], []⟩) := fun h => by rw [none_end h]; exact ⟨rfl, rfl⟩
    refine AtIf.mk (fun h2 => ?_) (fun h2 => ?_)
    · have hk : a.op = 4 ∧ a.hd = 1 ∧ k ≤ b.n := by
        simp only [Bool.and_eq_true, beq_iff_eq, decide_eq_true_eq, ge_iff_le] at h2
        exact ⟨h2.1.1, h2.1.2, h2.2⟩
      refine AtIf.mk (fun h3 => ?_) (fun h3 => ?_)
      · refine ret_own (matchB st n fx l) rfl rfl rfl rfl rfl (fail ?_)
        simp only [decide_eq_true_eq] at h3
        rw [headF, if_pos hk, if_pos h3]
      simp only [decide_eq_false_iff_not] at h3
      refine AtIf.mk (fun h4 => ?_) (fun h4 => ?_)
      · refine ret_own (matchB st n fx l) rfl rfl rfl rfl rfl (fail ?_)
        simp only [Bool.and_eq_true, decide_eq_true_eq, bne_iff_ne, ge_iff_le] at h4
        rw [headF, if_pos hk, if_neg h3, if_pos h4]
      have h4' : ¬ (st ≤ IntKind.i64.wrap (b.n - k) ∧ IntKind.i64.wrap (a.n - k) ≠ IntKind.i64.wrap (IntKind.i64.wrap (b.n - k) - st)) := by
        simp only [Bool.and_eq_false_iff, decide_eq_false_iff_not, bne_eq_false_iff_eq, ge_iff_le] at h4
        rintro ⟨h5, h6⟩
        rcases h4 with h4 | h4
        · exact h4 h5
        · exact h6 h4
      refine AtIf.mk (fun h5 => ?_) (fun h5 => ?_)
      · simp only [decide_eq_true_eq] at h5
        refine at_lookup ttOK (.int .i64 0) rfl int_under Try.zeroValue3 rfl rfl rfl (fun v hv => ?_) (fun hv => ?_)
        · rw [look_encI] at hv
          cases hl : lookI l (IntKind.i64.wrap (b.n - k)) with
          | none => rw [hl] at hv; cases hv
          | some old =>
            rw [hl] at hv
            cases hv
            refine AtIf.mk (fun h6 => ?_) (fun h6 => ?_)
            · refine ret_own (matchB st n fx l) rfl rfl rfl rfl rfl (fail ?_)
              rw [headF, if_pos hk, if_neg h3, if_neg h4', if_pos h5, hl]
              split
              · rfl
              · rename_i h7
                simp only [Bool.or_eq_true, decide_eq_true_eq, bne_iff_ne, ge_iff_le, Bool.true_and] at h6
                rcases h6 with h6 | h6
                · exact (h7 h6).elim
                · simp [h6]
            · simp only [Bool.or_eq_false_iff, decide_eq_false_iff_not, bne_eq_false_iff_eq, ge_iff_le, Bool.true_and] at h6
              refine at_mapPut ttOK (.int .i64 (IntKind.i64.wrap (a.n - k))) rfl int_under rfl rfl rfl (fun _ => rfl) ?_
              refine ⟨putI (IntKind.i64.wrap (b.n - k)) (IntKind.i64.wrap (a.n - k)) l, ?_, ⟨rfl, rfl, rfl, rfl, trivial⟩, StLe.to _ _ (by rw [putAt_encI]; rfl) (by simp) rfl rfl⟩
              rw [headF, if_pos hk, if_neg h3, if_neg h4', if_pos h5, if_neg h6.1, hl]
              simp [h6.2]
        · rw [look_encI] at hv
          have hl : lookI l (IntKind.i64.wrap (b.n - k)) = none := by
            cases hl : lookI l (IntKind.i64.wrap (b.n - k)) with
            | none => rfl
            | some old => rw [hl] at hv; cases hv
          refine AtIf.mk (fun h6 => ?_) (fun h6 => ?_)
          · refine ret_own (matchB st n fx l) rfl rfl rfl rfl rfl (fail ?_)
            simp only [Bool.or_eq_true, decide_eq_true_eq, ge_iff_le, Bool.false_and, Bool.false_eq_true, or_false] at h6
            rw [headF, if_pos hk, if_neg h3, if_neg h4', if_pos h5, if_pos h6]
          · simp only [Bool.or_eq_false_iff, decide_eq_false_iff_not, ge_iff_le] at h6
            refine at_mapPut ttOK (.int .i64 (IntKind.i64.wrap (a.n - k))) rfl int_under rfl rfl rfl (fun _ => rfl) ?_
            refine ⟨putI (IntKind.i64.wrap (b.n - k)) (IntKind.i64.wrap (a.n - k)) l, ?_, ⟨rfl, rfl, rfl, rfl, trivial⟩, StLe.to _ _ (by rw [putAt_encI]; rfl) (by simp) rfl rfl⟩
            rw [headF, if_pos hk, if_neg h3, if_neg h4', if_pos h5, if_neg h6.1, hl]
      · refine ⟨l, ?_, ⟨rfl, rfl, rfl, rfl, trivial⟩, StLe.to _ _ rfl (by simp) rfl rfl⟩
        simp only [decide_eq_false_iff_not] at h5
        rw [headF, if_pos hk, if_neg h3, if_neg h4', if_neg h5]
    · have hk : ¬ (a.op = 4 ∧ a.hd = 1 ∧ k ≤ b.n) := by
        rintro ⟨e1, e2, e3⟩
        simp [e1, e2, e3] at h2
      refine AtIf.mk (fun h3 => ?_) (fun h3 => ?_)
      · refine ret_own (matchB st n fx l) rfl rfl rfl rfl rfl (fail ?_)
        simp only [bne_iff_ne] at h3
        rw [headF, if_neg hk, if_pos h3]
      · refine ⟨l, ?_, ⟨rfl, rfl, rfl, rfl, trivial⟩, StLe.to _ _ rfl (by simp) rfl rfl⟩
        simp only [bne_eq_false_iff_eq] at h3
        rw [headF, if_neg hk, if_neg (by simpa using h3)]
  · intro l0 hl0
    rw [hl0] at hF
    simp only at hF
    refine AtLoop.mk ⟨Nat × List (Int × Int), fun x => [(107, iS x.1), (106, iS (Tm.encL a.args).length), (105, .v (.slice a1 (Tm.encL a.args).length c1)), (2, iS k), (6, .loc 4 0), (7, .loc 5 0), (8, .loc 6 0)],
      fun x => ⟨matchB st n fx x.2 ++ [.cells 24 [iS a.op, iS a.hd, iS a.n, .v (.slice a1 (Tm.encL a.args).length c1)], .cells 24 [iS b.op, iS b.hd, iS b.n, .v (.slice a2 (Tm.encL b.args).length c2)]], [], [tmR a a1 c1, tmR b a2 c2]⟩,
      fun x => x.1 ≤ a.args.length ∧ matchF st fx a b k l = matchL st fx a.op (a.args.drop x.1) (b.args.drop x.1) x.1 k x.2, fun x => a.args.length - x.1, (0, l0), ⟨Nat.zero_le _, hF⟩, ⟨rfl, rfl, rfl, rfl, rfl, rfl, rfl, trivial⟩, StLe.refl _, fun _ _ => ⟨rfl, rfl⟩, ?_⟩
    rintro ⟨i, l1⟩ ⟨hi, hinv⟩
    simp only at hi hinv ⊢
    refine AtIf.mk (fun h1 => ?_) (fun h1 => ?_)
    · simp only [decide_eq_true_eq, hla] at h1
      have hlt : i < a.args.length := by omega
      have hx : a.args[i]? = some a.args[i] := List.getElem?_eq_getElem hlt
      have hy : b.args[i]? = some (b.args[i]'(by omega)) := List.getElem?_eq_getElem (by omega)
      refine at_index ttOK 0 rfl rfl rfl rfl (by omega) (by rw [Int.toNat_natCast]; exact Tm.encL_get hx) ?_
      intro b1 d1 _ _
      refine at_index ttOK 1 rfl rfl rfl rfl (by omega) (by rw [Int.toNat_natCast]; exact Tm.encL_get hy) ?_
      intro b2 d2 _ _
      refine (under_spec a a1 c1 i).at (by simp) rfl rfl ?_
      rintro r out ⟨rfl, rfl⟩
      refine ⟨fun _ _ h => h, ?_⟩
      have hs := ih a.args[i] (List.getElem_mem hlt) (b.args[i]'(by omega)) (IntKind.i64.wrap (k + under a.op i)) l1 b1 b2 d1 d2
      refine hs.frame0 _ [] rfl (by simp) ?_ ?_ rfl rfl ?_
      · intro q hq
        simp only [List.mem_cons, List.not_mem_nil, or_false] at hq
        rcases hq with rfl | rfl | rfl | rfl | rfl <;> rfl
      · intro p hp
        simp only [List.mem_cons, List.not_mem_nil, or_false] at hp
        rcases hp with rfl | rfl <;> simp
      rintro o s' ⟨rfl, rfl⟩
      refine ⟨rfl, ?_⟩
      have hd : matchL st fx a.op (a.args.drop i) (b.args.drop i) i k l1 = match matchF st fx a.args[i] (b.args[i]'(by omega)) (IntKind.i64.wrap (k + under a.op i)) l1 with
          | (true, l') => matchL st fx a.op (a.args.drop (i + 1)) (b.args.drop (i + 1)) (i + 1) k l'
          | (false, l') => (false, l') := by
        rw [List.drop_eq_getElem_cons hlt, List.drop_eq_getElem_cons (show i < b.args.length by omega)]
        rfl
      rw [hd] at hinv
      cases hm : matchF st fx a.args[i] (b.args[i]'(by omega)) (IntKind.i64.wrap (k + under a.op i)) l1 with
      | mk bb l2 =>
      rw [hm] at hinv
      refine AtIf.mk (fun h2 => ?_) (fun h2 => ?_)
      · have hb : bb = false := by simpa using h2
        subst hb
        refine ret_own (matchB st n fx l2) rfl rfl rfl rfl rfl ?_
        rw [hinv]
        exact ⟨rfl, rfl⟩
      · have hb : bb = true := by simpa using h2
        subst hb
        have hw3 : IntKind.i64.wrap (i + 1) = ((i + 1 : Nat) : Int) := wrap_i64 (by omega) (by omega)
        refine ⟨(i + 1, l2), ⟨by omega, hinv⟩, by simp only; omega, ⟨by rw [← hw3]; rfl, rfl, rfl, rfl, rfl, rfl, rfl, trivial⟩, StLe.to _ _ rfl ?_ rfl rfl⟩
        intro p hp
        simp only [List.mem_cons, List.not_mem_nil, or_false] at hp
        rcases hp with rfl | rfl <;> simp
    · refine ret_own (matchB st n fx l1) rfl rfl rfl rfl rfl ?_
      simp only [decide_eq_false_iff_not, hla] at h1
      rw [List.drop_of_length_le (by omega)] at hinv
      rw [hinv]
      exact ⟨rfl, rfl⟩
end Go.Proofs.Ytjjgfenincdgpaa
