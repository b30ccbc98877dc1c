/- The law OrderSim: it answers true. Condition: the arguments read as ints and terms. -/
import Derived.Test.YtjjgfenincdgpaaLawH
namespace Go.Proofs.Ytjjgfenincdgpaa
open Go.Tr Go
set_option maxRecDepth 10000

/-- The order of one argument. -/
def argO (x : Int) : Od := .mk 1 x []

theorem sim_cons (fx : Int) (A B : List Tm) (p : Od) (ps : List Od) (sm : Bool) : refLs fx A B 3 (p :: ps) sm = if refO fx A B p = 0 then 0 else refLs fx A B 3 ps (sm || refO fx A B p == 2) := by
  simp only [refLs]
  rw [if_neg (fun hh => absurd hh.1 (by decide))]

theorem sim_two (fx : Int) (A B : List Tm) : ∀ (ps : List Od), refLs fx A B 3 ps true ≠ 0 → refLs fx A B 3 ps true = 2
  | [], _ => rfl
  | p :: ps, h => by
    rw [sim_cons, Bool.true_or] at h ⊢
    split at h
    · exact absurd rfl h
    · rename_i h0
      rw [if_neg h0]
      exact sim_two fx A B ps h

/-- What is less, or equal, by all parts together is so by the parts one after the other. -/
theorem sim_lex (fx : Int) (A B : List Tm) : ∀ (ps : List Od), refLs fx A B 3 ps false ≠ 0 → refLs fx A B 2 ps false = refLs fx A B 3 ps false
  | [], _ => rfl
  | p :: ps, h => by
    rw [sim_cons, Bool.false_or] at h ⊢
    have e2 : refLs fx A B 2 (p :: ps) false = if refO fx A B p ≠ 1 then refO fx A B p else if refO fx A B p = 0 then 0 else refLs fx A B 2 ps (false || refO fx A B p == 2) := by
      simp only [refLs, true_and]
    rw [e2, Bool.false_or]
    rcases refO_cases fx A B p with h1 | h1 | h1
    · rw [h1] at h; exact absurd rfl h
    · rw [h1] at h ⊢
      have h2 : refLs fx A B 3 ps false ≠ 0 := h
      have := sim_lex fx A B ps h2
      exact this
    · rw [h1] at h ⊢
      have h2 : refLs fx A B 3 ps true ≠ 0 := h
      have := sim_two fx A B ps h2
      exact this.symm

theorem okF_op (ps : List Od) (n fx : Int) (A B : List Tm) : okF (.mk 2 0 ps) n fx A B = okF (.mk 3 0 ps) n fx A B := by
  have : rightF (min A.length B.length : Nat) (.mk 2 0 ps) 0 = rightF (min A.length B.length : Nat) (.mk 3 0 ps) 0 := by
    simp only [rightF]
    simp
  simp only [okF, this]

theorem RepS_arg {reps : List (Value × D)} (x : Int) : RepS reps (argO x).enc (cellsOf (.agg [iS 1, iS x, .v (.slice none 0 0)])) :=
  ⟨[iS 1], _, rfl, rfl, [iS x], _, rfl, rfl, [.v (.slice none 0 0)], [], rfl, .inr ⟨rfl, rfl⟩, rfl⟩

theorem Od.encL_snoc (l : List Od) (t : Od) : Od.encL (l ++ [t]) = Od.encL l ++ [t.enc] := by simp [Od.encL_eq]

theorem orderSim_spec (l : List Int) (n fx : Int) (A B : List Tm) (a0 a3 a4 : Option Addr) (c0 c3 c4 : Nat) :
    Pure Try.prog (fnS 8) [intsS l a0 c0, .agg [iS n, iS fx], .agg [.v (.slice a3 (Tm.encL A).length c3), .v (.slice a4 (Tm.encL B).length c4)]]
      [intsR l a0 c0, (.slice a3 (Tm.encL A).length c3, .sl 4 (Tm.encL A)), (.slice a4 (Tm.encL B).length c4, .sl 4 (Tm.encL B))] (fun r out => r = bS true ∧ out = []) := by
  refine Meets.nilAcc 3 41 ?_
  refine spec_of_body (N := 95) (m := 0) (dt := drawsOf [(5, .node [0, 1, 2, 3, 4, 5, 6] [(7, .node [] [(8, .node [9] [(10, .leaf [])])])], [8, 10]), (6, .leaf [0, 1, 2, 3, 4, 5, 6, 7, 8, 9, 10, 11, 12, 13, 14, 15], [])]) [2,6] ttOK Try.func8 rfl Try.call8 Try.ntmps8 rfl rfl rfl mixed (by kernel_rfl) ?_
  -- the order
  refine AtCut.mk ⟨Option Addr × Nat, fun _ => [(4, .loc 0 0), (5, .loc 1 0), (7, .loc 2 0)],
    fun x => ⟨[.cells 42 [iS n, iS fx], .cells 43 [.v (.slice a3 (Tm.encL A).length c3), .v (.slice a4 (Tm.encL B).length c4)], .cells 41 [iS 3, iS 0, .v (.slice x.1 (Od.encL ((l.take 8).map argO)).length x.2)]], [], [(.slice a3 (Tm.encL A).length c3, .sl 4 (Tm.encL A)), (.slice a4 (Tm.encL B).length c4, .sl 4 (Tm.encL B)), (.slice x.1 (Od.encL ((l.take 8).map argO)).length x.2, .sl 3 (Od.encL ((l.take 8).map argO)))]⟩,
    fun _ => True, fun _ _ => ⟨rfl, rfl⟩, ?_, ?_⟩
  · refine AtLoop.mk ⟨Nat × Option Addr × Nat, fun x => [(8, iS x.1), (0, intsS l a0 c0), (4, .loc 0 0), (5, .loc 1 0), (7, .loc 2 0)],
      fun x => ⟨[.cells 42 [iS n, iS fx], .cells 43 [.v (.slice a3 (Tm.encL A).length c3), .v (.slice a4 (Tm.encL B).length c4)], .cells 41 [iS 3, iS 0, .v (.slice x.2.1 (Od.encL ((l.take x.1).map argO)).length x.2.2)]], [⟨.slice x.2.1 (Od.encL ((l.take x.1).map argO)).length x.2.2, 3, 41, Od.encL ((l.take x.1).map argO)⟩], [intsR l a0 c0, (.slice a3 (Tm.encL A).length c3, .sl 4 (Tm.encL A)), (.slice a4 (Tm.encL B).length c4, .sl 4 (Tm.encL B))]⟩,
      fun x => x.1 ≤ l.length ∧ x.1 ≤ 8, fun x => l.length - x.1, (0, none, 0), ⟨Nat.zero_le _, by decide⟩, ⟨rfl, rfl, rfl, rfl, rfl, trivial⟩, StLe.refl _, fun _ _ => ⟨rfl, rfl⟩, ?_⟩
    rintro ⟨i, a2, c2⟩ ⟨hi, hi8⟩
    simp only at hi hi8 ⊢
    have hel : (Od.encL ((l.take i).map argO)).length = i := by rw [Od.encL_length, List.length_map, List.length_take]; omega
    refine AtIf.mk (fun h1 => ?_) (fun h1 => ?_)
    · have h1 : i < l.length ∧ i < 8 := by
        simp at h1
        omega
      obtain ⟨x, hx⟩ : ∃ x, l[i]? = some x := ⟨_, List.getElem?_eq_getElem (by omega)⟩
      refine at_index ttOK 0 rfl rfl rfl rfl (by omega) (by rw [Int.toNat_natCast]; exact ints_get hx) ?_
      refine at_build ttOK 40 [(argO x).enc] rfl (by kernel_rfl) ⟨⟨rfl, rfl, rfl, RepS_arg x⟩, trivial⟩ rfl (by decide) (by decide) ?_
      intro a7
      refine ⟨fun _ _ h => h, ?_⟩
      refine at_append ttOK 40 0 3 rfl (by kernel_rfl) rfl rfl rfl rfl (by rw [hel]; simp; omega) (by rw [hel]; simp; omega) ?_
      intro a8 c8
      have hw3 : IntKind.i64.wrap (i + 1) = ((i + 1 : Nat) : Int) := wrap_i64 (by omega) (by omega)
      have he : Od.encL ((l.take (i + 1)).map argO) = Od.encL ((l.take i).map argO) ++ [(argO x).enc] := by
        rw [List.take_add_one, hx, List.map_append, ← Od.encL_snoc]; rfl
      have hl : (Od.encL ((l.take (i + 1)).map argO)).length = (Od.encL ((l.take i).map argO)).length + [(argO x).enc].length := by rw [he, List.length_append]
      refine ⟨(i + 1, a8, c8), ⟨by simp only; omega, by simp only; omega⟩, by simp only; omega, ⟨by rw [← hw3]; rfl, rfl, rfl, rfl, rfl, trivial⟩, StLe.of ?_ ?_ (by simp) rfl rfl⟩
      · simp only [hl]; rfl
      · rw [he, List.length_append]
        exact List.Sublist.refl _
    · have h1 : ¬ (i < l.length ∧ i < 8) := by
        intro hh
        simp [hh.1] at h1
        omega
      have ht : l.take i = l.take 8 := by
        by_cases h8 : i = 8
        · rw [h8]
        · rw [List.take_of_length_le (by omega), List.take_of_length_le (by omega)]
      rw [ht]
      refine ⟨(a2, c2), trivial, ⟨rfl, rfl, rfl, trivial⟩, StLe.freeze _ 3 (Nat.le_refl _) (by intro k hk; simp at hk; rcases hk with rfl | rfl | rfl <;> rfl) _ ?_⟩
      intro p hp
      simp only [List.mem_cons, List.not_mem_nil, or_false] at hp
      rcases hp with rfl | rfl | rfl
      · exact .inl (by simp)
      · exact .inl (by simp)
      · exact .inr ⟨_, List.mem_singleton.2 rfl, rfl⟩
  rintro ⟨a1, c1⟩ _
  simp only
  generalize (l.take 8).map argO = ps
  have hla := Tm.encL_length A
  have hlb := Tm.encL_length B
  -- the lists, cut
  refine AtCut.mk ⟨(Option Addr × Nat) × (Option Addr × Nat), fun x => [(9, .v (.slice x.1.1 (Tm.encL (A.take 20)).length x.1.2)), (10, .v (.slice x.2.1 (Tm.encL (B.take 20)).length x.2.2)), (4, .loc 0 0), (7, .loc 2 0)],
    fun x => ⟨[.cells 42 [iS n, iS fx], .cells 43 [.v (.slice a3 (Tm.encL A).length c3), .v (.slice a4 (Tm.encL B).length c4)], .cells 41 [iS 3, iS 0, .v (.slice a1 (Od.encL ps).length c1)]], [], [(.slice a1 (Od.encL ps).length c1, .sl 3 (Od.encL ps)), (.slice x.1.1 (Tm.encL (A.take 20)).length x.1.2, .sl 4 (Tm.encL (A.take 20))), (.slice x.2.1 (Tm.encL (B.take 20)).length x.2.2, .sl 4 (Tm.encL (B.take 20)))]⟩,
    fun _ => True, fun _ _ => ⟨rfl, rfl⟩, ?_, ?_⟩
  · have hm : ∀ l : List Tm, (if (20 : Int) < (Tm.encL l).length then (20 : Int) else (Tm.encL l).length) = ((min l.length 20 : Nat) : Int) := by
      intro l
      rw [Tm.encL_length]
      split <;> omega
    have ht : ∀ l : List Tm, ((Tm.encL l).take (min l.length 20)).drop 0 = Tm.encL (l.take 20) := by
      intro l
      rw [encL_take]
      congr 1
      rw [Nat.min_comm, ← List.take_take, List.take_length]
    have hn : ∀ l : List Tm, min l.length 20 - 0 = (Tm.encL (l.take 20)).length := by
      intro l
      rw [Tm.encL_length, List.length_take, Nat.min_comm]; rfl
    refine at_index_arr ttOK rfl rfl rfl (by omega) (by decide) rfl ?_
    refine at_index_arr ttOK rfl rfl rfl (by omega) (by decide) rfl ?_
    refine at_min ?_
    refine at_slice ttOK 0 0 (min A.length 20) rfl rfl rfl rfl (hm A) (by omega) (by omega) ?_
    intro a5 c5 _
    refine at_index_arr ttOK rfl rfl rfl (by omega) (by decide) rfl ?_
    refine at_index_arr ttOK rfl rfl rfl (by omega) (by decide) rfl ?_
    refine at_min ?_
    refine at_slice ttOK 1 0 (min B.length 20) rfl rfl rfl rfl (hm B) (by omega) (by omega) ?_
    intro a6 c6 _
    rw [ht A, ht B, hn A, hn B]
    exact ⟨((a5, c5), (a6, c6)), trivial, ⟨rfl, rfl, rfl, rfl, trivial⟩, StLe.to _ _ rfl (by simp) rfl rfl⟩
  rintro ⟨⟨a5, c5⟩, a6, c6⟩ _
  simp only
  generalize A.take 20 = A'
  generalize B.take 20 = B'
  have hE3 := listsE_ok (.mk 3 0 ps) n fx A' B'
  have hE2 := listsE_ok (.mk 2 0 ps) n fx A' B'
  rw [okF_op] at hE2
  refine at_index_arr ttOK rfl rfl rfl (by omega) (by decide) rfl ?_
  refine at_index_arr ttOK rfl rfl rfl (by omega) (by decide) rfl ?_
  refine (lists_spec (.mk 3 0 ps) n fx A' B' a1 a5 a6 c1 c5 c6).at ?_ rfl rfl ?_
  · intro p hp
    simp only [List.mem_cons, List.not_mem_nil, or_false] at hp
    rcases hp with rfl | rfl | rfl <;> simp [Od.parts]
  rintro r out ⟨rfl, rfl⟩
  refine at_index_arr ttOK rfl rfl rfl (by omega) (by decide) rfl ?_
  refine at_index_arr ttOK rfl rfl rfl (by omega) (by decide) rfl ?_
  refine (lists_spec (.mk 2 0 ps) n fx A' B' a1 a5 a6 c1 c5 c6).at ?_ rfl rfl ?_
  · intro p hp
    simp only [List.mem_cons, List.not_mem_nil, or_false] at hp
    rcases hp with rfl | rfl | rfl <;> simp [Od.parts]
  rintro r out ⟨rfl, rfl⟩
  cases hk : okF (.mk 3 0 ps) n fx A' B' with
  | false =>
    rw [hk, if_neg (by decide)] at hE3 hE2
    rw [hE3, hE2]
    refine AtIf.mk (fun _ => ?_) (fun h => by cases h)
    refine AtGuard.mk (fun _ => ?_) (fun h => by cases h)
    refine awake_spec.at (by simp) rfl rfl ?_
    rintro r out ⟨rfl, rfl⟩
    exact AtRet.pure [] rfl (by simp) ⟨rfl, rfl⟩
  | true =>
    rw [hk, if_pos rfl] at hE3 hE2
    rw [hE3, hE2]
    have e3 : refO fx A' B' (.mk 3 0 ps) = refLs fx A' B' 3 ps false := rfl
    have e2 : refO fx A' B' (.mk 2 0 ps) = refLs fx A' B' 2 ps false := rfl
    rw [e3, e2]
    have hfin : ((refLs fx A' B' 3 ps false == 0) || (refLs fx A' B' 2 ps false == refLs fx A' B' 3 ps false)) = true := by
      by_cases h : refLs fx A' B' 3 ps false = 0
      · simp [h]
      · rw [sim_lex fx A' B' ps h]; simp
    refine AtIf.mk (fun h => by cases h) (fun _ => ?_)
    refine AtGuard.mk (fun _ => ?_) (fun h => ?_)
    rotate_left
    · exfalso
      have h : ((0 : Int) == 0 && ((refLs fx A' B' 3 ps false == 0) || (refLs fx A' B' 2 ps false == refLs fx A' B' 3 ps false))) = false := h
      rw [hfin] at h
      simp at h
    refine awake_spec.at (by simp) rfl rfl ?_
    rintro r out ⟨rfl, rfl⟩
    exact AtRet.pure [] rfl (by simp) ⟨rfl, rfl⟩
end Go.Proofs.Ytjjgfenincdgpaa
