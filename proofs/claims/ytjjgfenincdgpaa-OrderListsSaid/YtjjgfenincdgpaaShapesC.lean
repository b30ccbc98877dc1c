/- The contracts of ContainsFunc as Lists asks it of terms, of shapeOf, and of the shapes' compare. Conditions: the arguments read as orders and terms; compare: the order fits the lists. -/
import Derived.Test.YtjjgfenincdgpaaShapesB
namespace Go.Proofs.Ytjjgfenincdgpaa
open Go.Tr Go
set_option maxRecDepth 10000

abbrev badY : SV := .fn (.func 35) [] [.loc 0 0]
abbrev badB (n : Int) : List Blk := [.cells 3 [iS n]]

theorem bad_spec (n : Int) (t : Tm) (a : Option Addr) (c : Nat) : Meets Try.prog (.val badY) [tmS t a c] ⟨badB n, [], [tmR t a c]⟩ (fun o S' => o = .ret (bS (!isObjectF t n)) ∧ S' = ⟨badB n, [], []⟩) := by
  refine spec_of_body (N := 8) (m := 1) (dt := fun _ => none) [] ttOK Try.func35 rfl Try.call35 Try.ntmps35 rfl rfl rfl mixed (by kernel_rfl) ?_
  refine (isObject_spec t a c n).at (by simp) rfl rfl ?_
  rintro r out ⟨rfl, rfl⟩
  exact ret_own (badB n) rfl rfl rfl rfl rfl ⟨rfl, rfl⟩

theorem indexTerms_spec (n : Int) (us : List Tm) (a : Option Addr) (c : Nat) :
    Meets Try.prog (fnS 52) [.v (.slice a (Tm.encL us).length c), badY] ⟨badB n, [], [(.slice a (Tm.encL us).length c, .sl 4 (Tm.encL us))]⟩ (fun o S' => o = .ret (iS (idxFrom (fun x => !isObjectF x n) us 0)) ∧ S' = ⟨badB n, [], []⟩) := by
  refine Meets.of_ok fun hok => ?_
  have hB : (Tm.encL us).length ≤ 1152921504606846976 := (hok _ (List.mem_cons_self ..)).1
  have hlen := Tm.encL_length us
  refine spec_of_body (N := 19) (m := 1) (dt := fun _ => none) [] ttOK Try.func52 rfl Try.call52 Try.ntmps52 rfl rfl rfl mixed (by kernel_rfl) ?_
  refine AtLoop.mk ⟨Nat, fun i => [(8, iS i), (7, iS (Tm.encL us).length), (0, .v (.slice a (Tm.encL us).length c)), (1, badY)], fun _ => ⟨badB n, [], [(.slice a (Tm.encL us).length c, .sl 4 (Tm.encL us))]⟩,
    fun i => i ≤ us.length ∧ idxFrom (fun x => !isObjectF x n) us 0 = idxFrom (fun x => !isObjectF x n) (us.drop i) i, fun i => us.length - i, 0, ⟨Nat.zero_le _, rfl⟩, ⟨rfl, rfl, rfl, rfl, trivial⟩, StLe.refl _, fun _ _ => ⟨rfl, rfl⟩, ?_⟩
  rintro i ⟨hi, hinv⟩
  refine AtIf.mk (fun h1 => ?_) (fun h1 => ?_)
  · simp only [decide_eq_true_eq, hlen] at h1
    obtain ⟨x, hx⟩ : ∃ x, us[i]? = some x := ⟨_, List.getElem?_eq_getElem (by omega)⟩
    refine at_index ttOK 0 rfl rfl rfl rfl (by omega) (by rw [Int.toNat_natCast]; exact Tm.encL_get hx) ?_
    intro b1 d1 _ _
    refine (bad_spec n x b1 d1).frame0 _ [] rfl (by simp) (by intro q hq; simp at hq; subst hq; rfl) (by simp) rfl rfl ?_
    rintro o s' ⟨rfl, rfl⟩
    refine ⟨rfl, ?_⟩
    rw [drop_cons hx, idxFrom] at hinv
    refine AtIf.mk (fun h2 => ?_) (fun h2 => ?_)
    · have h2 : (!isObjectF x n) = true := h2
      rw [if_pos h2] at hinv
      refine ret_own (badB n) rfl rfl rfl rfl rfl ?_
      rw [hinv]
      exact ⟨rfl, rfl⟩
    · have h2 : (!isObjectF x n) = false := h2
      rw [if_neg (by simp [h2])] at hinv
      have hw3 : IntKind.i64.wrap (i + 1) = ((i + 1 : Nat) : Int) := wrap_i64 (by omega) (by omega)
      exact ⟨i + 1, ⟨by omega, hinv⟩, by simp only; omega, ⟨by rw [← hw3]; rfl, rfl, rfl, rfl, trivial⟩, StLe.to _ _ rfl (by simp) rfl rfl⟩
  · simp only [decide_eq_false_iff_not, hlen] at h1
    rw [List.drop_of_length_le (by omega)] at hinv
    refine ret_own (badB n) rfl rfl rfl rfl rfl ?_
    rw [hinv]
    exact ⟨rfl, rfl⟩

theorem containsTerms_spec (n : Int) (us : List Tm) (a : Option Addr) (c : Nat) :
    Meets Try.prog (fnS 37) [.v (.slice a (Tm.encL us).length c), badY] ⟨badB n, [], [(.slice a (Tm.encL us).length c, .sl 4 (Tm.encL us))]⟩ (fun o S' => o = .ret (bS (us.any fun x => !isObjectF x n)) ∧ S' = ⟨badB n, [], []⟩) := by
  refine spec_of_body (N := 9) (m := 1) (dt := fun _ => none) [] ttOK Try.func37 rfl Try.call37 Try.ntmps37 rfl rfl rfl mixed (by kernel_rfl) ?_
  refine (indexTerms_spec n us a c).frame0 _ [] rfl (by simp) (by intro q hq; simp at hq; subst hq; rfl) (by simp) rfl rfl ?_
  rintro o s' ⟨rfl, rfl⟩
  refine ⟨rfl, ?_⟩
  refine ret_own (badB n) rfl rfl rfl rfl rfl ⟨?_, rfl⟩
  have : decide (idxFrom (fun x => !isObjectF x n) us 0 ≥ 0) = us.any (fun x => !isObjectF x n) := by rw [Bool.eq_iff_iff, decide_eq_true_eq, idxFrom_any]
  rw [← this]

mutual
/-- The shape of an order, as data. -/
def shD : Od → D
  | .mk o n ps => if o = 1 then .ifc 82 (.int .i64 n) else .ifc (if o = 2 then 84 else 85) (.sl 1 (shDL ps))
def shDL : List Od → List D
  | [] => []
  | p :: ps => shD p :: shDL ps
 end
theorem shD_eq (t : Od) : shD t = if t.op = 1 then .ifc 82 (.int .i64 t.n) else .ifc (if t.op = 2 then 84 else 85) (.sl 1 (shDL t.parts)) := by cases t; rfl
theorem shDL_eq : ∀ (l : List Od), shDL l = l.map shD
  | [] => rfl
  | p :: ps => by simp only [shDL, List.map_cons, shDL_eq ps]
theorem shDL_length (l : List Od) : (shDL l).length = l.length := by simp [shDL_eq]
theorem shDL_get {l : List Od} {i : Nat} {t : Od} (h : l[i]? = some t) : (shDL l)[i]? = some (shD t) := by rw [shDL_eq, List.getElem?_map, h]; rfl

/-- The shape of an order, as the machine has it; q: its list, where it has one. -/
def ShapeIs (p : Od) (s : SV) (q : Value × D) : Prop :=
  (p.op = 1 ∧ s = .ifc 82 (iS p.n)) ∨
  (p.op = 2 ∧ ∃ a c, s = .ifc 84 (.v (.slice a (shDL p.parts).length c)) ∧ q = (.slice a (shDL p.parts).length c, .sl 1 (shDL p.parts))) ∨
  ((p.op ≠ 1 ∧ p.op ≠ 2) ∧ ∃ a c, s = .ifc 85 (.v (.slice a (shDL p.parts).length c)) ∧ q = (.slice a (shDL p.parts).length c, .sl 1 (shDL p.parts)))

theorem ShapeIs.repS {p : Od} {s : SV} {q : Value × D} {reps : List (Value × D)} (h : ShapeIs p s q) (hr : q ∈ reps) : RepS reps (shD p) (cellsOf s) := by
  rw [shD_eq]
  rcases h with ⟨h1, rfl⟩ | ⟨h1, a, c, rfl, rfl⟩ | ⟨⟨h1, h2⟩, a, c, rfl, rfl⟩
  · rw [if_pos h1]
    exact ⟨_, rfl, rfl⟩
  · rw [if_neg (by omega), if_pos h1]
    exact ⟨_, rfl, .inl ⟨_, rfl, hr⟩⟩
  · rw [if_neg h1, if_neg h2]
    exact ⟨_, rfl, .inl ⟨_, rfl, hr⟩⟩

theorem ShapeIs.one {p : Od} {s : SV} {q : Value × D} (h : ShapeIs p s q) : plainS s = true ∧ (cellsOf s).length = 1 ∧ s.wf 0 = true := by
  rcases h with ⟨_, rfl⟩ | ⟨_, a, c, rfl, _⟩ | ⟨_, a, c, rfl, _⟩ <;> exact ⟨rfl, rfl, rfl⟩

theorem shDL_snoc (l : List Od) (t : Od) : shDL (l ++ [t]) = shDL l ++ [shD t] := by simp [shDL_eq]

mutual
/-- An order with few parts, and so are these. -/
def smallO : Od → Prop
  | .mk _ _ ps => ps.length ≤ 1000 ∧ smallOL ps
def smallOL : List Od → Prop
  | [] => True
  | p :: ps => smallO p ∧ smallOL ps
 end
theorem smallOL_mem : ∀ {ps : List Od} {p : Od}, smallOL ps → p ∈ ps → smallO p
  | [], p, _, h => by simp at h
  | q :: ps, p, h, hm => by
    simp only [smallOL] at h
    rcases List.mem_cons.1 hm with e | e
    · subst e; exact h.1
    · exact smallOL_mem h.2 e
theorem smallO_parts {t : Od} (h : smallO t) : t.parts.length ≤ 1000 ∧ ∀ x ∈ t.parts, smallO x := by
  cases t; simp only [smallO] at h; exact ⟨h.1, fun x hx => smallOL_mem h.2 hx⟩

theorem shapeOf_spec (t : Od) : ∀ (a : Option Addr) (c : Nat), t.parts.length ≤ 1000 → (∀ x ∈ t.parts, smallO x) → Pure Try.prog (fnS 38) [odS t a c] [odR t a c] (fun r out => ∃ q, out = [q] ∧ ShapeIs t r q) := by
  induction t using Od.ind with
  | h t ih =>
  intro a c hp1 hp2
  refine Meets.of_ok fun hok => ?_
  have hlen := Od.encL_length t.parts
  refine Meets.nilAcc 1 66 ?_
  refine Meets.nilRep 1 ?_
  refine spec_of_body (N := 32) (m := 0) (dt := fun _ => none) [] ttOK Try.func38 rfl Try.call38 Try.ntmps38 rfl rfl rfl mixed (by kernel_rfl) ?_
  refine AtIf.mk (fun h1 => ?_) (fun h1 => ?_)
  · have h1 : t.op = 1 := by simpa using h1
    refine at_iface (by kernel_rfl) rfl ?_
    exact AtRet.pure [(.slice none 0 0, .sl 1 [])] rfl (by simp) ⟨_, rfl, .inl ⟨h1, rfl⟩⟩
  have h1 : ¬ t.op = 1 := by simpa using h1
  refine AtLoop.mk ⟨Nat × Option Addr × Nat, fun x => [(15, iS x.1), (14, iS (Od.encL t.parts).length), (13, .v (.slice a (Od.encL t.parts).length c)), (3, .v (.slice x.2.1 (shDL (t.parts.take x.1)).length x.2.2)), (1, .loc 0 0)],
    fun x => ⟨[.cells 41 [iS t.op, iS t.n, .v (.slice a (Od.encL t.parts).length c)]], [⟨.slice x.2.1 (shDL (t.parts.take x.1)).length x.2.2, 1, 66, shDL (t.parts.take x.1)⟩], [(.slice none 0 0, .sl 1 []), odR t a c]⟩,
    fun x => x.1 ≤ t.parts.length, fun x => t.parts.length - x.1, (0, none, 0), Nat.zero_le _, ⟨rfl, rfl, rfl, rfl, rfl, trivial⟩, StLe.refl _, fun _ _ => ⟨rfl, rfl⟩, ?_⟩
  rintro ⟨i, a2, c2⟩ hi
  simp only at hi ⊢
  have hsl : (shDL (t.parts.take i)).length = i := by rw [shDL_length, List.length_take]; omega
  refine AtIf.mk (fun h2 => ?_) (fun h2 => ?_)
  · simp only [decide_eq_true_eq, hlen] at h2
    obtain ⟨x, hx⟩ : ∃ x, t.parts[i]? = some x := ⟨_, List.getElem?_eq_getElem (by omega)⟩
    have hxm := List.mem_of_getElem? hx
    refine at_index ttOK 1 rfl rfl rfl rfl (by omega) (by rw [Int.toNat_natCast]; exact Od.encL_get hx) ?_
    intro b1 d1 _ _
    refine (ih x hxm b1 d1 (smallO_parts (hp2 x hxm)).1 (smallO_parts (hp2 x hxm)).2).at (by simp) rfl rfl ?_
    rintro r out ⟨q, rfl, hsh⟩
    obtain ⟨o1, o2, o3⟩ := hsh.one
    refine at_build ttOK 16 [shD x] rfl (by kernel_rfl) ⟨⟨rfl, o1, o2, hsh.repS (by simp)⟩, trivial⟩ rfl (by decide) (by decide) ?_
    intro a7
    refine at_append ttOK 16 0 4 rfl (by kernel_rfl) rfl rfl rfl rfl (by simp [hsl]; omega) (by simp [hsl]; omega) ?_
    intro a8 c8
    have hw3 : IntKind.i64.wrap (i + 1) = ((i + 1 : Nat) : Int) := wrap_i64 (by omega) (by omega)
    have ht : t.parts.take (i + 1) = t.parts.take i ++ [x] := by rw [List.take_add_one, hx]; rfl
    have he : shDL (t.parts.take (i + 1)) = shDL (t.parts.take i) ++ [shD x] := by rw [ht, shDL_snoc]
    have hl : (shDL (t.parts.take (i + 1))).length = (shDL (t.parts.take i)).length + [shD x].length := by rw [he, List.length_append]
    refine ⟨(i + 1, a8, c8), by simp only; omega, by simp only; omega, ⟨by rw [← hw3]; rfl, rfl, rfl, by simp only [hl]; rfl, rfl, trivial⟩, StLe.of rfl ?_ (by simp) rfl rfl⟩
    rw [he, List.length_append]
    exact List.Sublist.refl _
  · simp only [decide_eq_false_iff_not, hlen] at h2
    have hfull : t.parts.take i = t.parts := List.take_of_length_le (by omega)
    rw [hfull]
    refine AtIf.mk (fun h3 => ?_) (fun h3 => ?_)
    · have h3 : t.op = 2 := by simpa using h3
      refine at_iface (by kernel_rfl) rfl ?_
      refine AtRet.grown [(.slice a2 (shDL t.parts).length c2, .sl 1 (shDL t.parts))] rfl (fun p hp => .inr ?_) ⟨_, rfl, .inr (.inl ⟨h3, a2, c2, rfl, rfl⟩)⟩
      simp only [List.mem_singleton] at hp
      subst hp
      exact ⟨_, List.mem_singleton.2 rfl, rfl⟩
    · have h3 : ¬ t.op = 2 := by simpa using h3
      refine at_iface (by kernel_rfl) rfl ?_
      refine AtRet.grown [(.slice a2 (shDL t.parts).length c2, .sl 1 (shDL t.parts))] rfl (fun p hp => .inr ?_) ⟨_, rfl, .inr (.inr ⟨⟨h1, h3⟩, a2, c2, rfl, rfl⟩)⟩
      simp only [List.mem_singleton] at hp
      subst hp
      exact ⟨_, List.mem_singleton.2 rfl, rfl⟩
end Go.Proofs.Ytjjgfenincdgpaa
