/- The contracts of trussref03's moved, Shift and App. Conditions: the arguments read as terms; moved: nested at most 10^6 deep, with at most 10^6 nodes. -/
import Derived.Test.YtjjgfenincdgpaaRef3C
namespace Go.Proofs.Ytjjgfenincdgpaa
open Go.Tr Go
set_option maxRecDepth 10000

theorem Tm.enc_eq (t : Tm) : t.enc = .agg [.int .i64 t.op, .int .i64 t.hd, .int .i64 t.n, .sl 4 (Tm.encL t.args)] := by cases t; rfl

theorem RepS_tm {reps : List (Value × D)} {t : Tm} {a : Option Addr} {c : Nat} (h : tmR t a c ∈ reps) : RepS reps t.enc (cellsOf (tmS t a c)) := by
  rw [Tm.enc_eq]
  exact ⟨[iS t.op], _, rfl, rfl, [iS t.hd], _, rfl, rfl, [iS t.n], _, rfl, rfl, [.v (.slice a (Tm.encL t.args).length c)], [], rfl, .inl ⟨_, rfl, h⟩, rfl⟩

theorem Tm.encL_snoc (l : List Tm) (t : Tm) : Tm.encL (l ++ [t]) = Tm.encL l ++ [t.enc] := by simp [Tm.encL_eq]

mutual
def movedF : Tm → Int → Int → Tm
  | .mk o h n us, by_, f => .mk o h (if (o = 4 ∧ h = 1) ∧ n ≥ f then IntKind.i64.wrap (n + by_) else n) (movedL o us 0 by_ f)
def movedL : Int → List Tm → Nat → Int → Int → List Tm
  | _, [], _, _, _ => []
  | o, u :: us, i, by_, f => movedF u by_ (f + under o i) :: movedL o us (i + 1) by_ f
 end
theorem movedF_eq (t : Tm) (by_ f : Int) : movedF t by_ f = .mk t.op t.hd (if (t.op = 4 ∧ t.hd = 1) ∧ t.n ≥ f then IntKind.i64.wrap (t.n + by_) else t.n) (movedL t.op t.args 0 by_ f) := by cases t; rfl

theorem movedL_length : ∀ (o : Int) (us : List Tm) (i : Nat) (by_ f : Int), (movedL o us i by_ f).length = us.length
  | o, [], i, by_, f => rfl
  | o, u :: us, i, by_, f => by simp only [movedL, List.length_cons, movedL_length o us]

theorem countL_drop : ∀ (us : List Tm) (i : Nat), Tm.countL (us.drop i) ≤ Tm.countL us
  | us, 0 => by simp
  | [], i + 1 => by simp
  | u :: us, i + 1 => by
    have := countL_drop us i
    simp only [List.drop_succ_cons, Tm.countL]
    omega

theorem moved_spec (t : Tm) (b : Int) : ∀ (f : Int) (a : Option Addr) (c : Nat), 0 ≤ f → f + t.height ≤ 1000000 → t.count ≤ 1000000 → Pure Try.prog (fnS 32) [tmS t a c, iS b, iS f] [tmR t a c] (fun r out => ∃ a' c', r = tmS (movedF t b f) a' c' ∧ out = [tmR (movedF t b f) a' c']) := by
  induction t using Tm.ind with
  | h t ih =>
  intro f a c hf0 hf1 hct
  refine Meets.of_ok fun hok => ?_
  have hB : (Tm.encL t.args).length ≤ 1152921504606846976 := (hok _ (List.mem_cons_self ..)).1
  have hlen := Tm.encL_length t.args
  have hth := Tm.height_eq t
  have htc := Tm.count_eq t
  have hF := movedF_eq t b f
  have hcl : ∀ us : List Tm, us.length ≤ Tm.countL us := by
    intro us
    induction us with
    | nil => simp
    | cons u us ih => have := Tm.count_pos u; simp only [List.length_cons, Tm.countL]; omega
  have hcl := hcl t.args
  refine Meets.nilAcc 4 24 ?_
  refine spec_of_body (N := 55) (m := 0) (dt := drawsOf [(8, .node [0, 1, 2, 3, 4, 5, 6, 7, 8, 9, 10] [(11, .node [12] [(13, .node [] [(14, .node [] [(15, .node [16] [(17, .leaf [])])])])])], [15, 17])]) [3] ttOK Try.func32 rfl Try.call32 Try.ntmps32 rfl rfl rfl mixed (by kernel_rfl) ?_
  refine AtCut.mk ⟨Unit, fun _ => [(3, .loc 0 0), (6, .loc 1 0), (7, .loc 2 0), (1, iS b), (2, iS f)],
    fun _ => ⟨[.cells 24 [iS t.op, iS t.hd, iS t.n, .v (.slice a (Tm.encL t.args).length c)], .cells 24 [iS 0, iS 0, iS 0, .v (.slice none 0 0)], .cells 24 [iS t.op, iS t.hd, iS (movedF t b f).n, .v (.slice none 0 0)]], [⟨.slice none 0 0, 4, 24, []⟩], [tmR t a c]⟩, fun _ => True, fun _ _ => ⟨rfl, rfl⟩, ?_, ?_⟩
  · refine AtIf.mk (fun h1 => ?_) (fun h1 => ?_)
    · have h1 : (t.op = 4 ∧ t.hd = 1) ∧ t.n ≥ f := by simpa using h1
      have hn : (movedF t b f).n = IntKind.i64.wrap (t.n + b) := by rw [hF, if_pos h1]; rfl
      exact ⟨(), trivial, ⟨rfl, rfl, rfl, rfl, rfl, trivial⟩, StLe.of (by rw [hn]; rfl) (List.Sublist.refl _) (by simp) rfl rfl⟩
    · have h1 : ¬ ((t.op = 4 ∧ t.hd = 1) ∧ t.n ≥ f) := by
        intro hh
        simp [hh.1.1, hh.1.2, hh.2] at h1
      have hn : (movedF t b f).n = t.n := by rw [hF, if_neg h1]; rfl
      exact ⟨(), trivial, ⟨rfl, rfl, rfl, rfl, rfl, trivial⟩, StLe.of (by rw [hn]; rfl) (List.Sublist.refl _) (by simp) rfl rfl⟩
  intro _ _
  refine AtLoop.mk ⟨Nat × List Tm × Option Addr × Nat, fun x => [(8, iS x.1), (3, .loc 0 0), (6, .loc 1 0), (7, .loc 2 0), (1, iS b), (2, iS f)],
    fun x => ⟨[.cells 24 [iS t.op, iS t.hd, iS t.n, .v (.slice a (Tm.encL t.args).length c)], .cells 24 [iS 0, iS 0, iS 0, .v (.slice none 0 0)], .cells 24 [iS t.op, iS t.hd, iS (movedF t b f).n, .v (.slice x.2.2.1 (Tm.encL x.2.1).length x.2.2.2)]], [⟨.slice x.2.2.1 (Tm.encL x.2.1).length x.2.2.2, 4, 24, Tm.encL x.2.1⟩], [tmR t a c]⟩,
    fun x => x.1 ≤ t.args.length ∧ x.2.1.length = x.1 ∧ movedL t.op t.args 0 b f = x.2.1 ++ movedL t.op (t.args.drop x.1) x.1 b f, fun x => t.args.length - x.1, (0, [], none, 0), ⟨Nat.zero_le _, rfl, rfl⟩, ⟨rfl, rfl, rfl, rfl, rfl, rfl, trivial⟩, StLe.refl _, fun _ _ => ⟨rfl, rfl⟩, ?_⟩
  rintro ⟨i, done, a2, c2⟩ ⟨hi, hdl, hinv⟩
  simp only at hi hdl hinv ⊢
  have hdle := Tm.encL_length done
  refine AtIf.mk (fun h1 => ?_) (fun h1 => ?_)
  · simp only [decide_eq_true_eq, hlen] at h1
    obtain ⟨x, hx⟩ : ∃ x, t.args[i]? = some x := ⟨_, List.getElem?_eq_getElem (by omega)⟩
    have hxm := List.mem_of_getElem? hx
    have hxh := Tm.height_le hxm
    have hxc : x.count ≤ 1000000 := by
      have h2 := count_arg hx
      have h3 := countL_drop t.args i
      omega
    have hu := under_le t.op i
    refine at_index ttOK 0 rfl rfl rfl rfl (by omega) (by rw [Int.toNat_natCast]; exact Tm.encL_get hx) ?_
    intro a5 c5 _ _
    refine (below_spec t a c i).at (by simp) rfl rfl ?_
    rintro r out ⟨rfl, rfl⟩
    refine ⟨fun _ _ h => h, ?_⟩
    have hw1 : IntKind.i64.wrap (f + under t.op i) = f + under t.op i := wrap_i64 (by omega) (by omega)
    have hsp := ih x hxm (f + under t.op i) a5 c5 (by omega) (by omega) hxc
    rw [← hw1] at hsp
    refine hsp.at (by simp) rfl rfl ?_
    rintro r out ⟨a6, c6, rfl, rfl⟩
    refine ⟨fun _ _ h => h, ?_⟩
    refine at_build ttOK 48 [(movedF x b (IntKind.i64.wrap (f + under t.op i))).enc] rfl (by kernel_rfl) ⟨⟨rfl, rfl, rfl, RepS_tm (by simp)⟩, trivial⟩ rfl (by decide) (by decide) ?_
    intro a7
    refine ⟨fun _ _ h => h, ?_⟩
    refine at_append ttOK 48 0 3 rfl (by kernel_rfl) rfl rfl rfl rfl (by simp; omega) (by simp; omega) ?_
    intro a8 c8
    rw [drop_cons hx, movedL, ← hw1] at hinv
    have hw3 : IntKind.i64.wrap (i + 1) = ((i + 1 : Nat) : Int) := wrap_i64 (by omega) (by omega)
    have he : (Tm.encL (done ++ [movedF x b (IntKind.i64.wrap (f + under t.op i))])).length = (Tm.encL done).length + 1 := by simp [Tm.encL_length]
    refine ⟨(i + 1, done ++ [movedF x b (IntKind.i64.wrap (f + under t.op i))], a8, c8), ⟨by omega, by simp [hdl], by rw [hinv]; simp⟩, by simp only; omega, ⟨by rw [← hw3]; rfl, rfl, rfl, rfl, rfl, rfl, trivial⟩, StLe.of ?_ ?_ (by simp) rfl rfl⟩
    · simp only [he]; rfl
    · rw [Tm.encL_snoc, List.length_append]; exact List.Sublist.refl _
  · simp only [decide_eq_false_iff_not, hlen] at h1
    rw [List.drop_of_length_le (by omega)] at hinv
    simp only [movedL, List.append_nil] at hinv
    have hm : movedF t b f = .mk t.op t.hd (movedF t b f).n done := by rw [hF, hinv]; rfl
    refine AtRet.grown [(.slice a2 (Tm.encL done).length c2, .sl 4 (Tm.encL done))] rfl (fun p hp => .inr ?_) ⟨a2, c2, ?_⟩
    · simp only [List.mem_singleton] at hp
      subst hp
      exact ⟨_, List.mem_singleton.2 rfl, rfl⟩
    · rw [hm]
      exact ⟨rfl, rfl⟩

theorem app_spec (h n : Int) (us : List Tm) (a : Option Addr) (c : Nat) : Pure Try.prog (fnS 16) [iS h, iS n, .v (.slice a (Tm.encL us).length c)] [] (fun r out => r = tmS (.mk 4 h n us) a c ∧ out = []) := by
  refine spec_of_body (N := 11) (m := 0) (dt := fun _ => none) [] ttOK Try.func16 rfl Try.call16 Try.ntmps16 rfl rfl rfl mixed (by kernel_rfl) ?_
  exact AtRet.pure [] rfl (by simp) ⟨rfl, rfl⟩

mutual
theorem nodesF_count : ∀ (t : Tm) (m : Int), 0 ≤ m → nodesF t m = min (t.count : Int) (m + 1)
  | .mk o h n us, m, hm => by
    have := nodesL_count us m 1 (by omega)
    have e := Tm.count_eq (.mk o h n us)
    simp only [Tm.args] at e
    rw [e]
    simp only [nodesF, this]
    split <;> omega
theorem nodesL_count : ∀ (us : List Tm) (m n : Int), n ≤ m + 1 → nodesL us m n = min (n + (Tm.countL us : Nat)) (m + 1)
  | [], m, n, h => by simp only [nodesL, Tm.countL]; omega
  | u :: us, m, n, h => by
    have hp := Tm.count_pos u
    simp only [nodesL, Tm.countL]
    split
    · have h1 := nodesF_count u (m - n) (by omega)
      have h2 := nodesF_le u (m - n) (by omega)
      have h3 := nodesL_count us m (n + nodesF u (m - n)) (by omega)
      rw [h3, h1]
      omega
    · omega
 end

mutual
theorem formedF_iff : ∀ (t : Tm) (d : Int), formedF t d = true ↔ okAll t = true ∧ d + t.height ≤ 41
  | .mk o h n us, d => by
    have hl := formedL_iff us (d + 1)
    simp only [formedF, okAll, Tm.height, Bool.and_eq_true]
    by_cases h1 : 40 < d
    · rw [if_pos h1]
      simp only [Bool.false_eq_true, false_iff]
      omega
    · rw [if_neg h1, Bool.and_eq_true, hl]
      constructor
      · rintro ⟨h2, h3, h4⟩
        refine ⟨⟨h2, h3⟩, ?_⟩
        rcases h4 with rfl | h4
        · simp only [Tm.heightL]; omega
        · omega
      · rintro ⟨⟨h2, h3⟩, h4⟩
        exact ⟨h2, h3, .inr (by omega)⟩
theorem formedL_iff : ∀ (us : List Tm) (d : Int), formedL us d = true ↔ okAllL us = true ∧ (us = [] ∨ d + Tm.heightL us ≤ 41)
  | [], d => by simp [formedL, okAllL]
  | u :: us, d => by
    have h1 := formedF_iff u d
    have h2 := formedL_iff us d
    have hq := Tm.height_pos u
    simp only [formedL, okAllL, Tm.heightL, Bool.and_eq_true, h1, h2, reduceCtorEq, false_or]
    constructor
    · rintro ⟨⟨h3, h4⟩, h5, h6⟩
      refine ⟨⟨h3, h5⟩, ?_⟩
      rcases h6 with rfl | h6
      · simp only [Tm.heightL]; omega
      · omega
    · rintro ⟨⟨h3, h5⟩, h6⟩
      exact ⟨⟨h3, by omega⟩, h5, .inr (by omega)⟩
 end

theorem refProper_eq (t : Tm) : refProper t = isProper t := by
  rw [Bool.eq_iff_iff, isProper_iff, refProper, Bool.and_eq_true, formedF_iff, nodesF_count t 600 (by omega), decide_eq_true_eq]
  constructor
  · rintro ⟨h1, h2, h3⟩
    exact ⟨h2, by omega, by omega⟩
  · rintro ⟨h1, h2, h3⟩
    exact ⟨by omega, h1, by omega⟩

def tm0 : Tm := .mk 0 0 0 []

/-- What trussref03.Shift answers. -/
def shiftF (t : Tm) (b f : Int) : Tm × Int :=
  if isProper t = false ∨ b < -9999 ∨ b > 9999 ∨ f < 0 ∨ f > 9999 then (tm0, 2)
  else if b < 0 ∧ lowF t f (f - b - 1) = true then (tm0, 27)
  else if isProper (movedF t b f) = false then (tm0, 5)
  else (movedF t b f, 0)

theorem shift_spec (t : Tm) (b f : Int) (a : Option Addr) (c : Nat) : Pure Try.prog (fnS 15) [tmS t a c, iS b, iS f] [tmR t a c] (fun r out => ∃ a' c', r = .tup [tmS (shiftF t b f).1 a' c', iS (shiftF t b f).2] ∧ out = [tmR (shiftF t b f).1 a' c']) := by
  refine nilRep 4 ?_
  refine spec_of_body (N := 50) (m := 0) (dt := fun _ => none) [3] ttOK Try.func15 rfl Try.call15 Try.ntmps15 rfl rfl rfl mixed (by kernel_rfl) ?_
  refine (refProper_spec t a c).at (by simp) rfl rfl ?_
  rintro r out ⟨rfl, rfl⟩
  rw [refProper_eq]
  refine AtIf.mk (fun h1 => ?_) (fun h1 => ?_)
  · have h1 : isProper t = false ∨ b < -9999 ∨ b > 9999 ∨ f < 0 ∨ f > 9999 := by
      simp only [Bool.or_eq_true, Bool.not_eq_true', decide_eq_true_eq] at h1
      rcases h1 with (((h1 | h1) | h1) | h1) | h1 <;> simp [h1]
    refine AtRet.pure [tmR tm0 none 0] rfl (by simp [tm0, Tm.args, Tm.encL]) ⟨none, 0, ?_⟩
    rw [shiftF, if_pos h1]
    exact ⟨rfl, rfl⟩
  simp only [Bool.or_eq_false_iff, Bool.not_eq_false', decide_eq_false_iff_not] at h1
  obtain ⟨⟨⟨⟨hp, hb1⟩, hb2⟩, hf1⟩, hf2⟩ := h1
  have hno : ¬ (isProper t = false ∨ b < -9999 ∨ b > 9999 ∨ f < 0 ∨ f > 9999) := by
    rw [hp]
    simp only [Bool.true_eq_false, false_or]
    omega
  have hpp := (isProper_iff t).1 hp
  have hw1 : IntKind.i64.wrap (f - b) = f - b := wrap_i64 (by omega) (by omega)
  have hw2 : IntKind.i64.wrap (f - b - 1) = f - b - 1 := wrap_i64 (by omega) (by omega)
  refine AtCut.mk ⟨Unit, fun _ => [(3, .loc 0 0), (6, .loc 1 0), (1, iS b), (2, iS f)], fun _ => ⟨[.cells 24 [iS t.op, iS t.hd, iS t.n, .v (.slice a (Tm.encL t.args).length c)], .cells 24 [iS 0, iS 0, iS 0, .v (.slice none 0 0)]], [], [(.slice none 0 0, .sl 4 []), tmR t a c]⟩,
    fun _ => ¬ (b < 0 ∧ lowF t f (f - b - 1) = true), fun _ _ => ⟨rfl, rfl⟩, ?_, ?_⟩
  · refine AtGuard.mk (fun h2 => ?_) (fun h2 => ?_)
    · have h2 : b < 0 := by simpa using h2
      have hsp := low_spec t f (f - b - 1) a c (by omega) (by omega) (by omega) (by omega)
      rw [← hw2, ← hw1] at hsp
      refine hsp.at (by simp) rfl rfl ?_
      rintro r out ⟨rfl, rfl⟩
      rw [hw1, hw2]
      refine AtIf.mk (fun h3 => ?_) (fun h3 => ?_)
      · have h3 : b < 0 ∧ lowF t f (f - b - 1) = true := ⟨h2, by simpa [h2] using h3⟩
        refine AtRet.pure [tmR tm0 none 0] rfl (by simp [tm0, Tm.args, Tm.encL]) ⟨none, 0, ?_⟩
        rw [shiftF, if_neg hno, if_pos h3]
        exact ⟨rfl, rfl⟩
      · refine ⟨(), ?_, ⟨rfl, rfl, rfl, rfl, trivial⟩, StLe.to _ _ rfl (by simp) rfl rfl⟩
        rintro ⟨h4, h5⟩
        simp [h5] at h3
    · have h2 : ¬ b < 0 := by simpa using h2
      refine AtIf.mk (fun h3 => ?_) (fun h3 => ?_)
      · simp at h3
      · exact ⟨(), fun h => h2 h.1, ⟨rfl, rfl, rfl, rfl, trivial⟩, StLe.to _ _ rfl (by simp) rfl rfl⟩
  intro _ hno2
  refine (moved_spec t b f a c (by omega) (by omega) (by omega)).at (by simp) rfl rfl ?_
  rintro r out ⟨a1, c1, rfl, rfl⟩
  refine (refProper_spec (movedF t b f) a1 c1).at (by simp) rfl rfl ?_
  rintro r out ⟨rfl, rfl⟩
  rw [refProper_eq]
  refine AtIf.mk (fun h3 => ?_) (fun h3 => ?_)
  · have h3 : isProper (movedF t b f) = false := by simpa using h3
    refine AtRet.pure [tmR tm0 none 0] rfl (by simp [tm0, Tm.args, Tm.encL]) ⟨none, 0, ?_⟩
    rw [shiftF, if_neg hno, if_neg hno2, if_pos h3]
    exact ⟨rfl, rfl⟩
  · have h3 : isProper (movedF t b f) = true := by simpa using h3
    refine AtRet.pure [tmR (movedF t b f) a1 c1] rfl (by simp) ⟨a1, c1, ?_⟩
    rw [shiftF, if_neg hno, if_neg hno2, if_neg (by simp [h3])]
    exact ⟨rfl, rfl⟩
end Go.Proofs.Ytjjgfenincdgpaa
