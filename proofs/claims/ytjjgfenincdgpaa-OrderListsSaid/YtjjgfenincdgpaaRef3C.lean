/- The contracts of trussref03's put, heads and Free. Conditions: the arguments read as a term and as a list of ints; small numbers and short lists. -/
import Derived.Test.YtjjgfenincdgpaaRef3B
namespace Go.Proofs.Ytjjgfenincdgpaa
open Go.Tr Go
set_option maxRecDepth 10000

/-- A slice that is nil reads as the empty list. -/
theorem nilRep {P : Program} {cl : Cal} {args : List SV} {own : List Blk} {accs : List Acc} {rs : List (Value × D)} {R : Out → St → Prop} (k : Nat) (h : Meets P cl args ⟨own, accs, (.slice none 0 0, .sl k []) :: rs⟩ R) : Meets P cl args ⟨own, accs, rs⟩ R := by
  intro J ℓ w hG hJ
  refine h J ℓ w ⟨hG.len, hG.nodup, hG.lt, hG.memJ, hG.wf, hG.own, hG.accs, ?_⟩ hJ
  intro p hp
  rcases List.mem_cons.1 hp with e | e
  · subst e
    exact ⟨none, 0, rfl, ⟨Nat.zero_le _, Nat.zero_le _⟩, .inl rfl⟩
  · exact hG.reps p e

def putF : List Int → Int → List Int
  | [], n => [n]
  | x :: xs, n => if x < n then x :: putF xs n else if x = n then x :: xs else n :: x :: xs

abbrev intsS (l : List Int) (a : Option Addr) (c : Nat) : SV := .v (.slice a l.length c)
abbrev intsR (l : List Int) (a : Option Addr) (c : Nat) : Value × D := (.slice a l.length c, intsD l)

theorem ints_get {l : List Int} {i : Nat} {x : Int} (h : l[i]? = some x) : (l.map (D.int .i64))[i]? = some (.int .i64 x) := by simp [h]

theorem put_spec (l : List Int) (n : Int) (a : Option Addr) (c : Nat) (hl : l.length ≤ 1000000) :
    Pure Try.prog (fnS 60) [intsS l a c, iS n] [intsR l a c] (fun r out => ∃ a' c', r = intsS (putF l n) a' c' ∧ out = [intsR (putF l n) a' c']) := by
  refine Meets.nilAcc 1 3 ?_
  refine spec_of_body (N := 49) (m := 0) (dt := fun _ => none) [2,4] ttOK Try.func60 rfl Try.call60 Try.ntmps60 rfl rfl rfl mixed (by kernel_rfl) ?_
  refine AtCut.mk ⟨Nat, fun k => [(5, iS k), (0, intsS l a c), (1, iS n)], fun _ => ⟨[], [⟨.slice none 0 0, 1, 3, []⟩], [intsR l a c]⟩,
    fun k => k ≤ l.length ∧ putF l n = l.take k ++ if l[k]? = some n then l.drop k else n :: l.drop k, fun _ _ => ⟨rfl, rfl⟩, ?_, ?_⟩
  · refine AtLoop.mk ⟨Nat, fun k => [(5, iS k), (0, intsS l a c), (1, iS n)], fun _ => ⟨[], [⟨.slice none 0 0, 1, 3, []⟩], [intsR l a c]⟩,
      fun k => k ≤ l.length ∧ putF l n = l.take k ++ putF (l.drop k) n, fun k => l.length - k, 0, ⟨Nat.zero_le _, rfl⟩, ⟨rfl, rfl, rfl, trivial⟩, StLe.refl _, fun _ _ => ⟨rfl, rfl⟩, ?_⟩
    rintro k ⟨hk, hinv⟩
    refine AtGuard.mk (fun h1 => ?_) (fun h1 => ?_)
    · have h1 : k < l.length := by simpa using h1
      obtain ⟨x, hx⟩ : ∃ x, l[k]? = some x := ⟨_, List.getElem?_eq_getElem (by omega)⟩
      refine at_index ttOK 0 rfl rfl rfl rfl (by omega) (by rw [Int.toNat_natCast]; exact ints_get hx) ?_
      refine AtIf.mk (fun h2 => ?_) (fun h2 => ?_)
      · have h2 : x < n := by simpa using h2
        have hw3 : IntKind.i64.wrap (k + 1) = ((k + 1 : Nat) : Int) := wrap_i64 (by omega) (by omega)
        refine ⟨k + 1, ⟨by omega, ?_⟩, by simp only; omega, ⟨by rw [← hw3]; rfl, rfl, rfl, trivial⟩, StLe.of rfl (List.Sublist.refl _) (by simp) rfl rfl⟩
        rw [hinv, drop_cons hx, putF, if_pos h2, List.take_add_one, hx]
        simp
      · have h2 : ¬ x < n := by simpa using h2
        refine ⟨k, ⟨hk, ?_⟩, ⟨rfl, rfl, rfl, trivial⟩, StLe.of rfl (List.Sublist.refl _) (by simp) rfl rfl⟩
        rw [hinv, drop_cons hx, putF, if_neg h2, hx]
        simp
    · have h1 : ¬ k < l.length := by simpa using h1
      refine AtIf.mk (fun h2 => by cases h2) (fun _ => ?_)
      refine ⟨k, ⟨hk, ?_⟩, ⟨rfl, rfl, rfl, trivial⟩, StLe.refl _⟩
      rw [hinv, List.drop_of_length_le (by omega)]
      simp [putF]
      intro h; have := (List.getElem?_eq_some_iff.1 h).1; omega
  rintro k ⟨hk, hinv⟩
  refine AtCut.mk ⟨Unit, fun _ => [(5, iS k), (0, intsS l a c), (1, iS n)], fun _ => ⟨[], [⟨.slice none 0 0, 1, 3, []⟩], [intsR l a c]⟩, fun _ => putF l n = l.take k ++ n :: l.drop k, fun _ _ => ⟨rfl, rfl⟩, ?_, ?_⟩
  · refine AtGuard.mk (fun h1 => ?_) (fun h1 => ?_)
    · have h1 : k < l.length := by simpa using h1
      obtain ⟨x, hx⟩ : ∃ x, l[k]? = some x := ⟨_, List.getElem?_eq_getElem (by omega)⟩
      refine at_index ttOK 0 rfl rfl rfl rfl (by omega) (by rw [Int.toNat_natCast]; exact ints_get hx) ?_
      rw [hx] at hinv
      refine AtIf.mk (fun h4 => ?_) (fun h4 => ?_)
      · have h4 : x = n := by simpa using h4
        subst h4
        rw [if_pos rfl, List.take_append_drop] at hinv
        rw [hinv]
        exact AtRet.pure [intsR l a c] rfl (by simp) ⟨a, c, rfl, rfl⟩
      · have h4 : ¬ x = n := by simpa using h4
        rw [if_neg (by simpa using h4)] at hinv
        exact ⟨(), hinv, ⟨rfl, rfl, rfl, trivial⟩, StLe.of rfl (List.Sublist.refl _) (by simp) rfl rfl⟩
    · have h1 : ¬ k < l.length := by simpa using h1
      have hlk : l[k]? = none := List.getElem?_eq_none_iff.2 (by omega)
      rw [hlk, if_neg (by simp)] at hinv
      refine AtIf.mk (fun h2 => by cases h2) (fun _ => ?_)
      exact ⟨(), hinv, ⟨rfl, rfl, rfl, trivial⟩, StLe.refl _⟩
  intro _ hres
  have hml : (l.map (D.int .i64)).length = l.length := List.length_map ..
  refine at_slice ttOK 0 0 k rfl rfl rfl rfl rfl (by omega) (by omega) ?_
  intro a1 c1 _
  refine at_append ttOK 8 0 1 rfl (by kernel_rfl) rfl rfl rfl rfl (by simp; omega) (by simp; omega) ?_
  intro a2 c2
  refine at_build ttOK 8 [.int .i64 n] rfl (by kernel_rfl) ⟨⟨rfl, rfl, rfl, rfl⟩, trivial⟩ rfl (by decide) (by decide) ?_
  intro a3
  refine at_append ttOK 8 0 2 rfl (by kernel_rfl) rfl rfl rfl rfl (by simp; omega) (by simp; omega) ?_
  intro a4 c4
  refine at_slice ttOK 0 k l.length rfl rfl rfl rfl rfl (by omega) (by omega) ?_
  intro a5 c5 _
  refine at_append ttOK 8 0 3 rfl (by kernel_rfl) rfl rfl rfl rfl (by simp; omega) (by simp; omega) ?_
  intro a6 c6
  have hds : (([] ++ ((l.map (D.int .i64)).take k).drop 0) ++ [D.int .i64 n]) ++ ((l.map (D.int .i64)).take l.length).drop k = (putF l n).map (D.int .i64) := by
    rw [hres, List.take_of_length_le (by omega : (l.map (D.int .i64)).length ≤ l.length)]
    simp [List.map_take, List.map_drop]
  have hln : (([] ++ ((l.map (D.int .i64)).take k).drop 0) ++ [D.int .i64 n]).length + (((l.map (D.int .i64)).take l.length).drop k).length = (putF l n).length := by
    rw [← List.length_append, hds, List.length_map]
  refine AtRet.grown [(intsR (putF l n) a6 c6)] rfl (fun p hp => .inr ?_) ⟨a6, c6, ?_, rfl⟩
  · simp only [List.mem_singleton] at hp
    subst hp
    refine ⟨_, List.mem_singleton.2 rfl, ?_⟩
    simp only [hds, hln]
  · simp only [hln]

mutual
def headsF (hd : Int) : Tm → Int → List Int → List Int
  | .mk o h n us, k, l => headsL hd o us 0 k (if o = 4 ∧ h = hd then (if hd ≠ 1 then putF l n else if n ≥ k then putF l (IntKind.i64.wrap (n - k)) else l) else l)
def headsL (hd : Int) : Int → List Tm → Nat → Int → List Int → List Int
  | _, [], _, _, l => l
  | o, u :: us, i, k, l => headsL hd o us (i + 1) k (headsF hd u (k + under o i) l)
 end
theorem headsF_eq (hd : Int) (t : Tm) (k : Int) (l : List Int) : headsF hd t k l = headsL hd t.op t.args 0 k (if t.op = 4 ∧ t.hd = hd then (if hd ≠ 1 then putF l t.n else if t.n ≥ k then putF l (IntKind.i64.wrap (t.n - k)) else l) else l) := by cases t; rfl

theorem putF_length : ∀ (l : List Int) (n : Int), (putF l n).length ≤ l.length + 1
  | [], n => by simp [putF]
  | x :: xs, n => by
    simp only [putF]
    split
    · have := putF_length xs n; simp; omega
    · split <;> simp

mutual
theorem headsF_length (hd : Int) : ∀ (t : Tm) (k : Int) (l : List Int), (headsF hd t k l).length ≤ l.length + t.count
  | .mk o h n us, k, l => by
    simp only [headsF, Tm.count]
    refine Nat.le_trans (headsL_length hd o us 0 k _) ?_
    have h1 := putF_length l n
    have h2 := putF_length l (IntKind.i64.wrap (n - k))
    split
    · split
      · omega
      · split <;> omega
    · omega
theorem headsL_length (hd : Int) : ∀ (o : Int) (us : List Tm) (i : Nat) (k : Int) (l : List Int), (headsL hd o us i k l).length ≤ l.length + Tm.countL us
  | o, [], i, k, l => by simp [headsL, Tm.countL]
  | o, u :: us, i, k, l => by
    simp only [headsL, Tm.countL]
    have h1 := headsL_length hd o us (i + 1) k (headsF hd u (k + under o i) l)
    have h2 := headsF_length hd u (k + under o i) l
    omega
 end

theorem count_arg {t x : Tm} {i : Nat} (h : t.args[i]? = some x) : x.count + Tm.countL (t.args.drop (i + 1)) = Tm.countL (t.args.drop i) := by
  rw [drop_cons h]; rfl
theorem Tm.count_eq (t : Tm) : t.count = Tm.countL t.args + 1 := by cases t; rfl

theorem heads_spec (hd : Int) (t : Tm) : ∀ (k : Int) (l : List Int) (a a1 : Option Addr) (c c1 : Nat), 0 ≤ k → k + t.height ≤ 1000000 → l.length + t.count ≤ 1000000 →
    Pure Try.prog (fnS 46) [tmS t a c, iS hd, iS k, intsS l a1 c1] [tmR t a c, intsR l a1 c1] (fun r out => ∃ a' c', r = intsS (headsF hd t k l) a' c' ∧ out = [intsR (headsF hd t k l) a' c']) := by
  induction t using Tm.ind with
  | h t ih =>
  intro k l a a1 c c1 hk0 hk1 hl
  refine Meets.of_ok fun hok => ?_
  have hB : (Tm.encL t.args).length ≤ 1152921504606846976 := (hok _ (List.mem_cons_self ..)).1
  have hlen := Tm.encL_length t.args
  have hth := Tm.height_eq t
  have htc := Tm.count_eq t
  have hF := headsF_eq hd t k l
  refine spec_of_body (N := 56) (m := 0) (dt := drawsOf [(9, .node [0, 1, 2, 3, 4, 5, 6, 7, 8, 11] [(9, .node [10] [(12, .leaf [13])])], [12])]) [1] ttOK Try.func46 rfl Try.call46 Try.ntmps46 rfl rfl rfl mixed (by kernel_rfl) ?_
  refine AtCut.mk ⟨List Int × Option Addr × Nat, fun x => [(3, intsS x.1 x.2.1 x.2.2), (4, .loc 0 0), (1, iS hd), (2, iS k)], fun x => ⟨[.cells 24 [iS t.op, iS t.hd, iS t.n, .v (.slice a (Tm.encL t.args).length c)]], [], [tmR t a c, intsR x.1 x.2.1 x.2.2]⟩,
    fun x => x.1.length ≤ l.length + 1 ∧ headsF hd t k l = headsL hd t.op t.args 0 k x.1, fun _ _ => ⟨rfl, rfl⟩, ?_, ?_⟩
  · refine AtIf.mk (fun h1 => ?_) (fun h1 => ?_)
    · have h1 : t.op = 4 ∧ t.hd = hd := by simpa using h1
      rw [if_pos h1] at hF
      refine AtIf.mk (fun h2 => ?_) (fun h2 => ?_)
      · have h2 : hd ≠ 1 := by simpa using h2
        rw [if_pos h2] at hF
        refine (put_spec l t.n a1 c1 (by omega)).at (by simp) rfl rfl ?_
        rintro r out ⟨a', c', rfl, rfl⟩
        have hpl := putF_length l t.n
        exact ⟨(putF l t.n, a', c'), ⟨hpl, hF⟩, ⟨rfl, rfl, rfl, rfl, trivial⟩, StLe.to _ _ rfl (by simp) rfl rfl⟩
      · have h2 : ¬ hd ≠ 1 := by simpa using h2
        rw [if_neg h2] at hF
        refine AtIf.mk (fun h3 => ?_) (fun h3 => ?_)
        · have h3 : t.n ≥ k := by simpa using h3
          rw [if_pos h3] at hF
          refine (put_spec l (IntKind.i64.wrap (t.n - k)) a1 c1 (by omega)).at (by simp) rfl rfl ?_
          rintro r out ⟨a', c', rfl, rfl⟩
          have hpl := putF_length l (IntKind.i64.wrap (t.n - k))
          exact ⟨(putF l (IntKind.i64.wrap (t.n - k)), a', c'), ⟨hpl, hF⟩, ⟨rfl, rfl, rfl, rfl, trivial⟩, StLe.to _ _ rfl (by simp) rfl rfl⟩
        · have h3 : ¬ t.n ≥ k := by simpa using h3
          rw [if_neg h3] at hF
          exact ⟨(l, a1, c1), ⟨by simp, hF⟩, ⟨rfl, rfl, rfl, rfl, trivial⟩, StLe.to _ _ rfl (by simp) rfl rfl⟩
    · have h1 : ¬ (t.op = 4 ∧ t.hd = hd) := by
        intro hh
        simp [hh.1, hh.2] at h1
      rw [if_neg h1] at hF
      exact ⟨(l, a1, c1), ⟨by simp, hF⟩, ⟨rfl, rfl, rfl, rfl, trivial⟩, StLe.to _ _ rfl (by simp) rfl rfl⟩
  rintro ⟨l1, a3, c3⟩ ⟨hl1, hF1⟩
  simp only at hl1 hF1 ⊢
  refine AtLoop.mk ⟨Nat × List Int × Option Addr × Nat, fun x => [(9, iS x.1), (3, intsS x.2.1 x.2.2.1 x.2.2.2), (4, .loc 0 0), (1, iS hd), (2, iS k)], fun x => ⟨[.cells 24 [iS t.op, iS t.hd, iS t.n, .v (.slice a (Tm.encL t.args).length c)]], [], [tmR t a c, intsR x.2.1 x.2.2.1 x.2.2.2]⟩,
    fun x => x.1 ≤ t.args.length ∧ x.2.1.length + Tm.countL (t.args.drop x.1) ≤ 1000000 ∧ headsF hd t k l = headsL hd t.op (t.args.drop x.1) x.1 k x.2.1, fun x => t.args.length - x.1, (0, l1, a3, c3), ⟨Nat.zero_le _, by simp only [List.drop_zero]; omega, hF1⟩, ⟨rfl, rfl, rfl, rfl, rfl, trivial⟩, StLe.refl _, fun _ _ => ⟨rfl, rfl⟩, ?_⟩
  rintro ⟨i, l2, a4, c4⟩ ⟨hi, hll, hinv⟩
  simp only at hi hll hinv ⊢
  refine AtIf.mk (fun h1 => ?_) (fun h1 => ?_)
  · simp only [decide_eq_true_eq, hlen] at h1
    obtain ⟨x, hx⟩ : ∃ x, t.args[i]? = some x := ⟨_, List.getElem?_eq_getElem (by omega)⟩
    have hxm := List.mem_of_getElem? hx
    have hxh := Tm.height_le hxm
    have hxc := count_arg hx
    have hu := under_le t.op i
    refine at_index ttOK 0 rfl rfl rfl rfl (by omega) (by rw [Int.toNat_natCast]; exact Tm.encL_get hx) ?_
    intro a5 c5 _ _
    refine (below_spec t a c i).at (by simp) rfl rfl ?_
    rintro r out ⟨rfl, rfl⟩
    refine ⟨fun _ _ h => h, ?_⟩
    have hw1 : IntKind.i64.wrap (k + under t.op i) = k + under t.op i := wrap_i64 (by omega) (by omega)
    have hsp := ih x hxm (k + under t.op i) l2 a5 a4 c5 c4 (by omega) (by omega) (by omega)
    rw [← hw1] at hsp
    refine hsp.at (by simp) rfl rfl ?_
    rintro r out ⟨a6, c6, rfl, rfl⟩
    rw [drop_cons hx, headsL, ← hw1] at hinv
    have hhl := headsF_length hd x (IntKind.i64.wrap (k + under t.op i)) l2
    have hw3 : IntKind.i64.wrap (i + 1) = ((i + 1 : Nat) : Int) := wrap_i64 (by omega) (by omega)
    exact ⟨(i + 1, headsF hd x (IntKind.i64.wrap (k + under t.op i)) l2, a6, c6), ⟨by omega, by simp only; omega, hinv⟩, by simp only; omega, ⟨by rw [← hw3]; rfl, rfl, rfl, rfl, rfl, trivial⟩, StLe.to _ _ rfl (by simp) rfl rfl⟩
  · simp only [decide_eq_false_iff_not, hlen] at h1
    rw [List.drop_of_length_le (by omega)] at hinv
    refine AtRet.pure [intsR l2 a4 c4] rfl (by simp) ⟨a4, c4, ?_⟩
    rw [hinv]
    exact ⟨rfl, rfl⟩

theorem refFree_spec (t : Tm) (a : Option Addr) (c : Nat) (h1 : t.height ≤ 1000000) (h2 : t.count ≤ 1000000) :
    Pure Try.prog (fnS 27) [tmS t a c] [tmR t a c] (fun r out => ∃ a' c', r = intsS (headsF 1 t 0 []) a' c' ∧ out = [intsR (headsF 1 t 0 []) a' c']) := by
  refine nilRep 1 ?_
  refine spec_of_body (N := 5) (m := 0) (dt := fun _ => none) [] ttOK Try.func27 rfl Try.call27 Try.ntmps27 rfl rfl rfl mixed (by kernel_rfl) ?_
  refine (heads_spec 1 t 0 [] a none c 0 (by omega) (by omega) (by simpa using h2)).at (by simp) rfl rfl ?_
  rintro r out ⟨a', c', rfl, rfl⟩
  exact AtRet.pure [intsR (headsF 1 t 0 []) a' c'] rfl (by simp) ⟨a', c', rfl, rfl⟩
end Go.Proofs.Ytjjgfenincdgpaa
