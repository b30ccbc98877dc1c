/- Merged texts: Ref3C Ref3D FwQ Ref15A Ref15B Orders LawA LawB FwR Reads RowKit. The contracts of trussref03's put, heads and Free. Conditions: the arguments read as a term and as a list of ints; small numbers and short lists. The contracts of trussref03's moved, Shift and App. Conditions: the arguments read as terms; moved: nested at most 10^6 deep, with at most 10^6 nodes. Rules for the elements of a slice that the run has made and still may write: its ints are read and written in their places. Conditions stand in each rule. The contracts of trussref15's lams and of its work's variable and same. Conditions: the arguments read as proper terms; small numbers of binders. The contracts of trussref15's in, less and Compare. Conditions: the arguments read as terms that are built as terms are, not nested deep; small numbers of variables. Orders as plain data; the contracts of order.Similar and trussref15.Similar. Conditions: the arguments read as orders. Plain law: what order.compare answers is what trussref15.Compare answers, at terms that are built as terms are. No program in sight. Plain law: which free variables a term has, for the program and for the reference. No program in sight. From contracts to the statements' form: how arguments read as data, and what a call that turns nothing leaves. Conditions stand in each rule. How the arguments of the laws read: terms, orders. Condition: each slice that is met weighs no more than the form's own reach. How the four arguments of the first laws read, and what their rows ask. Condition: each slice that is met weighs no more than the form's own reach. -/
import Derived.Test.YtpibdcjdamibdaaGreatQE
import Derived.Laws.CopyRow
import Derived.RowKit3
import Derived.ProofKit
import Derived.OpenShut
import Derived.JoinedCond
import Derived.ReadAgain
import Derived.ChangeReads
import Derived.ChangeArms
import Derived.ChangeSame
import Derived.Deep.CondSized
import Derived.Test.YtpibdcjdamibdaaGreatRows
import Derived.SizedLaws
import Derived.Handed
import Derived.WalkKit
/-! Ref3C -/
section
namespace Go.Proofs.YtpibdcjdamibdaaGreat
open Go.Tr Go
set_option maxRecDepth 10000

/-- A slice that is nil reads as the empty list. -/
theorem nilRep {P : Program} {cl : Cal} {args : List SV} {own : List Blk} {accs : List Acc} {rs : List (Value × D)} {R : Out → St → Prop} (k : Nat) (h : Meets P cl args ⟨own, accs, (.slice none 0 0, .sl k []) :: rs⟩ R) : Meets P cl args ⟨own, accs, rs⟩ R := by
  intro J ℓ w hG hJ
  refine h J ℓ w ⟨hG.len, hG.nodup, hG.lt, hG.memJ, hG.wf, hG.own, hG.accs, ?_⟩ hJ
  intro p hp
  rcases List.mem_cons.1 hp with e | e
  · subst e
    exact ⟨none, 0, rfl, ⟨Nat.zero_le _, Nat.zero_le _⟩, .inl rfl⟩
  · exact hG.reps p e

def putF : List Int → Int → List Int
  | [], n => [n]
  | x :: xs, n => if x < n then x :: putF xs n else if x = n then x :: xs else n :: x :: xs

abbrev intsS (l : List Int) (a : Option Addr) (c : Nat) : SV := .v (.slice a l.length c)
abbrev intsR (l : List Int) (a : Option Addr) (c : Nat) : Value × D := (.slice a l.length c, intsD l)

theorem ints_get {l : List Int} {i : Nat} {x : Int} (h : l[i]? = some x) : (l.map (D.int .i64))[i]? = some (.int .i64 x) := by simp [h]

theorem put_spec (l : List Int) (n : Int) (a : Option Addr) (c : Nat) (hl : l.length ≤ 1000000) :
    Pure Tryz.prog (fnS 125) [intsS l a c, iS n] [intsR l a c] (fun r out => ∃ a' c', r = intsS (putF l n) a' c' ∧ out = [intsR (putF l n) a' c']) := by
  refine Meets.nilAcc 1 3 ?_
  refine spec_of_body (N := 49) (m := 0) (dt := fun _ => none) [2,4] ttOK Tryz.func125 rfl Tryz.call125 Tryz.ntmps125 rfl rfl rfl mixed (by kernel_rfl) ?_
  refine AtCut.mk ⟨Nat, fun k => [(5, iS k), (0, intsS l a c), (1, iS n)], fun _ => ⟨[], [⟨.slice none 0 0, 1, 3, []⟩], [intsR l a c]⟩,
    fun k => k ≤ l.length ∧ putF l n = l.take k ++ if l[k]? = some n then l.drop k else n :: l.drop k, fun _ _ => ⟨rfl, rfl⟩, ?_, ?_⟩
  · refine AtLoop.mk ⟨Nat, fun k => [(5, iS k), (0, intsS l a c), (1, iS n)], fun _ => ⟨[], [⟨.slice none 0 0, 1, 3, []⟩], [intsR l a c]⟩,
      fun k => k ≤ l.length ∧ putF l n = l.take k ++ putF (l.drop k) n, fun k => l.length - k, 0, ⟨Nat.zero_le _, rfl⟩, ⟨rfl, rfl, rfl, trivial⟩, StLe.refl _, fun _ _ => ⟨rfl, rfl⟩, ?_⟩
    rintro k ⟨hk, hinv⟩
    refine AtGuard.mk (fun h1 => ?_) (fun h1 => ?_)
    · have h1 : k < l.length := by simpa using h1
      obtain ⟨x, hx⟩ : ∃ x, l[k]? = some x := ⟨_, List.getElem?_eq_getElem (by omega)⟩
      refine at_index ttOK 0 rfl rfl rfl rfl (by omega) (by rw [Int.toNat_natCast]; exact ints_get hx) ?_
      refine AtIf.mk (fun h2 => ?_) (fun h2 => ?_)
      · have h2 : x < n := by simpa using h2
        have hw3 : IntKind.i64.wrap (k + 1) = ((k + 1 : Nat) : Int) := wrap_i64 (by omega) (by omega)
        refine ⟨k + 1, ⟨by omega, ?_⟩, by simp only; omega, ⟨by rw [← hw3]; rfl, rfl, rfl, trivial⟩, StLe.of rfl (List.Sublist.refl _) (by simp) rfl rfl⟩
        rw [hinv, drop_cons hx, putF, if_pos h2, List.take_add_one, hx]
        simp
      · have h2 : ¬ x < n := by simpa using h2
        refine ⟨k, ⟨hk, ?_⟩, ⟨rfl, rfl, rfl, trivial⟩, StLe.of rfl (List.Sublist.refl _) (by simp) rfl rfl⟩
        rw [hinv, drop_cons hx, putF, if_neg h2, hx]
        simp
    · have h1 : ¬ k < l.length := by simpa using h1
      refine AtIf.mk (fun h2 => by cases h2) (fun _ => ?_)
      refine ⟨k, ⟨hk, ?_⟩, ⟨rfl, rfl, rfl, trivial⟩, StLe.refl _⟩
      rw [hinv, List.drop_of_length_le (by omega)]
      simp [putF]
      intro h; have := (List.getElem?_eq_some_iff.1 h).1; omega
  rintro k ⟨hk, hinv⟩
  refine AtCut.mk ⟨Unit, fun _ => [(5, iS k), (0, intsS l a c), (1, iS n)], fun _ => ⟨[], [⟨.slice none 0 0, 1, 3, []⟩], [intsR l a c]⟩, fun _ => putF l n = l.take k ++ n :: l.drop k, fun _ _ => ⟨rfl, rfl⟩, ?_, ?_⟩
  · refine AtGuard.mk (fun h1 => ?_) (fun h1 => ?_)
    · have h1 : k < l.length := by simpa using h1
      obtain ⟨x, hx⟩ : ∃ x, l[k]? = some x := ⟨_, List.getElem?_eq_getElem (by omega)⟩
      refine at_index ttOK 0 rfl rfl rfl rfl (by omega) (by rw [Int.toNat_natCast]; exact ints_get hx) ?_
      rw [hx] at hinv
      refine AtIf.mk (fun h4 => ?_) (fun h4 => ?_)
      · have h4 : x = n := by simpa using h4
        subst h4
        rw [if_pos rfl, List.take_append_drop] at hinv
        rw [hinv]
        exact AtRet.pure [intsR l a c] rfl (by simp) ⟨a, c, rfl, rfl⟩
      · have h4 : ¬ x = n := by simpa using h4
        rw [if_neg (by simpa using h4)] at hinv
        exact ⟨(), hinv, ⟨rfl, rfl, rfl, trivial⟩, StLe.of rfl (List.Sublist.refl _) (by simp) rfl rfl⟩
    · have h1 : ¬ k < l.length := by simpa using h1
      have hlk : l[k]? = none := List.getElem?_eq_none_iff.2 (by omega)
      rw [hlk, if_neg (by simp)] at hinv
      refine AtIf.mk (fun h2 => by cases h2) (fun _ => ?_)
      exact ⟨(), hinv, ⟨rfl, rfl, rfl, trivial⟩, StLe.refl _⟩
  intro _ hres
  have hml : (l.map (D.int .i64)).length = l.length := List.length_map ..
  refine at_slice ttOK 0 0 k rfl rfl rfl rfl rfl (by omega) (by omega) ?_
  intro a1 c1 _
  refine at_append ttOK 8 0 1 rfl (by kernel_rfl) rfl rfl rfl rfl (by simp; omega) (by simp; omega) ?_
  intro a2 c2
  refine at_build ttOK 8 [.int .i64 n] rfl (by kernel_rfl) ⟨⟨rfl, rfl, rfl, rfl⟩, trivial⟩ rfl (by decide) (by decide) ?_
  intro a3
  refine at_append ttOK 8 0 2 rfl (by kernel_rfl) rfl rfl rfl rfl (by simp; omega) (by simp; omega) ?_
  intro a4 c4
  refine at_slice ttOK 0 k l.length rfl rfl rfl rfl rfl (by omega) (by omega) ?_
  intro a5 c5 _
  refine at_append ttOK 8 0 3 rfl (by kernel_rfl) rfl rfl rfl rfl (by simp; omega) (by simp; omega) ?_
  intro a6 c6
  have hds : (([] ++ ((l.map (D.int .i64)).take k).drop 0) ++ [D.int .i64 n]) ++ ((l.map (D.int .i64)).take l.length).drop k = (putF l n).map (D.int .i64) := by
    rw [hres, List.take_of_length_le (by omega : (l.map (D.int .i64)).length ≤ l.length)]
    simp [List.map_take, List.map_drop]
  have hln : (([] ++ ((l.map (D.int .i64)).take k).drop 0) ++ [D.int .i64 n]).length + (((l.map (D.int .i64)).take l.length).drop k).length = (putF l n).length := by
    rw [← List.length_append, hds, List.length_map]
  refine AtRet.grown [(intsR (putF l n) a6 c6)] rfl (fun p hp => .inr ?_) ⟨a6, c6, ?_, rfl⟩
  · simp only [List.mem_singleton] at hp
    subst hp
    refine ⟨_, List.mem_singleton.2 rfl, ?_⟩
    simp only [hds, hln]
  · simp only [hln]

mutual
def headsF (hd : Int) : Tm → Int → List Int → List Int
  | .mk o h n us, k, l => headsL hd o us 0 k (if o = 4 ∧ h = hd then (if hd ≠ 1 then putF l n else if n ≥ k then putF l (IntKind.i64.wrap (n - k)) else l) else l)
def headsL (hd : Int) : Int → List Tm → Nat → Int → List Int → List Int
  | _, [], _, _, l => l
  | o, u :: us, i, k, l => headsL hd o us (i + 1) k (headsF hd u (k + under o i) l)
 end
theorem headsF_eq (hd : Int) (t : Tm) (k : Int) (l : List Int) : headsF hd t k l = headsL hd t.op t.args 0 k (if t.op = 4 ∧ t.hd = hd then (if hd ≠ 1 then putF l t.n else if t.n ≥ k then putF l (IntKind.i64.wrap (t.n - k)) else l) else l) := by cases t; rfl

theorem putF_length : ∀ (l : List Int) (n : Int), (putF l n).length ≤ l.length + 1
  | [], n => by simp [putF]
  | x :: xs, n => by
    simp only [putF]
    split
    · have := putF_length xs n; simp; omega
    · split <;> simp

mutual
theorem headsF_length (hd : Int) : ∀ (t : Tm) (k : Int) (l : List Int), (headsF hd t k l).length ≤ l.length + t.count
  | .mk o h n us, k, l => by
    simp only [headsF, Tm.count]
    refine Nat.le_trans (headsL_length hd o us 0 k _) ?_
    have h1 := putF_length l n
    have h2 := putF_length l (IntKind.i64.wrap (n - k))
    split
    · split
      · omega
      · split <;> omega
    · omega
theorem headsL_length (hd : Int) : ∀ (o : Int) (us : List Tm) (i : Nat) (k : Int) (l : List Int), (headsL hd o us i k l).length ≤ l.length + Tm.countL us
  | o, [], i, k, l => by simp [headsL, Tm.countL]
  | o, u :: us, i, k, l => by
    simp only [headsL, Tm.countL]
    have h1 := headsL_length hd o us (i + 1) k (headsF hd u (k + under o i) l)
    have h2 := headsF_length hd u (k + under o i) l
    omega
 end

theorem count_arg {t x : Tm} {i : Nat} (h : t.args[i]? = some x) : x.count + Tm.countL (t.args.drop (i + 1)) = Tm.countL (t.args.drop i) := by
  rw [drop_cons h]; rfl
theorem Tm.count_eq (t : Tm) : t.count = Tm.countL t.args + 1 := by cases t; rfl

theorem heads_spec (hd : Int) (t : Tm) : ∀ (k : Int) (l : List Int) (a a1 : Option Addr) (c c1 : Nat), 0 ≤ k → k + t.height ≤ 1000000 → l.length + t.count ≤ 1000000 →
    Pure Tryz.prog (fnS 111) [tmS t a c, iS hd, iS k, intsS l a1 c1] [tmR t a c, intsR l a1 c1] (fun r out => ∃ a' c', r = intsS (headsF hd t k l) a' c' ∧ out = [intsR (headsF hd t k l) a' c']) := by
  induction t using Tm.ind with
  | h t ih =>
  intro k l a a1 c c1 hk0 hk1 hl
  refine Meets.of_ok fun hok => ?_
  have hB : (Tm.encL t.args).length ≤ 1152921504606846976 := (hok _ (List.mem_cons_self ..)).1
  have hlen := Tm.encL_length t.args
  have hth := Tm.height_eq t
  have htc := Tm.count_eq t
  have hF := headsF_eq hd t k l
  refine spec_of_body (N := 56) (m := 0) (dt := drawsOf [(9, .node [0, 1, 2, 3, 4, 5, 6, 7, 8, 11] [(9, .node [10] [(12, .leaf [13])])], [12], [])]) [1] ttOK Tryz.func111 rfl Tryz.call111 Tryz.ntmps111 rfl rfl rfl mixed (by kernel_rfl) ?_
  refine AtCut.mk ⟨List Int × Option Addr × Nat, fun x => [(3, intsS x.1 x.2.1 x.2.2), (4, .loc 0 0), (1, iS hd), (2, iS k)], fun x => ⟨[.cells 51 [iS t.op, iS t.hd, iS t.n, .v (.slice a (Tm.encL t.args).length c)]], [], [tmR t a c, intsR x.1 x.2.1 x.2.2]⟩,
    fun x => x.1.length ≤ l.length + 1 ∧ headsF hd t k l = headsL hd t.op t.args 0 k x.1, fun _ _ => ⟨rfl, rfl⟩, ?_, ?_⟩
  · refine AtIf.mk (fun h1 => ?_) (fun h1 => ?_)
    · have h1 : t.op = 4 ∧ t.hd = hd := by simpa using h1
      rw [if_pos h1] at hF
      refine AtIf.mk (fun h2 => ?_) (fun h2 => ?_)
      · have h2 : hd ≠ 1 := by simpa using h2
        rw [if_pos h2] at hF
        refine (put_spec l t.n a1 c1 (by omega)).at (by simp) rfl rfl ?_
        rintro r out ⟨a', c', rfl, rfl⟩
        have hpl := putF_length l t.n
        exact ⟨(putF l t.n, a', c'), ⟨hpl, hF⟩, ⟨rfl, rfl, rfl, rfl, trivial⟩, StLe.to _ _ rfl (by simp) rfl rfl⟩
      · have h2 : ¬ hd ≠ 1 := by simpa using h2
        rw [if_neg h2] at hF
        refine AtIf.mk (fun h3 => ?_) (fun h3 => ?_)
        · have h3 : t.n ≥ k := by simpa using h3
          rw [if_pos h3] at hF
          refine (put_spec l (IntKind.i64.wrap (t.n - k)) a1 c1 (by omega)).at (by simp) rfl rfl ?_
          rintro r out ⟨a', c', rfl, rfl⟩
          have hpl := putF_length l (IntKind.i64.wrap (t.n - k))
          exact ⟨(putF l (IntKind.i64.wrap (t.n - k)), a', c'), ⟨hpl, hF⟩, ⟨rfl, rfl, rfl, rfl, trivial⟩, StLe.to _ _ rfl (by simp) rfl rfl⟩
        · have h3 : ¬ t.n ≥ k := by simpa using h3
          rw [if_neg h3] at hF
          exact ⟨(l, a1, c1), ⟨by simp, hF⟩, ⟨rfl, rfl, rfl, rfl, trivial⟩, StLe.to _ _ rfl (by simp) rfl rfl⟩
    · have h1 : ¬ (t.op = 4 ∧ t.hd = hd) := by
        intro hh
        simp [hh.1, hh.2] at h1
      rw [if_neg h1] at hF
      exact ⟨(l, a1, c1), ⟨by simp, hF⟩, ⟨rfl, rfl, rfl, rfl, trivial⟩, StLe.to _ _ rfl (by simp) rfl rfl⟩
  rintro ⟨l1, a3, c3⟩ ⟨hl1, hF1⟩
  simp only at hl1 hF1 ⊢
  refine AtLoop.mk ⟨Nat × List Int × Option Addr × Nat, fun x => [(9, iS x.1), (3, intsS x.2.1 x.2.2.1 x.2.2.2), (4, .loc 0 0), (1, iS hd), (2, iS k)], fun x => ⟨[.cells 51 [iS t.op, iS t.hd, iS t.n, .v (.slice a (Tm.encL t.args).length c)]], [], [tmR t a c, intsR x.2.1 x.2.2.1 x.2.2.2]⟩,
    fun x => x.1 ≤ t.args.length ∧ x.2.1.length + Tm.countL (t.args.drop x.1) ≤ 1000000 ∧ headsF hd t k l = headsL hd t.op (t.args.drop x.1) x.1 k x.2.1, fun x => t.args.length - x.1, (0, l1, a3, c3), ⟨Nat.zero_le _, by simp only [List.drop_zero]; omega, hF1⟩, ⟨rfl, rfl, rfl, rfl, rfl, trivial⟩, StLe.refl _, fun _ _ => ⟨rfl, rfl⟩, ?_⟩
  rintro ⟨i, l2, a4, c4⟩ ⟨hi, hll, hinv⟩
  simp only at hi hll hinv ⊢
  refine AtIf.mk (fun h1 => ?_) (fun h1 => ?_)
  · simp only [decide_eq_true_eq, hlen] at h1
    obtain ⟨x, hx⟩ : ∃ x, t.args[i]? = some x := ⟨_, List.getElem?_eq_getElem (by omega)⟩
    have hxm := List.mem_of_getElem? hx
    have hxh := Tm.height_le hxm
    have hxc := count_arg hx
    have hu := under_le t.op i
    refine at_index ttOK 0 rfl rfl rfl rfl (by omega) (by rw [Int.toNat_natCast]; exact Tm.encL_get hx) ?_
    intro a5 c5 _ _
    refine (below_spec t a c i).at (by simp) rfl rfl ?_
    rintro r out ⟨rfl, rfl⟩
    refine ⟨fun _ _ h => h, ?_⟩
    have hw1 : IntKind.i64.wrap (k + under t.op i) = k + under t.op i := wrap_i64 (by omega) (by omega)
    have hsp := ih x hxm (k + under t.op i) l2 a5 a4 c5 c4 (by omega) (by omega) (by omega)
    rw [← hw1] at hsp
    refine hsp.at (by simp) rfl rfl ?_
    rintro r out ⟨a6, c6, rfl, rfl⟩
    rw [drop_cons hx, headsL, ← hw1] at hinv
    have hhl := headsF_length hd x (IntKind.i64.wrap (k + under t.op i)) l2
    have hw3 : IntKind.i64.wrap (i + 1) = ((i + 1 : Nat) : Int) := wrap_i64 (by omega) (by omega)
    exact ⟨(i + 1, headsF hd x (IntKind.i64.wrap (k + under t.op i)) l2, a6, c6), ⟨by omega, by simp only; omega, hinv⟩, by simp only; omega, ⟨by rw [← hw3]; rfl, rfl, rfl, rfl, rfl, trivial⟩, StLe.to _ _ rfl (by simp) rfl rfl⟩
  · simp only [decide_eq_false_iff_not, hlen] at h1
    rw [List.drop_of_length_le (by omega)] at hinv
    refine AtRet.pure [intsR l2 a4 c4] rfl (by simp) ⟨a4, c4, ?_⟩
    rw [hinv]
    exact ⟨rfl, rfl⟩

end Go.Proofs.YtpibdcjdamibdaaGreat
end

/-! Ref3D -/
section
namespace Go.Proofs.YtpibdcjdamibdaaGreat
open Go.Tr Go
set_option maxRecDepth 10000

theorem Tm.enc_eq (t : Tm) : t.enc = .agg [.int .i64 t.op, .int .i64 t.hd, .int .i64 t.n, .sl 4 (Tm.encL t.args)] := by cases t; rfl

theorem RepS_tm {reps : List (Value × D)} {t : Tm} {a : Option Addr} {c : Nat} (h : tmR t a c ∈ reps) : RepS reps t.enc (cellsOf (tmS t a c)) := by
  rw [Tm.enc_eq]
  exact ⟨[iS t.op], _, rfl, rfl, [iS t.hd], _, rfl, rfl, [iS t.n], _, rfl, rfl, [.v (.slice a (Tm.encL t.args).length c)], [], rfl, .inl ⟨_, rfl, h⟩, rfl⟩

theorem Tm.encL_snoc (l : List Tm) (t : Tm) : Tm.encL (l ++ [t]) = Tm.encL l ++ [t.enc] := by simp [Tm.encL_eq]

mutual
def movedF : Tm → Int → Int → Tm
  | .mk o h n us, by_, f => .mk o h (if (o = 4 ∧ h = 1) ∧ n ≥ f then IntKind.i64.wrap (n + by_) else n) (movedL o us 0 by_ f)
def movedL : Int → List Tm → Nat → Int → Int → List Tm
  | _, [], _, _, _ => []
  | o, u :: us, i, by_, f => movedF u by_ (f + under o i) :: movedL o us (i + 1) by_ f
 end
theorem movedF_eq (t : Tm) (by_ f : Int) : movedF t by_ f = .mk t.op t.hd (if (t.op = 4 ∧ t.hd = 1) ∧ t.n ≥ f then IntKind.i64.wrap (t.n + by_) else t.n) (movedL t.op t.args 0 by_ f) := by cases t; rfl

theorem movedL_length : ∀ (o : Int) (us : List Tm) (i : Nat) (by_ f : Int), (movedL o us i by_ f).length = us.length
  | o, [], i, by_, f => rfl
  | o, u :: us, i, by_, f => by simp only [movedL, List.length_cons, movedL_length o us]

theorem countL_drop : ∀ (us : List Tm) (i : Nat), Tm.countL (us.drop i) ≤ Tm.countL us
  | us, 0 => by simp
  | [], i + 1 => by simp
  | u :: us, i + 1 => by
    have := countL_drop us i
    simp only [List.drop_succ_cons, Tm.countL]
    omega

theorem moved_spec (t : Tm) (b : Int) : ∀ (f : Int) (a : Option Addr) (c : Nat), 0 ≤ f → f + t.height ≤ 1000000 → t.count ≤ 1000000 → Pure Tryz.prog (fnS 94) [tmS t a c, iS b, iS f] [tmR t a c] (fun r out => ∃ a' c', r = tmS (movedF t b f) a' c' ∧ out = [tmR (movedF t b f) a' c']) := by
  induction t using Tm.ind with
  | h t ih =>
  intro f a c hf0 hf1 hct
  refine Meets.of_ok fun hok => ?_
  have hB : (Tm.encL t.args).length ≤ 1152921504606846976 := (hok _ (List.mem_cons_self ..)).1
  have hlen := Tm.encL_length t.args
  have hth := Tm.height_eq t
  have htc := Tm.count_eq t
  have hF := movedF_eq t b f
  have hcl : ∀ us : List Tm, us.length ≤ Tm.countL us := by
    intro us
    induction us with
    | nil => simp
    | cons u us ih => have := Tm.count_pos u; simp only [List.length_cons, Tm.countL]; omega
  have hcl := hcl t.args
  refine Meets.nilAcc 4 51 ?_
  refine spec_of_body (N := 55) (m := 0) (dt := drawsOf [(8, .node [0, 1, 2, 3, 4, 5, 6, 7, 8, 9, 10] [(11, .node [12] [(13, .node [] [(14, .node [] [(15, .node [16] [(17, .leaf [])])])])])], [15, 17], [])]) [3] ttOK Tryz.func94 rfl Tryz.call94 Tryz.ntmps94 rfl rfl rfl mixed (by kernel_rfl) ?_
  refine AtCut.mk ⟨Unit, fun _ => [(3, .loc 0 0), (6, .loc 1 0), (7, .loc 2 0), (1, iS b), (2, iS f)],
    fun _ => ⟨[.cells 51 [iS t.op, iS t.hd, iS t.n, .v (.slice a (Tm.encL t.args).length c)], .cells 51 [iS 0, iS 0, iS 0, .v (.slice none 0 0)], .cells 51 [iS t.op, iS t.hd, iS (movedF t b f).n, .v (.slice none 0 0)]], [⟨.slice none 0 0, 4, 51, []⟩], [tmR t a c]⟩, fun _ => True, fun _ _ => ⟨rfl, rfl⟩, ?_, ?_⟩
  · refine AtIf.mk (fun h1 => ?_) (fun h1 => ?_)
    · have h1 : (t.op = 4 ∧ t.hd = 1) ∧ t.n ≥ f := by simpa using h1
      have hn : (movedF t b f).n = IntKind.i64.wrap (t.n + b) := by rw [hF, if_pos h1]; rfl
      exact ⟨(), trivial, ⟨rfl, rfl, rfl, rfl, rfl, trivial⟩, StLe.of (by rw [hn]; rfl) (List.Sublist.refl _) (by simp) rfl rfl⟩
    · have h1 : ¬ ((t.op = 4 ∧ t.hd = 1) ∧ t.n ≥ f) := by
        intro hh
        simp [hh.1.1, hh.1.2, hh.2] at h1
      have hn : (movedF t b f).n = t.n := by rw [hF, if_neg h1]; rfl
      exact ⟨(), trivial, ⟨rfl, rfl, rfl, rfl, rfl, trivial⟩, StLe.of (by rw [hn]; rfl) (List.Sublist.refl _) (by simp) rfl rfl⟩
  intro _ _
  refine AtLoop.mk ⟨Nat × List Tm × Option Addr × Nat, fun x => [(8, iS x.1), (3, .loc 0 0), (6, .loc 1 0), (7, .loc 2 0), (1, iS b), (2, iS f)],
    fun x => ⟨[.cells 51 [iS t.op, iS t.hd, iS t.n, .v (.slice a (Tm.encL t.args).length c)], .cells 51 [iS 0, iS 0, iS 0, .v (.slice none 0 0)], .cells 51 [iS t.op, iS t.hd, iS (movedF t b f).n, .v (.slice x.2.2.1 (Tm.encL x.2.1).length x.2.2.2)]], [⟨.slice x.2.2.1 (Tm.encL x.2.1).length x.2.2.2, 4, 51, Tm.encL x.2.1⟩], [tmR t a c]⟩,
    fun x => x.1 ≤ t.args.length ∧ x.2.1.length = x.1 ∧ movedL t.op t.args 0 b f = x.2.1 ++ movedL t.op (t.args.drop x.1) x.1 b f, fun x => t.args.length - x.1, (0, [], none, 0), ⟨Nat.zero_le _, rfl, rfl⟩, ⟨rfl, rfl, rfl, rfl, rfl, rfl, trivial⟩, StLe.refl _, fun _ _ => ⟨rfl, rfl⟩, ?_⟩
  rintro ⟨i, done, a2, c2⟩ ⟨hi, hdl, hinv⟩
  simp only at hi hdl hinv ⊢
  have hdle := Tm.encL_length done
  refine AtIf.mk (fun h1 => ?_) (fun h1 => ?_)
  · simp only [decide_eq_true_eq, hlen] at h1
    obtain ⟨x, hx⟩ : ∃ x, t.args[i]? = some x := ⟨_, List.getElem?_eq_getElem (by omega)⟩
    have hxm := List.mem_of_getElem? hx
    have hxh := Tm.height_le hxm
    have hxc : x.count ≤ 1000000 := by
      have h2 := count_arg hx
      have h3 := countL_drop t.args i
      omega
    have hu := under_le t.op i
    refine at_index ttOK 0 rfl rfl rfl rfl (by omega) (by rw [Int.toNat_natCast]; exact Tm.encL_get hx) ?_
    intro a5 c5 _ _
    refine (below_spec t a c i).at (by simp) rfl rfl ?_
    rintro r out ⟨rfl, rfl⟩
    refine ⟨fun _ _ h => h, ?_⟩
    have hw1 : IntKind.i64.wrap (f + under t.op i) = f + under t.op i := wrap_i64 (by omega) (by omega)
    have hsp := ih x hxm (f + under t.op i) a5 c5 (by omega) (by omega) hxc
    rw [← hw1] at hsp
    refine hsp.at (by simp) rfl rfl ?_
    rintro r out ⟨a6, c6, rfl, rfl⟩
    refine ⟨fun _ _ h => h, ?_⟩
    refine at_build ttOK 48 [(movedF x b (IntKind.i64.wrap (f + under t.op i))).enc] rfl (by kernel_rfl) ⟨⟨rfl, rfl, rfl, RepS_tm (by simp)⟩, trivial⟩ rfl (by decide) (by decide) ?_
    intro a7
    refine ⟨fun _ _ h => h, ?_⟩
    refine at_append ttOK 48 0 3 rfl (by kernel_rfl) rfl rfl rfl rfl (by simp; omega) (by simp; omega) ?_
    intro a8 c8
    rw [drop_cons hx, movedL, ← hw1] at hinv
    have hw3 : IntKind.i64.wrap (i + 1) = ((i + 1 : Nat) : Int) := wrap_i64 (by omega) (by omega)
    have he : (Tm.encL (done ++ [movedF x b (IntKind.i64.wrap (f + under t.op i))])).length = (Tm.encL done).length + 1 := by simp [Tm.encL_length]
    refine ⟨(i + 1, done ++ [movedF x b (IntKind.i64.wrap (f + under t.op i))], a8, c8), ⟨by omega, by simp [hdl], by rw [hinv]; simp⟩, by simp only; omega, ⟨by rw [← hw3]; rfl, rfl, rfl, rfl, rfl, rfl, trivial⟩, StLe.of ?_ ?_ (by simp) rfl rfl⟩
    · simp only [he]; rfl
    · rw [Tm.encL_snoc, List.length_append]; exact List.Sublist.refl _
  · simp only [decide_eq_false_iff_not, hlen] at h1
    rw [List.drop_of_length_le (by omega)] at hinv
    simp only [movedL, List.append_nil] at hinv
    have hm : movedF t b f = .mk t.op t.hd (movedF t b f).n done := by rw [hF, hinv]; rfl
    refine AtRet.grown [(.slice a2 (Tm.encL done).length c2, .sl 4 (Tm.encL done))] rfl (fun p hp => .inr ?_) ⟨a2, c2, ?_⟩
    · simp only [List.mem_singleton] at hp
      subst hp
      exact ⟨_, List.mem_singleton.2 rfl, rfl⟩
    · rw [hm]
      exact ⟨rfl, rfl⟩

theorem app_spec (h n : Int) (us : List Tm) (a : Option Addr) (c : Nat) : Pure Tryz.prog (fnS 19) [iS h, iS n, .v (.slice a (Tm.encL us).length c)] [] (fun r out => r = tmS (.mk 4 h n us) a c ∧ out = []) := by
  refine spec_of_body (N := 11) (m := 0) (dt := fun _ => none) [] ttOK Tryz.func19 rfl Tryz.call19 Tryz.ntmps19 rfl rfl rfl mixed (by kernel_rfl) ?_
  exact AtRet.pure [] rfl (by simp) ⟨rfl, rfl⟩

mutual
theorem nodesF_count : ∀ (t : Tm) (m : Int), 0 ≤ m → nodesF t m = min (t.count : Int) (m + 1)
  | .mk o h n us, m, hm => by
    have := nodesL_count us m 1 (by omega)
    have e := Tm.count_eq (.mk o h n us)
    simp only [Tm.args] at e
    rw [e]
    simp only [nodesF, this]
    split <;> omega
theorem nodesL_count : ∀ (us : List Tm) (m n : Int), n ≤ m + 1 → nodesL us m n = min (n + (Tm.countL us : Nat)) (m + 1)
  | [], m, n, h => by simp only [nodesL, Tm.countL]; omega
  | u :: us, m, n, h => by
    have hp := Tm.count_pos u
    simp only [nodesL, Tm.countL]
    split
    · have h1 := nodesF_count u (m - n) (by omega)
      have h2 := nodesF_le u (m - n) (by omega)
      have h3 := nodesL_count us m (n + nodesF u (m - n)) (by omega)
      rw [h3, h1]
      omega
    · omega
 end

mutual
theorem formedF_iff : ∀ (t : Tm) (d : Int), formedF t d = true ↔ okAll t = true ∧ d + t.height ≤ 41
  | .mk o h n us, d => by
    have hl := formedL_iff us (d + 1)
    simp only [formedF, okAll, Tm.height, Bool.and_eq_true]
    by_cases h1 : 40 < d
    · rw [if_pos h1]
      simp only [Bool.false_eq_true, false_iff]
      omega
    · rw [if_neg h1, Bool.and_eq_true, hl]
      constructor
      · rintro ⟨h2, h3, h4⟩
        refine ⟨⟨h2, h3⟩, ?_⟩
        rcases h4 with rfl | h4
        · simp only [Tm.heightL]; omega
        · omega
      · rintro ⟨⟨h2, h3⟩, h4⟩
        exact ⟨h2, h3, .inr (by omega)⟩
theorem formedL_iff : ∀ (us : List Tm) (d : Int), formedL us d = true ↔ okAllL us = true ∧ (us = [] ∨ d + Tm.heightL us ≤ 41)
  | [], d => by simp [formedL, okAllL]
  | u :: us, d => by
    have h1 := formedF_iff u d
    have h2 := formedL_iff us d
    have hq := Tm.height_pos u
    simp only [formedL, okAllL, Tm.heightL, Bool.and_eq_true, h1, h2, reduceCtorEq, false_or]
    constructor
    · rintro ⟨⟨h3, h4⟩, h5, h6⟩
      refine ⟨⟨h3, h5⟩, ?_⟩
      rcases h6 with rfl | h6
      · simp only [Tm.heightL]; omega
      · omega
    · rintro ⟨⟨h3, h5⟩, h6⟩
      exact ⟨⟨h3, by omega⟩, h5, .inr (by omega)⟩
 end

theorem refProper_eq (t : Tm) : refProper t = isProper t := by
  rw [Bool.eq_iff_iff, isProper_iff, refProper, Bool.and_eq_true, formedF_iff, nodesF_count t 600 (by omega), decide_eq_true_eq]
  constructor
  · rintro ⟨h1, h2, h3⟩
    exact ⟨h2, by omega, by omega⟩
  · rintro ⟨h1, h2, h3⟩
    exact ⟨by omega, h1, by omega⟩

def tm0 : Tm := .mk 0 0 0 []

/-- What trussref03.Shift answers. -/
def shiftF (t : Tm) (b f : Int) : Tm × Int :=
  if isProper t = false ∨ b < -9999 ∨ b > 9999 ∨ f < 0 ∨ f > 9999 then (tm0, 2)
  else if b < 0 ∧ lowF t f (f - b - 1) = true then (tm0, 27)
  else if isProper (movedF t b f) = false then (tm0, 5)
  else (movedF t b f, 0)

theorem shift_spec (t : Tm) (b f : Int) (a : Option Addr) (c : Nat) : Pure Tryz.prog (fnS 63) [tmS t a c, iS b, iS f] [tmR t a c] (fun r out => ∃ a' c', r = .tup [tmS (shiftF t b f).1 a' c', iS (shiftF t b f).2] ∧ out = [tmR (shiftF t b f).1 a' c']) := by
  refine nilRep 4 ?_
  refine spec_of_body (N := 50) (m := 0) (dt := fun _ => none) [3] ttOK Tryz.func63 rfl Tryz.call63 Tryz.ntmps63 rfl rfl rfl mixed (by kernel_rfl) ?_
  refine (refProper_spec t a c).at (by simp) rfl rfl ?_
  rintro r out ⟨rfl, rfl⟩
  rw [refProper_eq]
  refine AtIf.mk (fun h1 => ?_) (fun h1 => ?_)
  · have h1 : isProper t = false ∨ b < -9999 ∨ b > 9999 ∨ f < 0 ∨ f > 9999 := by
      simp only [Bool.or_eq_true, Bool.not_eq_true', decide_eq_true_eq] at h1
      rcases h1 with (((h1 | h1) | h1) | h1) | h1 <;> simp [h1]
    refine AtRet.pure [tmR tm0 none 0] rfl (by simp [tm0, Tm.args, Tm.encL]) ⟨none, 0, ?_⟩
    rw [shiftF, if_pos h1]
    exact ⟨rfl, rfl⟩
  simp only [Bool.or_eq_false_iff, Bool.not_eq_false', decide_eq_false_iff_not] at h1
  obtain ⟨⟨⟨⟨hp, hb1⟩, hb2⟩, hf1⟩, hf2⟩ := h1
  have hno : ¬ (isProper t = false ∨ b < -9999 ∨ b > 9999 ∨ f < 0 ∨ f > 9999) := by
    rw [hp]
    simp only [Bool.true_eq_false, false_or]
    omega
  have hpp := (isProper_iff t).1 hp
  have hw1 : IntKind.i64.wrap (f - b) = f - b := wrap_i64 (by omega) (by omega)
  have hw2 : IntKind.i64.wrap (f - b - 1) = f - b - 1 := wrap_i64 (by omega) (by omega)
  refine AtCut.mk ⟨Unit, fun _ => [(3, .loc 0 0), (6, .loc 1 0), (1, iS b), (2, iS f)], fun _ => ⟨[.cells 51 [iS t.op, iS t.hd, iS t.n, .v (.slice a (Tm.encL t.args).length c)], .cells 51 [iS 0, iS 0, iS 0, .v (.slice none 0 0)]], [], [(.slice none 0 0, .sl 4 []), tmR t a c]⟩,
    fun _ => ¬ (b < 0 ∧ lowF t f (f - b - 1) = true), fun _ _ => ⟨rfl, rfl⟩, ?_, ?_⟩
  · refine AtGuard.mk (fun h2 => ?_) (fun h2 => ?_)
    · have h2 : b < 0 := by simpa using h2
      have hsp := low_spec t f (f - b - 1) a c (by omega) (by omega) (by omega) (by omega)
      rw [← hw2, ← hw1] at hsp
      refine hsp.at (by simp) rfl rfl ?_
      rintro r out ⟨rfl, rfl⟩
      rw [hw1, hw2]
      refine AtIf.mk (fun h3 => ?_) (fun h3 => ?_)
      · have h3 : b < 0 ∧ lowF t f (f - b - 1) = true := ⟨h2, by simpa [h2] using h3⟩
        refine AtRet.pure [tmR tm0 none 0] rfl (by simp [tm0, Tm.args, Tm.encL]) ⟨none, 0, ?_⟩
        rw [shiftF, if_neg hno, if_pos h3]
        exact ⟨rfl, rfl⟩
      · refine ⟨(), ?_, ⟨rfl, rfl, rfl, rfl, trivial⟩, StLe.to _ _ rfl (by simp) rfl rfl⟩
        rintro ⟨h4, h5⟩
        simp [h5] at h3
    · have h2 : ¬ b < 0 := by simpa using h2
      refine AtIf.mk (fun h3 => ?_) (fun h3 => ?_)
      · simp at h3
      · exact ⟨(), fun h => h2 h.1, ⟨rfl, rfl, rfl, rfl, trivial⟩, StLe.to _ _ rfl (by simp) rfl rfl⟩
  intro _ hno2
  refine (moved_spec t b f a c (by omega) (by omega) (by omega)).at (by simp) rfl rfl ?_
  rintro r out ⟨a1, c1, rfl, rfl⟩
  refine (refProper_spec (movedF t b f) a1 c1).at (by simp) rfl rfl ?_
  rintro r out ⟨rfl, rfl⟩
  rw [refProper_eq]
  refine AtIf.mk (fun h3 => ?_) (fun h3 => ?_)
  · have h3 : isProper (movedF t b f) = false := by simpa using h3
    refine AtRet.pure [tmR tm0 none 0] rfl (by simp [tm0, Tm.args, Tm.encL]) ⟨none, 0, ?_⟩
    rw [shiftF, if_neg hno, if_neg hno2, if_pos h3]
    exact ⟨rfl, rfl⟩
  · have h3 : isProper (movedF t b f) = true := by simpa using h3
    refine AtRet.pure [tmR (movedF t b f) a1 c1] rfl (by simp) ⟨a1, c1, ?_⟩
    rw [shiftF, if_neg hno, if_neg hno2, if_neg (by simp [h3])]
    exact ⟨rfl, rfl⟩
end Go.Proofs.YtpibdcjdamibdaaGreat
end

/-! FwQ -/
section
namespace Go.Tr
open Go
set_option linter.unusedSimpArgs false

/-- A slice that is nil reads as the empty list. -/
theorem Meets.nilRep {P : Program} {cl : Cal} {args : List SV} {own : List Blk} {accs : List Acc} {rs : List (Value × D)} {R : Out → St → Prop} (k : Nat) (h : Meets P cl args ⟨own, accs, (.slice none 0 0, .sl k []) :: rs⟩ R) : Meets P cl args ⟨own, accs, rs⟩ R := by
  intro J ℓ w hG hJ
  refine h J ℓ w ⟨hG.len, hG.nodup, hG.lt, hG.memJ, hG.wf, hG.own, hG.accs, ?_⟩ hJ
  intro p hp
  rcases List.mem_cons.1 hp with e | e
  · subst e
    exact ⟨none, 0, rfl, ⟨Nat.zero_le _, Nat.zero_le _⟩, .inl rfl⟩
  · exact hG.reps p e

/-- What may grow is nil, or lies in a block of its own; it is not longer than 2^60. -/
theorem Meets.accAddr {P : Program} {cl : Cal} {args : List SV} {own : List Blk} {v : Value} {k : Nat} {T : TypeId} {ds : List D} {accs : List Acc} {rs : List (Value × D)} {R : Out → St → Prop}
    (h1 : v = .slice none 0 0 → ds = [] → Meets P cl args ⟨own, ⟨v, k, T, ds⟩ :: accs, rs⟩ R) (h2 : ∀ b cap, v = .slice (some ⟨b, 0, none⟩) ds.length cap → ds.length ≤ 1152921504606846976 → Meets P cl args ⟨own, ⟨v, k, T, ds⟩ :: accs, rs⟩ R) : Meets P cl args ⟨own, ⟨v, k, T, ds⟩ :: accs, rs⟩ R := by
  intro J ℓ w hG hJ
  rcases hG.accs _ (List.mem_cons_self ..) with ⟨hv, hd⟩ | ⟨b, cap, c, hv, _, _, hl, _⟩
  · exact h1 hv hd J ℓ w hG hJ
  · exact h2 b cap hv hl.2 J ℓ w hG hJ

/-- The place of an element of a slice whose block is known. -/
theorem at_index_acc {P : Program} {tt : Tab} (hT : TTOK P tt) {t e : TypeId} {k : Nat} {x ix : SV} {S : St} {K : SV → St → Prop} {b n c : Nat} {i : Int} {kk : IntKind} (hx : x = .v (.slice (some ⟨b, 0, none⟩) n c)) (hi : ix = .v (.int kk i)) (ht : tt t = some (.slice e k))
    (h0 : 0 ≤ i) (hlt : i < n) (h : K (.v (.pointer (some ⟨b, i.toNat * k, none⟩))) S) : AtPure P (fun ℓ => Instr.indexAt t (x.den ℓ) (ix.den ℓ)) S K := by
  subst hx hi
  refine AtPure.val _ rfl (fun ℓ w => ?_) h
  obtain ⟨_, hu, hse⟩ := hT t _ ht
  simp only [Instr.indexAt, SV.den, asIntOf, pure_bind, Sem.run_bind, run_underlying' hu, Result.andThen_ok, Sem.run_pure]
  rw [if_pos ⟨h0, hlt⟩]
  simp only [Sem.run_bind, hse, Result.andThen_ok, Sem.run_pure, addr_add, Nat.zero_add]

/-- An int of a slice that may grow. -/
theorem at_load_acc {P : Program} {tt : Tab} (hT : TTOK P tt) {t e : TypeId} {x : SV} {S : St} {K : SV → St → Prop} {b n c i : Nat} {kk : IntKind} {d : Int} {ds : List D} {z : Value} (j : Nat) (hacc : nth S.accs j = some ⟨.slice (some ⟨b, 0, none⟩) n c, 1, e, ds⟩) (hd : ds[i]? = some (.int kk d))
    (ht : tt t = some (.cell z)) (hx : x = .v (.pointer (some ⟨b, i, none⟩))) (h : K (.v (.int kk d)) S) : AtSem P (fun ℓ => Instr.loadAt t (x.den ℓ)) S K := by
  subst hx
  constructor
  intro J ℓ w hG hJ
  have ha : S.accs[j]? = some ⟨.slice (some ⟨b, 0, none⟩) n c, 1, e, ds⟩ := by rw [← nth_eq]; exact hacc
  rcases hG.accs _ (List.mem_of_getElem? ha) with ⟨hv, _⟩ | ⟨b', cap, cc, hv, hb, _, _, hre⟩
  · cases hv
  simp only [Value.slice.injEq, Option.some.injEq, Addr.mk.injEq, and_true] at hv
  obtain ⟨⟨rfl, _⟩, _, _⟩ := hv
  obtain ⟨hl, hc⟩ := hre.get hd
  simp only [RepC, Nat.mul_one] at hc hl
  have hget : cc.toList[i]? = some (.int kk d) := by
    have := congrArg (fun l => l[0]?) hc
    simpa [List.getElem?_take] using this
  obtain ⟨hagg, _⟩ := hT t _ ht
  have hcell : w.cell? ⟨b, i, none⟩ = some (.int kk d) := by
    simp only [World.cell?, hb]
    simpa using hget
  refine ⟨_, ℓ, S, w, ?_, rfl, List.prefix_refl _, Ext.refl _ _, hG, fun _ hb => .inl hb, h⟩
  simp only [SV.den, Instr.loadAt, Instr.sureAddr, pure_bind, loadVar, Sem.run_bind, hagg, Result.andThen_ok, Bool.false_eq_true, if_false, run_load, hcell]

theorem RepE.setInt {J : Nat → Prop} {w : World} {kk : IntKind} {y : Int} : ∀ {ds : List D} {cs : List Value} {i : Nat}, RepE J w 1 ds cs → i < ds.length → RepE J w 1 (ds.set i (.int kk y)) (cs.set i (.int kk y))
  | d :: ds, cs, 0, h, _ => by
    simp only [RepE] at h
    obtain ⟨c, cs, rfl⟩ : ∃ c r, cs = c :: r := by cases cs with | nil => simp at h | cons c r => exact ⟨c, r, rfl⟩
    simp only [List.set_cons_zero, RepE, List.length_cons, List.take_succ_cons, List.take_zero, List.drop_succ_cons, List.drop_zero, RepC] at h ⊢
    exact ⟨by omega, trivial, h.2.2⟩
  | d :: ds, cs, i + 1, h, hlt => by
    simp only [RepE] at h
    obtain ⟨c, cs, rfl⟩ : ∃ c r, cs = c :: r := by cases cs with | nil => simp at h | cons c r => exact ⟨c, r, rfl⟩
    simp only [List.set_cons_succ, RepE, List.length_cons, List.take_succ_cons, List.take_zero, List.drop_succ_cons, List.drop_zero, List.length_set] at h ⊢
    exact ⟨h.1, h.2.1, RepE.setInt h.2.2 (by simpa using hlt)⟩

/-- An int of a slice that may grow is written. -/
theorem at_store_acc {P : Program} {tt : Tab} (hT : TTOK P tt) {t e : TypeId} {x s : SV} {S : St} {K : SV → St → Prop} {b n c i : Nat} {kk : IntKind} {y : Int} {ds : List D} {z : Value} (j : Nat) (hacc : nth S.accs j = some ⟨.slice (some ⟨b, 0, none⟩) n c, 1, e, ds⟩) (hi : i < ds.length)
    (ht : tt t = some (.cell z)) (hx : x = .v (.pointer (some ⟨b, i, none⟩))) (hs : s = .v (.int kk y)) (h : forceL (setNth S.accs j ⟨.slice (some ⟨b, 0, none⟩) n c, 1, e, ds.set i (.int kk y)⟩) (fun accs => K undefS ⟨S.own, accs, S.reps⟩)) :
    AtSem P (fun ℓ => do Instr.storeAt t (x.den ℓ) (s.den ℓ); pure undef) S K := by
  subst hx hs
  rw [forceL_eq] at h
  constructor
  intro J ℓ w hG hJ
  have ha : S.accs[j]? = some ⟨.slice (some ⟨b, 0, none⟩) n c, 1, e, ds⟩ := by rw [← nth_eq]; exact hacc
  rcases hG.accs _ (List.mem_of_getElem? ha) with ⟨hv, _⟩ | ⟨b', cap, cc, hv, hb, hcs, hle, hre⟩
  · cases hv
  simp only [Value.slice.injEq, Option.some.injEq, Addr.mk.injEq, and_true] at hv
  obtain ⟨⟨rfl, _⟩, rfl, rfl⟩ := hv
  simp only at hb hcs hle hre
  have hsz := size_run hT ht w
  have hicc : i < cc.size := by omega
  have hst := run_storeCells_at P b i e [.int kk y] 0 cc w hb (by simp; omega) (by simp [Value.oneCell'])
  have hset : (cc.toList.take i ++ [.int kk y] ++ cc.toList.drop (i + 1)) = cc.toList.set i (.int kk y) := by
    rw [List.set_eq_take_append_cons_drop, if_pos (by simpa using hicc)]
    simp
  simp only [Nat.add_zero, List.length_cons, List.length_nil, Nat.zero_add, hset] at hst
  have hrow := setRow_heap w b cc (cc.toList.set i (.int kk y)).toArray e (0, 0) hb
  have hgood := hG.regrow (j := j) (a' := ⟨.slice (some ⟨b, 0, none⟩) ds.length c, 1, e, ds.set i (.int kk y)⟩) (w' := w.setRow b (cc.toList.set i (.int kk y)).toArray) hJ ha (by simp [World.setRow])
    (fun x hx hm => setRow_other w b x _ (fun e => hm (by simp [accBlk, e]))) (by simp [accBlk]) (fun x hx => ?_) (fun J' hj => ?_)
  · refine ⟨undefS, ℓ, _, w.setRow b (cc.toList.set i (.int kk y)).toArray, ?_, rfl, List.prefix_refl _, ⟨rfl, rfl, by simp [World.setRow], fun x hx hm => setRow_other w b x _ (fun e => hm ?_)⟩, hgood.1, hgood.2, h⟩
    · have hce : (Value.int kk y).cells.size = 1 := rfl
      have hcl : (Value.int kk y).cells.toList = [.int kk y] := rfl
      simp only [SV.den, Instr.storeAt, Instr.sureAddr, pure_bind, storeVar, Sem.run_bind, hsz, Result.andThen_ok, TK.zeros, List.length_cons, List.length_nil, Nat.zero_add, hce, ne_eq, not_true_eq_false, if_false, hcl, hst, Sem.run_pure, undefS, SV.denL, undef]
    · simp only [mutS]
      exact List.mem_append.2 (.inr (List.mem_flatMap.2 ⟨_, List.mem_of_getElem? ha, by simp [accBlk, e]⟩))
  · simp [accBlk] at hx
    subst hx
    exact ⟨.inl (by simp [accBlk]), by simpa [World.setRow] using lt_of_get hb⟩
  · refine .inr ⟨b, c, _, by simp, hrow, by simpa using hcs, by simpa using hle, ?_⟩
    simp only
    exact RepE.setInt (RepE.map hj 1 _ _ hre) hi
end Go.Tr
end

/-! Ref15A -/
section
namespace Go.Proofs.YtpibdcjdamibdaaGreat
open Go.Tr Go
set_option maxRecDepth 10000

theorem lams_spec (t : Tm) (a : Option Addr) (c : Nat) (hl : lamOK t = true) (hh : t.height ≤ 1000000) : Pure Tryz.prog (fnS 129) [tmS t a c] [tmR t a c]
    (fun r out => ∃ a' c', r = .tup [iS (stripF t).2, tmS (stripF t).1 a' c'] ∧ out = [tmR (stripF t).1 a' c']) := by
  refine spec_of_body (N := 16) (m := 0) (dt := drawsOf [(5, .node [0, 1, 2] [(3, .leaf [])], [3], [])]) [] ttOK Tryz.func129 rfl Tryz.call129 Tryz.ntmps129 rfl rfl rfl mixed (by kernel_rfl) ?_
  refine AtLoop.mk ⟨Tm × Nat × Option Addr × Nat, fun x => [(4, iS x.2.1), (1, .loc 0 0), (3, .loc 1 0)], fun x => ⟨[.cells 51 [iS x.1.op, iS x.1.hd, iS x.1.n, .v (.slice x.2.2.1 (Tm.encL x.1.args).length x.2.2.2)], .cells 51 [iS 0, iS 0, iS 0, .v (.slice none 0 0)]], [], [tmR x.1 x.2.2.1 x.2.2.2]⟩,
    fun x => lamOK x.1 = true ∧ x.2.1 + x.1.height ≤ 1000000 ∧ stripF t = ((stripF x.1).1, (stripF x.1).2 + x.2.1), fun x => x.1.height, (t, 0, a, c), ⟨hl, by simpa using hh, by simp⟩, ⟨rfl, rfl, rfl, trivial⟩, StLe.refl _, fun _ _ => ⟨rfl, rfl⟩, ?_⟩
  rintro ⟨u, i, a1, c1⟩ ⟨hu, hb, hinv⟩
  simp only at hu hb hinv ⊢
  refine AtIf.mk (fun h => ?_) (fun h => ?_)
  · simp only [beq_iff_eq] at h
    have hne := lamOK_ne hu h
    obtain ⟨v, vs, hargs⟩ : ∃ v vs, u.args = v :: vs := List.exists_cons_of_ne_nil hne
    have hv : u.args[0]? = some v := by rw [hargs]; rfl
    have hvm : v ∈ u.args := List.mem_of_getElem? hv
    have hht := Tm.height_le hvm
    have hhe := Tm.height_eq u
    refine at_index ttOK 0 rfl rfl rfl rfl (by omega) (Tm.encL_get hv) ?_
    intro a2 c2 _ _
    have hw3 : IntKind.i64.wrap (i + 1) = ((i + 1 : Nat) : Int) := wrap_i64 (by omega) (by omega)
    refine ⟨(v, i + 1, a2, c2), ⟨lamOK_arg hu hvm, by simp only; omega, ?_⟩, by simp only; omega, ⟨by rw [← hw3]; rfl, rfl, rfl, trivial⟩, StLe.to _ _ rfl (by simp) rfl rfl⟩
    rw [hinv, stripF_lam h hargs]
    simp only [Nat.add_assoc, Nat.add_comm 1 i]
  · simp only [beq_eq_false_iff_ne] at h
    rw [stripF_no h] at hinv
    refine AtRet.pure [tmR u a1 c1] rfl (by simp) ?_
    rw [hinv]
    exact ⟨a1, c1, by simp, rfl⟩

def varF (fx a b k : Int) (l : List Int) : Bool × List Int :=
  if b < k then (a == b, l) else
  if b - k ≥ l.length then (decide (a ≥ k) && (a - k == b - k - l.length), l) else
  if (a - k < 0 ∨ a - k ≥ fx) ∨ (l.getD (b - k).toNat 0 ≥ 0 ∧ l.getD (b - k).toNat 0 ≠ a - k) then (false, l) else (true, l.set (b - k).toNat (a - k))

theorem varF_length (fx a b k : Int) (l : List Int) : (varF fx a b k l).2.length = l.length := by
  unfold varF
  split
  · rfl
  · split
    · rfl
    · split <;> simp

abbrev workB (fx : Int) (ad : Option Addr) (n c : Nat) : Blk := .cells 184 [iS fx, .v (.slice ad n c)]
abbrev forA (l : List Int) (ad : Option Addr) (c : Nat) : Acc := ⟨.slice ad l.length c, 1, 3, l.map (D.int .i64)⟩

theorem var_spec (fx a b k : Int) (l : List Int) (ad : Option Addr) (c : Nat) (ha0 : 0 ≤ a) (ha1 : a ≤ 9999) (hb0 : 0 ≤ b) (hb1 : b ≤ 9999) (hk0 : 0 ≤ k) (hk1 : k ≤ 1000000) :
    Meets Tryz.prog (fnS 166) [.loc 0 0, iS a, iS b, iS k] ⟨[workB fx ad l.length c], [forA l ad c], []⟩ (fun o S' => o = .ret (bS (varF fx a b k l).1) ∧ S' = ⟨[workB fx ad l.length c], [forA (varF fx a b k l).2 ad c], []⟩) := by
  have hw1 : IntKind.i64.wrap (b - k) = b - k := wrap_i64 (by omega) (by omega)
  have hw2 : IntKind.i64.wrap (a - k) = a - k := wrap_i64 (by omega) (by omega)
  -- the slice is nil, or not
  have main : (∀ i, i < l.length → ∃ b0, ad = some ⟨b0, 0, none⟩) → l.length ≤ 1152921504606846976 → Meets Tryz.prog (fnS 166) [.loc 0 0, iS a, iS b, iS k] ⟨[workB fx ad l.length c], [forA l ad c], []⟩ (fun o S' => o = .ret (bS (varF fx a b k l).1) ∧ S' = ⟨[workB fx ad l.length c], [forA (varF fx a b k l).2 ad c], []⟩) := by
    intro had hll
    have hw3 : IntKind.i64.wrap (b - k - l.length) = b - k - l.length := wrap_i64 (by omega) (by omega)
    refine spec_of_body (N := 84) (m := 1) (dt := fun _ => none) [7] ttOK Tryz.func166 rfl Tryz.call166 Tryz.ntmps166 rfl rfl rfl mixed (by kernel_rfl) ?_
    refine AtIf.mk (fun h1 => ?_) (fun h1 => ?_)
    · have h1 : b < k := by simpa using h1
      refine ret_keep [workB fx ad l.length c] rfl rfl rfl rfl rfl ?_
      rw [varF, if_pos h1]
      refine ⟨?_, ?_⟩ <;> first | rfl | trivial
    have h1 : ¬ b < k := by simpa using h1
    refine AtIf.mk (fun h2 => ?_) (fun h2 => ?_)
    · rw [hw1] at h2
      have h2 : b - k ≥ l.length := by simpa using h2
      refine ret_keep [workB fx ad l.length c] rfl rfl rfl rfl rfl ?_
      rw [varF, if_neg h1, if_pos h2]
      simp only [hw1, hw2, hw3]
      refine ⟨?_, ?_⟩ <;> first | rfl | trivial
    rw [hw1] at h2
    have h2 : ¬ b - k ≥ l.length := by simpa using h2
    obtain ⟨x, hx⟩ : ∃ x, l[(b - k).toNat]? = some x := ⟨_, List.getElem?_eq_getElem (by omega)⟩
    obtain ⟨b0, rfl⟩ := had (b - k).toNat (by omega)
    have hgd : l.getD (b - k).toNat 0 = x := by simp [List.getD, hx]
    have hxd : (l.map (D.int .i64))[(b - k).toNat * 1]? = some (.int .i64 x) := by rw [Nat.mul_one]; exact ints_get hx
    have hlt : (b - k).toNat * 1 < (l.map (D.int .i64)).length := (List.getElem?_eq_some_iff.1 hxd).1
    have hF : varF fx a b k l = if (a - k < 0 ∨ a - k ≥ fx) ∨ (x ≥ 0 ∧ x ≠ a - k) then (false, l) else (true, l.set (b - k).toNat (a - k)) := by rw [varF, if_neg h1, if_neg h2, hgd]
    have hml : (l.map (D.int .i64)).length = l.length := List.length_map ..
    have bad : (a - k < 0 ∨ a - k ≥ fx) ∨ (x ≥ 0 ∧ x ≠ a - k) → varF fx a b k l = (false, l) := fun h => by rw [hF, if_pos h]
    have leave : ∀ {env : Env} {S : St}, (a - k < 0 ∨ a - k ≥ fx) ∨ (x ≥ 0 ∧ x ≠ a - k) → S = ⟨[workB fx (some ⟨b0, 0, none⟩) l.length c], [forA l (some ⟨b0, 0, none⟩) c], []⟩ →
        AtRet 1 (.ret (bS false)) S (fun o S' => o = .ret (bS (varF fx a b k l).1) ∧ S' = ⟨[workB fx (some ⟨b0, 0, none⟩) l.length c], [forA (varF fx a b k l).2 (some ⟨b0, 0, none⟩) c], []⟩) := by
      rintro env S h rfl
      refine ret_keep [workB fx (some ⟨b0, 0, none⟩) l.length c] rfl rfl rfl rfl rfl ?_
      rw [bad h]
      exact ⟨rfl, rfl⟩
    refine AtCut.mk ⟨Unit, fun _ => [(0, .loc 0 0), (9, iS (b - k)), (10, iS (a - k))], fun _ => ⟨[workB fx (some ⟨b0, 0, none⟩) l.length c], [forA l (some ⟨b0, 0, none⟩) c], []⟩,
      fun _ => ¬ ((a - k < 0 ∨ a - k ≥ fx) ∨ (x ≥ 0 ∧ x ≠ a - k)), fun _ _ => ⟨rfl, rfl⟩, ?_, ?_⟩
    · refine AtGuard.mk (fun h3 => ?_) (fun h3 => ?_)
      · rw [hw2] at h3
        have h3 : ¬ (a - k < 0 ∨ a - k ≥ fx) := by simpa using h3
        refine at_index_acc ttOK rfl rfl rfl (by rw [hw1]; omega) (by rw [hw1]; omega) ?_
        rw [hw1]
        refine at_load_acc ttOK 0 rfl hxd rfl rfl ?_
        refine AtGuard.mk (fun h4 => ?_) (fun h4 => ?_)
        · have h4 : x ≥ 0 := by simpa using h4
          refine at_index_acc ttOK rfl rfl rfl (by omega) (by omega) ?_
          refine at_load_acc ttOK 0 rfl hxd rfl rfl ?_
          refine AtIf.mk (fun h5 => ?_) (fun h5 => ?_)
          · rw [hw2] at h5
            have h5 : x ≠ a - k := by simpa using h5
            exact leave (env := []) (.inr ⟨h4, h5⟩) rfl
          · rw [hw2] at h5
            have h5 : x = a - k := by simpa using h5
            exact ⟨(), fun h => by rcases h with h | h; exact h3 h; exact h.2 h5, ⟨rfl, by first | rfl | (simp only [hw1]; rfl), by first | rfl | (simp only [hw2]; rfl), trivial⟩, StLe.refl _⟩
        · have h4 : ¬ x ≥ 0 := by simpa using h4
          refine AtIf.mk (fun h5 => ?_) (fun h5 => ?_)
          · simp at h5
          · exact ⟨(), fun h => by rcases h with h | h; exact h3 h; exact h4 h.1, ⟨rfl, by first | rfl | (simp only [hw1]; rfl), by first | rfl | (simp only [hw2]; rfl), trivial⟩, StLe.refl _⟩
      · rw [hw2] at h3
        have h3 : (a - k < 0 ∨ a - k ≥ fx) := by simpa using h3
        refine AtIf.mk (fun h5 => ?_) (fun h5 => ?_)
        · exact leave (env := []) (.inl h3) rfl
        · simp at h5
    intro _ hno
    refine at_index_acc ttOK rfl rfl rfl (by omega) (by omega) ?_
    refine at_store_acc ttOK 0 rfl hlt rfl rfl rfl ?_
    refine ret_keep [workB fx (some ⟨b0, 0, none⟩) l.length c] rfl rfl rfl rfl rfl ?_
    rw [hF, if_neg hno]
    refine ⟨rfl, ?_⟩
    simp only [forA, List.length_set, List.map_set, Nat.mul_one]
  refine Meets.accAddr (fun hv hd => ?_) (fun b0 cap hv hl => ?_)
  · have hl : l = [] := by simpa using hd
    subst hl
    exact main (fun i hi => by simp at hi) (by simp)
  · simp only [Value.slice.injEq] at hv
    refine main (fun i hi => ⟨b0, hv.1⟩) (by simpa using hl)

mutual
/-- What work.same answers, and what stands for the variables then. -/
def isF (fx : Int) : Tm → Tm → Int → List Int → Bool × List Int
  | .mk o h n us, u, k, l => if (o ≠ u.op ∨ h ≠ u.hd) ∨ us.length ≠ u.args.length then (false, l) else
      match (if o = 4 ∧ h = 1 then varF fx n u.n k l else (n == u.n, l)) with
      | (false, l') => (false, l')
      | (true, l') => isL fx o us u.args 0 k l'
def isL (fx : Int) : Int → List Tm → List Tm → Nat → Int → List Int → Bool × List Int
  | o, u :: us, v :: vs, i, k, l => match isF fx u v (k + under o i) l with
    | (false, l') => (false, l')
    | (true, l') => isL fx o us vs (i + 1) k l'
  | _, _, _, _, _, l => (true, l)
 end
theorem isF_eq (fx : Int) (t u : Tm) (k : Int) (l : List Int) : isF fx t u k l = if (t.op ≠ u.op ∨ t.hd ≠ u.hd) ∨ t.args.length ≠ u.args.length then (false, l) else
      match (if t.op = 4 ∧ t.hd = 1 then varF fx t.n u.n k l else (t.n == u.n, l)) with
      | (false, l') => (false, l')
      | (true, l') => isL fx t.op t.args u.args 0 k l' := by cases t; rfl

mutual
theorem isF_length (fx : Int) : ∀ (t u : Tm) (k : Int) (l : List Int), (isF fx t u k l).2.length = l.length
  | .mk o h n us, u, k, l => by
    simp only [isF]
    split
    · rfl
    · have h1 : (if o = 4 ∧ h = 1 then varF fx n u.n k l else (n == u.n, l)).2.length = l.length := by
        split
        · exact varF_length ..
        · rfl
      split
      · rename_i l' he; rw [he] at h1; exact h1
      · rename_i l' he; rw [he] at h1; exact (isL_length fx o us u.args 0 k l').trans h1
theorem isL_length (fx : Int) : ∀ (o : Int) (us vs : List Tm) (i : Nat) (k : Int) (l : List Int), (isL fx o us vs i k l).2.length = l.length
  | o, u :: us, v :: vs, i, k, l => by
    simp only [isL]
    have h1 := isF_length fx u v (k + under o i) l
    split
    · rename_i l' he; rw [he] at h1; exact h1
    · rename_i l' he; rw [he] at h1; exact (isL_length fx o us vs (i + 1) k l').trans h1
  | _, [], _, _, _, l => by simp [isL]
  | _, _ :: _, [], _, _, l => by simp [isL]
 end

theorem okAll_n {t : Tm} (h : okAll t = true) : 0 ≤ t.n ∧ t.n ≤ 9999 := by
  cases t with
  | mk o hd n us =>
    simp only [okAll, Bool.and_eq_true] at h
    have h1 := h.1
    simp only [Tm.n]
    unfold okNode at h1
    split at h1
    · simp at h1; omega
    · split at h1
      · simp at h1; omega
      · split at h1
        · simp at h1; omega
        · split at h1
          · simp at h1; omega
          · cases h1

theorem isSame_spec (fx : Int) (t : Tm) : ∀ (u : Tm) (k : Int) (l : List Int) (a1 a2 ad : Option Addr) (c1 c2 c : Nat), okAll t = true → okAll u = true → 0 ≤ k → k + t.height ≤ 1000000 →
    Meets Tryz.prog (fnS 150) [.loc 0 0, tmS t a1 c1, tmS u a2 c2, iS k] ⟨[workB fx ad l.length c], [forA l ad c], [tmR t a1 c1, tmR u a2 c2]⟩ (fun o S' => o = .ret (bS (isF fx t u k l).1) ∧ S' = ⟨[workB fx ad l.length c], [forA (isF fx t u k l).2 ad c], []⟩) := by
  induction t using Tm.ind with
  | h t ih =>
  intro u k l a1 a2 ad c1 c2 c hot hou hk0 hk1
  refine Meets.of_ok fun hok => ?_
  have hB : (Tm.encL t.args).length ≤ 1152921504606846976 := (hok _ (List.mem_cons_self ..)).1
  have hlen := Tm.encL_length t.args
  have hlen2 := Tm.encL_length u.args
  have hth := Tm.height_eq t
  have hF := isF_eq fx t u k l
  have htn := okAll_n hot
  have hun := okAll_n hou
  refine spec_of_body (N := 91) (m := 1) (dt := drawsOf [(17, .node [0, 1, 2, 3, 4, 5, 6, 7, 8, 9, 10, 11] [(12, .leaf [13])], [12], [])]) [4,6,15] ttOK Tryz.func150 rfl Tryz.call150 Tryz.ntmps150 rfl rfl rfl mixed (by kernel_rfl) ?_
  refine AtIf.mk (fun h1 => ?_) (fun h1 => ?_)
  · simp only [hlen, hlen2] at h1
    have h1 : (t.op ≠ u.op ∨ t.hd ≠ u.hd) ∨ t.args.length ≠ u.args.length := by
      simp at h1 ⊢
      omega
    rw [if_pos h1] at hF
    refine ret_keep [workB fx ad l.length c] rfl rfl rfl rfl rfl ?_
    rw [hF]
    exact ⟨rfl, rfl⟩
  simp only [hlen, hlen2] at h1
  have h1 : ¬ ((t.op ≠ u.op ∨ t.hd ≠ u.hd) ∨ t.args.length ≠ u.args.length) := by
    simp at h1 ⊢
    omega
  rw [if_neg h1] at hF
  have hll : t.args.length = u.args.length := by omega
  -- the binders within
  refine AtCut.mk ⟨Unit, fun _ => [(9, iS (k + if t.op = 3 then 1 else 0)), (0, .loc 0 0), (5, .loc 1 0), (6, .loc 2 0), (3, iS k)],
    fun _ => ⟨[workB fx ad l.length c, .cells 51 [iS t.op, iS t.hd, iS t.n, .v (.slice a1 (Tm.encL t.args).length c1)], .cells 51 [iS u.op, iS u.hd, iS u.n, .v (.slice a2 (Tm.encL u.args).length c2)]], [forA l ad c], [tmR t a1 c1, tmR u a2 c2]⟩, fun _ => True, fun _ _ => ⟨rfl, rfl⟩, ?_, ?_⟩
  · refine AtIf.mk (fun h2 => ?_) (fun h2 => ?_)
    · have h2 : t.op = 3 := by simpa using h2
      have hw1 : IntKind.i64.wrap (k + 1) = k + 1 := wrap_i64 (by omega) (by omega)
      exact ⟨(), trivial, ⟨by rw [if_pos h2]; simp only [hw1]; rfl, rfl, rfl, rfl, rfl, trivial⟩, StLe.refl _⟩
    · have h2 : ¬ t.op = 3 := by simpa using h2
      exact ⟨(), trivial, ⟨by rw [if_neg h2, Int.add_zero]; rfl, rfl, rfl, rfl, rfl, trivial⟩, StLe.refl _⟩
  intro _ _
  -- the numbers
  refine AtCut.mk ⟨List Int, fun _ => [(9, iS (k + if t.op = 3 then 1 else 0)), (0, .loc 0 0), (5, .loc 1 0), (6, .loc 2 0), (3, iS k)],
    fun l' => ⟨[workB fx ad l.length c, .cells 51 [iS t.op, iS t.hd, iS t.n, .v (.slice a1 (Tm.encL t.args).length c1)], .cells 51 [iS u.op, iS u.hd, iS u.n, .v (.slice a2 (Tm.encL u.args).length c2)]], [forA l' ad c], [tmR t a1 c1, tmR u a2 c2]⟩,
    fun l' => l'.length = l.length ∧ isF fx t u k l = isL fx t.op t.args u.args 0 k l', fun _ _ => ⟨rfl, rfl⟩, ?_, ?_⟩
  · refine AtIf.mk (fun h2 => ?_) (fun h2 => ?_)
    · have h2 : t.op = 4 ∧ t.hd = 1 := by simpa using h2
      rw [if_pos h2] at hF
      have hvl := varF_length fx t.n u.n k l
      refine (var_spec fx t.n u.n k l ad c htn.1 htn.2 hun.1 hun.2 hk0 (by omega)).frame0 _ [] rfl (by simp) (by intro q hq; simp at hq; subst hq; rfl) (by simp) rfl rfl ?_
      rintro o s' ⟨rfl, rfl⟩
      refine ⟨rfl, ?_⟩
      cases hv : varF fx t.n u.n k l with
      | mk b l' =>
      rw [hv] at hF hvl
      simp only at hF hvl ⊢
      cases b with
      | false =>
        refine AtIf.mk (fun _ => ?_) (fun h3 => by cases h3)
        refine ret_keep [workB fx ad l.length c] rfl rfl rfl rfl rfl ?_
        rw [hF]
        exact ⟨rfl, rfl⟩
      | true =>
        refine AtIf.mk (fun h3 => by cases h3) (fun _ => ?_)
        exact ⟨l', ⟨hvl, hF⟩, ⟨rfl, rfl, rfl, rfl, rfl, trivial⟩, StLe.of rfl (List.Sublist.refl _) (by simp) rfl rfl⟩
    · have h2 : ¬ (t.op = 4 ∧ t.hd = 1) := by
        intro hh
        simp [hh.1, hh.2] at h2
      rw [if_neg h2] at hF
      refine AtIf.mk (fun h3 => ?_) (fun h3 => ?_)
      · have h3 : (t.n == u.n) = false := by simpa using h3
        rw [h3] at hF
        refine ret_keep [workB fx ad l.length c] rfl rfl rfl rfl rfl ?_
        rw [hF]
        exact ⟨rfl, rfl⟩
      · have h3 : (t.n == u.n) = true := by simpa using h3
        rw [h3] at hF
        exact ⟨l, ⟨rfl, hF⟩, ⟨rfl, rfl, rfl, rfl, rfl, trivial⟩, StLe.refl _⟩
  rintro l1 ⟨hl1, hF1⟩
  refine AtLoop.mk ⟨Nat × List Int, fun x => [(10, iS x.1), (9, iS (k + if t.op = 3 then 1 else 0)), (0, .loc 0 0), (5, .loc 1 0), (6, .loc 2 0)],
    fun x => ⟨[workB fx ad l.length c, .cells 51 [iS t.op, iS t.hd, iS t.n, .v (.slice a1 (Tm.encL t.args).length c1)], .cells 51 [iS u.op, iS u.hd, iS u.n, .v (.slice a2 (Tm.encL u.args).length c2)]], [forA x.2 ad c], [tmR t a1 c1, tmR u a2 c2]⟩,
    fun x => x.1 ≤ t.args.length ∧ x.2.length = l.length ∧ isF fx t u k l = isL fx t.op (t.args.drop x.1) (u.args.drop x.1) x.1 k x.2, fun x => t.args.length - x.1, (0, l1), ⟨Nat.zero_le _, hl1, hF1⟩, ⟨rfl, rfl, rfl, rfl, rfl, trivial⟩, StLe.refl _, fun _ _ => ⟨rfl, rfl⟩, ?_⟩
  rintro ⟨i, l2⟩ ⟨hi, hl2, hinv⟩
  simp only at hi hl2 hinv ⊢
  refine AtIf.mk (fun h1 => ?_) (fun h1 => ?_)
  rotate_left
  · simp only [decide_eq_false_iff_not, hlen] at h1
    rw [List.drop_of_length_le (by omega)] at hinv
    simp only [isL] at hinv
    refine ret_keep [workB fx ad l.length c] rfl rfl rfl rfl rfl ?_
    rw [hinv]
    exact ⟨rfl, rfl⟩
  simp only [decide_eq_true_eq, hlen] at h1
  obtain ⟨x, hx⟩ : ∃ x, t.args[i]? = some x := ⟨_, List.getElem?_eq_getElem (by omega)⟩
  obtain ⟨y, hy⟩ : ∃ y, u.args[i]? = some y := ⟨_, List.getElem?_eq_getElem (by omega)⟩
  have hxm := List.mem_of_getElem? hx
  have hym := List.mem_of_getElem? hy
  have hxh := Tm.height_le hxm
  have hu := under_le t.op i
  rw [drop_cons hx, drop_cons hy, isL] at hinv
  refine AtCut.mk ⟨Unit, fun _ => [(11, iS (k + under t.op i)), (10, iS i), (9, iS (k + if t.op = 3 then 1 else 0)), (0, .loc 0 0), (5, .loc 1 0), (6, .loc 2 0)],
    fun _ => ⟨[workB fx ad l.length c, .cells 51 [iS t.op, iS t.hd, iS t.n, .v (.slice a1 (Tm.encL t.args).length c1)], .cells 51 [iS u.op, iS u.hd, iS u.n, .v (.slice a2 (Tm.encL u.args).length c2)]], [forA l2 ad c], [tmR t a1 c1, tmR u a2 c2]⟩, fun _ => True, fun _ _ => ⟨rfl, rfl⟩, ?_, ?_⟩
  · refine AtIf.mk (fun h2 => ?_) (fun h2 => ?_)
    · have h2 : t.op = 2 ∧ (i : Int) = 1 := by simpa using h2
      have hw1 : IntKind.i64.wrap (k + (if t.op = 3 then 1 else 0) + 1) = k + under t.op i := by
        have e1 : under t.op i = 1 := by rw [under, if_pos (.inr h2)]
        have e2 : (if t.op = 3 then (1 : Int) else 0) = 0 := if_neg (by omega)
        rw [e1, e2, Int.add_zero]
        exact wrap_i64 (by omega) (by omega)
      exact ⟨(), trivial, ⟨by simp only [hw1]; rfl, rfl, rfl, rfl, rfl, rfl, trivial⟩, StLe.refl _⟩
    · have h2 : ¬ (t.op = 2 ∧ (i : Int) = 1) := by
        intro hh
        simp [hh.1, hh.2] at h2
      have hw1 : k + (if t.op = 3 then 1 else 0) = k + under t.op i := by
        rw [under]
        by_cases h3 : t.op = 3
        · rw [if_pos h3, if_pos (.inl h3)]
        · rw [if_neg h3, if_neg (by rintro (h4 | h4); exact h3 h4; exact h2 h4)]
      exact ⟨(), trivial, ⟨by rw [← hw1]; rfl, rfl, rfl, rfl, rfl, rfl, trivial⟩, StLe.refl _⟩
  intro _ _
  refine at_index ttOK 0 rfl rfl rfl rfl (by omega) (by rw [Int.toNat_natCast]; exact Tm.encL_get hx) ?_
  intro b1 d1 _ _
  refine at_index ttOK 1 rfl rfl rfl rfl (by omega) (by rw [Int.toNat_natCast]; exact Tm.encL_get hy) ?_
  intro b2 d2 _ _
  have hsp := ih x hxm y (k + under t.op i) l2 b1 b2 ad d1 d2 c (okAll_arg hot hxm) (okAll_arg hou hym) (by omega) (by omega)
  rw [hl2] at hsp
  refine hsp.frame0 _ [] rfl (by simp) (by intro q hq; simp at hq; subst hq; rfl) (by simp) rfl rfl ?_
  rintro o s' ⟨rfl, rfl⟩
  refine ⟨rfl, ?_⟩
  have hil := isF_length fx x y (k + under t.op i) l2
  cases hv : isF fx x y (k + under t.op i) l2 with
  | mk b l' =>
  rw [hv] at hinv hil
  simp only at hinv hil ⊢
  cases b with
  | false =>
    refine AtIf.mk (fun _ => ?_) (fun h3 => by cases h3)
    refine ret_keep [workB fx ad l.length c] rfl rfl rfl rfl rfl ?_
    rw [hinv]
    exact ⟨rfl, rfl⟩
  | true =>
    refine AtIf.mk (fun h3 => by cases h3) (fun _ => ?_)
    have hw3 : IntKind.i64.wrap (i + 1) = ((i + 1 : Nat) : Int) := wrap_i64 (by omega) (by omega)
    exact ⟨(i + 1, l'), ⟨by omega, hil.trans hl2, hinv⟩, by simp only; omega, ⟨by rw [← hw3]; rfl, rfl, rfl, rfl, rfl, trivial⟩, StLe.of rfl (List.Sublist.refl _) (by simp) rfl rfl⟩

/-- What trussref15.is answers. -/
def isB (fx : Int) (t u : Tm) (many : Nat) : Bool := (isF fx t u 0 (List.replicate many (-1))).1

theorem is_spec (fx : Int) (t u : Tm) (many : Nat) (a1 a2 : Option Addr) (c1 c2 : Nat) (hot : okAll t = true) (hou : okAll u = true) (hh : t.height ≤ 1000000) (hm : many ≤ 1000000) :
    Pure Tryz.prog (fnS 140) [tmS t a1 c1, tmS u a2 c2, iS fx, iS many] [tmR t a1 c1, tmR u a2 c2] (fun r out => r = bS (isB fx t u many) ∧ out = []) := by
  refine Meets.nilAcc 1 3 ?_
  refine spec_of_body (N := 32) (m := 0) (dt := fun _ => none) [] ttOK Tryz.func140 rfl Tryz.call140 Tryz.ntmps140 rfl rfl rfl mixed (by kernel_rfl) ?_
  refine AtLoop.mk ⟨Nat × Option Addr × Nat, fun x => [(10, iS x.1), (9, .loc 2 0), (4, .loc 0 0), (5, .loc 1 0), (3, iS many)],
    fun x => ⟨[.cells 51 [iS t.op, iS t.hd, iS t.n, .v (.slice a1 (Tm.encL t.args).length c1)], .cells 51 [iS u.op, iS u.hd, iS u.n, .v (.slice a2 (Tm.encL u.args).length c2)], workB fx x.2.1 x.1 x.2.2], [⟨.slice x.2.1 x.1 x.2.2, 1, 3, (List.replicate x.1 (-1)).map (D.int .i64)⟩], [tmR t a1 c1, tmR u a2 c2]⟩,
    fun x => x.1 ≤ many, fun x => many - x.1, (0, none, 0), Nat.zero_le _, ⟨rfl, rfl, rfl, rfl, rfl, trivial⟩, StLe.refl _, fun _ _ => ⟨rfl, rfl⟩, ?_⟩
  rintro ⟨i, ad, c⟩ hi
  simp only at hi ⊢
  refine AtIf.mk (fun h1 => ?_) (fun h1 => ?_)
  · have h1 : i < many := by simpa using h1
    refine at_build ttOK 8 [.int .i64 (-1)] rfl (by kernel_rfl) ⟨⟨rfl, rfl, rfl, rfl⟩, trivial⟩ rfl (by decide) (by decide) ?_
    intro a3
    refine at_append ttOK 8 0 2 rfl (by kernel_rfl) rfl rfl rfl rfl (by simp; omega) (by simp; omega) ?_
    intro a4 c4
    have hw3 : IntKind.i64.wrap (i + 1) = ((i + 1 : Nat) : Int) := wrap_i64 (by omega) (by omega)
    have hln : ((List.replicate i (-1)).map (D.int .i64)).length = i := by simp
    have hds : (List.replicate i (-1)).map (D.int .i64) ++ [D.int .i64 (-1)] = (List.replicate (i + 1) (-1)).map (D.int .i64) := by simp [List.replicate_succ']
    refine ⟨(i + 1, a4, c4), by simp only; omega, by simp only; omega, ⟨by rw [← hw3]; rfl, rfl, rfl, rfl, rfl, trivial⟩, StLe.of ?_ ?_ (by simp) rfl rfl⟩
    · simp only [hln]; rfl
    · simp only [hln, hds]; exact List.Sublist.refl _
  · have h1 : ¬ i < many := by simpa using h1
    have hi : i = many := by omega
    subst hi
    have hln : (List.replicate i (-1 : Int)).length = i := by simp
    have hsp := isSame_spec fx t u 0 (List.replicate i (-1)) a1 a2 ad c1 c2 c hot hou (by omega) (by omega)
    simp only [forA, hln] at hsp
    refine hsp.frameG [2] (rest := []) rfl rfl (by simp) (by decide) rfl ?_ (by simp) rfl rfl ?_
    · intro p q hp
      match p, hp with
      | 0, hp => simp at hp; subst hp; exact ⟨2, rfl, rfl, rfl⟩
    rintro o s' ⟨rfl, rfl⟩ _ _
    refine ⟨[workB fx ad i c], [], rfl, rfl, ?_⟩
    exact AtRet.pure [] rfl (by simp) ⟨rfl, rfl⟩
end Go.Proofs.YtpibdcjdamibdaaGreat
end

/-! Ref15B -/
section
namespace Go.Proofs.YtpibdcjdamibdaaGreat
open Go.Tr Go
set_option maxRecDepth 10000

section
variable (fx : Int) (a : Tm)

mutual
/-- What trussref15.less answers, below k stripped binders. -/
def lessF : Tm → Nat → Nat → Bool
  | .mk o h n us, k, many => if o = 3 then lessU us k many else
      if (((0 < k ∧ fx = 0) ∨ o ≠ 4) ∨ h = 3) ∨ (h = 1 ∧ n ≥ (many + k : Nat) + fx) then false else anyF us (many + k)
def lessU : List Tm → Nat → Nat → Bool
  | [], _, _ => false
  | u :: _, k, many => lessF u (k + 1) many
def anyF : List Tm → Nat → Bool
  | [], _ => false
  | u :: us, many => (isB fx a u many || (if (0 < (stripF u).2 ∧ fx = 0) ∨ (stripF u).1.op ≠ 4 then false else (decide (0 < (stripF u).2) && isB fx a (stripF u).1 (many + (stripF u).2)) || lessF u 0 many)) || anyF us many
 end

def inB (u : Tm) (many : Nat) : Bool := isB fx a u many || (if (0 < (stripF u).2 ∧ fx = 0) ∨ (stripF u).1.op ≠ 4 then false else (decide (0 < (stripF u).2) && isB fx a (stripF u).1 (many + (stripF u).2)) || lessF fx a u 0 many)

theorem anyF_cons (u : Tm) (us : List Tm) (many : Nat) : anyF fx a (u :: us) many = (inB fx a u many || anyF fx a us many) := by simp only [anyF, inB]

theorem lessF_no {t : Tm} (h : t.op ≠ 3) (k many : Nat) : lessF fx a t k many = if (((0 < k ∧ fx = 0) ∨ t.op ≠ 4) ∨ t.hd = 3) ∨ (t.hd = 1 ∧ t.n ≥ (many + k : Nat) + fx) then false else anyF fx a t.args (many + k) := by
  cases t with
  | mk o hd n us =>
    simp only [Tm.op] at h
    simp only [lessF, if_neg h, Tm.op, Tm.hd, Tm.n, Tm.args]
    rfl

theorem lessF_strip : ∀ (n : Nat) (t : Tm), t.height ≤ n → lamOK t = true → ∀ (k many : Nat), lessF fx a t k many = lessF fx a (stripF t).1 (k + (stripF t).2) many
  | 0, t, hn, _, _, _ => by have := Tm.height_eq t; omega
  | n + 1, t, hn, hl, k, many => by
    by_cases ho : t.op = 3
    · obtain ⟨v, vs, hargs⟩ : ∃ v vs, t.args = v :: vs := List.exists_cons_of_ne_nil (lamOK_ne hl ho)
      have hvm : v ∈ t.args := by rw [hargs]; simp
      have hht := Tm.height_le hvm
      have hhe := Tm.height_eq t
      have ih := lessF_strip n v (by omega) (lamOK_arg hl hvm) (k + 1) many
      rw [stripF_lam ho hargs]
      cases t with
      | mk o hd m us =>
        simp only [Tm.op] at ho
        simp only [Tm.args] at hargs
        subst ho hargs
        simp only [lessF, if_true, lessU]
        rw [ih]
        congr 1
        omega
    · rw [stripF_no ho]; rfl
end

theorem stripF_spec : ∀ (n : Nat) (t : Tm), t.height ≤ n → okAll t = true → (stripF t).1.op ≠ 3 ∧ (stripF t).1.height + (stripF t).2 ≤ t.height ∧ okAll (stripF t).1 = true
  | 0, t, hn, _ => by have := Tm.height_eq t; omega
  | n + 1, t, hn, hl => by
    by_cases ho : t.op = 3
    · obtain ⟨v, vs, hargs⟩ : ∃ v vs, t.args = v :: vs := List.exists_cons_of_ne_nil (lamOK_ne (okAll_lamOK t hl) ho)
      have hvm : v ∈ t.args := by rw [hargs]; simp
      have hht := Tm.height_le hvm
      have hhe := Tm.height_eq t
      have ih := stripF_spec n v (by omega) (okAll_arg hl hvm)
      rw [stripF_lam ho hargs]
      exact ⟨ih.1, by simp only; omega, ih.2.2⟩
    · rw [stripF_no ho]
      exact ⟨ho, Nat.le_refl _, hl⟩

theorem okL_mem : ∀ {ds : List D} {d : D}, okL ds → d ∈ ds → okD d
  | [], d, _, h => by simp at h
  | e :: ds, d, h, hm => by
    simp only [okL] at h
    rcases List.mem_cons.1 hm with r | r
    · subst r; exact h.1
    · exact okL_mem h.2 r

theorem ok_strip : ∀ (n : Nat) (t : Tm), t.height ≤ n → okD (.sl 4 (Tm.encL t.args)) → okD (.sl 4 (Tm.encL (stripF t).1.args))
  | 0, t, hn, _ => by have := Tm.height_eq t; omega
  | n + 1, t, hn, hk => by
    by_cases ho : t.op = 3
    · cases hargs : t.args with
      | nil =>
        cases t with
        | mk o hd m us =>
          simp only [Tm.op] at ho
          simp only [Tm.args] at hargs
          subst ho hargs
          simpa [stripF, stripL] using hk
      | cons v vs =>
        have hvm : v ∈ t.args := by rw [hargs]; simp
        have hht := Tm.height_le hvm
        have hhe := Tm.height_eq t
        rw [stripF_lam ho hargs]
        refine ok_strip n v (by omega) ?_
        simp only [okD] at hk
        have := okL_mem hk.2 (d := v.enc) (by rw [Tm.encL_eq]; exact List.mem_map_of_mem hvm)
        rw [Tm.enc_eq] at this
        simp only [okD, okL] at this
        exact this.2.2.2.1
    · rw [stripF_no ho]; exact hk

theorem less_in_spec (fx : Int) (a : Tm) (a1 : Option Addr) (c1 : Nat) (hoa : okAll a = true) (hha : a.height ≤ 1000000) (hf0 : 0 ≤ fx) (hf1 : fx ≤ 1000000) : ∀ (N : Nat) (u : Tm), u.height ≤ N → okAll u = true → ∀ (many : Nat), many + u.height ≤ 1000000 →
    (∀ a2 c2, Pure Tryz.prog (fnS 116) [tmS a a1 c1, tmS u a2 c2, iS fx, iS many] [tmR a a1 c1, tmR u a2 c2] (fun r out => r = bS (lessF fx a u 0 many) ∧ out = [])) ∧
    (∀ a2 c2, Pure Tryz.prog (fnS 130) [tmS a a1 c1, tmS u a2 c2, iS fx, iS many] [tmR a a1 c1, tmR u a2 c2] (fun r out => r = bS (inB fx a u many) ∧ out = [])) := by
  intro N
  induction N with
  | zero => intro u h; have := Tm.height_eq u; omega
  | succ N ih =>
  intro u hN hou many hmany
  obtain ⟨hs1, hs2, hs3⟩ := stripF_spec u.height u (Nat.le_refl _) hou
  have hlu := okAll_lamOK u hou
  have hls := lessF_strip fx a u.height u (Nat.le_refl _) hlu 0 many
  rw [Nat.zero_add, lessF_no fx a hs1] at hls
  have hless : ∀ a2 c2, Pure Tryz.prog (fnS 116) [tmS a a1 c1, tmS u a2 c2, iS fx, iS many] [tmR a a1 c1, tmR u a2 c2] (fun r out => r = bS (lessF fx a u 0 many) ∧ out = []) := by
    intro a2 c2
    refine Meets.of_ok fun hok => ?_
    have hbm : (Tm.encL (stripF u).1.args).length ≤ 1152921504606846976 := by
      have := ok_strip u.height u (Nat.le_refl _) (hok (tmR u a2 c2) (by simp))
      simp only [okD] at this
      exact this.1
    refine spec_of_body (N := 66) (m := 0) (dt := drawsOf [(7, .node [0, 1, 2, 3, 4, 5, 6, 7, 8, 9] [(10, .leaf [])], [10], [])]) [] ttOK Tryz.func116 rfl Tryz.call116 Tryz.ntmps116 rfl rfl rfl mixed (by kernel_rfl) ?_
    refine (lams_spec u a2 c2 hlu (by omega)).at (by simp) rfl rfl ?_
    rintro r out ⟨a3, c3, rfl, rfl⟩
    generalize (stripF u).1 = m at hs1 hs2 hs3 hls hbm ⊢
    generalize (stripF u).2 = k at hs2 hls ⊢
    have hmn := okAll_n hs3
    have hw1 : IntKind.i64.wrap (many + k) = ((many + k : Nat) : Int) := by rw [wrap_i64 (by omega) (by omega)]; omega
    have hw2 : IntKind.i64.wrap (((many + k : Nat) : Int) + fx) = ((many + k : Nat) : Int) + fx := wrap_i64 (by omega) (by omega)
    refine AtIf.mk (fun h1 => ?_) (fun h1 => ?_)
    · rw [hw1, hw2] at h1
      have h1 : (((0 < k ∧ fx = 0) ∨ m.op ≠ 4) ∨ m.hd = 3) ∨ (m.hd = 1 ∧ m.n ≥ (many + k : Nat) + fx) := by
        simp only [Bool.or_eq_true, Bool.and_eq_true, decide_eq_true_eq, beq_iff_eq, bne_iff_ne] at h1
        rcases h1 with ((h1 | h1) | h1) | h1
        · exact .inl (.inl (.inl ⟨by omega, h1.2⟩))
        · exact .inl (.inl (.inr h1))
        · exact .inl (.inr h1)
        · exact .inr h1
      rw [if_pos h1] at hls
      exact AtRet.pure [] rfl (by simp) ⟨by rw [hls], rfl⟩
    rw [hw1, hw2] at h1
    have h1 : ¬ ((((0 < k ∧ fx = 0) ∨ m.op ≠ 4) ∨ m.hd = 3) ∨ (m.hd = 1 ∧ m.n ≥ (many + k : Nat) + fx)) := by
      intro hh
      rw [Bool.eq_false_iff] at h1
      apply h1
      simp only [Bool.or_eq_true, Bool.and_eq_true, decide_eq_true_eq, beq_iff_eq, bne_iff_ne]
      rcases hh with ((hh | hh) | hh) | hh
      · exact .inl (.inl (.inl ⟨by omega, hh.2⟩))
      · exact .inl (.inl (.inr hh))
      · exact .inl (.inr hh)
      · exact .inr hh
    rw [if_neg h1] at hls
    refine AtLoop.mk ⟨Nat, fun i => [(11, iS i), (4, .loc 0 0), (10, .loc 2 0), (9, iS k), (2, iS fx), (3, iS many)], fun _ => ⟨[.cells 51 [iS a.op, iS a.hd, iS a.n, .v (.slice a1 (Tm.encL a.args).length c1)], .cells 51 [iS u.op, iS u.hd, iS u.n, .v (.slice a2 (Tm.encL u.args).length c2)], .cells 51 [iS m.op, iS m.hd, iS m.n, .v (.slice a3 (Tm.encL m.args).length c3)]], [], [tmR a a1 c1, tmR u a2 c2, tmR m a3 c3]⟩,
      fun i => i ≤ m.args.length ∧ lessF fx a u 0 many = anyF fx a (m.args.drop i) (many + k), fun i => m.args.length - i, 0, ⟨Nat.zero_le _, hls⟩, ⟨rfl, rfl, rfl, rfl, rfl, rfl, trivial⟩, StLe.refl _, fun _ _ => ⟨rfl, rfl⟩, ?_⟩
    rintro i ⟨hi, hinv⟩
    have hlen := Tm.encL_length m.args
    refine AtIf.mk (fun h1 => ?_) (fun h1 => ?_)
    · simp only [decide_eq_true_eq, hlen] at h1
      obtain ⟨x, hx⟩ : ∃ x, m.args[i]? = some x := ⟨_, List.getElem?_eq_getElem (by omega)⟩
      have hxm := List.mem_of_getElem? hx
      have hxh := Tm.height_le hxm
      have hmh := Tm.height_eq m
      refine at_index ttOK 2 rfl rfl rfl rfl (by omega) (by rw [Int.toNat_natCast]; exact Tm.encL_get hx) ?_
      intro a5 c5 hokx _
      have hsp := (ih x (by omega) (okAll_arg hs3 hxm) (many + k) (by omega)).2 a5 c5
      rw [← hw1] at hsp
      refine hsp.at (by simp) rfl rfl ?_
      rintro r out ⟨rfl, rfl⟩
      rw [drop_cons hx, anyF_cons] at hinv
      refine AtIf.mk (fun h2 => ?_) (fun h2 => ?_)
      · have h2 : inB fx a x (many + k) = true := h2
        exact AtRet.pure [] rfl (by simp) ⟨by rw [hinv, h2]; rfl, rfl⟩
      · have h2 : inB fx a x (many + k) = false := h2
        have hw3 : IntKind.i64.wrap (i + 1) = ((i + 1 : Nat) : Int) := wrap_i64 (by omega) (by have := hbm; omega)
        exact ⟨i + 1, ⟨by omega, by rw [hinv, h2]; rfl⟩, by simp only; omega, ⟨by rw [← hw3]; rfl, rfl, rfl, rfl, rfl, rfl, trivial⟩, StLe.to _ _ rfl (by simp) rfl rfl⟩
    · simp only [decide_eq_false_iff_not, hlen] at h1
      rw [List.drop_of_length_le (by omega)] at hinv
      exact AtRet.pure [] rfl (by simp) ⟨by rw [hinv]; rfl, rfl⟩
  refine ⟨hless, ?_⟩
  intro a2 c2
  have hin : inB fx a u many = (isB fx a u many || (if (0 < (stripF u).2 ∧ fx = 0) ∨ (stripF u).1.op ≠ 4 then false else (decide (0 < (stripF u).2) && isB fx a (stripF u).1 (many + (stripF u).2)) || lessF fx a u 0 many)) := rfl
  refine spec_of_body (N := 50) (m := 0) (dt := fun _ => none) [] ttOK Tryz.func130 rfl Tryz.call130 Tryz.ntmps130 rfl rfl rfl mixed (by kernel_rfl) ?_
  refine (is_spec fx a u many a1 a2 c1 c2 hoa hou hha (by omega)).at (by simp) rfl rfl ?_
  rintro r out ⟨rfl, rfl⟩
  refine AtIf.mk (fun h1 => ?_) (fun h1 => ?_)
  · have h1 : isB fx a u many = true := h1
    exact AtRet.pure [] rfl (by simp) ⟨by rw [hin, h1]; rfl, rfl⟩
  have h1 : isB fx a u many = false := h1
  rw [h1, Bool.false_or] at hin
  refine (lams_spec u a2 c2 hlu (by omega)).at (by simp) rfl rfl ?_
  rintro r out ⟨a3, c3, rfl, rfl⟩
  generalize (stripF u).1 = m at hs1 hs2 hs3 hin ⊢
  generalize (stripF u).2 = k at hs2 hin ⊢
  have hw1 : IntKind.i64.wrap (many + k) = ((many + k : Nat) : Int) := by rw [wrap_i64 (by omega) (by omega)]; omega
  refine AtIf.mk (fun h2 => ?_) (fun h2 => ?_)
  · have h2 : (0 < k ∧ fx = 0) ∨ m.op ≠ 4 := by simpa using h2
    rw [if_pos h2] at hin
    exact AtRet.pure [] rfl (by simp) ⟨by rw [hin], rfl⟩
  have h2 : ¬ ((0 < k ∧ fx = 0) ∨ m.op ≠ 4) := by
    intro hh
    rw [Bool.eq_false_iff] at h2
    apply h2
    simpa using hh
  rw [if_neg h2] at hin
  refine AtGuard.mk (fun h3 => ?_) (fun h3 => ?_)
  · have h3 : 0 < k := by simpa using h3
    rw [decide_eq_true h3, Bool.true_and] at hin
    have hsp := is_spec fx a m (many + k) a1 a3 c1 c3 hoa hs3 hha (by omega)
    rw [← hw1] at hsp
    refine hsp.at (by simp) rfl rfl ?_
    rintro r out ⟨rfl, rfl⟩
    refine AtGuard.mk (fun h4 => ?_) (fun h4 => ?_)
    · have h4 : isB fx a m (many + k) = false := by simpa [h3] using h4
      rw [h4, Bool.false_or] at hin
      refine (hless a2 c2).at (by simp) rfl rfl ?_
      rintro r out ⟨rfl, rfl⟩
      exact AtRet.pure [] rfl (by simp) ⟨by rw [hin], rfl⟩
    · have h4 : isB fx a m (many + k) = true := by simpa [h3] using h4
      rw [h4, Bool.true_or] at hin
      exact AtRet.pure [] rfl (by simp) ⟨by rw [hin], rfl⟩
  · have h3 : ¬ 0 < k := by simpa using h3
    rw [decide_eq_false h3, Bool.false_and, Bool.false_or] at hin
    refine AtGuard.mk (fun h4 => ?_) (fun h4 => ?_)
    rotate_left
    · simp at h4
    refine (hless a2 c2).at (by simp) rfl rfl ?_
    rintro r out ⟨rfl, rfl⟩
    exact AtRet.pure [] rfl (by simp) ⟨by rw [hin], rfl⟩

/-- What trussref15.Compare answers. -/
def cmpF (fx : Int) (a b : Tm) : Int := if sameF a b = true then 1 else if lessF fx a b 0 0 = true then 2 else 0

theorem refCompare_spec (fx : Int) (a b : Tm) (a1 a2 : Option Addr) (c1 c2 : Nat) (hoa : okAll a = true) (hha : a.height ≤ 1000000) (hob : okAll b = true) (hhb : b.height ≤ 1000000) (hf0 : 0 ≤ fx) (hf1 : fx ≤ 1000000) :
    Pure Tryz.prog (fnS 95) [iS fx, tmS a a1 c1, tmS b a2 c2] [tmR a a1 c1, tmR b a2 c2] (fun r out => r = iS (cmpF fx a b) ∧ out = []) := by
  refine spec_of_body (N := 16) (m := 0) (dt := fun _ => none) [] ttOK Tryz.func95 rfl Tryz.call95 Tryz.ntmps95 rfl rfl rfl mixed (by kernel_rfl) ?_
  refine (refSame_spec a b a1 a2 c1 c2).at (by simp) rfl rfl ?_
  rintro r out ⟨rfl, rfl⟩
  refine AtIf.mk (fun h => ?_) (fun h => ?_)
  · have h : sameF a b = true := h
    exact AtRet.pure [] rfl (by simp) ⟨by rw [cmpF, if_pos h], rfl⟩
  have hsm : sameF a b = false := h
  refine ((less_in_spec fx a a1 c1 hoa hha hf0 hf1 b.height b (Nat.le_refl _) hob 0 (by omega)).1 a2 c2).at (by simp) rfl rfl ?_
  rintro r out ⟨rfl, rfl⟩
  refine AtIf.mk (fun h => ?_) (fun h => ?_)
  · have h : lessF fx a b 0 0 = true := h
    exact AtRet.pure [] rfl (by simp) ⟨by rw [cmpF, if_neg (by simp [hsm]), if_pos h], rfl⟩
  · have h : lessF fx a b 0 0 = false := h
    exact AtRet.pure [] rfl (by simp) ⟨by rw [cmpF, if_neg (by simp [hsm]), if_neg (by simp [h])], rfl⟩
end Go.Proofs.YtpibdcjdamibdaaGreat
end

/-! Orders -/
section
namespace Go.Proofs.YtpibdcjdamibdaaGreat
open Go.Tr Go
set_option maxRecDepth 10000

inductive Od where
  | mk (op n : Int) (parts : List Od)

def Od.op : Od → Int | .mk o _ _ => o
def Od.n : Od → Int | .mk _ n _ => n
def Od.parts : Od → List Od | .mk _ _ p => p

mutual
def Od.enc : Od → D
  | .mk o n p => .agg [.int .i64 o, .int .i64 n, .sl 3 (Od.encL p)]
def Od.encL : List Od → List D
  | [] => []
  | t :: ts => t.enc :: Od.encL ts
 end

theorem Od.encL_eq : ∀ (l : List Od), Od.encL l = l.map Od.enc
  | [] => rfl
  | t :: ts => by simp only [Od.encL, List.map_cons, Od.encL_eq ts]
theorem Od.encL_length (l : List Od) : (Od.encL l).length = l.length := by simp [Od.encL_eq]
theorem Od.encL_get {l : List Od} {i : Nat} {t : Od} (h : l[i]? = some t) : (Od.encL l)[i]? = some (.agg [.int .i64 t.op, .int .i64 t.n, .sl 3 (Od.encL t.parts)]) := by
  rw [Od.encL_eq, List.getElem?_map, h]; cases t; rfl

theorem Od.ind {motive : Od → Prop} (h : ∀ t, (∀ x ∈ t.parts, motive x) → motive t) (t : Od) : motive t := by
  induction t using Od.rec (motive_2 := fun ts => ∀ x ∈ ts, motive x) with
  | nil => rename_i x hx; cases hx
  | cons t ts ih1 ih2 => rename_i x hx; rcases List.mem_cons.1 hx with e | e; (subst e; exact ih1); exact ih2 x e
  | mk op n parts ih => exact h _ ih

abbrev odS (t : Od) (a : Option Addr) (c : Nat) : SV := .agg [.v (.int .i64 t.op), .v (.int .i64 t.n), .v (.slice a (Od.encL t.parts).length c)]
abbrev odR (t : Od) (a : Option Addr) (c : Nat) : Value × D := (.slice a (Od.encL t.parts).length c, .sl 3 (Od.encL t.parts))

mutual
def simF : Od → Od → Bool
  | .mk o _ us, b => o == b.op && (us.length == b.parts.length && simL us b.parts)
def simL : List Od → List Od → Bool
  | u :: us, v :: vs => simF u v && simL us vs
  | _, _ => true
 end
theorem simF_eq (a b : Od) : simF a b = (a.op == b.op && (a.parts.length == b.parts.length && simL a.parts b.parts)) := by cases a; rfl

/-- slices.EqualFunc at orders, asking whether they are similar. -/
theorem equalOrders_spec (us vs : List Od) (a1 a2 : Option Addr) (c1 c2 : Nat)
    (hg : ∀ x ∈ us, ∀ y b1 b2 d1 d2, Pure Tryz.prog (fnS 21) [odS x b1 d1, odS y b2 d2] [odR x b1 d1, odR y b2 d2] (fun r out => r = bS (simF x y) ∧ out = [])) :
    Pure Tryz.prog (fnS 41) [.v (.slice a1 (Od.encL us).length c1), .v (.slice a2 (Od.encL vs).length c2), fS 21] [(.slice a1 (Od.encL us).length c1, .sl 3 (Od.encL us)), (.slice a2 (Od.encL vs).length c2, .sl 3 (Od.encL vs))]
      (fun r out => r = bS (us.length == vs.length && simL us vs) ∧ out = []) := by
  refine Meets.of_ok fun hok => ?_
  have hB : (Od.encL us).length ≤ 1152921504606846976 := (hok _ (List.mem_cons_self ..)).1
  have hla := Od.encL_length us
  have hlb := Od.encL_length vs
  refine spec_of_body (N := 32) (m := 0) (dt := fun _ => none) [] ttOK Tryz.func41 rfl Tryz.call41 Tryz.ntmps41 rfl rfl rfl mixed (by kernel_rfl) ?_
  refine AtIf.mk (fun h => ?_) (fun h => ?_)
  · refine AtRet.pure [] rfl (by simp) ⟨?_, rfl⟩
    have hne : (us.length == vs.length) = false := by
      rw [hla, hlb] at h
      simp only [bne_iff_ne, ne_eq, Int.natCast_inj] at h
      simpa using h
    rw [hne]; rfl
  have hlen : us.length = vs.length := by
    rw [hla, hlb] at h
    simpa only [bne_eq_false_iff_eq, Int.natCast_inj] using h
  refine AtLoop.mk ⟨Nat, fun i => [(17, iS i), (16, iS (Od.encL us).length), (15, .v (.slice a1 (Od.encL us).length c1)), (1, .v (.slice a2 (Od.encL vs).length c2)), (2, fS 21)], fun _ => ⟨[], [], [(.slice a1 (Od.encL us).length c1, .sl 3 (Od.encL us)), (.slice a2 (Od.encL vs).length c2, .sl 3 (Od.encL vs))]⟩,
    fun i => i ≤ us.length ∧ simL us vs = simL (us.drop i) (vs.drop i), fun i => us.length - i, 0, ⟨Nat.zero_le _, rfl⟩, ⟨rfl, rfl, rfl, rfl, rfl, trivial⟩, StLe.refl _, fun _ _ => ⟨rfl, rfl⟩, ?_⟩
  rintro i ⟨hi, hinv⟩
  refine AtIf.mk (fun h1 => ?_) (fun h1 => ?_)
  · simp only [decide_eq_true_eq, hla] at h1
    obtain ⟨x, hx⟩ : ∃ x, us[i]? = some x := ⟨_, List.getElem?_eq_getElem (by omega)⟩
    obtain ⟨y, hy⟩ : ∃ y, vs[i]? = some y := ⟨_, List.getElem?_eq_getElem (by omega)⟩
    refine at_index ttOK 0 rfl rfl rfl rfl (by omega) (by rw [Int.toNat_natCast]; exact Od.encL_get hx) ?_
    intro b1 d1 _ _
    refine at_index ttOK 1 rfl rfl rfl rfl (by omega) (by rw [Int.toNat_natCast]; exact Od.encL_get hy) ?_
    intro b2 d2 _ _
    refine (hg x (List.mem_of_getElem? hx) y b1 b2 d1 d2).at (by simp) rfl rfl ?_
    rintro r out ⟨rfl, rfl⟩
    rw [drop_cons hx, drop_cons hy, simL] at hinv
    refine AtIf.mk (fun h2 => ?_) (fun h2 => ?_)
    · refine AtRet.pure [] rfl (by simp) ⟨?_, rfl⟩
      have hp : simF x y = false := by simpa using h2
      rw [hinv, hp]
      simp
    · have hp : simF x y = true := by simpa using h2
      have hw3 : IntKind.i64.wrap (i + 1) = ((i + 1 : Nat) : Int) := wrap_i64 (by omega) (by omega)
      refine ⟨i + 1, ⟨by omega, by rw [hinv, hp]; rfl⟩, by simp only; omega, ⟨by rw [← hw3]; rfl, rfl, rfl, rfl, rfl, trivial⟩, StLe.to _ _ rfl (by simp) rfl rfl⟩
  · refine AtRet.pure [] rfl (by simp) ⟨?_, rfl⟩
    simp only [decide_eq_false_iff_not, hla] at h1
    rw [hinv, List.drop_of_length_le (by omega), hlen]
    simp [simL]

theorem similar_spec (a : Od) : ∀ (b : Od) (a1 a2 : Option Addr) (c1 c2 : Nat), Pure Tryz.prog (fnS 21) [odS a a1 c1, odS b a2 c2] [odR a a1 c1, odR b a2 c2] (fun r out => r = bS (simF a b) ∧ out = []) := by
  induction a using Od.ind with
  | h a ih =>
  intro b a1 a2 c1 c2
  refine spec_of_body (N := 17) (m := 0) (dt := fun _ => none) [] ttOK Tryz.func21 rfl Tryz.call21 Tryz.ntmps21 rfl rfl rfl mixed (by kernel_rfl) ?_
  have hE := equalOrders_spec a.parts b.parts a1 a2 c1 c2 (fun x hx y b1 b2 d1 d2 => ih x hx y b1 b2 d1 d2)
  have hF := simF_eq a b
  refine AtGuard.mk (fun h1 => ?_) (fun h1 => ?_)
  · refine hE.at (by simp) rfl rfl ?_
    rintro r out ⟨rfl, rfl⟩
    refine AtRet.pure [] rfl (by simp) ⟨?_, rfl⟩
    have h1 : (a.op == b.op) = true := h1
    rw [hF, h1]
    rfl
  · refine AtRet.pure [] rfl (by simp) ⟨?_, rfl⟩
    have h1 : (a.op == b.op) = false := h1
    rw [hF, h1]
    rfl

theorem refSimilar_spec (t : Od) : ∀ (u : Od) (a1 a2 : Option Addr) (c1 c2 : Nat), Pure Tryz.prog (fnS 61) [odS t a1 c1, odS u a2 c2] [odR t a1 c1, odR u a2 c2] (fun r out => r = bS (simF t u) ∧ out = []) := by
  induction t using Od.ind with
  | h t ih =>
  intro u a1 a2 c1 c2
  refine Meets.of_ok fun hok => ?_
  have hB : (Od.encL t.parts).length ≤ 1152921504606846976 := (hok _ (List.mem_cons_self ..)).1
  have hlen := Od.encL_length t.parts
  have hlen2 := Od.encL_length u.parts
  have hF := simF_eq t u
  refine spec_of_body (N := 39) (m := 0) (dt := drawsOf [(6, .node [0, 1, 2, 3, 4, 5, 6, 7, 8, 9] [(10, .leaf [11])], [10], [])]) [] ttOK Tryz.func61 rfl Tryz.call61 Tryz.ntmps61 rfl rfl rfl mixed (by kernel_rfl) ?_
  refine AtIf.mk (fun h1 => ?_) (fun h1 => ?_)
  · refine AtRet.pure [] rfl (by simp) ⟨?_, rfl⟩
    simp only [hlen, hlen2] at h1
    have : simF t u = false := by
      rw [hF]
      simp at h1 ⊢
      intro e1 e2
      omega
    rw [this]
  have hl : t.parts.length = u.parts.length := by
    simp only [hlen, hlen2] at h1
    simp at h1
    omega
  have hF : simF t u = simL t.parts u.parts := by
    simp only [hlen, hlen2] at h1
    simp at h1
    rw [hF]
    simp [h1.1, hl]
  refine AtLoop.mk ⟨Nat, fun i => [(5, iS i), (2, .loc 0 0), (3, .loc 1 0)], fun _ => ⟨[.cells 27 [iS t.op, iS t.n, .v (.slice a1 (Od.encL t.parts).length c1)], .cells 27 [iS u.op, iS u.n, .v (.slice a2 (Od.encL u.parts).length c2)]], [], [odR t a1 c1, odR u a2 c2]⟩,
    fun i => i ≤ t.parts.length ∧ simF t u = simL (t.parts.drop i) (u.parts.drop i), fun i => t.parts.length - i, 0, ⟨Nat.zero_le _, hF⟩, ⟨rfl, rfl, rfl, trivial⟩, StLe.refl _, fun _ _ => ⟨rfl, rfl⟩, ?_⟩
  rintro i ⟨hi, hinv⟩
  refine AtIf.mk (fun h1 => ?_) (fun h1 => ?_)
  · simp only [decide_eq_true_eq, hlen] at h1
    obtain ⟨x, hx⟩ : ∃ x, t.parts[i]? = some x := ⟨_, List.getElem?_eq_getElem (by omega)⟩
    obtain ⟨y, hy⟩ : ∃ y, u.parts[i]? = some y := ⟨_, List.getElem?_eq_getElem (by omega)⟩
    refine at_index ttOK 0 rfl rfl rfl rfl (by omega) (by rw [Int.toNat_natCast]; exact Od.encL_get hx) ?_
    intro b1 d1 _ _
    refine at_index ttOK 1 rfl rfl rfl rfl (by omega) (by rw [Int.toNat_natCast]; exact Od.encL_get hy) ?_
    intro b2 d2 _ _
    refine (ih x (List.mem_of_getElem? hx) y b1 b2 d1 d2).at (by simp) rfl rfl ?_
    rintro r out ⟨rfl, rfl⟩
    rw [drop_cons hx, drop_cons hy, simL] at hinv
    refine AtIf.mk (fun h2 => ?_) (fun h2 => ?_)
    · have h2 : simF x y = false := by simpa using h2
      exact AtRet.pure [] rfl (by simp) ⟨by rw [hinv, h2]; rfl, rfl⟩
    · have h2 : simF x y = true := by simpa using h2
      have hw3 : IntKind.i64.wrap (i + 1) = ((i + 1 : Nat) : Int) := wrap_i64 (by omega) (by omega)
      exact ⟨i + 1, ⟨by omega, by rw [hinv, h2]; rfl⟩, by simp only; omega, ⟨by rw [← hw3]; rfl, rfl, rfl, trivial⟩, StLe.to _ _ rfl (by simp) rfl rfl⟩
  · simp only [decide_eq_false_iff_not, hlen] at h1
    rw [List.drop_of_length_le (by omega)] at hinv
    exact AtRet.pure [] rfl (by simp) ⟨by rw [hinv]; rfl, rfl⟩

/-- What trusslaw15.free answers. -/
def lawFree (t : Tm) (n : Int) : Bool := isProper t && match (headsF 1 t 0 []).getLast? with
  | none => true
  | some k => decide (k < n)
end Go.Proofs.YtpibdcjdamibdaaGreat
end

/-! LawA -/
section
namespace Go.Proofs.YtpibdcjdamibdaaGreat
open Go.Tr Go
set_option maxRecDepth 10000

theorem lookI_putI (n v : Int) : ∀ (l : List (Int × Int)) (m : Int), lookI (putI n v l) m = if m = n then some v else lookI l m
  | [], m => by simp only [putI, lookI]
  | (k, u) :: r, m => by
    simp only [putI]
    by_cases h : n = k
    · subst h
      rw [if_pos rfl]
      simp only [lookI]
      split <;> rfl
    · rw [if_neg h]
      simp only [lookI, lookI_putI n v r m]
      by_cases h2 : m = k
      · rw [if_pos h2, if_neg (by omega)]; simp [h2]
      · rw [if_neg h2]; simp [h2]

/-- What is chosen, as the program and the reference keep it. -/
structure Rel (st : Nat) (ch : List (Int × Int)) (l : List Int) : Prop where
  len : l.length = st
  none : ∀ y : Nat, y < st → lookI ch y = none → l.getD y 0 = -1
  some : ∀ (y : Nat) (x : Int), y < st → lookI ch y = some x → l.getD y 0 = x ∧ 0 ≤ x

theorem getD_set {l : List Int} {i j : Nat} {x : Int} (h : i < l.length) : (l.set i x).getD j 0 = if j = i then x else l.getD j 0 := by
  simp only [List.getD_eq_getElem?_getD, List.getElem?_set]
  by_cases hj : i = j
  · subst hj; simp [h]
  · rw [if_neg hj, if_neg (by omega)]

theorem Rel.put {st : Nat} {ch : List (Int × Int)} {l : List Int} (h : Rel st ch l) (y : Nat) (x : Int) (hy : y < st) (hx : 0 ≤ x) : Rel st (putI y x ch) (l.set y x) := by
  have hl := h.len
  refine ⟨by rw [List.length_set, hl], ?_, ?_⟩
  · intro z hz hn
    rw [lookI_putI] at hn
    split at hn
    · cases hn
    · rename_i hne
      rw [getD_set (by omega), if_neg (by omega)]
      exact h.none z hz hn
  · intro z w hz hn
    rw [lookI_putI] at hn
    split at hn
    · rename_i he
      cases hn
      rw [getD_set (by omega), if_pos (by omega)]
      exact ⟨rfl, hx⟩
    · rename_i hne
      rw [getD_set (by omega), if_neg (by omega)]
      exact h.some z w hz hn

theorem head_var {st : Nat} {ch : List (Int × Int)} {l : List Int} (h : Rel st ch l) (fx n m k : Int) (hn0 : 0 ≤ n) (hn1 : n ≤ 9999) (hm0 : 0 ≤ m) (hm1 : m ≤ 9999) (hk0 : 0 ≤ k) (hk1 : k ≤ 1000000) (hst : st ≤ 1000000) :
    (headF st fx 4 1 n m k ch = none ∧ (varF fx n m k l).1 = false) ∨ ∃ ch' l', headF st fx 4 1 n m k ch = some ch' ∧ varF fx n m k l = (true, l') ∧ Rel st ch' l' := by
  have hl := h.len
  have w1 : IntKind.i64.wrap (n - k) = n - k := wrap_i64 (by omega) (by omega)
  have w2 : IntKind.i64.wrap (m - k) = m - k := wrap_i64 (by omega) (by omega)
  have w3 : IntKind.i64.wrap (m - k - st) = m - k - st := wrap_i64 (by omega) (by omega)
  by_cases hkm : k ≤ m
  · have eH : headF st fx 4 1 n m k ch = if n - k < 0 then none
      else if st ≤ m - k ∧ n - k ≠ m - k - st then none
      else if m - k < st then
        if fx ≤ n - k then none
        else match lookI ch (m - k) with
          | some old => if old ≠ n - k then none else some (putI (m - k) (n - k) ch)
          | none => some (putI (m - k) (n - k) ch)
      else some ch := by
      simp only [headF, w1, w2, w3]
      rw [if_pos ⟨trivial, trivial, hkm⟩]
      rfl
    have eV : varF fx n m k l = if m - k ≥ l.length then (decide (n ≥ k) && (n - k == m - k - l.length), l) else
      if (n - k < 0 ∨ n - k ≥ fx) ∨ (l.getD (m - k).toNat 0 ≥ 0 ∧ l.getD (m - k).toNat 0 ≠ n - k) then (false, l) else (true, l.set (m - k).toNat (n - k)) := by
      rw [varF, if_neg (by omega)]
    by_cases hx : n - k < 0
    · rw [if_pos hx] at eH
      refine .inl ⟨eH, ?_⟩
      by_cases hy : m - k ≥ l.length
      · rw [eV, if_pos hy]
        simp; omega
      · rw [eV, if_neg hy, if_pos (.inl (.inl hx))]
    · rw [if_neg hx] at eH
      by_cases hy : m - k ≥ l.length
      · rw [if_pos hy] at eV
        by_cases he : n - k = m - k - st
        · rw [if_neg (by omega), if_neg (by omega)] at eH
          refine .inr ⟨ch, l, eH, ?_, h⟩
          have e1 : decide (n ≥ k) = true := decide_eq_true (by omega)
          have e2 : (n - k == m - k - (l.length : Int)) = true := by rw [beq_iff_eq]; omega
          rw [eV, e1, e2]; rfl
        · rw [if_pos ⟨by omega, he⟩] at eH
          refine .inl ⟨eH, ?_⟩
          have e2 : (n - k == m - k - (l.length : Int)) = false := by rw [beq_eq_false_iff_ne]; omega
          rw [eV, e2, Bool.and_false]
      · rw [if_neg hy] at eV
        rw [if_neg (by omega), if_pos (by omega)] at eH
        have hyn : m - k = ((m - k).toNat : Int) := by omega
        have hlt : (m - k).toNat < st := by omega
        by_cases hfx : fx ≤ n - k
        · rw [if_pos hfx] at eH
          rw [if_pos (.inl (.inr hfx))] at eV
          exact .inl ⟨eH, by rw [eV]⟩
        · rw [if_neg hfx] at eH
          rw [hyn] at eH eV
          simp only [Int.toNat_natCast] at eV
          cases hlk : lookI ch ((m - k).toNat : Int) with
          | none =>
            have hz := h.none _ hlt hlk
            rw [hlk] at eH
            rw [hz, if_neg (by omega)] at eV
            exact .inr ⟨_, _, eH, eV, h.put _ _ hlt (by omega)⟩
          | some old =>
            obtain ⟨hz, hz0⟩ := h.some _ _ hlt hlk
            rw [hlk] at eH
            simp only at eH
            rw [hz] at eV
            by_cases ho : old = n - k
            · rw [if_neg (by simpa using ho)] at eH
              rw [if_neg (by omega)] at eV
              exact .inr ⟨_, _, eH, eV, h.put _ _ hlt (by omega)⟩
            · rw [if_pos ho] at eH
              rw [if_pos (.inr ⟨hz0, ho⟩)] at eV
              exact .inl ⟨eH, by rw [eV]⟩
  · have eH : headF st fx 4 1 n m k ch = if n ≠ m then none else some ch := by rw [headF, if_neg (by rintro ⟨_, _, h3⟩; exact hkm h3)]
    have eV : varF fx n m k l = (n == m, l) := by rw [varF, if_pos (by omega)]
    by_cases he : n = m
    · rw [if_neg (by simpa using he)] at eH
      exact .inr ⟨ch, l, eH, by rw [eV]; simp [he], h⟩
    · rw [if_pos he] at eH
      exact .inl ⟨eH, by rw [eV]; simpa using he⟩

theorem head_no {st fx : Int} {o h n m k : Int} {ch : List (Int × Int)} (hno : ¬ (o = 4 ∧ h = 1)) : headF st fx o h n m k ch = if n ≠ m then none else some ch := by
  rw [headF, if_neg (by rintro ⟨h1, h2, _⟩; exact hno ⟨h1, h2⟩)]

mutual
theorem match_is (fx : Int) (st : Nat) (hst : st ≤ 1000000) : ∀ (t u : Tm) (k : Int) (ch : List (Int × Int)) (l : List Int), okAll t = true → okAll u = true → 0 ≤ k → k + t.height ≤ 1000000 → Rel st ch l →
    ((matchF st fx t u k ch).1 = false ∧ (isF fx t u k l).1 = false) ∨ ∃ ch' l', matchF st fx t u k ch = (true, ch') ∧ isF fx t u k l = (true, l') ∧ Rel st ch' l'
  | .mk o h n us, u, k, ch, l, hot, hou, hk0, hk1, hR => by
    have htn := okAll_n hot
    have hun := okAll_n hou
    simp only [Tm.n] at htn
    have hus : okAllL us = true := by simp only [okAll, Bool.and_eq_true] at hot; exact hot.2
    have huu : okAllL u.args = true := by cases u; simp only [okAll, Bool.and_eq_true] at hou; exact hou.2
    have hth : Tm.heightL us + 1 = (Tm.mk o h n us).height := by simp only [Tm.height]
    simp only [matchF, isF]
    by_cases h1 : o ≠ u.op ∨ h ≠ u.hd ∨ us.length ≠ u.args.length
    · rw [if_pos h1, if_pos (by rcases h1 with h1 | h1 | h1; exact .inl (.inl h1); exact .inl (.inr h1); exact .inr h1)]
      exact .inl ⟨rfl, rfl⟩
    · rw [if_neg h1, if_neg (by rintro ((h2 | h2) | h2); exact h1 (.inl h2); exact h1 (.inr (.inl h2)); exact h1 (.inr (.inr h2)))]
      by_cases h2 : o = 4 ∧ h = 1
      · rw [if_pos h2]
        obtain ⟨rfl, rfl⟩ := h2
        rcases head_var hR fx n u.n k htn.1 htn.2 hun.1 hun.2 hk0 (by omega) hst with ⟨e1, e2⟩ | ⟨ch', l', e1, e2, hR'⟩
        · rw [e1]
          cases hv : varF fx n u.n k l with
          | mk b l' =>
            rw [hv] at e2
            simp only at e2
            subst e2
            exact .inl ⟨rfl, rfl⟩
        · rw [e1, e2]
          exact match_isL fx st hst 4 us u.args 0 k ch' l' hus huu hk0 (by omega) hR'
      · rw [if_neg h2, head_no h2]
        by_cases h3 : n = u.n
        · rw [if_neg (by simpa using h3)]
          have : (n == u.n) = true := by simpa using h3
          rw [this]
          exact match_isL fx st hst o us u.args 0 k ch l hus huu hk0 (by omega) hR
        · rw [if_pos h3]
          have : (n == u.n) = false := by simpa using h3
          rw [this]
          exact .inl ⟨rfl, rfl⟩
theorem match_isL (fx : Int) (st : Nat) (hst : st ≤ 1000000) : ∀ (o : Int) (us vs : List Tm) (i : Nat) (k : Int) (ch : List (Int × Int)) (l : List Int), okAllL us = true → okAllL vs = true → 0 ≤ k → k + 1 + Tm.heightL us ≤ 1000000 → Rel st ch l →
    ((matchL st fx o us vs i k ch).1 = false ∧ (isL fx o us vs i k l).1 = false) ∨ ∃ ch' l', matchL st fx o us vs i k ch = (true, ch') ∧ isL fx o us vs i k l = (true, l') ∧ Rel st ch' l'
  | o, u :: us, v :: vs, i, k, ch, l, hus, hvs, hk0, hk1, hR => by
    simp only [okAllL, Bool.and_eq_true] at hus hvs
    simp only [Tm.heightL] at hk1
    have hu := under_le o i
    have w1 : IntKind.i64.wrap (k + under o i) = k + under o i := wrap_i64 (by omega) (by omega)
    simp only [matchL, isL, w1]
    rcases match_is fx st hst u v (k + under o i) ch l hus.1 hvs.1 (by omega) (by omega) hR with ⟨e1, e2⟩ | ⟨ch', l', e1, e2, hR'⟩
    · cases hm : matchF st fx u v (k + under o i) ch with
      | mk b1 ch1 =>
        cases hi : isF fx u v (k + under o i) l with
        | mk b2 l1 =>
          rw [hm] at e1; rw [hi] at e2
          simp only at e1 e2
          subst e1 e2
          exact .inl ⟨rfl, rfl⟩
    · rw [e1, e2]
      exact match_isL fx st hst o us vs (i + 1) k ch' l' hus.2 hvs.2 hk0 (by omega) hR'
  | _, [], vs, _, _, ch, l, _, _, _, _, hR => by simp only [matchL, isL]; exact .inr ⟨ch, l, rfl, rfl, hR⟩
  | _, _ :: _, [], _, _, ch, l, _, _, _, _, hR => by simp only [matchL, isL]; exact .inr ⟨ch, l, rfl, rfl, hR⟩
 end

theorem Rel.start (st : Nat) : Rel st [] (List.replicate st (-1)) := by
  refine ⟨by simp, ?_, ?_⟩
  · intro y hy _
    simp [List.getD_eq_getElem?_getD, hy]
  · intro y x _ h; cases h

/-- A visit asks what the reference asks. -/
theorem vis_is (fx : Int) (a x : Tm) (st : Nat) (ha : okAll a = true) (hx : okAll x = true) (hh : a.height ≤ 1000000) (hst : st ≤ 1000000) : (matchF st fx a x 0 []).1 = isB fx a x st := by
  rcases match_is fx st hst a x 0 [] _ ha hx (by omega) (by omega) (Rel.start st) with ⟨e1, e2⟩ | ⟨ch', l', e1, e2, _⟩
  · rw [e1, isB, e2]
  · rw [e1, isB, e2]

section
variable (fx : Int) (a : Tm) (ha : okAll a = true) (hh : a.height ≤ 1000000) (hf0 : 0 ≤ fx) (hf1 : fx ≤ 1000000)
include ha hh

theorem vMatch_is (x : Tm) (st : Nat) (hx : okAll x = true) (hst : st ≤ 1000000) : vMatch fx a false x st = (!isB fx a x st, isB fx a x st) := by
  simp only [vMatch, vis_is fx a x st ha hx hh hst, Bool.false_or]

include hf0 hf1

theorem walk_less : ∀ (N : Nat),
    (∀ (us : List Tm) (many : Nat), Tm.heightL us ≤ N → okAllL us = true → many + Tm.heightL us ≤ 1000000 → argsG (vMatch fx a) fx us many false = (!anyF fx a us many, anyF fx a us many)) ∧
    (∀ (u : Tm) (k many : Nat), u.height ≤ N → okAll u = true → u.op ≠ 3 → many + k + u.height ≤ 1000000 → ¬ (0 < k ∧ fx = 0) → walkG (vMatch fx a) fx u ((many + k : Nat) : Int) false = (!lessF fx a u k many, lessF fx a u k many)) := by
  intro N
  induction N with
  | zero =>
    refine ⟨?_, ?_⟩
    · intro us many hN hus hm
      cases us with
      | nil => simp [argsG, anyF]
      | cons u us => have := Tm.height_pos u; simp only [Tm.heightL] at hN; omega
    · intro u k many hN; have := Tm.height_pos u; omega
  | succ N ih =>
    obtain ⟨ihA, ihW⟩ := ih
    -- a TApp
    have hW : ∀ (u : Tm) (k many : Nat), u.height ≤ N + 1 → okAll u = true → u.op ≠ 3 → many + k + u.height ≤ 1000000 → ¬ (0 < k ∧ fx = 0) → walkG (vMatch fx a) fx u ((many + k : Nat) : Int) false = (!lessF fx a u k many, lessF fx a u k many) := by
      intro u k many hN hou h3 hm hkf
      have hun := okAll_n hou
      have hhe := Tm.height_eq u
      have w1 : IntKind.i64.wrap (((many + k : Nat) : Int) + fx) = ((many + k : Nat) : Int) + fx := wrap_i64 (by omega) (by omega)
      rw [walkG, lessF_no fx a h3]
      by_cases hs : shutF fx u.op u.hd u.n ((many + k : Nat) : Int) = true
      · rw [if_pos hs]
        simp only [shutF, w1, Bool.or_eq_true, bne_iff_ne, beq_iff_eq, Bool.and_eq_true, decide_eq_true_eq] at hs
        rw [if_pos]
        · rfl
        · rcases hs with hs | hs | hs
          · exact .inl (.inl (.inr hs))
          · exact .inl (.inr hs)
          · exact .inr hs
      · rw [if_neg hs]
        simp only [shutF, w1, Bool.or_eq_true, bne_iff_ne, beq_iff_eq, Bool.and_eq_true, decide_eq_true_eq] at hs
        rw [if_neg]
        · have hus : okAllL u.args = true := by cases u; simp only [okAll, Bool.and_eq_true] at hou; exact hou.2
          exact ihA u.args (many + k) (by omega) hus (by omega)
        · rintro (((h | h) | h) | h)
          · exact hkf h
          · exact hs (.inl h)
          · exact hs (.inr (.inl h))
          · exact hs (.inr (.inr h))
    refine ⟨?_, hW⟩
    intro us
    induction us with
    | nil => intro many _ _ _; simp [argsG, anyF]
    | cons u us ihu =>
      intro many hN hus hm
      simp only [Tm.heightL] at hN
      simp only [okAllL, Bool.and_eq_true] at hus
      obtain ⟨hou, hus⟩ := hus
      simp only [Tm.heightL] at hm
      have hrest := ihu many (by omega) hus (by omega)
      obtain ⟨hs1, hs2, hs3⟩ := stripF_spec u.height u (Nat.le_refl _) hou
      have hin := (innerG_strip (vMatch fx a) fx u.height u (Nat.le_refl _) (okAll_lamOK u hou) 0 many false).1
      have hls := lessF_strip fx a u.height u (Nat.le_refl _) (okAll_lamOK u hou) 0 many
      rw [Nat.zero_add] at hin hls
      rw [innerG_no _ _ hs1] at hin
      -- what is visited of u
      have hq : inB fx a u many = (isB fx a u many || (innerG (vMatch fx a) fx u 0 many false).2) ∧ (innerG (vMatch fx a) fx u 0 many false).1 = !(innerG (vMatch fx a) fx u 0 many false).2 := by
        rw [hin, inB, hls]
        generalize (stripF u).1 = m at hs1 hs2 hs3 ⊢
        generalize (stripF u).2 = k at hs2 ⊢
        have w1 : IntKind.i64.wrap ((many : Int) + k) = ((many + k : Nat) : Int) := by rw [wrap_i64 (by omega) (by omega)]; omega
        rw [w1]
        by_cases hkf : 0 < k ∧ fx = 0
        · rw [if_pos hkf, if_pos (.inl hkf)]
          exact ⟨rfl, rfl⟩
        · rw [if_neg hkf]
          have hw := hW m k many (by omega) hs3 hs1 (by omega) hkf
          by_cases ho : m.op = 4
          · rw [if_neg (by rintro (h | h); exact hkf h; exact h ho)]
            by_cases hk : 0 < k
            · rw [if_pos ⟨hk, ho⟩, vMatch_is fx a ha hh m (many + k) hs3 (by omega), decide_eq_true hk, Bool.true_and]
              cases isB fx a m (many + k) with
              | true => simp
              | false => simp only [Bool.not_false, Bool.false_or]; rw [hw]; simp
            · rw [if_neg (fun h => hk h.1), decide_eq_false hk]
              simp only [Bool.false_and, Bool.false_or]
              rw [hw]; simp
          · rw [if_pos (.inr ho), if_neg (fun h => ho h.2)]
            simp only
            rw [hw, lessF_no fx a hs1, if_pos (.inl (.inl (.inr ho)))]
            simp
      simp only [argsG]
      rw [vMatch_is fx a ha hh u many hou (by omega), anyF_cons]
      cases hi : isB fx a u many with
      | true =>
        rw [hi] at hq
        rw [hq.1]; simp
      | false =>
        rw [hi] at hq
        simp only [Bool.not_false, Bool.false_or] at hq ⊢
        cases hg : innerG (vMatch fx a) fx u 0 many false with
        | mk b s =>
          rw [hg] at hq
          simp only at hq
          obtain ⟨e1, e2⟩ := hq
          subst e2
          rw [e1]
          cases s with
          | true => rfl
          | false => simpa using hrest

/-- The program's answer is the reference's. -/
theorem compareF_eq (b : Tm) (hb : okAll b = true) (hhb : b.height ≤ 1000) : compareF fx a b = cmpF fx a b := by
  obtain ⟨hs1, hs2, hs3⟩ := stripF_spec b.height b (Nat.le_refl _) hb
  have hls := lessF_strip fx a b.height b (Nat.le_refl _) (okAll_lamOK b hb) 0 0
  rw [Nat.zero_add] at hls
  unfold compareF cmpF
  rw [hls]
  by_cases hsm : sameF a b = true
  · rw [if_pos hsm, if_pos hsm]
  · rw [if_neg hsm, if_neg hsm]
    generalize (stripF b).1 = m at hs1 hs2 hs3 ⊢
    generalize (stripF b).2 = k at hs2 ⊢
    by_cases hkf : 0 < k ∧ fx = 0
    · have hno : lessF fx a m k 0 = false := by rw [lessF_no fx a hs1, if_pos (.inl (.inl (.inl hkf)))]
      rw [if_pos hkf, hno]
      rfl
    · rw [if_neg hkf]
      have hw := (walk_less fx a ha hh hf0 hf1 m.height).2 m k 0 (Nat.le_refl _) hs3 hs1 (by omega) hkf
      rw [Nat.zero_add] at hw
      rw [hw]
end
end Go.Proofs.YtpibdcjdamibdaaGreat
end

/-! LawB -/
section
namespace Go.Proofs.YtpibdcjdamibdaaGreat
open Go.Tr Go
set_option maxRecDepth 10000

mutual
/-- The numbers of the free variables of a term, as they stand. -/
def fvF : Tm → Int → List Int
  | .mk o h n us, k => (if o = 4 ∧ h = 1 ∧ n ≥ k then [n - k] else []) ++ fvL o us 0 k
def fvL : Int → List Tm → Nat → Int → List Int
  | _, [], _, _ => []
  | o, u :: us, i, k => fvF u (k + under o i) ++ fvL o us (i + 1) k
 end

theorem mem_putF (x n : Int) : ∀ (l : List Int), x ∈ putF l n ↔ x = n ∨ x ∈ l
  | [] => by simp [putF]
  | y :: l => by
    simp only [putF]
    split
    · simp only [List.mem_cons, mem_putF x n l]
      constructor
      · rintro (h | h | h)
        · exact .inr (.inl h)
        · exact .inl h
        · exact .inr (.inr h)
      · rintro (h | h | h)
        · exact .inr (.inl h)
        · exact .inl h
        · exact .inr (.inr h)
    · split
      · rename_i h1 h2
        subst h2
        simp
      · simp

theorem putF_sorted (n : Int) : ∀ (l : List Int), l.Pairwise (· < ·) → (putF l n).Pairwise (· < ·)
  | [], _ => by simp [putF]
  | y :: l, h => by
    simp only [putF]
    rw [List.pairwise_cons] at h
    split
    · rename_i h1
      rw [List.pairwise_cons]
      refine ⟨?_, putF_sorted n l h.2⟩
      intro z hz
      rw [mem_putF] at hz
      rcases hz with rfl | hz
      · exact h1
      · exact h.1 z hz
    · split
      · rw [List.pairwise_cons]; exact h
      · rename_i h1 h2
        rw [List.pairwise_cons, List.pairwise_cons]
        refine ⟨?_, h⟩
        intro z hz
        rcases List.mem_cons.1 hz with rfl | hz
        · omega
        · have := h.1 z hz; omega

mutual
theorem heads_mem (x : Int) : ∀ (t : Tm) (k : Int) (l : List Int), okAll t = true → 0 ≤ k → k + t.height ≤ 1000000 → (x ∈ headsF 1 t k l ↔ x ∈ l ∨ x ∈ fvF t k)
  | .mk o h n us, k, l, hok, hk0, hk1 => by
    have hn := okAll_n hok
    simp only [Tm.n] at hn
    have hus : okAllL us = true := by simp only [okAll, Bool.and_eq_true] at hok; exact hok.2
    have hth : Tm.heightL us + 1 = (Tm.mk o h n us).height := by simp only [Tm.height]
    have w1 : IntKind.i64.wrap (n - k) = n - k := wrap_i64 (by omega) (by omega)
    simp only [headsF, fvF, w1, List.mem_append]
    rw [heads_memL x o us 0 k _ hus hk0 (by omega)]
    by_cases h1 : o = 4 ∧ h = 1
    · rw [if_pos h1, if_neg (by simp)]
      by_cases h2 : n ≥ k
      · rw [if_pos h2, if_pos ⟨h1.1, h1.2, h2⟩, mem_putF]
        simp only [List.mem_singleton, or_assoc]
        constructor
        · rintro (h | h | h)
          · exact .inr (.inl h)
          · exact .inl h
          · exact .inr (.inr h)
        · rintro (h | h | h)
          · exact .inr (.inl h)
          · exact .inl h
          · exact .inr (.inr h)
      · rw [if_neg h2, if_neg (fun h => h2 h.2.2)]
        simp
    · rw [if_neg h1, if_neg (fun h => h1 ⟨h.1, h.2.1⟩)]
      simp
theorem heads_memL (x : Int) : ∀ (o : Int) (us : List Tm) (i : Nat) (k : Int) (l : List Int), okAllL us = true → 0 ≤ k → k + 1 + Tm.heightL us ≤ 1000000 → (x ∈ headsL 1 o us i k l ↔ x ∈ l ∨ x ∈ fvL o us i k)
  | o, [], i, k, l, _, _, _ => by simp [headsL, fvL]
  | o, u :: us, i, k, l, hok, hk0, hk1 => by
    simp only [okAllL, Bool.and_eq_true] at hok
    simp only [Tm.heightL] at hk1
    have hu := under_le o i
    simp only [headsL, fvL, List.mem_append]
    rw [heads_memL x o us (i + 1) k _ hok.2 hk0 (by omega), heads_mem x u _ l hok.1 (by omega) (by omega), or_assoc]
 end

mutual
theorem heads_sorted : ∀ (t : Tm) (k : Int) (l : List Int), l.Pairwise (· < ·) → (headsF 1 t k l).Pairwise (· < ·)
  | .mk o h n us, k, l, hl => by
    simp only [headsF]
    refine heads_sortedL o us 0 k _ ?_
    split
    · split
      · exact putF_sorted _ _ hl
      · split
        · exact putF_sorted _ _ hl
        · exact hl
    · exact hl
theorem heads_sortedL : ∀ (o : Int) (us : List Tm) (i : Nat) (k : Int) (l : List Int), l.Pairwise (· < ·) → (headsL 1 o us i k l).Pairwise (· < ·)
  | o, [], i, k, l, hl => by simpa [headsL] using hl
  | o, u :: us, i, k, l, hl => by
    simp only [headsL]
    exact heads_sortedL o us (i + 1) k _ (heads_sorted u _ l hl)
 end

theorem mem_putAt (x n : Int) (v : Value) : ∀ (l : List (Int × Value)), x ∈ (putAt n v l).map (·.1) ↔ x = n ∨ x ∈ l.map (·.1)
  | [] => by simp [putAt]
  | (k, u) :: r => by
    simp only [putAt]
    split
    · rename_i h
      subst h
      simp
    · simp only [List.map_cons, List.mem_cons, mem_putAt x n v r]
      constructor
      · rintro (h | h | h)
        · exact .inr (.inl h)
        · exact .inl h
        · exact .inr (.inr h)
      · rintro (h | h | h)
        · exact .inr (.inl h)
        · exact .inl h
        · exact .inr (.inr h)

theorem noteStep_eq (o h n : Int) (us : List Tm) (k : Int) (l : List (Int × Value)) : noteStep freeOf l (.mk o h n us) k = if o = 4 ∧ h = 1 ∧ k ≤ n then putAt (IntKind.i64.wrap (n - k)) (.bool true) l else l := by
  have hc : ((Tm.mk o h n us).op = 4 ∧ (freeOf (.mk o h n us) k).2 = true) ↔ (o = 4 ∧ h = 1 ∧ k ≤ n) := by
    simp [freeOf, Tm.op, Tm.hd, Tm.n]
    intro _ _
    exact decide_eq_true_iff
  rw [noteStep]
  by_cases h1 : o = 4 ∧ h = 1 ∧ k ≤ n
  · rw [if_pos h1, if_pos (hc.2 h1)]; rfl
  · rw [if_neg h1, if_neg (fun h => h1 (hc.1 h))]

mutual
theorem walk_mem (x : Int) : ∀ (t : Tm) (k : Int) (l : List (Int × Value)), okAll t = true → 0 ≤ k → k + t.height ≤ 1000000 → (x ∈ (walkF (noteStep freeOf) t l k).map (·.1) ↔ x ∈ l.map (·.1) ∨ x ∈ fvF t k)
  | .mk o h n us, k, l, hok, hk0, hk1 => by
    have hn := okAll_n hok
    simp only [Tm.n] at hn
    have hus : okAllL us = true := by simp only [okAll, Bool.and_eq_true] at hok; exact hok.2
    have hth : Tm.heightL us + 1 = (Tm.mk o h n us).height := by simp only [Tm.height]
    have w1 : IntKind.i64.wrap (n - k) = n - k := wrap_i64 (by omega) (by omega)
    simp only [walkF, fvF, List.mem_append]
    rw [walk_memL x o us 0 k _ hus hk0 (by omega)]
    rw [noteStep_eq, w1]
    have hge : (o = 4 ∧ h = 1 ∧ n ≥ k) = (o = 4 ∧ h = 1 ∧ k ≤ n) := rfl
    simp only [hge]
    by_cases h1 : o = 4 ∧ h = 1 ∧ k ≤ n
    · rw [if_pos h1, if_pos h1, mem_putAt]
      simp only [List.mem_singleton, or_assoc]
      constructor
      · rintro (h | h | h)
        · exact .inr (.inl h)
        · exact .inl h
        · exact .inr (.inr h)
      · rintro (h | h | h)
        · exact .inr (.inl h)
        · exact .inl h
        · exact .inr (.inr h)
    · rw [if_neg h1, if_neg h1]
      simp
theorem walk_memL (x : Int) : ∀ (o : Int) (us : List Tm) (i : Nat) (k : Int) (l : List (Int × Value)), okAllL us = true → 0 ≤ k → k + 1 + Tm.heightL us ≤ 1000000 → (x ∈ (walkL (noteStep freeOf) o us i l k).map (·.1) ↔ x ∈ l.map (·.1) ∨ x ∈ fvL o us i k)
  | o, [], i, k, l, _, _, _ => by simp [walkL, fvL]
  | o, u :: us, i, k, l, hok, hk0, hk1 => by
    simp only [okAllL, Bool.and_eq_true] at hok
    simp only [Tm.heightL] at hk1
    have hu := under_le o i
    simp only [walkL, fvL, List.mem_append]
    rw [walk_memL x o us (i + 1) k _ hok.2 hk0 (by omega), walk_mem x u _ l hok.1 (by omega) (by omega), or_assoc]
 end

/-- The last number of an ascending list is its greatest. -/
theorem last_lt (n : Int) (l : List Int) (h : l.Pairwise (· ≤ ·)) : ((match l.getLast? with
  | none => true
  | some k => decide (k < n)) = true) ↔ ∀ x ∈ l, x < n := by
  cases hl : l.getLast? with
  | none =>
    rw [List.getLast?_eq_none_iff] at hl
    subst hl
    simp
  | some k =>
    obtain ⟨ys, rfl⟩ := List.getLast?_eq_some_iff.1 hl
    rw [List.pairwise_append] at h
    simp only [decide_eq_true_eq]
    constructor
    · intro hk x hx
      rcases List.mem_append.1 hx with hx | hx
      · have := h.2.2 x hx k (by simp); omega
      · simp at hx; omega
    · intro hk
      exact hk k (by simp)

theorem sorted_mem (x : Int) (l : List Int) : x ∈ sorted l ↔ x ∈ l := by
  simp only [sorted, List.mem_mergeSort]

theorem sorted_le (l : List Int) : (sorted l).Pairwise (· ≤ ·) := by
  have tr : ∀ a b c : Int, decide (a ≤ b) = true → decide (b ≤ c) = true → decide (a ≤ c) = true := by simp; omega
  have tot : ∀ a b : Int, (decide (a ≤ b) || decide (b ≤ a)) = true := by simp; omega
  exact (List.pairwise_mergeSort tr tot l).imp (by simp)

/-- An object among n variables. -/
theorem isObjectF_iff (t : Tm) (n : Int) : isObjectF t n = true ↔ isProper t = true ∧ ∀ x ∈ fvF t 0, x < n := by
  have key := last_lt n (numsOf freeOf t) (sorted_le _)
  rw [isObjectF, Bool.and_eq_true]
  constructor
  · rintro ⟨hp, h⟩
    have hpp := (isProper_iff t).1 hp
    refine ⟨hp, fun x hx => key.1 h x ?_⟩
    rw [numsOf, sorted_mem, walk_mem x t 0 [] hpp.1 (by omega) (by omega)]
    exact .inr hx
  · rintro ⟨hp, h⟩
    have hpp := (isProper_iff t).1 hp
    refine ⟨hp, key.2 fun x hx => h x ?_⟩
    rw [numsOf, sorted_mem, walk_mem x t 0 [] hpp.1 (by omega) (by omega)] at hx
    rcases hx with hx | hx
    · simp at hx
    · exact hx

theorem lawFree_iff (t : Tm) (n : Int) : lawFree t n = true ↔ isProper t = true ∧ ∀ x ∈ fvF t 0, x < n := by
  have key := last_lt n (headsF 1 t 0 []) ((heads_sorted t 0 [] List.Pairwise.nil).imp (fun h => Int.le_of_lt h))
  rw [lawFree, Bool.and_eq_true]
  constructor
  · rintro ⟨hp, h⟩
    have hpp := (isProper_iff t).1 hp
    refine ⟨hp, fun x hx => key.1 h x ?_⟩
    rw [heads_mem x t 0 [] hpp.1 (by omega) (by omega)]
    exact .inr hx
  · rintro ⟨hp, h⟩
    have hpp := (isProper_iff t).1 hp
    refine ⟨hp, key.2 fun x hx => h x ?_⟩
    rw [heads_mem x t 0 [] hpp.1 (by omega) (by omega)] at hx
    rcases hx with hx | hx
    · simp at hx
    · exact hx

theorem lawFree_eq (t : Tm) (n : Int) : lawFree t n = isObjectF t n := by rw [Bool.eq_iff_iff, lawFree_iff, isObjectF_iff]

/-- The program's answer is what the document asks for. -/
theorem compareE_eq (n fx : Int) (a b : Tm) : compareE n fx a b = if isScopeF n fx = true ∧ lawFree a n = true ∧ lawFree b n = true then (cmpF fx a b, 0) else (0, 2) := by
  rw [compareE, lawFree_eq, lawFree_eq]
  by_cases h : isScopeF n fx = true ∧ isObjectF a n = true ∧ isObjectF b n = true
  · rw [if_pos h, if_pos h]
    have ha := (isProper_iff a).1 (isObjectF_proper h.2.1)
    have hb := (isProper_iff b).1 (isObjectF_proper h.2.2)
    have hs := h.1
    simp only [isScopeF, Bool.and_eq_true, decide_eq_true_eq] at hs
    rw [compareF_eq fx a ha.1 (by omega) (by omega) (by omega) b hb.1 (by omega)]
  · rw [if_neg h, if_neg h]
end Go.Proofs.YtpibdcjdamibdaaGreat
end

/-! FwR -/
section
namespace Go.Tr
open Go
set_option linter.unusedSimpArgs false

theorem list_of {α : Type} {p : Nat → α → Prop} : ∀ (n : Nat), (∀ i, i < n → ∃ a, p i a) → ∃ l : List α, l.length = n ∧ ∀ i, i < n → ∃ a, l[i]? = some a ∧ p i a
  | 0, _ => ⟨[], rfl, fun i h => by omega⟩
  | n + 1, h => by
    obtain ⟨l, hl, hp⟩ := list_of n (fun i hi => h i (by omega))
    obtain ⟨a, ha⟩ := h n (by omega)
    refine ⟨l ++ [a], by simp [hl], fun i hi => ?_⟩
    by_cases hin : i < n
    · obtain ⟨b, h1, h2⟩ := hp i hin
      exact ⟨b, by rw [List.getElem?_append_left (by omega)]; exact h1, h2⟩
    · have : i = n := by omega
      subst this
      exact ⟨a, by rw [List.getElem?_append_right (by omega)]; simp [hl], ha⟩

theorem RepE.of_index {J : Nat → Prop} {w : World} {k : Nat} : ∀ {ds : List D} {cs : List Value}, (∀ (i : Nat) (d : D), ds[i]? = some d → i * k + k ≤ cs.length ∧ RepC J w d ((cs.drop (i * k)).take k)) → RepE J w k ds cs
  | [], _, _ => by simp [RepE]
  | d :: ds, cs, h => by
    simp only [RepE]
    have h0 := h 0 d rfl
    simp only [Nat.zero_mul, Nat.zero_add, List.drop_zero] at h0
    refine ⟨h0.1, h0.2, RepE.of_index fun i e hi => ?_⟩
    have h1 := h (i + 1) e (by simpa using hi)
    rw [Nat.add_mul, Nat.one_mul] at h1
    refine ⟨by rw [List.length_drop]; omega, ?_⟩
    rw [List.drop_drop, Nat.add_comm k]
    exact h1.2

theorem cells_take {w : World} {b off n k : Nat} {c : Array Value} {T : TypeId} {fz : Nat × Nat} {cs : List Value} (hb : w.heap[b]? = some (.cells c T fz)) (h : w.cells? 0 ((⟨b, off, none⟩ : Addr).add n) k = some cs) :
    (k = 0 ∨ n + k ≤ (c.toList.drop off).length) ∧ ((c.toList.drop off).drop n).take k = cs := by
  obtain ⟨_, hl, hc⟩ := World.cells?_some h
  have he : ((c.toList.drop off).drop n).take k = cs := by
    apply List.ext_getElem?
    intro j
    rw [List.getElem?_take]
    by_cases hj : j < k
    · rw [if_pos hj]
      have := hc j hj
      rw [addr_add, addr_add] at this
      simp only [World.cell?, hb] at this
      rw [← this]
      simp [List.getElem?_drop, Nat.add_assoc]
    · rw [if_neg hj, List.getElem?_eq_none (by omega)]
  refine ⟨?_, he⟩
  have := congrArg List.length he
  rw [List.length_take, List.length_drop, hl] at this
  omega

theorem mem_weightsAll {H : Type} {P : Program} {e : TypeId} {d : DataW H} {y : Nat} (hy : y ∈ d.weights P e) : ∀ {l : List (DataW H)}, d ∈ l → y ∈ DataW.weightsAll P e l
  | [], h => by simp at h
  | x :: l, h => by
    simp only [DataW.weightsAll, List.mem_append]
    rcases List.mem_cons.1 h with r | r
    · subst r; exact .inl hy
    · exact .inr (mem_weightsAll hy r)

section
variable {H : Type} {enc : TypeId × Value → H} {P : Program} {W : World}

/-- A slice reads as a list of data, if its elements read as such. -/
theorem read_slice {t e : TypeId} {k : Nat} (ht : P.underlying t = some (.slice e)) (hk : P.cellsOf e = k) (hk0 : 0 < k) (hby : 1 ≤ P.bytesOf e) {α : Type} (en : α → D) (n : Nat)
    (hel : ∀ m, m < n → ∀ cs x, DataW.trod enc P W 0 (fun _ => true) true m e cs = some x → (∀ y ∈ x.1.weights P e, y ≤ reachBytes) → ∃ a, RepC (fun _ => True) W (en a) cs)
    {cs : List Value} {x : DataW H × List MemPlace} (h : DataW.trod enc P W 0 (fun _ => true) true n t cs = some x) (hw : ∀ y ∈ x.1.weights P t, y ≤ reachBytes) :
    ∃ (l : List α) (a : Option Addr) (c : Nat), cs = [.slice a l.length c] ∧ RepC (fun _ => True) W (.sl k (l.map en)) cs := by
  rcases DataW.trod_slice ht h with ⟨rfl, rfl⟩ | ⟨a, len, cap, elems, rest, m, rfl, rfl, rfl, _, hlc, hcm, hlen, hels, _, _⟩
  · exact ⟨[], none, 0, rfl, none, 0, rfl, ⟨Nat.le_refl _, Nat.zero_le _⟩, .inl rfl⟩
  simp only [DataW.weights, ht] at hw
  have hsz : len ≤ 1152921504606846976 := by
    have h1 := hw _ (List.mem_cons_self ..)
    simp only [List.length_map, hlen] at h1
    have h2 : len ≤ (len + rest.length) * P.bytesOf e := Nat.le_trans (Nat.le_add_right _ _) (Nat.le_mul_of_pos_right _ hby)
    have h3 : reachBytes = 140737488351232 := rfl
    omega
  have hex : ∀ i, i < len → ∃ b : α, ∃ cs', W.cells? 0 (a.add (i * k)) k = some cs' ∧ RepC (fun _ => True) W (en b) cs' := by
    intro i hi
    have h1 := hels i hi
    rw [hk, List.getElem?_eq_getElem (by omega)] at h1
    obtain ⟨cs', h2, h3⟩ := Option.bind_eq_some_iff.1 h1
    obtain ⟨b, hb⟩ := hel m (by omega) cs' _ h3 (fun y hy => hw y (List.mem_cons_of_mem _ (List.mem_append.2 (.inl (mem_weightsAll hy (List.mem_map_of_mem (List.getElem_mem (by omega))))))))
    exact ⟨b, cs', h2, hb⟩
  obtain ⟨l, hl, hp⟩ := list_of len hex
  refine ⟨l, some a, cap, by rw [hl], some a, cap, by rw [List.length_map, hl], ⟨by rw [List.length_map, hl]; exact hlc, by rw [List.length_map, hl]; exact hsz⟩, ?_⟩
  by_cases hz : len = 0
  · left
    have : l = [] := List.eq_nil_of_length_eq_zero (by omega)
    rw [this]; rfl
  right
  -- the block
  obtain ⟨b0, _, cs0, h0, _⟩ := hp 0 (by omega)
  obtain ⟨_, hl0, hc0⟩ := World.cells?_some h0
  have hc := hc0 0 hk0
  rw [List.getElem?_eq_getElem (by omega)] at hc
  have ha0 : (a.add (0 * k)).add 0 = a := by simp [Addr.add]
  rw [ha0] at hc
  simp only [World.cell?] at hc
  split at hc
  · rename_i c T fz hb
    split at hc
    · cases hc
    · rename_i hs
      have hsp : a.spot = none := by cases hq : a.spot with | none => rfl | some v => simp [hq] at hs
      obtain ⟨bk, off, sp⟩ := a
      simp only at hsp
      subst hsp
      refine ⟨bk, off, c, T, fz, rfl, trivial, hb, RepE.of_index fun i d hi => ?_⟩
      rw [List.getElem?_map] at hi
      have hil : i < len := by
        rcases Nat.lt_or_ge i len with h1 | h1
        · exact h1
        · rw [List.getElem?_eq_none (by omega)] at hi; cases hi
      obtain ⟨b', h1, cs', h2, h3⟩ := hp i hil
      rw [h1] at hi
      cases hi
      obtain ⟨h4, h5⟩ := cells_take hb h2
      rw [h5]
      exact ⟨by omega, h3⟩
  · cases hc

/-- What a call that turns nothing leaves. -/
theorem keptBut_of_ext {W W' : World} (h : Ext [] W W') (may : MemPlace → Prop) : W.keptBut W' may := by
  refine ⟨h.os, h.output, fun i hi => ?_⟩
  rw [h.block i hi (by simp)]
  exact (World.keptBut_refl W may).2.2 i hi

theorem frozen_of_ext {W W' : World} (h : Ext [] W W') {a : Addr} (ha : a.block < W.heap.size) : W'.frozen? a = W.frozen? a := by
  simp only [World.frozen?, h.block a.block ha (by simp)]

theorem sameAt_of_ext {W W' : World} (h : Ext [] W W') {p : MemPlace} (hp : p.block < W.heap.size) : W.sameAt W' p := by
  cases p with
  | cell b off =>
    simp only [World.sameAt, World.cell?]
    rw [h.block b hp (by simp)]
  | map b => exact h.block b hp (by simp)

theorem trodAll_carry {W' : World} {base : Nat} {spare : Nat → Bool} {held : Bool} : ∀ {ts : List TypeId} {vs : List Value} {ds : List (DataW H)} {ps : List MemPlace}, DataW.TrodAll enc P W base spare held ts vs ds ps → (∀ p ∈ ps, W.sameAt W' p) → DataW.TrodAll enc P W' base spare held ts vs ds ps
  | [], [], [], _, h, _ => h
  | _ :: _, _ :: _, _ :: _, _, ⟨p, q, ⟨n, h1⟩, h2, e⟩, hs => ⟨p, q, ⟨n, DataW.trod_carry n _ _ _ h1 (fun x hx => hs x (by rw [e]; exact List.mem_append_left _ hx))⟩, trodAll_carry h2 (fun x hx => hs x (by rw [e]; exact List.mem_append_right _ hx)), e⟩

theorem trodAll_len {base : Nat} {spare : Nat → Bool} {held : Bool} : ∀ {ts : List TypeId} {vs : List Value} {ds : List (DataW H)} {ps : List MemPlace}, DataW.TrodAll enc P W base spare held ts vs ds ps → ds.length = ts.length
  | [], [], [], _, _ => rfl
  | _ :: _, _ :: _, _ :: _, _, ⟨_, _, _, h2, _⟩ => by simp only [List.length_cons, trodAll_len h2]

/-- A law's row: the call answers true and turns nothing. -/
theorem post_true {f : Func} {s : ChangeSpec} {fresh handsOn again : Bool} {t : TypeId} {W W' : World} {args : Array Value} {ds gs : List (DataW H)} {before : List MemPlace} (K : Kids P (· < P.types.size)) (hz : ∀ t e, t < P.types.size → P.underlying t = some (.slice e) → 0 < P.cellsOf e)
    (hW : DataW.Whole enc P f.params.toList s.vars false W args.toList ds gs before) (hv : s.vars = []) (hT : ∀ t ∈ f.params.toList, t < P.types.size)
    (hs : ∀ ds : List (DataW H), ds.length = f.params.size → s.fn H ds = { results := [.lit (.bool true)], args := ds }) (hr : f.resultTypes = #[t]) (ht : P.underlying t = some .bool) (hx : Ext [] W W') :
    s.post enc P f false fresh handsOn again W args (.bool true) W' := by
  have hW0 := hW
  obtain ⟨p, q, hA, hV, rfl, hfz, hnd⟩ := hW0
  rw [hv] at hV
  obtain ⟨rfl, rfl⟩ := Go.ChangeShapes.trodVars_none hV
  have hlen : (ds ++ ([] : List (DataW H))).length = f.params.size := by
    rw [List.append_nil]
    have := trodAll_len hA
    simpa using this
  have hfn := hs (ds ++ []) hlen
  rw [List.append_nil] at hW
  have hlt : ∀ x ∈ p, x.block < W.heap.size := fun x hx => hW.lt x hx
  have hcar := trodAll_carry hA (fun x hx' => sameAt_of_ext hx (hlt x hx'))
  have hargs : ∀ sp : Nat → Bool, (∀ x ∈ p, sp x.block = true) → DataW.TrodAll enc P W' 0 sp true f.params.toList args.toList ds p := fun sp hsp => hcar.respare K hz hT hsp
  have hres : ∀ (b : Nat) (sp : Nat → Bool) (hd : Bool), DataW.TrodAll enc P W' b sp hd f.resultTypes.toList ((Value.bool true).resultList f.resultTypes.size) [.lit (.bool true)] [] := by
    intro b sp hd
    rw [hr]
    exact trodAll_cons_mk (Go.RowKit.shut_bool ht _) Go.ChangeShapes.trodAll_mk0
  have hok : ∀ (j : Nat) (t' : TypeId) (r : Value), f.resultTypes[j]? = some t' → ((Value.bool true).resultList f.resultTypes.size)[j]? = some r → Value.okWide P W' .any 0 t' r := Go.RowKit.ok_one hr rfl (Go.RowKit.okWide_bool_mk ht _)
  have hold : ∀ x ∈ p, (fun b => decide (b < W.heap.size)) x.block = true := fun x hx => by simpa using hlt x hx
  refine ⟨ds, [], p, [], p, [], by rw [hv]; simpa [hv] using hW, ?_, ?_, ?_, World.keptBut_mono (fun x hx => ⟨hx, .inr (.inl hx)⟩) (keptBut_of_ext hx (· ∈ p)), fun _ => ?_⟩
  · rw [hfn]; exact hres _ _ _
  · rw [hfn, List.append_nil]; exact hargs _ hold
  · rw [hfn, hv]; exact rfl
  · refine ⟨hok, _, [], ([] ++ p) ++ [], ⟨[] ++ p, [], Go.ChangeShapes.trodAll_append (hargs _ (fun _ _ => rfl)) (hres _ _ _), by rw [hv]; exact rfl, rfl, ?_, by intro h; cases h⟩, ?_⟩
    · intro b off hp
      have hp : MemPlace.cell b off ∈ p := by simpa using hp
      rw [frozen_of_ext hx (hlt _ hp)]
      exact hfz b off (by simpa using hp)
    · intro y hy _
      simpa using hy
end

/-- A contract of a call that writes nothing, as the statements want it. -/
theorem Pure.calls {P : Program} {f : FuncId} {args : List SV} {rs : List (Value × D)} {R : SV → List (Value × D) → Prop} (h : Pure P (.val (.fn (.func f) [] [])) args rs R) (hc : ∀ ag w, (callFunc f ag).run P w = .ok (.enter f ag) w) {W : World} (hr : ∀ p ∈ rs, Rep (fun _ => True) W p.1 p.2) :
    Calls P f (SV.denL [] args).toArray W (fun e W' => ∃ r out, e = .returned (r.den []) ∧ R r out ∧ Ext [] W W') := by
  have hm : mutS [] (⟨[], [], rs⟩ : St) = [] := rfl
  have hG : Good (fun _ => True) [] ⟨[], [], rs⟩ W := by
    refine ⟨rfl, by simp [hm], by simp [hm], by simp [hm], by simp, by simp, by simp, ?_⟩
    intro p hp
    rw [hm]
    exact (hr p hp).map (fun b _ _ => ⟨⟨trivial, by simp⟩, rfl⟩)
  obtain ⟨nx, h1, h2⟩ := h (fun _ => True) [] W hG (fun _ _ => trivial)
  simp only [Cal.sem, SV.den, SV.denL, Deferred.ofValue, Sem.run_bind, Sem.run_pure, Result.andThen_ok, invoke] at h1
  have h3 := hc (SV.denL [] args).toArray W
  have h4 : nx = .enter f (SV.denL [] args).toArray := by
    have h5 := h1
    simp only [List.append_nil, Array.append_empty, Array.empty_append] at h5
    rw [h3] at h5
    cases h5
    rfl
  subst h4
  refine (callsIn_wide (n := 0)).1 (CallsIn.mono h2 ?_)
  rintro e w' ⟨ℓ', o, S', rfl, _, _, hx, hG', _, r, out, rfl, rfl, hwf, hR⟩
  have hl : ℓ' = [] := by have := hG'.len; simpa using this
  subst hl
  exact ⟨r, out, rfl, hR, hx⟩
end Go.Tr
end

/-! Reads -/
section
namespace Go.Proofs.YtpibdcjdamibdaaGreat
open Go.Tr Go
set_option maxRecDepth 10000

section
variable {H : Type} {enc : TypeId × Value → H} {W : World}

theorem arg_int {base : Nat} {v : Value} {d : DataW H} {p : List MemPlace} (hok : Value.okWide Tryz.prog W .any base 3 v) (h : DataW.Trod enc Tryz.prog W 0 (fun _ => true) true 3 v d p) :
    ∃ n : Int, v = (iS n).den [] ∧ (Lit.int .i64 n).wf = true := by
  obtain ⟨n, rfl, _, _, hwf⟩ := Go.ChangeShapes.open_int Tryz.underlying3 hok h
  exact ⟨n, rfl, hwf⟩
end
end Go.Proofs.YtpibdcjdamibdaaGreat
end

/-! RowKit -/
section
namespace Go.Proofs.YtpibdcjdamibdaaGreat
open Go.Tr Go
open Go.ChangeShapes Go.WideShapes Go.ChangeAt Go.RowKit
set_option maxRecDepth 10000

theorem own : ownKnob Tryz.prog.godebug = none := by kernel_rfl
theorem kids : Kids Tryz.prog (· < Tryz.prog.types.size) := kids_rows (by kernel_rfl) (by kernel_rfl)
theorem full : ∀ t e, t < Tryz.prog.types.size → Tryz.prog.underlying t = some (.slice e) → 0 < Tryz.prog.cellsOf e := slices_full_of Tryz.prog (by kernel_rfl)

theorem all_le {l : List Nat} (h : l.all (· ≤ reachBytes) = true) : ∀ y ∈ l, y ≤ reachBytes := fun y hy => by simpa using List.all_eq_true.1 h y hy

section
variable {H : Type} {enc : TypeId × Value → H} {W : World}

end
end Go.Proofs.YtpibdcjdamibdaaGreat
end
