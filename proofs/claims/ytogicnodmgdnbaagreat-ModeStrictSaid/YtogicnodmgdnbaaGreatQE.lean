/- Merged texts: SortLay TermA TermB TermC Sorted Free OrdA OrdB OrdC OrdD OrdE OrdF Ref3A Ref3B Ref3C Ref3D FwQ Ref15A Ref15B Orders LawA LawB FwR Reads RowKit FwS. The facts that the library's contract of slices.Sort at []int asks of the program. No condition. TermA The contracts of term.proper and term.Check. Condition: the argument reads as a term (its slices are not longer than 2^60). The contracts of term.numbers' visitor, of maps.Keys' iterator and slices.Collect over it (at ints). Conditions stand in each. The contract of slices.Sort at a slice of ints that the run has made: it is sorted in its place. Condition: fewer than 2^62 elements. The contracts of maps.Keys, term.numbers and term.Free. Condition: the argument reads as a term. The contracts of order.isScope, order.isObject, term.Same. Condition: the arguments read as terms. The contract of order's match (its inner function). Condition: the arguments read as terms. The contracts of order's match and strip. Condition: the arguments read as terms; strip: each TLam has an argument, and the term is not nested deeper than 10^6. The contract of order's walk, for a visitor that is handed own blocks. Conditions: each TLam has an argument; what the visitor does stands in its contract. The contracts of order's within, compare and Compare. Conditions: for compare, each TLam has an argument, and the terms are not nested deeper than 10^6. Proper terms in plain words; the contract of order.Compare. Condition: the arguments read as terms. The contracts of trussref03's formed, nodes, Proper, Depth, Size, Same and below. Conditions: the arguments read as terms; Depth: a term nested at most 10^6 deep. The contracts of trussref03's Depth, Size, Same, below and low. Conditions: the arguments read as terms; Depth and low: nested at most 10^6 deep, and small numbers of binders. The contracts of trussref03's put, heads and Free. Conditions: the arguments read as a term and as a list of ints; small numbers and short lists. The contracts of trussref03's moved, Shift and App. Conditions: the arguments read as terms; moved: nested at most 10^6 deep, with at most 10^6 nodes. Rules for the elements of a slice that the run has made and still may write: its ints are read and written in their places. Conditions stand in each rule. The contracts of trussref15's lams and of its work's variable and same. Conditions: the arguments read as proper terms; small numbers of binders. The contracts of trussref15's in, less and Compare. Conditions: the arguments read as terms that are built as terms are, not nested deep; small numbers of variables. Orders as plain data; the contracts of order.Similar and trussref15.Similar. Conditions: the arguments read as orders. Plain law: what order.compare answers is what trussref15.Compare answers, at terms that are built as terms are. No program in sight. Plain law: which free variables a term has, for the program and for the reference. No program in sight. From contracts to the statements' form: how arguments read as data, and what a call that turns nothing leaves. Conditions stand in each rule. How the arguments of the laws read: terms, orders. Condition: each slice that is met weighs no more than the form's own reach. How the four arguments of the first laws read, and what their rows ask. Condition: each slice that is met weighs no more than the form's own reach. Rules for strings: a byte of one, and maps whose keys are strings (made by the run itself). Conditions stand in each rule. -/
import Derived.Test.YtogicnodmgdnbaaGreatQD
import Derived.Shelf.Sort.Plain
import Derived.Sort.OwnSortedInts
import Derived.Laws.CopyRow
import Derived.RowKit3
import Derived.ProofKit
import Derived.OpenShut
import Derived.JoinedCond
import Derived.ReadAgain
import Derived.ChangeReads
import Derived.ChangeArms
import Derived.ChangeSame
import Derived.Deep.CondSized
import Derived.Test.YtogicnodmgdnbaaGreatRows
import Derived.SizedLaws
import Derived.Handed
import Derived.WalkKit
/-! SortLay -/
section
namespace Go.Proofs.YtogicnodmgdnbaaGreat
open Go Go.Shelf
def sortRen : Go.Shelf.Ren := ⟨fun | 189 => 66 | 125 => 114 | 257 => 113 | 128 => 159 | 129 => 160 | 294 => 150 | 295 => 151 | 296 => 152 | 297 => 153 | 298 => 154 | 299 => 155 | 216 => 156 | 300 => 157 | 301 => 158 | 328 => 179 | 329 => 180 | 330 => 181 | 331 => 182 | 332 => 183 | 215 => 184 | 343 => 192 | n => n, fun | 28 => 29 | 3 => 3 | 46 => 162 | 0 => 0 | 51 => 201 | 53 => 203 | 4 => 4 | 183 => 194 | 182 => 193 | 131 => 157 | 5 => 5 | 9 => 9 | 218 => 215 | 222 => 126 | 228 => 225 | 229 => 87 | n => n, fun  | n => n⟩
theorem sortLays : Go.Proofs.Lays.n189 Tryz.prog sortRen := {
  mixed := by kernel_rfl
  f125 := Tryz.func114.trans (congrArg some (by kernel_rfl))
  f128 := Tryz.func159.trans (congrArg some (by kernel_rfl))
  f129 := Tryz.func160.trans (congrArg some (by kernel_rfl))
  f189 := Tryz.func66.trans (congrArg some (by kernel_rfl))
  f215 := Tryz.func184.trans (congrArg some (by kernel_rfl))
  f216 := Tryz.func156.trans (congrArg some (by kernel_rfl))
  f257 := Tryz.func113.trans (congrArg some (by kernel_rfl))
  f294 := Tryz.func150.trans (congrArg some (by kernel_rfl))
  f295 := Tryz.func151.trans (congrArg some (by kernel_rfl))
  f296 := Tryz.func152.trans (congrArg some (by kernel_rfl))
  f297 := Tryz.func153.trans (congrArg some (by kernel_rfl))
  f298 := Tryz.func154.trans (congrArg some (by kernel_rfl))
  f299 := Tryz.func155.trans (congrArg some (by kernel_rfl))
  f300 := Tryz.func157.trans (congrArg some (by kernel_rfl))
  f301 := Tryz.func158.trans (congrArg some (by kernel_rfl))
  f328 := Tryz.func179.trans (congrArg some (by kernel_rfl))
  f329 := Tryz.func180.trans (congrArg some (by kernel_rfl))
  f330 := Tryz.func181.trans (congrArg some (by kernel_rfl))
  f331 := Tryz.func182.trans (congrArg some (by kernel_rfl))
  f332 := Tryz.func183.trans (congrArg some (by kernel_rfl))
  f343 := Tryz.func192.trans (congrArg some (by kernel_rfl))
  t0 := Tryz.underlying0
  a0 := Tryz.isAgg0
  z0 := Tryz.sizeOf0
  v0 := Tryz.zeroValue0
  t3 := Tryz.underlying3
  a3 := Tryz.isAgg3
  z3 := Tryz.sizeOf3
  v3 := Tryz.zeroValue3
  t4 := Tryz.underlying4
  a4 := Tryz.isAgg4
  z4 := Tryz.sizeOf4
  v4 := Tryz.zeroValue4
  t5 := Tryz.underlying5
  a5 := Tryz.isAgg5
  z5 := Tryz.sizeOf5
  v5 := Tryz.zeroValue5
  t9 := Tryz.underlying9
  a9 := Tryz.isAgg9
  z9 := Tryz.sizeOf9
  v9 := Tryz.zeroValue9
  t28 := Tryz.underlying29
  a28 := Tryz.isAgg29
  z28 := Tryz.sizeOf29
  v28 := Tryz.zeroValue29
  t46 := Tryz.underlying162
  a46 := Tryz.isAgg162
  z46 := Tryz.sizeOf162
  v46 := Tryz.zeroValue162
  t51 := Tryz.underlying201
  a51 := Tryz.isAgg201
  z51 := Tryz.sizeOf201
  v51 := Tryz.zeroValue201
  t53 := Tryz.underlying203
  a53 := Tryz.isAgg203
  z53 := Tryz.sizeOf203
  v53 := Tryz.zeroValue203
  t131 := Tryz.underlying157
  a131 := Tryz.isAgg157
  z131 := Tryz.sizeOf157
  v131 := Tryz.zeroValue157
  t182 := Tryz.underlying193
  a182 := Tryz.isAgg193
  z182 := Tryz.sizeOf193
  v182 := Tryz.zeroValue193
  t183 := Tryz.underlying194
  a183 := Tryz.isAgg194
  z183 := Tryz.sizeOf194
  v183 := Tryz.zeroValue194
  t218 := Tryz.underlying215
  a218 := Tryz.isAgg215
  z218 := Tryz.sizeOf215
  v218 := Tryz.zeroValue215
  t222 := Tryz.underlying126
  a222 := Tryz.isAgg126
  z222 := Tryz.sizeOf126
  v222 := Tryz.zeroValue126
  t228 := Tryz.underlying225
  a228 := Tryz.isAgg225
  z228 := Tryz.sizeOf225
  v228 := Tryz.zeroValue225
  t229 := Tryz.underlying87
  a229 := Tryz.isAgg87
  z229 := Tryz.sizeOf87
  v229 := Tryz.zeroValue87 }
end Go.Proofs.YtogicnodmgdnbaaGreat
end

/-! TermA -/
section
namespace Go.Proofs.YtogicnodmgdnbaaGreat
open Go.Tr Go
set_option maxRecDepth 10000

def under (op i : Int) : Int := if op = 3 ∨ op = 2 ∧ i = 1 then 1 else 0
theorem under_le (op i : Int) : 0 ≤ under op i ∧ under op i ≤ 1 := by unfold under; split <;> omega

theorem under_spec (t : Tm) (a : Option Addr) (c : Nat) (i : Int) : Pure Tryz.prog (fnS 109) [tmS t a c, iS i] [] (fun r out => r = iS (under t.op i) ∧ out = []) := by
  refine spec_of_body (N := 17) (m := 0) (dt := fun _ => none) [] ttOK Tryz.func109 rfl Tryz.call109 Tryz.ntmps109 rfl rfl rfl mixed (by kernel_rfl) ?_
  refine AtIf.mk (fun h => ?_) (fun h => ?_)
  · refine AtRet.pure [] rfl (by simp) ⟨?_, rfl⟩
    unfold under; rw [if_pos (by simpa using h)]
  · refine AtRet.pure [] rfl (by simp) ⟨?_, rfl⟩
    unfold under; rw [if_neg (by simpa using h)]

section
variable {σ : Type} (step : σ → Tm → Int → σ)
mutual
def walkF : Tm → σ → Int → σ
  | .mk o h n args, s, b => walkL o args 0 (step s (.mk o h n args) b) b
def walkL : Int → List Tm → Nat → σ → Int → σ
  | _, [], _, s, _ => s
  | o, t :: ts, i, s, b => walkL o ts (i + 1) (walkF t s (b + under o i)) b
 end
theorem walkF_eq (t : Tm) (s : σ) (b : Int) : walkF step t s b = walkL step t.op t.args 0 (step s t b) b := by cases t; rfl
end

mutual
def Tm.height : Tm → Nat
  | .mk _ _ _ args => Tm.heightL args + 1
def Tm.heightL : List Tm → Nat
  | [] => 0
  | t :: ts => max t.height (Tm.heightL ts)
 end
theorem Tm.height_eq (t : Tm) : t.height = Tm.heightL t.args + 1 := by cases t; rfl
theorem Tm.height_le {ts : List Tm} {t : Tm} (h : t ∈ ts) : t.height ≤ Tm.heightL ts := by
  induction ts with
  | nil => cases h
  | cons x xs ih =>
    simp only [Tm.heightL]
    rcases List.mem_cons.1 h with e | e
    · subst e; omega
    · have := ih e; omega

/-- A visitor that is handed the own blocks 0, 1, 2: what a visit makes of them. -/
theorem each_spec3 {σ : Type} (F : SV) (hF0 : F.wf 3 = true) (B0 B1 B2 : σ → Blk) (I : σ → Prop) (step : σ → Tm → Int → σ)
    (hmut : ∀ s s', (B0 s).mut = (B0 s').mut ∧ (B1 s).mut = (B1 s').mut ∧ (B2 s).mut = (B2 s').mut) (hwf : ∀ s, (B0 s).wf 3 = true ∧ (B1 s).wf 3 = true ∧ (B2 s).wf 3 = true)
    (hren : ∀ s, (B0 s).ren (rix [0, 1, 2]) = B0 s ∧ (B1 s).ren (rix [0, 1, 2]) = B1 s ∧ (B2 s).ren (rix [0, 1, 2]) = B2 s) (hFren : F.ren (rix [0, 1, 2]) = F)
    (hF : ∀ s t b a c, I s → 0 ≤ b → b ≤ 1000000 → Meets Tryz.prog (.val F) [tmS t a c, iS b] ⟨[B0 s, B1 s, B2 s], [], [tmR t a c]⟩ (fun o S' => o = .ret (.tup []) ∧ I (step s t b) ∧ S' = ⟨[B0 (step s t b), B1 (step s t b), B2 (step s t b)], [], []⟩)) :
    ∀ (t : Tm) (s : σ) (b : Int) a c, I s → 0 ≤ b → b + t.height ≤ 1000000 → Meets Tryz.prog (fnS 120) [tmS t a c, iS b, F] ⟨[B0 s, B1 s, B2 s], [], [tmR t a c]⟩
      (fun o S' => o = .ret (.tup []) ∧ I (walkF step t s b) ∧ S' = ⟨[B0 (walkF step t s b), B1 (walkF step t s b), B2 (walkF step t s b)], [], []⟩) := by
  intro t
  induction t using Tm.ind with
  | h t ih =>
  intro s b a c hI hb1 hb2
  refine Meets.of_ok fun hok => ?_
  have hB : (Tm.encL t.args).length ≤ 1152921504606846976 := (hok _ (List.mem_cons_self ..)).1
  refine spec_of_body (N := 29) (m := 3) (dt := drawsOf [(5, .node [0, 1, 2, 3, 6] [(4, .node [5] [(7, .leaf [])])], [7], [])]) [] ttOK Tryz.func120 rfl Tryz.call120 Tryz.ntmps120 rfl (by simp [SV.wfL, SV.wf, hF0]) rfl mixed (by kernel_rfl) ?_
  have hw := hwf s
  have frameOK : ∀ (s : σ) (tail : List Blk) (p : Nat) (k : Blk), [B0 s, B1 s, B2 s][p]? = some k → ∃ i, [0, 1, 2][p]? = some i ∧ (B0 s :: B1 s :: B2 s :: tail)[i]? = some (k.ren (rix [0, 1, 2])) ∧ k.wf 3 = true := by
    intro s tail p k hp
    match p, hp with
    | 0, hp => simp at hp; subst hp; exact ⟨0, rfl, by rw [(hren s).1]; rfl, (hwf s).1⟩
    | 1, hp => simp at hp; subst hp; exact ⟨1, rfl, by rw [(hren s).2.1]; rfl, (hwf s).2.1⟩
    | 2, hp => simp at hp; subst hp; exact ⟨2, rfl, by rw [(hren s).2.2]; rfl, (hwf s).2.2⟩
  refine (hF s t b a c hI hb1 (by omega)).frame [0, 1, 2] (by simp [Cal.ren, hFren]) rfl (by decide) rfl ?_ (by simp) rfl hF0 ?_
  · exact fun p k hp => frameOK s _ p k hp
  rintro o s' ⟨rfl, hI1, rfl⟩
  have hm := hmut s (step s t b)
  refine ⟨rfl, by simp [hm], [B0 (step s t b), B1 (step s t b), B2 (step s t b)], by simp [hren], ?_⟩
  have hlen := Tm.encL_length t.args
  have hh := Tm.height_eq t
  refine AtLoop.mk ⟨Nat × σ, fun x => [(15, iS x.1), (14, iS (Tm.encL t.args).length), (13, .v (.slice a (Tm.encL t.args).length c)), (3, .loc 3 0), (1, iS b), (2, F)],
    fun x => ⟨[B0 x.2, B1 x.2, B2 x.2, .cells 47 [iS t.op, iS t.hd, iS t.n, .v (.slice a (Tm.encL t.args).length c)]], [], [tmR t a c]⟩,
    fun x => x.1 ≤ t.args.length ∧ I x.2 ∧ walkF step t s b = walkL step t.op (t.args.drop x.1) x.1 x.2 b,
    fun x => t.args.length - x.1, (0, step s t b), ⟨Nat.zero_le _, hI1, by simpa using walkF_eq step t s b⟩, ⟨rfl, rfl, rfl, rfl, rfl, rfl, trivial⟩, StLe.refl _, ?_, ?_⟩
  · intro x _
    have hF4 : F.wf 4 = true := SV.wf_mono (by omega) F hF0
    exact ⟨by simp [envWf, SV.wf, hF4]; rfl, rfl⟩
  rintro ⟨i, s1⟩ ⟨hi, hI2, hinv⟩
  simp only at hi hI2 hinv ⊢
  refine AtIf.mk (fun h1 => ?_) (fun h1 => ?_)
  · simp only [decide_eq_true_eq, hlen] at h1
    have hlt : i < t.args.length := by omega
    obtain ⟨t', ht'⟩ : ∃ t', t.args[i]? = some t' := ⟨_, List.getElem?_eq_getElem hlt⟩
    refine at_index ttOK 0 rfl rfl rfl rfl (by omega) (by rw [Int.toNat_natCast]; exact Tm.encL_get ht') ?_
    intro a' c' _ hB'
    refine (under_spec t a c i).at (by simp) rfl rfl ?_
    rintro r out ⟨rfl, rfl⟩
    refine ⟨fun _ _ h => h, ?_⟩
    have hu := under_le t.op i
    have hht : t'.height ≤ Tm.heightL t.args := Tm.height_le (List.mem_of_getElem? ht')
    have hw2 : IntKind.i64.wrap (b + under t.op i) = b + under t.op i := wrap_i64 (by omega) (by omega)
    have hs := ih t' (List.mem_of_getElem? ht') s1 (b + under t.op i) a' c' hI2 (by omega) (by omega)
    refine hs.frame [0, 1, 2] rfl (by simp only [hw2]; show _ = [_, _, F.ren _]; rw [hFren]; rfl) (by decide) rfl ?_ ?_ ?_ rfl ?_
    · exact fun p k hp => frameOK s1 _ p k hp
    · intro p hp; simp at hp; subst hp; simp
    · simp [SV.wfL, SV.wf, hF0]
    · rintro o s' ⟨rfl, hI3, rfl⟩
      have hm := hmut s1 (walkF step t' s1 (b + under t.op i))
      refine ⟨rfl, by simp [hm], [B0 (walkF step t' s1 (b + under t.op i)), B1 (walkF step t' s1 (b + under t.op i)), B2 (walkF step t' s1 (b + under t.op i))], by simp [hren], ?_⟩
      have hw3 : IntKind.i64.wrap (i + 1) = ((i + 1 : Nat) : Int) := wrap_i64 (by omega) (by omega)
      refine ⟨(i + 1, walkF step t' s1 (b + under t.op i)), ⟨by omega, hI3, ?_⟩, by simp; omega, ⟨by rw [← hw3]; rfl, rfl, rfl, rfl, rfl, rfl, trivial⟩, StLe.to _ _ rfl (by simp) rfl ?_⟩
      · rw [hinv]
        have hd : t.args.drop i = t' :: t.args.drop (i + 1) := by
          rw [List.drop_eq_getElem_cons hlt]
          congr 1
          rw [List.getElem?_eq_getElem hlt] at ht'
          simpa using ht'
        simp only [hd, walkL]
      · have := hwf (walkF step t' s1 (b + under t.op i))
        simp only [wfB, List.length_cons, List.length_nil, Blk.wf_mono (show 3 ≤ 0 + 1 + 1 + 1 + 1 by omega) this.1, Blk.wf_mono (show 3 ≤ 0 + 1 + 1 + 1 + 1 by omega) this.2.1, Blk.wf_mono (show 3 ≤ 0 + 1 + 1 + 1 + 1 by omega) this.2.2]
        rfl
  · refine ret_own [B0 s1, B1 s1, B2 s1] rfl rfl rfl ?_ rfl ⟨rfl, ?_⟩
    · have := hwf s1
      simp only [wfB, List.length_cons, List.length_nil, this.1, this.2.1, this.2.2]
    · simp only [decide_eq_false_iff_not, hlen] at h1
      rw [List.drop_of_length_le (by omega)] at hinv
      simp only [walkL] at hinv
      rw [hinv]
      exact ⟨hI2, rfl⟩
end Go.Proofs.YtogicnodmgdnbaaGreat
end

/-! TermB -/
section
namespace Go.Proofs.YtogicnodmgdnbaaGreat
open Go.Tr Go
set_option maxRecDepth 10000
theorem proper_spec (t : Tm) : ∀ (depth k : Int) (a : Option Addr) (c : Nat), 0 ≤ depth → depth ≤ 41 → 0 ≤ k → k ≤ 600 →
    Meets Tryz.prog (fnS 106) [tmS t a c, iS depth, .loc 0 0] ⟨[.cells 3 [iS k]], [], [tmR t a c]⟩
      (fun o S' => o = .ret (bS (properF t depth k).1) ∧ S' = ⟨[.cells 3 [iS (properF t depth k).2]], [], []⟩) := by
  induction t using Tm.ind with
  | h t ih =>
  intro depth k a c hd1 hd2 hk1 hk2
  refine Meets.of_ok fun hok => ?_
  have hB : (Tm.encL t.args).length ≤ 1152921504606846976 := (hok _ (List.mem_cons_self ..)).1
  have hlen := Tm.encL_length t.args
  refine spec_of_body (N := 95) (m := 1) (dt := fun _ => none) [6] ttOK Tryz.func106 rfl Tryz.call106 Tryz.ntmps106 rfl rfl rfl mixed (by kernel_rfl) ?_
  have hw : IntKind.i64.wrap (k + 1) = k + 1 := wrap_i64 (by omega) (by omega)
  have hF := properF_eq t depth k
  refine AtIf.mk ?_ ?_
  · intro h
    rw [hw] at h
    refine ret_own [.cells 3 [iS (k + 1)]] (by simp only [hw]; rfl) rfl rfl rfl rfl ?_
    rw [hF, if_pos (by simpa using h)]
    exact ⟨rfl, rfl⟩
  · intro h
    rw [hw] at h
    have hno : ¬ (600 < k + 1 ∨ 40 < depth) := by simpa using h
    rw [if_neg hno] at hF
    refine AtCut.mk ⟨Unit, fun _ => [(7, iS (Tm.encL t.args).length), (8, bS (okNode t.op t.hd t.n t.args.length)), (3, .loc 1 0), (1, iS depth), (2, .loc 0 0)],
      fun _ => ⟨[.cells 3 [iS (k + 1)], .cells 47 [iS t.op, iS t.hd, iS t.n, .v (.slice a (Tm.encL t.args).length c)]], [], [tmR t a c]⟩,
      fun _ => True, fun _ _ => ⟨rfl, rfl⟩, ?_, ?_⟩
    · have fin : ∀ {b : Bool} {env : Env} {S : St}, b = okNode t.op t.hd t.n t.args.length → S = ⟨[.cells 3 [iS (IntKind.i64.wrap (k + 1))], .cells 47 [iS t.op, iS t.hd, iS t.n, .v (.slice a (Tm.encL t.args).length c)]], [], [tmR t a c]⟩ →
          envLe env [(7, iS (Tm.encL t.args).length), (8, bS b), (3, .loc 1 0), (1, iS depth), (2, .loc 0 0)] → 
          ∃ x : Unit, True ∧ envLe env [(7, iS (Tm.encL t.args).length), (8, bS (okNode t.op t.hd t.n t.args.length)), (3, .loc 1 0), (1, iS depth), (2, .loc 0 0)] ∧ StLe S ⟨[.cells 3 [iS (k + 1)], .cells 47 [iS t.op, iS t.hd, iS t.n, .v (.slice a (Tm.encL t.args).length c)]], [], [tmR t a c]⟩ := by
        rintro b env S rfl rfl he
        exact ⟨(), trivial, he, by rw [hw]; exact StLe.refl _⟩
      refine AtIf.mk (fun h1 => ?_) (fun h1 => AtIf.mk (fun h2 => ?_) (fun h2 => AtIf.mk (fun h3 => ?_) (fun h3 => AtIf.mk (fun h4 => ?_) (fun h4 => ?_))))
      · refine fin ?_ rfl ⟨rfl, rfl, rfl, rfl, rfl, trivial⟩
        simp only [beq_iff_eq] at h1
        simp only [okNode, h1, hlen]
        rw [Bool.eq_iff_iff]; simp
      · refine fin ?_ rfl ⟨rfl, rfl, rfl, rfl, rfl, trivial⟩
        simp only [beq_iff_eq] at h2
        simp only [okNode, h2, hlen]
        rw [Bool.eq_iff_iff]; simp; omega
      · refine fin ?_ rfl ⟨rfl, rfl, rfl, rfl, rfl, trivial⟩
        simp only [beq_iff_eq] at h3
        simp only [okNode, h3, hlen]
        rw [Bool.eq_iff_iff]; simp; omega
      · refine fin ?_ rfl ⟨rfl, rfl, rfl, rfl, rfl, trivial⟩
        simp only [beq_iff_eq] at h4
        simp only [okNode, h4]
        rw [Bool.eq_iff_iff]; simp
      · simp only [beq_eq_false_iff_ne] at h1 h2 h3 h4
        refine ret_own [.cells 3 [iS (k + 1)]] (by simp only [hw]; rfl) rfl rfl rfl rfl ?_
        have : okNode t.op t.hd t.n t.args.length = false := by simp [okNode, h1, h2, h3, h4]
        rw [hF, this]
        exact ⟨rfl, rfl⟩
    · intro _ _
      refine AtLoop.mk ⟨Nat × Bool × Int, fun x => [(9, iS x.1), (7, iS (Tm.encL t.args).length), (8, bS x.2.1), (3, .loc 1 0), (1, iS depth), (2, .loc 0 0)],
        fun x => ⟨[.cells 3 [iS x.2.2], .cells 47 [iS t.op, iS t.hd, iS t.n, .v (.slice a (Tm.encL t.args).length c)]], [], [tmR t a c]⟩,
        fun x => x.1 ≤ t.args.length ∧ 0 ≤ x.2.2 ∧ (x.2.1 = true → x.2.2 ≤ 600) ∧ properF t depth k = if x.2.1 then properL (t.args.drop x.1) (depth + 1) x.2.2 else (false, x.2.2),
        fun x => t.args.length - x.1, (0, okNode t.op t.hd t.n t.args.length, k + 1), ?_, ⟨rfl, rfl, rfl, rfl, rfl, rfl, trivial⟩, StLe.refl _, fun x _ => ⟨rfl, rfl⟩, ?_⟩
      · exact ⟨Nat.zero_le _, by simp; omega, fun _ => by simp; omega, by simpa using hF⟩
      · rintro ⟨i, ok, kk⟩ ⟨hi, hk0, hk6, hinv⟩
        simp only at hi hk0 hk6 hinv ⊢
        refine AtIf.mk (fun h1 => ?_) (fun h1 => ?_)
        · simp only [Bool.and_eq_true, decide_eq_true_eq, hlen] at h1
          obtain ⟨h1, rfl⟩ := h1
          have hlt : i < t.args.length := by omega
          obtain ⟨t', ht'⟩ : ∃ t', t.args[i]? = some t' := ⟨_, List.getElem?_eq_getElem hlt⟩
          refine at_index ttOK 0 rfl rfl rfl rfl (by omega) (by rw [Int.toNat_natCast]; exact Tm.encL_get ht') ?_
          intro a' c' _ _
          have hw2 : IntKind.i64.wrap (depth + 1) = depth + 1 := wrap_i64 (by omega) (by omega)
          have hspec := ih t' (List.mem_of_getElem? ht') (depth + 1) kk a' c' (by omega) (by omega) hk0 (hk6 rfl)
          refine hspec.frame [0] rfl (by simp only [hw2]; rfl) (by simp) rfl ?_ ?_ rfl rfl ?_
          · intro p q hp
            match p, hp with
            | 0, hp => simp at hp; subst hp; exact ⟨0, rfl, rfl, rfl⟩
          · intro p hp; simp at hp; subst hp; exact List.mem_cons_of_mem _ (List.mem_cons_self ..)
          · rintro o s' ⟨rfl, rfl⟩
            refine ⟨rfl, rfl, [.cells 3 [iS (properF t' (depth + 1) kk).2]], rfl, ?_⟩
            have hle := properF_le t' (depth + 1) kk hk0 (hk6 rfl)
            have hw3 : IntKind.i64.wrap (i + 1) = ((i + 1 : Nat) : Int) := wrap_i64 (by omega) (by omega)
            refine ⟨(i + 1, (properF t' (depth + 1) kk).1, (properF t' (depth + 1) kk).2), ⟨by omega, by simp; omega, hle.2.2, ?_⟩, by simp; omega, ⟨by rw [← hw3]; rfl, rfl, rfl, rfl, rfl, rfl, trivial⟩, StLe.to _ _ rfl (by simp) rfl rfl⟩
            rw [hinv]
            have hd : t.args.drop i = t' :: t.args.drop (i + 1) := by
              rw [List.drop_eq_getElem_cons hlt]
              congr 1
              rw [List.getElem?_eq_getElem hlt] at ht'
              simpa using ht'
            simp only [if_true, hd, properL]
            cases properF t' (depth + 1) kk with
            | mk b k' => cases b <;> rfl
        · refine ret_own [.cells 3 [iS kk]] rfl rfl rfl rfl rfl ?_
          have : properF t depth k = (ok, kk) := by
            rw [hinv]
            cases ok with
            | false => rfl
            | true =>
              simp only [Bool.and_true, decide_eq_false_iff_not, hlen] at h1
              rw [List.drop_of_length_le (by omega)]
              rfl
          rw [this]
          exact ⟨rfl, rfl⟩

/-- A term is proper. -/
def isProper (t : Tm) : Bool := (properF t 1 0).1

theorem check_spec (t : Tm) (a : Option Addr) (c : Nat) : Pure Tryz.prog (fnS 59) [tmS t a c] [tmR t a c] (fun r out => r = iS (if isProper t then 0 else 2) ∧ out = []) := by
  refine spec_of_body (N := 7) (m := 0) (dt := fun _ => none) [] ttOK Tryz.func59 rfl Tryz.call59 Tryz.ntmps59 rfl rfl rfl mixed (by kernel_rfl) ?_
  have hs := proper_spec t 1 0 a c (by omega) (by omega) (by omega) (by omega)
  refine hs.frame [1] rfl rfl (by decide) rfl ?_ (by simp) rfl rfl ?_
  · intro p q hp
    match p, hp with
    | 0, hp => simp at hp; subst hp; exact ⟨1, rfl, rfl, rfl⟩
  rintro o s' ⟨rfl, rfl⟩
  refine ⟨rfl, rfl, [.cells 3 [iS (properF t 1 0).2]], rfl, ?_⟩
  refine AtIf.mk (fun h => ?_) (fun h => ?_)
  · refine AtRet.pure [] rfl (by simp) ⟨?_, rfl⟩
    simp only [Bool.not_eq_true'] at h
    simp [isProper, h]
  · refine AtRet.pure [] rfl (by simp) ⟨?_, rfl⟩
    simp only [Bool.not_eq_false'] at h
    simp [isProper, h]
end Go.Proofs.YtogicnodmgdnbaaGreat
end

/-! TermC -/
section
namespace Go.Proofs.YtogicnodmgdnbaaGreat
open Go.Tr Go
set_option maxRecDepth 10000

theorem nodup_bound : ∀ (n : Nat) (l : List Nat), l.Nodup → (∀ m ∈ l, m < n) → l.length ≤ n
  | 0, l, _, h => by
    cases l with
    | nil => simp
    | cons a l => have := h a (by simp); omega
  | n + 1, l, hn, h => by
    by_cases hm : n ∈ l
    · have h1 := nodup_bound n (l.erase n) (hn.erase n) (fun m hm' => by
        have := (hn.mem_erase_iff.1 hm')
        have := h m this.2
        omega)
      rw [List.length_erase_of_mem hm] at h1
      omega
    · have h1 := nodup_bound n l hn (fun m hm' => by
        have h2 := h m hm'
        have h3 : m ≠ n := fun e => hm (e ▸ hm')
        omega)
      omega

theorem int_under : Tryz.prog.underlying 3 = some (.int .i64) := Tryz.underlying3

/-- What a node adds to the numbers that were found. -/
def noteStep (f : Tm → Int → Int × Bool) (l : List (Int × Value)) (t : Tm) (b : Int) : List (Int × Value) :=
  if t.op = 4 ∧ (f t b).2 = true then putAt (f t b).1 (.bool true) l else l

/-- The function that numbers asks of each node, by what it answers. -/
def AsksOK (OF : SV) (f : Tm → Int → Int × Bool) : Prop :=
  ∀ t b a c, 0 ≤ b → b ≤ 1000000 → Pure Tryz.prog (.val OF) [tmS t a c, iS b] [tmR t a c] (fun r out => r = .tup [iS (f t b).1, bS (f t b).2] ∧ out = [])

theorem numbers1_spec (OF : SV) (hOF : OF.wf 0 = true) (f : Tm → Int → Int × Bool) (hf : AsksOK OF f) (t : Tm) (a : Option Addr) (c : Nat) (b : Int) (hb : 0 ≤ b) (hb1 : b ≤ 1000000) (l : List (Int × Value)) :
    Meets Tryz.prog (.val (.fn (.func 146) [] [.loc 0 0, .loc 2 0])) [tmS t a c, iS b] ⟨[.cells 155 [OF], .obj (mapO .i64 l), .cells 186 [.mp 1]], [], [tmR t a c]⟩
      (fun o S' => o = .ret (.tup []) ∧ S' = ⟨[.cells 155 [OF], .obj (mapO .i64 (noteStep f l t b)), .cells 186 [.mp 1]], [], []⟩) := by
  refine spec_of_body (N := 21) (m := 3) (dt := fun _ => none) [] ttOK Tryz.func146 rfl Tryz.call146 Tryz.ntmps146 rfl (by simp [SV.wfL, SV.wf]) rfl mixed (by kernel_rfl) ?_
  refine AtIf.mk (fun h => ?_) (fun h => ?_)
  · simp only [beq_iff_eq] at h
    refine (hf t b a c hb hb1).at (by simp) rfl hOF ?_
    rintro r out ⟨rfl, rfl⟩
    refine AtIf.mk (fun h2 => ?_) (fun h2 => ?_)
    · refine at_mapPut ttOK (.bool true) rfl int_under rfl rfl rfl (fun _ => rfl) ?_
      refine ret_own [.cells 155 [OF], .obj (mapO .i64 (putAt (f t b).1 (.bool true) l)), .cells 186 [.mp 1]] rfl rfl rfl ?_ rfl ⟨rfl, ?_⟩
      · simp [wfB, Blk.wf, SV.wfL, SV.wf, SV.wf_mono (Nat.zero_le _) OF hOF, mapO]; rfl
      · rw [noteStep, if_pos ⟨h, h2⟩]
    · refine ret_own [.cells 155 [OF], .obj (mapO .i64 l), .cells 186 [.mp 1]] rfl rfl rfl ?_ rfl ⟨rfl, ?_⟩
      · simp [wfB, Blk.wf, SV.wfL, SV.wf, SV.wf_mono (Nat.zero_le _) OF hOF, mapO]; rfl
      · rw [noteStep, if_neg (fun hh => by rw [h2] at hh; cases hh.2)]
  · simp only [beq_eq_false_iff_ne] at h
    refine ret_own [.cells 155 [OF], .obj (mapO .i64 l), .cells 186 [.mp 1]] rfl rfl rfl ?_ rfl ⟨rfl, ?_⟩
    · simp [wfB, Blk.wf, SV.wfL, SV.wf, SV.wf_mono (Nat.zero_le _) OF hOF, mapO]; rfl
    · rw [noteStep, if_neg (fun hh => h hh.1)]

/-- What Free asks of a node. -/
def freeOf (t : Tm) (b : Int) : Int × Bool := (IntKind.i64.wrap (t.n - b), t.hd == 1 && decide (b ≤ t.n))

theorem free1_spec : AsksOK (.fn (.func 108) [] []) freeOf := by
  intro t b a c _ _
  refine spec_of_body (N := 19) (m := 0) (dt := drawsOf [(1, .leaf [0, 1, 2, 3, 4, 5, 6, 7, 8, 9, 10, 11, 12, 13, 14], [], [])]) [] ttOK Tryz.func108 rfl Tryz.call108 Tryz.ntmps108 rfl rfl rfl mixed (by kernel_rfl) ?_
  refine AtRet.pure [] rfl (by simp) ⟨rfl, rfl⟩

/-- A function that is asked for each key, from left to right: the keys so far are told by its state. -/
structure AsksKey (n0 : Nat) (Y : SV) {σ : Type} (m0 m1 : Blk) (B2 B3 : σ → Blk) (A : σ → List Acc) (kof : σ → List Int) (L : Nat) : Prop where
  wf : Y.wf n0 = true
  does : ∀ s k, (kof s).length < L → Meets Tryz.prog (.val Y) [iS k] ⟨[m0, m1, B2 s, B3 s], A s, []⟩ (fun o S' => o = .ret (bS true) ∧ ∃ s', kof s' = kof s ++ [k] ∧ S' = ⟨[m0, m1, B2 s', B3 s'], A s', []⟩)

theorem keys1_spec (l : List (Int × Value)) {σ : Type} (Y : SV) (B2 B3 : σ → Blk) (A : σ → List Acc) (kof : σ → List Int) (hY : AsksKey 4 Y (.obj (mapO .i64 l)) (.cells 186 [.mp 0]) B2 B3 A kof l.length)
    (hB : ∀ s s', (B2 s).mut = (B2 s').mut ∧ (B3 s).mut = (B3 s').mut) (hwf : ∀ s, (B2 s).wf 4 = true ∧ (B3 s).wf 4 = true) (s0 : σ) (h0 : kof s0 = []) :
    Meets Tryz.prog (.val (.fn (.func 178) [] [.loc 1 0])) [Y] ⟨[.obj (mapO .i64 l), .cells 186 [.mp 0], B2 s0, B3 s0], A s0, []⟩
      (fun o S' => o = .ret (.tup []) ∧ ∃ s, (kof s).Perm (l.map (·.1)) ∧ S' = ⟨[.obj (mapO .i64 l), .cells 186 [.mp 0], B2 s, B3 s], A s, []⟩) := by
  refine spec_of_body (N := 14) (m := 4) (dt := fun _ => none) [] ttOK Tryz.func178 rfl Tryz.call178 Tryz.ntmps178 rfl (by simp [SV.wfL, SV.wf, hY.wf]) rfl mixed (by kernel_rfl) ?_
  refine at_range ttOK rfl rfl rfl ?_
  have hlt : ∀ (seen : Array Nat), seen.toList.Nodup → (∀ m ∈ seen.toList, m < l.length) → seen.size ≤ l.length := fun seen h1 h2 => by
    simpa using nodup_bound l.length seen.toList h1 h2
  refine AtLoop.mk ⟨σ × Array Nat, fun _ => [(5, .loc 4 0), (0, Y)], fun x => ⟨[.obj (mapO .i64 l), .cells 186 [.mp 0], B2 x.1, B3 x.1, .iter 0 l.length x.2 l.length], A x.1, []⟩,
    fun x => kof x.1 = x.2.toList.map (fun m => ((l[m]?).map (·.1)).getD 0) ∧ x.2.toList.Nodup ∧ ∀ m ∈ x.2.toList, m < l.length, fun x => l.length - x.2.size, (s0, #[]), ⟨by simp [h0], by simp, by simp⟩, ⟨rfl, rfl, trivial⟩, StLe.refl _, ?_, ?_⟩
  · intro x _
    refine ⟨?_, rfl⟩
    simp [envWf, SV.wf, SV.wf_mono (show 4 ≤ 5 by omega) Y hY.wf]
    rfl
  rintro ⟨s, seen⟩ ⟨hk, hnd, hsm⟩
  simp only at hk hnd hsm ⊢
  refine at_next rfl rfl rfl ?_ ?_
  · intro hall
    refine AtIf.mk (fun h => by cases h) (fun _ => ?_)
    refine ret_keep [.obj (mapO .i64 l), .cells 186 [.mp 0], B2 s, B3 s] rfl rfl rfl ?_ rfl ⟨rfl, s, ?_, rfl⟩
    · have := hwf s
      simp only [wfB, List.length_cons, List.length_nil, this.1, this.2]
      rfl
    · rw [hk]
      have hp : seen.toList.Perm (List.range l.length) := by
        refine (List.perm_ext_iff_of_nodup hnd List.nodup_range).2 (fun m => ?_)
        rw [List.mem_range]
        exact ⟨hsm m, fun hm => by simpa using hall m hm⟩
      refine (hp.map _).trans (List.Perm.of_eq ?_)
      apply List.ext_getElem?
      intro m
      simp only [List.getElem?_map]
      rcases Nat.lt_or_ge m l.length with h | h
      · simp [h]
      · simp [Nat.not_lt.2 h]
  · intro m p hp hns
    refine AtIf.mk (fun _ => ?_) (fun h => by cases h)
    refine at_entry rfl rfl rfl hp ?_
    have hmlt : m < l.length := (List.getElem?_eq_some_iff.1 hp).1
    have hsz : (seen.push m).size ≤ l.length := hlt (seen.push m) (by simp [List.nodup_append, hnd]; intro a ha e; subst e; exact hns (by simpa using ha)) (by simp; rintro a (ha | ha); exact hsm a (by simpa using ha); omega)
    have hs := hY.does s p.1 (by rw [hk]; simp at hsz ⊢; omega)
    have hw := hwf s
    refine hs.frame0 [.iter 0 l.length (seen.push m) l.length] [] rfl (by simp) ?_ (by simp) rfl hY.wf ?_
    · intro q hq
      simp only [List.mem_cons, List.not_mem_nil, or_false] at hq
      rcases hq with rfl | rfl | rfl | rfl
      · rfl
      · rfl
      · exact hw.1
      · exact hw.2
    rintro o s' ⟨rfl, s2, hk2, rfl⟩
    refine ⟨by simp [hB s s2], ?_⟩
    refine AtIf.mk (fun h => by cases h) (fun _ => ?_)
    refine ⟨(s2, seen.push m), ⟨?_, ?_, ?_⟩, ?_, ⟨rfl, rfl, trivial⟩, ?_⟩
    · simp [hk2, hk, hp]
    · simp [List.nodup_append, hnd]; intro a ha e; subst e; exact hns (by simpa using ha)
    · simp; rintro a (ha | ha); exact hsm a (by simpa using ha); omega
    · simp at hsz ⊢; omega
    · simp only [List.append_nil]
      exact StLe.refl _

/-- What slices.AppendSeq has collected. -/
abbrev seqB2 (x : List Int × Value) : Blk := .cells 29 [.v x.2]
abbrev seqA (x : List Int × Value) : List Acc := [⟨x.2, 1, 3, x.1.map (D.int .i64)⟩]

theorem appendSeq_spec (l : List (Int × Value)) (hL : l.length ≤ 1000000) :
    Meets Tryz.prog (fnS 191) [.v (.slice none 0 0), .fn (.func 178) [] [.loc 1 0]] ⟨[.obj (mapO .i64 l), .cells 186 [.mp 0]], [⟨.slice none 0 0, 1, 3, []⟩], []⟩
      (fun o S' => ∃ (ks : List Int) (v : Value), ks.Perm (l.map (·.1)) ∧ o = .ret (.v v) ∧ S' = ⟨[.obj (mapO .i64 l), .cells 186 [.mp 0]], [⟨v, 1, 3, ks.map (D.int .i64)⟩], []⟩) := by
  refine spec_of_body (N := 13) (m := 2) (dt := fun _ => none) [] ttOK Tryz.func191 rfl Tryz.call191 Tryz.ntmps191 rfl rfl rfl mixed (by kernel_rfl) ?_
  refine AtRange.mk ⟨[(2, .loc 2 0)], ⟨rfl, trivial⟩, rfl, rfl, ⟨_, _, _, rfl, Tryz.call178⟩, ?_⟩
  refine (keys1_spec l (.yld 3) seqB2 (fun _ => _) seqA (·.1) ⟨rfl, ?_⟩ (fun _ _ => ⟨rfl, rfl⟩) (fun _ => ⟨rfl, rfl⟩) ([], .slice none 0 0) rfl).mono ?_
  · rintro ⟨ks, v⟩ k hlt
    simp only at hlt
    refine spec_of_round (N := 13) (m := 4) (dt := fun _ => none) [] ttOK rfl rfl rfl rfl rfl rfl mixed (by kernel_rfl) (by kernel_rfl) ?_
    refine at_build ttOK 8 [.int .i64 k] rfl (by kernel_rfl) ⟨⟨rfl, rfl, rfl, rfl⟩, trivial⟩ rfl (by decide) (by decide) ?_
    intro a
    refine at_append ttOK 8 0 0 rfl (by kernel_rfl) rfl rfl rfl rfl (by simp; omega) (by simp; omega) ?_
    intro a' c'
    refine ret_keep [.obj (mapO .i64 l), .cells 186 [.mp 0], seqB2 (ks ++ [k], .slice a' ((ks.map (D.int .i64)).length + 1) c'), _] rfl rfl rfl rfl rfl ⟨rfl, (ks ++ [k], .slice a' ((ks.map (D.int .i64)).length + 1) c'), rfl, ?_⟩
    simp [stOf]
  · rintro o S' ⟨rfl, ⟨ks, v⟩, hp, rfl⟩
    refine ⟨⟨_, StLe.of (S' := ⟨[.obj (mapO .i64 l), .cells 186 [.mp 0]], seqA (ks, v), []⟩) rfl (List.Sublist.refl _) (by simp) rfl rfl, Nat.le_refl _, rfl, ks, v, hp, rfl, rfl⟩⟩
end Go.Proofs.YtogicnodmgdnbaaGreat
end

/-! Sorted -/
section
namespace Go.Proofs.YtogicnodmgdnbaaGreat
open Go.Tr Go
set_option maxRecDepth 10000

theorem repE_ints {J : Nat → Prop} {w : World} : ∀ (ks : List Int) (cs : List Value), RepE J w 1 (ks.map (D.int .i64)) cs ↔ cs.take ks.length = ks.map (Value.int .i64)
  | [], cs => by simp [RepE]
  | k :: ks, cs => by
    simp only [List.map_cons, RepE, repE_ints ks, RepC, List.length_cons]
    cases cs with
    | nil => simp
    | cons c cs => simp

def sorted (ks : List Int) : List Int := ks.mergeSort fun x y => decide (x ≤ y)

theorem sorted_perm {l l' : List Int} (h : l.Perm l') : sorted l = sorted l' := by
  have tr : ∀ a b c : Int, decide (a ≤ b) = true → decide (b ≤ c) = true → decide (a ≤ c) = true := by simp; omega
  have tot : ∀ a b : Int, (decide (a ≤ b) || decide (b ≤ a)) = true := by simp; omega
  refine List.Perm.eq_of_pairwise (le := fun x y : Int => x ≤ y) ?_ ?_ ?_ (((List.mergeSort_perm l _).trans h).trans (List.mergeSort_perm l' _).symm)
  · intro a b _ _ h1 h2; omega
  · exact (List.pairwise_mergeSort tr tot l).imp (by simp)
  · exact (List.pairwise_mergeSort tr tot l').imp (by simp)

theorem sort_some (ks : List Int) (b cap : Nat) (hlen : ks.length < 4611686018427387904) :
    Meets Tryz.prog (fnS 66) [.v (.slice (some ⟨b, 0, none⟩) ks.length cap)] ⟨[], [⟨.slice (some ⟨b, 0, none⟩) ks.length cap, 1, 3, ks.map (D.int .i64)⟩], []⟩
      (fun o S' => o = .ret (.tup []) ∧ S' = ⟨[], [⟨.slice (some ⟨b, 0, none⟩) ks.length cap, 1, 3, (sorted ks).map (D.int .i64)⟩], []⟩) := by
  intro J ℓ w hG hJ
  have hl : ℓ = [] := by have := hG.len; simpa using this
  subst hl
  have hacc := hG.accs _ (List.mem_singleton.2 rfl)
  rcases hacc with ⟨hv, _⟩ | ⟨g, cp, c, hv, hgb, hcs, hle, hre⟩
  · cases hv
  simp only [List.length_map, Value.slice.injEq, Option.some.injEq, Addr.mk.injEq, and_true, true_and] at hv
  obtain ⟨rfl, rfl⟩ := hv
  simp only [List.length_map] at hle
  have ht := (repE_ints ks c.toList).1 hre
  refine ⟨.enter 66 #[.slice (some ⟨b, 0, none⟩) ks.length cap], ?_, ?_⟩
  · simp only [Cal.sem, SV.den, SV.denL, Deferred.ofValue, Sem.run_bind, Sem.run_pure, Result.andThen_ok, invoke]
    exact Tryz.call66 _ _
  · have hc := Any.slices_Sort_int sortLays b 0 cap ks w (holds_of_blockI hgb ht) (lt_of_get hgb) hlen
    refine CallsIn.mono ((callsIn_wide (n := 0)).2 hc) ?_
    rintro e w' ⟨rfl, n, os, rfl⟩
    have hsl : (sorted ks).length = ks.length := by simp [sorted, List.length_mergeSort]
    have hgr := grownBy_sortedI (w := w) (g := b) (n := n) (os := os) (sorted ks).toArray
    have hhs := heap_sortedI (n := n) (os := os) (sorted ks).toArray hgb
    have hgood := hG.regrow (j := 0) (a' := ⟨.slice (some ⟨b, 0, none⟩) ks.length cap, 1, 3, (sorted ks).map (D.int .i64)⟩) (w' := Go.Sort.grow (Go.Sort.putRow (Value.int .i64) (Go.Sort.ahead w n) b 0 (sorted ks).toArray) os) hJ rfl hgr.size
      (fun x hx hm => hgr.block x hx (fun e => hm (by simp only [Option.some.injEq] at e; simp [accBlk, e]))) (by simp [accBlk]) (fun x hx => ?_) (fun J' hj => ?_)
    · refine ⟨[], .ret (.tup []), _, rfl, rfl, List.prefix_refl _, ⟨hgr.os, hgr.output, hgr.size, fun x hx hm => hgr.block x hx (fun e => hm ?_)⟩, hgood.1, hgood.2, rfl, rfl⟩
      simp only [Option.some.injEq] at e
      simp [mutS, mutL, accBlk, e]
    · simp [accBlk] at hx
      subst hx
      exact ⟨.inl (by simp [accBlk]), lt_of_get hhs⟩
    · refine .inr ⟨b, cap, _, by simp [hsl], hhs, by simp [Go.Sort.putCells, hcs], by simp [hsl]; exact hle, ?_⟩
      rw [repE_ints, hsl, ← hsl]
      exact take_putCellsI c (sorted ks) (by rw [hsl, hcs]; simp; exact hle.1)

abbrev nilS : SV := .v (.slice none 0 0)

theorem insertion_none : Pure Tryz.prog (fnS 150) [nilS, iS 0, iS 0] [] (fun r out => r = .tup [] ∧ out = []) := by
  refine spec_of_body (N := 49) (m := 0) (dt := drawsOf [(4, .node [0, 1, 2, 3, 4, 5, 6, 7, 8, 9, 10, 11, 12] [(13, .leaf [14])], [13], []), (6, .node [0, 1, 2, 3, 4, 5, 6, 7, 8, 9, 10, 11, 12, 13, 14] [(15, .node [16] [(17, .leaf [])])], [17], [])]) [] ttOK Tryz.func150 rfl Tryz.call150 Tryz.ntmps150 rfl rfl rfl mixed (by kernel_rfl) ?_
  refine AtLoop.mk ⟨Unit, fun _ => [(6, iS 1), (2, iS 0)], fun _ => ⟨[], [], []⟩, fun _ => True, fun _ => 0, (), trivial, ⟨rfl, rfl, trivial⟩, StLe.refl _, fun _ _ => ⟨rfl, rfl⟩, ?_⟩
  intro _ _
  refine AtIf.mk (fun h => by cases h) (fun _ => ?_)
  exact AtRet.pure [] rfl (by simp) ⟨rfl, rfl⟩

theorem pdq_none (lim : Int) : Pure Tryz.prog (fnS 113) [nilS, iS 0, iS 0, iS lim] [] (fun r out => r = .tup [] ∧ out = []) := by
  refine spec_of_body (N := 134) (m := 0) (dt := drawsOf [(17, .node [0, 1, 2, 3, 4, 5, 6, 7, 8, 9, 10, 11] [(12, .leaf [13, 14])], [12], [])]) [] ttOK Tryz.func113 rfl Tryz.call113 Tryz.ntmps113 rfl rfl rfl mixed (by kernel_rfl) ?_
  refine AtLoop.mk ⟨Unit, fun _ => [(0, nilS), (1, iS 0), (2, iS 0)], fun _ => ⟨[], [], []⟩, fun _ => True, fun _ => 0, (), trivial, ⟨rfl, rfl, rfl, trivial⟩, StLe.refl _, fun _ _ => ⟨rfl, rfl⟩, ?_⟩
  intro _ _
  refine AtIf.mk (fun _ => ?_) (fun h => by cases h)
  refine insertion_none.at (by simp) rfl rfl ?_
  rintro r out ⟨rfl, rfl⟩
  exact AtRet.pure [] rfl (by simp) ⟨rfl, rfl⟩

theorem len64_zero : Pure Tryz.prog (fnS 160) [.v (.int .u64 0)] [] (fun r out => r = iS 0 ∧ out = []) := by
  refine spec_of_body (N := 25) (m := 0) (dt := fun _ => none) [] ttOK Tryz.func160 rfl Tryz.call160 Tryz.ntmps160 rfl rfl rfl mixed (by kernel_rfl) ?_
  refine AtIf.mk (fun h => by cases h) (fun _ => ?_)
  refine AtIf.mk (fun h => by cases h) (fun _ => ?_)
  refine AtIf.mk (fun h => by cases h) (fun _ => ?_)
  refine AtSem.val (.v (.int .u8 0)) rfl (fun _ _ => by kernel_rfl) ?_
  refine AtPure.val (.v (.int .u8 0)) rfl (fun _ _ => by kernel_rfl) ?_
  refine AtSem.val (.v (.int .i64 0)) rfl (fun _ _ => by kernel_rfl) ?_
  exact AtRet.pure [] rfl (by simp) ⟨rfl, rfl⟩

theorem len_zero : Pure Tryz.prog (fnS 114) [.v (.int .u64 0)] [] (fun r out => r = iS 0 ∧ out = []) := by
  refine spec_of_body (N := 8) (m := 0) (dt := fun _ => none) [] ttOK Tryz.func114 rfl Tryz.call114 Tryz.ntmps114 rfl rfl rfl mixed (by kernel_rfl) ?_
  refine AtIf.mk (fun h => by cases h) (fun _ => ?_)
  refine len64_zero.at (by simp) rfl rfl ?_
  rintro r out ⟨rfl, rfl⟩
  exact AtRet.pure [] rfl (by simp) ⟨rfl, rfl⟩

theorem sort_none : Pure Tryz.prog (fnS 66) [nilS] [] (fun r out => r = .tup [] ∧ out = []) := by
  refine spec_of_body (N := 11) (m := 0) (dt := fun _ => none) [] ttOK Tryz.func66 rfl Tryz.call66 Tryz.ntmps66 rfl rfl rfl mixed (by kernel_rfl) ?_
  refine AtSem.val (.v (.int .u64 0)) rfl (fun _ _ => by kernel_rfl) ?_
  refine len_zero.at (by simp) rfl rfl ?_
  rintro r out ⟨rfl, rfl⟩
  refine (pdq_none 0).at (by simp) rfl rfl ?_
  rintro r out ⟨rfl, rfl⟩
  exact AtRet.pure [] rfl (by simp) ⟨rfl, rfl⟩

/-- What may grow is nil, or lies in a block. -/
theorem acc_cases {P : Program} {cl : Cal} {args : List SV} {v : Value} {k : Nat} {T : TypeId} {ds : List D} {R : Out → St → Prop} (h1 : v = .slice none 0 0 → ds = [] → Meets P cl args ⟨[], [⟨v, k, T, ds⟩], []⟩ R) (h2 : ∀ b cap, v = .slice (some ⟨b, 0, none⟩) ds.length cap → Meets P cl args ⟨[], [⟨v, k, T, ds⟩], []⟩ R) : Meets P cl args ⟨[], [⟨v, k, T, ds⟩], []⟩ R := by
  intro J ℓ w hG hJ
  rcases hG.accs _ (List.mem_singleton.2 rfl) with ⟨hv, hd⟩ | ⟨b, cap, c, hv, _⟩
  · exact h1 hv hd J ℓ w hG hJ
  · exact h2 b cap hv J ℓ w hG hJ

theorem sort_spec (ks : List Int) (v : Value) (hlen : ks.length < 4611686018427387904) :
    Meets Tryz.prog (fnS 66) [.v v] ⟨[], [⟨v, 1, 3, ks.map (D.int .i64)⟩], []⟩ (fun o S' => o = .ret (.tup []) ∧ S' = ⟨[], [⟨v, 1, 3, (sorted ks).map (D.int .i64)⟩], []⟩) := by
  refine acc_cases (fun hv hd => ?_) (fun b cap hv => ?_)
  · have hk : ks = [] := by simpa using hd
    subst hv hk
    refine sort_none.at (by simp) rfl rfl ?_
    rintro r out ⟨rfl, rfl⟩
    exact ⟨rfl, by simp [sorted]⟩
  · rw [List.length_map] at hv
    subst hv
    exact sort_some ks b cap hlen

theorem collect_spec (l : List (Int × Value)) (hL : l.length ≤ 1000000) :
    Meets Tryz.prog (fnS 177) [.fn (.func 178) [] [.loc 1 0]] ⟨[.obj (mapO .i64 l), .cells 186 [.mp 0]], [], []⟩
      (fun o S' => ∃ (ks : List Int) (v : Value), ks.Perm (l.map (·.1)) ∧ o = .ret (.v v) ∧ S' = ⟨[.obj (mapO .i64 l), .cells 186 [.mp 0]], [⟨v, 1, 3, ks.map (D.int .i64)⟩], []⟩) := by
  refine spec_of_body (N := 5) (m := 2) (dt := fun _ => none) [] ttOK Tryz.func177 rfl Tryz.call177 Tryz.ntmps177 rfl rfl rfl mixed (by kernel_rfl) ?_
  refine (Meets.nilAcc 1 3 (appendSeq_spec l hL)).frame0 [] [] rfl (by simp) ?_ (by simp) rfl rfl ?_
  · intro q hq
    simp only [List.mem_cons, List.not_mem_nil, or_false] at hq
    rcases hq with rfl | rfl <;> rfl
  rintro o s' ⟨ks, v, hp, rfl, rfl⟩
  refine ⟨rfl, ?_⟩
  exact ret_keep [.obj (mapO .i64 l), .cells 186 [.mp 0]] rfl rfl rfl rfl rfl ⟨ks, v, hp, rfl, rfl⟩

theorem sorted_spec (l : List (Int × Value)) (hL : l.length ≤ 1000000) :
    Meets Tryz.prog (fnS 147) [.fn (.func 178) [] [.loc 1 0]] ⟨[.obj (mapO .i64 l), .cells 186 [.mp 0]], [], []⟩
      (fun o S' => ∃ (v : Value), o = .ret (.v v) ∧ S' = ⟨[.obj (mapO .i64 l), .cells 186 [.mp 0]], [⟨v, 1, 3, (sorted (l.map (·.1))).map (D.int .i64)⟩], []⟩) := by
  refine spec_of_body (N := 9) (m := 2) (dt := fun _ => none) [] ttOK Tryz.func147 rfl Tryz.call147 Tryz.ntmps147 rfl rfl rfl mixed (by kernel_rfl) ?_
  refine (collect_spec l hL).frame0 [] [] rfl (by simp) ?_ (by simp) rfl rfl ?_
  · intro q hq
    simp only [List.mem_cons, List.not_mem_nil, or_false] at hq
    rcases hq with rfl | rfl <;> rfl
  rintro o s' ⟨ks, v, hp, rfl, rfl⟩
  refine ⟨rfl, ?_⟩
  have hks : ks.length ≤ 1000000 := by rw [hp.length_eq, List.length_map]; exact hL
  refine (sort_spec ks v (by omega)).frame0 [.obj (mapO .i64 l), .cells 186 [.mp 0]] [] rfl (by simp) (by simp) (by simp) rfl rfl ?_
  rintro o s' ⟨rfl, rfl⟩
  refine ⟨rfl, ?_⟩
  refine ret_keep [.obj (mapO .i64 l), .cells 186 [.mp 0]] rfl rfl rfl rfl rfl ⟨v, rfl, ?_⟩
  have hs : sorted ks = sorted (l.map (·.1)) := sorted_perm hp
  rw [hs]; rfl
end Go.Proofs.YtogicnodmgdnbaaGreat
end

/-! Free -/
section
namespace Go.Proofs.YtogicnodmgdnbaaGreat
open Go.Tr Go
set_option maxRecDepth 10000

theorem keys_spec (l : List (Int × Value)) : Meets Tryz.prog (fnS 148) [.mp 0] ⟨[.obj (mapO .i64 l)], [], []⟩
    (fun o S' => o = .ret (.fn (.func 178) [] [.loc 1 0]) ∧ S' = ⟨[.obj (mapO .i64 l), .cells 186 [.mp 0]], [], []⟩) := by
  refine spec_of_body (N := 4) (m := 1) (dt := fun _ => none) [] ttOK Tryz.func148 rfl Tryz.call148 Tryz.ntmps148 rfl rfl rfl mixed (by kernel_rfl) ?_
  exact AtRet.mk ⟨⟨[.obj (mapO .i64 l), .cells 186 [.mp 0]], [], []⟩, StLe.to _ _ rfl (by simp) rfl rfl, Nat.le_of_ble_eq_true rfl, rfl, rfl, rfl⟩

/-- The numbers that the nodes of a term give. -/
def numsOf (f : Tm → Int → Int × Bool) (t : Tm) : List Int := sorted ((walkF (noteStep f) t [] 0).map (·.1))

theorem putAt_length (n : Int) (v : Value) : ∀ (l : List (Int × Value)), (putAt n v l).length ≤ l.length + 1
  | [] => by simp [putAt]
  | (k, u) :: r => by
    simp only [putAt]
    split
    · simp
    · simp; exact putAt_length n v r

mutual
def Tm.count : Tm → Nat
  | .mk _ _ _ args => Tm.countL args + 1
def Tm.countL : List Tm → Nat
  | [] => 0
  | t :: ts => t.count + Tm.countL ts
 end

theorem noteStep_length (f : Tm → Int → Int × Bool) (l : List (Int × Value)) (t : Tm) (b : Int) : (noteStep f l t b).length ≤ l.length + 1 := by
  unfold noteStep; split
  · exact putAt_length _ _ _
  · omega

mutual
theorem walkF_length (f : Tm → Int → Int × Bool) : ∀ (t : Tm) (l : List (Int × Value)) (b : Int), (walkF (noteStep f) t l b).length ≤ l.length + t.count
  | .mk o h n args, l, b => by
    simp only [walkF, Tm.count]
    have h1 := walkL_length f o args 0 (noteStep f l (.mk o h n args) b) b
    have h2 := noteStep_length f l (.mk o h n args) b
    omega
theorem walkL_length (f : Tm → Int → Int × Bool) : ∀ (o : Int) (ts : List Tm) (i : Nat) (l : List (Int × Value)) (b : Int), (walkL (noteStep f) o ts i l b).length ≤ l.length + Tm.countL ts
  | o, [], i, l, b => by simp [walkL, Tm.countL]
  | o, t :: ts, i, l, b => by
    simp only [walkL, Tm.countL]
    have h1 := walkF_length f t l (b + under o i)
    have h2 := walkL_length f o ts (i + 1) (walkF (noteStep f) t l (b + under o i)) b
    omega
 end

mutual
/-- A proper term has few nodes, and is not nested deep. -/
theorem properF_count : ∀ (t : Tm) (d k : Int), (properF t d k).1 = true → (properF t d k).2 = k + t.count ∧ d + t.height ≤ 41
  | .mk o h n args, d, k, hp => by
    rw [properF_eq] at hp ⊢
    split at hp
    · cases hp
    · split at hp
      · rename_i h1 h2
        have h3 := properL_count args (d + 1) (k + 1) hp
        rw [if_neg h1, if_pos h2]
        simp only [Tm.args, Tm.count, Tm.height] at h3 ⊢
        refine ⟨by omega, ?_⟩
        have := h3.2
        rcases this with h4 | h4
        · omega
        · subst h4; simp only [Tm.heightL]; omega
      · cases hp
theorem properL_count : ∀ (ts : List Tm) (d k : Int), (properL ts d k).1 = true → (properL ts d k).2 = k + Tm.countL ts ∧ (d + Tm.heightL ts ≤ 41 ∨ ts = [])
  | [], d, k, _ => by simp [properL, Tm.countL]
  | t :: ts, d, k, hp => by
    simp only [properL] at hp ⊢
    cases hq : properF t d k with
    | mk b k' =>
      rw [hq] at hp
      cases b with
      | false => cases hp
      | true =>
        simp only at hp ⊢
        have h1 := properF_count t d k (by rw [hq])
        rw [hq] at h1
        have h2 := properL_count ts d k' hp
        simp only [Tm.countL, Tm.heightL] at h1 h2 ⊢
        refine ⟨by omega, .inl ?_⟩
        rcases h2.2 with h3 | h3
        · omega
        · subst h3; simp only [Tm.heightL]; omega
 end

theorem isProper_count {t : Tm} (h : isProper t = true) : t.count ≤ 600 ∧ t.height ≤ 40 := by
  have h1 := properF_count t 1 0 h
  have h2 := properF_le t 1 0 (by omega) (by omega)
  have h3 := h2.2.2 h
  omega

/-- A slice of ints, as data. -/
abbrev intsD (l : List Int) : D := .sl 1 (l.map (D.int .i64))

abbrev fS (g : Nat) : SV := .fn (.func g) [] []

theorem numbers_spec (g : Nat) (f : Tm → Int → Int × Bool) (hf : AsksOK (fS g) f) (t : Tm) (a : Option Addr) (c : Nat) :
    Pure Tryz.prog (fnS 107) [tmS t a c, fS g] [tmR t a c] (fun r out => (isProper t = false ∧ r = .tup [nilS, iS 2] ∧ out = []) ∨
      (isProper t = true ∧ ∃ v, r = .tup [.v v, iS 0] ∧ out = [(v, intsD (numsOf f t))])) := by
  refine spec_of_body (N := 20) (m := 0) (dt := fun _ => none) [] ttOK Tryz.func107 rfl Tryz.call107 Tryz.ntmps107 rfl rfl rfl mixed (by kernel_rfl) ?_
  refine (check_spec t a c).at (by simp) rfl rfl ?_
  rintro r out ⟨rfl, rfl⟩
  refine AtIf.mk (fun h => ?_) (fun h => ?_)
  · cases hp : isProper t with
    | true => rw [hp] at h; cases h
    | false => exact AtRet.pure [] rfl (by simp) (.inl ⟨rfl, by simp, rfl⟩)
  cases hp : isProper t with
  | false => rw [hp] at h; cases h
  | true =>
  obtain ⟨hc1, hc2⟩ := isProper_count hp
  refine at_makeMap .i64 ?_
  have hv := each_spec3 (.fn (.func 146) [] [.loc 0 0, .loc 2 0]) rfl (fun _ : List (Int × Value) => .cells 155 [fS g]) (fun l => .obj (mapO .i64 l)) (fun _ => .cells 186 [.mp 1]) (fun _ => True) (noteStep f)
    (fun _ _ => ⟨rfl, rfl, rfl⟩) (fun _ => ⟨rfl, rfl, rfl⟩) (fun _ => ⟨rfl, rfl, rfl⟩) rfl
    (fun l t b a c _ hb hb1 => (numbers1_spec (fS g) rfl f hf t a c b hb hb1 l).mono (by rintro o S' ⟨rfl, rfl⟩; exact ⟨rfl, trivial, rfl⟩)) t [] 0 a c trivial (by omega) (by omega)
  refine hv.frame [1, 2, 3] rfl rfl (by decide) rfl ?_ (by simp) rfl rfl ?_
  · intro p q hp
    match p, hp with
    | 0, hp => simp at hp; subst hp; exact ⟨1, rfl, rfl, rfl⟩
    | 1, hp => simp at hp; subst hp; exact ⟨2, rfl, rfl, rfl⟩
    | 2, hp => simp at hp; subst hp; exact ⟨3, rfl, rfl, rfl⟩
  rintro o s' ⟨rfl, _, rfl⟩
  have hl := walkF_length f t [] 0
  generalize hl' : walkF (noteStep f) t [] 0 = l at hl ⊢
  refine ⟨rfl, rfl, [.cells 155 [fS g], .obj (mapO .i64 l), .cells 186 [.mp 2]], rfl, ?_⟩
  refine (keys_spec l).frameG [2] (rest := []) rfl rfl (List.Perm.refl _) (by decide) rfl ?_ (by simp) rfl rfl ?_
  · intro p q hp
    match p, hp with
    | 0, hp => simp at hp; subst hp; exact ⟨2, rfl, rfl, rfl⟩
  rintro o s' ⟨rfl, rfl⟩ _ _
  refine ⟨[.obj (mapO .i64 l)], [.cells 186 [.mp 0]], rfl, rfl, ?_⟩
  refine (sorted_spec l (by simp at hl; omega)).frameG [2, 4] (rest := []) rfl rfl (List.Perm.refl _) (by decide) rfl ?_ (by simp) rfl rfl ?_
  · intro p q hp
    match p, hp with
    | 0, hp => simp at hp; subst hp; exact ⟨2, rfl, rfl, rfl⟩
    | 1, hp => simp at hp; subst hp; exact ⟨4, rfl, rfl, rfl⟩
  rintro o s' ⟨v, rfl, rfl⟩ _ _
  refine ⟨_, [], (List.append_nil _).symm, rfl, ?_⟩
  refine AtRet.grown [(v, intsD (numsOf f t))] rfl (fun p hp => .inr ?_) (.inr ⟨rfl, v, rfl, rfl⟩)
  simp only [List.mem_singleton] at hp
  subst hp
  refine ⟨_, List.mem_append.2 (.inl (List.mem_singleton.2 rfl)), ?_⟩
  simp only [numsOf, hl']

theorem free_spec (t : Tm) (a : Option Addr) (c : Nat) :
    Pure Tryz.prog (fnS 60) [tmS t a c] [tmR t a c] (fun r out => (isProper t = false ∧ r = .tup [nilS, iS 2] ∧ out = []) ∨
      (isProper t = true ∧ ∃ v, r = .tup [.v v, iS 0] ∧ out = [(v, intsD (numsOf freeOf t))])) := by
  refine spec_of_body (N := 8) (m := 0) (dt := fun _ => none) [] ttOK Tryz.func60 rfl Tryz.call60 Tryz.ntmps60 rfl rfl rfl mixed (by kernel_rfl) ?_
  refine (numbers_spec 108 freeOf free1_spec t a c).at (by simp) rfl rfl ?_
  rintro r out (⟨hp, rfl, rfl⟩ | ⟨hp, v, rfl, rfl⟩)
  · exact AtRet.pure [] rfl (by simp) (.inl ⟨hp, rfl, rfl⟩)
  · exact AtRet.pure [(v, intsD (numsOf freeOf t))] rfl (by simp) (.inr ⟨hp, v, rfl, rfl⟩)
end Go.Proofs.YtogicnodmgdnbaaGreat
end

/-! OrdA -/
section
namespace Go.Proofs.YtogicnodmgdnbaaGreat
open Go.Tr Go
set_option maxRecDepth 10000

mutual
def sameF : Tm → Tm → Bool
  | .mk o h n us, b => ((o == b.op && h == b.hd) && n == b.n) && (us.length == b.args.length && sameL us b.args)
def sameL : List Tm → List Tm → Bool
  | u :: us, v :: vs => sameF u v && sameL us vs
  | _, _ => true
 end
theorem sameF_eq (a b : Tm) : sameF a b = (((a.op == b.op && a.hd == b.hd) && a.n == b.n) && (a.args.length == b.args.length && sameL a.args b.args)) := by cases a; rfl
end Go.Proofs.YtogicnodmgdnbaaGreat
end

/-! OrdB -/
section
namespace Go.Proofs.YtogicnodmgdnbaaGreat
open Go.Tr Go
set_option maxRecDepth 10000

def lookI : List (Int × Int) → Int → Option Int
  | [], _ => none
  | (k, v) :: r, n => if n = k then some v else lookI r n

def putI (n v : Int) : List (Int × Int) → List (Int × Int)
  | [] => [(n, v)]
  | (k, u) :: r => if n = k then (k, v) :: r else (k, u) :: putI n v r


end Go.Proofs.YtogicnodmgdnbaaGreat
end

/-! OrdC -/
section
namespace Go.Proofs.YtogicnodmgdnbaaGreat
open Go.Tr Go
set_option maxRecDepth 10000



end Go.Proofs.YtogicnodmgdnbaaGreat
end

/-! OrdD -/
section
namespace Go.Proofs.YtogicnodmgdnbaaGreat
open Go.Tr Go
set_option maxRecDepth 10000

section
variable {σ : Type} (vis : σ → Tm → Int → Bool × σ) (fx : Int)


end

/-- A visitor that is handed four own blocks. -/
structure Visits {σ : Type} (vis : σ → Tm → Int → Bool × σ) (Y : SV) (B0 B1 B2 B3 : σ → Blk) (xr : Value × D) (I : σ → Prop) : Prop where
  wf0 : Y.wf 4 = true
  wf : ∀ s, (B0 s).wf 4 = true ∧ (B1 s).wf 4 = true ∧ (B2 s).wf 4 = true ∧ (B3 s).wf 4 = true
  mt : ∀ s s', (B0 s).mut = (B0 s').mut ∧ (B1 s).mut = (B1 s').mut ∧ (B2 s).mut = (B2 s').mut ∧ (B3 s).mut = (B3 s').mut
  does : ∀ s t k a c, I s → Meets Tryz.prog (.val Y) [tmS t a c, iS k] ⟨[B0 s, B1 s, B2 s, B3 s], [], [tmR t a c, xr]⟩ (fun o S' => o = .ret (bS (vis s t k).1) ∧ ((vis s t k).1 = true → I (vis s t k).2) ∧ S' = ⟨[B0 (vis s t k).2, B1 (vis s t k).2, B2 (vis s t k).2, B3 (vis s t k).2], [], []⟩)

end Go.Proofs.YtogicnodmgdnbaaGreat
end

/-! OrdE -/
section
namespace Go.Proofs.YtogicnodmgdnbaaGreat
open Go.Tr Go
set_option maxRecDepth 10000

/-- The first loop over a function in a code: what it does ahead of its body, and its body. -/
noncomputable def rfOf : Code → Option (Code × Code)
  | .rangeFunc _ _ a b => some (a, b)
  | .seq a b => match rfOf a with
    | some r => some r
    | none => rfOf b
  | .cond _ t e => match rfOf t with
    | some r => some r
    | none => rfOf e
  | .block _ b => rfOf b
  | .loop b => rfOf b
  | .scope b => rfOf b
  | _ => none

noncomputable def rfAs (f : Func) : Code := match f.body with
  | none => .skip
  | some c => match rfOf c with
    | some (a, _) => a
    | none => .skip
noncomputable def rfBody (f : Func) : Code := match f.body with
  | none => .skip
  | some c => match rfOf c with
    | some (_, b) => b
    | none => .skip

end Go.Proofs.YtogicnodmgdnbaaGreat
end

/-! OrdF -/
section
namespace Go.Proofs.YtogicnodmgdnbaaGreat
open Go.Tr Go
set_option maxRecDepth 10000

mutual
/-- Each node is built as nodes are. -/
def okAll : Tm → Bool
  | .mk o h n us => okNode o h n us.length && okAllL us
def okAllL : List Tm → Bool
  | [] => true
  | u :: us => okAll u && okAllL us
 end

theorem okAllL_mem : ∀ {us : List Tm} {u : Tm}, okAllL us = true → u ∈ us → okAll u = true
  | [], u, _, h => by simp at h
  | v :: us, u, h, hm => by
    simp only [okAllL, Bool.and_eq_true] at h
    rcases List.mem_cons.1 hm with e | e
    · subst e; exact h.1
    · exact okAllL_mem h.2 e

theorem okAll_arg {t u : Tm} (h : okAll t = true) (hu : u ∈ t.args) : okAll u = true := by
  cases t; simp only [okAll, Bool.and_eq_true] at h; exact okAllL_mem h.2 hu

mutual
theorem Tm.count_pos : ∀ t : Tm, 1 ≤ t.count
  | .mk _ _ _ us => by simp only [Tm.count]; omega
theorem Tm.height_pos : ∀ t : Tm, 1 ≤ t.height
  | .mk _ _ _ us => by simp only [Tm.height]; omega
 end

mutual
theorem properF_iff : ∀ (t : Tm) (d k : Int), (properF t d k).1 = true ↔ okAll t = true ∧ k + t.count ≤ 600 ∧ d + t.height ≤ 41
  | .mk o h n us, d, k => by
    have hl := properL_iff us (d + 1) (k + 1)
    simp only [properF, Tm.count, Tm.height, okAll, Bool.and_eq_true]
    by_cases h1 : 600 < k + 1 ∨ 40 < d
    · rw [if_pos h1]
      simp only [Bool.false_eq_true, false_iff]
      omega
    · rw [if_neg h1]
      by_cases h2 : okNode o h n us.length = true
      · rw [if_pos h2, hl]
        simp only [h2, true_and]
        constructor
        · rintro ⟨h3, h4, h5⟩
          refine ⟨h3, ?_, ?_⟩
          · rcases h4 with h4 | rfl
            · omega
            · simp only [Tm.countL]; omega
          rcases h5 with rfl | h5
          · simp only [Tm.heightL]; omega
          · omega
        · rintro ⟨h3, h4, h5⟩
          exact ⟨h3, .inl (by omega), .inr (by omega)⟩
      · rw [if_neg h2]
        simp [h2]
theorem properL_iff : ∀ (us : List Tm) (d k : Int), (properL us d k).1 = true ↔ okAllL us = true ∧ (k + Tm.countL us ≤ 600 ∨ us = []) ∧ (us = [] ∨ d + Tm.heightL us ≤ 41)
  | [], d, k => by simp [properL, okAllL]
  | u :: us, d, k => by
    have h1 := properF_iff u d k
    have hc := fun h => properF_count u d k h
    have hp := Tm.count_pos u
    have hq := Tm.height_pos u
    simp only [properL, okAllL, Tm.countL, Tm.heightL, Bool.and_eq_true]
    cases hu : properF u d k with
    | mk b k' =>
      rw [hu] at h1 hc
      cases b with
      | false =>
        simp only [Bool.false_eq_true, false_iff] at h1 ⊢
        rintro ⟨⟨h2, h3⟩, h4, h5⟩
        simp at h4 h5
        exact h1 ⟨h2, by omega, by omega⟩
      | true =>
        have h1 := h1.1 rfl
        have hk := (hc rfl).1
        simp only at hk
        subst hk
        simp only
        rw [properL_iff us d (k + u.count)]
        simp only [h1.1, true_and, reduceCtorEq, or_false, false_or]
        constructor
        · rintro ⟨h2, h3, h4⟩
          refine ⟨h2, ?_, ?_⟩
          · rcases h3 with h3 | rfl
            · omega
            · simp only [Tm.countL]; omega
          · rcases h4 with rfl | h4
            · simp only [Tm.heightL]; omega
            · omega
        · rintro ⟨h2, h3, h4⟩
          exact ⟨h2, .inl (by omega), .inr (by omega)⟩
 end

theorem isProper_iff (t : Tm) : isProper t = true ↔ okAll t = true ∧ t.count ≤ 600 ∧ t.height ≤ 40 := by
  rw [isProper, properF_iff]
  constructor
  · rintro ⟨h1, h2, h3⟩; exact ⟨h1, by omega, by omega⟩
  · rintro ⟨h1, h2, h3⟩; exact ⟨h1, by omega, by omega⟩


end Go.Proofs.YtogicnodmgdnbaaGreat
end

/-! Ref3A -/
section
namespace Go.Proofs.YtogicnodmgdnbaaGreat
open Go.Tr Go
set_option maxRecDepth 10000

theorem drop_cons {α : Type} {l : List α} {i : Nat} {x : α} (h : l[i]? = some x) : l.drop i = x :: l.drop (i + 1) := by
  obtain ⟨hlt, he⟩ := List.getElem?_eq_some_iff.1 h
  rw [List.drop_eq_getElem_cons hlt, he]

mutual
def formedF : Tm → Int → Bool
  | .mk o h n us, d => if 40 < d then false else okNode o h n us.length && formedL us (d + 1)
def formedL : List Tm → Int → Bool
  | [], _ => true
  | u :: us, d => formedF u d && formedL us d
 end
theorem formedF_eq (t : Tm) (d : Int) : formedF t d = if 40 < d then false else okNode t.op t.hd t.n t.args.length && formedL t.args (d + 1) := by cases t; rfl

theorem formed_spec (t : Tm) : ∀ (d : Int) (a : Option Addr) (c : Nat), 0 ≤ d → d ≤ 41 → Pure Tryz.prog (fnS 70) [tmS t a c, iS d] [tmR t a c] (fun r out => r = bS (formedF t d) ∧ out = []) := by
  induction t using Tm.ind with
  | h t ih =>
  intro d a c hd0 hd1
  refine Meets.of_ok fun hok => ?_
  have hB : (Tm.encL t.args).length ≤ 1152921504606846976 := (hok _ (List.mem_cons_self ..)).1
  have hlen := Tm.encL_length t.args
  have hF := formedF_eq t d
  refine spec_of_body (N := 94) (m := 0) (dt := fun _ => none) [3] ttOK Tryz.func70 rfl Tryz.call70 Tryz.ntmps70 rfl rfl rfl mixed (by kernel_rfl) ?_
  refine AtIf.mk (fun h => ?_) (fun h => ?_)
  · simp only [decide_eq_true_eq] at h
    exact AtRet.pure [] rfl (by simp) ⟨by rw [hF, if_pos h], rfl⟩
  have h : ¬ 40 < d := by simpa using h
  rw [if_neg h] at hF
  refine AtCut.mk ⟨Unit, fun _ => [(2, .loc 0 0), (1, iS d)],
      fun _ => ⟨[.cells 47 [iS t.op, iS t.hd, iS t.n, .v (.slice a (Tm.encL t.args).length c)]], [], [tmR t a c]⟩,
      fun _ => okNode t.op t.hd t.n t.args.length = true, fun _ _ => ⟨rfl, rfl⟩, ?_, ?_⟩
  · have bad : okNode t.op t.hd t.n t.args.length = false → formedF t d = false := fun h => by rw [hF, h]; rfl
    refine AtIf.mk (fun h1 => ?_) (fun h1 => AtIf.mk (fun h2 => ?_) (fun h2 => AtIf.mk (fun h3 => ?_) (fun h3 => AtIf.mk (fun h4 => ?_) (fun h4 => ?_))))
    · simp only [beq_iff_eq] at h1
      refine AtIf.mk (fun h5 => ?_) (fun h5 => ?_)
      · refine AtRet.pure [] rfl (by simp) ⟨?_, rfl⟩
        rw [bad]
        simp only [okNode, h1]
        simp [hlen] at h5 ⊢
        first | omega | (intros; simp_all) | simp_all
      · refine ⟨(), ?_, ⟨rfl, rfl, trivial⟩, StLe.refl _⟩
        simp only [okNode, h1]
        simp [hlen] at h5 ⊢
        first | omega | (intros; simp_all) | simp_all
    · simp only [beq_iff_eq] at h2
      refine AtIf.mk (fun h5 => ?_) (fun h5 => ?_)
      · refine AtRet.pure [] rfl (by simp) ⟨?_, rfl⟩
        rw [bad]
        simp only [okNode, h2]
        simp [hlen] at h5 ⊢
        omega
      · refine ⟨(), ?_, ⟨rfl, rfl, trivial⟩, StLe.refl _⟩
        simp only [okNode, h2]
        simp [hlen] at h5 ⊢
        omega
    · simp only [beq_iff_eq] at h3
      refine AtIf.mk (fun h5 => ?_) (fun h5 => ?_)
      · refine AtRet.pure [] rfl (by simp) ⟨?_, rfl⟩
        rw [bad]
        simp only [okNode, h3]
        simp [hlen] at h5 ⊢
        omega
      · refine ⟨(), ?_, ⟨rfl, rfl, trivial⟩, StLe.refl _⟩
        simp only [okNode, h3]
        simp [hlen] at h5 ⊢
        omega
    · simp only [beq_iff_eq] at h4
      refine AtIf.mk (fun h5 => ?_) (fun h5 => ?_)
      · refine AtRet.pure [] rfl (by simp) ⟨?_, rfl⟩
        rw [bad]
        simp only [okNode, h4]
        simp at h5 ⊢
        omega
      · refine ⟨(), ?_, ⟨rfl, rfl, trivial⟩, StLe.refl _⟩
        simp only [okNode, h4]
        simp at h5 ⊢
        omega
    · simp only [beq_eq_false_iff_ne] at h1 h2 h3 h4
      refine AtRet.pure [] rfl (by simp) ⟨?_, rfl⟩
      rw [bad]
      simp [okNode, h1, h2, h3, h4]
  intro _ hok2
  rw [hok2, Bool.true_and] at hF
  refine AtLoop.mk ⟨Nat, fun i => [(5, iS i), (2, .loc 0 0), (1, iS d)], fun _ => ⟨[.cells 47 [iS t.op, iS t.hd, iS t.n, .v (.slice a (Tm.encL t.args).length c)]], [], [tmR t a c]⟩,
    fun i => i ≤ t.args.length ∧ formedF t d = formedL (t.args.drop i) (d + 1), fun i => t.args.length - i, 0, ⟨Nat.zero_le _, hF⟩, ⟨rfl, rfl, rfl, trivial⟩, StLe.refl _, fun _ _ => ⟨rfl, rfl⟩, ?_⟩
  rintro i ⟨hi, hinv⟩
  refine AtIf.mk (fun h1 => ?_) (fun h1 => ?_)
  · simp only [decide_eq_true_eq, hlen] at h1
    obtain ⟨x, hx⟩ : ∃ x, t.args[i]? = some x := ⟨_, List.getElem?_eq_getElem (by omega)⟩
    refine at_index ttOK 0 rfl rfl rfl rfl (by omega) (by rw [Int.toNat_natCast]; exact Tm.encL_get hx) ?_
    intro a1 c1 _ _
    have hw2 : IntKind.i64.wrap (d + 1) = d + 1 := wrap_i64 (by omega) (by omega)
    have hsp := ih x (List.mem_of_getElem? hx) (d + 1) a1 c1 (by omega) (by omega)
    rw [← hw2] at hsp
    refine hsp.at (by simp) rfl rfl ?_
    rintro r out ⟨rfl, rfl⟩
    rw [drop_cons hx, formedL, ← hw2] at hinv
    refine AtIf.mk (fun h2 => ?_) (fun h2 => ?_)
    · have h2 : formedF x (IntKind.i64.wrap (d + 1)) = false := by simpa using h2
      exact AtRet.pure [] rfl (by simp) ⟨by rw [hinv, h2]; rfl, rfl⟩
    · have h2 : formedF x (IntKind.i64.wrap (d + 1)) = true := by simpa using h2
      have hw3 : IntKind.i64.wrap (i + 1) = ((i + 1 : Nat) : Int) := wrap_i64 (by omega) (by omega)
      exact ⟨i + 1, ⟨by omega, by rw [hinv, h2, hw2]; rfl⟩, by simp only; omega, ⟨by rw [← hw3]; rfl, rfl, rfl, trivial⟩, StLe.to _ _ rfl (by simp) rfl rfl⟩
  · simp only [decide_eq_false_iff_not, hlen] at h1
    rw [List.drop_of_length_le (by omega)] at hinv
    exact AtRet.pure [] rfl (by simp) ⟨by rw [hinv]; rfl, rfl⟩

mutual
def nodesF : Tm → Int → Int
  | .mk _ _ _ us, m => if m + 1 < nodesL us m 1 then m + 1 else nodesL us m 1
def nodesL : List Tm → Int → Int → Int
  | [], _, n => n
  | u :: us, m, n => if n ≤ m then nodesL us m (n + nodesF u (m - n)) else n
 end
theorem nodesF_eq (t : Tm) (m : Int) : nodesF t m = if m + 1 < nodesL t.args m 1 then m + 1 else nodesL t.args m 1 := by cases t; rfl

mutual
theorem nodesF_le : ∀ (t : Tm) (m : Int), 0 ≤ m → 1 ≤ nodesF t m ∧ nodesF t m ≤ m + 1
  | .mk _ _ _ us, m, h => by
    have := nodesL_le us m 1 (by omega) (by omega)
    simp only [nodesF]
    split <;> omega
theorem nodesL_le : ∀ (us : List Tm) (m n : Int), 1 ≤ n → n ≤ m + 1 → n ≤ nodesL us m n ∧ nodesL us m n ≤ m + 1
  | [], m, n, h1, h2 => by simp only [nodesL]; omega
  | u :: us, m, n, h1, h2 => by
    simp only [nodesL]
    split
    · have h3 := nodesF_le u (m - n) (by omega)
      have h4 := nodesL_le us m (n + nodesF u (m - n)) (by omega) (by omega)
      omega
    · omega
 end

theorem nodes_spec (t : Tm) : ∀ (m : Int) (a : Option Addr) (c : Nat), 0 ≤ m → m ≤ 1000000 → Pure Tryz.prog (fnS 69) [tmS t a c, iS m] [tmR t a c] (fun r out => r = iS (nodesF t m) ∧ out = []) := by
  induction t using Tm.ind with
  | h t ih =>
  intro m a c hm0 hm1
  refine Meets.of_ok fun hok => ?_
  have hB : (Tm.encL t.args).length ≤ 1152921504606846976 := (hok _ (List.mem_cons_self ..)).1
  have hlen := Tm.encL_length t.args
  refine spec_of_body (N := 34) (m := 0) (dt := fun _ => none) [] ttOK Tryz.func69 rfl Tryz.call69 Tryz.ntmps69 rfl rfl rfl mixed (by kernel_rfl) ?_
  refine AtLoop.mk ⟨Nat × Int, fun x => [(6, iS x.1), (5, iS x.2), (2, .loc 0 0), (1, iS m)], fun _ => ⟨[.cells 47 [iS t.op, iS t.hd, iS t.n, .v (.slice a (Tm.encL t.args).length c)]], [], [tmR t a c]⟩,
    fun x => x.1 ≤ t.args.length ∧ 1 ≤ x.2 ∧ x.2 ≤ m + 1 ∧ nodesL t.args m 1 = nodesL (t.args.drop x.1) m x.2, fun x => t.args.length - x.1, (0, 1), ⟨Nat.zero_le _, Int.le_refl _, by simp only; omega, rfl⟩, ⟨rfl, rfl, rfl, rfl, trivial⟩, StLe.refl _, fun _ _ => ⟨rfl, rfl⟩, ?_⟩
  rintro ⟨i, n⟩ ⟨hi, hn0, hn1, hinv⟩
  simp only at hi hn0 hn1 hinv ⊢
  refine AtIf.mk (fun h1 => ?_) (fun h1 => ?_)
  · simp only [Bool.and_eq_true, decide_eq_true_eq, hlen] at h1
    obtain ⟨x, hx⟩ : ∃ x, t.args[i]? = some x := ⟨_, List.getElem?_eq_getElem (by omega)⟩
    refine at_index ttOK 0 rfl rfl rfl rfl (by omega) (by rw [Int.toNat_natCast]; exact Tm.encL_get hx) ?_
    intro a1 c1 _ _
    have hw2 : IntKind.i64.wrap (m - n) = m - n := wrap_i64 (by omega) (by omega)
    have hsp := ih x (List.mem_of_getElem? hx) (m - n) a1 c1 (by omega) (by omega)
    rw [← hw2] at hsp
    refine hsp.at (by simp) rfl rfl ?_
    rintro r out ⟨rfl, rfl⟩
    have hle := nodesF_le x (m - n) (by omega)
    have hw3 : IntKind.i64.wrap (i + 1) = ((i + 1 : Nat) : Int) := wrap_i64 (by omega) (by omega)
    have hw4 : IntKind.i64.wrap (n + nodesF x (m - n)) = n + nodesF x (m - n) := wrap_i64 (by omega) (by omega)
    refine ⟨(i + 1, n + nodesF x (m - n)), ⟨by omega, by simp only; omega, by simp only; omega, ?_⟩, by simp only; omega, ⟨by rw [← hw3]; rfl, by simp only [hw2, hw4]; rfl, rfl, rfl, trivial⟩, StLe.to _ _ rfl (by simp) rfl rfl⟩
    rw [hinv, drop_cons hx, nodesL, if_pos h1.2]
  · have hw2 : IntKind.i64.wrap (m + 1) = m + 1 := wrap_i64 (by omega) (by omega)
    refine at_min ?_
    have hres : nodesL t.args m 1 = n := by
      rw [hinv]
      by_cases hlt : i < t.args.length
      · obtain ⟨x, hx⟩ : ∃ x, t.args[i]? = some x := ⟨_, List.getElem?_eq_getElem (by omega)⟩
        simp only [Bool.and_eq_false_iff, decide_eq_false_iff_not, hlen] at h1
        rw [drop_cons hx, nodesL, if_neg (by omega)]
      · rw [List.drop_of_length_le (by omega), nodesL]
    refine AtRet.pure [] rfl (by simp) ⟨?_, rfl⟩
    rw [nodesF_eq, hres, hw2]

/-- What trussref03.Proper answers. -/
def refProper (t : Tm) : Bool := decide (nodesF t 600 ≤ 600) && formedF t 1

theorem refProper_spec (t : Tm) (a : Option Addr) (c : Nat) : Pure Tryz.prog (fnS 25) [tmS t a c] [tmR t a c] (fun r out => r = bS (refProper t) ∧ out = []) := by
  refine spec_of_body (N := 10) (m := 0) (dt := fun _ => none) [] ttOK Tryz.func25 rfl Tryz.call25 Tryz.ntmps25 rfl rfl rfl mixed (by kernel_rfl) ?_
  refine (nodes_spec t 600 a c (by omega) (by omega)).at (by simp) rfl rfl ?_
  rintro r out ⟨rfl, rfl⟩
  refine AtGuard.mk (fun h => ?_) (fun h => ?_)
  · refine (formed_spec t 1 a c (by omega) (by omega)).at (by simp) rfl rfl ?_
    rintro r out ⟨rfl, rfl⟩
    have h : decide (nodesF t 600 ≤ 600) = true := h
    exact AtRet.pure [] rfl (by simp) ⟨by rw [refProper, h]; rfl, rfl⟩
  · have h : decide (nodesF t 600 ≤ 600) = false := h
    exact AtRet.pure [] rfl (by simp) ⟨by rw [refProper, h]; rfl, rfl⟩
end Go.Proofs.YtogicnodmgdnbaaGreat
end

/-! Ref3B -/
section
namespace Go.Proofs.YtogicnodmgdnbaaGreat
open Go.Tr Go
set_option maxRecDepth 10000

theorem refSame_spec (t : Tm) : ∀ (u : Tm) (a1 a2 : Option Addr) (c1 c2 : Nat), Pure Tryz.prog (fnS 75) [tmS t a1 c1, tmS u a2 c2] [tmR t a1 c1, tmR u a2 c2] (fun r out => r = bS (sameF t u) ∧ out = []) := by
  induction t using Tm.ind with
  | h t ih =>
  intro u a1 a2 c1 c2
  refine Meets.of_ok fun hok => ?_
  have hB : (Tm.encL t.args).length ≤ 1152921504606846976 := (hok _ (List.mem_cons_self ..)).1
  have hlen := Tm.encL_length t.args
  have hlen2 := Tm.encL_length u.args
  have hF := sameF_eq t u
  refine spec_of_body (N := 53) (m := 0) (dt := drawsOf [(6, .node [0, 1, 2, 3, 4, 5, 6, 7, 8, 9] [(10, .leaf [11])], [10], [])]) [] ttOK Tryz.func75 rfl Tryz.call75 Tryz.ntmps75 rfl rfl rfl mixed (by kernel_rfl) ?_
  refine AtIf.mk (fun h1 => ?_) (fun h1 => ?_)
  · refine AtRet.pure [] rfl (by simp) ⟨?_, rfl⟩
    simp only [hlen, hlen2] at h1
    have : sameF t u = false := by
      rw [hF]
      simp at h1 ⊢
      intro e1 e2 e3 e4
      omega
    rw [this]
  have hl : t.args.length = u.args.length := by
    simp only [hlen, hlen2] at h1
    simp at h1
    omega
  have hF : sameF t u = sameL t.args u.args := by
    simp only [hlen, hlen2] at h1
    simp at h1
    obtain ⟨⟨⟨e1, e2⟩, e3⟩, e4⟩ := h1
    rw [hF]
    simp [e1, e2, e3, hl]
  refine AtLoop.mk ⟨Nat, fun i => [(5, iS i), (2, .loc 0 0), (3, .loc 1 0)], fun _ => ⟨[.cells 47 [iS t.op, iS t.hd, iS t.n, .v (.slice a1 (Tm.encL t.args).length c1)], .cells 47 [iS u.op, iS u.hd, iS u.n, .v (.slice a2 (Tm.encL u.args).length c2)]], [], [tmR t a1 c1, tmR u a2 c2]⟩,
    fun i => i ≤ t.args.length ∧ sameF t u = sameL (t.args.drop i) (u.args.drop i), fun i => t.args.length - i, 0, ⟨Nat.zero_le _, hF⟩, ⟨rfl, rfl, rfl, trivial⟩, StLe.refl _, fun _ _ => ⟨rfl, rfl⟩, ?_⟩
  rintro i ⟨hi, hinv⟩
  refine AtIf.mk (fun h1 => ?_) (fun h1 => ?_)
  · simp only [decide_eq_true_eq, hlen] at h1
    obtain ⟨x, hx⟩ : ∃ x, t.args[i]? = some x := ⟨_, List.getElem?_eq_getElem (by omega)⟩
    obtain ⟨y, hy⟩ : ∃ y, u.args[i]? = some y := ⟨_, List.getElem?_eq_getElem (by omega)⟩
    refine at_index ttOK 0 rfl rfl rfl rfl (by omega) (by rw [Int.toNat_natCast]; exact Tm.encL_get hx) ?_
    intro b1 d1 _ _
    refine at_index ttOK 1 rfl rfl rfl rfl (by omega) (by rw [Int.toNat_natCast]; exact Tm.encL_get hy) ?_
    intro b2 d2 _ _
    refine (ih x (List.mem_of_getElem? hx) y b1 b2 d1 d2).at (by simp) rfl rfl ?_
    rintro r out ⟨rfl, rfl⟩
    rw [drop_cons hx, drop_cons hy, sameL] at hinv
    refine AtIf.mk (fun h2 => ?_) (fun h2 => ?_)
    · have h2 : sameF x y = false := by simpa using h2
      exact AtRet.pure [] rfl (by simp) ⟨by rw [hinv, h2]; rfl, rfl⟩
    · have h2 : sameF x y = true := by simpa using h2
      have hw3 : IntKind.i64.wrap (i + 1) = ((i + 1 : Nat) : Int) := wrap_i64 (by omega) (by omega)
      exact ⟨i + 1, ⟨by omega, by rw [hinv, h2]; rfl⟩, by simp only; omega, ⟨by rw [← hw3]; rfl, rfl, rfl, trivial⟩, StLe.to _ _ rfl (by simp) rfl rfl⟩
  · simp only [decide_eq_false_iff_not, hlen] at h1
    rw [List.drop_of_length_le (by omega)] at hinv
    exact AtRet.pure [] rfl (by simp) ⟨by rw [hinv]; rfl, rfl⟩

theorem below_spec (t : Tm) (a : Option Addr) (c : Nat) (i : Int) : Pure Tryz.prog (fnS 115) [tmS t a c, iS i] [] (fun r out => r = iS (under t.op i) ∧ out = []) := by
  refine spec_of_body (N := 17) (m := 0) (dt := fun _ => none) [] ttOK Tryz.func115 rfl Tryz.call115 Tryz.ntmps115 rfl rfl rfl mixed (by kernel_rfl) ?_
  refine AtIf.mk (fun h => ?_) (fun h => ?_)
  · refine AtRet.pure [] rfl (by simp) ⟨?_, rfl⟩
    simp at h
    rw [under, if_pos h]
  · refine AtRet.pure [] rfl (by simp) ⟨?_, rfl⟩
    have : ¬ (t.op = 3 ∨ t.op = 2 ∧ i = 1) := by
      simp at h
      omega
    rw [under, if_neg this]

end Go.Proofs.YtogicnodmgdnbaaGreat
end

/-! Ref3C -/
section
namespace Go.Proofs.YtogicnodmgdnbaaGreat
open Go.Tr Go
set_option maxRecDepth 10000

/-- A slice that is nil reads as the empty list. -/
theorem nilRep {P : Program} {cl : Cal} {args : List SV} {own : List Blk} {accs : List Acc} {rs : List (Value × D)} {R : Out → St → Prop} (k : Nat) (h : Meets P cl args ⟨own, accs, (.slice none 0 0, .sl k []) :: rs⟩ R) : Meets P cl args ⟨own, accs, rs⟩ R := by
  intro J ℓ w hG hJ
  refine h J ℓ w ⟨hG.len, hG.nodup, hG.lt, hG.memJ, hG.wf, hG.own, hG.accs, ?_⟩ hJ
  intro p hp
  rcases List.mem_cons.1 hp with e | e
  · subst e
    exact ⟨none, 0, rfl, ⟨Nat.zero_le _, Nat.zero_le _⟩, .inl rfl⟩
  · exact hG.reps p e

def putF : List Int → Int → List Int
  | [], n => [n]
  | x :: xs, n => if x < n then x :: putF xs n else if x = n then x :: xs else n :: x :: xs

abbrev intsS (l : List Int) (a : Option Addr) (c : Nat) : SV := .v (.slice a l.length c)
abbrev intsR (l : List Int) (a : Option Addr) (c : Nat) : Value × D := (.slice a l.length c, intsD l)

theorem ints_get {l : List Int} {i : Nat} {x : Int} (h : l[i]? = some x) : (l.map (D.int .i64))[i]? = some (.int .i64 x) := by simp [h]

theorem put_spec (l : List Int) (n : Int) (a : Option Addr) (c : Nat) (hl : l.length ≤ 1000000) :
    Pure Tryz.prog (fnS 161) [intsS l a c, iS n] [intsR l a c] (fun r out => ∃ a' c', r = intsS (putF l n) a' c' ∧ out = [intsR (putF l n) a' c']) := by
  refine Meets.nilAcc 1 3 ?_
  refine spec_of_body (N := 49) (m := 0) (dt := fun _ => none) [2,4] ttOK Tryz.func161 rfl Tryz.call161 Tryz.ntmps161 rfl rfl rfl mixed (by kernel_rfl) ?_
  refine AtCut.mk ⟨Nat, fun k => [(5, iS k), (0, intsS l a c), (1, iS n)], fun _ => ⟨[], [⟨.slice none 0 0, 1, 3, []⟩], [intsR l a c]⟩,
    fun k => k ≤ l.length ∧ putF l n = l.take k ++ if l[k]? = some n then l.drop k else n :: l.drop k, fun _ _ => ⟨rfl, rfl⟩, ?_, ?_⟩
  · refine AtLoop.mk ⟨Nat, fun k => [(5, iS k), (0, intsS l a c), (1, iS n)], fun _ => ⟨[], [⟨.slice none 0 0, 1, 3, []⟩], [intsR l a c]⟩,
      fun k => k ≤ l.length ∧ putF l n = l.take k ++ putF (l.drop k) n, fun k => l.length - k, 0, ⟨Nat.zero_le _, rfl⟩, ⟨rfl, rfl, rfl, trivial⟩, StLe.refl _, fun _ _ => ⟨rfl, rfl⟩, ?_⟩
    rintro k ⟨hk, hinv⟩
    refine AtGuard.mk (fun h1 => ?_) (fun h1 => ?_)
    · have h1 : k < l.length := by simpa using h1
      obtain ⟨x, hx⟩ : ∃ x, l[k]? = some x := ⟨_, List.getElem?_eq_getElem (by omega)⟩
      refine at_index ttOK 0 rfl rfl rfl rfl (by omega) (by rw [Int.toNat_natCast]; exact ints_get hx) ?_
      refine AtIf.mk (fun h2 => ?_) (fun h2 => ?_)
      · have h2 : x < n := by simpa using h2
        have hw3 : IntKind.i64.wrap (k + 1) = ((k + 1 : Nat) : Int) := wrap_i64 (by omega) (by omega)
        refine ⟨k + 1, ⟨by omega, ?_⟩, by simp only; omega, ⟨by rw [← hw3]; rfl, rfl, rfl, trivial⟩, StLe.of rfl (List.Sublist.refl _) (by simp) rfl rfl⟩
        rw [hinv, drop_cons hx, putF, if_pos h2, List.take_add_one, hx]
        simp
      · have h2 : ¬ x < n := by simpa using h2
        refine ⟨k, ⟨hk, ?_⟩, ⟨rfl, rfl, rfl, trivial⟩, StLe.of rfl (List.Sublist.refl _) (by simp) rfl rfl⟩
        rw [hinv, drop_cons hx, putF, if_neg h2, hx]
        simp
    · have h1 : ¬ k < l.length := by simpa using h1
      refine AtIf.mk (fun h2 => by cases h2) (fun _ => ?_)
      refine ⟨k, ⟨hk, ?_⟩, ⟨rfl, rfl, rfl, trivial⟩, StLe.refl _⟩
      rw [hinv, List.drop_of_length_le (by omega)]
      simp [putF]
      intro h; have := (List.getElem?_eq_some_iff.1 h).1; omega
  rintro k ⟨hk, hinv⟩
  refine AtCut.mk ⟨Unit, fun _ => [(5, iS k), (0, intsS l a c), (1, iS n)], fun _ => ⟨[], [⟨.slice none 0 0, 1, 3, []⟩], [intsR l a c]⟩, fun _ => putF l n = l.take k ++ n :: l.drop k, fun _ _ => ⟨rfl, rfl⟩, ?_, ?_⟩
  · refine AtGuard.mk (fun h1 => ?_) (fun h1 => ?_)
    · have h1 : k < l.length := by simpa using h1
      obtain ⟨x, hx⟩ : ∃ x, l[k]? = some x := ⟨_, List.getElem?_eq_getElem (by omega)⟩
      refine at_index ttOK 0 rfl rfl rfl rfl (by omega) (by rw [Int.toNat_natCast]; exact ints_get hx) ?_
      rw [hx] at hinv
      refine AtIf.mk (fun h4 => ?_) (fun h4 => ?_)
      · have h4 : x = n := by simpa using h4
        subst h4
        rw [if_pos rfl, List.take_append_drop] at hinv
        rw [hinv]
        exact AtRet.pure [intsR l a c] rfl (by simp) ⟨a, c, rfl, rfl⟩
      · have h4 : ¬ x = n := by simpa using h4
        rw [if_neg (by simpa using h4)] at hinv
        exact ⟨(), hinv, ⟨rfl, rfl, rfl, trivial⟩, StLe.of rfl (List.Sublist.refl _) (by simp) rfl rfl⟩
    · have h1 : ¬ k < l.length := by simpa using h1
      have hlk : l[k]? = none := List.getElem?_eq_none_iff.2 (by omega)
      rw [hlk, if_neg (by simp)] at hinv
      refine AtIf.mk (fun h2 => by cases h2) (fun _ => ?_)
      exact ⟨(), hinv, ⟨rfl, rfl, rfl, trivial⟩, StLe.refl _⟩
  intro _ hres
  have hml : (l.map (D.int .i64)).length = l.length := List.length_map ..
  refine at_slice ttOK 0 0 k rfl rfl rfl rfl rfl (by omega) (by omega) ?_
  intro a1 c1 _
  refine at_append ttOK 8 0 1 rfl (by kernel_rfl) rfl rfl rfl rfl (by simp; omega) (by simp; omega) ?_
  intro a2 c2
  refine at_build ttOK 8 [.int .i64 n] rfl (by kernel_rfl) ⟨⟨rfl, rfl, rfl, rfl⟩, trivial⟩ rfl (by decide) (by decide) ?_
  intro a3
  refine at_append ttOK 8 0 2 rfl (by kernel_rfl) rfl rfl rfl rfl (by simp; omega) (by simp; omega) ?_
  intro a4 c4
  refine at_slice ttOK 0 k l.length rfl rfl rfl rfl rfl (by omega) (by omega) ?_
  intro a5 c5 _
  refine at_append ttOK 8 0 3 rfl (by kernel_rfl) rfl rfl rfl rfl (by simp; omega) (by simp; omega) ?_
  intro a6 c6
  have hds : (([] ++ ((l.map (D.int .i64)).take k).drop 0) ++ [D.int .i64 n]) ++ ((l.map (D.int .i64)).take l.length).drop k = (putF l n).map (D.int .i64) := by
    rw [hres, List.take_of_length_le (by omega : (l.map (D.int .i64)).length ≤ l.length)]
    simp [List.map_take, List.map_drop]
  have hln : (([] ++ ((l.map (D.int .i64)).take k).drop 0) ++ [D.int .i64 n]).length + (((l.map (D.int .i64)).take l.length).drop k).length = (putF l n).length := by
    rw [← List.length_append, hds, List.length_map]
  refine AtRet.grown [(intsR (putF l n) a6 c6)] rfl (fun p hp => .inr ?_) ⟨a6, c6, ?_, rfl⟩
  · simp only [List.mem_singleton] at hp
    subst hp
    refine ⟨_, List.mem_singleton.2 rfl, ?_⟩
    simp only [hds, hln]
  · simp only [hln]

mutual
def headsF (hd : Int) : Tm → Int → List Int → List Int
  | .mk o h n us, k, l => headsL hd o us 0 k (if o = 4 ∧ h = hd then (if hd ≠ 1 then putF l n else if n ≥ k then putF l (IntKind.i64.wrap (n - k)) else l) else l)
def headsL (hd : Int) : Int → List Tm → Nat → Int → List Int → List Int
  | _, [], _, _, l => l
  | o, u :: us, i, k, l => headsL hd o us (i + 1) k (headsF hd u (k + under o i) l)
 end
theorem headsF_eq (hd : Int) (t : Tm) (k : Int) (l : List Int) : headsF hd t k l = headsL hd t.op t.args 0 k (if t.op = 4 ∧ t.hd = hd then (if hd ≠ 1 then putF l t.n else if t.n ≥ k then putF l (IntKind.i64.wrap (t.n - k)) else l) else l) := by cases t; rfl

theorem putF_length : ∀ (l : List Int) (n : Int), (putF l n).length ≤ l.length + 1
  | [], n => by simp [putF]
  | x :: xs, n => by
    simp only [putF]
    split
    · have := putF_length xs n; simp; omega
    · split <;> simp

mutual
theorem headsF_length (hd : Int) : ∀ (t : Tm) (k : Int) (l : List Int), (headsF hd t k l).length ≤ l.length + t.count
  | .mk o h n us, k, l => by
    simp only [headsF, Tm.count]
    refine Nat.le_trans (headsL_length hd o us 0 k _) ?_
    have h1 := putF_length l n
    have h2 := putF_length l (IntKind.i64.wrap (n - k))
    split
    · split
      · omega
      · split <;> omega
    · omega
theorem headsL_length (hd : Int) : ∀ (o : Int) (us : List Tm) (i : Nat) (k : Int) (l : List Int), (headsL hd o us i k l).length ≤ l.length + Tm.countL us
  | o, [], i, k, l => by simp [headsL, Tm.countL]
  | o, u :: us, i, k, l => by
    simp only [headsL, Tm.countL]
    have h1 := headsL_length hd o us (i + 1) k (headsF hd u (k + under o i) l)
    have h2 := headsF_length hd u (k + under o i) l
    omega
 end

theorem count_arg {t x : Tm} {i : Nat} (h : t.args[i]? = some x) : x.count + Tm.countL (t.args.drop (i + 1)) = Tm.countL (t.args.drop i) := by
  rw [drop_cons h]; rfl
theorem Tm.count_eq (t : Tm) : t.count = Tm.countL t.args + 1 := by cases t; rfl

theorem heads_spec (hd : Int) (t : Tm) : ∀ (k : Int) (l : List Int) (a a1 : Option Addr) (c c1 : Nat), 0 ≤ k → k + t.height ≤ 1000000 → l.length + t.count ≤ 1000000 →
    Pure Tryz.prog (fnS 116) [tmS t a c, iS hd, iS k, intsS l a1 c1] [tmR t a c, intsR l a1 c1] (fun r out => ∃ a' c', r = intsS (headsF hd t k l) a' c' ∧ out = [intsR (headsF hd t k l) a' c']) := by
  induction t using Tm.ind with
  | h t ih =>
  intro k l a a1 c c1 hk0 hk1 hl
  refine Meets.of_ok fun hok => ?_
  have hB : (Tm.encL t.args).length ≤ 1152921504606846976 := (hok _ (List.mem_cons_self ..)).1
  have hlen := Tm.encL_length t.args
  have hth := Tm.height_eq t
  have htc := Tm.count_eq t
  have hF := headsF_eq hd t k l
  refine spec_of_body (N := 56) (m := 0) (dt := drawsOf [(9, .node [0, 1, 2, 3, 4, 5, 6, 7, 8, 11] [(9, .node [10] [(12, .leaf [13])])], [12], [])]) [1] ttOK Tryz.func116 rfl Tryz.call116 Tryz.ntmps116 rfl rfl rfl mixed (by kernel_rfl) ?_
  refine AtCut.mk ⟨List Int × Option Addr × Nat, fun x => [(3, intsS x.1 x.2.1 x.2.2), (4, .loc 0 0), (1, iS hd), (2, iS k)], fun x => ⟨[.cells 47 [iS t.op, iS t.hd, iS t.n, .v (.slice a (Tm.encL t.args).length c)]], [], [tmR t a c, intsR x.1 x.2.1 x.2.2]⟩,
    fun x => x.1.length ≤ l.length + 1 ∧ headsF hd t k l = headsL hd t.op t.args 0 k x.1, fun _ _ => ⟨rfl, rfl⟩, ?_, ?_⟩
  · refine AtIf.mk (fun h1 => ?_) (fun h1 => ?_)
    · have h1 : t.op = 4 ∧ t.hd = hd := by simpa using h1
      rw [if_pos h1] at hF
      refine AtIf.mk (fun h2 => ?_) (fun h2 => ?_)
      · have h2 : hd ≠ 1 := by simpa using h2
        rw [if_pos h2] at hF
        refine (put_spec l t.n a1 c1 (by omega)).at (by simp) rfl rfl ?_
        rintro r out ⟨a', c', rfl, rfl⟩
        have hpl := putF_length l t.n
        exact ⟨(putF l t.n, a', c'), ⟨hpl, hF⟩, ⟨rfl, rfl, rfl, rfl, trivial⟩, StLe.to _ _ rfl (by simp) rfl rfl⟩
      · have h2 : ¬ hd ≠ 1 := by simpa using h2
        rw [if_neg h2] at hF
        refine AtIf.mk (fun h3 => ?_) (fun h3 => ?_)
        · have h3 : t.n ≥ k := by simpa using h3
          rw [if_pos h3] at hF
          refine (put_spec l (IntKind.i64.wrap (t.n - k)) a1 c1 (by omega)).at (by simp) rfl rfl ?_
          rintro r out ⟨a', c', rfl, rfl⟩
          have hpl := putF_length l (IntKind.i64.wrap (t.n - k))
          exact ⟨(putF l (IntKind.i64.wrap (t.n - k)), a', c'), ⟨hpl, hF⟩, ⟨rfl, rfl, rfl, rfl, trivial⟩, StLe.to _ _ rfl (by simp) rfl rfl⟩
        · have h3 : ¬ t.n ≥ k := by simpa using h3
          rw [if_neg h3] at hF
          exact ⟨(l, a1, c1), ⟨by simp, hF⟩, ⟨rfl, rfl, rfl, rfl, trivial⟩, StLe.to _ _ rfl (by simp) rfl rfl⟩
    · have h1 : ¬ (t.op = 4 ∧ t.hd = hd) := by
        intro hh
        simp [hh.1, hh.2] at h1
      rw [if_neg h1] at hF
      exact ⟨(l, a1, c1), ⟨by simp, hF⟩, ⟨rfl, rfl, rfl, rfl, trivial⟩, StLe.to _ _ rfl (by simp) rfl rfl⟩
  rintro ⟨l1, a3, c3⟩ ⟨hl1, hF1⟩
  simp only at hl1 hF1 ⊢
  refine AtLoop.mk ⟨Nat × List Int × Option Addr × Nat, fun x => [(9, iS x.1), (3, intsS x.2.1 x.2.2.1 x.2.2.2), (4, .loc 0 0), (1, iS hd), (2, iS k)], fun x => ⟨[.cells 47 [iS t.op, iS t.hd, iS t.n, .v (.slice a (Tm.encL t.args).length c)]], [], [tmR t a c, intsR x.2.1 x.2.2.1 x.2.2.2]⟩,
    fun x => x.1 ≤ t.args.length ∧ x.2.1.length + Tm.countL (t.args.drop x.1) ≤ 1000000 ∧ headsF hd t k l = headsL hd t.op (t.args.drop x.1) x.1 k x.2.1, fun x => t.args.length - x.1, (0, l1, a3, c3), ⟨Nat.zero_le _, by simp only [List.drop_zero]; omega, hF1⟩, ⟨rfl, rfl, rfl, rfl, rfl, trivial⟩, StLe.refl _, fun _ _ => ⟨rfl, rfl⟩, ?_⟩
  rintro ⟨i, l2, a4, c4⟩ ⟨hi, hll, hinv⟩
  simp only at hi hll hinv ⊢
  refine AtIf.mk (fun h1 => ?_) (fun h1 => ?_)
  · simp only [decide_eq_true_eq, hlen] at h1
    obtain ⟨x, hx⟩ : ∃ x, t.args[i]? = some x := ⟨_, List.getElem?_eq_getElem (by omega)⟩
    have hxm := List.mem_of_getElem? hx
    have hxh := Tm.height_le hxm
    have hxc := count_arg hx
    have hu := under_le t.op i
    refine at_index ttOK 0 rfl rfl rfl rfl (by omega) (by rw [Int.toNat_natCast]; exact Tm.encL_get hx) ?_
    intro a5 c5 _ _
    refine (below_spec t a c i).at (by simp) rfl rfl ?_
    rintro r out ⟨rfl, rfl⟩
    refine ⟨fun _ _ h => h, ?_⟩
    have hw1 : IntKind.i64.wrap (k + under t.op i) = k + under t.op i := wrap_i64 (by omega) (by omega)
    have hsp := ih x hxm (k + under t.op i) l2 a5 a4 c5 c4 (by omega) (by omega) (by omega)
    rw [← hw1] at hsp
    refine hsp.at (by simp) rfl rfl ?_
    rintro r out ⟨a6, c6, rfl, rfl⟩
    rw [drop_cons hx, headsL, ← hw1] at hinv
    have hhl := headsF_length hd x (IntKind.i64.wrap (k + under t.op i)) l2
    have hw3 : IntKind.i64.wrap (i + 1) = ((i + 1 : Nat) : Int) := wrap_i64 (by omega) (by omega)
    exact ⟨(i + 1, headsF hd x (IntKind.i64.wrap (k + under t.op i)) l2, a6, c6), ⟨by omega, by simp only; omega, hinv⟩, by simp only; omega, ⟨by rw [← hw3]; rfl, rfl, rfl, rfl, rfl, trivial⟩, StLe.to _ _ rfl (by simp) rfl rfl⟩
  · simp only [decide_eq_false_iff_not, hlen] at h1
    rw [List.drop_of_length_le (by omega)] at hinv
    refine AtRet.pure [intsR l2 a4 c4] rfl (by simp) ⟨a4, c4, ?_⟩
    rw [hinv]
    exact ⟨rfl, rfl⟩

end Go.Proofs.YtogicnodmgdnbaaGreat
end

/-! Ref3D -/
section
namespace Go.Proofs.YtogicnodmgdnbaaGreat
open Go.Tr Go
set_option maxRecDepth 10000

theorem Tm.enc_eq (t : Tm) : t.enc = .agg [.int .i64 t.op, .int .i64 t.hd, .int .i64 t.n, .sl 4 (Tm.encL t.args)] := by cases t; rfl

mutual
theorem nodesF_count : ∀ (t : Tm) (m : Int), 0 ≤ m → nodesF t m = min (t.count : Int) (m + 1)
  | .mk o h n us, m, hm => by
    have := nodesL_count us m 1 (by omega)
    have e := Tm.count_eq (.mk o h n us)
    simp only [Tm.args] at e
    rw [e]
    simp only [nodesF, this]
    split <;> omega
theorem nodesL_count : ∀ (us : List Tm) (m n : Int), n ≤ m + 1 → nodesL us m n = min (n + (Tm.countL us : Nat)) (m + 1)
  | [], m, n, h => by simp only [nodesL, Tm.countL]; omega
  | u :: us, m, n, h => by
    have hp := Tm.count_pos u
    simp only [nodesL, Tm.countL]
    split
    · have h1 := nodesF_count u (m - n) (by omega)
      have h2 := nodesF_le u (m - n) (by omega)
      have h3 := nodesL_count us m (n + nodesF u (m - n)) (by omega)
      rw [h3, h1]
      omega
    · omega
 end

mutual
theorem formedF_iff : ∀ (t : Tm) (d : Int), formedF t d = true ↔ okAll t = true ∧ d + t.height ≤ 41
  | .mk o h n us, d => by
    have hl := formedL_iff us (d + 1)
    simp only [formedF, okAll, Tm.height, Bool.and_eq_true]
    by_cases h1 : 40 < d
    · rw [if_pos h1]
      simp only [Bool.false_eq_true, false_iff]
      omega
    · rw [if_neg h1, Bool.and_eq_true, hl]
      constructor
      · rintro ⟨h2, h3, h4⟩
        refine ⟨⟨h2, h3⟩, ?_⟩
        rcases h4 with rfl | h4
        · simp only [Tm.heightL]; omega
        · omega
      · rintro ⟨⟨h2, h3⟩, h4⟩
        exact ⟨h2, h3, .inr (by omega)⟩
theorem formedL_iff : ∀ (us : List Tm) (d : Int), formedL us d = true ↔ okAllL us = true ∧ (us = [] ∨ d + Tm.heightL us ≤ 41)
  | [], d => by simp [formedL, okAllL]
  | u :: us, d => by
    have h1 := formedF_iff u d
    have h2 := formedL_iff us d
    have hq := Tm.height_pos u
    simp only [formedL, okAllL, Tm.heightL, Bool.and_eq_true, h1, h2, reduceCtorEq, false_or]
    constructor
    · rintro ⟨⟨h3, h4⟩, h5, h6⟩
      refine ⟨⟨h3, h5⟩, ?_⟩
      rcases h6 with rfl | h6
      · simp only [Tm.heightL]; omega
      · omega
    · rintro ⟨⟨h3, h5⟩, h6⟩
      exact ⟨⟨h3, by omega⟩, h5, .inr (by omega)⟩
 end

theorem refProper_eq (t : Tm) : refProper t = isProper t := by
  rw [Bool.eq_iff_iff, isProper_iff, refProper, Bool.and_eq_true, formedF_iff, nodesF_count t 600 (by omega), decide_eq_true_eq]
  constructor
  · rintro ⟨h1, h2, h3⟩
    exact ⟨h2, by omega, by omega⟩
  · rintro ⟨h1, h2, h3⟩
    exact ⟨by omega, h1, by omega⟩

end Go.Proofs.YtogicnodmgdnbaaGreat
end

/-! FwQ -/
section
namespace Go.Tr
open Go
set_option linter.unusedSimpArgs false

/-- A slice that is nil reads as the empty list. -/
theorem Meets.nilRep {P : Program} {cl : Cal} {args : List SV} {own : List Blk} {accs : List Acc} {rs : List (Value × D)} {R : Out → St → Prop} (k : Nat) (h : Meets P cl args ⟨own, accs, (.slice none 0 0, .sl k []) :: rs⟩ R) : Meets P cl args ⟨own, accs, rs⟩ R := by
  intro J ℓ w hG hJ
  refine h J ℓ w ⟨hG.len, hG.nodup, hG.lt, hG.memJ, hG.wf, hG.own, hG.accs, ?_⟩ hJ
  intro p hp
  rcases List.mem_cons.1 hp with e | e
  · subst e
    exact ⟨none, 0, rfl, ⟨Nat.zero_le _, Nat.zero_le _⟩, .inl rfl⟩
  · exact hG.reps p e

/-- The place of an element of a slice whose block is known. -/
theorem at_index_acc {P : Program} {tt : Tab} (hT : TTOK P tt) {t e : TypeId} {k : Nat} {x ix : SV} {S : St} {K : SV → St → Prop} {b n c : Nat} {i : Int} {kk : IntKind} (hx : x = .v (.slice (some ⟨b, 0, none⟩) n c)) (hi : ix = .v (.int kk i)) (ht : tt t = some (.slice e k))
    (h0 : 0 ≤ i) (hlt : i < n) (h : K (.v (.pointer (some ⟨b, i.toNat * k, none⟩))) S) : AtPure P (fun ℓ => Instr.indexAt t (x.den ℓ) (ix.den ℓ)) S K := by
  subst hx hi
  refine AtPure.val _ rfl (fun ℓ w => ?_) h
  obtain ⟨_, hu, hse⟩ := hT t _ ht
  simp only [Instr.indexAt, SV.den, asIntOf, pure_bind, Sem.run_bind, run_underlying' hu, Result.andThen_ok, Sem.run_pure]
  rw [if_pos ⟨h0, hlt⟩]
  simp only [Sem.run_bind, hse, Result.andThen_ok, Sem.run_pure, addr_add, Nat.zero_add]

end Go.Tr
end

/-! Ref15A -/
section
namespace Go.Proofs.YtogicnodmgdnbaaGreat
open Go.Tr Go
set_option maxRecDepth 10000


theorem okAll_n {t : Tm} (h : okAll t = true) : 0 ≤ t.n ∧ t.n ≤ 9999 := by
  cases t with
  | mk o hd n us =>
    simp only [okAll, Bool.and_eq_true] at h
    have h1 := h.1
    simp only [Tm.n]
    unfold okNode at h1
    split at h1
    · simp at h1; omega
    · split at h1
      · simp at h1; omega
      · split at h1
        · simp at h1; omega
        · split at h1
          · simp at h1; omega
          · cases h1

end Go.Proofs.YtogicnodmgdnbaaGreat
end

/-! Ref15B -/
section
namespace Go.Proofs.YtogicnodmgdnbaaGreat
open Go.Tr Go
set_option maxRecDepth 10000

section
variable (fx : Int) (a : Tm)


end

end Go.Proofs.YtogicnodmgdnbaaGreat
end

/-! Orders -/
section
namespace Go.Proofs.YtogicnodmgdnbaaGreat
open Go.Tr Go
set_option maxRecDepth 10000

inductive Od where
  | mk (op n : Int) (parts : List Od)

def Od.op : Od → Int | .mk o _ _ => o
def Od.n : Od → Int | .mk _ n _ => n
def Od.parts : Od → List Od | .mk _ _ p => p

mutual
def Od.enc : Od → D
  | .mk o n p => .agg [.int .i64 o, .int .i64 n, .sl 3 (Od.encL p)]
def Od.encL : List Od → List D
  | [] => []
  | t :: ts => t.enc :: Od.encL ts
 end

theorem Od.encL_eq : ∀ (l : List Od), Od.encL l = l.map Od.enc
  | [] => rfl
  | t :: ts => by simp only [Od.encL, List.map_cons, Od.encL_eq ts]
theorem Od.encL_length (l : List Od) : (Od.encL l).length = l.length := by simp [Od.encL_eq]
theorem Od.encL_get {l : List Od} {i : Nat} {t : Od} (h : l[i]? = some t) : (Od.encL l)[i]? = some (.agg [.int .i64 t.op, .int .i64 t.n, .sl 3 (Od.encL t.parts)]) := by
  rw [Od.encL_eq, List.getElem?_map, h]; cases t; rfl

theorem Od.ind {motive : Od → Prop} (h : ∀ t, (∀ x ∈ t.parts, motive x) → motive t) (t : Od) : motive t := by
  induction t using Od.rec (motive_2 := fun ts => ∀ x ∈ ts, motive x) with
  | nil => rename_i x hx; cases hx
  | cons t ts ih1 ih2 => rename_i x hx; rcases List.mem_cons.1 hx with e | e; (subst e; exact ih1); exact ih2 x e
  | mk op n parts ih => exact h _ ih

end Go.Proofs.YtogicnodmgdnbaaGreat
end

/-! LawA -/
section
namespace Go.Proofs.YtogicnodmgdnbaaGreat
open Go.Tr Go
set_option maxRecDepth 10000

theorem lookI_putI (n v : Int) : ∀ (l : List (Int × Int)) (m : Int), lookI (putI n v l) m = if m = n then some v else lookI l m
  | [], m => by simp only [putI, lookI]
  | (k, u) :: r, m => by
    simp only [putI]
    by_cases h : n = k
    · subst h
      rw [if_pos rfl]
      simp only [lookI]
      split <;> rfl
    · rw [if_neg h]
      simp only [lookI, lookI_putI n v r m]
      by_cases h2 : m = k
      · rw [if_pos h2, if_neg (by omega)]; simp [h2]
      · rw [if_neg h2]; simp [h2]

/-- What is chosen, as the program and the reference keep it. -/
structure Rel (st : Nat) (ch : List (Int × Int)) (l : List Int) : Prop where
  len : l.length = st
  none : ∀ y : Nat, y < st → lookI ch y = none → l.getD y 0 = -1
  some : ∀ (y : Nat) (x : Int), y < st → lookI ch y = some x → l.getD y 0 = x ∧ 0 ≤ x

theorem getD_set {l : List Int} {i j : Nat} {x : Int} (h : i < l.length) : (l.set i x).getD j 0 = if j = i then x else l.getD j 0 := by
  simp only [List.getD_eq_getElem?_getD, List.getElem?_set]
  by_cases hj : i = j
  · subst hj; simp [h]
  · rw [if_neg hj, if_neg (by omega)]

theorem Rel.put {st : Nat} {ch : List (Int × Int)} {l : List Int} (h : Rel st ch l) (y : Nat) (x : Int) (hy : y < st) (hx : 0 ≤ x) : Rel st (putI y x ch) (l.set y x) := by
  have hl := h.len
  refine ⟨by rw [List.length_set, hl], ?_, ?_⟩
  · intro z hz hn
    rw [lookI_putI] at hn
    split at hn
    · cases hn
    · rename_i hne
      rw [getD_set (by omega), if_neg (by omega)]
      exact h.none z hz hn
  · intro z w hz hn
    rw [lookI_putI] at hn
    split at hn
    · rename_i he
      cases hn
      rw [getD_set (by omega), if_pos (by omega)]
      exact ⟨rfl, hx⟩
    · rename_i hne
      rw [getD_set (by omega), if_neg (by omega)]
      exact h.some z w hz hn


section
variable (fx : Int) (a : Tm) (ha : okAll a = true) (hh : a.height ≤ 1000000) (hf0 : 0 ≤ fx) (hf1 : fx ≤ 1000000)
include ha hh

include hf0 hf1

end
end Go.Proofs.YtogicnodmgdnbaaGreat
end

/-! LawB -/
section
namespace Go.Proofs.YtogicnodmgdnbaaGreat
open Go.Tr Go
set_option maxRecDepth 10000

mutual
/-- The numbers of the free variables of a term, as they stand. -/
def fvF : Tm → Int → List Int
  | .mk o h n us, k => (if o = 4 ∧ h = 1 ∧ n ≥ k then [n - k] else []) ++ fvL o us 0 k
def fvL : Int → List Tm → Nat → Int → List Int
  | _, [], _, _ => []
  | o, u :: us, i, k => fvF u (k + under o i) ++ fvL o us (i + 1) k
 end

theorem mem_putF (x n : Int) : ∀ (l : List Int), x ∈ putF l n ↔ x = n ∨ x ∈ l
  | [] => by simp [putF]
  | y :: l => by
    simp only [putF]
    split
    · simp only [List.mem_cons, mem_putF x n l]
      constructor
      · rintro (h | h | h)
        · exact .inr (.inl h)
        · exact .inl h
        · exact .inr (.inr h)
      · rintro (h | h | h)
        · exact .inr (.inl h)
        · exact .inl h
        · exact .inr (.inr h)
    · split
      · rename_i h1 h2
        subst h2
        simp
      · simp

mutual
theorem heads_mem (x : Int) : ∀ (t : Tm) (k : Int) (l : List Int), okAll t = true → 0 ≤ k → k + t.height ≤ 1000000 → (x ∈ headsF 1 t k l ↔ x ∈ l ∨ x ∈ fvF t k)
  | .mk o h n us, k, l, hok, hk0, hk1 => by
    have hn := okAll_n hok
    simp only [Tm.n] at hn
    have hus : okAllL us = true := by simp only [okAll, Bool.and_eq_true] at hok; exact hok.2
    have hth : Tm.heightL us + 1 = (Tm.mk o h n us).height := by simp only [Tm.height]
    have w1 : IntKind.i64.wrap (n - k) = n - k := wrap_i64 (by omega) (by omega)
    simp only [headsF, fvF, w1, List.mem_append]
    rw [heads_memL x o us 0 k _ hus hk0 (by omega)]
    by_cases h1 : o = 4 ∧ h = 1
    · rw [if_pos h1, if_neg (by simp)]
      by_cases h2 : n ≥ k
      · rw [if_pos h2, if_pos ⟨h1.1, h1.2, h2⟩, mem_putF]
        simp only [List.mem_singleton, or_assoc]
        constructor
        · rintro (h | h | h)
          · exact .inr (.inl h)
          · exact .inl h
          · exact .inr (.inr h)
        · rintro (h | h | h)
          · exact .inr (.inl h)
          · exact .inl h
          · exact .inr (.inr h)
      · rw [if_neg h2, if_neg (fun h => h2 h.2.2)]
        simp
    · rw [if_neg h1, if_neg (fun h => h1 ⟨h.1, h.2.1⟩)]
      simp
theorem heads_memL (x : Int) : ∀ (o : Int) (us : List Tm) (i : Nat) (k : Int) (l : List Int), okAllL us = true → 0 ≤ k → k + 1 + Tm.heightL us ≤ 1000000 → (x ∈ headsL 1 o us i k l ↔ x ∈ l ∨ x ∈ fvL o us i k)
  | o, [], i, k, l, _, _, _ => by simp [headsL, fvL]
  | o, u :: us, i, k, l, hok, hk0, hk1 => by
    simp only [okAllL, Bool.and_eq_true] at hok
    simp only [Tm.heightL] at hk1
    have hu := under_le o i
    simp only [headsL, fvL, List.mem_append]
    rw [heads_memL x o us (i + 1) k _ hok.2 hk0 (by omega), heads_mem x u _ l hok.1 (by omega) (by omega), or_assoc]
 end


theorem mem_putAt (x n : Int) (v : Value) : ∀ (l : List (Int × Value)), x ∈ (putAt n v l).map (·.1) ↔ x = n ∨ x ∈ l.map (·.1)
  | [] => by simp [putAt]
  | (k, u) :: r => by
    simp only [putAt]
    split
    · rename_i h
      subst h
      simp
    · simp only [List.map_cons, List.mem_cons, mem_putAt x n v r]
      constructor
      · rintro (h | h | h)
        · exact .inr (.inl h)
        · exact .inl h
        · exact .inr (.inr h)
      · rintro (h | h | h)
        · exact .inr (.inl h)
        · exact .inl h
        · exact .inr (.inr h)

theorem noteStep_eq (o h n : Int) (us : List Tm) (k : Int) (l : List (Int × Value)) : noteStep freeOf l (.mk o h n us) k = if o = 4 ∧ h = 1 ∧ k ≤ n then putAt (IntKind.i64.wrap (n - k)) (.bool true) l else l := by
  have hc : ((Tm.mk o h n us).op = 4 ∧ (freeOf (.mk o h n us) k).2 = true) ↔ (o = 4 ∧ h = 1 ∧ k ≤ n) := by
    simp [freeOf, Tm.op, Tm.hd, Tm.n]
    intro _ _
    exact decide_eq_true_iff
  rw [noteStep]
  by_cases h1 : o = 4 ∧ h = 1 ∧ k ≤ n
  · rw [if_pos h1, if_pos (hc.2 h1)]; rfl
  · rw [if_neg h1, if_neg (fun h => h1 (hc.1 h))]

mutual
theorem walk_mem (x : Int) : ∀ (t : Tm) (k : Int) (l : List (Int × Value)), okAll t = true → 0 ≤ k → k + t.height ≤ 1000000 → (x ∈ (walkF (noteStep freeOf) t l k).map (·.1) ↔ x ∈ l.map (·.1) ∨ x ∈ fvF t k)
  | .mk o h n us, k, l, hok, hk0, hk1 => by
    have hn := okAll_n hok
    simp only [Tm.n] at hn
    have hus : okAllL us = true := by simp only [okAll, Bool.and_eq_true] at hok; exact hok.2
    have hth : Tm.heightL us + 1 = (Tm.mk o h n us).height := by simp only [Tm.height]
    have w1 : IntKind.i64.wrap (n - k) = n - k := wrap_i64 (by omega) (by omega)
    simp only [walkF, fvF, List.mem_append]
    rw [walk_memL x o us 0 k _ hus hk0 (by omega)]
    rw [noteStep_eq, w1]
    have hge : (o = 4 ∧ h = 1 ∧ n ≥ k) = (o = 4 ∧ h = 1 ∧ k ≤ n) := rfl
    simp only [hge]
    by_cases h1 : o = 4 ∧ h = 1 ∧ k ≤ n
    · rw [if_pos h1, if_pos h1, mem_putAt]
      simp only [List.mem_singleton, or_assoc]
      constructor
      · rintro (h | h | h)
        · exact .inr (.inl h)
        · exact .inl h
        · exact .inr (.inr h)
      · rintro (h | h | h)
        · exact .inr (.inl h)
        · exact .inl h
        · exact .inr (.inr h)
    · rw [if_neg h1, if_neg h1]
      simp
theorem walk_memL (x : Int) : ∀ (o : Int) (us : List Tm) (i : Nat) (k : Int) (l : List (Int × Value)), okAllL us = true → 0 ≤ k → k + 1 + Tm.heightL us ≤ 1000000 → (x ∈ (walkL (noteStep freeOf) o us i l k).map (·.1) ↔ x ∈ l.map (·.1) ∨ x ∈ fvL o us i k)
  | o, [], i, k, l, _, _, _ => by simp [walkL, fvL]
  | o, u :: us, i, k, l, hok, hk0, hk1 => by
    simp only [okAllL, Bool.and_eq_true] at hok
    simp only [Tm.heightL] at hk1
    have hu := under_le o i
    simp only [walkL, fvL, List.mem_append]
    rw [walk_memL x o us (i + 1) k _ hok.2 hk0 (by omega), walk_mem x u _ l hok.1 (by omega) (by omega), or_assoc]
 end

theorem sorted_mem (x : Int) (l : List Int) : x ∈ sorted l ↔ x ∈ l := by
  simp only [sorted, List.mem_mergeSort]

theorem sorted_le (l : List Int) : (sorted l).Pairwise (· ≤ ·) := by
  have tr : ∀ a b c : Int, decide (a ≤ b) = true → decide (b ≤ c) = true → decide (a ≤ c) = true := by simp; omega
  have tot : ∀ a b : Int, (decide (a ≤ b) || decide (b ≤ a)) = true := by simp; omega
  exact (List.pairwise_mergeSort tr tot l).imp (by simp)

end Go.Proofs.YtogicnodmgdnbaaGreat
end

/-! FwR -/
section
namespace Go.Tr
open Go
set_option linter.unusedSimpArgs false

theorem list_of {α : Type} {p : Nat → α → Prop} : ∀ (n : Nat), (∀ i, i < n → ∃ a, p i a) → ∃ l : List α, l.length = n ∧ ∀ i, i < n → ∃ a, l[i]? = some a ∧ p i a
  | 0, _ => ⟨[], rfl, fun i h => by omega⟩
  | n + 1, h => by
    obtain ⟨l, hl, hp⟩ := list_of n (fun i hi => h i (by omega))
    obtain ⟨a, ha⟩ := h n (by omega)
    refine ⟨l ++ [a], by simp [hl], fun i hi => ?_⟩
    by_cases hin : i < n
    · obtain ⟨b, h1, h2⟩ := hp i hin
      exact ⟨b, by rw [List.getElem?_append_left (by omega)]; exact h1, h2⟩
    · have : i = n := by omega
      subst this
      exact ⟨a, by rw [List.getElem?_append_right (by omega)]; simp [hl], ha⟩

theorem RepE.of_index {J : Nat → Prop} {w : World} {k : Nat} : ∀ {ds : List D} {cs : List Value}, (∀ (i : Nat) (d : D), ds[i]? = some d → i * k + k ≤ cs.length ∧ RepC J w d ((cs.drop (i * k)).take k)) → RepE J w k ds cs
  | [], _, _ => by simp [RepE]
  | d :: ds, cs, h => by
    simp only [RepE]
    have h0 := h 0 d rfl
    simp only [Nat.zero_mul, Nat.zero_add, List.drop_zero] at h0
    refine ⟨h0.1, h0.2, RepE.of_index fun i e hi => ?_⟩
    have h1 := h (i + 1) e (by simpa using hi)
    rw [Nat.add_mul, Nat.one_mul] at h1
    refine ⟨by rw [List.length_drop]; omega, ?_⟩
    rw [List.drop_drop, Nat.add_comm k]
    exact h1.2

theorem cells_take {w : World} {b off n k : Nat} {c : Array Value} {T : TypeId} {fz : Nat × Nat} {cs : List Value} (hb : w.heap[b]? = some (.cells c T fz)) (h : w.cells? 0 ((⟨b, off, none⟩ : Addr).add n) k = some cs) :
    (k = 0 ∨ n + k ≤ (c.toList.drop off).length) ∧ ((c.toList.drop off).drop n).take k = cs := by
  obtain ⟨_, hl, hc⟩ := World.cells?_some h
  have he : ((c.toList.drop off).drop n).take k = cs := by
    apply List.ext_getElem?
    intro j
    rw [List.getElem?_take]
    by_cases hj : j < k
    · rw [if_pos hj]
      have := hc j hj
      rw [addr_add, addr_add] at this
      simp only [World.cell?, hb] at this
      rw [← this]
      simp [List.getElem?_drop, Nat.add_assoc]
    · rw [if_neg hj, List.getElem?_eq_none (by omega)]
  refine ⟨?_, he⟩
  have := congrArg List.length he
  rw [List.length_take, List.length_drop, hl] at this
  omega

theorem mem_weightsAll {H : Type} {P : Program} {e : TypeId} {d : DataW H} {y : Nat} (hy : y ∈ d.weights P e) : ∀ {l : List (DataW H)}, d ∈ l → y ∈ DataW.weightsAll P e l
  | [], h => by simp at h
  | x :: l, h => by
    simp only [DataW.weightsAll, List.mem_append]
    rcases List.mem_cons.1 h with r | r
    · subst r; exact .inl hy
    · exact .inr (mem_weightsAll hy r)

section
variable {H : Type} {enc : TypeId × Value → H} {P : Program} {W : World}

/-- A slice reads as a list of data, if its elements read as such. -/
theorem read_slice {t e : TypeId} {k : Nat} (ht : P.underlying t = some (.slice e)) (hk : P.cellsOf e = k) (hk0 : 0 < k) (hby : 1 ≤ P.bytesOf e) {α : Type} (en : α → D) (n : Nat)
    (hel : ∀ m, m < n → ∀ cs x, DataW.trod enc P W 0 (fun _ => true) true m e cs = some x → (∀ y ∈ x.1.weights P e, y ≤ reachBytes) → ∃ a, RepC (fun _ => True) W (en a) cs)
    {cs : List Value} {x : DataW H × List MemPlace} (h : DataW.trod enc P W 0 (fun _ => true) true n t cs = some x) (hw : ∀ y ∈ x.1.weights P t, y ≤ reachBytes) :
    ∃ (l : List α) (a : Option Addr) (c : Nat), cs = [.slice a l.length c] ∧ RepC (fun _ => True) W (.sl k (l.map en)) cs := by
  rcases DataW.trod_slice ht h with ⟨rfl, rfl⟩ | ⟨a, len, cap, elems, rest, m, rfl, rfl, rfl, _, hlc, hcm, hlen, hels, _, _⟩
  · exact ⟨[], none, 0, rfl, none, 0, rfl, ⟨Nat.le_refl _, Nat.zero_le _⟩, .inl rfl⟩
  simp only [DataW.weights, ht] at hw
  have hsz : len ≤ 1152921504606846976 := by
    have h1 := hw _ (List.mem_cons_self ..)
    simp only [List.length_map, hlen] at h1
    have h2 : len ≤ (len + rest.length) * P.bytesOf e := Nat.le_trans (Nat.le_add_right _ _) (Nat.le_mul_of_pos_right _ hby)
    have h3 : reachBytes = 140737488351232 := rfl
    omega
  have hex : ∀ i, i < len → ∃ b : α, ∃ cs', W.cells? 0 (a.add (i * k)) k = some cs' ∧ RepC (fun _ => True) W (en b) cs' := by
    intro i hi
    have h1 := hels i hi
    rw [hk, List.getElem?_eq_getElem (by omega)] at h1
    obtain ⟨cs', h2, h3⟩ := Option.bind_eq_some_iff.1 h1
    obtain ⟨b, hb⟩ := hel m (by omega) cs' _ h3 (fun y hy => hw y (List.mem_cons_of_mem _ (List.mem_append.2 (.inl (mem_weightsAll hy (List.mem_map_of_mem (List.getElem_mem (by omega))))))))
    exact ⟨b, cs', h2, hb⟩
  obtain ⟨l, hl, hp⟩ := list_of len hex
  refine ⟨l, some a, cap, by rw [hl], some a, cap, by rw [List.length_map, hl], ⟨by rw [List.length_map, hl]; exact hlc, by rw [List.length_map, hl]; exact hsz⟩, ?_⟩
  by_cases hz : len = 0
  · left
    have : l = [] := List.eq_nil_of_length_eq_zero (by omega)
    rw [this]; rfl
  right
  -- the block
  obtain ⟨b0, _, cs0, h0, _⟩ := hp 0 (by omega)
  obtain ⟨_, hl0, hc0⟩ := World.cells?_some h0
  have hc := hc0 0 hk0
  rw [List.getElem?_eq_getElem (by omega)] at hc
  have ha0 : (a.add (0 * k)).add 0 = a := by simp [Addr.add]
  rw [ha0] at hc
  simp only [World.cell?] at hc
  split at hc
  · rename_i c T fz hb
    split at hc
    · cases hc
    · rename_i hs
      have hsp : a.spot = none := by cases hq : a.spot with | none => rfl | some v => simp [hq] at hs
      obtain ⟨bk, off, sp⟩ := a
      simp only at hsp
      subst hsp
      refine ⟨bk, off, c, T, fz, rfl, trivial, hb, RepE.of_index fun i d hi => ?_⟩
      rw [List.getElem?_map] at hi
      have hil : i < len := by
        rcases Nat.lt_or_ge i len with h1 | h1
        · exact h1
        · rw [List.getElem?_eq_none (by omega)] at hi; cases hi
      obtain ⟨b', h1, cs', h2, h3⟩ := hp i hil
      rw [h1] at hi
      cases hi
      obtain ⟨h4, h5⟩ := cells_take hb h2
      rw [h5]
      exact ⟨by omega, h3⟩
  · cases hc

/-- What a call that turns nothing leaves. -/
theorem keptBut_of_ext {W W' : World} (h : Ext [] W W') (may : MemPlace → Prop) : W.keptBut W' may := by
  refine ⟨h.os, h.output, fun i hi => ?_⟩
  rw [h.block i hi (by simp)]
  exact (World.keptBut_refl W may).2.2 i hi

theorem frozen_of_ext {W W' : World} (h : Ext [] W W') {a : Addr} (ha : a.block < W.heap.size) : W'.frozen? a = W.frozen? a := by
  simp only [World.frozen?, h.block a.block ha (by simp)]

theorem sameAt_of_ext {W W' : World} (h : Ext [] W W') {p : MemPlace} (hp : p.block < W.heap.size) : W.sameAt W' p := by
  cases p with
  | cell b off =>
    simp only [World.sameAt, World.cell?]
    rw [h.block b hp (by simp)]
  | map b => exact h.block b hp (by simp)

theorem trodAll_carry {W' : World} {base : Nat} {spare : Nat → Bool} {held : Bool} : ∀ {ts : List TypeId} {vs : List Value} {ds : List (DataW H)} {ps : List MemPlace}, DataW.TrodAll enc P W base spare held ts vs ds ps → (∀ p ∈ ps, W.sameAt W' p) → DataW.TrodAll enc P W' base spare held ts vs ds ps
  | [], [], [], _, h, _ => h
  | _ :: _, _ :: _, _ :: _, _, ⟨p, q, ⟨n, h1⟩, h2, e⟩, hs => ⟨p, q, ⟨n, DataW.trod_carry n _ _ _ h1 (fun x hx => hs x (by rw [e]; exact List.mem_append_left _ hx))⟩, trodAll_carry h2 (fun x hx => hs x (by rw [e]; exact List.mem_append_right _ hx)), e⟩

theorem trodAll_len {base : Nat} {spare : Nat → Bool} {held : Bool} : ∀ {ts : List TypeId} {vs : List Value} {ds : List (DataW H)} {ps : List MemPlace}, DataW.TrodAll enc P W base spare held ts vs ds ps → ds.length = ts.length
  | [], [], [], _, _ => rfl
  | _ :: _, _ :: _, _ :: _, _, ⟨_, _, _, h2, _⟩ => by simp only [List.length_cons, trodAll_len h2]

/-- A law's row: the call answers true and turns nothing. -/
theorem post_true {f : Func} {s : ChangeSpec} {fresh handsOn again : Bool} {t : TypeId} {W W' : World} {args : Array Value} {ds gs : List (DataW H)} {before : List MemPlace} (K : Kids P (· < P.types.size)) (hz : ∀ t e, t < P.types.size → P.underlying t = some (.slice e) → 0 < P.cellsOf e)
    (hW : DataW.Whole enc P f.params.toList s.vars false W args.toList ds gs before) (hv : s.vars = []) (hT : ∀ t ∈ f.params.toList, t < P.types.size)
    (hs : ∀ ds : List (DataW H), ds.length = f.params.size → s.fn H ds = { results := [.lit (.bool true)], args := ds }) (hr : f.resultTypes = #[t]) (ht : P.underlying t = some .bool) (hx : Ext [] W W') :
    s.post enc P f false fresh handsOn again W args (.bool true) W' := by
  have hW0 := hW
  obtain ⟨p, q, hA, hV, rfl, hfz, hnd⟩ := hW0
  rw [hv] at hV
  obtain ⟨rfl, rfl⟩ := Go.ChangeShapes.trodVars_none hV
  have hlen : (ds ++ ([] : List (DataW H))).length = f.params.size := by
    rw [List.append_nil]
    have := trodAll_len hA
    simpa using this
  have hfn := hs (ds ++ []) hlen
  rw [List.append_nil] at hW
  have hlt : ∀ x ∈ p, x.block < W.heap.size := fun x hx => hW.lt x hx
  have hcar := trodAll_carry hA (fun x hx' => sameAt_of_ext hx (hlt x hx'))
  have hargs : ∀ sp : Nat → Bool, (∀ x ∈ p, sp x.block = true) → DataW.TrodAll enc P W' 0 sp true f.params.toList args.toList ds p := fun sp hsp => hcar.respare K hz hT hsp
  have hres : ∀ (b : Nat) (sp : Nat → Bool) (hd : Bool), DataW.TrodAll enc P W' b sp hd f.resultTypes.toList ((Value.bool true).resultList f.resultTypes.size) [.lit (.bool true)] [] := by
    intro b sp hd
    rw [hr]
    exact trodAll_cons_mk (Go.RowKit.shut_bool ht _) Go.ChangeShapes.trodAll_mk0
  have hok : ∀ (j : Nat) (t' : TypeId) (r : Value), f.resultTypes[j]? = some t' → ((Value.bool true).resultList f.resultTypes.size)[j]? = some r → Value.okWide P W' .any 0 t' r := Go.RowKit.ok_one hr rfl (Go.RowKit.okWide_bool_mk ht _)
  have hold : ∀ x ∈ p, (fun b => decide (b < W.heap.size)) x.block = true := fun x hx => by simpa using hlt x hx
  refine ⟨ds, [], p, [], p, [], by rw [hv]; simpa [hv] using hW, ?_, ?_, ?_, World.keptBut_mono (fun x hx => ⟨hx, .inr (.inl hx)⟩) (keptBut_of_ext hx (· ∈ p)), fun _ => ?_⟩
  · rw [hfn]; exact hres _ _ _
  · rw [hfn, List.append_nil]; exact hargs _ hold
  · rw [hfn, hv]; exact rfl
  · refine ⟨hok, _, [], ([] ++ p) ++ [], ⟨[] ++ p, [], Go.ChangeShapes.trodAll_append (hargs _ (fun _ _ => rfl)) (hres _ _ _), by rw [hv]; exact rfl, rfl, ?_, by intro h; cases h⟩, ?_⟩
    · intro b off hp
      have hp : MemPlace.cell b off ∈ p := by simpa using hp
      rw [frozen_of_ext hx (hlt _ hp)]
      exact hfz b off (by simpa using hp)
    · intro y hy _
      simpa using hy
end

/-- A contract of a call that writes nothing, as the statements want it. -/
theorem Pure.calls {P : Program} {f : FuncId} {args : List SV} {rs : List (Value × D)} {R : SV → List (Value × D) → Prop} (h : Pure P (.val (.fn (.func f) [] [])) args rs R) (hc : ∀ ag w, (callFunc f ag).run P w = .ok (.enter f ag) w) {W : World} (hr : ∀ p ∈ rs, Rep (fun _ => True) W p.1 p.2) :
    Calls P f (SV.denL [] args).toArray W (fun e W' => ∃ r out, e = .returned (r.den []) ∧ R r out ∧ Ext [] W W') := by
  have hm : mutS [] (⟨[], [], rs⟩ : St) = [] := rfl
  have hG : Good (fun _ => True) [] ⟨[], [], rs⟩ W := by
    refine ⟨rfl, by simp [hm], by simp [hm], by simp [hm], by simp, by simp, by simp, ?_⟩
    intro p hp
    rw [hm]
    exact (hr p hp).map (fun b _ _ => ⟨⟨trivial, by simp⟩, rfl⟩)
  obtain ⟨nx, h1, h2⟩ := h (fun _ => True) [] W hG (fun _ _ => trivial)
  simp only [Cal.sem, SV.den, SV.denL, Deferred.ofValue, Sem.run_bind, Sem.run_pure, Result.andThen_ok, invoke] at h1
  have h3 := hc (SV.denL [] args).toArray W
  have h4 : nx = .enter f (SV.denL [] args).toArray := by
    have h5 := h1
    simp only [List.append_nil, Array.append_empty, Array.empty_append] at h5
    rw [h3] at h5
    cases h5
    rfl
  subst h4
  refine (callsIn_wide (n := 0)).1 (CallsIn.mono h2 ?_)
  rintro e w' ⟨ℓ', o, S', rfl, _, _, hx, hG', _, r, out, rfl, rfl, hwf, hR⟩
  have hl : ℓ' = [] := by have := hG'.len; simpa using this
  subst hl
  exact ⟨r, out, rfl, hR, hx⟩
end Go.Tr
end

/-! Reads -/
section
namespace Go.Proofs.YtogicnodmgdnbaaGreat
open Go.Tr Go
set_option maxRecDepth 10000

section
variable {H : Type} {enc : TypeId × Value → H} {W : World}

theorem arg_int {base : Nat} {v : Value} {d : DataW H} {p : List MemPlace} (hok : Value.okWide Tryz.prog W .any base 3 v) (h : DataW.Trod enc Tryz.prog W 0 (fun _ => true) true 3 v d p) :
    ∃ n : Int, v = (iS n).den [] ∧ (Lit.int .i64 n).wf = true := by
  obtain ⟨n, rfl, _, _, hwf⟩ := Go.ChangeShapes.open_int Tryz.underlying3 hok h
  exact ⟨n, rfl, hwf⟩
end
end Go.Proofs.YtogicnodmgdnbaaGreat
end

/-! RowKit -/
section
namespace Go.Proofs.YtogicnodmgdnbaaGreat
open Go.Tr Go
open Go.ChangeShapes Go.WideShapes Go.ChangeAt Go.RowKit
set_option maxRecDepth 10000

theorem own : ownKnob Tryz.prog.godebug = none := by kernel_rfl
theorem kids : Kids Tryz.prog (· < Tryz.prog.types.size) := kids_rows (by kernel_rfl) (by kernel_rfl)
theorem full : ∀ t e, t < Tryz.prog.types.size → Tryz.prog.underlying t = some (.slice e) → 0 < Tryz.prog.cellsOf e := slices_full_of Tryz.prog (by kernel_rfl)

theorem all_le {l : List Nat} (h : l.all (· ≤ reachBytes) = true) : ∀ y ∈ l, y ≤ reachBytes := fun y hy => by simpa using List.all_eq_true.1 h y hy

section
variable {H : Type} {enc : TypeId × Value → H} {W : World}

end
end Go.Proofs.YtogicnodmgdnbaaGreat
end

/-! FwS -/
section
namespace Go.Tr
open Go
set_option linter.unusedSimpArgs false

theorem bytes_get (s : ByteArray) (i : Nat) : s[i]? = s.data[i]? := by
  simp [getElem?_def]; rfl

theorem strBeq (a b : ByteArray) : (a == b) = decide (a = b) := by
  cases a with | mk a => cases b with | mk b =>
  have h : ((⟨a⟩ : ByteArray) == ⟨b⟩) = (a == b) := by
    first | rfl | simp [BEq.beq]
  rw [h, Bool.eq_iff_iff]; simp

/-- s[i] of a string. -/
theorem at_index_str {P : Program} {tt : Tab} (hT : TTOK P tt) {t : TypeId} {x ix : SV} {S : St} {K : SV → St → Prop} {s : ByteArray} {i : Int} {kk : IntKind} {b : UInt8} (hx : x = .v (.string s)) (hi : ix = .v (.int kk i)) (ht : tt t = some .str) (h0 : 0 ≤ i) (hb : s.data.toList[i.toNat]? = some b)
    (h : K (.v (.int .u8 b.toNat)) S) : AtPure P (fun ℓ => Instr.index t (x.den ℓ) (ix.den ℓ)) S K := by
  subst hx hi
  refine AtPure.val _ rfl (fun ℓ w => ?_) h
  have hu := (hT t _ ht).2
  have hb' : s.data[i.toNat]? = some b := by rw [← Array.getElem?_toList]; exact hb
  simp only [Instr.index, SV.den, asIntOf, pure_bind, Sem.run_bind, run_underlying' hu, Result.andThen_ok, if_pos h0, bytes_get, hb', Sem.run_pure]

/-- The entries of a map with strings as keys, the n-th one laid as the n-th. -/
def entriesS : List (ByteArray × Value) → Nat → List MapEntry
  | [], _ => []
  | (k, v) :: r, i => ⟨.string k, v, i⟩ :: entriesS r (i + 1)

def mapS (l : List (ByteArray × Value)) : Obj := .map (entriesS l 0).toArray l.length

def lookS : List (ByteArray × Value) → ByteArray → Option Value
  | [], _ => none
  | (k, v) :: r, n => if n = k then some v else lookS r n

def putS (n : ByteArray) (v : Value) : List (ByteArray × Value) → List (ByteArray × Value)
  | [] => [(n, v)]
  | (k, u) :: r => if n = k then (k, v) :: r else (k, u) :: putS n v r

theorem entriesS_append : ∀ (l l' : List (ByteArray × Value)) (i : Nat), entriesS (l ++ l') i = entriesS l i ++ entriesS l' (i + l.length)
  | [], l', i => by simp [entriesS]
  | (k, v) :: r, l', i => by
    simp only [List.cons_append, entriesS, entriesS_append r l', List.length_cons]
    congr 3; omega

theorem sameNow_str (a b : ByteArray) : Instr.sameNow .string (.string a) (.string b) = some (decide (a = b)) := by
  simp only [Instr.sameNow, strBeq]

theorem findNow_S (n : ByteArray) : ∀ (l : List (ByteArray × Value)) (i j : Nat), Instr.findNow .string (.string n) (entriesS l i) j =
    some (match l.findIdx? (fun p => n = p.1) with
      | some m => (l[m]?).map (fun p => (j + m, p.2))
      | none => none)
  | [], i, j => by simp [entriesS, Instr.findNow]
  | (k, v) :: r, i, j => by
    simp only [entriesS, Instr.findNow, sameNow_str]
    by_cases h : n = k
    · subst h; simp [List.findIdx?_cons]
    · simp only [h, decide_false, findNow_S n r (i + 1) (j + 1), List.findIdx?_cons]
      cases hf : r.findIdx? (fun p => n = p.1) with
      | none => simp
      | some m =>
        have e : j + 1 + m = j + (m + 1) := by omega
        simp [e]

theorem lookS_idx (n : ByteArray) : ∀ (l : List (ByteArray × Value)), lookS l n = match l.findIdx? (fun p => n = p.1) with
    | some m => (l[m]?).map (·.2)
    | none => none
  | [] => rfl
  | (k, v) :: r => by
    simp only [lookS, List.findIdx?_cons]
    by_cases h : n = k
    · subst h; simp
    · rw [if_neg h, lookS_idx n r]
      simp only [h, decide_false]
      cases hf : r.findIdx? (fun p => n = p.1) with
      | none => simp
      | some m => simp

theorem putS_none (n : ByteArray) (v : Value) : ∀ (l : List (ByteArray × Value)), l.findIdx? (fun p => n = p.1) = none → putS n v l = l ++ [(n, v)]
  | [], _ => rfl
  | (k, u) :: r, h => by
    simp only [List.findIdx?_cons] at h
    by_cases hk : n = k
    · subst hk; simp at h
    · simp only [putS, if_neg hk, List.cons_append]
      rw [putS_none n v r]
      cases hf : r.findIdx? (fun p => n = p.1) with
      | none => rfl
      | some m => rw [hf] at h; simp [hk] at h

theorem putS_some (n : ByteArray) (v : Value) : ∀ (l : List (ByteArray × Value)) (m i : Nat), l.findIdx? (fun p => n = p.1) = some m → (entriesS l i).modify m (fun e => { e with key := .string n, val := v }) = entriesS (putS n v l) i ∧ (putS n v l).length = l.length
  | [], m, i, h => by simp at h
  | (k, u) :: r, m, i, h => by
    simp only [List.findIdx?_cons] at h
    by_cases hk : n = k
    · subst hk
      simp at h
      subst h
      simp [putS, entriesS]
    · simp only [hk, decide_false] at h
      cases hf : r.findIdx? (fun p => n = p.1) with
      | none => rw [hf] at h; simp at h
      | some m' =>
        rw [hf] at h
        simp at h
        subst h
        obtain ⟨h1, h2⟩ := putS_some n v r m' (i + 1) hf
        simp only [putS, if_neg hk, entriesS, List.modify_succ_cons, h1, List.length_cons, h2, and_self]

theorem entriesS_key (l : List (ByteArray × Value)) (i m : Nat) : ((entriesS l i)[m]?).map (·.key) = (l[m]?).map (fun p => Value.string p.1) := by
  induction l generalizing i m with
  | nil => simp [entriesS]
  | cons p r ih =>
    obtain ⟨k, v⟩ := p
    cases m with
    | zero => simp [entriesS]
    | succ m => simpa [entriesS] using ih (i + 1) m

theorem run_checkKey_str {P : Program} {k : TypeId} (hk : P.underlying k = some .string) (b : Bool) (n : ByteArray) (w : World) : (Instr.checkKey b 10000 k (.string n)).run P w = .ok () w := by
  unfold Instr.checkKey
  simp [run_underlying hk]

/-- A map is made. -/
theorem at_makeMapS {P : Program} {t : TypeId} {S : St} {K : SV → St → Prop} (h : forceL (S.own ++ [.obj (mapS [])]) (fun own => putOwn S own (fun S' => K (.mp S.own.length) S'))) : AtSem P (fun ℓ => Instr.makeMap t (denO ℓ none)) S K := by
  rw [forceL_eq, putOwn_eq] at h
  refine at_makeMap .i64 ?_
  rw [forceL_eq, putOwn_eq]
  exact h

/-- m[n], with or without the word whether it is there. -/
theorem at_lookupS {P : Program} {tt : Tab} (hT : TTOK P tt) {t k e : TypeId} {x ix : SV} {S : St} {K : SV → St → Prop} {i : Nat} {n : ByteArray} {l : List (ByteArray × Value)} {ok : Bool} (z : Value) (ht : tt t = some (.map k e)) (hk : P.underlying k = some .string) (hz : ∀ w, (zeroValue e).run P w = .ok z w)
    (hx : x = .mp i) (hi : nth S.own i = some (.obj (mapS l))) (hix : ix = .v (.string n))
    (h1 : ∀ v, lookS l n = some v → K (if ok then .tup [.v v, .v (.bool true)] else .v v) S) (h2 : lookS l n = none → K (if ok then .tup [.v z, .v (.bool false)] else .v z) S) : AtSem P (fun ℓ => Instr.lookup t (x.den ℓ) (ix.den ℓ) ok) S K := by
  subst hx hix
  constructor
  intro J ℓ w hG hJ
  obtain ⟨b, hb, hk', hbl, hoff, hh⟩ := own_obj hG hi
  have hu := (hT t _ ht).2
  have hrun : (Instr.lookup t ((SV.mp i).den ℓ) ((SV.v (.string n)).den ℓ) ok).run P w = .ok ((match lookS l n with
      | some v => (if ok then SV.tup [.v v, .v (.bool true)] else .v v)
      | none => (if ok then .tup [.v z, .v (.bool false)] else .v z)).den ℓ) w := by
    simp only [Instr.lookup, SV.den, Sem.run_bind, run_underlying' hu, Result.andThen_ok]
    have hg := run_getMap (P := P) hh
    rw [hbl]
    simp only [Sem.run_bind, hg, Result.andThen_ok, Sem.run_pure]
    simp only [run_checkKey_str hk, Result.andThen_ok, Instr.findKey, Sem.run_bind, run_underlying hk, findNow_S]
    rw [lookS_idx]
    cases hf : l.findIdx? (fun p => n = p.1) with
    | none => simp [hz, Result.andThen]; cases ok <;> simp [SV.den, SV.denL]
    | some m =>
      have hlt : m < l.length := by
        obtain ⟨hlt, _⟩ := List.findIdx?_eq_some_iff_getElem.1 hf
        exact hlt
      simp only [List.getElem?_eq_getElem hlt, Option.map_some, Sem.run_pure, Result.andThen_ok]
      cases ok <;> simp [SV.den, SV.denL]
  cases hl : lookS l n with
  | some v =>
    rw [hl] at hrun
    exact ⟨_, ℓ, S, w, hrun, by cases ok <;> rfl, List.prefix_refl _, Ext.refl _ _, hG, fun b hb => .inl hb, h1 v hl⟩
  | none =>
    rw [hl] at hrun
    exact ⟨_, ℓ, S, w, hrun, by cases ok <;> rfl, List.prefix_refl _, Ext.refl _ _, hG, fun b hb => .inl hb, h2 hl⟩

/-- m[n] = x. -/
theorem at_mapPutS {P : Program} {tt : Tab} (hT : TTOK P tt) {t k e : TypeId} {x ix y : SV} {S : St} {K : SV → St → Prop} {i : Nat} {n : ByteArray} {l : List (ByteArray × Value)} (v : Value) (ht : tt t = some (.map k e)) (hk : P.underlying k = some .string)
    (hx : x = .mp i) (hi : nth S.own i = some (.obj (mapS l))) (hix : ix = .v (.string n)) (hy : ∀ ℓ, y.den ℓ = v)
    (h : forceL (setNth S.own i (.obj (mapS (putS n v l)))) (fun own => putOwn S own (fun S' => K undefS S'))) : AtSem P (fun ℓ => do Instr.mapUpdate t (x.den ℓ) (ix.den ℓ) (y.den ℓ); pure undef) S K := by
  subst hx hix
  rw [forceL_eq, putOwn_eq] at h
  constructor
  intro J ℓ w hG hJ
  obtain ⟨b, hb, hk', hbl, hoff, hh⟩ := own_obj hG hi
  have hu := (hT t _ ht).2
  have hrun : (Instr.mapUpdate t ((SV.mp i).den ℓ) ((SV.v (.string n)).den ℓ) (y.den ℓ)).run P w = .ok () (w.putObj b.block (mapS (putS n v l))) := by
    simp only [Instr.mapUpdate, SV.den, hy, Sem.run_bind, run_underlying' hu, Result.andThen_ok, hbl]
    have hg := run_getMap (P := P) hh
    simp only [hg, Result.andThen_ok, run_checkKey_str hk, Instr.findKey, Sem.run_bind, run_underlying hk, findNow_S]
    cases hf : l.findIdx? (fun p => n = p.1) with
    | none =>
      simp only [Sem.run_pure, Result.andThen_ok]
      rw [run_setMap _ hh, putS_none n v l hf]
      simp [mapS, entriesS_append, entriesS]
    | some m =>
      obtain ⟨hlt, hpm, _⟩ := List.findIdx?_eq_some_iff_getElem.1 hf
      simp only [decide_eq_true_eq] at hpm
      simp only [List.getElem?_eq_getElem hlt, Option.map_some, Sem.run_pure, Result.andThen_ok, Nat.zero_add]
      have hkey : (((entriesS l 0).toArray[m]?).map (·.key)).getD (.string n) = .string n := by
        have := entriesS_key l 0 m
        simp only [List.getElem?_toArray]
        rw [this, List.getElem?_eq_getElem hlt]
        simp [← hpm]
      rw [hkey]
      have hst : (Instr.keyThatStays (.string n) (.string n)).run P w = .ok (.string n) w := by simp [Instr.keyThatStays, Instr.sameBits, strBeq]
      simp only [Sem.run_bind, hst, Result.andThen_ok]
      rw [run_setMap _ hh]
      obtain ⟨h1, h2⟩ := putS_some n v l m 0 hf
      simp only [mapS, h2]
      rw [← h1]
      simp
  obtain ⟨g1, g2, g3⟩ := hG.putObj (k' := .obj (mapS (putS n v l))) hk' hb rfl rfl rfl (mapS (putS n v l)) ⟨hoff, World.putObj_heap_same (lt_of_get hh)⟩
  refine ⟨undefS, ℓ, _, w.putObj b.block (mapS (putS n v l)), ?_, rfl, List.prefix_refl _, g1, g2, g3, h⟩
  simp only [Sem.run_bind, hrun, Result.andThen_ok, Sem.run_pure]
  rfl
end Go.Tr
end
