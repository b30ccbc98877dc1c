/- Merged texts: Tm Base SortLay TermA TermB TermC Sorted Free OrdA OrdB OrdC OrdD OrdE OrdF Ref3A Ref3B Ref3C Ref3D FwQ Ref15A Ref15B Orders LawA LawB. Terms as plain data, and what the packages term and trussref03 compute over them. No condition: definitions and lemmas. What every contract of this seat wants. No condition. The facts that the library's contract of slices.Sort at []int asks of the program. No condition. TermA The contracts of term.proper and term.Check. Condition: the argument reads as a term (its slices are not longer than 2^60). The contracts of term.numbers' visitor, of maps.Keys' iterator and slices.Collect over it (at ints). Conditions stand in each. The contract of slices.Sort at a slice of ints that the run has made: it is sorted in its place. Condition: fewer than 2^62 elements. The contracts of maps.Keys, term.numbers and term.Free. Condition: the argument reads as a term. The contracts of order.isScope, order.isObject, term.Same. Condition: the arguments read as terms. The contract of order's match (its inner function). Condition: the arguments read as terms. The contracts of order's match and strip. Condition: the arguments read as terms; strip: each TLam has an argument, and the term is not nested deeper than 10^6. The contract of order's walk, for a visitor that is handed own blocks. Conditions: each TLam has an argument; what the visitor does stands in its contract. The contracts of order's within, compare and Compare. Conditions: for compare, each TLam has an argument, and the terms are not nested deeper than 10^6. Proper terms in plain words; the contract of order.Compare. Condition: the arguments read as terms. The contracts of trussref03's formed, nodes, Proper, Depth, Size, Same and below. Conditions: the arguments read as terms; Depth: a term nested at most 10^6 deep. The contracts of trussref03's Depth, Size, Same, below and low. Conditions: the arguments read as terms; Depth and low: nested at most 10^6 deep, and small numbers of binders. The contracts of trussref03's put, heads and Free. Conditions: the arguments read as a term and as a list of ints; small numbers and short lists. The contracts of trussref03's moved, Shift and App. Conditions: the arguments read as terms; moved: nested at most 10^6 deep, with at most 10^6 nodes. Rules for the elements of a slice that the run has made and still may write: its ints are read and written in their places. Conditions stand in each rule. The contracts of trussref15's lams and of its work's variable and same. Conditions: the arguments read as proper terms; small numbers of binders. The contracts of trussref15's in, less and Compare. Conditions: the arguments read as terms that are built as terms are, not nested deep; small numbers of variables. Orders as plain data; the contracts of order.Similar and trussref15.Similar. Conditions: the arguments read as orders. Plain law: what order.compare answers is what trussref15.Compare answers, at terms that are built as terms are. No program in sight. Plain law: which free variables a term has, for the program and for the reference. No program in sight. -/
import Derived.Test.YtogicnodmgdnbaaGreatDoorQD
import Derived.KernelRfl
import Derived.Shelf.Sort.Plain
import Derived.Sort.OwnSortedInts
import Derived.Laws.CopyRow
/-! Tm -/
section
namespace Go.Proofs.YtogicnodmgdnbaaGreatDoor
open Go.Tr Go

inductive Tm where
  | mk (op hd n : Int) (args : List Tm)

def Tm.op : Tm → Int | .mk o _ _ _ => o
def Tm.hd : Tm → Int | .mk _ h _ _ => h
def Tm.n : Tm → Int | .mk _ _ n _ => n
def Tm.args : Tm → List Tm | .mk _ _ _ a => a

mutual
def Tm.enc : Tm → D
  | .mk o h n a => .agg [.int .i64 o, .int .i64 h, .int .i64 n, .sl 4 (Tm.encL a)]
def Tm.encL : List Tm → List D
  | [] => []
  | t :: ts => t.enc :: Tm.encL ts
 end

theorem Tm.encL_eq : ∀ (l : List Tm), Tm.encL l = l.map Tm.enc
  | [] => rfl
  | t :: ts => by simp only [Tm.encL, List.map_cons, Tm.encL_eq ts]
theorem Tm.encL_length (l : List Tm) : (Tm.encL l).length = l.length := by simp [Tm.encL_eq]
theorem Tm.encL_get {l : List Tm} {i : Nat} {t : Tm} (h : l[i]? = some t) : (Tm.encL l)[i]? = some (.agg [.int .i64 t.op, .int .i64 t.hd, .int .i64 t.n, .sl 4 (Tm.encL t.args)]) := by
  rw [Tm.encL_eq, List.getElem?_map, h]; cases t; rfl

/-- Induction over a term: what holds of all its Args holds of it. -/
theorem Tm.ind {motive : Tm → Prop} (h : ∀ t, (∀ x ∈ t.args, motive x) → motive t) (t : Tm) : motive t := by
  induction t using Tm.rec (motive_2 := fun ts => ∀ x ∈ ts, motive x) with
  | nil => rename_i x hx; cases hx
  | cons t ts ih1 ih2 => rename_i x hx; rcases List.mem_cons.1 hx with e | e; (subst e; exact ih1); exact ih2 x e
  | mk op hd n args ih => exact h _ ih

/-- A term's slice, as the machine has it. -/
abbrev tmS (t : Tm) (a : Option Addr) (c : Nat) : SV := .agg [.v (.int .i64 t.op), .v (.int .i64 t.hd), .v (.int .i64 t.n), .v (.slice a (Tm.encL t.args).length c)]
abbrev tmR (t : Tm) (a : Option Addr) (c : Nat) : Value × D := (.slice a (Tm.encL t.args).length c, .sl 4 (Tm.encL t.args))
abbrev iS (n : Int) : SV := .v (.int .i64 n)
abbrev bS (b : Bool) : SV := .v (.bool b)
abbrev fnS (f : Nat) : Cal := .val (.fn (.func f) [] [])

/-- What a node shows by itself. -/
def okNode (op hd n : Int) (len : Nat) : Bool :=
  if op = 1 then decide ((hd = 0 ∧ n = 0) ∧ len = 0)
  else if op = 2 then decide ((hd = 0 ∧ n = 0) ∧ len = 2)
  else if op = 3 then decide ((hd = 0 ∧ n = 0) ∧ len = 1)
  else if op = 4 then decide (((1 ≤ hd ∧ hd ≤ 3) ∧ 0 ≤ n) ∧ n ≤ 9999)
  else false

mutual
def properF : Tm → Int → Int → Bool × Int
  | .mk op hd n args, depth, k =>
    if 600 < k + 1 ∨ 40 < depth then (false, k + 1)
    else if okNode op hd n args.length = true then properL args (depth + 1) (k + 1) else (false, k + 1)
def properL : List Tm → Int → Int → Bool × Int
  | [], _, k => (true, k)
  | t :: ts, depth, k => match properF t depth k with
    | (true, k') => properL ts depth k'
    | (false, k') => (false, k')
 end

theorem properF_eq (t : Tm) (depth k : Int) : properF t depth k = if 600 < k + 1 ∨ 40 < depth then (false, k + 1)
    else if okNode t.op t.hd t.n t.args.length = true then properL t.args (depth + 1) (k + 1) else (false, k + 1) := by
  cases t; rfl

theorem properF_le (t : Tm) : ∀ (depth k : Int), 0 ≤ k → k ≤ 600 → k ≤ (properF t depth k).2 ∧ (properF t depth k).2 ≤ 601 ∧ ((properF t depth k).1 = true → (properF t depth k).2 ≤ 600) := by
  induction t using Tm.ind with
  | h t ih =>
    intro depth k h1 h2
    have hl : ∀ (ts : List Tm), (∀ x ∈ ts, x ∈ t.args) → ∀ (depth k : Int), 0 ≤ k → k ≤ 600 → k ≤ (properL ts depth k).2 ∧ (properL ts depth k).2 ≤ 601 ∧ ((properL ts depth k).1 = true → (properL ts depth k).2 ≤ 600) := by
      intro ts
      induction ts with
      | nil => intro _ depth k h1 h2; simp only [properL]; exact ⟨Int.le_refl _, by omega, fun _ => h2⟩
      | cons x ts ihl =>
        intro hx depth k h1 h2
        have hx1 := ih x (hx x (by simp)) depth k h1 h2
        simp only [properL]
        cases hp : properF x depth k with
        | mk b k' =>
          rw [hp] at hx1
          cases b with
          | true =>
            have := ihl (fun y hy => hx y (by simp [hy])) depth k' (by simp at hx1; omega) (hx1.2.2 rfl)
            simp only at hx1 ⊢
            exact ⟨by omega, this.2.1, this.2.2⟩
          | false => simpa using hx1
    rw [properF_eq]
    split
    · exact ⟨by simp only; omega, by simp only; omega, fun h => by simp at h⟩
    · split
      · have := hl t.args (fun _ h => h) (depth + 1) (k + 1) (by omega) (by omega)
        exact ⟨by omega, this.2.1, this.2.2⟩
      · exact ⟨by simp; omega, by simp; omega, by simp⟩

end Go.Proofs.YtogicnodmgdnbaaGreatDoor
end

/-! Base -/
section
namespace Go.Proofs.YtogicnodmgdnbaaGreatDoor
open Go.Tr Go
theorem mixed : Tryz.prog.follows .mixedOrders = true := by kernel_rfl

/-- Two bools are compared. -/
theorem at_boolNe {x y : Operand} {a b : Bool} {S : St} {K : SV → St → Prop} (h : K (bS (a != b)) S) : AtPure Tryz.prog (fun ℓ => do eqGuard .neq 4 x y ((bS a).den ℓ) ((bS b).den ℓ); binOp .neq 4 ((bS a).den ℓ) ((bS b).den ℓ)) S K := by
  refine AtPure.val _ rfl (fun ℓ w => ?_) h
  cases a <;> cases b <;> kernel_rfl
end Go.Proofs.YtogicnodmgdnbaaGreatDoor
end

/-! SortLay -/
section
namespace Go.Proofs.YtogicnodmgdnbaaGreatDoor
open Go Go.Shelf
def sortRen : Go.Shelf.Ren := ⟨fun | 189 => 154 | 125 => 164 | 257 => 163 | 128 => 179 | 129 => 131 | 294 => 170 | 295 => 171 | 296 => 172 | 297 => 173 | 298 => 174 | 299 => 175 | 216 => 176 | 300 => 177 | 301 => 178 | 328 => 182 | 329 => 183 | 330 => 184 | 331 => 185 | 332 => 186 | 215 => 187 | 343 => 188 | n => n, fun | 28 => 23 | 3 => 3 | 46 => 179 | 0 => 0 | 51 => 177 | 53 => 154 | 4 => 4 | 183 => 220 | 182 => 219 | 131 => 123 | 5 => 5 | 9 => 9 | 218 => 226 | 222 => 105 | 228 => 231 | 229 => 51 | n => n, fun  | n => n⟩
theorem sortLays : Go.Proofs.Lays.n189 Tryz.prog sortRen := {
  mixed := by kernel_rfl
  f125 := Tryz.func164.trans (congrArg some (by kernel_rfl))
  f128 := Tryz.func179.trans (congrArg some (by kernel_rfl))
  f129 := Tryz.func131.trans (congrArg some (by kernel_rfl))
  f189 := Tryz.func154.trans (congrArg some (by kernel_rfl))
  f215 := Tryz.func187.trans (congrArg some (by kernel_rfl))
  f216 := Tryz.func176.trans (congrArg some (by kernel_rfl))
  f257 := Tryz.func163.trans (congrArg some (by kernel_rfl))
  f294 := Tryz.func170.trans (congrArg some (by kernel_rfl))
  f295 := Tryz.func171.trans (congrArg some (by kernel_rfl))
  f296 := Tryz.func172.trans (congrArg some (by kernel_rfl))
  f297 := Tryz.func173.trans (congrArg some (by kernel_rfl))
  f298 := Tryz.func174.trans (congrArg some (by kernel_rfl))
  f299 := Tryz.func175.trans (congrArg some (by kernel_rfl))
  f300 := Tryz.func177.trans (congrArg some (by kernel_rfl))
  f301 := Tryz.func178.trans (congrArg some (by kernel_rfl))
  f328 := Tryz.func182.trans (congrArg some (by kernel_rfl))
  f329 := Tryz.func183.trans (congrArg some (by kernel_rfl))
  f330 := Tryz.func184.trans (congrArg some (by kernel_rfl))
  f331 := Tryz.func185.trans (congrArg some (by kernel_rfl))
  f332 := Tryz.func186.trans (congrArg some (by kernel_rfl))
  f343 := Tryz.func188.trans (congrArg some (by kernel_rfl))
  t0 := Tryz.underlying0
  a0 := Tryz.isAgg0
  z0 := Tryz.sizeOf0
  v0 := Tryz.zeroValue0
  t3 := Tryz.underlying3
  a3 := Tryz.isAgg3
  z3 := Tryz.sizeOf3
  v3 := Tryz.zeroValue3
  t4 := Tryz.underlying4
  a4 := Tryz.isAgg4
  z4 := Tryz.sizeOf4
  v4 := Tryz.zeroValue4
  t5 := Tryz.underlying5
  a5 := Tryz.isAgg5
  z5 := Tryz.sizeOf5
  v5 := Tryz.zeroValue5
  t9 := Tryz.underlying9
  a9 := Tryz.isAgg9
  z9 := Tryz.sizeOf9
  v9 := Tryz.zeroValue9
  t28 := Tryz.underlying23
  a28 := Tryz.isAgg23
  z28 := Tryz.sizeOf23
  v28 := Tryz.zeroValue23
  t46 := Tryz.underlying179
  a46 := Tryz.isAgg179
  z46 := Tryz.sizeOf179
  v46 := Tryz.zeroValue179
  t51 := Tryz.underlying177
  a51 := Tryz.isAgg177
  z51 := Tryz.sizeOf177
  v51 := Tryz.zeroValue177
  t53 := Tryz.underlying154
  a53 := Tryz.isAgg154
  z53 := Tryz.sizeOf154
  v53 := Tryz.zeroValue154
  t131 := Tryz.underlying123
  a131 := Tryz.isAgg123
  z131 := Tryz.sizeOf123
  v131 := Tryz.zeroValue123
  t182 := Tryz.underlying219
  a182 := Tryz.isAgg219
  z182 := Tryz.sizeOf219
  v182 := Tryz.zeroValue219
  t183 := Tryz.underlying220
  a183 := Tryz.isAgg220
  z183 := Tryz.sizeOf220
  v183 := Tryz.zeroValue220
  t218 := Tryz.underlying226
  a218 := Tryz.isAgg226
  z218 := Tryz.sizeOf226
  v218 := Tryz.zeroValue226
  t222 := Tryz.underlying105
  a222 := Tryz.isAgg105
  z222 := Tryz.sizeOf105
  v222 := Tryz.zeroValue105
  t228 := Tryz.underlying231
  a228 := Tryz.isAgg231
  z228 := Tryz.sizeOf231
  v228 := Tryz.zeroValue231
  t229 := Tryz.underlying51
  a229 := Tryz.isAgg51
  z229 := Tryz.sizeOf51
  v229 := Tryz.zeroValue51 }
end Go.Proofs.YtogicnodmgdnbaaGreatDoor
end

/-! TermA -/
section
namespace Go.Proofs.YtogicnodmgdnbaaGreatDoor
open Go.Tr Go
set_option maxRecDepth 10000

def under (op i : Int) : Int := if op = 3 ∨ op = 2 ∧ i = 1 then 1 else 0
theorem under_le (op i : Int) : 0 ≤ under op i ∧ under op i ≤ 1 := by unfold under; split <;> omega

theorem under_spec (t : Tm) (a : Option Addr) (c : Nat) (i : Int) : Pure Tryz.prog (fnS 104) [tmS t a c, iS i] [] (fun r out => r = iS (under t.op i) ∧ out = []) := by
  refine spec_of_body (N := 17) (m := 0) (dt := fun _ => none) [] ttOK Tryz.func104 rfl Tryz.call104 Tryz.ntmps104 rfl rfl rfl mixed (by kernel_rfl) ?_
  refine AtIf.mk (fun h => ?_) (fun h => ?_)
  · refine AtRet.pure [] rfl (by simp) ⟨?_, rfl⟩
    unfold under; rw [if_pos (by simpa using h)]
  · refine AtRet.pure [] rfl (by simp) ⟨?_, rfl⟩
    unfold under; rw [if_neg (by simpa using h)]

section
variable {σ : Type} (step : σ → Tm → Int → σ)
mutual
def walkF : Tm → σ → Int → σ
  | .mk o h n args, s, b => walkL o args 0 (step s (.mk o h n args) b) b
def walkL : Int → List Tm → Nat → σ → Int → σ
  | _, [], _, s, _ => s
  | o, t :: ts, i, s, b => walkL o ts (i + 1) (walkF t s (b + under o i)) b
 end
theorem walkF_eq (t : Tm) (s : σ) (b : Int) : walkF step t s b = walkL step t.op t.args 0 (step s t b) b := by cases t; rfl
end

mutual
def Tm.height : Tm → Nat
  | .mk _ _ _ args => Tm.heightL args + 1
def Tm.heightL : List Tm → Nat
  | [] => 0
  | t :: ts => max t.height (Tm.heightL ts)
 end
theorem Tm.height_eq (t : Tm) : t.height = Tm.heightL t.args + 1 := by cases t; rfl
theorem Tm.height_le {ts : List Tm} {t : Tm} (h : t ∈ ts) : t.height ≤ Tm.heightL ts := by
  induction ts with
  | nil => cases h
  | cons x xs ih =>
    simp only [Tm.heightL]
    rcases List.mem_cons.1 h with e | e
    · subst e; omega
    · have := ih e; omega

/-- A visitor that is handed the own blocks 0, 1, 2: what a visit makes of them. -/
theorem each_spec3 {σ : Type} (F : SV) (hF0 : F.wf 3 = true) (B0 B1 B2 : σ → Blk) (I : σ → Prop) (step : σ → Tm → Int → σ)
    (hmut : ∀ s s', (B0 s).mut = (B0 s').mut ∧ (B1 s).mut = (B1 s').mut ∧ (B2 s).mut = (B2 s').mut) (hwf : ∀ s, (B0 s).wf 3 = true ∧ (B1 s).wf 3 = true ∧ (B2 s).wf 3 = true)
    (hren : ∀ s, (B0 s).ren (rix [0, 1, 2]) = B0 s ∧ (B1 s).ren (rix [0, 1, 2]) = B1 s ∧ (B2 s).ren (rix [0, 1, 2]) = B2 s) (hFren : F.ren (rix [0, 1, 2]) = F)
    (hF : ∀ s t b a c, I s → 0 ≤ b → b ≤ 1000000 → Meets Tryz.prog (.val F) [tmS t a c, iS b] ⟨[B0 s, B1 s, B2 s], [], [tmR t a c]⟩ (fun o S' => o = .ret (.tup []) ∧ I (step s t b) ∧ S' = ⟨[B0 (step s t b), B1 (step s t b), B2 (step s t b)], [], []⟩)) :
    ∀ (t : Tm) (s : σ) (b : Int) a c, I s → 0 ≤ b → b + t.height ≤ 1000000 → Meets Tryz.prog (fnS 75) [tmS t a c, iS b, F] ⟨[B0 s, B1 s, B2 s], [], [tmR t a c]⟩
      (fun o S' => o = .ret (.tup []) ∧ I (walkF step t s b) ∧ S' = ⟨[B0 (walkF step t s b), B1 (walkF step t s b), B2 (walkF step t s b)], [], []⟩) := by
  intro t
  induction t using Tm.ind with
  | h t ih =>
  intro s b a c hI hb1 hb2
  refine Meets.of_ok fun hok => ?_
  have hB : (Tm.encL t.args).length ≤ 1152921504606846976 := (hok _ (List.mem_cons_self ..)).1
  refine spec_of_body (N := 29) (m := 3) (dt := drawsOf [(5, .node [0, 1, 2, 3, 6] [(4, .node [5] [(7, .leaf [])])], [7], [])]) [] ttOK Tryz.func75 rfl Tryz.call75 Tryz.ntmps75 rfl (by simp [SV.wfL, SV.wf, hF0]) rfl mixed (by kernel_rfl) ?_
  have hw := hwf s
  have frameOK : ∀ (s : σ) (tail : List Blk) (p : Nat) (k : Blk), [B0 s, B1 s, B2 s][p]? = some k → ∃ i, [0, 1, 2][p]? = some i ∧ (B0 s :: B1 s :: B2 s :: tail)[i]? = some (k.ren (rix [0, 1, 2])) ∧ k.wf 3 = true := by
    intro s tail p k hp
    match p, hp with
    | 0, hp => simp at hp; subst hp; exact ⟨0, rfl, by rw [(hren s).1]; rfl, (hwf s).1⟩
    | 1, hp => simp at hp; subst hp; exact ⟨1, rfl, by rw [(hren s).2.1]; rfl, (hwf s).2.1⟩
    | 2, hp => simp at hp; subst hp; exact ⟨2, rfl, by rw [(hren s).2.2]; rfl, (hwf s).2.2⟩
  refine (hF s t b a c hI hb1 (by omega)).frame [0, 1, 2] (by simp [Cal.ren, hFren]) rfl (by decide) rfl ?_ (by simp) rfl hF0 ?_
  · exact fun p k hp => frameOK s _ p k hp
  rintro o s' ⟨rfl, hI1, rfl⟩
  have hm := hmut s (step s t b)
  refine ⟨rfl, by simp [hm], [B0 (step s t b), B1 (step s t b), B2 (step s t b)], by simp [hren], ?_⟩
  have hlen := Tm.encL_length t.args
  have hh := Tm.height_eq t
  refine AtLoop.mk ⟨Nat × σ, fun x => [(15, iS x.1), (14, iS (Tm.encL t.args).length), (13, .v (.slice a (Tm.encL t.args).length c)), (3, .loc 3 0), (1, iS b), (2, F)],
    fun x => ⟨[B0 x.2, B1 x.2, B2 x.2, .cells 55 [iS t.op, iS t.hd, iS t.n, .v (.slice a (Tm.encL t.args).length c)]], [], [tmR t a c]⟩,
    fun x => x.1 ≤ t.args.length ∧ I x.2 ∧ walkF step t s b = walkL step t.op (t.args.drop x.1) x.1 x.2 b,
    fun x => t.args.length - x.1, (0, step s t b), ⟨Nat.zero_le _, hI1, by simpa using walkF_eq step t s b⟩, ⟨rfl, rfl, rfl, rfl, rfl, rfl, trivial⟩, StLe.refl _, ?_, ?_⟩
  · intro x _
    have hF4 : F.wf 4 = true := SV.wf_mono (by omega) F hF0
    exact ⟨by simp [envWf, SV.wf, hF4]; rfl, rfl⟩
  rintro ⟨i, s1⟩ ⟨hi, hI2, hinv⟩
  simp only at hi hI2 hinv ⊢
  refine AtIf.mk (fun h1 => ?_) (fun h1 => ?_)
  · simp only [decide_eq_true_eq, hlen] at h1
    have hlt : i < t.args.length := by omega
    obtain ⟨t', ht'⟩ : ∃ t', t.args[i]? = some t' := ⟨_, List.getElem?_eq_getElem hlt⟩
    refine at_index ttOK 0 rfl rfl rfl rfl (by omega) (by rw [Int.toNat_natCast]; exact Tm.encL_get ht') ?_
    intro a' c' _ hB'
    refine (under_spec t a c i).at (by simp) rfl rfl ?_
    rintro r out ⟨rfl, rfl⟩
    refine ⟨fun _ _ h => h, ?_⟩
    have hu := under_le t.op i
    have hht : t'.height ≤ Tm.heightL t.args := Tm.height_le (List.mem_of_getElem? ht')
    have hw2 : IntKind.i64.wrap (b + under t.op i) = b + under t.op i := wrap_i64 (by omega) (by omega)
    have hs := ih t' (List.mem_of_getElem? ht') s1 (b + under t.op i) a' c' hI2 (by omega) (by omega)
    refine hs.frame [0, 1, 2] rfl (by simp only [hw2]; show _ = [_, _, F.ren _]; rw [hFren]; rfl) (by decide) rfl ?_ ?_ ?_ rfl ?_
    · exact fun p k hp => frameOK s1 _ p k hp
    · intro p hp; simp at hp; subst hp; simp
    · simp [SV.wfL, SV.wf, hF0]
    · rintro o s' ⟨rfl, hI3, rfl⟩
      have hm := hmut s1 (walkF step t' s1 (b + under t.op i))
      refine ⟨rfl, by simp [hm], [B0 (walkF step t' s1 (b + under t.op i)), B1 (walkF step t' s1 (b + under t.op i)), B2 (walkF step t' s1 (b + under t.op i))], by simp [hren], ?_⟩
      have hw3 : IntKind.i64.wrap (i + 1) = ((i + 1 : Nat) : Int) := wrap_i64 (by omega) (by omega)
      refine ⟨(i + 1, walkF step t' s1 (b + under t.op i)), ⟨by omega, hI3, ?_⟩, by simp; omega, ⟨by rw [← hw3]; rfl, rfl, rfl, rfl, rfl, rfl, trivial⟩, StLe.to _ _ rfl (by simp) rfl ?_⟩
      · rw [hinv]
        have hd : t.args.drop i = t' :: t.args.drop (i + 1) := by
          rw [List.drop_eq_getElem_cons hlt]
          congr 1
          rw [List.getElem?_eq_getElem hlt] at ht'
          simpa using ht'
        simp only [hd, walkL]
      · have := hwf (walkF step t' s1 (b + under t.op i))
        simp only [wfB, List.length_cons, List.length_nil, Blk.wf_mono (show 3 ≤ 0 + 1 + 1 + 1 + 1 by omega) this.1, Blk.wf_mono (show 3 ≤ 0 + 1 + 1 + 1 + 1 by omega) this.2.1, Blk.wf_mono (show 3 ≤ 0 + 1 + 1 + 1 + 1 by omega) this.2.2]
        rfl
  · refine ret_own [B0 s1, B1 s1, B2 s1] rfl rfl rfl ?_ rfl ⟨rfl, ?_⟩
    · have := hwf s1
      simp only [wfB, List.length_cons, List.length_nil, this.1, this.2.1, this.2.2]
    · simp only [decide_eq_false_iff_not, hlen] at h1
      rw [List.drop_of_length_le (by omega)] at hinv
      simp only [walkL] at hinv
      rw [hinv]
      exact ⟨hI2, rfl⟩
end Go.Proofs.YtogicnodmgdnbaaGreatDoor
end

/-! TermB -/
section
namespace Go.Proofs.YtogicnodmgdnbaaGreatDoor
open Go.Tr Go
set_option maxRecDepth 10000
theorem proper_spec (t : Tm) : ∀ (depth k : Int) (a : Option Addr) (c : Nat), 0 ≤ depth → depth ≤ 41 → 0 ≤ k → k ≤ 600 →
    Meets Tryz.prog (fnS 103) [tmS t a c, iS depth, .loc 0 0] ⟨[.cells 3 [iS k]], [], [tmR t a c]⟩
      (fun o S' => o = .ret (bS (properF t depth k).1) ∧ S' = ⟨[.cells 3 [iS (properF t depth k).2]], [], []⟩) := by
  induction t using Tm.ind with
  | h t ih =>
  intro depth k a c hd1 hd2 hk1 hk2
  refine Meets.of_ok fun hok => ?_
  have hB : (Tm.encL t.args).length ≤ 1152921504606846976 := (hok _ (List.mem_cons_self ..)).1
  have hlen := Tm.encL_length t.args
  refine spec_of_body (N := 95) (m := 1) (dt := fun _ => none) [6] ttOK Tryz.func103 rfl Tryz.call103 Tryz.ntmps103 rfl rfl rfl mixed (by kernel_rfl) ?_
  have hw : IntKind.i64.wrap (k + 1) = k + 1 := wrap_i64 (by omega) (by omega)
  have hF := properF_eq t depth k
  refine AtIf.mk ?_ ?_
  · intro h
    rw [hw] at h
    refine ret_own [.cells 3 [iS (k + 1)]] (by simp only [hw]; rfl) rfl rfl rfl rfl ?_
    rw [hF, if_pos (by simpa using h)]
    exact ⟨rfl, rfl⟩
  · intro h
    rw [hw] at h
    have hno : ¬ (600 < k + 1 ∨ 40 < depth) := by simpa using h
    rw [if_neg hno] at hF
    refine AtCut.mk ⟨Unit, fun _ => [(7, iS (Tm.encL t.args).length), (8, bS (okNode t.op t.hd t.n t.args.length)), (3, .loc 1 0), (1, iS depth), (2, .loc 0 0)],
      fun _ => ⟨[.cells 3 [iS (k + 1)], .cells 55 [iS t.op, iS t.hd, iS t.n, .v (.slice a (Tm.encL t.args).length c)]], [], [tmR t a c]⟩,
      fun _ => True, fun _ _ => ⟨rfl, rfl⟩, ?_, ?_⟩
    · have fin : ∀ {b : Bool} {env : Env} {S : St}, b = okNode t.op t.hd t.n t.args.length → S = ⟨[.cells 3 [iS (IntKind.i64.wrap (k + 1))], .cells 55 [iS t.op, iS t.hd, iS t.n, .v (.slice a (Tm.encL t.args).length c)]], [], [tmR t a c]⟩ →
          envLe env [(7, iS (Tm.encL t.args).length), (8, bS b), (3, .loc 1 0), (1, iS depth), (2, .loc 0 0)] → 
          ∃ x : Unit, True ∧ envLe env [(7, iS (Tm.encL t.args).length), (8, bS (okNode t.op t.hd t.n t.args.length)), (3, .loc 1 0), (1, iS depth), (2, .loc 0 0)] ∧ StLe S ⟨[.cells 3 [iS (k + 1)], .cells 55 [iS t.op, iS t.hd, iS t.n, .v (.slice a (Tm.encL t.args).length c)]], [], [tmR t a c]⟩ := by
        rintro b env S rfl rfl he
        exact ⟨(), trivial, he, by rw [hw]; exact StLe.refl _⟩
      refine AtIf.mk (fun h1 => ?_) (fun h1 => AtIf.mk (fun h2 => ?_) (fun h2 => AtIf.mk (fun h3 => ?_) (fun h3 => AtIf.mk (fun h4 => ?_) (fun h4 => ?_))))
      · refine fin ?_ rfl ⟨rfl, rfl, rfl, rfl, rfl, trivial⟩
        simp only [beq_iff_eq] at h1
        simp only [okNode, h1, hlen]
        rw [Bool.eq_iff_iff]; simp
      · refine fin ?_ rfl ⟨rfl, rfl, rfl, rfl, rfl, trivial⟩
        simp only [beq_iff_eq] at h2
        simp only [okNode, h2, hlen]
        rw [Bool.eq_iff_iff]; simp; omega
      · refine fin ?_ rfl ⟨rfl, rfl, rfl, rfl, rfl, trivial⟩
        simp only [beq_iff_eq] at h3
        simp only [okNode, h3, hlen]
        rw [Bool.eq_iff_iff]; simp; omega
      · refine fin ?_ rfl ⟨rfl, rfl, rfl, rfl, rfl, trivial⟩
        simp only [beq_iff_eq] at h4
        simp only [okNode, h4]
        rw [Bool.eq_iff_iff]; simp
      · simp only [beq_eq_false_iff_ne] at h1 h2 h3 h4
        refine ret_own [.cells 3 [iS (k + 1)]] (by simp only [hw]; rfl) rfl rfl rfl rfl ?_
        have : okNode t.op t.hd t.n t.args.length = false := by simp [okNode, h1, h2, h3, h4]
        rw [hF, this]
        exact ⟨rfl, rfl⟩
    · intro _ _
      refine AtLoop.mk ⟨Nat × Bool × Int, fun x => [(9, iS x.1), (7, iS (Tm.encL t.args).length), (8, bS x.2.1), (3, .loc 1 0), (1, iS depth), (2, .loc 0 0)],
        fun x => ⟨[.cells 3 [iS x.2.2], .cells 55 [iS t.op, iS t.hd, iS t.n, .v (.slice a (Tm.encL t.args).length c)]], [], [tmR t a c]⟩,
        fun x => x.1 ≤ t.args.length ∧ 0 ≤ x.2.2 ∧ (x.2.1 = true → x.2.2 ≤ 600) ∧ properF t depth k = if x.2.1 then properL (t.args.drop x.1) (depth + 1) x.2.2 else (false, x.2.2),
        fun x => t.args.length - x.1, (0, okNode t.op t.hd t.n t.args.length, k + 1), ?_, ⟨rfl, rfl, rfl, rfl, rfl, rfl, trivial⟩, StLe.refl _, fun x _ => ⟨rfl, rfl⟩, ?_⟩
      · exact ⟨Nat.zero_le _, by simp; omega, fun _ => by simp; omega, by simpa using hF⟩
      · rintro ⟨i, ok, kk⟩ ⟨hi, hk0, hk6, hinv⟩
        simp only at hi hk0 hk6 hinv ⊢
        refine AtIf.mk (fun h1 => ?_) (fun h1 => ?_)
        · simp only [Bool.and_eq_true, decide_eq_true_eq, hlen] at h1
          obtain ⟨h1, rfl⟩ := h1
          have hlt : i < t.args.length := by omega
          obtain ⟨t', ht'⟩ : ∃ t', t.args[i]? = some t' := ⟨_, List.getElem?_eq_getElem hlt⟩
          refine at_index ttOK 0 rfl rfl rfl rfl (by omega) (by rw [Int.toNat_natCast]; exact Tm.encL_get ht') ?_
          intro a' c' _ _
          have hw2 : IntKind.i64.wrap (depth + 1) = depth + 1 := wrap_i64 (by omega) (by omega)
          have hspec := ih t' (List.mem_of_getElem? ht') (depth + 1) kk a' c' (by omega) (by omega) hk0 (hk6 rfl)
          refine hspec.frame [0] rfl (by simp only [hw2]; rfl) (by simp) rfl ?_ ?_ rfl rfl ?_
          · intro p q hp
            match p, hp with
            | 0, hp => simp at hp; subst hp; exact ⟨0, rfl, rfl, rfl⟩
          · intro p hp; simp at hp; subst hp; exact List.mem_cons_of_mem _ (List.mem_cons_self ..)
          · rintro o s' ⟨rfl, rfl⟩
            refine ⟨rfl, rfl, [.cells 3 [iS (properF t' (depth + 1) kk).2]], rfl, ?_⟩
            have hle := properF_le t' (depth + 1) kk hk0 (hk6 rfl)
            have hw3 : IntKind.i64.wrap (i + 1) = ((i + 1 : Nat) : Int) := wrap_i64 (by omega) (by omega)
            refine ⟨(i + 1, (properF t' (depth + 1) kk).1, (properF t' (depth + 1) kk).2), ⟨by omega, by simp; omega, hle.2.2, ?_⟩, by simp; omega, ⟨by rw [← hw3]; rfl, rfl, rfl, rfl, rfl, rfl, trivial⟩, StLe.to _ _ rfl (by simp) rfl rfl⟩
            rw [hinv]
            have hd : t.args.drop i = t' :: t.args.drop (i + 1) := by
              rw [List.drop_eq_getElem_cons hlt]
              congr 1
              rw [List.getElem?_eq_getElem hlt] at ht'
              simpa using ht'
            simp only [if_true, hd, properL]
            cases properF t' (depth + 1) kk with
            | mk b k' => cases b <;> rfl
        · refine ret_own [.cells 3 [iS kk]] rfl rfl rfl rfl rfl ?_
          have : properF t depth k = (ok, kk) := by
            rw [hinv]
            cases ok with
            | false => rfl
            | true =>
              simp only [Bool.and_true, decide_eq_false_iff_not, hlen] at h1
              rw [List.drop_of_length_le (by omega)]
              rfl
          rw [this]
          exact ⟨rfl, rfl⟩

/-- A term is proper. -/
def isProper (t : Tm) : Bool := (properF t 1 0).1

theorem check_spec (t : Tm) (a : Option Addr) (c : Nat) : Pure Tryz.prog (fnS 73) [tmS t a c] [tmR t a c] (fun r out => r = iS (if isProper t then 0 else 2) ∧ out = []) := by
  refine spec_of_body (N := 7) (m := 0) (dt := fun _ => none) [] ttOK Tryz.func73 rfl Tryz.call73 Tryz.ntmps73 rfl rfl rfl mixed (by kernel_rfl) ?_
  have hs := proper_spec t 1 0 a c (by omega) (by omega) (by omega) (by omega)
  refine hs.frame [1] rfl rfl (by decide) rfl ?_ (by simp) rfl rfl ?_
  · intro p q hp
    match p, hp with
    | 0, hp => simp at hp; subst hp; exact ⟨1, rfl, rfl, rfl⟩
  rintro o s' ⟨rfl, rfl⟩
  refine ⟨rfl, rfl, [.cells 3 [iS (properF t 1 0).2]], rfl, ?_⟩
  refine AtIf.mk (fun h => ?_) (fun h => ?_)
  · refine AtRet.pure [] rfl (by simp) ⟨?_, rfl⟩
    simp only [Bool.not_eq_true'] at h
    simp [isProper, h]
  · refine AtRet.pure [] rfl (by simp) ⟨?_, rfl⟩
    simp only [Bool.not_eq_false'] at h
    simp [isProper, h]
end Go.Proofs.YtogicnodmgdnbaaGreatDoor
end

/-! TermC -/
section
namespace Go.Proofs.YtogicnodmgdnbaaGreatDoor
open Go.Tr Go
set_option maxRecDepth 10000

theorem nodup_bound : ∀ (n : Nat) (l : List Nat), l.Nodup → (∀ m ∈ l, m < n) → l.length ≤ n
  | 0, l, _, h => by
    cases l with
    | nil => simp
    | cons a l => have := h a (by simp); omega
  | n + 1, l, hn, h => by
    by_cases hm : n ∈ l
    · have h1 := nodup_bound n (l.erase n) (hn.erase n) (fun m hm' => by
        have := (hn.mem_erase_iff.1 hm')
        have := h m this.2
        omega)
      rw [List.length_erase_of_mem hm] at h1
      omega
    · have h1 := nodup_bound n l hn (fun m hm' => by
        have h2 := h m hm'
        have h3 : m ≠ n := fun e => hm (e ▸ hm')
        omega)
      omega

theorem int_under : Tryz.prog.underlying 3 = some (.int .i64) := Tryz.underlying3

/-- What a node adds to the numbers that were found. -/
def noteStep (f : Tm → Int → Int × Bool) (l : List (Int × Value)) (t : Tm) (b : Int) : List (Int × Value) :=
  if t.op = 4 ∧ (f t b).2 = true then putAt (f t b).1 (.bool true) l else l

/-- The function that numbers asks of each node, by what it answers. -/
def AsksOK (OF : SV) (f : Tm → Int → Int × Bool) : Prop :=
  ∀ t b a c, 0 ≤ b → b ≤ 1000000 → Pure Tryz.prog (.val OF) [tmS t a c, iS b] [tmR t a c] (fun r out => r = .tup [iS (f t b).1, bS (f t b).2] ∧ out = [])

theorem numbers1_spec (OF : SV) (hOF : OF.wf 0 = true) (f : Tm → Int → Int × Bool) (hf : AsksOK OF f) (t : Tm) (a : Option Addr) (c : Nat) (b : Int) (hb : 0 ≤ b) (hb1 : b ≤ 1000000) (l : List (Int × Value)) :
    Meets Tryz.prog (.val (.fn (.func 137) [] [.loc 0 0, .loc 2 0])) [tmS t a c, iS b] ⟨[.cells 162 [OF], .obj (mapO .i64 l), .cells 181 [.mp 1]], [], [tmR t a c]⟩
      (fun o S' => o = .ret (.tup []) ∧ S' = ⟨[.cells 162 [OF], .obj (mapO .i64 (noteStep f l t b)), .cells 181 [.mp 1]], [], []⟩) := by
  refine spec_of_body (N := 21) (m := 3) (dt := fun _ => none) [] ttOK Tryz.func137 rfl Tryz.call137 Tryz.ntmps137 rfl (by simp [SV.wfL, SV.wf]) rfl mixed (by kernel_rfl) ?_
  refine AtIf.mk (fun h => ?_) (fun h => ?_)
  · simp only [beq_iff_eq] at h
    refine (hf t b a c hb hb1).at (by simp) rfl hOF ?_
    rintro r out ⟨rfl, rfl⟩
    refine AtIf.mk (fun h2 => ?_) (fun h2 => ?_)
    · refine at_mapPut ttOK (.bool true) rfl int_under rfl rfl rfl (fun _ => rfl) ?_
      refine ret_own [.cells 162 [OF], .obj (mapO .i64 (putAt (f t b).1 (.bool true) l)), .cells 181 [.mp 1]] rfl rfl rfl ?_ rfl ⟨rfl, ?_⟩
      · simp [wfB, Blk.wf, SV.wfL, SV.wf, SV.wf_mono (Nat.zero_le _) OF hOF, mapO]; rfl
      · rw [noteStep, if_pos ⟨h, h2⟩]
    · refine ret_own [.cells 162 [OF], .obj (mapO .i64 l), .cells 181 [.mp 1]] rfl rfl rfl ?_ rfl ⟨rfl, ?_⟩
      · simp [wfB, Blk.wf, SV.wfL, SV.wf, SV.wf_mono (Nat.zero_le _) OF hOF, mapO]; rfl
      · rw [noteStep, if_neg (fun hh => by rw [h2] at hh; cases hh.2)]
  · simp only [beq_eq_false_iff_ne] at h
    refine ret_own [.cells 162 [OF], .obj (mapO .i64 l), .cells 181 [.mp 1]] rfl rfl rfl ?_ rfl ⟨rfl, ?_⟩
    · simp [wfB, Blk.wf, SV.wfL, SV.wf, SV.wf_mono (Nat.zero_le _) OF hOF, mapO]; rfl
    · rw [noteStep, if_neg (fun hh => h hh.1)]

/-- What Free asks of a node. -/
def freeOf (t : Tm) (b : Int) : Int × Bool := (IntKind.i64.wrap (t.n - b), t.hd == 1 && decide (b ≤ t.n))

theorem free1_spec : AsksOK (.fn (.func 113) [] []) freeOf := by
  intro t b a c _ _
  refine spec_of_body (N := 19) (m := 0) (dt := drawsOf [(1, .leaf [0, 1, 2, 3, 4, 5, 6, 7, 8, 9, 10, 11, 12, 13, 14], [], [])]) [] ttOK Tryz.func113 rfl Tryz.call113 Tryz.ntmps113 rfl rfl rfl mixed (by kernel_rfl) ?_
  refine AtRet.pure [] rfl (by simp) ⟨rfl, rfl⟩

/-- A function that is asked for each key, from left to right: the keys so far are told by its state. -/
structure AsksKey (n0 : Nat) (Y : SV) {σ : Type} (m0 m1 : Blk) (B2 B3 : σ → Blk) (A : σ → List Acc) (kof : σ → List Int) (L : Nat) : Prop where
  wf : Y.wf n0 = true
  does : ∀ s k, (kof s).length < L → Meets Tryz.prog (.val Y) [iS k] ⟨[m0, m1, B2 s, B3 s], A s, []⟩ (fun o S' => o = .ret (bS true) ∧ ∃ s', kof s' = kof s ++ [k] ∧ S' = ⟨[m0, m1, B2 s', B3 s'], A s', []⟩)

theorem keys1_spec (l : List (Int × Value)) {σ : Type} (Y : SV) (B2 B3 : σ → Blk) (A : σ → List Acc) (kof : σ → List Int) (hY : AsksKey 4 Y (.obj (mapO .i64 l)) (.cells 181 [.mp 0]) B2 B3 A kof l.length)
    (hB : ∀ s s', (B2 s).mut = (B2 s').mut ∧ (B3 s).mut = (B3 s').mut) (hwf : ∀ s, (B2 s).wf 4 = true ∧ (B3 s).wf 4 = true) (s0 : σ) (h0 : kof s0 = []) :
    Meets Tryz.prog (.val (.fn (.func 155) [] [.loc 1 0])) [Y] ⟨[.obj (mapO .i64 l), .cells 181 [.mp 0], B2 s0, B3 s0], A s0, []⟩
      (fun o S' => o = .ret (.tup []) ∧ ∃ s, (kof s).Perm (l.map (·.1)) ∧ S' = ⟨[.obj (mapO .i64 l), .cells 181 [.mp 0], B2 s, B3 s], A s, []⟩) := by
  refine spec_of_body (N := 14) (m := 4) (dt := fun _ => none) [] ttOK Tryz.func155 rfl Tryz.call155 Tryz.ntmps155 rfl (by simp [SV.wfL, SV.wf, hY.wf]) rfl mixed (by kernel_rfl) ?_
  refine at_range ttOK rfl rfl rfl ?_
  have hlt : ∀ (seen : Array Nat), seen.toList.Nodup → (∀ m ∈ seen.toList, m < l.length) → seen.size ≤ l.length := fun seen h1 h2 => by
    simpa using nodup_bound l.length seen.toList h1 h2
  refine AtLoop.mk ⟨σ × Array Nat, fun _ => [(5, .loc 4 0), (0, Y)], fun x => ⟨[.obj (mapO .i64 l), .cells 181 [.mp 0], B2 x.1, B3 x.1, .iter 0 l.length x.2 l.length], A x.1, []⟩,
    fun x => kof x.1 = x.2.toList.map (fun m => ((l[m]?).map (·.1)).getD 0) ∧ x.2.toList.Nodup ∧ ∀ m ∈ x.2.toList, m < l.length, fun x => l.length - x.2.size, (s0, #[]), ⟨by simp [h0], by simp, by simp⟩, ⟨rfl, rfl, trivial⟩, StLe.refl _, ?_, ?_⟩
  · intro x _
    refine ⟨?_, rfl⟩
    simp [envWf, SV.wf, SV.wf_mono (show 4 ≤ 5 by omega) Y hY.wf]
    rfl
  rintro ⟨s, seen⟩ ⟨hk, hnd, hsm⟩
  simp only at hk hnd hsm ⊢
  refine at_next rfl rfl rfl ?_ ?_
  · intro hall
    refine AtIf.mk (fun h => by cases h) (fun _ => ?_)
    refine ret_keep [.obj (mapO .i64 l), .cells 181 [.mp 0], B2 s, B3 s] rfl rfl rfl ?_ rfl ⟨rfl, s, ?_, rfl⟩
    · have := hwf s
      simp only [wfB, List.length_cons, List.length_nil, this.1, this.2]
      rfl
    · rw [hk]
      have hp : seen.toList.Perm (List.range l.length) := by
        refine (List.perm_ext_iff_of_nodup hnd List.nodup_range).2 (fun m => ?_)
        rw [List.mem_range]
        exact ⟨hsm m, fun hm => by simpa using hall m hm⟩
      refine (hp.map _).trans (List.Perm.of_eq ?_)
      apply List.ext_getElem?
      intro m
      simp only [List.getElem?_map]
      rcases Nat.lt_or_ge m l.length with h | h
      · simp [h]
      · simp [Nat.not_lt.2 h]
  · intro m p hp hns
    refine AtIf.mk (fun _ => ?_) (fun h => by cases h)
    refine at_entry rfl rfl rfl hp ?_
    have hmlt : m < l.length := (List.getElem?_eq_some_iff.1 hp).1
    have hsz : (seen.push m).size ≤ l.length := hlt (seen.push m) (by simp [List.nodup_append, hnd]; intro a ha e; subst e; exact hns (by simpa using ha)) (by simp; rintro a (ha | ha); exact hsm a (by simpa using ha); omega)
    have hs := hY.does s p.1 (by rw [hk]; simp at hsz ⊢; omega)
    have hw := hwf s
    refine hs.frame0 [.iter 0 l.length (seen.push m) l.length] [] rfl (by simp) ?_ (by simp) rfl hY.wf ?_
    · intro q hq
      simp only [List.mem_cons, List.not_mem_nil, or_false] at hq
      rcases hq with rfl | rfl | rfl | rfl
      · rfl
      · rfl
      · exact hw.1
      · exact hw.2
    rintro o s' ⟨rfl, s2, hk2, rfl⟩
    refine ⟨by simp [hB s s2], ?_⟩
    refine AtIf.mk (fun h => by cases h) (fun _ => ?_)
    refine ⟨(s2, seen.push m), ⟨?_, ?_, ?_⟩, ?_, ⟨rfl, rfl, trivial⟩, ?_⟩
    · simp [hk2, hk, hp]
    · simp [List.nodup_append, hnd]; intro a ha e; subst e; exact hns (by simpa using ha)
    · simp; rintro a (ha | ha); exact hsm a (by simpa using ha); omega
    · simp at hsz ⊢; omega
    · simp only [List.append_nil]
      exact StLe.refl _

/-- What slices.AppendSeq has collected. -/
abbrev seqB2 (x : List Int × Value) : Blk := .cells 23 [.v x.2]
abbrev seqA (x : List Int × Value) : List Acc := [⟨x.2, 1, 3, x.1.map (D.int .i64)⟩]

theorem appendSeq_spec (l : List (Int × Value)) (hL : l.length ≤ 1000000) :
    Meets Tryz.prog (fnS 162) [.v (.slice none 0 0), .fn (.func 155) [] [.loc 1 0]] ⟨[.obj (mapO .i64 l), .cells 181 [.mp 0]], [⟨.slice none 0 0, 1, 3, []⟩], []⟩
      (fun o S' => ∃ (ks : List Int) (v : Value), ks.Perm (l.map (·.1)) ∧ o = .ret (.v v) ∧ S' = ⟨[.obj (mapO .i64 l), .cells 181 [.mp 0]], [⟨v, 1, 3, ks.map (D.int .i64)⟩], []⟩) := by
  refine spec_of_body (N := 13) (m := 2) (dt := fun _ => none) [] ttOK Tryz.func162 rfl Tryz.call162 Tryz.ntmps162 rfl rfl rfl mixed (by kernel_rfl) ?_
  refine AtRange.mk ⟨[(2, .loc 2 0)], ⟨rfl, trivial⟩, rfl, rfl, ⟨_, _, _, rfl, Tryz.call155⟩, ?_⟩
  refine (keys1_spec l (.yld 3) seqB2 (fun _ => _) seqA (·.1) ⟨rfl, ?_⟩ (fun _ _ => ⟨rfl, rfl⟩) (fun _ => ⟨rfl, rfl⟩) ([], .slice none 0 0) rfl).mono ?_
  · rintro ⟨ks, v⟩ k hlt
    simp only at hlt
    refine spec_of_round (N := 13) (m := 4) (dt := fun _ => none) [] ttOK rfl rfl rfl rfl rfl rfl mixed (by kernel_rfl) (by kernel_rfl) ?_
    refine at_build ttOK 8 [.int .i64 k] rfl (by kernel_rfl) ⟨⟨rfl, rfl, rfl, rfl⟩, trivial⟩ rfl (by decide) (by decide) ?_
    intro a
    refine at_append ttOK 8 0 0 rfl (by kernel_rfl) rfl rfl rfl rfl (by simp; omega) (by simp; omega) ?_
    intro a' c'
    refine ret_keep [.obj (mapO .i64 l), .cells 181 [.mp 0], seqB2 (ks ++ [k], .slice a' ((ks.map (D.int .i64)).length + 1) c'), _] rfl rfl rfl rfl rfl ⟨rfl, (ks ++ [k], .slice a' ((ks.map (D.int .i64)).length + 1) c'), rfl, ?_⟩
    simp [stOf]
  · rintro o S' ⟨rfl, ⟨ks, v⟩, hp, rfl⟩
    refine ⟨⟨_, StLe.of (S' := ⟨[.obj (mapO .i64 l), .cells 181 [.mp 0]], seqA (ks, v), []⟩) rfl (List.Sublist.refl _) (by simp) rfl rfl, Nat.le_refl _, rfl, ks, v, hp, rfl, rfl⟩⟩
end Go.Proofs.YtogicnodmgdnbaaGreatDoor
end

/-! Sorted -/
section
namespace Go.Proofs.YtogicnodmgdnbaaGreatDoor
open Go.Tr Go
set_option maxRecDepth 10000

theorem repE_ints {J : Nat → Prop} {w : World} : ∀ (ks : List Int) (cs : List Value), RepE J w 1 (ks.map (D.int .i64)) cs ↔ cs.take ks.length = ks.map (Value.int .i64)
  | [], cs => by simp [RepE]
  | k :: ks, cs => by
    simp only [List.map_cons, RepE, repE_ints ks, RepC, List.length_cons]
    cases cs with
    | nil => simp
    | cons c cs => simp

def sorted (ks : List Int) : List Int := ks.mergeSort fun x y => decide (x ≤ y)

theorem sorted_perm {l l' : List Int} (h : l.Perm l') : sorted l = sorted l' := by
  have tr : ∀ a b c : Int, decide (a ≤ b) = true → decide (b ≤ c) = true → decide (a ≤ c) = true := by simp; omega
  have tot : ∀ a b : Int, (decide (a ≤ b) || decide (b ≤ a)) = true := by simp; omega
  refine List.Perm.eq_of_pairwise (le := fun x y : Int => x ≤ y) ?_ ?_ ?_ (((List.mergeSort_perm l _).trans h).trans (List.mergeSort_perm l' _).symm)
  · intro a b _ _ h1 h2; omega
  · exact (List.pairwise_mergeSort tr tot l).imp (by simp)
  · exact (List.pairwise_mergeSort tr tot l').imp (by simp)

theorem sort_some (ks : List Int) (b cap : Nat) (hlen : ks.length < 4611686018427387904) :
    Meets Tryz.prog (fnS 154) [.v (.slice (some ⟨b, 0, none⟩) ks.length cap)] ⟨[], [⟨.slice (some ⟨b, 0, none⟩) ks.length cap, 1, 3, ks.map (D.int .i64)⟩], []⟩
      (fun o S' => o = .ret (.tup []) ∧ S' = ⟨[], [⟨.slice (some ⟨b, 0, none⟩) ks.length cap, 1, 3, (sorted ks).map (D.int .i64)⟩], []⟩) := by
  intro J ℓ w hG hJ
  have hl : ℓ = [] := by have := hG.len; simpa using this
  subst hl
  have hacc := hG.accs _ (List.mem_singleton.2 rfl)
  rcases hacc with ⟨hv, _⟩ | ⟨g, cp, c, hv, hgb, hcs, hle, hre⟩
  · cases hv
  simp only [List.length_map, Value.slice.injEq, Option.some.injEq, Addr.mk.injEq, and_true, true_and] at hv
  obtain ⟨rfl, rfl⟩ := hv
  simp only [List.length_map] at hle
  have ht := (repE_ints ks c.toList).1 hre
  refine ⟨.enter 154 #[.slice (some ⟨b, 0, none⟩) ks.length cap], ?_, ?_⟩
  · simp only [Cal.sem, SV.den, SV.denL, Deferred.ofValue, Sem.run_bind, Sem.run_pure, Result.andThen_ok, invoke]
    exact Tryz.call154 _ _
  · have hc := Any.slices_Sort_int sortLays b 0 cap ks w (holds_of_blockI hgb ht) (lt_of_get hgb) hlen
    refine CallsIn.mono ((callsIn_wide (n := 0)).2 hc) ?_
    rintro e w' ⟨rfl, n, os, rfl⟩
    have hsl : (sorted ks).length = ks.length := by simp [sorted, List.length_mergeSort]
    have hgr := grownBy_sortedI (w := w) (g := b) (n := n) (os := os) (sorted ks).toArray
    have hhs := heap_sortedI (n := n) (os := os) (sorted ks).toArray hgb
    have hgood := hG.regrow (j := 0) (a' := ⟨.slice (some ⟨b, 0, none⟩) ks.length cap, 1, 3, (sorted ks).map (D.int .i64)⟩) (w' := Go.Sort.grow (Go.Sort.putRow (Value.int .i64) (Go.Sort.ahead w n) b 0 (sorted ks).toArray) os) hJ rfl hgr.size
      (fun x hx hm => hgr.block x hx (fun e => hm (by simp only [Option.some.injEq] at e; simp [accBlk, e]))) (by simp [accBlk]) (fun x hx => ?_) (fun J' hj => ?_)
    · refine ⟨[], .ret (.tup []), _, rfl, rfl, List.prefix_refl _, ⟨hgr.os, hgr.output, hgr.size, fun x hx hm => hgr.block x hx (fun e => hm ?_)⟩, hgood.1, hgood.2, rfl, rfl⟩
      simp only [Option.some.injEq] at e
      simp [mutS, mutL, accBlk, e]
    · simp [accBlk] at hx
      subst hx
      exact ⟨.inl (by simp [accBlk]), lt_of_get hhs⟩
    · refine .inr ⟨b, cap, _, by simp [hsl], hhs, by simp [Go.Sort.putCells, hcs], by simp [hsl]; exact hle, ?_⟩
      rw [repE_ints, hsl, ← hsl]
      exact take_putCellsI c (sorted ks) (by rw [hsl, hcs]; simp; exact hle.1)

abbrev nilS : SV := .v (.slice none 0 0)

theorem insertion_none : Pure Tryz.prog (fnS 170) [nilS, iS 0, iS 0] [] (fun r out => r = .tup [] ∧ out = []) := by
  refine spec_of_body (N := 49) (m := 0) (dt := drawsOf [(4, .node [0, 1, 2, 3, 4, 5, 6, 7, 8, 9, 10, 11, 12] [(13, .leaf [14])], [13], []), (6, .node [0, 1, 2, 3, 4, 5, 6, 7, 8, 9, 10, 11, 12, 13, 14] [(15, .node [16] [(17, .leaf [])])], [17], [])]) [] ttOK Tryz.func170 rfl Tryz.call170 Tryz.ntmps170 rfl rfl rfl mixed (by kernel_rfl) ?_
  refine AtLoop.mk ⟨Unit, fun _ => [(6, iS 1), (2, iS 0)], fun _ => ⟨[], [], []⟩, fun _ => True, fun _ => 0, (), trivial, ⟨rfl, rfl, trivial⟩, StLe.refl _, fun _ _ => ⟨rfl, rfl⟩, ?_⟩
  intro _ _
  refine AtIf.mk (fun h => by cases h) (fun _ => ?_)
  exact AtRet.pure [] rfl (by simp) ⟨rfl, rfl⟩

theorem pdq_none (lim : Int) : Pure Tryz.prog (fnS 163) [nilS, iS 0, iS 0, iS lim] [] (fun r out => r = .tup [] ∧ out = []) := by
  refine spec_of_body (N := 134) (m := 0) (dt := drawsOf [(17, .node [0, 1, 2, 3, 4, 5, 6, 7, 8, 9, 10, 11] [(12, .leaf [13, 14])], [12], [])]) [] ttOK Tryz.func163 rfl Tryz.call163 Tryz.ntmps163 rfl rfl rfl mixed (by kernel_rfl) ?_
  refine AtLoop.mk ⟨Unit, fun _ => [(0, nilS), (1, iS 0), (2, iS 0)], fun _ => ⟨[], [], []⟩, fun _ => True, fun _ => 0, (), trivial, ⟨rfl, rfl, rfl, trivial⟩, StLe.refl _, fun _ _ => ⟨rfl, rfl⟩, ?_⟩
  intro _ _
  refine AtIf.mk (fun _ => ?_) (fun h => by cases h)
  refine insertion_none.at (by simp) rfl rfl ?_
  rintro r out ⟨rfl, rfl⟩
  exact AtRet.pure [] rfl (by simp) ⟨rfl, rfl⟩

theorem len64_zero : Pure Tryz.prog (fnS 131) [.v (.int .u64 0)] [] (fun r out => r = iS 0 ∧ out = []) := by
  refine spec_of_body (N := 25) (m := 0) (dt := fun _ => none) [] ttOK Tryz.func131 rfl Tryz.call131 Tryz.ntmps131 rfl rfl rfl mixed (by kernel_rfl) ?_
  refine AtIf.mk (fun h => by cases h) (fun _ => ?_)
  refine AtIf.mk (fun h => by cases h) (fun _ => ?_)
  refine AtIf.mk (fun h => by cases h) (fun _ => ?_)
  refine AtSem.val (.v (.int .u8 0)) rfl (fun _ _ => by kernel_rfl) ?_
  refine AtPure.val (.v (.int .u8 0)) rfl (fun _ _ => by kernel_rfl) ?_
  refine AtSem.val (.v (.int .i64 0)) rfl (fun _ _ => by kernel_rfl) ?_
  exact AtRet.pure [] rfl (by simp) ⟨rfl, rfl⟩

theorem len_zero : Pure Tryz.prog (fnS 164) [.v (.int .u64 0)] [] (fun r out => r = iS 0 ∧ out = []) := by
  refine spec_of_body (N := 8) (m := 0) (dt := fun _ => none) [] ttOK Tryz.func164 rfl Tryz.call164 Tryz.ntmps164 rfl rfl rfl mixed (by kernel_rfl) ?_
  refine AtIf.mk (fun h => by cases h) (fun _ => ?_)
  refine len64_zero.at (by simp) rfl rfl ?_
  rintro r out ⟨rfl, rfl⟩
  exact AtRet.pure [] rfl (by simp) ⟨rfl, rfl⟩

theorem sort_none : Pure Tryz.prog (fnS 154) [nilS] [] (fun r out => r = .tup [] ∧ out = []) := by
  refine spec_of_body (N := 11) (m := 0) (dt := fun _ => none) [] ttOK Tryz.func154 rfl Tryz.call154 Tryz.ntmps154 rfl rfl rfl mixed (by kernel_rfl) ?_
  refine AtSem.val (.v (.int .u64 0)) rfl (fun _ _ => by kernel_rfl) ?_
  refine len_zero.at (by simp) rfl rfl ?_
  rintro r out ⟨rfl, rfl⟩
  refine (pdq_none 0).at (by simp) rfl rfl ?_
  rintro r out ⟨rfl, rfl⟩
  exact AtRet.pure [] rfl (by simp) ⟨rfl, rfl⟩

/-- What may grow is nil, or lies in a block. -/
theorem acc_cases {P : Program} {cl : Cal} {args : List SV} {v : Value} {k : Nat} {T : TypeId} {ds : List D} {R : Out → St → Prop} (h1 : v = .slice none 0 0 → ds = [] → Meets P cl args ⟨[], [⟨v, k, T, ds⟩], []⟩ R) (h2 : ∀ b cap, v = .slice (some ⟨b, 0, none⟩) ds.length cap → Meets P cl args ⟨[], [⟨v, k, T, ds⟩], []⟩ R) : Meets P cl args ⟨[], [⟨v, k, T, ds⟩], []⟩ R := by
  intro J ℓ w hG hJ
  rcases hG.accs _ (List.mem_singleton.2 rfl) with ⟨hv, hd⟩ | ⟨b, cap, c, hv, _⟩
  · exact h1 hv hd J ℓ w hG hJ
  · exact h2 b cap hv J ℓ w hG hJ

theorem sort_spec (ks : List Int) (v : Value) (hlen : ks.length < 4611686018427387904) :
    Meets Tryz.prog (fnS 154) [.v v] ⟨[], [⟨v, 1, 3, ks.map (D.int .i64)⟩], []⟩ (fun o S' => o = .ret (.tup []) ∧ S' = ⟨[], [⟨v, 1, 3, (sorted ks).map (D.int .i64)⟩], []⟩) := by
  refine acc_cases (fun hv hd => ?_) (fun b cap hv => ?_)
  · have hk : ks = [] := by simpa using hd
    subst hv hk
    refine sort_none.at (by simp) rfl rfl ?_
    rintro r out ⟨rfl, rfl⟩
    exact ⟨rfl, by simp [sorted]⟩
  · rw [List.length_map] at hv
    subst hv
    exact sort_some ks b cap hlen

theorem collect_spec (l : List (Int × Value)) (hL : l.length ≤ 1000000) :
    Meets Tryz.prog (fnS 153) [.fn (.func 155) [] [.loc 1 0]] ⟨[.obj (mapO .i64 l), .cells 181 [.mp 0]], [], []⟩
      (fun o S' => ∃ (ks : List Int) (v : Value), ks.Perm (l.map (·.1)) ∧ o = .ret (.v v) ∧ S' = ⟨[.obj (mapO .i64 l), .cells 181 [.mp 0]], [⟨v, 1, 3, ks.map (D.int .i64)⟩], []⟩) := by
  refine spec_of_body (N := 5) (m := 2) (dt := fun _ => none) [] ttOK Tryz.func153 rfl Tryz.call153 Tryz.ntmps153 rfl rfl rfl mixed (by kernel_rfl) ?_
  refine (Meets.nilAcc 1 3 (appendSeq_spec l hL)).frame0 [] [] rfl (by simp) ?_ (by simp) rfl rfl ?_
  · intro q hq
    simp only [List.mem_cons, List.not_mem_nil, or_false] at hq
    rcases hq with rfl | rfl <;> rfl
  rintro o s' ⟨ks, v, hp, rfl, rfl⟩
  refine ⟨rfl, ?_⟩
  exact ret_keep [.obj (mapO .i64 l), .cells 181 [.mp 0]] rfl rfl rfl rfl rfl ⟨ks, v, hp, rfl, rfl⟩

theorem sorted_spec (l : List (Int × Value)) (hL : l.length ≤ 1000000) :
    Meets Tryz.prog (fnS 138) [.fn (.func 155) [] [.loc 1 0]] ⟨[.obj (mapO .i64 l), .cells 181 [.mp 0]], [], []⟩
      (fun o S' => ∃ (v : Value), o = .ret (.v v) ∧ S' = ⟨[.obj (mapO .i64 l), .cells 181 [.mp 0]], [⟨v, 1, 3, (sorted (l.map (·.1))).map (D.int .i64)⟩], []⟩) := by
  refine spec_of_body (N := 9) (m := 2) (dt := fun _ => none) [] ttOK Tryz.func138 rfl Tryz.call138 Tryz.ntmps138 rfl rfl rfl mixed (by kernel_rfl) ?_
  refine (collect_spec l hL).frame0 [] [] rfl (by simp) ?_ (by simp) rfl rfl ?_
  · intro q hq
    simp only [List.mem_cons, List.not_mem_nil, or_false] at hq
    rcases hq with rfl | rfl <;> rfl
  rintro o s' ⟨ks, v, hp, rfl, rfl⟩
  refine ⟨rfl, ?_⟩
  have hks : ks.length ≤ 1000000 := by rw [hp.length_eq, List.length_map]; exact hL
  refine (sort_spec ks v (by omega)).frame0 [.obj (mapO .i64 l), .cells 181 [.mp 0]] [] rfl (by simp) (by simp) (by simp) rfl rfl ?_
  rintro o s' ⟨rfl, rfl⟩
  refine ⟨rfl, ?_⟩
  refine ret_keep [.obj (mapO .i64 l), .cells 181 [.mp 0]] rfl rfl rfl rfl rfl ⟨v, rfl, ?_⟩
  have hs : sorted ks = sorted (l.map (·.1)) := sorted_perm hp
  rw [hs]; rfl
end Go.Proofs.YtogicnodmgdnbaaGreatDoor
end

/-! Free -/
section
namespace Go.Proofs.YtogicnodmgdnbaaGreatDoor
open Go.Tr Go
set_option maxRecDepth 10000

theorem keys_spec (l : List (Int × Value)) : Meets Tryz.prog (fnS 139) [.mp 0] ⟨[.obj (mapO .i64 l)], [], []⟩
    (fun o S' => o = .ret (.fn (.func 155) [] [.loc 1 0]) ∧ S' = ⟨[.obj (mapO .i64 l), .cells 181 [.mp 0]], [], []⟩) := by
  refine spec_of_body (N := 4) (m := 1) (dt := fun _ => none) [] ttOK Tryz.func139 rfl Tryz.call139 Tryz.ntmps139 rfl rfl rfl mixed (by kernel_rfl) ?_
  exact AtRet.mk ⟨⟨[.obj (mapO .i64 l), .cells 181 [.mp 0]], [], []⟩, StLe.to _ _ rfl (by simp) rfl rfl, Nat.le_of_ble_eq_true rfl, rfl, rfl, rfl⟩

/-- The numbers that the nodes of a term give. -/
def numsOf (f : Tm → Int → Int × Bool) (t : Tm) : List Int := sorted ((walkF (noteStep f) t [] 0).map (·.1))

theorem putAt_length (n : Int) (v : Value) : ∀ (l : List (Int × Value)), (putAt n v l).length ≤ l.length + 1
  | [] => by simp [putAt]
  | (k, u) :: r => by
    simp only [putAt]
    split
    · simp
    · simp; exact putAt_length n v r

mutual
def Tm.count : Tm → Nat
  | .mk _ _ _ args => Tm.countL args + 1
def Tm.countL : List Tm → Nat
  | [] => 0
  | t :: ts => t.count + Tm.countL ts
 end

theorem noteStep_length (f : Tm → Int → Int × Bool) (l : List (Int × Value)) (t : Tm) (b : Int) : (noteStep f l t b).length ≤ l.length + 1 := by
  unfold noteStep; split
  · exact putAt_length _ _ _
  · omega

mutual
theorem walkF_length (f : Tm → Int → Int × Bool) : ∀ (t : Tm) (l : List (Int × Value)) (b : Int), (walkF (noteStep f) t l b).length ≤ l.length + t.count
  | .mk o h n args, l, b => by
    simp only [walkF, Tm.count]
    have h1 := walkL_length f o args 0 (noteStep f l (.mk o h n args) b) b
    have h2 := noteStep_length f l (.mk o h n args) b
    omega
theorem walkL_length (f : Tm → Int → Int × Bool) : ∀ (o : Int) (ts : List Tm) (i : Nat) (l : List (Int × Value)) (b : Int), (walkL (noteStep f) o ts i l b).length ≤ l.length + Tm.countL ts
  | o, [], i, l, b => by simp [walkL, Tm.countL]
  | o, t :: ts, i, l, b => by
    simp only [walkL, Tm.countL]
    have h1 := walkF_length f t l (b + under o i)
    have h2 := walkL_length f o ts (i + 1) (walkF (noteStep f) t l (b + under o i)) b
    omega
 end

mutual
/-- A proper term has few nodes, and is not nested deep. -/
theorem properF_count : ∀ (t : Tm) (d k : Int), (properF t d k).1 = true → (properF t d k).2 = k + t.count ∧ d + t.height ≤ 41
  | .mk o h n args, d, k, hp => by
    rw [properF_eq] at hp ⊢
    split at hp
    · cases hp
    · split at hp
      · rename_i h1 h2
        have h3 := properL_count args (d + 1) (k + 1) hp
        rw [if_neg h1, if_pos h2]
        simp only [Tm.args, Tm.count, Tm.height] at h3 ⊢
        refine ⟨by omega, ?_⟩
        have := h3.2
        rcases this with h4 | h4
        · omega
        · subst h4; simp only [Tm.heightL]; omega
      · cases hp
theorem properL_count : ∀ (ts : List Tm) (d k : Int), (properL ts d k).1 = true → (properL ts d k).2 = k + Tm.countL ts ∧ (d + Tm.heightL ts ≤ 41 ∨ ts = [])
  | [], d, k, _ => by simp [properL, Tm.countL]
  | t :: ts, d, k, hp => by
    simp only [properL] at hp ⊢
    cases hq : properF t d k with
    | mk b k' =>
      rw [hq] at hp
      cases b with
      | false => cases hp
      | true =>
        simp only at hp ⊢
        have h1 := properF_count t d k (by rw [hq])
        rw [hq] at h1
        have h2 := properL_count ts d k' hp
        simp only [Tm.countL, Tm.heightL] at h1 h2 ⊢
        refine ⟨by omega, .inl ?_⟩
        rcases h2.2 with h3 | h3
        · omega
        · subst h3; simp only [Tm.heightL]; omega
 end

theorem isProper_count {t : Tm} (h : isProper t = true) : t.count ≤ 600 ∧ t.height ≤ 40 := by
  have h1 := properF_count t 1 0 h
  have h2 := properF_le t 1 0 (by omega) (by omega)
  have h3 := h2.2.2 h
  omega

/-- A slice of ints, as data. -/
abbrev intsD (l : List Int) : D := .sl 1 (l.map (D.int .i64))

abbrev fS (g : Nat) : SV := .fn (.func g) [] []

theorem numbers_spec (g : Nat) (f : Tm → Int → Int × Bool) (hf : AsksOK (fS g) f) (t : Tm) (a : Option Addr) (c : Nat) :
    Pure Tryz.prog (fnS 112) [tmS t a c, fS g] [tmR t a c] (fun r out => (isProper t = false ∧ r = .tup [nilS, iS 2] ∧ out = []) ∨
      (isProper t = true ∧ ∃ v, r = .tup [.v v, iS 0] ∧ out = [(v, intsD (numsOf f t))])) := by
  refine spec_of_body (N := 20) (m := 0) (dt := fun _ => none) [] ttOK Tryz.func112 rfl Tryz.call112 Tryz.ntmps112 rfl rfl rfl mixed (by kernel_rfl) ?_
  refine (check_spec t a c).at (by simp) rfl rfl ?_
  rintro r out ⟨rfl, rfl⟩
  refine AtIf.mk (fun h => ?_) (fun h => ?_)
  · cases hp : isProper t with
    | true => rw [hp] at h; cases h
    | false => exact AtRet.pure [] rfl (by simp) (.inl ⟨rfl, by simp, rfl⟩)
  cases hp : isProper t with
  | false => rw [hp] at h; cases h
  | true =>
  obtain ⟨hc1, hc2⟩ := isProper_count hp
  refine at_makeMap .i64 ?_
  have hv := each_spec3 (.fn (.func 137) [] [.loc 0 0, .loc 2 0]) rfl (fun _ : List (Int × Value) => .cells 162 [fS g]) (fun l => .obj (mapO .i64 l)) (fun _ => .cells 181 [.mp 1]) (fun _ => True) (noteStep f)
    (fun _ _ => ⟨rfl, rfl, rfl⟩) (fun _ => ⟨rfl, rfl, rfl⟩) (fun _ => ⟨rfl, rfl, rfl⟩) rfl
    (fun l t b a c _ hb hb1 => (numbers1_spec (fS g) rfl f hf t a c b hb hb1 l).mono (by rintro o S' ⟨rfl, rfl⟩; exact ⟨rfl, trivial, rfl⟩)) t [] 0 a c trivial (by omega) (by omega)
  refine hv.frame [1, 2, 3] rfl rfl (by decide) rfl ?_ (by simp) rfl rfl ?_
  · intro p q hp
    match p, hp with
    | 0, hp => simp at hp; subst hp; exact ⟨1, rfl, rfl, rfl⟩
    | 1, hp => simp at hp; subst hp; exact ⟨2, rfl, rfl, rfl⟩
    | 2, hp => simp at hp; subst hp; exact ⟨3, rfl, rfl, rfl⟩
  rintro o s' ⟨rfl, _, rfl⟩
  have hl := walkF_length f t [] 0
  generalize hl' : walkF (noteStep f) t [] 0 = l at hl ⊢
  refine ⟨rfl, rfl, [.cells 162 [fS g], .obj (mapO .i64 l), .cells 181 [.mp 2]], rfl, ?_⟩
  refine (keys_spec l).frameG [2] (rest := []) rfl rfl (List.Perm.refl _) (by decide) rfl ?_ (by simp) rfl rfl ?_
  · intro p q hp
    match p, hp with
    | 0, hp => simp at hp; subst hp; exact ⟨2, rfl, rfl, rfl⟩
  rintro o s' ⟨rfl, rfl⟩ _ _
  refine ⟨[.obj (mapO .i64 l)], [.cells 181 [.mp 0]], rfl, rfl, ?_⟩
  refine (sorted_spec l (by simp at hl; omega)).frameG [2, 4] (rest := []) rfl rfl (List.Perm.refl _) (by decide) rfl ?_ (by simp) rfl rfl ?_
  · intro p q hp
    match p, hp with
    | 0, hp => simp at hp; subst hp; exact ⟨2, rfl, rfl, rfl⟩
    | 1, hp => simp at hp; subst hp; exact ⟨4, rfl, rfl, rfl⟩
  rintro o s' ⟨v, rfl, rfl⟩ _ _
  refine ⟨_, [], (List.append_nil _).symm, rfl, ?_⟩
  refine AtRet.grown [(v, intsD (numsOf f t))] rfl (fun p hp => .inr ?_) (.inr ⟨rfl, v, rfl, rfl⟩)
  simp only [List.mem_singleton] at hp
  subst hp
  refine ⟨_, List.mem_append.2 (.inl (List.mem_singleton.2 rfl)), ?_⟩
  simp only [numsOf, hl']

theorem free_spec (t : Tm) (a : Option Addr) (c : Nat) :
    Pure Tryz.prog (fnS 85) [tmS t a c] [tmR t a c] (fun r out => (isProper t = false ∧ r = .tup [nilS, iS 2] ∧ out = []) ∨
      (isProper t = true ∧ ∃ v, r = .tup [.v v, iS 0] ∧ out = [(v, intsD (numsOf freeOf t))])) := by
  refine spec_of_body (N := 8) (m := 0) (dt := fun _ => none) [] ttOK Tryz.func85 rfl Tryz.call85 Tryz.ntmps85 rfl rfl rfl mixed (by kernel_rfl) ?_
  refine (numbers_spec 113 freeOf free1_spec t a c).at (by simp) rfl rfl ?_
  rintro r out (⟨hp, rfl, rfl⟩ | ⟨hp, v, rfl, rfl⟩)
  · exact AtRet.pure [] rfl (by simp) (.inl ⟨hp, rfl, rfl⟩)
  · exact AtRet.pure [(v, intsD (numsOf freeOf t))] rfl (by simp) (.inr ⟨hp, v, rfl, rfl⟩)
end Go.Proofs.YtogicnodmgdnbaaGreatDoor
end

/-! OrdA -/
section
namespace Go.Proofs.YtogicnodmgdnbaaGreatDoor
open Go.Tr Go
set_option maxRecDepth 10000

mutual
def sameF : Tm → Tm → Bool
  | .mk o h n us, b => ((o == b.op && h == b.hd) && n == b.n) && (us.length == b.args.length && sameL us b.args)
def sameL : List Tm → List Tm → Bool
  | u :: us, v :: vs => sameF u v && sameL us vs
  | _, _ => true
 end
theorem sameF_eq (a b : Tm) : sameF a b = (((a.op == b.op && a.hd == b.hd) && a.n == b.n) && (a.args.length == b.args.length && sameL a.args b.args)) := by cases a; rfl
end Go.Proofs.YtogicnodmgdnbaaGreatDoor
end

/-! OrdB -/
section
namespace Go.Proofs.YtogicnodmgdnbaaGreatDoor
open Go.Tr Go
set_option maxRecDepth 10000

def lookI : List (Int × Int) → Int → Option Int
  | [], _ => none
  | (k, v) :: r, n => if n = k then some v else lookI r n

def putI (n v : Int) : List (Int × Int) → List (Int × Int)
  | [] => [(n, v)]
  | (k, u) :: r => if n = k then (k, v) :: r else (k, u) :: putI n v r


end Go.Proofs.YtogicnodmgdnbaaGreatDoor
end

/-! OrdC -/
section
namespace Go.Proofs.YtogicnodmgdnbaaGreatDoor
open Go.Tr Go
set_option maxRecDepth 10000



end Go.Proofs.YtogicnodmgdnbaaGreatDoor
end

/-! OrdD -/
section
namespace Go.Proofs.YtogicnodmgdnbaaGreatDoor
open Go.Tr Go
set_option maxRecDepth 10000

section
variable {σ : Type} (vis : σ → Tm → Int → Bool × σ) (fx : Int)


end

/-- A visitor that is handed four own blocks. -/
structure Visits {σ : Type} (vis : σ → Tm → Int → Bool × σ) (Y : SV) (B0 B1 B2 B3 : σ → Blk) (xr : Value × D) (I : σ → Prop) : Prop where
  wf0 : Y.wf 4 = true
  wf : ∀ s, (B0 s).wf 4 = true ∧ (B1 s).wf 4 = true ∧ (B2 s).wf 4 = true ∧ (B3 s).wf 4 = true
  mt : ∀ s s', (B0 s).mut = (B0 s').mut ∧ (B1 s).mut = (B1 s').mut ∧ (B2 s).mut = (B2 s').mut ∧ (B3 s).mut = (B3 s').mut
  does : ∀ s t k a c, I s → Meets Tryz.prog (.val Y) [tmS t a c, iS k] ⟨[B0 s, B1 s, B2 s, B3 s], [], [tmR t a c, xr]⟩ (fun o S' => o = .ret (bS (vis s t k).1) ∧ ((vis s t k).1 = true → I (vis s t k).2) ∧ S' = ⟨[B0 (vis s t k).2, B1 (vis s t k).2, B2 (vis s t k).2, B3 (vis s t k).2], [], []⟩)

end Go.Proofs.YtogicnodmgdnbaaGreatDoor
end

/-! OrdE -/
section
namespace Go.Proofs.YtogicnodmgdnbaaGreatDoor
open Go.Tr Go
set_option maxRecDepth 10000

/-- The first loop over a function in a code: what it does ahead of its body, and its body. -/
noncomputable def rfOf : Code → Option (Code × Code)
  | .rangeFunc _ _ a b => some (a, b)
  | .seq a b => match rfOf a with
    | some r => some r
    | none => rfOf b
  | .cond _ t e => match rfOf t with
    | some r => some r
    | none => rfOf e
  | .block _ b => rfOf b
  | .loop b => rfOf b
  | .scope b => rfOf b
  | _ => none

noncomputable def rfAs (f : Func) : Code := match f.body with
  | none => .skip
  | some c => match rfOf c with
    | some (a, _) => a
    | none => .skip
noncomputable def rfBody (f : Func) : Code := match f.body with
  | none => .skip
  | some c => match rfOf c with
    | some (_, b) => b
    | none => .skip

end Go.Proofs.YtogicnodmgdnbaaGreatDoor
end

/-! OrdF -/
section
namespace Go.Proofs.YtogicnodmgdnbaaGreatDoor
open Go.Tr Go
set_option maxRecDepth 10000

mutual
/-- Each node is built as nodes are. -/
def okAll : Tm → Bool
  | .mk o h n us => okNode o h n us.length && okAllL us
def okAllL : List Tm → Bool
  | [] => true
  | u :: us => okAll u && okAllL us
 end

theorem okAllL_mem : ∀ {us : List Tm} {u : Tm}, okAllL us = true → u ∈ us → okAll u = true
  | [], u, _, h => by simp at h
  | v :: us, u, h, hm => by
    simp only [okAllL, Bool.and_eq_true] at h
    rcases List.mem_cons.1 hm with e | e
    · subst e; exact h.1
    · exact okAllL_mem h.2 e

theorem okAll_arg {t u : Tm} (h : okAll t = true) (hu : u ∈ t.args) : okAll u = true := by
  cases t; simp only [okAll, Bool.and_eq_true] at h; exact okAllL_mem h.2 hu

mutual
theorem Tm.count_pos : ∀ t : Tm, 1 ≤ t.count
  | .mk _ _ _ us => by simp only [Tm.count]; omega
theorem Tm.height_pos : ∀ t : Tm, 1 ≤ t.height
  | .mk _ _ _ us => by simp only [Tm.height]; omega
 end

mutual
theorem properF_iff : ∀ (t : Tm) (d k : Int), (properF t d k).1 = true ↔ okAll t = true ∧ k + t.count ≤ 600 ∧ d + t.height ≤ 41
  | .mk o h n us, d, k => by
    have hl := properL_iff us (d + 1) (k + 1)
    simp only [properF, Tm.count, Tm.height, okAll, Bool.and_eq_true]
    by_cases h1 : 600 < k + 1 ∨ 40 < d
    · rw [if_pos h1]
      simp only [Bool.false_eq_true, false_iff]
      omega
    · rw [if_neg h1]
      by_cases h2 : okNode o h n us.length = true
      · rw [if_pos h2, hl]
        simp only [h2, true_and]
        constructor
        · rintro ⟨h3, h4, h5⟩
          refine ⟨h3, ?_, ?_⟩
          · rcases h4 with h4 | rfl
            · omega
            · simp only [Tm.countL]; omega
          rcases h5 with rfl | h5
          · simp only [Tm.heightL]; omega
          · omega
        · rintro ⟨h3, h4, h5⟩
          exact ⟨h3, .inl (by omega), .inr (by omega)⟩
      · rw [if_neg h2]
        simp [h2]
theorem properL_iff : ∀ (us : List Tm) (d k : Int), (properL us d k).1 = true ↔ okAllL us = true ∧ (k + Tm.countL us ≤ 600 ∨ us = []) ∧ (us = [] ∨ d + Tm.heightL us ≤ 41)
  | [], d, k => by simp [properL, okAllL]
  | u :: us, d, k => by
    have h1 := properF_iff u d k
    have hc := fun h => properF_count u d k h
    have hp := Tm.count_pos u
    have hq := Tm.height_pos u
    simp only [properL, okAllL, Tm.countL, Tm.heightL, Bool.and_eq_true]
    cases hu : properF u d k with
    | mk b k' =>
      rw [hu] at h1 hc
      cases b with
      | false =>
        simp only [Bool.false_eq_true, false_iff] at h1 ⊢
        rintro ⟨⟨h2, h3⟩, h4, h5⟩
        simp at h4 h5
        exact h1 ⟨h2, by omega, by omega⟩
      | true =>
        have h1 := h1.1 rfl
        have hk := (hc rfl).1
        simp only at hk
        subst hk
        simp only
        rw [properL_iff us d (k + u.count)]
        simp only [h1.1, true_and, reduceCtorEq, or_false, false_or]
        constructor
        · rintro ⟨h2, h3, h4⟩
          refine ⟨h2, ?_, ?_⟩
          · rcases h3 with h3 | rfl
            · omega
            · simp only [Tm.countL]; omega
          · rcases h4 with rfl | h4
            · simp only [Tm.heightL]; omega
            · omega
        · rintro ⟨h2, h3, h4⟩
          exact ⟨h2, .inl (by omega), .inr (by omega)⟩
 end

theorem isProper_iff (t : Tm) : isProper t = true ↔ okAll t = true ∧ t.count ≤ 600 ∧ t.height ≤ 40 := by
  rw [isProper, properF_iff]
  constructor
  · rintro ⟨h1, h2, h3⟩; exact ⟨h1, by omega, by omega⟩
  · rintro ⟨h1, h2, h3⟩; exact ⟨h1, by omega, by omega⟩


end Go.Proofs.YtogicnodmgdnbaaGreatDoor
end

/-! Ref3A -/
section
namespace Go.Proofs.YtogicnodmgdnbaaGreatDoor
open Go.Tr Go
set_option maxRecDepth 10000

theorem drop_cons {α : Type} {l : List α} {i : Nat} {x : α} (h : l[i]? = some x) : l.drop i = x :: l.drop (i + 1) := by
  obtain ⟨hlt, he⟩ := List.getElem?_eq_some_iff.1 h
  rw [List.drop_eq_getElem_cons hlt, he]

mutual
def formedF : Tm → Int → Bool
  | .mk o h n us, d => if 40 < d then false else okNode o h n us.length && formedL us (d + 1)
def formedL : List Tm → Int → Bool
  | [], _ => true
  | u :: us, d => formedF u d && formedL us d
 end
theorem formedF_eq (t : Tm) (d : Int) : formedF t d = if 40 < d then false else okNode t.op t.hd t.n t.args.length && formedL t.args (d + 1) := by cases t; rfl

theorem formed_spec (t : Tm) : ∀ (d : Int) (a : Option Addr) (c : Nat), 0 ≤ d → d ≤ 41 → Pure Tryz.prog (fnS 89) [tmS t a c, iS d] [tmR t a c] (fun r out => r = bS (formedF t d) ∧ out = []) := by
  induction t using Tm.ind with
  | h t ih =>
  intro d a c hd0 hd1
  refine Meets.of_ok fun hok => ?_
  have hB : (Tm.encL t.args).length ≤ 1152921504606846976 := (hok _ (List.mem_cons_self ..)).1
  have hlen := Tm.encL_length t.args
  have hF := formedF_eq t d
  refine spec_of_body (N := 94) (m := 0) (dt := fun _ => none) [3] ttOK Tryz.func89 rfl Tryz.call89 Tryz.ntmps89 rfl rfl rfl mixed (by kernel_rfl) ?_
  refine AtIf.mk (fun h => ?_) (fun h => ?_)
  · simp only [decide_eq_true_eq] at h
    exact AtRet.pure [] rfl (by simp) ⟨by rw [hF, if_pos h], rfl⟩
  have h : ¬ 40 < d := by simpa using h
  rw [if_neg h] at hF
  refine AtCut.mk ⟨Unit, fun _ => [(2, .loc 0 0), (1, iS d)],
      fun _ => ⟨[.cells 55 [iS t.op, iS t.hd, iS t.n, .v (.slice a (Tm.encL t.args).length c)]], [], [tmR t a c]⟩,
      fun _ => okNode t.op t.hd t.n t.args.length = true, fun _ _ => ⟨rfl, rfl⟩, ?_, ?_⟩
  · have bad : okNode t.op t.hd t.n t.args.length = false → formedF t d = false := fun h => by rw [hF, h]; rfl
    refine AtIf.mk (fun h1 => ?_) (fun h1 => AtIf.mk (fun h2 => ?_) (fun h2 => AtIf.mk (fun h3 => ?_) (fun h3 => AtIf.mk (fun h4 => ?_) (fun h4 => ?_))))
    · simp only [beq_iff_eq] at h1
      refine AtIf.mk (fun h5 => ?_) (fun h5 => ?_)
      · refine AtRet.pure [] rfl (by simp) ⟨?_, rfl⟩
        rw [bad]
        simp only [okNode, h1]
        simp [hlen] at h5 ⊢
        first | omega | (intros; simp_all) | simp_all
      · refine ⟨(), ?_, ⟨rfl, rfl, trivial⟩, StLe.refl _⟩
        simp only [okNode, h1]
        simp [hlen] at h5 ⊢
        first | omega | (intros; simp_all) | simp_all
    · simp only [beq_iff_eq] at h2
      refine AtIf.mk (fun h5 => ?_) (fun h5 => ?_)
      · refine AtRet.pure [] rfl (by simp) ⟨?_, rfl⟩
        rw [bad]
        simp only [okNode, h2]
        simp [hlen] at h5 ⊢
        omega
      · refine ⟨(), ?_, ⟨rfl, rfl, trivial⟩, StLe.refl _⟩
        simp only [okNode, h2]
        simp [hlen] at h5 ⊢
        omega
    · simp only [beq_iff_eq] at h3
      refine AtIf.mk (fun h5 => ?_) (fun h5 => ?_)
      · refine AtRet.pure [] rfl (by simp) ⟨?_, rfl⟩
        rw [bad]
        simp only [okNode, h3]
        simp [hlen] at h5 ⊢
        omega
      · refine ⟨(), ?_, ⟨rfl, rfl, trivial⟩, StLe.refl _⟩
        simp only [okNode, h3]
        simp [hlen] at h5 ⊢
        omega
    · simp only [beq_iff_eq] at h4
      refine AtIf.mk (fun h5 => ?_) (fun h5 => ?_)
      · refine AtRet.pure [] rfl (by simp) ⟨?_, rfl⟩
        rw [bad]
        simp only [okNode, h4]
        simp at h5 ⊢
        omega
      · refine ⟨(), ?_, ⟨rfl, rfl, trivial⟩, StLe.refl _⟩
        simp only [okNode, h4]
        simp at h5 ⊢
        omega
    · simp only [beq_eq_false_iff_ne] at h1 h2 h3 h4
      refine AtRet.pure [] rfl (by simp) ⟨?_, rfl⟩
      rw [bad]
      simp [okNode, h1, h2, h3, h4]
  intro _ hok2
  rw [hok2, Bool.true_and] at hF
  refine AtLoop.mk ⟨Nat, fun i => [(5, iS i), (2, .loc 0 0), (1, iS d)], fun _ => ⟨[.cells 55 [iS t.op, iS t.hd, iS t.n, .v (.slice a (Tm.encL t.args).length c)]], [], [tmR t a c]⟩,
    fun i => i ≤ t.args.length ∧ formedF t d = formedL (t.args.drop i) (d + 1), fun i => t.args.length - i, 0, ⟨Nat.zero_le _, hF⟩, ⟨rfl, rfl, rfl, trivial⟩, StLe.refl _, fun _ _ => ⟨rfl, rfl⟩, ?_⟩
  rintro i ⟨hi, hinv⟩
  refine AtIf.mk (fun h1 => ?_) (fun h1 => ?_)
  · simp only [decide_eq_true_eq, hlen] at h1
    obtain ⟨x, hx⟩ : ∃ x, t.args[i]? = some x := ⟨_, List.getElem?_eq_getElem (by omega)⟩
    refine at_index ttOK 0 rfl rfl rfl rfl (by omega) (by rw [Int.toNat_natCast]; exact Tm.encL_get hx) ?_
    intro a1 c1 _ _
    have hw2 : IntKind.i64.wrap (d + 1) = d + 1 := wrap_i64 (by omega) (by omega)
    have hsp := ih x (List.mem_of_getElem? hx) (d + 1) a1 c1 (by omega) (by omega)
    rw [← hw2] at hsp
    refine hsp.at (by simp) rfl rfl ?_
    rintro r out ⟨rfl, rfl⟩
    rw [drop_cons hx, formedL, ← hw2] at hinv
    refine AtIf.mk (fun h2 => ?_) (fun h2 => ?_)
    · have h2 : formedF x (IntKind.i64.wrap (d + 1)) = false := by simpa using h2
      exact AtRet.pure [] rfl (by simp) ⟨by rw [hinv, h2]; rfl, rfl⟩
    · have h2 : formedF x (IntKind.i64.wrap (d + 1)) = true := by simpa using h2
      have hw3 : IntKind.i64.wrap (i + 1) = ((i + 1 : Nat) : Int) := wrap_i64 (by omega) (by omega)
      exact ⟨i + 1, ⟨by omega, by rw [hinv, h2, hw2]; rfl⟩, by simp only; omega, ⟨by rw [← hw3]; rfl, rfl, rfl, trivial⟩, StLe.to _ _ rfl (by simp) rfl rfl⟩
  · simp only [decide_eq_false_iff_not, hlen] at h1
    rw [List.drop_of_length_le (by omega)] at hinv
    exact AtRet.pure [] rfl (by simp) ⟨by rw [hinv]; rfl, rfl⟩

mutual
def nodesF : Tm → Int → Int
  | .mk _ _ _ us, m => if m + 1 < nodesL us m 1 then m + 1 else nodesL us m 1
def nodesL : List Tm → Int → Int → Int
  | [], _, n => n
  | u :: us, m, n => if n ≤ m then nodesL us m (n + nodesF u (m - n)) else n
 end
theorem nodesF_eq (t : Tm) (m : Int) : nodesF t m = if m + 1 < nodesL t.args m 1 then m + 1 else nodesL t.args m 1 := by cases t; rfl

mutual
theorem nodesF_le : ∀ (t : Tm) (m : Int), 0 ≤ m → 1 ≤ nodesF t m ∧ nodesF t m ≤ m + 1
  | .mk _ _ _ us, m, h => by
    have := nodesL_le us m 1 (by omega) (by omega)
    simp only [nodesF]
    split <;> omega
theorem nodesL_le : ∀ (us : List Tm) (m n : Int), 1 ≤ n → n ≤ m + 1 → n ≤ nodesL us m n ∧ nodesL us m n ≤ m + 1
  | [], m, n, h1, h2 => by simp only [nodesL]; omega
  | u :: us, m, n, h1, h2 => by
    simp only [nodesL]
    split
    · have h3 := nodesF_le u (m - n) (by omega)
      have h4 := nodesL_le us m (n + nodesF u (m - n)) (by omega) (by omega)
      omega
    · omega
 end

theorem nodes_spec (t : Tm) : ∀ (m : Int) (a : Option Addr) (c : Nat), 0 ≤ m → m ≤ 1000000 → Pure Tryz.prog (fnS 41) [tmS t a c, iS m] [tmR t a c] (fun r out => r = iS (nodesF t m) ∧ out = []) := by
  induction t using Tm.ind with
  | h t ih =>
  intro m a c hm0 hm1
  refine Meets.of_ok fun hok => ?_
  have hB : (Tm.encL t.args).length ≤ 1152921504606846976 := (hok _ (List.mem_cons_self ..)).1
  have hlen := Tm.encL_length t.args
  refine spec_of_body (N := 34) (m := 0) (dt := fun _ => none) [] ttOK Tryz.func41 rfl Tryz.call41 Tryz.ntmps41 rfl rfl rfl mixed (by kernel_rfl) ?_
  refine AtLoop.mk ⟨Nat × Int, fun x => [(6, iS x.1), (5, iS x.2), (2, .loc 0 0), (1, iS m)], fun _ => ⟨[.cells 55 [iS t.op, iS t.hd, iS t.n, .v (.slice a (Tm.encL t.args).length c)]], [], [tmR t a c]⟩,
    fun x => x.1 ≤ t.args.length ∧ 1 ≤ x.2 ∧ x.2 ≤ m + 1 ∧ nodesL t.args m 1 = nodesL (t.args.drop x.1) m x.2, fun x => t.args.length - x.1, (0, 1), ⟨Nat.zero_le _, Int.le_refl _, by simp only; omega, rfl⟩, ⟨rfl, rfl, rfl, rfl, trivial⟩, StLe.refl _, fun _ _ => ⟨rfl, rfl⟩, ?_⟩
  rintro ⟨i, n⟩ ⟨hi, hn0, hn1, hinv⟩
  simp only at hi hn0 hn1 hinv ⊢
  refine AtIf.mk (fun h1 => ?_) (fun h1 => ?_)
  · simp only [Bool.and_eq_true, decide_eq_true_eq, hlen] at h1
    obtain ⟨x, hx⟩ : ∃ x, t.args[i]? = some x := ⟨_, List.getElem?_eq_getElem (by omega)⟩
    refine at_index ttOK 0 rfl rfl rfl rfl (by omega) (by rw [Int.toNat_natCast]; exact Tm.encL_get hx) ?_
    intro a1 c1 _ _
    have hw2 : IntKind.i64.wrap (m - n) = m - n := wrap_i64 (by omega) (by omega)
    have hsp := ih x (List.mem_of_getElem? hx) (m - n) a1 c1 (by omega) (by omega)
    rw [← hw2] at hsp
    refine hsp.at (by simp) rfl rfl ?_
    rintro r out ⟨rfl, rfl⟩
    have hle := nodesF_le x (m - n) (by omega)
    have hw3 : IntKind.i64.wrap (i + 1) = ((i + 1 : Nat) : Int) := wrap_i64 (by omega) (by omega)
    have hw4 : IntKind.i64.wrap (n + nodesF x (m - n)) = n + nodesF x (m - n) := wrap_i64 (by omega) (by omega)
    refine ⟨(i + 1, n + nodesF x (m - n)), ⟨by omega, by simp only; omega, by simp only; omega, ?_⟩, by simp only; omega, ⟨by rw [← hw3]; rfl, by simp only [hw2, hw4]; rfl, rfl, rfl, trivial⟩, StLe.to _ _ rfl (by simp) rfl rfl⟩
    rw [hinv, drop_cons hx, nodesL, if_pos h1.2]
  · have hw2 : IntKind.i64.wrap (m + 1) = m + 1 := wrap_i64 (by omega) (by omega)
    refine at_min ?_
    have hres : nodesL t.args m 1 = n := by
      rw [hinv]
      by_cases hlt : i < t.args.length
      · obtain ⟨x, hx⟩ : ∃ x, t.args[i]? = some x := ⟨_, List.getElem?_eq_getElem (by omega)⟩
        simp only [Bool.and_eq_false_iff, decide_eq_false_iff_not, hlen] at h1
        rw [drop_cons hx, nodesL, if_neg (by omega)]
      · rw [List.drop_of_length_le (by omega), nodesL]
    refine AtRet.pure [] rfl (by simp) ⟨?_, rfl⟩
    rw [nodesF_eq, hres, hw2]

/-- What trussref03.Proper answers. -/
def refProper (t : Tm) : Bool := decide (nodesF t 600 ≤ 600) && formedF t 1

theorem refProper_spec (t : Tm) (a : Option Addr) (c : Nat) : Pure Tryz.prog (fnS 65) [tmS t a c] [tmR t a c] (fun r out => r = bS (refProper t) ∧ out = []) := by
  refine spec_of_body (N := 10) (m := 0) (dt := fun _ => none) [] ttOK Tryz.func65 rfl Tryz.call65 Tryz.ntmps65 rfl rfl rfl mixed (by kernel_rfl) ?_
  refine (nodes_spec t 600 a c (by omega) (by omega)).at (by simp) rfl rfl ?_
  rintro r out ⟨rfl, rfl⟩
  refine AtGuard.mk (fun h => ?_) (fun h => ?_)
  · refine (formed_spec t 1 a c (by omega) (by omega)).at (by simp) rfl rfl ?_
    rintro r out ⟨rfl, rfl⟩
    have h : decide (nodesF t 600 ≤ 600) = true := h
    exact AtRet.pure [] rfl (by simp) ⟨by rw [refProper, h]; rfl, rfl⟩
  · have h : decide (nodesF t 600 ≤ 600) = false := h
    exact AtRet.pure [] rfl (by simp) ⟨by rw [refProper, h]; rfl, rfl⟩
end Go.Proofs.YtogicnodmgdnbaaGreatDoor
end

/-! Ref3B -/
section
namespace Go.Proofs.YtogicnodmgdnbaaGreatDoor
open Go.Tr Go
set_option maxRecDepth 10000

theorem refSame_spec (t : Tm) : ∀ (u : Tm) (a1 a2 : Option Addr) (c1 c2 : Nat), Pure Tryz.prog (fnS 144) [tmS t a1 c1, tmS u a2 c2] [tmR t a1 c1, tmR u a2 c2] (fun r out => r = bS (sameF t u) ∧ out = []) := by
  induction t using Tm.ind with
  | h t ih =>
  intro u a1 a2 c1 c2
  refine Meets.of_ok fun hok => ?_
  have hB : (Tm.encL t.args).length ≤ 1152921504606846976 := (hok _ (List.mem_cons_self ..)).1
  have hlen := Tm.encL_length t.args
  have hlen2 := Tm.encL_length u.args
  have hF := sameF_eq t u
  refine spec_of_body (N := 53) (m := 0) (dt := drawsOf [(6, .node [0, 1, 2, 3, 4, 5, 6, 7, 8, 9] [(10, .leaf [11])], [10], [])]) [] ttOK Tryz.func144 rfl Tryz.call144 Tryz.ntmps144 rfl rfl rfl mixed (by kernel_rfl) ?_
  refine AtIf.mk (fun h1 => ?_) (fun h1 => ?_)
  · refine AtRet.pure [] rfl (by simp) ⟨?_, rfl⟩
    simp only [hlen, hlen2] at h1
    have : sameF t u = false := by
      rw [hF]
      simp at h1 ⊢
      intro e1 e2 e3 e4
      omega
    rw [this]
  have hl : t.args.length = u.args.length := by
    simp only [hlen, hlen2] at h1
    simp at h1
    omega
  have hF : sameF t u = sameL t.args u.args := by
    simp only [hlen, hlen2] at h1
    simp at h1
    obtain ⟨⟨⟨e1, e2⟩, e3⟩, e4⟩ := h1
    rw [hF]
    simp [e1, e2, e3, hl]
  refine AtLoop.mk ⟨Nat, fun i => [(5, iS i), (2, .loc 0 0), (3, .loc 1 0)], fun _ => ⟨[.cells 55 [iS t.op, iS t.hd, iS t.n, .v (.slice a1 (Tm.encL t.args).length c1)], .cells 55 [iS u.op, iS u.hd, iS u.n, .v (.slice a2 (Tm.encL u.args).length c2)]], [], [tmR t a1 c1, tmR u a2 c2]⟩,
    fun i => i ≤ t.args.length ∧ sameF t u = sameL (t.args.drop i) (u.args.drop i), fun i => t.args.length - i, 0, ⟨Nat.zero_le _, hF⟩, ⟨rfl, rfl, rfl, trivial⟩, StLe.refl _, fun _ _ => ⟨rfl, rfl⟩, ?_⟩
  rintro i ⟨hi, hinv⟩
  refine AtIf.mk (fun h1 => ?_) (fun h1 => ?_)
  · simp only [decide_eq_true_eq, hlen] at h1
    obtain ⟨x, hx⟩ : ∃ x, t.args[i]? = some x := ⟨_, List.getElem?_eq_getElem (by omega)⟩
    obtain ⟨y, hy⟩ : ∃ y, u.args[i]? = some y := ⟨_, List.getElem?_eq_getElem (by omega)⟩
    refine at_index ttOK 0 rfl rfl rfl rfl (by omega) (by rw [Int.toNat_natCast]; exact Tm.encL_get hx) ?_
    intro b1 d1 _ _
    refine at_index ttOK 1 rfl rfl rfl rfl (by omega) (by rw [Int.toNat_natCast]; exact Tm.encL_get hy) ?_
    intro b2 d2 _ _
    refine (ih x (List.mem_of_getElem? hx) y b1 b2 d1 d2).at (by simp) rfl rfl ?_
    rintro r out ⟨rfl, rfl⟩
    rw [drop_cons hx, drop_cons hy, sameL] at hinv
    refine AtIf.mk (fun h2 => ?_) (fun h2 => ?_)
    · have h2 : sameF x y = false := by simpa using h2
      exact AtRet.pure [] rfl (by simp) ⟨by rw [hinv, h2]; rfl, rfl⟩
    · have h2 : sameF x y = true := by simpa using h2
      have hw3 : IntKind.i64.wrap (i + 1) = ((i + 1 : Nat) : Int) := wrap_i64 (by omega) (by omega)
      exact ⟨i + 1, ⟨by omega, by rw [hinv, h2]; rfl⟩, by simp only; omega, ⟨by rw [← hw3]; rfl, rfl, rfl, trivial⟩, StLe.to _ _ rfl (by simp) rfl rfl⟩
  · simp only [decide_eq_false_iff_not, hlen] at h1
    rw [List.drop_of_length_le (by omega)] at hinv
    exact AtRet.pure [] rfl (by simp) ⟨by rw [hinv]; rfl, rfl⟩

theorem below_spec (t : Tm) (a : Option Addr) (c : Nat) (i : Int) : Pure Tryz.prog (fnS 115) [tmS t a c, iS i] [] (fun r out => r = iS (under t.op i) ∧ out = []) := by
  refine spec_of_body (N := 17) (m := 0) (dt := fun _ => none) [] ttOK Tryz.func115 rfl Tryz.call115 Tryz.ntmps115 rfl rfl rfl mixed (by kernel_rfl) ?_
  refine AtIf.mk (fun h => ?_) (fun h => ?_)
  · refine AtRet.pure [] rfl (by simp) ⟨?_, rfl⟩
    simp at h
    rw [under, if_pos h]
  · refine AtRet.pure [] rfl (by simp) ⟨?_, rfl⟩
    have : ¬ (t.op = 3 ∨ t.op = 2 ∧ i = 1) := by
      simp at h
      omega
    rw [under, if_neg this]

mutual
def lowF : Tm → Int → Int → Bool
  | .mk o h n us, f, g => (((o == 4 && h == 1) && decide (n ≥ f)) && decide (n ≤ g)) || lowL o us 0 f g
def lowL : Int → List Tm → Nat → Int → Int → Bool
  | _, [], _, _, _ => false
  | o, u :: us, i, f, g => lowF u (f + under o i) (g + under o i) || lowL o us (i + 1) f g
 end
theorem lowF_eq (t : Tm) (f g : Int) : lowF t f g = ((((t.op == 4 && t.hd == 1) && decide (t.n ≥ f)) && decide (t.n ≤ g)) || lowL t.op t.args 0 f g) := by cases t; rfl

theorem low_spec (t : Tm) : ∀ (f g : Int) (a : Option Addr) (c : Nat), 0 ≤ f → -1 ≤ g → f + t.height ≤ 1000000 → g + t.height ≤ 1000000 → Pure Tryz.prog (fnS 87) [tmS t a c, iS f, iS g] [tmR t a c] (fun r out => r = bS (lowF t f g) ∧ out = []) := by
  induction t using Tm.ind with
  | h t ih =>
  intro f g a c hf0 hg0 hf1 hg1
  refine Meets.of_ok fun hok => ?_
  have hB : (Tm.encL t.args).length ≤ 1152921504606846976 := (hok _ (List.mem_cons_self ..)).1
  have hlen := Tm.encL_length t.args
  have hth := Tm.height_eq t
  have hF := lowF_eq t f g
  refine spec_of_body (N := 51) (m := 0) (dt := fun _ => none) [] ttOK Tryz.func87 rfl Tryz.call87 Tryz.ntmps87 rfl rfl rfl mixed (by kernel_rfl) ?_
  refine AtIf.mk (fun h1 => ?_) (fun h1 => ?_)
  · refine AtRet.pure [] rfl (by simp) ⟨?_, rfl⟩
    rw [hF]
    have h1 : (((t.op == 4 && t.hd == 1) && decide (t.n ≥ f)) && decide (t.n ≤ g)) = true := h1
    rw [h1]; rfl
  have h1 : (((t.op == 4 && t.hd == 1) && decide (t.n ≥ f)) && decide (t.n ≤ g)) = false := h1
  rw [h1, Bool.false_or] at hF
  refine AtLoop.mk ⟨Nat, fun i => [(7, iS i), (3, .loc 0 0), (1, iS f), (2, iS g)], fun _ => ⟨[.cells 55 [iS t.op, iS t.hd, iS t.n, .v (.slice a (Tm.encL t.args).length c)]], [], [tmR t a c]⟩,
    fun i => i ≤ t.args.length ∧ lowF t f g = lowL t.op (t.args.drop i) i f g, fun i => t.args.length - i, 0, ⟨Nat.zero_le _, hF⟩, ⟨rfl, rfl, rfl, rfl, trivial⟩, StLe.refl _, fun _ _ => ⟨rfl, rfl⟩, ?_⟩
  rintro i ⟨hi, hinv⟩
  refine AtIf.mk (fun h1 => ?_) (fun h1 => ?_)
  · simp only [decide_eq_true_eq, hlen] at h1
    obtain ⟨x, hx⟩ : ∃ x, t.args[i]? = some x := ⟨_, List.getElem?_eq_getElem (by omega)⟩
    have hxm := List.mem_of_getElem? hx
    have hxh := Tm.height_le hxm
    have hu := under_le t.op i
    refine (below_spec t a c i).at (by simp) rfl rfl ?_
    rintro r out ⟨rfl, rfl⟩
    refine at_index ttOK 0 rfl rfl rfl rfl (by omega) (by rw [Int.toNat_natCast]; exact Tm.encL_get hx) ?_
    intro a1 c1 _ _
    have hw1 : IntKind.i64.wrap (f + under t.op i) = f + under t.op i := wrap_i64 (by omega) (by omega)
    have hw2 : IntKind.i64.wrap (g + under t.op i) = g + under t.op i := wrap_i64 (by omega) (by omega)
    have hsp := ih x hxm (f + under t.op i) (g + under t.op i) a1 c1 (by omega) (by omega) (by omega) (by omega)
    rw [← hw1, ← hw2] at hsp
    refine hsp.at (by simp) rfl rfl ?_
    rintro r out ⟨rfl, rfl⟩
    rw [drop_cons hx, lowL, ← hw1, ← hw2] at hinv
    refine AtIf.mk (fun h2 => ?_) (fun h2 => ?_)
    · have h2 : lowF x (IntKind.i64.wrap (f + under t.op i)) (IntKind.i64.wrap (g + under t.op i)) = true := h2
      exact AtRet.pure [] rfl (by simp) ⟨by rw [hinv, h2]; rfl, rfl⟩
    · have h2 : lowF x (IntKind.i64.wrap (f + under t.op i)) (IntKind.i64.wrap (g + under t.op i)) = false := h2
      have hw3 : IntKind.i64.wrap (i + 1) = ((i + 1 : Nat) : Int) := wrap_i64 (by omega) (by omega)
      exact ⟨i + 1, ⟨by omega, by rw [hinv, h2]; rfl⟩, by simp only; omega, ⟨by rw [← hw3]; rfl, rfl, rfl, rfl, trivial⟩, StLe.to _ _ rfl (by simp) rfl rfl⟩
  · simp only [decide_eq_false_iff_not, hlen] at h1
    rw [List.drop_of_length_le (by omega)] at hinv
    exact AtRet.pure [] rfl (by simp) ⟨by rw [hinv]; rfl, rfl⟩
end Go.Proofs.YtogicnodmgdnbaaGreatDoor
end

/-! Ref3C -/
section
namespace Go.Proofs.YtogicnodmgdnbaaGreatDoor
open Go.Tr Go
set_option maxRecDepth 10000

/-- A slice that is nil reads as the empty list. -/
theorem nilRep {P : Program} {cl : Cal} {args : List SV} {own : List Blk} {accs : List Acc} {rs : List (Value × D)} {R : Out → St → Prop} (k : Nat) (h : Meets P cl args ⟨own, accs, (.slice none 0 0, .sl k []) :: rs⟩ R) : Meets P cl args ⟨own, accs, rs⟩ R := by
  intro J ℓ w hG hJ
  refine h J ℓ w ⟨hG.len, hG.nodup, hG.lt, hG.memJ, hG.wf, hG.own, hG.accs, ?_⟩ hJ
  intro p hp
  rcases List.mem_cons.1 hp with e | e
  · subst e
    exact ⟨none, 0, rfl, ⟨Nat.zero_le _, Nat.zero_le _⟩, .inl rfl⟩
  · exact hG.reps p e

def putF : List Int → Int → List Int
  | [], n => [n]
  | x :: xs, n => if x < n then x :: putF xs n else if x = n then x :: xs else n :: x :: xs

abbrev intsS (l : List Int) (a : Option Addr) (c : Nat) : SV := .v (.slice a l.length c)
abbrev intsR (l : List Int) (a : Option Addr) (c : Nat) : Value × D := (.slice a l.length c, intsD l)

theorem ints_get {l : List Int} {i : Nat} {x : Int} (h : l[i]? = some x) : (l.map (D.int .i64))[i]? = some (.int .i64 x) := by simp [h]

theorem put_spec (l : List Int) (n : Int) (a : Option Addr) (c : Nat) (hl : l.length ≤ 1000000) :
    Pure Tryz.prog (fnS 142) [intsS l a c, iS n] [intsR l a c] (fun r out => ∃ a' c', r = intsS (putF l n) a' c' ∧ out = [intsR (putF l n) a' c']) := by
  refine Meets.nilAcc 1 3 ?_
  refine spec_of_body (N := 49) (m := 0) (dt := fun _ => none) [2,4] ttOK Tryz.func142 rfl Tryz.call142 Tryz.ntmps142 rfl rfl rfl mixed (by kernel_rfl) ?_
  refine AtCut.mk ⟨Nat, fun k => [(5, iS k), (0, intsS l a c), (1, iS n)], fun _ => ⟨[], [⟨.slice none 0 0, 1, 3, []⟩], [intsR l a c]⟩,
    fun k => k ≤ l.length ∧ putF l n = l.take k ++ if l[k]? = some n then l.drop k else n :: l.drop k, fun _ _ => ⟨rfl, rfl⟩, ?_, ?_⟩
  · refine AtLoop.mk ⟨Nat, fun k => [(5, iS k), (0, intsS l a c), (1, iS n)], fun _ => ⟨[], [⟨.slice none 0 0, 1, 3, []⟩], [intsR l a c]⟩,
      fun k => k ≤ l.length ∧ putF l n = l.take k ++ putF (l.drop k) n, fun k => l.length - k, 0, ⟨Nat.zero_le _, rfl⟩, ⟨rfl, rfl, rfl, trivial⟩, StLe.refl _, fun _ _ => ⟨rfl, rfl⟩, ?_⟩
    rintro k ⟨hk, hinv⟩
    refine AtGuard.mk (fun h1 => ?_) (fun h1 => ?_)
    · have h1 : k < l.length := by simpa using h1
      obtain ⟨x, hx⟩ : ∃ x, l[k]? = some x := ⟨_, List.getElem?_eq_getElem (by omega)⟩
      refine at_index ttOK 0 rfl rfl rfl rfl (by omega) (by rw [Int.toNat_natCast]; exact ints_get hx) ?_
      refine AtIf.mk (fun h2 => ?_) (fun h2 => ?_)
      · have h2 : x < n := by simpa using h2
        have hw3 : IntKind.i64.wrap (k + 1) = ((k + 1 : Nat) : Int) := wrap_i64 (by omega) (by omega)
        refine ⟨k + 1, ⟨by omega, ?_⟩, by simp only; omega, ⟨by rw [← hw3]; rfl, rfl, rfl, trivial⟩, StLe.of rfl (List.Sublist.refl _) (by simp) rfl rfl⟩
        rw [hinv, drop_cons hx, putF, if_pos h2, List.take_add_one, hx]
        simp
      · have h2 : ¬ x < n := by simpa using h2
        refine ⟨k, ⟨hk, ?_⟩, ⟨rfl, rfl, rfl, trivial⟩, StLe.of rfl (List.Sublist.refl _) (by simp) rfl rfl⟩
        rw [hinv, drop_cons hx, putF, if_neg h2, hx]
        simp
    · have h1 : ¬ k < l.length := by simpa using h1
      refine AtIf.mk (fun h2 => by cases h2) (fun _ => ?_)
      refine ⟨k, ⟨hk, ?_⟩, ⟨rfl, rfl, rfl, trivial⟩, StLe.refl _⟩
      rw [hinv, List.drop_of_length_le (by omega)]
      simp [putF]
      intro h; have := (List.getElem?_eq_some_iff.1 h).1; omega
  rintro k ⟨hk, hinv⟩
  refine AtCut.mk ⟨Unit, fun _ => [(5, iS k), (0, intsS l a c), (1, iS n)], fun _ => ⟨[], [⟨.slice none 0 0, 1, 3, []⟩], [intsR l a c]⟩, fun _ => putF l n = l.take k ++ n :: l.drop k, fun _ _ => ⟨rfl, rfl⟩, ?_, ?_⟩
  · refine AtGuard.mk (fun h1 => ?_) (fun h1 => ?_)
    · have h1 : k < l.length := by simpa using h1
      obtain ⟨x, hx⟩ : ∃ x, l[k]? = some x := ⟨_, List.getElem?_eq_getElem (by omega)⟩
      refine at_index ttOK 0 rfl rfl rfl rfl (by omega) (by rw [Int.toNat_natCast]; exact ints_get hx) ?_
      rw [hx] at hinv
      refine AtIf.mk (fun h4 => ?_) (fun h4 => ?_)
      · have h4 : x = n := by simpa using h4
        subst h4
        rw [if_pos rfl, List.take_append_drop] at hinv
        rw [hinv]
        exact AtRet.pure [intsR l a c] rfl (by simp) ⟨a, c, rfl, rfl⟩
      · have h4 : ¬ x = n := by simpa using h4
        rw [if_neg (by simpa using h4)] at hinv
        exact ⟨(), hinv, ⟨rfl, rfl, rfl, trivial⟩, StLe.of rfl (List.Sublist.refl _) (by simp) rfl rfl⟩
    · have h1 : ¬ k < l.length := by simpa using h1
      have hlk : l[k]? = none := List.getElem?_eq_none_iff.2 (by omega)
      rw [hlk, if_neg (by simp)] at hinv
      refine AtIf.mk (fun h2 => by cases h2) (fun _ => ?_)
      exact ⟨(), hinv, ⟨rfl, rfl, rfl, trivial⟩, StLe.refl _⟩
  intro _ hres
  have hml : (l.map (D.int .i64)).length = l.length := List.length_map ..
  refine at_slice ttOK 0 0 k rfl rfl rfl rfl rfl (by omega) (by omega) ?_
  intro a1 c1 _
  refine at_append ttOK 8 0 1 rfl (by kernel_rfl) rfl rfl rfl rfl (by simp; omega) (by simp; omega) ?_
  intro a2 c2
  refine at_build ttOK 8 [.int .i64 n] rfl (by kernel_rfl) ⟨⟨rfl, rfl, rfl, rfl⟩, trivial⟩ rfl (by decide) (by decide) ?_
  intro a3
  refine at_append ttOK 8 0 2 rfl (by kernel_rfl) rfl rfl rfl rfl (by simp; omega) (by simp; omega) ?_
  intro a4 c4
  refine at_slice ttOK 0 k l.length rfl rfl rfl rfl rfl (by omega) (by omega) ?_
  intro a5 c5 _
  refine at_append ttOK 8 0 3 rfl (by kernel_rfl) rfl rfl rfl rfl (by simp; omega) (by simp; omega) ?_
  intro a6 c6
  have hds : (([] ++ ((l.map (D.int .i64)).take k).drop 0) ++ [D.int .i64 n]) ++ ((l.map (D.int .i64)).take l.length).drop k = (putF l n).map (D.int .i64) := by
    rw [hres, List.take_of_length_le (by omega : (l.map (D.int .i64)).length ≤ l.length)]
    simp [List.map_take, List.map_drop]
  have hln : (([] ++ ((l.map (D.int .i64)).take k).drop 0) ++ [D.int .i64 n]).length + (((l.map (D.int .i64)).take l.length).drop k).length = (putF l n).length := by
    rw [← List.length_append, hds, List.length_map]
  refine AtRet.grown [(intsR (putF l n) a6 c6)] rfl (fun p hp => .inr ?_) ⟨a6, c6, ?_, rfl⟩
  · simp only [List.mem_singleton] at hp
    subst hp
    refine ⟨_, List.mem_singleton.2 rfl, ?_⟩
    simp only [hds, hln]
  · simp only [hln]

mutual
def headsF (hd : Int) : Tm → Int → List Int → List Int
  | .mk o h n us, k, l => headsL hd o us 0 k (if o = 4 ∧ h = hd then (if hd ≠ 1 then putF l n else if n ≥ k then putF l (IntKind.i64.wrap (n - k)) else l) else l)
def headsL (hd : Int) : Int → List Tm → Nat → Int → List Int → List Int
  | _, [], _, _, l => l
  | o, u :: us, i, k, l => headsL hd o us (i + 1) k (headsF hd u (k + under o i) l)
 end
theorem headsF_eq (hd : Int) (t : Tm) (k : Int) (l : List Int) : headsF hd t k l = headsL hd t.op t.args 0 k (if t.op = 4 ∧ t.hd = hd then (if hd ≠ 1 then putF l t.n else if t.n ≥ k then putF l (IntKind.i64.wrap (t.n - k)) else l) else l) := by cases t; rfl

theorem putF_length : ∀ (l : List Int) (n : Int), (putF l n).length ≤ l.length + 1
  | [], n => by simp [putF]
  | x :: xs, n => by
    simp only [putF]
    split
    · have := putF_length xs n; simp; omega
    · split <;> simp

mutual
theorem headsF_length (hd : Int) : ∀ (t : Tm) (k : Int) (l : List Int), (headsF hd t k l).length ≤ l.length + t.count
  | .mk o h n us, k, l => by
    simp only [headsF, Tm.count]
    refine Nat.le_trans (headsL_length hd o us 0 k _) ?_
    have h1 := putF_length l n
    have h2 := putF_length l (IntKind.i64.wrap (n - k))
    split
    · split
      · omega
      · split <;> omega
    · omega
theorem headsL_length (hd : Int) : ∀ (o : Int) (us : List Tm) (i : Nat) (k : Int) (l : List Int), (headsL hd o us i k l).length ≤ l.length + Tm.countL us
  | o, [], i, k, l => by simp [headsL, Tm.countL]
  | o, u :: us, i, k, l => by
    simp only [headsL, Tm.countL]
    have h1 := headsL_length hd o us (i + 1) k (headsF hd u (k + under o i) l)
    have h2 := headsF_length hd u (k + under o i) l
    omega
 end

theorem count_arg {t x : Tm} {i : Nat} (h : t.args[i]? = some x) : x.count + Tm.countL (t.args.drop (i + 1)) = Tm.countL (t.args.drop i) := by
  rw [drop_cons h]; rfl
theorem Tm.count_eq (t : Tm) : t.count = Tm.countL t.args + 1 := by cases t; rfl

theorem heads_spec (hd : Int) (t : Tm) : ∀ (k : Int) (l : List Int) (a a1 : Option Addr) (c c1 : Nat), 0 ≤ k → k + t.height ≤ 1000000 → l.length + t.count ≤ 1000000 →
    Pure Tryz.prog (fnS 118) [tmS t a c, iS hd, iS k, intsS l a1 c1] [tmR t a c, intsR l a1 c1] (fun r out => ∃ a' c', r = intsS (headsF hd t k l) a' c' ∧ out = [intsR (headsF hd t k l) a' c']) := by
  induction t using Tm.ind with
  | h t ih =>
  intro k l a a1 c c1 hk0 hk1 hl
  refine Meets.of_ok fun hok => ?_
  have hB : (Tm.encL t.args).length ≤ 1152921504606846976 := (hok _ (List.mem_cons_self ..)).1
  have hlen := Tm.encL_length t.args
  have hth := Tm.height_eq t
  have htc := Tm.count_eq t
  have hF := headsF_eq hd t k l
  refine spec_of_body (N := 56) (m := 0) (dt := drawsOf [(9, .node [0, 1, 2, 3, 4, 5, 6, 7, 8, 11] [(9, .node [10] [(12, .leaf [13])])], [12], [])]) [1] ttOK Tryz.func118 rfl Tryz.call118 Tryz.ntmps118 rfl rfl rfl mixed (by kernel_rfl) ?_
  refine AtCut.mk ⟨List Int × Option Addr × Nat, fun x => [(3, intsS x.1 x.2.1 x.2.2), (4, .loc 0 0), (1, iS hd), (2, iS k)], fun x => ⟨[.cells 55 [iS t.op, iS t.hd, iS t.n, .v (.slice a (Tm.encL t.args).length c)]], [], [tmR t a c, intsR x.1 x.2.1 x.2.2]⟩,
    fun x => x.1.length ≤ l.length + 1 ∧ headsF hd t k l = headsL hd t.op t.args 0 k x.1, fun _ _ => ⟨rfl, rfl⟩, ?_, ?_⟩
  · refine AtIf.mk (fun h1 => ?_) (fun h1 => ?_)
    · have h1 : t.op = 4 ∧ t.hd = hd := by simpa using h1
      rw [if_pos h1] at hF
      refine AtIf.mk (fun h2 => ?_) (fun h2 => ?_)
      · have h2 : hd ≠ 1 := by simpa using h2
        rw [if_pos h2] at hF
        refine (put_spec l t.n a1 c1 (by omega)).at (by simp) rfl rfl ?_
        rintro r out ⟨a', c', rfl, rfl⟩
        have hpl := putF_length l t.n
        exact ⟨(putF l t.n, a', c'), ⟨hpl, hF⟩, ⟨rfl, rfl, rfl, rfl, trivial⟩, StLe.to _ _ rfl (by simp) rfl rfl⟩
      · have h2 : ¬ hd ≠ 1 := by simpa using h2
        rw [if_neg h2] at hF
        refine AtIf.mk (fun h3 => ?_) (fun h3 => ?_)
        · have h3 : t.n ≥ k := by simpa using h3
          rw [if_pos h3] at hF
          refine (put_spec l (IntKind.i64.wrap (t.n - k)) a1 c1 (by omega)).at (by simp) rfl rfl ?_
          rintro r out ⟨a', c', rfl, rfl⟩
          have hpl := putF_length l (IntKind.i64.wrap (t.n - k))
          exact ⟨(putF l (IntKind.i64.wrap (t.n - k)), a', c'), ⟨hpl, hF⟩, ⟨rfl, rfl, rfl, rfl, trivial⟩, StLe.to _ _ rfl (by simp) rfl rfl⟩
        · have h3 : ¬ t.n ≥ k := by simpa using h3
          rw [if_neg h3] at hF
          exact ⟨(l, a1, c1), ⟨by simp, hF⟩, ⟨rfl, rfl, rfl, rfl, trivial⟩, StLe.to _ _ rfl (by simp) rfl rfl⟩
    · have h1 : ¬ (t.op = 4 ∧ t.hd = hd) := by
        intro hh
        simp [hh.1, hh.2] at h1
      rw [if_neg h1] at hF
      exact ⟨(l, a1, c1), ⟨by simp, hF⟩, ⟨rfl, rfl, rfl, rfl, trivial⟩, StLe.to _ _ rfl (by simp) rfl rfl⟩
  rintro ⟨l1, a3, c3⟩ ⟨hl1, hF1⟩
  simp only at hl1 hF1 ⊢
  refine AtLoop.mk ⟨Nat × List Int × Option Addr × Nat, fun x => [(9, iS x.1), (3, intsS x.2.1 x.2.2.1 x.2.2.2), (4, .loc 0 0), (1, iS hd), (2, iS k)], fun x => ⟨[.cells 55 [iS t.op, iS t.hd, iS t.n, .v (.slice a (Tm.encL t.args).length c)]], [], [tmR t a c, intsR x.2.1 x.2.2.1 x.2.2.2]⟩,
    fun x => x.1 ≤ t.args.length ∧ x.2.1.length + Tm.countL (t.args.drop x.1) ≤ 1000000 ∧ headsF hd t k l = headsL hd t.op (t.args.drop x.1) x.1 k x.2.1, fun x => t.args.length - x.1, (0, l1, a3, c3), ⟨Nat.zero_le _, by simp only [List.drop_zero]; omega, hF1⟩, ⟨rfl, rfl, rfl, rfl, rfl, trivial⟩, StLe.refl _, fun _ _ => ⟨rfl, rfl⟩, ?_⟩
  rintro ⟨i, l2, a4, c4⟩ ⟨hi, hll, hinv⟩
  simp only at hi hll hinv ⊢
  refine AtIf.mk (fun h1 => ?_) (fun h1 => ?_)
  · simp only [decide_eq_true_eq, hlen] at h1
    obtain ⟨x, hx⟩ : ∃ x, t.args[i]? = some x := ⟨_, List.getElem?_eq_getElem (by omega)⟩
    have hxm := List.mem_of_getElem? hx
    have hxh := Tm.height_le hxm
    have hxc := count_arg hx
    have hu := under_le t.op i
    refine at_index ttOK 0 rfl rfl rfl rfl (by omega) (by rw [Int.toNat_natCast]; exact Tm.encL_get hx) ?_
    intro a5 c5 _ _
    refine (below_spec t a c i).at (by simp) rfl rfl ?_
    rintro r out ⟨rfl, rfl⟩
    refine ⟨fun _ _ h => h, ?_⟩
    have hw1 : IntKind.i64.wrap (k + under t.op i) = k + under t.op i := wrap_i64 (by omega) (by omega)
    have hsp := ih x hxm (k + under t.op i) l2 a5 a4 c5 c4 (by omega) (by omega) (by omega)
    rw [← hw1] at hsp
    refine hsp.at (by simp) rfl rfl ?_
    rintro r out ⟨a6, c6, rfl, rfl⟩
    rw [drop_cons hx, headsL, ← hw1] at hinv
    have hhl := headsF_length hd x (IntKind.i64.wrap (k + under t.op i)) l2
    have hw3 : IntKind.i64.wrap (i + 1) = ((i + 1 : Nat) : Int) := wrap_i64 (by omega) (by omega)
    exact ⟨(i + 1, headsF hd x (IntKind.i64.wrap (k + under t.op i)) l2, a6, c6), ⟨by omega, by simp only; omega, hinv⟩, by simp only; omega, ⟨by rw [← hw3]; rfl, rfl, rfl, rfl, rfl, trivial⟩, StLe.to _ _ rfl (by simp) rfl rfl⟩
  · simp only [decide_eq_false_iff_not, hlen] at h1
    rw [List.drop_of_length_le (by omega)] at hinv
    refine AtRet.pure [intsR l2 a4 c4] rfl (by simp) ⟨a4, c4, ?_⟩
    rw [hinv]
    exact ⟨rfl, rfl⟩

end Go.Proofs.YtogicnodmgdnbaaGreatDoor
end

/-! Ref3D -/
section
namespace Go.Proofs.YtogicnodmgdnbaaGreatDoor
open Go.Tr Go
set_option maxRecDepth 10000

theorem Tm.enc_eq (t : Tm) : t.enc = .agg [.int .i64 t.op, .int .i64 t.hd, .int .i64 t.n, .sl 4 (Tm.encL t.args)] := by cases t; rfl

theorem RepS_tm {reps : List (Value × D)} {t : Tm} {a : Option Addr} {c : Nat} (h : tmR t a c ∈ reps) : RepS reps t.enc (cellsOf (tmS t a c)) := by
  rw [Tm.enc_eq]
  exact ⟨[iS t.op], _, rfl, rfl, [iS t.hd], _, rfl, rfl, [iS t.n], _, rfl, rfl, [.v (.slice a (Tm.encL t.args).length c)], [], rfl, .inl ⟨_, rfl, h⟩, rfl⟩

theorem Tm.encL_snoc (l : List Tm) (t : Tm) : Tm.encL (l ++ [t]) = Tm.encL l ++ [t.enc] := by simp [Tm.encL_eq]

mutual
def movedF : Tm → Int → Int → Tm
  | .mk o h n us, by_, f => .mk o h (if (o = 4 ∧ h = 1) ∧ n ≥ f then IntKind.i64.wrap (n + by_) else n) (movedL o us 0 by_ f)
def movedL : Int → List Tm → Nat → Int → Int → List Tm
  | _, [], _, _, _ => []
  | o, u :: us, i, by_, f => movedF u by_ (f + under o i) :: movedL o us (i + 1) by_ f
 end
theorem movedF_eq (t : Tm) (by_ f : Int) : movedF t by_ f = .mk t.op t.hd (if (t.op = 4 ∧ t.hd = 1) ∧ t.n ≥ f then IntKind.i64.wrap (t.n + by_) else t.n) (movedL t.op t.args 0 by_ f) := by cases t; rfl

theorem countL_drop : ∀ (us : List Tm) (i : Nat), Tm.countL (us.drop i) ≤ Tm.countL us
  | us, 0 => by simp
  | [], i + 1 => by simp
  | u :: us, i + 1 => by
    have := countL_drop us i
    simp only [List.drop_succ_cons, Tm.countL]
    omega

theorem moved_spec (t : Tm) (b : Int) : ∀ (f : Int) (a : Option Addr) (c : Nat), 0 ≤ f → f + t.height ≤ 1000000 → t.count ≤ 1000000 → Pure Tryz.prog (fnS 180) [tmS t a c, iS b, iS f] [tmR t a c] (fun r out => ∃ a' c', r = tmS (movedF t b f) a' c' ∧ out = [tmR (movedF t b f) a' c']) := by
  induction t using Tm.ind with
  | h t ih =>
  intro f a c hf0 hf1 hct
  refine Meets.of_ok fun hok => ?_
  have hB : (Tm.encL t.args).length ≤ 1152921504606846976 := (hok _ (List.mem_cons_self ..)).1
  have hlen := Tm.encL_length t.args
  have hth := Tm.height_eq t
  have htc := Tm.count_eq t
  have hF := movedF_eq t b f
  have hcl : ∀ us : List Tm, us.length ≤ Tm.countL us := by
    intro us
    induction us with
    | nil => simp
    | cons u us ih => have := Tm.count_pos u; simp only [List.length_cons, Tm.countL]; omega
  have hcl := hcl t.args
  refine Meets.nilAcc 4 55 ?_
  refine spec_of_body (N := 55) (m := 0) (dt := drawsOf [(8, .node [0, 1, 2, 3, 4, 5, 6, 7, 8, 9, 10] [(11, .node [12] [(13, .node [] [(14, .node [] [(15, .node [16] [(17, .leaf [])])])])])], [15, 17], [])]) [3] ttOK Tryz.func180 rfl Tryz.call180 Tryz.ntmps180 rfl rfl rfl mixed (by kernel_rfl) ?_
  refine AtCut.mk ⟨Unit, fun _ => [(3, .loc 0 0), (6, .loc 1 0), (7, .loc 2 0), (1, iS b), (2, iS f)],
    fun _ => ⟨[.cells 55 [iS t.op, iS t.hd, iS t.n, .v (.slice a (Tm.encL t.args).length c)], .cells 55 [iS 0, iS 0, iS 0, .v (.slice none 0 0)], .cells 55 [iS t.op, iS t.hd, iS (movedF t b f).n, .v (.slice none 0 0)]], [⟨.slice none 0 0, 4, 55, []⟩], [tmR t a c]⟩, fun _ => True, fun _ _ => ⟨rfl, rfl⟩, ?_, ?_⟩
  · refine AtIf.mk (fun h1 => ?_) (fun h1 => ?_)
    · have h1 : (t.op = 4 ∧ t.hd = 1) ∧ t.n ≥ f := by simpa using h1
      have hn : (movedF t b f).n = IntKind.i64.wrap (t.n + b) := by rw [hF, if_pos h1]; rfl
      exact ⟨(), trivial, ⟨rfl, rfl, rfl, rfl, rfl, trivial⟩, StLe.of (by rw [hn]; rfl) (List.Sublist.refl _) (by simp) rfl rfl⟩
    · have h1 : ¬ ((t.op = 4 ∧ t.hd = 1) ∧ t.n ≥ f) := by
        intro hh
        simp [hh.1.1, hh.1.2, hh.2] at h1
      have hn : (movedF t b f).n = t.n := by rw [hF, if_neg h1]; rfl
      exact ⟨(), trivial, ⟨rfl, rfl, rfl, rfl, rfl, trivial⟩, StLe.of (by rw [hn]; rfl) (List.Sublist.refl _) (by simp) rfl rfl⟩
  intro _ _
  refine AtLoop.mk ⟨Nat × List Tm × Option Addr × Nat, fun x => [(8, iS x.1), (3, .loc 0 0), (6, .loc 1 0), (7, .loc 2 0), (1, iS b), (2, iS f)],
    fun x => ⟨[.cells 55 [iS t.op, iS t.hd, iS t.n, .v (.slice a (Tm.encL t.args).length c)], .cells 55 [iS 0, iS 0, iS 0, .v (.slice none 0 0)], .cells 55 [iS t.op, iS t.hd, iS (movedF t b f).n, .v (.slice x.2.2.1 (Tm.encL x.2.1).length x.2.2.2)]], [⟨.slice x.2.2.1 (Tm.encL x.2.1).length x.2.2.2, 4, 55, Tm.encL x.2.1⟩], [tmR t a c]⟩,
    fun x => x.1 ≤ t.args.length ∧ x.2.1.length = x.1 ∧ movedL t.op t.args 0 b f = x.2.1 ++ movedL t.op (t.args.drop x.1) x.1 b f, fun x => t.args.length - x.1, (0, [], none, 0), ⟨Nat.zero_le _, rfl, rfl⟩, ⟨rfl, rfl, rfl, rfl, rfl, rfl, trivial⟩, StLe.refl _, fun _ _ => ⟨rfl, rfl⟩, ?_⟩
  rintro ⟨i, done, a2, c2⟩ ⟨hi, hdl, hinv⟩
  simp only at hi hdl hinv ⊢
  have hdle := Tm.encL_length done
  refine AtIf.mk (fun h1 => ?_) (fun h1 => ?_)
  · simp only [decide_eq_true_eq, hlen] at h1
    obtain ⟨x, hx⟩ : ∃ x, t.args[i]? = some x := ⟨_, List.getElem?_eq_getElem (by omega)⟩
    have hxm := List.mem_of_getElem? hx
    have hxh := Tm.height_le hxm
    have hxc : x.count ≤ 1000000 := by
      have h2 := count_arg hx
      have h3 := countL_drop t.args i
      omega
    have hu := under_le t.op i
    refine at_index ttOK 0 rfl rfl rfl rfl (by omega) (by rw [Int.toNat_natCast]; exact Tm.encL_get hx) ?_
    intro a5 c5 _ _
    refine (below_spec t a c i).at (by simp) rfl rfl ?_
    rintro r out ⟨rfl, rfl⟩
    refine ⟨fun _ _ h => h, ?_⟩
    have hw1 : IntKind.i64.wrap (f + under t.op i) = f + under t.op i := wrap_i64 (by omega) (by omega)
    have hsp := ih x hxm (f + under t.op i) a5 c5 (by omega) (by omega) hxc
    rw [← hw1] at hsp
    refine hsp.at (by simp) rfl rfl ?_
    rintro r out ⟨a6, c6, rfl, rfl⟩
    refine ⟨fun _ _ h => h, ?_⟩
    refine at_build ttOK 48 [(movedF x b (IntKind.i64.wrap (f + under t.op i))).enc] rfl (by kernel_rfl) ⟨⟨rfl, rfl, rfl, RepS_tm (by simp)⟩, trivial⟩ rfl (by decide) (by decide) ?_
    intro a7
    refine ⟨fun _ _ h => h, ?_⟩
    refine at_append ttOK 48 0 3 rfl (by kernel_rfl) rfl rfl rfl rfl (by simp; omega) (by simp; omega) ?_
    intro a8 c8
    rw [drop_cons hx, movedL, ← hw1] at hinv
    have hw3 : IntKind.i64.wrap (i + 1) = ((i + 1 : Nat) : Int) := wrap_i64 (by omega) (by omega)
    have he : (Tm.encL (done ++ [movedF x b (IntKind.i64.wrap (f + under t.op i))])).length = (Tm.encL done).length + 1 := by simp [Tm.encL_length]
    refine ⟨(i + 1, done ++ [movedF x b (IntKind.i64.wrap (f + under t.op i))], a8, c8), ⟨by omega, by simp [hdl], by rw [hinv]; simp⟩, by simp only; omega, ⟨by rw [← hw3]; rfl, rfl, rfl, rfl, rfl, rfl, trivial⟩, StLe.of ?_ ?_ (by simp) rfl rfl⟩
    · simp only [he]; rfl
    · rw [Tm.encL_snoc, List.length_append]; exact List.Sublist.refl _
  · simp only [decide_eq_false_iff_not, hlen] at h1
    rw [List.drop_of_length_le (by omega)] at hinv
    simp only [movedL, List.append_nil] at hinv
    have hm : movedF t b f = .mk t.op t.hd (movedF t b f).n done := by rw [hF, hinv]; rfl
    refine AtRet.grown [(.slice a2 (Tm.encL done).length c2, .sl 4 (Tm.encL done))] rfl (fun p hp => .inr ?_) ⟨a2, c2, ?_⟩
    · simp only [List.mem_singleton] at hp
      subst hp
      exact ⟨_, List.mem_singleton.2 rfl, rfl⟩
    · rw [hm]
      exact ⟨rfl, rfl⟩

mutual
theorem nodesF_count : ∀ (t : Tm) (m : Int), 0 ≤ m → nodesF t m = min (t.count : Int) (m + 1)
  | .mk o h n us, m, hm => by
    have := nodesL_count us m 1 (by omega)
    have e := Tm.count_eq (.mk o h n us)
    simp only [Tm.args] at e
    rw [e]
    simp only [nodesF, this]
    split <;> omega
theorem nodesL_count : ∀ (us : List Tm) (m n : Int), n ≤ m + 1 → nodesL us m n = min (n + (Tm.countL us : Nat)) (m + 1)
  | [], m, n, h => by simp only [nodesL, Tm.countL]; omega
  | u :: us, m, n, h => by
    have hp := Tm.count_pos u
    simp only [nodesL, Tm.countL]
    split
    · have h1 := nodesF_count u (m - n) (by omega)
      have h2 := nodesF_le u (m - n) (by omega)
      have h3 := nodesL_count us m (n + nodesF u (m - n)) (by omega)
      rw [h3, h1]
      omega
    · omega
 end

mutual
theorem formedF_iff : ∀ (t : Tm) (d : Int), formedF t d = true ↔ okAll t = true ∧ d + t.height ≤ 41
  | .mk o h n us, d => by
    have hl := formedL_iff us (d + 1)
    simp only [formedF, okAll, Tm.height, Bool.and_eq_true]
    by_cases h1 : 40 < d
    · rw [if_pos h1]
      simp only [Bool.false_eq_true, false_iff]
      omega
    · rw [if_neg h1, Bool.and_eq_true, hl]
      constructor
      · rintro ⟨h2, h3, h4⟩
        refine ⟨⟨h2, h3⟩, ?_⟩
        rcases h4 with rfl | h4
        · simp only [Tm.heightL]; omega
        · omega
      · rintro ⟨⟨h2, h3⟩, h4⟩
        exact ⟨h2, h3, .inr (by omega)⟩
theorem formedL_iff : ∀ (us : List Tm) (d : Int), formedL us d = true ↔ okAllL us = true ∧ (us = [] ∨ d + Tm.heightL us ≤ 41)
  | [], d => by simp [formedL, okAllL]
  | u :: us, d => by
    have h1 := formedF_iff u d
    have h2 := formedL_iff us d
    have hq := Tm.height_pos u
    simp only [formedL, okAllL, Tm.heightL, Bool.and_eq_true, h1, h2, reduceCtorEq, false_or]
    constructor
    · rintro ⟨⟨h3, h4⟩, h5, h6⟩
      refine ⟨⟨h3, h5⟩, ?_⟩
      rcases h6 with rfl | h6
      · simp only [Tm.heightL]; omega
      · omega
    · rintro ⟨⟨h3, h5⟩, h6⟩
      exact ⟨⟨h3, by omega⟩, h5, .inr (by omega)⟩
 end

theorem refProper_eq (t : Tm) : refProper t = isProper t := by
  rw [Bool.eq_iff_iff, isProper_iff, refProper, Bool.and_eq_true, formedF_iff, nodesF_count t 600 (by omega), decide_eq_true_eq]
  constructor
  · rintro ⟨h1, h2, h3⟩
    exact ⟨h2, by omega, by omega⟩
  · rintro ⟨h1, h2, h3⟩
    exact ⟨by omega, h1, by omega⟩

def tm0 : Tm := .mk 0 0 0 []

/-- What trussref03.Shift answers. -/
def shiftF (t : Tm) (b f : Int) : Tm × Int :=
  if isProper t = false ∨ b < -9999 ∨ b > 9999 ∨ f < 0 ∨ f > 9999 then (tm0, 2)
  else if b < 0 ∧ lowF t f (f - b - 1) = true then (tm0, 27)
  else if isProper (movedF t b f) = false then (tm0, 5)
  else (movedF t b f, 0)

theorem shift_spec (t : Tm) (b f : Int) (a : Option Addr) (c : Nat) : Pure Tryz.prog (fnS 165) [tmS t a c, iS b, iS f] [tmR t a c] (fun r out => ∃ a' c', r = .tup [tmS (shiftF t b f).1 a' c', iS (shiftF t b f).2] ∧ out = [tmR (shiftF t b f).1 a' c']) := by
  refine nilRep 4 ?_
  refine spec_of_body (N := 50) (m := 0) (dt := fun _ => none) [3] ttOK Tryz.func165 rfl Tryz.call165 Tryz.ntmps165 rfl rfl rfl mixed (by kernel_rfl) ?_
  refine (refProper_spec t a c).at (by simp) rfl rfl ?_
  rintro r out ⟨rfl, rfl⟩
  rw [refProper_eq]
  refine AtIf.mk (fun h1 => ?_) (fun h1 => ?_)
  · have h1 : isProper t = false ∨ b < -9999 ∨ b > 9999 ∨ f < 0 ∨ f > 9999 := by
      simp only [Bool.or_eq_true, Bool.not_eq_true', decide_eq_true_eq] at h1
      rcases h1 with (((h1 | h1) | h1) | h1) | h1 <;> simp [h1]
    refine AtRet.pure [tmR tm0 none 0] rfl (by simp [tm0, Tm.args, Tm.encL]) ⟨none, 0, ?_⟩
    rw [shiftF, if_pos h1]
    exact ⟨rfl, rfl⟩
  simp only [Bool.or_eq_false_iff, Bool.not_eq_false', decide_eq_false_iff_not] at h1
  obtain ⟨⟨⟨⟨hp, hb1⟩, hb2⟩, hf1⟩, hf2⟩ := h1
  have hno : ¬ (isProper t = false ∨ b < -9999 ∨ b > 9999 ∨ f < 0 ∨ f > 9999) := by
    rw [hp]
    simp only [Bool.true_eq_false, false_or]
    omega
  have hpp := (isProper_iff t).1 hp
  have hw1 : IntKind.i64.wrap (f - b) = f - b := wrap_i64 (by omega) (by omega)
  have hw2 : IntKind.i64.wrap (f - b - 1) = f - b - 1 := wrap_i64 (by omega) (by omega)
  refine AtCut.mk ⟨Unit, fun _ => [(3, .loc 0 0), (6, .loc 1 0), (1, iS b), (2, iS f)], fun _ => ⟨[.cells 55 [iS t.op, iS t.hd, iS t.n, .v (.slice a (Tm.encL t.args).length c)], .cells 55 [iS 0, iS 0, iS 0, .v (.slice none 0 0)]], [], [(.slice none 0 0, .sl 4 []), tmR t a c]⟩,
    fun _ => ¬ (b < 0 ∧ lowF t f (f - b - 1) = true), fun _ _ => ⟨rfl, rfl⟩, ?_, ?_⟩
  · refine AtGuard.mk (fun h2 => ?_) (fun h2 => ?_)
    · have h2 : b < 0 := by simpa using h2
      have hsp := low_spec t f (f - b - 1) a c (by omega) (by omega) (by omega) (by omega)
      rw [← hw2, ← hw1] at hsp
      refine hsp.at (by simp) rfl rfl ?_
      rintro r out ⟨rfl, rfl⟩
      rw [hw1, hw2]
      refine AtIf.mk (fun h3 => ?_) (fun h3 => ?_)
      · have h3 : b < 0 ∧ lowF t f (f - b - 1) = true := ⟨h2, by simpa [h2] using h3⟩
        refine AtRet.pure [tmR tm0 none 0] rfl (by simp [tm0, Tm.args, Tm.encL]) ⟨none, 0, ?_⟩
        rw [shiftF, if_neg hno, if_pos h3]
        exact ⟨rfl, rfl⟩
      · refine ⟨(), ?_, ⟨rfl, rfl, rfl, rfl, trivial⟩, StLe.to _ _ rfl (by simp) rfl rfl⟩
        rintro ⟨h4, h5⟩
        simp [h5] at h3
    · have h2 : ¬ b < 0 := by simpa using h2
      refine AtIf.mk (fun h3 => ?_) (fun h3 => ?_)
      · simp at h3
      · exact ⟨(), fun h => h2 h.1, ⟨rfl, rfl, rfl, rfl, trivial⟩, StLe.to _ _ rfl (by simp) rfl rfl⟩
  intro _ hno2
  refine (moved_spec t b f a c (by omega) (by omega) (by omega)).at (by simp) rfl rfl ?_
  rintro r out ⟨a1, c1, rfl, rfl⟩
  refine (refProper_spec (movedF t b f) a1 c1).at (by simp) rfl rfl ?_
  rintro r out ⟨rfl, rfl⟩
  rw [refProper_eq]
  refine AtIf.mk (fun h3 => ?_) (fun h3 => ?_)
  · have h3 : isProper (movedF t b f) = false := by simpa using h3
    refine AtRet.pure [tmR tm0 none 0] rfl (by simp [tm0, Tm.args, Tm.encL]) ⟨none, 0, ?_⟩
    rw [shiftF, if_neg hno, if_neg hno2, if_pos h3]
    exact ⟨rfl, rfl⟩
  · have h3 : isProper (movedF t b f) = true := by simpa using h3
    refine AtRet.pure [tmR (movedF t b f) a1 c1] rfl (by simp) ⟨a1, c1, ?_⟩
    rw [shiftF, if_neg hno, if_neg hno2, if_neg (by simp [h3])]
    exact ⟨rfl, rfl⟩
end Go.Proofs.YtogicnodmgdnbaaGreatDoor
end

/-! FwQ -/
section
namespace Go.Tr
open Go
set_option linter.unusedSimpArgs false

/-- A slice that is nil reads as the empty list. -/
theorem Meets.nilRep {P : Program} {cl : Cal} {args : List SV} {own : List Blk} {accs : List Acc} {rs : List (Value × D)} {R : Out → St → Prop} (k : Nat) (h : Meets P cl args ⟨own, accs, (.slice none 0 0, .sl k []) :: rs⟩ R) : Meets P cl args ⟨own, accs, rs⟩ R := by
  intro J ℓ w hG hJ
  refine h J ℓ w ⟨hG.len, hG.nodup, hG.lt, hG.memJ, hG.wf, hG.own, hG.accs, ?_⟩ hJ
  intro p hp
  rcases List.mem_cons.1 hp with e | e
  · subst e
    exact ⟨none, 0, rfl, ⟨Nat.zero_le _, Nat.zero_le _⟩, .inl rfl⟩
  · exact hG.reps p e

/-- The place of an element of a slice whose block is known. -/
theorem at_index_acc {P : Program} {tt : Tab} (hT : TTOK P tt) {t e : TypeId} {k : Nat} {x ix : SV} {S : St} {K : SV → St → Prop} {b n c : Nat} {i : Int} {kk : IntKind} (hx : x = .v (.slice (some ⟨b, 0, none⟩) n c)) (hi : ix = .v (.int kk i)) (ht : tt t = some (.slice e k))
    (h0 : 0 ≤ i) (hlt : i < n) (h : K (.v (.pointer (some ⟨b, i.toNat * k, none⟩))) S) : AtPure P (fun ℓ => Instr.indexAt t (x.den ℓ) (ix.den ℓ)) S K := by
  subst hx hi
  refine AtPure.val _ rfl (fun ℓ w => ?_) h
  obtain ⟨_, hu, hse⟩ := hT t _ ht
  simp only [Instr.indexAt, SV.den, asIntOf, pure_bind, Sem.run_bind, run_underlying' hu, Result.andThen_ok, Sem.run_pure]
  rw [if_pos ⟨h0, hlt⟩]
  simp only [Sem.run_bind, hse, Result.andThen_ok, Sem.run_pure, addr_add, Nat.zero_add]

end Go.Tr
end

/-! Ref15A -/
section
namespace Go.Proofs.YtogicnodmgdnbaaGreatDoor
open Go.Tr Go
set_option maxRecDepth 10000


theorem okAll_n {t : Tm} (h : okAll t = true) : 0 ≤ t.n ∧ t.n ≤ 9999 := by
  cases t with
  | mk o hd n us =>
    simp only [okAll, Bool.and_eq_true] at h
    have h1 := h.1
    simp only [Tm.n]
    unfold okNode at h1
    split at h1
    · simp at h1; omega
    · split at h1
      · simp at h1; omega
      · split at h1
        · simp at h1; omega
        · split at h1
          · simp at h1; omega
          · cases h1

end Go.Proofs.YtogicnodmgdnbaaGreatDoor
end

/-! Ref15B -/
section
namespace Go.Proofs.YtogicnodmgdnbaaGreatDoor
open Go.Tr Go
set_option maxRecDepth 10000

section
variable (fx : Int) (a : Tm)


end

theorem okL_mem : ∀ {ds : List D} {d : D}, okL ds → d ∈ ds → okD d
  | [], d, _, h => by simp at h
  | e :: ds, d, h, hm => by
    simp only [okL] at h
    rcases List.mem_cons.1 hm with r | r
    · subst r; exact h.1
    · exact okL_mem h.2 r

end Go.Proofs.YtogicnodmgdnbaaGreatDoor
end

/-! Orders -/
section
namespace Go.Proofs.YtogicnodmgdnbaaGreatDoor
open Go.Tr Go
set_option maxRecDepth 10000

inductive Od where
  | mk (op n : Int) (parts : List Od)

def Od.op : Od → Int | .mk o _ _ => o
def Od.n : Od → Int | .mk _ n _ => n
def Od.parts : Od → List Od | .mk _ _ p => p

mutual
def Od.enc : Od → D
  | .mk o n p => .agg [.int .i64 o, .int .i64 n, .sl 3 (Od.encL p)]
def Od.encL : List Od → List D
  | [] => []
  | t :: ts => t.enc :: Od.encL ts
 end

theorem Od.encL_eq : ∀ (l : List Od), Od.encL l = l.map Od.enc
  | [] => rfl
  | t :: ts => by simp only [Od.encL, List.map_cons, Od.encL_eq ts]
theorem Od.encL_length (l : List Od) : (Od.encL l).length = l.length := by simp [Od.encL_eq]
theorem Od.encL_get {l : List Od} {i : Nat} {t : Od} (h : l[i]? = some t) : (Od.encL l)[i]? = some (.agg [.int .i64 t.op, .int .i64 t.n, .sl 3 (Od.encL t.parts)]) := by
  rw [Od.encL_eq, List.getElem?_map, h]; cases t; rfl

theorem Od.ind {motive : Od → Prop} (h : ∀ t, (∀ x ∈ t.parts, motive x) → motive t) (t : Od) : motive t := by
  induction t using Od.rec (motive_2 := fun ts => ∀ x ∈ ts, motive x) with
  | nil => rename_i x hx; cases hx
  | cons t ts ih1 ih2 => rename_i x hx; rcases List.mem_cons.1 hx with e | e; (subst e; exact ih1); exact ih2 x e
  | mk op n parts ih => exact h _ ih

end Go.Proofs.YtogicnodmgdnbaaGreatDoor
end

/-! LawA -/
section
namespace Go.Proofs.YtogicnodmgdnbaaGreatDoor
open Go.Tr Go
set_option maxRecDepth 10000

theorem lookI_putI (n v : Int) : ∀ (l : List (Int × Int)) (m : Int), lookI (putI n v l) m = if m = n then some v else lookI l m
  | [], m => by simp only [putI, lookI]
  | (k, u) :: r, m => by
    simp only [putI]
    by_cases h : n = k
    · subst h
      rw [if_pos rfl]
      simp only [lookI]
      split <;> rfl
    · rw [if_neg h]
      simp only [lookI, lookI_putI n v r m]
      by_cases h2 : m = k
      · rw [if_pos h2, if_neg (by omega)]; simp [h2]
      · rw [if_neg h2]; simp [h2]

/-- What is chosen, as the program and the reference keep it. -/
structure Rel (st : Nat) (ch : List (Int × Int)) (l : List Int) : Prop where
  len : l.length = st
  none : ∀ y : Nat, y < st → lookI ch y = none → l.getD y 0 = -1
  some : ∀ (y : Nat) (x : Int), y < st → lookI ch y = some x → l.getD y 0 = x ∧ 0 ≤ x

theorem getD_set {l : List Int} {i j : Nat} {x : Int} (h : i < l.length) : (l.set i x).getD j 0 = if j = i then x else l.getD j 0 := by
  simp only [List.getD_eq_getElem?_getD, List.getElem?_set]
  by_cases hj : i = j
  · subst hj; simp [h]
  · rw [if_neg hj, if_neg (by omega)]

theorem Rel.put {st : Nat} {ch : List (Int × Int)} {l : List Int} (h : Rel st ch l) (y : Nat) (x : Int) (hy : y < st) (hx : 0 ≤ x) : Rel st (putI y x ch) (l.set y x) := by
  have hl := h.len
  refine ⟨by rw [List.length_set, hl], ?_, ?_⟩
  · intro z hz hn
    rw [lookI_putI] at hn
    split at hn
    · cases hn
    · rename_i hne
      rw [getD_set (by omega), if_neg (by omega)]
      exact h.none z hz hn
  · intro z w hz hn
    rw [lookI_putI] at hn
    split at hn
    · rename_i he
      cases hn
      rw [getD_set (by omega), if_pos (by omega)]
      exact ⟨rfl, hx⟩
    · rename_i hne
      rw [getD_set (by omega), if_neg (by omega)]
      exact h.some z w hz hn


section
variable (fx : Int) (a : Tm) (ha : okAll a = true) (hh : a.height ≤ 1000000) (hf0 : 0 ≤ fx) (hf1 : fx ≤ 1000000)
include ha hh

include hf0 hf1

end
end Go.Proofs.YtogicnodmgdnbaaGreatDoor
end

/-! LawB -/
section
namespace Go.Proofs.YtogicnodmgdnbaaGreatDoor
open Go.Tr Go
set_option maxRecDepth 10000

mutual
/-- The numbers of the free variables of a term, as they stand. -/
def fvF : Tm → Int → List Int
  | .mk o h n us, k => (if o = 4 ∧ h = 1 ∧ n ≥ k then [n - k] else []) ++ fvL o us 0 k
def fvL : Int → List Tm → Nat → Int → List Int
  | _, [], _, _ => []
  | o, u :: us, i, k => fvF u (k + under o i) ++ fvL o us (i + 1) k
 end

theorem mem_putF (x n : Int) : ∀ (l : List Int), x ∈ putF l n ↔ x = n ∨ x ∈ l
  | [] => by simp [putF]
  | y :: l => by
    simp only [putF]
    split
    · simp only [List.mem_cons, mem_putF x n l]
      constructor
      · rintro (h | h | h)
        · exact .inr (.inl h)
        · exact .inl h
        · exact .inr (.inr h)
      · rintro (h | h | h)
        · exact .inr (.inl h)
        · exact .inl h
        · exact .inr (.inr h)
    · split
      · rename_i h1 h2
        subst h2
        simp
      · simp

theorem putF_sorted (n : Int) : ∀ (l : List Int), l.Pairwise (· < ·) → (putF l n).Pairwise (· < ·)
  | [], _ => by simp [putF]
  | y :: l, h => by
    simp only [putF]
    rw [List.pairwise_cons] at h
    split
    · rename_i h1
      rw [List.pairwise_cons]
      refine ⟨?_, putF_sorted n l h.2⟩
      intro z hz
      rw [mem_putF] at hz
      rcases hz with rfl | hz
      · exact h1
      · exact h.1 z hz
    · split
      · rw [List.pairwise_cons]; exact h
      · rename_i h1 h2
        rw [List.pairwise_cons, List.pairwise_cons]
        refine ⟨?_, h⟩
        intro z hz
        rcases List.mem_cons.1 hz with rfl | hz
        · omega
        · have := h.1 z hz; omega



theorem mem_putAt (x n : Int) (v : Value) : ∀ (l : List (Int × Value)), x ∈ (putAt n v l).map (·.1) ↔ x = n ∨ x ∈ l.map (·.1)
  | [] => by simp [putAt]
  | (k, u) :: r => by
    simp only [putAt]
    split
    · rename_i h
      subst h
      simp
    · simp only [List.map_cons, List.mem_cons, mem_putAt x n v r]
      constructor
      · rintro (h | h | h)
        · exact .inr (.inl h)
        · exact .inl h
        · exact .inr (.inr h)
      · rintro (h | h | h)
        · exact .inr (.inl h)
        · exact .inl h
        · exact .inr (.inr h)

theorem noteStep_eq (o h n : Int) (us : List Tm) (k : Int) (l : List (Int × Value)) : noteStep freeOf l (.mk o h n us) k = if o = 4 ∧ h = 1 ∧ k ≤ n then putAt (IntKind.i64.wrap (n - k)) (.bool true) l else l := by
  have hc : ((Tm.mk o h n us).op = 4 ∧ (freeOf (.mk o h n us) k).2 = true) ↔ (o = 4 ∧ h = 1 ∧ k ≤ n) := by
    simp [freeOf, Tm.op, Tm.hd, Tm.n]
    intro _ _
    exact decide_eq_true_iff
  rw [noteStep]
  by_cases h1 : o = 4 ∧ h = 1 ∧ k ≤ n
  · rw [if_pos h1, if_pos (hc.2 h1)]; rfl
  · rw [if_neg h1, if_neg (fun h => h1 (hc.1 h))]

mutual
theorem walk_mem (x : Int) : ∀ (t : Tm) (k : Int) (l : List (Int × Value)), okAll t = true → 0 ≤ k → k + t.height ≤ 1000000 → (x ∈ (walkF (noteStep freeOf) t l k).map (·.1) ↔ x ∈ l.map (·.1) ∨ x ∈ fvF t k)
  | .mk o h n us, k, l, hok, hk0, hk1 => by
    have hn := okAll_n hok
    simp only [Tm.n] at hn
    have hus : okAllL us = true := by simp only [okAll, Bool.and_eq_true] at hok; exact hok.2
    have hth : Tm.heightL us + 1 = (Tm.mk o h n us).height := by simp only [Tm.height]
    have w1 : IntKind.i64.wrap (n - k) = n - k := wrap_i64 (by omega) (by omega)
    simp only [walkF, fvF, List.mem_append]
    rw [walk_memL x o us 0 k _ hus hk0 (by omega)]
    rw [noteStep_eq, w1]
    have hge : (o = 4 ∧ h = 1 ∧ n ≥ k) = (o = 4 ∧ h = 1 ∧ k ≤ n) := rfl
    simp only [hge]
    by_cases h1 : o = 4 ∧ h = 1 ∧ k ≤ n
    · rw [if_pos h1, if_pos h1, mem_putAt]
      simp only [List.mem_singleton, or_assoc]
      constructor
      · rintro (h | h | h)
        · exact .inr (.inl h)
        · exact .inl h
        · exact .inr (.inr h)
      · rintro (h | h | h)
        · exact .inr (.inl h)
        · exact .inl h
        · exact .inr (.inr h)
    · rw [if_neg h1, if_neg h1]
      simp
theorem walk_memL (x : Int) : ∀ (o : Int) (us : List Tm) (i : Nat) (k : Int) (l : List (Int × Value)), okAllL us = true → 0 ≤ k → k + 1 + Tm.heightL us ≤ 1000000 → (x ∈ (walkL (noteStep freeOf) o us i l k).map (·.1) ↔ x ∈ l.map (·.1) ∨ x ∈ fvL o us i k)
  | o, [], i, k, l, _, _, _ => by simp [walkL, fvL]
  | o, u :: us, i, k, l, hok, hk0, hk1 => by
    simp only [okAllL, Bool.and_eq_true] at hok
    simp only [Tm.heightL] at hk1
    have hu := under_le o i
    simp only [walkL, fvL, List.mem_append]
    rw [walk_memL x o us (i + 1) k _ hok.2 hk0 (by omega), walk_mem x u _ l hok.1 (by omega) (by omega), or_assoc]
 end

theorem sorted_mem (x : Int) (l : List Int) : x ∈ sorted l ↔ x ∈ l := by
  simp only [sorted, List.mem_mergeSort]

end Go.Proofs.YtogicnodmgdnbaaGreatDoor
end
