/- Merged texts: G1 Gm Gs HandF. Conditions stand in each rule. -/
import Derived.Test.YthkgcfplebgolaaGreatQF
import Derived.Laws.MakeOwn
set_option linter.unusedSimpArgs false
set_option linter.unusedVariables false

namespace Go.Proofs.YthkgcfplebgolaaGreat
section
open Go.Tr Go Go.Proofs.Tryz
set_option maxRecDepth 10000
structure Dc where
 name : ByteArray
 cls : Tm
 implicit : Int
abbrev Dc.enc (t : Dc) : D := .agg [.str t.name, .agg [.int .i64 t.cls.op, .int .i64 t.cls.hd, .int .i64 t.cls.n, .sl 4 (Tm.encL t.cls.args)], .int .i64 t.implicit]
abbrev Dc.encL (l : List Dc) : List D := l.map Dc.enc
theorem Dc.encL_eq (l : List Dc) : Dc.encL l = l.map Dc.enc := rfl
theorem Dc.enc_eq (t : Dc) : t.enc = .agg [.str t.name, .agg [.int .i64 t.cls.op, .int .i64 t.cls.hd, .int .i64 t.cls.n, .sl 4 (Tm.encL t.cls.args)], .int .i64 t.implicit] := rfl
theorem Dc.encL_length (l : List Dc) : (Dc.encL l).length = l.length := by simp
theorem Dc.encL_get {l : List Dc} {i : Nat} {t : Dc} (h : l[i]? = some t) : (Dc.encL l)[i]? = some (.agg [.str t.name, .agg [.int .i64 t.cls.op, .int .i64 t.cls.hd, .int .i64 t.cls.n, .sl 4 (Tm.encL t.cls.args)], .int .i64 t.implicit]) := by rw [Dc.encL_eq, List.getElem?_map, h]; rfl
structure Mt where
 name : ByteArray
 cls : Tm
 solved : Bool
 value : Tm
abbrev Mt.enc (t : Mt) : D := .agg [.str t.name, .agg [.int .i64 t.cls.op, .int .i64 t.cls.hd, .int .i64 t.cls.n, .sl 4 (Tm.encL t.cls.args)], .bool t.solved, .agg [.int .i64 t.value.op, .int .i64 t.value.hd, .int .i64 t.value.n, .sl 4 (Tm.encL t.value.args)]]
abbrev Mt.encL (l : List Mt) : List D := l.map Mt.enc
theorem Mt.encL_eq (l : List Mt) : Mt.encL l = l.map Mt.enc := rfl
theorem Mt.enc_eq (t : Mt) : t.enc = .agg [.str t.name, .agg [.int .i64 t.cls.op, .int .i64 t.cls.hd, .int .i64 t.cls.n, .sl 4 (Tm.encL t.cls.args)], .bool t.solved, .agg [.int .i64 t.value.op, .int .i64 t.value.hd, .int .i64 t.value.n, .sl 4 (Tm.encL t.value.args)]] := rfl
theorem Mt.encL_length (l : List Mt) : (Mt.encL l).length = l.length := by simp
theorem Mt.encL_get {l : List Mt} {i : Nat} {t : Mt} (h : l[i]? = some t) : (Mt.encL l)[i]? = some (.agg [.str t.name, .agg [.int .i64 t.cls.op, .int .i64 t.cls.hd, .int .i64 t.cls.n, .sl 4 (Tm.encL t.cls.args)], .bool t.solved, .agg [.int .i64 t.value.op, .int .i64 t.value.hd, .int .i64 t.value.n, .sl 4 (Tm.encL t.value.args)]]) := by rw [Mt.encL_eq, List.getElem?_map, h]; rfl
structure Kn where
 sig : (List Dc)
 metas : (List Mt)
abbrev Kn.enc (t : Kn) : D := .agg [.sl 6 (Dc.encL t.sig), .sl 10 (Mt.encL t.metas)]
abbrev Kn.encL (l : List Kn) : List D := l.map Kn.enc
theorem Kn.encL_eq (l : List Kn) : Kn.encL l = l.map Kn.enc := rfl
theorem Kn.enc_eq (t : Kn) : t.enc = .agg [.sl 6 (Dc.encL t.sig), .sl 10 (Mt.encL t.metas)] := rfl
theorem Kn.encL_length (l : List Kn) : (Kn.encL l).length = l.length := by simp
theorem Kn.encL_get {l : List Kn} {i : Nat} {t : Kn} (h : l[i]? = some t) : (Kn.encL l)[i]? = some (.agg [.sl 6 (Dc.encL t.sig), .sl 10 (Mt.encL t.metas)]) := by rw [Kn.encL_eq, List.getElem?_map, h]; rfl
structure Ct where
 n : Int
abbrev Ct.enc (t : Ct) : D := .agg [.int .i64 t.n]
abbrev Ct.encL (l : List Ct) : List D := l.map Ct.enc
theorem Ct.encL_eq (l : List Ct) : Ct.encL l = l.map Ct.enc := rfl
theorem Ct.enc_eq (t : Ct) : t.enc = .agg [.int .i64 t.n] := rfl
theorem Ct.encL_length (l : List Ct) : (Ct.encL l).length = l.length := by simp
theorem Ct.encL_get {l : List Ct} {i : Nat} {t : Ct} (h : l[i]? = some t) : (Ct.encL l)[i]? = some (.agg [.int .i64 t.n]) := by rw [Ct.encL_eq, List.getElem?_map, h]; rfl
structure Cl where
 dependent : (List Int)
 premises : (List Int)
abbrev Cl.enc (t : Cl) : D := .agg [.sl 1 (List.map (D.int .i64) t.dependent), .sl 1 (List.map (D.int .i64) t.premises)]
abbrev Cl.encL (l : List Cl) : List D := l.map Cl.enc
theorem Cl.encL_eq (l : List Cl) : Cl.encL l = l.map Cl.enc := rfl
theorem Cl.enc_eq (t : Cl) : t.enc = .agg [.sl 1 (List.map (D.int .i64) t.dependent), .sl 1 (List.map (D.int .i64) t.premises)] := rfl
theorem Cl.encL_length (l : List Cl) : (Cl.encL l).length = l.length := by simp
theorem Cl.encL_get {l : List Cl} {i : Nat} {t : Cl} (h : l[i]? = some t) : (Cl.encL l)[i]? = some (.agg [.sl 1 (List.map (D.int .i64) t.dependent), .sl 1 (List.map (D.int .i64) t.premises)]) := by rw [Cl.encL_eq, List.getElem?_map, h]; rfl
inductive Sm where
 | mk (args : (List Sm)) (con : Int)
def Sm.args : Sm → (List Sm) | .mk x _ => x
def Sm.con : Sm → Int | .mk _ x => x
mutual
def Sm.enc : Sm → D
 | .mk args con => .agg [.sl 2 (Sm.encL args), .int .i64 con]
def Sm.encL : List Sm → List D
 | [] => []
 | t :: ts => t.enc :: Sm.encL ts
 end
theorem Sm.encL_eq : ∀ (l : List Sm), Sm.encL l = l.map Sm.enc
 | [] => rfl
 | t :: ts => by simp only [Sm.encL, List.map_cons, Sm.encL_eq ts]
theorem Sm.enc_eq (t : Sm) : t.enc = .agg [.sl 2 (Sm.encL t.args), .int .i64 t.con] := by cases t; rfl
theorem Sm.encL_length (l : List Sm) : (Sm.encL l).length = l.length := by simp [Sm.encL_eq]
theorem Sm.encL_get {l : List Sm} {i : Nat} {t : Sm} (h : l[i]? = some t) : (Sm.encL l)[i]? = some (.agg [.sl 2 (Sm.encL t.args), .int .i64 t.con]) := by
 rw [Sm.encL_eq, List.getElem?_map, h]; cases t; rfl
theorem Od.enc_eq (t : Od) : t.enc = .agg [.int .i64 t.op, .int .i64 t.n, .sl 3 (Od.encL t.parts)] := by cases t; rfl
mutual
def R03_Split : Nat → Tm → Option ((List Tm) × Tm)
 | 0, _ => none
 | n + 1, v1 =>
  R03_Split_L1 n v1 ([])
def R03_Split_L1 : Nat → Tm → (List Tm) → Option ((List Tm) × Tm)
 | 0, _, _ => none
 | n + 1, v3, v5 =>
  cond (v3.op == 2) (
  (idx v3.args 0).bind (fun v8 =>
  cond (decide ((Tm.encL (v5 ++ [v8])).length ≤ 1000000)) (
  (idx v3.args 1).bind (fun v16 =>
  R03_Split_L1 n v16 (v5 ++ [v8]))) none)) (
  some (v5, v3))
 end
theorem qds (n : Nat) (v1 : Tm) (a2 : OA) (c2 : Nat) (r : (List Tm) × Tm) (hr : R03_Split n v1 = some r) : Pure Tryz.prog (.val (.fn (.func 186) [] [])) [(.agg [(iS v1.op), (iS v1.hd), (iS v1.n), (tU v1.args a2 c2)])] [(tQ v1.args a2 c2)] (fun r' out => ∃ (b1 : OA) (d1 : Nat), ∃ (b2 : OA) (d2 : Nat), r' = (.tup [(tU r.1 b1 d1), (.agg [(iS r.2.op), (iS r.2.hd), (iS r.2.n), (tU r.2.args b2 d2)])]) ∧ out = [(tQ r.1 b1 d1), (tQ r.2.args b2 d2)]) := by
 rcases n with _ | n
 ·exact qe hr
 rw [R03_Split.eq_2] at hr
 refine qb (N := 21) (m := 0) (dt := drawsOf [(5, .node [0, 1, 2] [(3, .leaf [])], [3], [])]) [] ttOK func186 rfl call186 ntmps186 rfl rfl rfl mixed (by kernel_rfl) ?_
 refine AtLoop.mk ⟨Nat × Tm × Option Addr × Nat × (List Tm) × Option Addr × Nat, fun x => [(1, (.loc 0 0)), (3, (.loc 1 0)), (4, (tU x.2.2.2.2.1 x.2.2.2.2.2.1 x.2.2.2.2.2.2))], fun x => ⟨[.cells 41 [(iS x.2.1.op), (iS x.2.1.hd), (iS x.2.1.n), (tU x.2.1.args x.2.2.1 x.2.2.2.1)], .cells 41 [(iS 0), (iS 0), (iS 0), (.v (.slice none 0 0))]], [⟨.slice x.2.2.2.2.2.1 ((Tm.encL x.2.2.2.2.1).length) x.2.2.2.2.2.2, 4, 41, (Tm.encL x.2.2.2.2.1)⟩], [(tQ x.2.1.args x.2.2.1 x.2.2.2.1), (tQ v1.args a2 c2)]⟩, fun x => R03_Split_L1 x.1 x.2.1 x.2.2.2.2.1 = some r, fun x => x.1, (n, v1, a2, c2, [], none, 0), hr, ⟨rfl, rfl, rfl, trivial⟩, (StLe.gen 2 [.nil 4 41] [.old 0, .old 0] rfl rfl rfl rfl rfl rfl rfl), fun x _ => ⟨rfl, rfl⟩, ?_⟩
 rintro ⟨n, v3, a4, c4, v5, a6, c6⟩ HH
 have hr : R03_Split_L1 n v3 v5 = some r := HH
 rcases n with _ | n
 ·exact qe hr
 rw [R03_Split_L1.eq_2] at hr
 refine AtIf.mk (fun h7 => ?_) (fun h7 => ?_)
 ·replace hr := qg h7 hr
  obtain ⟨v8, h9, hr⟩ := bind_some hr
  obtain ⟨h10, h11⟩ := qi h9
  refine qh ttOK 0 rfl rfl rfl rfl h10 (Tm.encL_get h11) ?_
  intro a12 c12 _ _
  refine qk (n := 1) ttOK 48 [.agg [.int .i64 v8.op, .int .i64 v8.hd, .int .i64 v8.n, .sl 4 (Tm.encL v8.args)]] (ds' := (Tm.encL ([v8]))) rfl (by kernel_rfl) ⟨⟨rfl, rfl, rfl, ⟨[(iS v8.op)], _, rfl, rfl, ⟨[(iS v8.hd)], _, rfl, rfl, ⟨[(iS v8.n)], _, rfl, rfl, ⟨[(tU v8.args a12 c12)], _, rfl, (.inl ⟨_, rfl, ql (j := 2) rfl⟩), rfl⟩⟩⟩⟩⟩, trivial⟩ rfl (by simp only [Tm.encL_eq, List.map_cons, List.map_nil, Tm.enc_eq] <;> rfl) (by decide) (by decide) ?_
  intro a13
  obtain ⟨h14, hr⟩ := qj hr
  refine qm (ds' := (Tm.encL (v5 ++ [v8]))) ttOK 48 0 3 rfl (by kernel_rfl) rfl rfl rfl rfl (by simp only [Tm.encL_eq, List.map_append]) h14 (by decide) ?_
  intro a15 c15
  obtain ⟨v16, h17, hr⟩ := bind_some hr
  obtain ⟨h18, h19⟩ := qi h17
  refine qh ttOK 0 rfl rfl rfl rfl h18 (Tm.encL_get h19) ?_
  intro a20 c20 _ _
  exact ⟨(n, v16, a20, c20, (v5 ++ [v8]), a15, c15), hr, Nat.lt_succ_self _, ⟨rfl, rfl, rfl, trivial⟩, (StLe.gen 2 [.old 0] [.old 4, .old 1] rfl rfl rfl rfl rfl rfl rfl)⟩
 ·replace hr := qf h7 hr
  replace hr := osi hr; subst hr
  exact qa [.froz 0, .old 0] [(tQ v5 a6 c6), (tQ v3.args a4 c4)] rfl rfl ⟨a6, c6, a4, c4, rfl, rfl⟩
def R05_Target : Nat → (List Dc) → Int → Option (Int)
 | 0, _, _ => none
 | n + 1, v1, v3 =>
  (idx v1 v3).bind (fun v4 =>
  (R03_Split n v4.cls).bind (fun v9 =>
  cond (v9.2.op == 1) (
  some (v3)) (
  some (v9.2.n))))
def R06_longer : Nat → (List Tm) → Tm → Option ((List Tm) × Int)
 | 0, _, _ => none
 | n + 1, v1, v3 =>
  cond (decide (((Tm.encL v1).length : Int) ≥ 30)) (
  some ([], 5)) (
  cond (decide ((Tm.encL v1).length ≤ 1000000)) (
  cond (decide ((Tm.encL (v1 ++ [v3])).length ≤ 1000000)) (
  some ((v1 ++ [v3]), 0)) none) none)
theorem qfb (n : Nat) (v1 : (List Tm)) (v3 : Tm) (a2 : OA) (c2 : Nat) (a4 : OA) (c4 : Nat) (r : (List Tm) × Int) (hr : R06_longer n v1 v3 = some r) : Pure Tryz.prog (.val (.fn (.func 158) [] [])) [(tU v1 a2 c2), (.agg [(iS v3.op), (iS v3.hd), (iS v3.n), (tU v3.args a4 c4)])] [(tQ v1 a2 c2), (tQ v3.args a4 c4)] (fun r' out => ∃ (b1 : OA) (d1 : Nat), r' = (.tup [(tU r.1 b1 d1), (iS r.2)]) ∧ out = [(tQ r.1 b1 d1)]) := by
 rcases n with _ | n
 ·exact qe hr
 rw [R06_longer.eq_2] at hr
 refine qb (N := 18) (m := 0) (dt := fun _ => none) [] ttOK func158 rfl call158 ntmps158 rfl rfl rfl mixed (by kernel_rfl) ?_
 refine AtIf.mk (fun h5 => ?_) (fun h5 => ?_)
 ·replace hr := qg h5 hr
  replace hr := osi hr; subst hr
  exact qa [.nil 4] [(.slice none 0 0, .sl 4 [])] rfl rfl ⟨none, 0, rfl, rfl⟩
 ·replace hr := qf h5 hr
  obtain ⟨h6, hr⟩ := qj hr
  refine AtSem.le (S' := ⟨[.cells 41 [(iS v3.op), (iS v3.hd), (iS v3.n), (tU v3.args a4 c4)]], [⟨.slice none 0 0, 4, 41, []⟩], [(tQ v1 a2 c2), (tQ v3.args a4 c4)]⟩) (StLe.gen 1 [.nil 4 41] [.old 0, .old 1] rfl rfl rfl rfl rfl rfl rfl) rfl ?_
  refine qm (ds' := (Tm.encL v1)) ttOK 48 0 0 rfl (by kernel_rfl) rfl rfl rfl rfl (List.nil_append _).symm h6 (by decide) ?_
  intro a7 c7
  refine qk (n := 1) ttOK 48 [.agg [.int .i64 v3.op, .int .i64 v3.hd, .int .i64 v3.n, .sl 4 (Tm.encL v3.args)]] (ds' := (Tm.encL ([v3]))) rfl (by kernel_rfl) ⟨⟨rfl, rfl, rfl, ⟨[(iS v3.op)], _, rfl, rfl, ⟨[(iS v3.hd)], _, rfl, rfl, ⟨[(iS v3.n)], _, rfl, rfl, ⟨[(tU v3.args a4 c4)], _, rfl, (.inl ⟨_, rfl, ql (j := 1) rfl⟩), rfl⟩⟩⟩⟩⟩, trivial⟩ rfl (by simp only [Tm.encL_eq, List.map_cons, List.map_nil, Tm.enc_eq] <;> rfl) (by decide) (by decide) ?_
  intro a8
  obtain ⟨h9, hr⟩ := qj hr
  refine qm (ds' := (Tm.encL (v1 ++ [v3]))) ttOK 48 0 2 rfl (by kernel_rfl) rfl rfl rfl rfl (by simp only [Tm.encL_eq, List.map_append]) h9 (by decide) ?_
  intro a10 c10
  replace hr := osi hr; subst hr
  exact qa [.froz 0] [(tQ (v1 ++ [v3]) a10 c10)] rfl rfl ⟨a10, c10, rfl, rfl⟩
mutual
def R04_list : Nat → (List Tm) → Option (Bool)
 | 0, _ => none
 | n + 1, v1 =>
  R04_list_L1 n v1 0
def R04_list_L1 : Nat → (List Tm) → Int → Option (Bool)
 | 0, _, _ => none
 | n + 1, v1, v3 =>
  cond ((decide (v3 < ((Tm.encL v1).length : Int))) && (decide (((Tm.encL v1).length : Int) ≤ 600))) (
  (idx v1 v3).bind (fun v5 =>
  cond (!(refProper v5)) (
  some (false)) (
  R04_list_L1 n v1 (IntKind.i64.wrap (v3 + 1))))) (
  some ((decide (((Tm.encL v1).length : Int) ≤ 600))))
 end
theorem qmy (n : Nat) (v1 : (List Tm)) (a2 : OA) (c2 : Nat) (r : Bool) (hr : R04_list n v1 = some r) : Pure Tryz.prog (.val (.fn (.func 229) [] [])) [(tU v1 a2 c2)] [(tQ v1 a2 c2)] (fun r' out => r' = (bS r) ∧ out = []) := by
 rcases n with _ | n
 ·exact qe hr
 rw [R04_list.eq_2] at hr
 refine qb (N := 24) (m := 0) (dt := fun _ => none) [] ttOK func229 rfl call229 ntmps229 rfl rfl rfl mixed (by kernel_rfl) ?_
 refine AtLoop.mk ⟨Nat × Int, fun x => [(0, (tU v1 a2 c2)), (3, (iS x.2))], fun x => ⟨[], [], [(tQ v1 a2 c2)]⟩, fun x => R04_list_L1 x.1 v1 x.2 = some r, fun x => x.1, (n, 0), hr, ⟨rfl, rfl, trivial⟩, (StLe.gen 0 [] [.old 0] rfl rfl rfl rfl rfl rfl rfl), fun x _ => ⟨rfl, rfl⟩, ?_⟩
 rintro ⟨n, v3⟩ HH
 have hr : R04_list_L1 n v1 v3 = some r := HH
 rcases n with _ | n
 ·exact qe hr
 rw [R04_list_L1.eq_2] at hr
 refine AtIf.mk (fun h4 => ?_) (fun h4 => ?_)
 ·replace hr := qg h4 hr
  obtain ⟨v5, h6, hr⟩ := bind_some hr
  obtain ⟨h7, h8⟩ := qi h6
  refine qh ttOK 0 rfl rfl rfl rfl h7 (Tm.encL_get h8) ?_
  intro a9 c9 _ _
  refine (qam v5 a9 c9).atR [1] rfl rfl rfl ?_
  rintro _ _ ⟨rfl, rfl⟩
  refine AtIf.mk (fun h10 => ?_) (fun h10 => ?_)
  ·replace hr := qg h10 hr
   replace hr := osi hr; subst hr
   exact qa [] [] rfl rfl ⟨rfl, rfl⟩
  ·replace hr := qf h10 hr
   exact ⟨(n, (IntKind.i64.wrap (v3 + 1))), hr, Nat.lt_succ_self _, ⟨rfl, rfl, trivial⟩, (StLe.gen 0 [] [.old 0] rfl rfl rfl rfl rfl rfl rfl)⟩
 ·replace hr := qf h4 hr
  replace hr := osi hr; subst hr
  exact qa [] [] rfl rfl ⟨rfl, rfl⟩
def R03_Simple : Nat → Tm → Option (Sm × Bool)
 | 0, _ => none
 | n + 1, v1 =>
  cond ((v1.op == 4) && (v1.hd == 2)) (
  some ((Sm.mk ([]) v1.n), true)) (
  cond (v1.op == 2) (
  (idx v1.args 0).bind (fun v5 =>
  (R03_Simple n v5).bind (fun v10 =>
  (idx v1.args 1).bind (fun v13 =>
  (R03_Simple n v13).bind (fun v18 =>
  cond ((!v10.2) || (!v18.2)) (
  some ((Sm.mk ([]) 0), false)) (
  cond (decide ((Sm.encL ([v10.1] ++ v18.1.args)).length ≤ 1000000)) (
  some ((Sm.mk ([v10.1] ++ v18.1.args) v18.1.con), true)) none)))))) (
  some ((Sm.mk ([]) 0), false)))
theorem qih : ∀ (N : Nat), (∀ (n : Nat), n ≤ N → ∀ (v1 : Tm) (a2 : OA) (c2 : Nat) (r : Sm × Bool), R03_Simple n v1 = some r → Pure Tryz.prog (.val (.fn (.func 153) [] [])) [(.agg [(iS v1.op), (iS v1.hd), (iS v1.n), (tU v1.args a2 c2)])] [(tQ v1.args a2 c2)] (fun r' out => ∃ (b1 : OA) (d1 : Nat), r' = (.tup [(.agg [(.v (.slice b1 ((Sm.encL r.1.args).length) d1)), (iS r.1.con)]), (bS r.2)]) ∧ out = [(.slice b1 ((Sm.encL r.1.args).length) d1, .sl 2 (Sm.encL r.1.args))])) := by
 intro N
 induction N with
 | zero =>
  intro n hn v1 a2 c2 r hr; obtain rfl : n = 0 := (by omega); exact qe hr
 | succ N ih =>
  intro n hn v1 a2 c2 r hr
  rcases n with _ | n
  ·exact qe hr
  replace hn : n ≤ N := by omega
  rw [R03_Simple.eq_2] at hr
  refine qb (N := 59) (m := 0) (dt := fun _ => none) [] ttOK func153 rfl call153 ntmps153 rfl rfl rfl mixed (by kernel_rfl) ?_
  refine AtIf.mk (fun h3 => ?_) (fun h3 => ?_)
  ·replace hr := qg h3 hr
   replace hr := osi hr; subst hr
   exact qa [.nil 2] [(.slice none 0 0, .sl 2 [])] rfl rfl ⟨none, 0, rfl, rfl⟩
  ·replace hr := qf h3 hr
   refine AtIf.mk (fun h4 => ?_) (fun h4 => ?_)
   ·replace hr := qg h4 hr
    obtain ⟨v5, h6, hr⟩ := bind_some hr
    obtain ⟨h7, h8⟩ := qi h6
    refine qh ttOK 0 rfl rfl rfl rfl h7 (Tm.encL_get h8) ?_
    intro a9 c9 _ _
    obtain ⟨v10, h11, hr⟩ := bind_some hr
    refine (ih n (by omega) v5 a9 c9 _ h11).atR [1] rfl rfl rfl ?_
    rintro _ _ ⟨a12, c12, rfl, rfl⟩
    obtain ⟨v13, h14, hr⟩ := bind_some hr
    obtain ⟨h15, h16⟩ := qi h14
    refine qh ttOK 0 rfl rfl rfl rfl h15 (Tm.encL_get h16) ?_
    intro a17 c17 _ _
    obtain ⟨v18, h19, hr⟩ := bind_some hr
    refine (ih n (by omega) v13 a17 c17 _ h19).atR [3] rfl rfl rfl ?_
    rintro _ _ ⟨a20, c20, rfl, rfl⟩
    refine AtIf.mk (fun h21 => ?_) (fun h21 => ?_)
    ·replace hr := qg h21 hr
     replace hr := osi hr; subst hr
     exact qa [.nil 2] [(.slice none 0 0, .sl 2 [])] rfl rfl ⟨none, 0, rfl, rfl⟩
    ·replace hr := qf h21 hr
     refine qga (n := 1) ttOK 32 [.agg [.sl 2 (Sm.encL v10.1.args), .int .i64 v10.1.con]] (ds' := (Sm.encL ([v10.1]))) rfl (by kernel_rfl) ⟨⟨rfl, rfl, rfl, ⟨[(.v (.slice a12 ((Sm.encL v10.1.args).length) c12))], _, rfl, (.inl ⟨_, rfl, ql (j := 2) rfl⟩), ⟨[(iS v10.1.con)], _, rfl, rfl, rfl⟩⟩⟩, trivial⟩ rfl (by simp only [Sm.encL_eq, List.map_cons, List.map_nil, Sm.enc_eq] <;> rfl) (by decide) (by decide) ?_
     intro a22
     obtain ⟨h23, hr⟩ := qj hr
     refine qm (ds' := (Sm.encL ([v10.1] ++ v18.1.args))) ttOK 32 0 4 rfl (by kernel_rfl) rfl rfl rfl rfl (by simp only [Sm.encL_eq, List.map_append]) h23 (by decide) ?_
     intro a24 c24
     replace hr := osi hr; subst hr
     exact qa [.froz 0] [(.slice a24 ((Sm.encL ([v10.1] ++ v18.1.args)).length) c24, .sl 2 (Sm.encL ([v10.1] ++ v18.1.args)))] rfl rfl ⟨a24, c24, rfl, rfl⟩
   ·replace hr := qf h4 hr
    replace hr := osi hr; subst hr
    exact qa [.nil 2] [(.slice none 0 0, .sl 2 [])] rfl rfl ⟨none, 0, rfl, rfl⟩
theorem qe7 (n : Nat) (v1 : Tm) (a2 : OA) (c2 : Nat) (r : Sm × Bool) (hr : R03_Simple n v1 = some r) : Pure Tryz.prog (.val (.fn (.func 153) [] [])) [(.agg [(iS v1.op), (iS v1.hd), (iS v1.n), (tU v1.args a2 c2)])] [(tQ v1.args a2 c2)] (fun r' out => ∃ (b1 : OA) (d1 : Nat), r' = (.tup [(.agg [(.v (.slice b1 ((Sm.encL r.1.args).length) d1)), (iS r.1.con)]), (bS r.2)]) ∧ out = [(.slice b1 ((Sm.encL r.1.args).length) d1, .sl 2 (Sm.encL r.1.args))]) := (qih n) n (Nat.le_refl _) v1 a2 c2 r hr
mutual
def R04_constants : Nat → Sm → Int → Option (Int)
 | 0, _, _ => none
 | n + 1, v1, v3 =>
  cond ((decide (v1.con < 0)) || (decide (v1.con > 9999))) (
  some ((-1))) (
  R04_constants_L1 n v1 v3 1 0)
def R04_constants_L1 : Nat → Sm → Int → Int → Int → Option (Int)
 | 0, _, _, _, _ => none
 | n + 1, v1, v3, v5, v6 =>
  cond ((decide (v6 < ((Sm.encL v1.args).length : Int))) && (decide (v5 ≤ v3))) (
  (idx v1.args v6).bind (fun v8 =>
  (R04_constants n v8 (IntKind.i64.wrap (v3 - v5))).bind (fun v13 =>
  cond (decide (v13 < 0)) (
  some ((-1))) (
  R04_constants_L1 n v1 v3 (IntKind.i64.wrap (v5 + v13)) (IntKind.i64.wrap (v6 + 1)))))) (
  some ((if (IntKind.i64.wrap (v3 + 1)) < v5 then (IntKind.i64.wrap (v3 + 1)) else v5)))
 end
theorem qf7 : ∀ (N : Nat), (∀ (n : Nat), n ≤ N → ∀ (v1 : Sm) (v3 : Int) (a2 : OA) (c2 : Nat) (r : Int), R04_constants n v1 v3 = some r → Pure Tryz.prog (.val (.fn (.func 249) [] [])) [(.agg [(.v (.slice a2 ((Sm.encL v1.args).length) c2)), (iS v1.con)]), (iS v3)] [(.slice a2 ((Sm.encL v1.args).length) c2, .sl 2 (Sm.encL v1.args))] (fun r' out => r' = (iS r) ∧ out = [])) := by
 intro N
 induction N with
 | zero =>
  intro n hn v1 v3 a2 c2 r hr; obtain rfl : n = 0 := (by omega); exact qe hr
 | succ N ih =>
  intro n hn v1 v3 a2 c2 r hr
  rcases n with _ | n
  ·exact qe hr
  replace hn : n ≤ N := by omega
  rw [R04_constants.eq_2] at hr
  refine qb (N := 46) (m := 0) (dt := fun _ => none) [] ttOK func249 rfl call249 ntmps249 rfl rfl rfl mixed (by kernel_rfl) ?_
  refine AtIf.mk (fun h4 => ?_) (fun h4 => ?_)
  ·replace hr := qg h4 hr
   replace hr := osi hr; subst hr
   exact qa [] [] rfl rfl ⟨rfl, rfl⟩
  ·replace hr := qf h4 hr
   refine AtLoop.mk ⟨Nat × Int × Int, fun x => [(1, (iS v3)), (2, (.loc 0 0)), (5, (iS x.2.1)), (6, (iS x.2.2))], fun x => ⟨[.cells 224 [(.v (.slice a2 ((Sm.encL v1.args).length) c2)), (iS v1.con)]], [], [(.slice a2 ((Sm.encL v1.args).length) c2, .sl 2 (Sm.encL v1.args))]⟩, fun x => x.1 ≤ N ∧ R04_constants_L1 x.1 v1 v3 x.2.1 x.2.2 = some r, fun x => x.1, (n, 1, 0), ⟨by omega, hr⟩, ⟨rfl, rfl, rfl, rfl, trivial⟩, (StLe.gen 1 [] [.old 0] rfl rfl rfl rfl rfl rfl rfl), fun x _ => ⟨rfl, rfl⟩, ?_⟩
   rintro ⟨n, v5, v6⟩ HH
   obtain ⟨hn, hr⟩ : n ≤ N ∧ R04_constants_L1 n v1 v3 v5 v6 = some r := HH
   rcases n with _ | n
   ·exact qe hr
   rw [R04_constants_L1.eq_2] at hr
   refine AtIf.mk (fun h7 => ?_) (fun h7 => ?_)
   ·replace hr := qg h7 hr
    obtain ⟨v8, h9, hr⟩ := bind_some hr
    obtain ⟨h10, h11⟩ := qi h9
    refine qh ttOK 0 rfl rfl rfl rfl h10 (Sm.encL_get h11) ?_
    intro a12 c12 _ _
    obtain ⟨v13, h14, hr⟩ := bind_some hr
    refine (ih n (by omega) v8 (IntKind.i64.wrap (v3 - v5)) a12 c12 _ h14).atR [1] rfl rfl rfl ?_
    rintro _ _ ⟨rfl, rfl⟩
    refine AtIf.mk (fun h15 => ?_) (fun h15 => ?_)
    ·replace hr := qg h15 hr
     replace hr := osi hr; subst hr
     exact qa [] [] rfl rfl ⟨rfl, rfl⟩
    ·replace hr := qf h15 hr
     exact ⟨(n, (IntKind.i64.wrap (v5 + v13)), (IntKind.i64.wrap (v6 + 1))), ⟨by omega, hr⟩, Nat.lt_succ_self _, ⟨rfl, rfl, rfl, rfl, trivial⟩, (StLe.gen 1 [] [.old 0] rfl rfl rfl rfl rfl rfl rfl)⟩
   ·replace hr := qf h7 hr
    refine at_min ?_
    replace hr := osi hr; subst hr
    exact qa [] [] rfl rfl ⟨rfl, rfl⟩
theorem qgw (n : Nat) (v1 : Sm) (v3 : Int) (a2 : OA) (c2 : Nat) (r : Int) (hr : R04_constants n v1 v3 = some r) : Pure Tryz.prog (.val (.fn (.func 249) [] [])) [(.agg [(.v (.slice a2 ((Sm.encL v1.args).length) c2)), (iS v1.con)]), (iS v3)] [(.slice a2 ((Sm.encL v1.args).length) c2, .sl 2 (Sm.encL v1.args))] (fun r' out => r' = (iS r) ∧ out = []) := (qf7 n) n (Nat.le_refl _) v1 v3 a2 c2 r hr
def R04_Small : Nat → Sm → Option (Bool)
 | 0, _ => none
 | n + 1, v1 =>
  (R04_constants n v1 600).bind (fun v3 =>
  some (((decide (v3 ≥ 1)) && (decide (v3 ≤ 600)))))
theorem qfx (n : Nat) (v1 : Sm) (a2 : OA) (c2 : Nat) (r : Bool) (hr : R04_Small n v1 = some r) : Pure Tryz.prog (.val (.fn (.func 174) [] [])) [(.agg [(.v (.slice a2 ((Sm.encL v1.args).length) c2)), (iS v1.con)])] [(.slice a2 ((Sm.encL v1.args).length) c2, .sl 2 (Sm.encL v1.args))] (fun r' out => r' = (bS r) ∧ out = []) := by
 rcases n with _ | n
 ·exact qe hr
 rw [R04_Small.eq_2] at hr
 refine qb (N := 12) (m := 0) (dt := fun _ => none) [] ttOK func174 rfl call174 ntmps174 rfl rfl rfl mixed (by kernel_rfl) ?_
 obtain ⟨v3, h4, hr⟩ := bind_some hr
 refine (qgw n v1 600 a2 c2 _ h4).atR [0] rfl rfl rfl ?_
 rintro _ _ ⟨rfl, rfl⟩
 replace hr := osi hr; subst hr
 exact qa [] [] rfl rfl ⟨rfl, rfl⟩
def R04_whole : Nat → Tm → Option (Tm × Int)
 | 0, _ => none
 | n + 1, v1 =>
  cond (!(refProper v1)) (
  some ((Tm.mk 0 0 0 ([])), 5)) (
  some (v1, 0))
theorem qck (n : Nat) (v1 : Tm) (a2 : OA) (c2 : Nat) (r : Tm × Int) (hr : R04_whole n v1 = some r) : Pure Tryz.prog (.val (.fn (.func 311) [] [])) [(.agg [(iS v1.op), (iS v1.hd), (iS v1.n), (tU v1.args a2 c2)])] [(tQ v1.args a2 c2)] (fun r' out => ∃ (b1 : OA) (d1 : Nat), r' = (.tup [(.agg [(iS r.1.op), (iS r.1.hd), (iS r.1.n), (tU r.1.args b1 d1)]), (iS r.2)]) ∧ out = [(tQ r.1.args b1 d1)]) := by
 rcases n with _ | n
 ·exact qe hr
 rw [R04_whole.eq_2] at hr
 refine qb (N := 9) (m := 0) (dt := fun _ => none) [] ttOK func311 rfl call311 ntmps311 rfl rfl rfl mixed (by kernel_rfl) ?_
 refine (qam v1 a2 c2).atR [0] rfl rfl rfl ?_
 rintro _ _ ⟨rfl, rfl⟩
 refine AtIf.mk (fun h3 => ?_) (fun h3 => ?_)
 ·replace hr := qg h3 hr
  replace hr := osi hr; subst hr
  exact qa [.nil 4] [(.slice none 0 0, .sl 4 [])] rfl rfl ⟨none, 0, rfl, rfl⟩
 ·replace hr := qf h3 hr
  replace hr := osi hr; subst hr
  exact qa [.old 0] [(tQ v1.args a2 c2)] rfl rfl ⟨a2, c2, rfl, rfl⟩
mutual
def R04_moved : Nat → Tm → Int → Int → Option (Tm)
 | 0, _, _, _ => none
 | n + 1, v1, v3, v4 =>
  cond (((v1.op == 4) && (v1.hd == 1)) && (decide (v1.n ≥ v4))) (
  R04_moved_L1 n v1 v3 v4 (Tm.mk v1.op v1.hd (IntKind.i64.wrap (v1.n + v3)) ([])) 0) (
  R04_moved_L1 n v1 v3 v4 (Tm.mk v1.op v1.hd v1.n ([])) 0)
def R04_moved_L1 : Nat → Tm → Int → Int → Tm → Int → Option (Tm)
 | 0, _, _, _, _, _ => none
 | n + 1, v1, v3, v4, v6, v8 =>
  cond (decide (v8 < ((Tm.encL v1.args).length : Int))) (
  cond ((v1.op == 3) || ((v1.op == 2) && (v8 == 1))) (
  (idx v1.args v8).bind (fun v11 =>
  (R04_moved n v11 v3 (IntKind.i64.wrap (v4 + 1))).bind (fun v16 =>
  cond (decide ((Tm.encL (v6.args ++ [v16])).length ≤ 1000000)) (
  R04_moved_L1 n v1 v3 v4 (Tm.mk v6.op v6.hd v6.n (v6.args ++ [v16])) (IntKind.i64.wrap (v8 + 1))) none))) (
  (idx v1.args v8).bind (fun v22 =>
  (R04_moved n v22 v3 (IntKind.i64.wrap (v4 + 0))).bind (fun v27 =>
  cond (decide ((Tm.encL (v6.args ++ [v27])).length ≤ 1000000)) (
  R04_moved_L1 n v1 v3 v4 (Tm.mk v6.op v6.hd v6.n (v6.args ++ [v27])) (IntKind.i64.wrap (v8 + 1))) none)))) (
  some (v6))
 end
theorem qjl : ∀ (N : Nat), (∀ (n : Nat), n ≤ N → ∀ (v1 : Tm) (v3 : Int) (v4 : Int) (a2 : OA) (c2 : Nat) (r : Tm), R04_moved n v1 v3 v4 = some r → Pure Tryz.prog (.val (.fn (.func 374) [] [])) [(.agg [(iS v1.op), (iS v1.hd), (iS v1.n), (tU v1.args a2 c2)]), (iS v3), (iS v4)] [(tQ v1.args a2 c2)] (fun r' out => ∃ (b1 : OA) (d1 : Nat), r' = (.agg [(iS r.op), (iS r.hd), (iS r.n), (tU r.args b1 d1)]) ∧ out = [(tQ r.args b1 d1)])) := by
 intro N
 induction N with
 | zero =>
  intro n hn v1 v3 v4 a2 c2 r hr; obtain rfl : n = 0 := (by omega); exact qe hr
 | succ N ih =>
  intro n hn v1 v3 v4 a2 c2 r hr
  rcases n with _ | n
  ·exact qe hr
  replace hn : n ≤ N := by omega
  rw [R04_moved.eq_2] at hr
  refine qb (N := 66) (m := 0) (dt := drawsOf [(11, .node [0, 1, 2, 3, 4, 5, 6, 7, 8, 9, 10] [(11, .node [] [(12, .node [] [(13, .node [14] [(15, .leaf [])])])])], [13, 15], [])]) [] ttOK func374 rfl call374 ntmps374 rfl rfl rfl mixed (by kernel_rfl) ?_
  refine AtIf.mk (fun h5 => ?_) (fun h5 => ?_)
  ·replace hr := qg h5 hr
   refine AtLoop.mk ⟨Nat × Tm × Option Addr × Nat × Int, fun x => [(1, (iS v3)), (2, (iS v4)), (3, (.loc 0 0)), (6, (.loc 1 0)), (7, (.loc 2 0)), (8, (iS x.2.2.2.2))], fun x => ⟨[.cells 41 [(iS v1.op), (iS v1.hd), (iS v1.n), (tU v1.args a2 c2)], .cells 41 [(iS 0), (iS 0), (iS 0), (.v (.slice none 0 0))], .cells 41 [(iS x.2.1.op), (iS x.2.1.hd), (iS x.2.1.n), (tU x.2.1.args x.2.2.1 x.2.2.2.1)]], [⟨.slice x.2.2.1 ((Tm.encL x.2.1.args).length) x.2.2.2.1, 4, 41, (Tm.encL x.2.1.args)⟩], [(tQ v1.args a2 c2)]⟩, fun x => x.1 ≤ N ∧ R04_moved_L1 x.1 v1 v3 v4 x.2.1 x.2.2.2.2 = some r, fun x => x.1, (n, (Tm.mk v1.op v1.hd (IntKind.i64.wrap (v1.n + v3)) ([])), none, 0, 0), ⟨by omega, hr⟩, ⟨rfl, rfl, rfl, rfl, rfl, rfl, trivial⟩, (StLe.gen 3 [.nil 4 41] [.old 0] rfl rfl rfl rfl rfl rfl rfl), fun x _ => ⟨rfl, rfl⟩, ?_⟩
   rintro ⟨n, v6, a7, c7, v8⟩ HH
   obtain ⟨hn, hr⟩ : n ≤ N ∧ R04_moved_L1 n v1 v3 v4 v6 v8 = some r := HH
   rcases n with _ | n
   ·exact qe hr
   rw [R04_moved_L1.eq_2] at hr
   refine AtIf.mk (fun h9 => ?_) (fun h9 => ?_)
   ·replace hr := qg h9 hr
    refine AtIf.mk (fun h10 => ?_) (fun h10 => ?_)
    ·replace hr := qg h10 hr
     obtain ⟨v11, h12, hr⟩ := bind_some hr
     obtain ⟨h13, h14⟩ := qi h12
     refine qh ttOK 0 rfl rfl rfl rfl h13 (Tm.encL_get h14) ?_
     intro a15 c15 _ _
     obtain ⟨v16, h17, hr⟩ := bind_some hr
     refine (ih n (by omega) v11 v3 (IntKind.i64.wrap (v4 + 1)) a15 c15 _ h17).atR [1] rfl rfl rfl ?_
     rintro _ _ ⟨a18, c18, rfl, rfl⟩
     refine ⟨fun _ _ h => h, ?_⟩
     refine qk (n := 1) ttOK 48 [.agg [.int .i64 v16.op, .int .i64 v16.hd, .int .i64 v16.n, .sl 4 (Tm.encL v16.args)]] (ds' := (Tm.encL ([v16]))) rfl (by kernel_rfl) ⟨⟨rfl, rfl, rfl, ⟨[(iS v16.op)], _, rfl, rfl, ⟨[(iS v16.hd)], _, rfl, rfl, ⟨[(iS v16.n)], _, rfl, rfl, ⟨[(tU v16.args a18 c18)], _, rfl, (.inl ⟨_, rfl, ql (j := 2) rfl⟩), rfl⟩⟩⟩⟩⟩, trivial⟩ rfl (by simp only [Tm.encL_eq, List.map_cons, List.map_nil, Tm.enc_eq] <;> rfl) (by decide) (by decide) ?_
     intro a19
     refine ⟨fun _ _ h => h, ?_⟩
     obtain ⟨h20, hr⟩ := qj hr
     refine qm (ds' := (Tm.encL (v6.args ++ [v16]))) ttOK 48 0 3 rfl (by kernel_rfl) rfl rfl rfl rfl (by simp only [Tm.encL_eq, List.map_append]) h20 (by decide) ?_
     intro a21 c21
     exact ⟨(n, (Tm.mk v6.op v6.hd v6.n (v6.args ++ [v16])), a21, c21, (IntKind.i64.wrap (v8 + 1))), ⟨by omega, hr⟩, Nat.lt_succ_self _, ⟨rfl, rfl, rfl, rfl, rfl, rfl, trivial⟩, (StLe.gen 3 [.old 0] [.old 0] rfl rfl rfl rfl rfl rfl rfl)⟩
    ·replace hr := qf h10 hr
     obtain ⟨v22, h23, hr⟩ := bind_some hr
     obtain ⟨h24, h25⟩ := qi h23
     refine qh ttOK 0 rfl rfl rfl rfl h24 (Tm.encL_get h25) ?_
     intro a26 c26 _ _
     obtain ⟨v27, h28, hr⟩ := bind_some hr
     refine (ih n (by omega) v22 v3 (IntKind.i64.wrap (v4 + 0)) a26 c26 _ h28).atR [1] rfl rfl rfl ?_
     rintro _ _ ⟨a29, c29, rfl, rfl⟩
     refine ⟨fun _ _ h => h, ?_⟩
     refine qk (n := 1) ttOK 48 [.agg [.int .i64 v27.op, .int .i64 v27.hd, .int .i64 v27.n, .sl 4 (Tm.encL v27.args)]] (ds' := (Tm.encL ([v27]))) rfl (by kernel_rfl) ⟨⟨rfl, rfl, rfl, ⟨[(iS v27.op)], _, rfl, rfl, ⟨[(iS v27.hd)], _, rfl, rfl, ⟨[(iS v27.n)], _, rfl, rfl, ⟨[(tU v27.args a29 c29)], _, rfl, (.inl ⟨_, rfl, ql (j := 2) rfl⟩), rfl⟩⟩⟩⟩⟩, trivial⟩ rfl (by simp only [Tm.encL_eq, List.map_cons, List.map_nil, Tm.enc_eq] <;> rfl) (by decide) (by decide) ?_
     intro a30
     refine ⟨fun _ _ h => h, ?_⟩
     obtain ⟨h31, hr⟩ := qj hr
     refine qm (ds' := (Tm.encL (v6.args ++ [v27]))) ttOK 48 0 3 rfl (by kernel_rfl) rfl rfl rfl rfl (by simp only [Tm.encL_eq, List.map_append]) h31 (by decide) ?_
     intro a32 c32
     exact ⟨(n, (Tm.mk v6.op v6.hd v6.n (v6.args ++ [v27])), a32, c32, (IntKind.i64.wrap (v8 + 1))), ⟨by omega, hr⟩, Nat.lt_succ_self _, ⟨rfl, rfl, rfl, rfl, rfl, rfl, trivial⟩, (StLe.gen 3 [.old 0] [.old 0] rfl rfl rfl rfl rfl rfl rfl)⟩
   ·replace hr := qf h9 hr
    replace hr := osi hr; subst hr
    exact qa [.froz 0] [(tQ v6.args a7 c7)] rfl rfl ⟨a7, c7, rfl, rfl⟩
  ·replace hr := qf h5 hr
   refine AtLoop.mk ⟨Nat × Tm × Option Addr × Nat × Int, fun x => [(1, (iS v3)), (2, (iS v4)), (3, (.loc 0 0)), (6, (.loc 1 0)), (7, (.loc 2 0)), (8, (iS x.2.2.2.2))], fun x => ⟨[.cells 41 [(iS v1.op), (iS v1.hd), (iS v1.n), (tU v1.args a2 c2)], .cells 41 [(iS 0), (iS 0), (iS 0), (.v (.slice none 0 0))], .cells 41 [(iS x.2.1.op), (iS x.2.1.hd), (iS x.2.1.n), (tU x.2.1.args x.2.2.1 x.2.2.2.1)]], [⟨.slice x.2.2.1 ((Tm.encL x.2.1.args).length) x.2.2.2.1, 4, 41, (Tm.encL x.2.1.args)⟩], [(tQ v1.args a2 c2)]⟩, fun x => x.1 ≤ N ∧ R04_moved_L1 x.1 v1 v3 v4 x.2.1 x.2.2.2.2 = some r, fun x => x.1, (n, (Tm.mk v1.op v1.hd v1.n ([])), none, 0, 0), ⟨by omega, hr⟩, ⟨rfl, rfl, rfl, rfl, rfl, rfl, trivial⟩, (StLe.gen 3 [.nil 4 41] [.old 0] rfl rfl rfl rfl rfl rfl rfl), fun x _ => ⟨rfl, rfl⟩, ?_⟩
   rintro ⟨n, v33, a34, c34, v35⟩ HH
   obtain ⟨hn, hr⟩ : n ≤ N ∧ R04_moved_L1 n v1 v3 v4 v33 v35 = some r := HH
   rcases n with _ | n
   ·exact qe hr
   rw [R04_moved_L1.eq_2] at hr
   refine AtIf.mk (fun h36 => ?_) (fun h36 => ?_)
   ·replace hr := qg h36 hr
    refine AtIf.mk (fun h37 => ?_) (fun h37 => ?_)
    ·replace hr := qg h37 hr
     obtain ⟨v38, h39, hr⟩ := bind_some hr
     obtain ⟨h40, h41⟩ := qi h39
     refine qh ttOK 0 rfl rfl rfl rfl h40 (Tm.encL_get h41) ?_
     intro a42 c42 _ _
     obtain ⟨v43, h44, hr⟩ := bind_some hr
     refine (ih n (by omega) v38 v3 (IntKind.i64.wrap (v4 + 1)) a42 c42 _ h44).atR [1] rfl rfl rfl ?_
     rintro _ _ ⟨a45, c45, rfl, rfl⟩
     refine ⟨fun _ _ h => h, ?_⟩
     refine qk (n := 1) ttOK 48 [.agg [.int .i64 v43.op, .int .i64 v43.hd, .int .i64 v43.n, .sl 4 (Tm.encL v43.args)]] (ds' := (Tm.encL ([v43]))) rfl (by kernel_rfl) ⟨⟨rfl, rfl, rfl, ⟨[(iS v43.op)], _, rfl, rfl, ⟨[(iS v43.hd)], _, rfl, rfl, ⟨[(iS v43.n)], _, rfl, rfl, ⟨[(tU v43.args a45 c45)], _, rfl, (.inl ⟨_, rfl, ql (j := 2) rfl⟩), rfl⟩⟩⟩⟩⟩, trivial⟩ rfl (by simp only [Tm.encL_eq, List.map_cons, List.map_nil, Tm.enc_eq] <;> rfl) (by decide) (by decide) ?_
     intro a46
     refine ⟨fun _ _ h => h, ?_⟩
     obtain ⟨h47, hr⟩ := qj hr
     refine qm (ds' := (Tm.encL (v33.args ++ [v43]))) ttOK 48 0 3 rfl (by kernel_rfl) rfl rfl rfl rfl (by simp only [Tm.encL_eq, List.map_append]) h47 (by decide) ?_
     intro a48 c48
     exact ⟨(n, (Tm.mk v33.op v33.hd v33.n (v33.args ++ [v43])), a48, c48, (IntKind.i64.wrap (v35 + 1))), ⟨by omega, hr⟩, Nat.lt_succ_self _, ⟨rfl, rfl, rfl, rfl, rfl, rfl, trivial⟩, (StLe.gen 3 [.old 0] [.old 0] rfl rfl rfl rfl rfl rfl rfl)⟩
    ·replace hr := qf h37 hr
     obtain ⟨v49, h50, hr⟩ := bind_some hr
     obtain ⟨h51, h52⟩ := qi h50
     refine qh ttOK 0 rfl rfl rfl rfl h51 (Tm.encL_get h52) ?_
     intro a53 c53 _ _
     obtain ⟨v54, h55, hr⟩ := bind_some hr
     refine (ih n (by omega) v49 v3 (IntKind.i64.wrap (v4 + 0)) a53 c53 _ h55).atR [1] rfl rfl rfl ?_
     rintro _ _ ⟨a56, c56, rfl, rfl⟩
     refine ⟨fun _ _ h => h, ?_⟩
     refine qk (n := 1) ttOK 48 [.agg [.int .i64 v54.op, .int .i64 v54.hd, .int .i64 v54.n, .sl 4 (Tm.encL v54.args)]] (ds' := (Tm.encL ([v54]))) rfl (by kernel_rfl) ⟨⟨rfl, rfl, rfl, ⟨[(iS v54.op)], _, rfl, rfl, ⟨[(iS v54.hd)], _, rfl, rfl, ⟨[(iS v54.n)], _, rfl, rfl, ⟨[(tU v54.args a56 c56)], _, rfl, (.inl ⟨_, rfl, ql (j := 2) rfl⟩), rfl⟩⟩⟩⟩⟩, trivial⟩ rfl (by simp only [Tm.encL_eq, List.map_cons, List.map_nil, Tm.enc_eq] <;> rfl) (by decide) (by decide) ?_
     intro a57
     refine ⟨fun _ _ h => h, ?_⟩
     obtain ⟨h58, hr⟩ := qj hr
     refine qm (ds' := (Tm.encL (v33.args ++ [v54]))) ttOK 48 0 3 rfl (by kernel_rfl) rfl rfl rfl rfl (by simp only [Tm.encL_eq, List.map_append]) h58 (by decide) ?_
     intro a59 c59
     exact ⟨(n, (Tm.mk v33.op v33.hd v33.n (v33.args ++ [v54])), a59, c59, (IntKind.i64.wrap (v35 + 1))), ⟨by omega, hr⟩, Nat.lt_succ_self _, ⟨rfl, rfl, rfl, rfl, rfl, rfl, trivial⟩, (StLe.gen 3 [.old 0] [.old 0] rfl rfl rfl rfl rfl rfl rfl)⟩
   ·replace hr := qf h36 hr
    replace hr := osi hr; subst hr
    exact qa [.froz 0] [(tQ v33.args a34 c34)] rfl rfl ⟨a34, c34, rfl, rfl⟩
theorem qk8 (n : Nat) (v1 : Tm) (v3 : Int) (v4 : Int) (a2 : OA) (c2 : Nat) (r : Tm) (hr : R04_moved n v1 v3 v4 = some r) : Pure Tryz.prog (.val (.fn (.func 374) [] [])) [(.agg [(iS v1.op), (iS v1.hd), (iS v1.n), (tU v1.args a2 c2)]), (iS v3), (iS v4)] [(tQ v1.args a2 c2)] (fun r' out => ∃ (b1 : OA) (d1 : Nat), r' = (.agg [(iS r.op), (iS r.hd), (iS r.n), (tU r.args b1 d1)]) ∧ out = [(tQ r.args b1 d1)]) := (qjl n) n (Nat.le_refl _) v1 v3 v4 a2 c2 r hr
def R04_raised : Nat → Tm → Int → Option (Tm)
 | 0, _, _ => none
 | n + 1, v1, v3 =>
  (R04_moved n v1 v3 0).bind (fun v4 =>
  some (v4))
theorem qju (n : Nat) (v1 : Tm) (v3 : Int) (a2 : OA) (c2 : Nat) (r : Tm) (hr : R04_raised n v1 v3 = some r) : Pure Tryz.prog (.val (.fn (.func 346) [] [])) [(.agg [(iS v1.op), (iS v1.hd), (iS v1.n), (tU v1.args a2 c2)]), (iS v3)] [(tQ v1.args a2 c2)] (fun r' out => ∃ (b1 : OA) (d1 : Nat), r' = (.agg [(iS r.op), (iS r.hd), (iS r.n), (tU r.args b1 d1)]) ∧ out = [(tQ r.args b1 d1)]) := by
 rcases n with _ | n
 ·exact qe hr
 rw [R04_raised.eq_2] at hr
 refine qb (N := 8) (m := 0) (dt := fun _ => none) [] ttOK func346 rfl call346 ntmps346 rfl rfl rfl mixed (by kernel_rfl) ?_
 obtain ⟨v4, h5, hr⟩ := bind_some hr
 refine (qk8 n v1 v3 0 a2 c2 _ h5).atR [0] rfl rfl rfl ?_
 rintro _ _ ⟨a6, c6, rfl, rfl⟩
 replace hr := osi hr; subst hr
 exact qa [.old 1] [(tQ v4.args a6 c6)] rfl rfl ⟨a6, c6, rfl, rfl⟩
mutual
def R04_count_apply : Nat → Tm → (List Tm) → Sm → Ct → Option (Tm × Int × Ct)
 | 0, _, _, _, _ => none
 | n + 1, v1, v3, v5, v7 =>
  cond (((Tm.encL v3).length : Int) == 0) (
  (R04_whole n v1).bind (fun v9 =>
  some (v9.1, v9.2, v7))) (
  cond ((v1.op != 3) || (((Sm.encL v5.args).length : Int) == 0)) (
  some ((Tm.mk 0 0 0 ([])), 23, v7)) (
  (idx v1.args 0).bind (fun v13 =>
  (idx v3 0).bind (fun v18 =>
  (idx v5.args 0).bind (fun v23 =>
  (R04_count_put n v13 0 v18 v23 v7).bind (fun v28 =>
  cond (v28.2.1 != 0) (
  some ((Tm.mk 0 0 0 ([])), v28.2.1, v28.2.2)) (
  cond (decide ((0 : Int) ≤ 1 ∧ 1 ≤ ((Tm.encL v3).length : Int) ∧ ((Tm.encL v3).length : Int) ≤ ((Tm.encL v3).length : Int))) (
  cond (decide ((0 : Int) ≤ 1 ∧ 1 ≤ ((Sm.encL v5.args).length : Int) ∧ ((Sm.encL v5.args).length : Int) ≤ ((Sm.encL v5.args).length : Int))) (
  (R04_count_apply n v28.1 (v3.drop (1 : Int).toNat) (Sm.mk (v5.args.drop (1 : Int).toNat) v5.con) v28.2.2).bind (fun v40 =>
  some (v40.1, v40.2.1, v40.2.2))) none) none)))))))
def R04_count_put : Nat → Tm → Int → Tm → Sm → Ct → Option (Tm × Int × Ct)
 | 0, _, _, _, _, _ => none
 | n + 1, v1, v3, v4, v6, v8 =>
  cond (decide ((IntKind.i64.wrap (v8.n + 1)) > 20000)) (
  some ((Tm.mk 0 0 0 ([])), 5, (Ct.mk (IntKind.i64.wrap (v8.n + 1))))) (
  R04_count_put_L1 n v1 v3 v4 v6 (Ct.mk (IntKind.i64.wrap (v8.n + 1))) (Tm.mk v1.op v1.hd v1.n ([])) 0)
def R04_count_put_L1 : Nat → Tm → Int → Tm → Sm → Ct → Tm → Int → Option (Tm × Int × Ct)
 | 0, _, _, _, _, _, _, _ => none
 | n + 1, v1, v3, v4, v6, v10, v11, v13 =>
  cond (decide (v13 < ((Tm.encL v1.args).length : Int))) (
  cond ((v1.op == 3) || ((v1.op == 2) && (v13 == 1))) (
  (idx v1.args v13).bind (fun v16 =>
  (R04_count_put n v16 (IntKind.i64.wrap (v3 + 1)) v4 v6 v10).bind (fun v21 =>
  cond (v21.2.1 != 0) (
  some ((Tm.mk 0 0 0 ([])), v21.2.1, v21.2.2)) (
  cond (decide ((Tm.encL (v11.args ++ [v21.1])).length ≤ 1000000)) (
  R04_count_put_L1 n v1 v3 v4 v6 v21.2.2 (Tm.mk v11.op v11.hd v11.n (v11.args ++ [v21.1])) (IntKind.i64.wrap (v13 + 1))) none)))) (
  (idx v1.args v13).bind (fun v31 =>
  (R04_count_put n v31 (IntKind.i64.wrap (v3 + 0)) v4 v6 v10).bind (fun v36 =>
  cond (v36.2.1 != 0) (
  some ((Tm.mk 0 0 0 ([])), v36.2.1, v36.2.2)) (
  cond (decide ((Tm.encL (v11.args ++ [v36.1])).length ≤ 1000000)) (
  R04_count_put_L1 n v1 v3 v4 v6 v36.2.2 (Tm.mk v11.op v11.hd v11.n (v11.args ++ [v36.1])) (IntKind.i64.wrap (v13 + 1))) none))))) (
  cond (((v1.op != 4) || (v1.hd != 1)) || (decide (v1.n < v3))) (
  (R04_whole n v11).bind (fun v47 =>
  some (v47.1, v47.2, v10))) (
  cond (decide (v1.n > v3)) (
  (R04_whole n (Tm.mk v11.op v11.hd (IntKind.i64.wrap (v1.n - 1)) v11.args)).bind (fun v51 =>
  some (v51.1, v51.2, v10))) (
  (R04_raised n v4 v3).bind (fun v54 =>
  (R04_whole n v54).bind (fun v57 =>
  cond (v57.2 != 0) (
  some ((Tm.mk 0 0 0 ([])), v57.2, v10)) (
  (R04_count_apply n v57.1 v11.args v6 v10).bind (fun v61 =>
  some (v61.1, v61.2.1, v61.2.2))))))))
 end
theorem qet : ∀ (N : Nat), (∀ (n : Nat), n ≤ N → ∀ (v1 : Tm) (v3 : (List Tm)) (v5 : Sm) (v7 : Ct) (a2 : OA) (c2 : Nat) (a4 : OA) (c4 : Nat) (a6 : OA) (c6 : Nat) (r : Tm × Int × Ct), R04_count_apply n v1 v3 v5 v7 = some r → Meets Tryz.prog (.val (.fn (.func 230) [] [])) [(.loc 0 0), (.agg [(iS v1.op), (iS v1.hd), (iS v1.n), (tU v1.args a2 c2)]), (tU v3 a4 c4), (.agg [(.v (.slice a6 ((Sm.encL v5.args).length) c6)), (iS v5.con)])] ⟨[.cells 314 [(iS v7.n)]], [], [(tQ v1.args a2 c2), (tQ v3 a4 c4), (.slice a6 ((Sm.encL v5.args).length) c6, .sl 2 (Sm.encL v5.args))]⟩ (fun o S' => ∃ (b1 : OA) (d1 : Nat), o = .ret (.tup [(.agg [(iS r.1.op), (iS r.1.hd), (iS r.1.n), (tU r.1.args b1 d1)]), (iS r.2.1)]) ∧ S' = ⟨[.cells 314 [(iS r.2.2.n)]], [], [(tQ r.1.args b1 d1)]⟩)) ∧ (∀ (n : Nat), n ≤ N → ∀ (v1 : Tm) (v3 : Int) (v4 : Tm) (v6 : Sm) (v8 : Ct) (a2 : OA) (c2 : Nat) (a5 : OA) (c5 : Nat) (a7 : OA) (c7 : Nat) (r : Tm × Int × Ct), R04_count_put n v1 v3 v4 v6 v8 = some r → Meets Tryz.prog (.val (.fn (.func 291) [] [])) [(.loc 0 0), (.agg [(iS v1.op), (iS v1.hd), (iS v1.n), (tU v1.args a2 c2)]), (iS v3), (.agg [(iS v4.op), (iS v4.hd), (iS v4.n), (tU v4.args a5 c5)]), (.agg [(.v (.slice a7 ((Sm.encL v6.args).length) c7)), (iS v6.con)])] ⟨[.cells 314 [(iS v8.n)]], [], [(tQ v1.args a2 c2), (tQ v4.args a5 c5), (.slice a7 ((Sm.encL v6.args).length) c7, .sl 2 (Sm.encL v6.args))]⟩ (fun o S' => ∃ (b1 : OA) (d1 : Nat), o = .ret (.tup [(.agg [(iS r.1.op), (iS r.1.hd), (iS r.1.n), (tU r.1.args b1 d1)]), (iS r.2.1)]) ∧ S' = ⟨[.cells 314 [(iS r.2.2.n)]], [], [(tQ r.1.args b1 d1)]⟩)) := by
 intro N
 induction N with
 | zero =>
  refine ⟨?_, ?_⟩
  ·intro n hn v1 v3 v5 v7 a2 c2 a4 c4 a6 c6 r hr; obtain rfl : n = 0 := (by omega); exact qe hr
  ·intro n hn v1 v3 v4 v6 v8 a2 c2 a5 c5 a7 c7 r hr; obtain rfl : n = 0 := (by omega); exact qe hr
 | succ N ih =>
  obtain ⟨ih1, ih2⟩ := ih
  refine ⟨?_, ?_⟩
  ·
   intro n hn v1 v3 v5 v7 a2 c2 a4 c4 a6 c6 r hr
   rcases n with _ | n
   ·exact qe hr
   replace hn : n ≤ N := by omega
   rw [R04_count_apply.eq_2] at hr
   refine qb (N := 62) (m := 1) (dt := drawsOf [(5, .node [0, 1, 2, 3, 4, 5, 6, 7, 8, 9, 10, 11] [(12, .node [13, 14, 15] [(16, .node [] [(17, .leaf [18])])]), (16, .node [] [(12, .node [13, 14, 15] [(17, .leaf [18])])])], [12, 17], []), (8, .node [0, 1, 2, 3, 4, 5, 6, 7, 8, 9] [(10, .node [11, 12] [(13, .leaf [14])])], [10, 13], [])]) [] ttOK func230 rfl call230 ntmps230 rfl rfl rfl mixed (by kernel_rfl) ?_
   refine AtIf.mk (fun h8 => ?_) (fun h8 => ?_)
   ·replace hr := qg h8 hr
    obtain ⟨v9, h10, hr⟩ := bind_some hr
    refine (qck n v1 a2 c2 _ h10).atR [0] rfl rfl rfl ?_
    rintro _ _ ⟨a11, c11, rfl, rfl⟩
    replace hr := osi hr; subst hr
    exact AtRet.gen ⟨[.cells 314 [(iS v7.n)]], [], [(tQ v9.1.args a11 c11)]⟩ (StLe.gen 1 [] [.old 3] rfl rfl rfl rfl rfl rfl rfl) rfl rfl ⟨a11, c11, rfl, rfl⟩
   ·replace hr := qf h8 hr
    refine AtIf.mk (fun h12 => ?_) (fun h12 => ?_)
    ·replace hr := qg h12 hr
     replace hr := osi hr; subst hr
     exact AtRet.gen ⟨[.cells 314 [(iS v7.n)]], [], [(.slice none 0 0, .sl 4 [])]⟩ (StLe.gen 1 [] [.nil 4] rfl rfl rfl rfl rfl rfl rfl) rfl rfl ⟨none, 0, rfl, rfl⟩
    ·replace hr := qf h12 hr
     obtain ⟨v13, h14, hr⟩ := bind_some hr
     obtain ⟨h15, h16⟩ := qi h14
     obtain ⟨v18, h19, hr⟩ := bind_some hr
     obtain ⟨h20, h21⟩ := qi h19
     obtain ⟨v23, h24, hr⟩ := bind_some hr
     obtain ⟨h25, h26⟩ := qi h24
     obtain ⟨v28, h29, hr⟩ := bind_some hr
     refine qh ttOK 0 rfl rfl rfl rfl h15 (Tm.encL_get h16) ?_
     intro a31 c31 _ _
     refine qh ttOK 1 rfl rfl rfl rfl h20 (Tm.encL_get h21) ?_
     intro a32 c32 _ _
     refine qh ttOK 2 rfl rfl rfl rfl h25 (Sm.encL_get h26) ?_
     intro a33 c33 _ _
     refine ⟨?_, ?_⟩
     ·
      refine (ih2 n (by omega) v13 0 v18 v23 v7 a31 c31 a32 c32 a33 c33 _ h29).frameR [0] [3, 4, 5] rfl rfl rfl rfl rfl rfl rfl rfl ?_
      rintro _ _ ⟨a34, c34, rfl, rfl⟩
      refine ⟨rfl, rfl, [.cells 314 [(iS v28.2.2.n)]], rfl, ?_⟩
      refine ⟨OwnKeptBut.append, ?_⟩
      refine AtIf.mk (fun h35 => ?_) (fun h35 => ?_)
      ·replace hr := qg h35 hr
       replace hr := osi hr; subst hr
       exact AtRet.gen ⟨[.cells 314 [(iS v28.2.2.n)]], [], [(.slice none 0 0, .sl 4 [])]⟩ (StLe.gen 1 [] [.nil 4] rfl rfl rfl rfl rfl rfl rfl) rfl rfl ⟨none, 0, rfl, rfl⟩
      ·replace hr := qf h35 hr
       obtain ⟨h36, hr⟩ := qj hr
       refine qaa ttOK 1 1 ((Tm.encL v3).length : Int) (ds' := (Tm.encL (v3.drop (1 : Int).toNat))) rfl rfl rfl (.inl ⟨_, rfl⟩) (.inr ⟨rfl, rfl⟩) h36 (by simp only [Tm.encL_eq]; exact sl_l ..) ?_
       intro a37 c37
       obtain ⟨h38, hr⟩ := qj hr
       refine qaa ttOK 2 1 ((Sm.encL v5.args).length : Int) (ds' := (Sm.encL (v5.args.drop (1 : Int).toNat))) rfl rfl rfl (.inl ⟨_, rfl⟩) (.inr ⟨rfl, rfl⟩) h38 (by simp only [Sm.encL_eq]; exact sl_l ..) ?_
       intro a39 c39
       obtain ⟨v40, h41, hr⟩ := bind_some hr
       refine (ih1 n (by omega) v28.1 (v3.drop (1 : Int).toNat) (Sm.mk (v5.args.drop (1 : Int).toNat) v5.con) v28.2.2 a34 c34 a37 c37 a39 c39 _ h41).frameR [0] [6, 7, 8] rfl rfl rfl rfl rfl rfl rfl rfl ?_
       rintro _ _ ⟨a42, c42, rfl, rfl⟩
       refine ⟨rfl, rfl, [.cells 314 [(iS v40.2.2.n)]], rfl, ?_⟩
       replace hr := osi hr; subst hr
       exact AtRet.gen ⟨[.cells 314 [(iS v40.2.2.n)]], [], [(tQ v40.1.args a42 c42)]⟩ (StLe.gen 1 [] [.old 9] rfl rfl rfl rfl rfl rfl rfl) rfl rfl ⟨a42, c42, rfl, rfl⟩
     ·
      refine ⟨OwnKeptBut.append, ?_⟩
      refine (ih2 n (by omega) v13 0 v18 v23 v7 a31 c31 a32 c32 a33 c33 _ h29).frameR [0] [3, 4, 5] rfl rfl rfl rfl rfl rfl rfl rfl ?_
      rintro _ _ ⟨a43, c43, rfl, rfl⟩
      refine ⟨rfl, rfl, [.cells 314 [(iS v28.2.2.n)]], rfl, ?_⟩
      refine AtIf.mk (fun h35 => ?_) (fun h35 => ?_)
      ·replace hr := qg h35 hr
       replace hr := osi hr; subst hr
       exact AtRet.gen ⟨[.cells 314 [(iS v28.2.2.n)]], [], [(.slice none 0 0, .sl 4 [])]⟩ (StLe.gen 1 [] [.nil 4] rfl rfl rfl rfl rfl rfl rfl) rfl rfl ⟨none, 0, rfl, rfl⟩
      ·replace hr := qf h35 hr
       obtain ⟨h36, hr⟩ := qj hr
       refine qaa ttOK 1 1 ((Tm.encL v3).length : Int) (ds' := (Tm.encL (v3.drop (1 : Int).toNat))) rfl rfl rfl (.inl ⟨_, rfl⟩) (.inr ⟨rfl, rfl⟩) h36 (by simp only [Tm.encL_eq]; exact sl_l ..) ?_
       intro a37 c37
       obtain ⟨h38, hr⟩ := qj hr
       refine qaa ttOK 2 1 ((Sm.encL v5.args).length : Int) (ds' := (Sm.encL (v5.args.drop (1 : Int).toNat))) rfl rfl rfl (.inl ⟨_, rfl⟩) (.inr ⟨rfl, rfl⟩) h38 (by simp only [Sm.encL_eq]; exact sl_l ..) ?_
       intro a39 c39
       obtain ⟨v40, h41, hr⟩ := bind_some hr
       refine (ih1 n (by omega) v28.1 (v3.drop (1 : Int).toNat) (Sm.mk (v5.args.drop (1 : Int).toNat) v5.con) v28.2.2 a43 c43 a37 c37 a39 c39 _ h41).frameR [0] [6, 7, 8] rfl rfl rfl rfl rfl rfl rfl rfl ?_
       rintro _ _ ⟨a42, c42, rfl, rfl⟩
       refine ⟨rfl, rfl, [.cells 314 [(iS v40.2.2.n)]], rfl, ?_⟩
       replace hr := osi hr; subst hr
       exact AtRet.gen ⟨[.cells 314 [(iS v40.2.2.n)]], [], [(tQ v40.1.args a42 c42)]⟩ (StLe.gen 1 [] [.old 9] rfl rfl rfl rfl rfl rfl rfl) rfl rfl ⟨a42, c42, rfl, rfl⟩
  ·
   intro n hn v1 v3 v4 v6 v8 a2 c2 a5 c5 a7 c7 r hr
   rcases n with _ | n
   ·exact qe hr
   replace hn : n ≤ N := by omega
   rw [R04_count_put.eq_2] at hr
   refine qb (N := 127) (m := 1) (dt := drawsOf [(12, .node [0, 1, 2, 3, 4, 5, 6, 7, 8, 9, 10] [(11, .node [12, 13, 14] [(15, .node [] [(16, .leaf [17])])]), (15, .node [] [(11, .node [12, 13, 14] [(16, .leaf [17])])])], [11, 16], [])]) [] ttOK func291 rfl call291 ntmps291 rfl rfl rfl mixed (by kernel_rfl) ?_
   refine AtIf.mk (fun h9 => ?_) (fun h9 => ?_)
   ·replace hr := qg h9 hr
    replace hr := osi hr; subst hr
    exact AtRet.gen ⟨[.cells 314 [(iS (IntKind.i64.wrap (v8.n + 1)))]], [], [(.slice none 0 0, .sl 4 [])]⟩ (StLe.gen 1 [] [.nil 4] rfl rfl rfl rfl rfl rfl rfl) rfl rfl ⟨none, 0, rfl, rfl⟩
   ·replace hr := qf h9 hr
    refine AtLoop.mk ⟨Nat × Ct × Tm × Option Addr × Nat × Int, fun x => [(0, (.loc 0 0)), (2, (iS v3)), (6, (.loc 1 0)), (8, (.loc 2 0)), (9, (.loc 3 0)), (10, (.loc 4 0)), (12, (.loc 5 0)), (13, (iS x.2.2.2.2.2))], fun x => ⟨[.cells 314 [(iS x.2.1.n)], .cells 41 [(iS v1.op), (iS v1.hd), (iS v1.n), (tU v1.args a2 c2)], .cells 41 [(iS v4.op), (iS v4.hd), (iS v4.n), (tU v4.args a5 c5)], .cells 224 [(.v (.slice a7 ((Sm.encL v6.args).length) c7)), (iS v6.con)], .cells 41 [(iS 0), (iS 0), (iS 0), (.v (.slice none 0 0))], .cells 41 [(iS x.2.2.1.op), (iS x.2.2.1.hd), (iS x.2.2.1.n), (tU x.2.2.1.args x.2.2.2.1 x.2.2.2.2.1)]], [⟨.slice x.2.2.2.1 ((Tm.encL x.2.2.1.args).length) x.2.2.2.2.1, 4, 41, (Tm.encL x.2.2.1.args)⟩], [(tQ v1.args a2 c2), (tQ v4.args a5 c5), (.slice a7 ((Sm.encL v6.args).length) c7, .sl 2 (Sm.encL v6.args))]⟩, fun x => x.1 ≤ N ∧ R04_count_put_L1 x.1 v1 v3 v4 v6 x.2.1 x.2.2.1 x.2.2.2.2.2 = some r, fun x => x.1, (n, (Ct.mk (IntKind.i64.wrap (v8.n + 1))), (Tm.mk v1.op v1.hd v1.n ([])), none, 0, 0), ⟨by omega, hr⟩, ⟨rfl, rfl, rfl, rfl, rfl, rfl, rfl, rfl, trivial⟩, (StLe.gen 6 [.nil 4 41] [.old 0, .old 1, .old 2] rfl rfl rfl rfl rfl rfl rfl), fun x _ => ⟨rfl, rfl⟩, ?_⟩
    rintro ⟨n, v10, v11, a12, c12, v13⟩ HH
    obtain ⟨hn, hr⟩ : n ≤ N ∧ R04_count_put_L1 n v1 v3 v4 v6 v10 v11 v13 = some r := HH
    rcases n with _ | n
    ·exact qe hr
    rw [R04_count_put_L1.eq_2] at hr
    refine AtIf.mk (fun h14 => ?_) (fun h14 => ?_)
    ·replace hr := qg h14 hr
     refine AtIf.mk (fun h15 => ?_) (fun h15 => ?_)
     ·replace hr := qg h15 hr
      obtain ⟨v16, h17, hr⟩ := bind_some hr
      obtain ⟨h18, h19⟩ := qi h17
      obtain ⟨v21, h22, hr⟩ := bind_some hr
      refine qh ttOK 0 rfl rfl rfl rfl h18 (Tm.encL_get h19) ?_
      intro a24 c24 _ _
      refine ⟨?_, ?_⟩
      ·
       refine (ih2 n (by omega) v16 (IntKind.i64.wrap (v3 + 1)) v4 v6 v10 a24 c24 a5 c5 a7 c7 _ h22).frameR [0] [3, 1, 2] rfl rfl rfl rfl rfl rfl rfl rfl ?_
       rintro _ _ ⟨a25, c25, rfl, rfl⟩
       refine ⟨rfl, rfl, [.cells 314 [(iS v21.2.2.n)]], rfl, ?_⟩
       refine ⟨OwnKeptBut.append, ?_⟩
       refine AtIf.mk (fun h26 => ?_) (fun h26 => ?_)
       ·replace hr := qg h26 hr
        replace hr := osi hr; subst hr
        exact AtRet.gen ⟨[.cells 314 [(iS v21.2.2.n)]], [], [(.slice none 0 0, .sl 4 [])]⟩ (StLe.gen 1 [] [.nil 4] rfl rfl rfl rfl rfl rfl rfl) rfl rfl ⟨none, 0, rfl, rfl⟩
       ·replace hr := qf h26 hr
        refine qk (n := 1) ttOK 48 [.agg [.int .i64 v21.1.op, .int .i64 v21.1.hd, .int .i64 v21.1.n, .sl 4 (Tm.encL v21.1.args)]] (ds' := (Tm.encL ([v21.1]))) rfl (by kernel_rfl) ⟨⟨rfl, rfl, rfl, ⟨[(iS v21.1.op)], _, rfl, rfl, ⟨[(iS v21.1.hd)], _, rfl, rfl, ⟨[(iS v21.1.n)], _, rfl, rfl, ⟨[(tU v21.1.args a25 c25)], _, rfl, (.inl ⟨_, rfl, ql (j := 4) rfl⟩), rfl⟩⟩⟩⟩⟩, trivial⟩ rfl (by simp only [Tm.encL_eq, List.map_cons, List.map_nil, Tm.enc_eq] <;> rfl) (by decide) (by decide) ?_
        intro a27
        obtain ⟨h28, hr⟩ := qj hr
        refine qm (ds' := (Tm.encL (v11.args ++ [v21.1]))) ttOK 48 0 5 rfl (by kernel_rfl) rfl rfl rfl rfl (by simp only [Tm.encL_eq, List.map_append]) h28 (by decide) ?_
        intro a29 c29
        exact ⟨(n, v21.2.2, (Tm.mk v11.op v11.hd v11.n (v11.args ++ [v21.1])), a29, c29, (IntKind.i64.wrap (v13 + 1))), ⟨by omega, hr⟩, Nat.lt_succ_self _, ⟨rfl, rfl, rfl, rfl, rfl, rfl, rfl, rfl, trivial⟩, (StLe.gen 6 [.old 0] [.old 0, .old 1, .old 2] rfl rfl rfl rfl rfl rfl rfl)⟩
      ·
       refine ⟨OwnKeptBut.append, ?_⟩
       refine (ih2 n (by omega) v16 (IntKind.i64.wrap (v3 + 1)) v4 v6 v10 a24 c24 a5 c5 a7 c7 _ h22).frameR [0] [3, 1, 2] rfl rfl rfl rfl rfl rfl rfl rfl ?_
       rintro _ _ ⟨a30, c30, rfl, rfl⟩
       refine ⟨rfl, rfl, [.cells 314 [(iS v21.2.2.n)]], rfl, ?_⟩
       refine AtIf.mk (fun h26 => ?_) (fun h26 => ?_)
       ·replace hr := qg h26 hr
        replace hr := osi hr; subst hr
        exact AtRet.gen ⟨[.cells 314 [(iS v21.2.2.n)]], [], [(.slice none 0 0, .sl 4 [])]⟩ (StLe.gen 1 [] [.nil 4] rfl rfl rfl rfl rfl rfl rfl) rfl rfl ⟨none, 0, rfl, rfl⟩
       ·replace hr := qf h26 hr
        refine qk (n := 1) ttOK 48 [.agg [.int .i64 v21.1.op, .int .i64 v21.1.hd, .int .i64 v21.1.n, .sl 4 (Tm.encL v21.1.args)]] (ds' := (Tm.encL ([v21.1]))) rfl (by kernel_rfl) ⟨⟨rfl, rfl, rfl, ⟨[(iS v21.1.op)], _, rfl, rfl, ⟨[(iS v21.1.hd)], _, rfl, rfl, ⟨[(iS v21.1.n)], _, rfl, rfl, ⟨[(tU v21.1.args a30 c30)], _, rfl, (.inl ⟨_, rfl, ql (j := 4) rfl⟩), rfl⟩⟩⟩⟩⟩, trivial⟩ rfl (by simp only [Tm.encL_eq, List.map_cons, List.map_nil, Tm.enc_eq] <;> rfl) (by decide) (by decide) ?_
        intro a27
        obtain ⟨h28, hr⟩ := qj hr
        refine qm (ds' := (Tm.encL (v11.args ++ [v21.1]))) ttOK 48 0 5 rfl (by kernel_rfl) rfl rfl rfl rfl (by simp only [Tm.encL_eq, List.map_append]) h28 (by decide) ?_
        intro a29 c29
        exact ⟨(n, v21.2.2, (Tm.mk v11.op v11.hd v11.n (v11.args ++ [v21.1])), a29, c29, (IntKind.i64.wrap (v13 + 1))), ⟨by omega, hr⟩, Nat.lt_succ_self _, ⟨rfl, rfl, rfl, rfl, rfl, rfl, rfl, rfl, trivial⟩, (StLe.gen 6 [.old 0] [.old 0, .old 1, .old 2] rfl rfl rfl rfl rfl rfl rfl)⟩
     ·replace hr := qf h15 hr
      obtain ⟨v31, h32, hr⟩ := bind_some hr
      obtain ⟨h33, h34⟩ := qi h32
      obtain ⟨v36, h37, hr⟩ := bind_some hr
      refine qh ttOK 0 rfl rfl rfl rfl h33 (Tm.encL_get h34) ?_
      intro a39 c39 _ _
      refine ⟨?_, ?_⟩
      ·
       refine (ih2 n (by omega) v31 (IntKind.i64.wrap (v3 + 0)) v4 v6 v10 a39 c39 a5 c5 a7 c7 _ h37).frameR [0] [3, 1, 2] rfl rfl rfl rfl rfl rfl rfl rfl ?_
       rintro _ _ ⟨a40, c40, rfl, rfl⟩
       refine ⟨rfl, rfl, [.cells 314 [(iS v36.2.2.n)]], rfl, ?_⟩
       refine ⟨OwnKeptBut.append, ?_⟩
       refine AtIf.mk (fun h41 => ?_) (fun h41 => ?_)
       ·replace hr := qg h41 hr
        replace hr := osi hr; subst hr
        exact AtRet.gen ⟨[.cells 314 [(iS v36.2.2.n)]], [], [(.slice none 0 0, .sl 4 [])]⟩ (StLe.gen 1 [] [.nil 4] rfl rfl rfl rfl rfl rfl rfl) rfl rfl ⟨none, 0, rfl, rfl⟩
       ·replace hr := qf h41 hr
        refine qk (n := 1) ttOK 48 [.agg [.int .i64 v36.1.op, .int .i64 v36.1.hd, .int .i64 v36.1.n, .sl 4 (Tm.encL v36.1.args)]] (ds' := (Tm.encL ([v36.1]))) rfl (by kernel_rfl) ⟨⟨rfl, rfl, rfl, ⟨[(iS v36.1.op)], _, rfl, rfl, ⟨[(iS v36.1.hd)], _, rfl, rfl, ⟨[(iS v36.1.n)], _, rfl, rfl, ⟨[(tU v36.1.args a40 c40)], _, rfl, (.inl ⟨_, rfl, ql (j := 4) rfl⟩), rfl⟩⟩⟩⟩⟩, trivial⟩ rfl (by simp only [Tm.encL_eq, List.map_cons, List.map_nil, Tm.enc_eq] <;> rfl) (by decide) (by decide) ?_
        intro a42
        obtain ⟨h43, hr⟩ := qj hr
        refine qm (ds' := (Tm.encL (v11.args ++ [v36.1]))) ttOK 48 0 5 rfl (by kernel_rfl) rfl rfl rfl rfl (by simp only [Tm.encL_eq, List.map_append]) h43 (by decide) ?_
        intro a44 c44
        exact ⟨(n, v36.2.2, (Tm.mk v11.op v11.hd v11.n (v11.args ++ [v36.1])), a44, c44, (IntKind.i64.wrap (v13 + 1))), ⟨by omega, hr⟩, Nat.lt_succ_self _, ⟨rfl, rfl, rfl, rfl, rfl, rfl, rfl, rfl, trivial⟩, (StLe.gen 6 [.old 0] [.old 0, .old 1, .old 2] rfl rfl rfl rfl rfl rfl rfl)⟩
      ·
       refine ⟨OwnKeptBut.append, ?_⟩
       refine (ih2 n (by omega) v31 (IntKind.i64.wrap (v3 + 0)) v4 v6 v10 a39 c39 a5 c5 a7 c7 _ h37).frameR [0] [3, 1, 2] rfl rfl rfl rfl rfl rfl rfl rfl ?_
       rintro _ _ ⟨a45, c45, rfl, rfl⟩
       refine ⟨rfl, rfl, [.cells 314 [(iS v36.2.2.n)]], rfl, ?_⟩
       refine AtIf.mk (fun h41 => ?_) (fun h41 => ?_)
       ·replace hr := qg h41 hr
        replace hr := osi hr; subst hr
        exact AtRet.gen ⟨[.cells 314 [(iS v36.2.2.n)]], [], [(.slice none 0 0, .sl 4 [])]⟩ (StLe.gen 1 [] [.nil 4] rfl rfl rfl rfl rfl rfl rfl) rfl rfl ⟨none, 0, rfl, rfl⟩
       ·replace hr := qf h41 hr
        refine qk (n := 1) ttOK 48 [.agg [.int .i64 v36.1.op, .int .i64 v36.1.hd, .int .i64 v36.1.n, .sl 4 (Tm.encL v36.1.args)]] (ds' := (Tm.encL ([v36.1]))) rfl (by kernel_rfl) ⟨⟨rfl, rfl, rfl, ⟨[(iS v36.1.op)], _, rfl, rfl, ⟨[(iS v36.1.hd)], _, rfl, rfl, ⟨[(iS v36.1.n)], _, rfl, rfl, ⟨[(tU v36.1.args a45 c45)], _, rfl, (.inl ⟨_, rfl, ql (j := 4) rfl⟩), rfl⟩⟩⟩⟩⟩, trivial⟩ rfl (by simp only [Tm.encL_eq, List.map_cons, List.map_nil, Tm.enc_eq] <;> rfl) (by decide) (by decide) ?_
        intro a42
        obtain ⟨h43, hr⟩ := qj hr
        refine qm (ds' := (Tm.encL (v11.args ++ [v36.1]))) ttOK 48 0 5 rfl (by kernel_rfl) rfl rfl rfl rfl (by simp only [Tm.encL_eq, List.map_append]) h43 (by decide) ?_
        intro a44 c44
        exact ⟨(n, v36.2.2, (Tm.mk v11.op v11.hd v11.n (v11.args ++ [v36.1])), a44, c44, (IntKind.i64.wrap (v13 + 1))), ⟨by omega, hr⟩, Nat.lt_succ_self _, ⟨rfl, rfl, rfl, rfl, rfl, rfl, rfl, rfl, trivial⟩, (StLe.gen 6 [.old 0] [.old 0, .old 1, .old 2] rfl rfl rfl rfl rfl rfl rfl)⟩
    ·replace hr := qf h14 hr
     refine AtIf.mk (fun h46 => ?_) (fun h46 => ?_)
     ·replace hr := qg h46 hr
      obtain ⟨v47, h48, hr⟩ := bind_some hr
      refine Meets.le (S' := ⟨[.cells 314 [(iS v10.n)], .cells 41 [(iS v1.op), (iS v1.hd), (iS v1.n), (tU v1.args a2 c2)], .cells 41 [(iS v4.op), (iS v4.hd), (iS v4.n), (tU v4.args a5 c5)], .cells 224 [(.v (.slice a7 ((Sm.encL v6.args).length) c7)), (iS v6.con)], .cells 41 [(iS 0), (iS 0), (iS 0), (.v (.slice none 0 0))], .cells 41 [(iS v11.op), (iS v11.hd), (iS v11.n), (tU v11.args a12 c12)]], [], [(tQ v11.args a12 c12), (tQ v1.args a2 c2), (tQ v4.args a5 c5), (.slice a7 ((Sm.encL v6.args).length) c7, .sl 2 (Sm.encL v6.args))]⟩) (StLe.gen 6 [] [.froz 0, .old 0, .old 1, .old 2] rfl rfl rfl rfl rfl rfl rfl) rfl ?_
      refine (qck n v11 a12 c12 _ h48).atR [0] rfl rfl rfl ?_
      rintro _ _ ⟨a49, c49, rfl, rfl⟩
      replace hr := osi hr; subst hr
      exact AtRet.gen ⟨[.cells 314 [(iS v10.n)]], [], [(tQ v47.1.args a49 c49)]⟩ (StLe.gen 1 [] [.old 4] rfl rfl rfl rfl rfl rfl rfl) rfl rfl ⟨a49, c49, rfl, rfl⟩
     ·replace hr := qf h46 hr
      refine AtIf.mk (fun h50 => ?_) (fun h50 => ?_)
      ·replace hr := qg h50 hr
       obtain ⟨v51, h52, hr⟩ := bind_some hr
       refine Meets.le (S' := ⟨[.cells 314 [(iS v10.n)], .cells 41 [(iS v1.op), (iS v1.hd), (iS v1.n), (tU v1.args a2 c2)], .cells 41 [(iS v4.op), (iS v4.hd), (iS v4.n), (tU v4.args a5 c5)], .cells 224 [(.v (.slice a7 ((Sm.encL v6.args).length) c7)), (iS v6.con)], .cells 41 [(iS 0), (iS 0), (iS 0), (.v (.slice none 0 0))], .cells 41 [(iS v11.op), (iS v11.hd), (iS (IntKind.i64.wrap (v1.n - 1))), (tU v11.args a12 c12)]], [], [(tQ v11.args a12 c12), (tQ v1.args a2 c2), (tQ v4.args a5 c5), (.slice a7 ((Sm.encL v6.args).length) c7, .sl 2 (Sm.encL v6.args))]⟩) (StLe.gen 6 [] [.froz 0, .old 0, .old 1, .old 2] rfl rfl rfl rfl rfl rfl rfl) rfl ?_
       refine (qck n (Tm.mk v11.op v11.hd (IntKind.i64.wrap (v1.n - 1)) v11.args) a12 c12 _ h52).atR [0] rfl rfl rfl ?_
       rintro _ _ ⟨a53, c53, rfl, rfl⟩
       replace hr := osi hr; subst hr
       exact AtRet.gen ⟨[.cells 314 [(iS v10.n)]], [], [(tQ v51.1.args a53 c53)]⟩ (StLe.gen 1 [] [.old 4] rfl rfl rfl rfl rfl rfl rfl) rfl rfl ⟨a53, c53, rfl, rfl⟩
      ·replace hr := qf h50 hr
       obtain ⟨v54, h55, hr⟩ := bind_some hr
       refine (qju n v4 v3 a5 c5 _ h55).atR [1] rfl rfl rfl ?_
       rintro _ _ ⟨a56, c56, rfl, rfl⟩
       obtain ⟨v57, h58, hr⟩ := bind_some hr
       refine (qck n v54 a56 c56 _ h58).atR [3] rfl rfl rfl ?_
       rintro _ _ ⟨a59, c59, rfl, rfl⟩
       refine AtIf.mk (fun h60 => ?_) (fun h60 => ?_)
       ·replace hr := qg h60 hr
        replace hr := osi hr; subst hr
        exact AtRet.gen ⟨[.cells 314 [(iS v10.n)]], [], [(.slice none 0 0, .sl 4 [])]⟩ (StLe.gen 1 [] [.nil 4] rfl rfl rfl rfl rfl rfl rfl) rfl rfl ⟨none, 0, rfl, rfl⟩
       ·replace hr := qf h60 hr
        obtain ⟨v61, h62, hr⟩ := bind_some hr
        refine Meets.le (S' := ⟨[.cells 314 [(iS v10.n)], .cells 41 [(iS v1.op), (iS v1.hd), (iS v1.n), (tU v1.args a2 c2)], .cells 41 [(iS v4.op), (iS v4.hd), (iS v4.n), (tU v4.args a5 c5)], .cells 224 [(.v (.slice a7 ((Sm.encL v6.args).length) c7)), (iS v6.con)], .cells 41 [(iS 0), (iS 0), (iS 0), (.v (.slice none 0 0))], .cells 41 [(iS v11.op), (iS v11.hd), (iS v11.n), (tU v11.args a12 c12)], .cells 41 [(iS v57.1.op), (iS v57.1.hd), (iS v57.1.n), (tU v57.1.args a59 c59)]], [], [(tQ v11.args a12 c12), (tQ v1.args a2 c2), (tQ v4.args a5 c5), (.slice a7 ((Sm.encL v6.args).length) c7, .sl 2 (Sm.encL v6.args)), (tQ v54.args a56 c56), (tQ v57.1.args a59 c59)]⟩) (StLe.gen 7 [] [.froz 0, .old 0, .old 1, .old 2, .old 3, .old 4] rfl rfl rfl rfl rfl rfl rfl) rfl ?_
        refine (ih1 n (by omega) v57.1 v11.args v6 v10 a59 c59 a12 c12 a7 c7 _ h62).frameR [0] [5, 0, 3] rfl rfl rfl rfl rfl rfl rfl rfl ?_
        rintro _ _ ⟨a63, c63, rfl, rfl⟩
        refine ⟨rfl, rfl, [.cells 314 [(iS v61.2.2.n)]], rfl, ?_⟩
        replace hr := osi hr; subst hr
        exact AtRet.gen ⟨[.cells 314 [(iS v61.2.2.n)]], [], [(tQ v61.1.args a63 c63)]⟩ (StLe.gen 1 [] [.old 6] rfl rfl rfl rfl rfl rfl rfl) rfl rfl ⟨a63, c63, rfl, rfl⟩
theorem qdm (n : Nat) (v1 : Tm) (v3 : Int) (v4 : Tm) (v6 : Sm) (v8 : Ct) (a2 : OA) (c2 : Nat) (a5 : OA) (c5 : Nat) (a7 : OA) (c7 : Nat) (r : Tm × Int × Ct) (hr : R04_count_put n v1 v3 v4 v6 v8 = some r) : Meets Tryz.prog (.val (.fn (.func 291) [] [])) [(.loc 0 0), (.agg [(iS v1.op), (iS v1.hd), (iS v1.n), (tU v1.args a2 c2)]), (iS v3), (.agg [(iS v4.op), (iS v4.hd), (iS v4.n), (tU v4.args a5 c5)]), (.agg [(.v (.slice a7 ((Sm.encL v6.args).length) c7)), (iS v6.con)])] ⟨[.cells 314 [(iS v8.n)]], [], [(tQ v1.args a2 c2), (tQ v4.args a5 c5), (.slice a7 ((Sm.encL v6.args).length) c7, .sl 2 (Sm.encL v6.args))]⟩ (fun o S' => ∃ (b1 : OA) (d1 : Nat), o = .ret (.tup [(.agg [(iS r.1.op), (iS r.1.hd), (iS r.1.n), (tU r.1.args b1 d1)]), (iS r.2.1)]) ∧ S' = ⟨[.cells 314 [(iS r.2.2.n)]], [], [(tQ r.1.args b1 d1)]⟩) := (qet n).2 n (Nat.le_refl _) v1 v3 v4 v6 v8 a2 c2 a5 c5 a7 c7 r hr
def R04_count_step : Nat → Tm → Tm → Ct → Option (Tm × Int × Ct)
 | 0, _, _, _ => none
 | n + 1, v1, v3, v5 =>
  cond (v1.op != 2) (
  some ((Tm.mk 0 0 0 ([])), 23, v5)) (
  (idx v1.args 0).bind (fun v7 =>
  (R03_Simple n v7).bind (fun v12 =>
  cond (!v12.2) (
  some ((Tm.mk 0 0 0 ([])), 22, v5)) (
  (R04_Small n v12.1).bind (fun v16 =>
  cond (!v16) (
  some ((Tm.mk 0 0 0 ([])), 2, v5)) (
  (idx v1.args 1).bind (fun v19 =>
  (R04_count_put n v19 0 v3 v12.1 v5).bind (fun v24 =>
  some (v24.1, v24.2.1, v24.2.2)))))))))
theorem qc8 (n : Nat) (v1 : Tm) (v3 : Tm) (v5 : Ct) (a2 : OA) (c2 : Nat) (a4 : OA) (c4 : Nat) (r : Tm × Int × Ct) (hr : R04_count_step n v1 v3 v5 = some r) : Meets Tryz.prog (.val (.fn (.func 312) [] [])) [(.loc 0 0), (.agg [(iS v1.op), (iS v1.hd), (iS v1.n), (tU v1.args a2 c2)]), (.agg [(iS v3.op), (iS v3.hd), (iS v3.n), (tU v3.args a4 c4)])] ⟨[.cells 314 [(iS v5.n)]], [], [(tQ v1.args a2 c2), (tQ v3.args a4 c4)]⟩ (fun o S' => ∃ (b1 : OA) (d1 : Nat), o = .ret (.tup [(.agg [(iS r.1.op), (iS r.1.hd), (iS r.1.n), (tU r.1.args b1 d1)]), (iS r.2.1)]) ∧ S' = ⟨[.cells 314 [(iS r.2.2.n)]], [], [(tQ r.1.args b1 d1)]⟩) := by
 rcases n with _ | n
 ·exact qe hr
 rw [R04_count_step.eq_2] at hr
 refine qb (N := 39) (m := 1) (dt := drawsOf [(8, .node [0, 1, 2, 3, 4, 5, 6] [(7, .node [8, 9] [(10, .leaf [11])])], [7, 10], [])]) [] ttOK func312 rfl call312 ntmps312 rfl rfl rfl mixed (by kernel_rfl) ?_
 refine AtIf.mk (fun h6 => ?_) (fun h6 => ?_)
 ·replace hr := qg h6 hr
  replace hr := osi hr; subst hr
  exact AtRet.gen ⟨[.cells 314 [(iS v5.n)]], [], [(.slice none 0 0, .sl 4 [])]⟩ (StLe.gen 1 [] [.nil 4] rfl rfl rfl rfl rfl rfl rfl) rfl rfl ⟨none, 0, rfl, rfl⟩
 ·replace hr := qf h6 hr
  obtain ⟨v7, h8, hr⟩ := bind_some hr
  obtain ⟨h9, h10⟩ := qi h8
  refine qh ttOK 0 rfl rfl rfl rfl h9 (Tm.encL_get h10) ?_
  intro a11 c11 _ _
  obtain ⟨v12, h13, hr⟩ := bind_some hr
  refine (qe7 n v7 a11 c11 _ h13).atR [2] rfl rfl rfl ?_
  rintro _ _ ⟨a14, c14, rfl, rfl⟩
  refine AtIf.mk (fun h15 => ?_) (fun h15 => ?_)
  ·replace hr := qg h15 hr
   replace hr := osi hr; subst hr
   exact AtRet.gen ⟨[.cells 314 [(iS v5.n)]], [], [(.slice none 0 0, .sl 4 [])]⟩ (StLe.gen 1 [] [.nil 4] rfl rfl rfl rfl rfl rfl rfl) rfl rfl ⟨none, 0, rfl, rfl⟩
  ·replace hr := qf h15 hr
   obtain ⟨v16, h17, hr⟩ := bind_some hr
   refine (qfx n v12.1 a14 c14 _ h17).atR [3] rfl rfl rfl ?_
   rintro _ _ ⟨rfl, rfl⟩
   refine AtIf.mk (fun h18 => ?_) (fun h18 => ?_)
   ·replace hr := qg h18 hr
    replace hr := osi hr; subst hr
    exact AtRet.gen ⟨[.cells 314 [(iS v5.n)]], [], [(.slice none 0 0, .sl 4 [])]⟩ (StLe.gen 1 [] [.nil 4] rfl rfl rfl rfl rfl rfl rfl) rfl rfl ⟨none, 0, rfl, rfl⟩
   ·replace hr := qf h18 hr
    obtain ⟨v19, h20, hr⟩ := bind_some hr
    obtain ⟨h21, h22⟩ := qi h20
    refine qh ttOK 0 rfl rfl rfl rfl h21 (Tm.encL_get h22) ?_
    intro a23 c23 _ _
    obtain ⟨v24, h25, hr⟩ := bind_some hr
    refine (qdm n v19 0 v3 v12.1 v5 a23 c23 a4 c4 a14 c14 _ h25).frameR [0] [4, 1, 3] rfl rfl rfl rfl rfl rfl rfl rfl ?_
    rintro _ _ ⟨a26, c26, rfl, rfl⟩
    refine ⟨rfl, rfl, [.cells 314 [(iS v24.2.2.n)]], rfl, ?_⟩
    replace hr := osi hr; subst hr
    exact AtRet.gen ⟨[.cells 314 [(iS v24.2.2.n)]], [], [(tQ v24.1.args a26 c26)]⟩ (StLe.gen 1 [] [.old 5] rfl rfl rfl rfl rfl rfl rfl) rfl rfl ⟨a26, c26, rfl, rfl⟩
mutual
def R04_Instance : Nat → Tm → (List Tm) → Option (Tm × Int)
 | 0, _, _ => none
 | n + 1, v1, v3 =>
  cond (!(refProper v1)) (
  some ((Tm.mk 0 0 0 ([])), 2)) (
  (R04_list n v3).bind (fun v6 =>
  cond (!v6) (
  some ((Tm.mk 0 0 0 ([])), 2)) (
  R04_Instance_L1 n v3 v1 (Ct.mk 0) 0)))
def R04_Instance_L1 : Nat → (List Tm) → Tm → Ct → Int → Option (Tm × Int)
 | 0, _, _, _, _ => none
 | n + 1, v3, v9, v11, v12 =>
  cond (decide (v12 < ((Tm.encL v3).length : Int))) (
  (idx v3 v12).bind (fun v14 =>
  (R04_count_step n v9 v14 v11).bind (fun v19 =>
  cond (v19.2.1 != 0) (
  some ((Tm.mk 0 0 0 ([])), v19.2.1)) (
  R04_Instance_L1 n v3 v19.1 v19.2.2 (IntKind.i64.wrap (v12 + 1)))))) (
  some (v9, 0))
 end
theorem qcd (n : Nat) (v1 : Tm) (v3 : (List Tm)) (a2 : OA) (c2 : Nat) (a4 : OA) (c4 : Nat) (r : Tm × Int) (hr : R04_Instance n v1 v3 = some r) : Pure Tryz.prog (.val (.fn (.func 232) [] [])) [(.agg [(iS v1.op), (iS v1.hd), (iS v1.n), (tU v1.args a2 c2)]), (tU v3 a4 c4)] [(tQ v1.args a2 c2), (tQ v3 a4 c4)] (fun r' out => ∃ (b1 : OA) (d1 : Nat), r' = (.tup [(.agg [(iS r.1.op), (iS r.1.hd), (iS r.1.n), (tU r.1.args b1 d1)]), (iS r.2)]) ∧ out = [(tQ r.1.args b1 d1)]) := by
 rcases n with _ | n
 ·exact qe hr
 rw [R04_Instance.eq_2] at hr
 refine qb (N := 43) (m := 0) (dt := drawsOf [(7, .node [0, 1, 2, 3, 4, 5] [(6, .node [7, 8, 9] [(10, .node [] [(11, .leaf [12])])]), (10, .node [] [(6, .node [7, 8, 9] [(11, .leaf [12])])])], [6, 11], [])]) [] ttOK func232 rfl call232 ntmps232 rfl rfl rfl mixed (by kernel_rfl) ?_
 refine (qam v1 a2 c2).atR [0] rfl rfl rfl ?_
 rintro _ _ ⟨rfl, rfl⟩
 refine AtGuard.mk (fun h5 => ?_) (fun h5 => ?_)
 ·replace hr := qf h5 hr
  obtain ⟨v6, h7, hr⟩ := bind_some hr
  refine (qmy n v3 a4 c4 _ h7).atR [1] rfl rfl rfl ?_
  rintro _ _ ⟨rfl, rfl⟩
  refine AtIf.mk (fun h8 => ?_) (fun h8 => ?_)
  ·replace hr := qg h8 hr
   replace hr := osi hr; subst hr
   exact qa [.nil 4] [(.slice none 0 0, .sl 4 [])] rfl rfl ⟨none, 0, rfl, rfl⟩
  ·replace hr := qf h8 hr
   refine AtLoop.mk ⟨Nat × Tm × Option Addr × Nat × Ct × Int, fun x => [(1, (tU v3 a4 c4)), (2, (.loc 0 0)), (4, (.loc 1 0)), (6, (.loc 2 0)), (7, (iS x.2.2.2.2.2))], fun x => ⟨[.cells 41 [(iS x.2.1.op), (iS x.2.1.hd), (iS x.2.1.n), (tU x.2.1.args x.2.2.1 x.2.2.2.1)], .cells 41 [(iS 0), (iS 0), (iS 0), (.v (.slice none 0 0))], .cells 314 [(iS x.2.2.2.2.1.n)]], [], [(tQ x.2.1.args x.2.2.1 x.2.2.2.1), (tQ v1.args a2 c2), (tQ v3 a4 c4)]⟩, fun x => R04_Instance_L1 x.1 v3 x.2.1 x.2.2.2.2.1 x.2.2.2.2.2 = some r, fun x => x.1, (n, v1, a2, c2, (Ct.mk 0), 0), hr, ⟨rfl, rfl, rfl, rfl, rfl, trivial⟩, (StLe.gen 3 [] [.old 0, .old 0, .old 1] rfl rfl rfl rfl rfl rfl rfl), fun x _ => ⟨rfl, rfl⟩, ?_⟩
   rintro ⟨n, v9, a10, c10, v11, v12⟩ HH
   have hr : R04_Instance_L1 n v3 v9 v11 v12 = some r := HH
   rcases n with _ | n
   ·exact qe hr
   rw [R04_Instance_L1.eq_2] at hr
   refine AtIf.mk (fun h13 => ?_) (fun h13 => ?_)
   ·replace hr := qg h13 hr
    obtain ⟨v14, h15, hr⟩ := bind_some hr
    obtain ⟨h16, h17⟩ := qi h15
    obtain ⟨v19, h20, hr⟩ := bind_some hr
    refine qh ttOK 2 rfl rfl rfl rfl h16 (Tm.encL_get h17) ?_
    intro a22 c22 _ _
    refine ⟨?_, ?_⟩
    ·
     refine (qc8 n v9 v14 v11 a10 c10 a22 c22 _ h20).frameR [2] [0, 3] rfl rfl rfl rfl rfl rfl rfl rfl ?_
     rintro _ _ ⟨a23, c23, rfl, rfl⟩
     refine ⟨rfl, rfl, [.cells 314 [(iS v19.2.2.n)]], rfl, ?_⟩
     refine ⟨OwnKeptBut.append, ?_⟩
     refine AtIf.mk (fun h24 => ?_) (fun h24 => ?_)
     ·replace hr := qg h24 hr
      replace hr := osi hr; subst hr
      exact qa [.nil 4] [(.slice none 0 0, .sl 4 [])] rfl rfl ⟨none, 0, rfl, rfl⟩
     ·replace hr := qf h24 hr
      exact ⟨(n, v19.1, a23, c23, v19.2.2, (IntKind.i64.wrap (v12 + 1))), hr, Nat.lt_succ_self _, ⟨rfl, rfl, rfl, rfl, rfl, trivial⟩, (StLe.gen 3 [] [.old 4, .old 1, .old 2] rfl rfl rfl rfl rfl rfl rfl)⟩
    ·
     refine ⟨OwnKeptBut.append, ?_⟩
     refine (qc8 n v9 v14 v11 a10 c10 a22 c22 _ h20).frameR [2] [0, 3] rfl rfl rfl rfl rfl rfl rfl rfl ?_
     rintro _ _ ⟨a25, c25, rfl, rfl⟩
     refine ⟨rfl, rfl, [.cells 314 [(iS v19.2.2.n)]], rfl, ?_⟩
     refine AtIf.mk (fun h24 => ?_) (fun h24 => ?_)
     ·replace hr := qg h24 hr
      replace hr := osi hr; subst hr
      exact qa [.nil 4] [(.slice none 0 0, .sl 4 [])] rfl rfl ⟨none, 0, rfl, rfl⟩
     ·replace hr := qf h24 hr
      exact ⟨(n, v19.1, a25, c25, v19.2.2, (IntKind.i64.wrap (v12 + 1))), hr, Nat.lt_succ_self _, ⟨rfl, rfl, rfl, rfl, rfl, trivial⟩, (StLe.gen 3 [] [.old 4, .old 1, .old 2] rfl rfl rfl rfl rfl rfl rfl)⟩
   ·replace hr := qf h13 hr
    replace hr := osi hr; subst hr
    exact qa [.old 0] [(tQ v9.args a10 c10)] rfl rfl ⟨a10, c10, rfl, rfl⟩
 ·replace hr := qg h5 hr
  refine AtIf.mk (fun _ => ?_) (fun h => tf h)
  replace hr := osi hr; subst hr
  exact qa [.nil 4] [(.slice none 0 0, .sl 4 [])] rfl rfl ⟨none, 0, rfl, rfl⟩
def R05_Has : Nat → (List Dc) → Int → Option (Bool)
 | 0, _, _ => none
 | n + 1, v1, v3 =>
  some (((decide (v3 ≥ 0)) && (decide (v3 < ((Dc.encL v1).length : Int)))))
theorem qh2 (n : Nat) (v1 : (List Dc)) (v3 : Int) (a2 : OA) (c2 : Nat) (r : Bool) (hr : R05_Has n v1 v3 = some r) : Pure Tryz.prog (.val (.fn (.func 44) [] [])) [(.v (.slice a2 ((Dc.encL v1).length) c2)), (iS v3)] [(.slice a2 ((Dc.encL v1).length) c2, .sl 6 (Dc.encL v1))] (fun r' out => r' = (bS r) ∧ out = []) := by
 rcases n with _ | n
 ·exact qe hr
 rw [R05_Has.eq_2] at hr
 refine qb (N := 13) (m := 0) (dt := fun _ => none) [] ttOK func44 rfl call44 ntmps44 rfl rfl rfl mixed (by kernel_rfl) ?_
 replace hr := osi hr; subst hr
 exact qa [] [] rfl rfl ⟨rfl, rfl⟩
def R05_family : Nat → (List Dc) → Int → Option (Bool)
 | 0, _, _ => none
 | n + 1, v1, v3 =>
  (idx v1 v3).bind (fun v4 =>
  (R03_Split n v4.cls).bind (fun v9 =>
  some ((v9.2.op == 1))))
theorem qey (n : Nat) (v1 : (List Dc)) (v3 : Int) (a2 : OA) (c2 : Nat) (r : Bool) (hr : R05_family n v1 v3 = some r) : Pure Tryz.prog (.val (.fn (.func 123) [] [])) [(.v (.slice a2 ((Dc.encL v1).length) c2)), (iS v3)] [(.slice a2 ((Dc.encL v1).length) c2, .sl 6 (Dc.encL v1))] (fun r' out => r' = (bS r) ∧ out = []) := by
 rcases n with _ | n
 ·exact qe hr
 rw [R05_family.eq_2] at hr
 refine qb (N := 19) (m := 0) (dt := fun _ => none) [] ttOK func123 rfl call123 ntmps123 rfl rfl rfl mixed (by kernel_rfl) ?_
 obtain ⟨v4, h5, hr⟩ := bind_some hr
 obtain ⟨h6, h7⟩ := qi h5
 refine qh ttOK 0 rfl rfl rfl rfl h6 (Dc.encL_get h7) ?_
 intro a8 c8 _ _
 obtain ⟨v9, h10, hr⟩ := bind_some hr
 refine (qds n v4.cls a8 c8 _ h10).atR [1] rfl rfl rfl ?_
 rintro _ _ ⟨a11, c11, a12, c12, rfl, rfl⟩
 replace hr := osi hr; subst hr
 exact qa [] [] rfl rfl ⟨rfl, rfl⟩
def R05_IsFamily : Nat → (List Dc) → Int → Option (Bool)
 | 0, _, _ => none
 | n + 1, v1, v3 =>
  (R05_family n v1 v3).bind (fun v4 =>
  some (v4))
theorem qdz (n : Nat) (v1 : (List Dc)) (v3 : Int) (a2 : OA) (c2 : Nat) (r : Bool) (hr : R05_IsFamily n v1 v3 = some r) : Pure Tryz.prog (.val (.fn (.func 47) [] [])) [(.v (.slice a2 ((Dc.encL v1).length) c2)), (iS v3)] [(.slice a2 ((Dc.encL v1).length) c2, .sl 6 (Dc.encL v1))] (fun r' out => r' = (bS r) ∧ out = []) := by
 rcases n with _ | n
 ·exact qe hr
 rw [R05_IsFamily.eq_2] at hr
 refine qb (N := 8) (m := 0) (dt := fun _ => none) [] ttOK func47 rfl call47 ntmps47 rfl rfl rfl mixed (by kernel_rfl) ?_
 obtain ⟨v4, h5, hr⟩ := bind_some hr
 refine (qey n v1 v3 a2 c2 _ h5).atR [0] rfl rfl rfl ?_
 rintro _ _ ⟨rfl, rfl⟩
 replace hr := osi hr; subst hr
 exact qa [] [] rfl rfl ⟨rfl, rfl⟩
def R06_Kernel_class : Nat → Kn → (List Tm) → Tm → Option (Tm × Int)
 | 0, _, _, _ => none
 | n + 1, v1, v4, v6 =>
  cond (v6.hd == 1) (
  cond (decide (v6.n ≥ ((Tm.encL v4).length : Int))) (
  some ((Tm.mk 0 0 0 ([])), 27)) (
  (idx v4 (IntKind.i64.wrap ((IntKind.i64.wrap (((Tm.encL v4).length : Int) - 1)) - v6.n))).bind (fun v10 =>
  some (((shiftF v10 (IntKind.i64.wrap (v6.n + 1)) 0).1), (shiftF v10 (IntKind.i64.wrap (v6.n + 1)) 0).2)))) (
  cond (v6.hd == 2) (
  (R05_Has n v1.sig v6.n).bind (fun v20 =>
  cond (!v20) (
  some ((Tm.mk 0 0 0 ([])), 27)) (
  (R05_IsFamily n v1.sig v6.n).bind (fun v23 =>
  cond v23 (
  some ((Tm.mk 0 0 0 ([])), 22)) (
  (idx v1.sig v6.n).bind (fun v26 =>
  some (v26.cls, 0))))))) (
  cond (decide (v6.n ≥ ((Mt.encL v1.metas).length : Int))) (
  some ((Tm.mk 0 0 0 ([])), 27)) (
  (idx v1.metas v6.n).bind (fun v32 =>
  some (v32.cls, 0)))))
theorem qe0 (n : Nat) (v1 : Kn) (v4 : (List Tm)) (v6 : Tm) (a2 : OA) (c2 : Nat) (a3 : OA) (c3 : Nat) (a5 : OA) (c5 : Nat) (a7 : OA) (c7 : Nat) (r : Tm × Int) (hr : R06_Kernel_class n v1 v4 v6 = some r) : Pure Tryz.prog (.val (.fn (.func 233) [] [])) [(.agg [(.v (.slice a2 ((Dc.encL v1.sig).length) c2)), (.v (.slice a3 ((Mt.encL v1.metas).length) c3))]), (tU v4 a5 c5), (.agg [(iS v6.op), (iS v6.hd), (iS v6.n), (tU v6.args a7 c7)])] [(.slice a2 ((Dc.encL v1.sig).length) c2, .sl 6 (Dc.encL v1.sig)), (.slice a3 ((Mt.encL v1.metas).length) c3, .sl 10 (Mt.encL v1.metas)), (tQ v4 a5 c5), (tQ v6.args a7 c7)] (fun r' out => ∃ (b1 : OA) (d1 : Nat), r' = (.tup [(.agg [(iS r.1.op), (iS r.1.hd), (iS r.1.n), (tU r.1.args b1 d1)]), (iS r.2)]) ∧ out = [(tQ r.1.args b1 d1)]) := by
 rcases n with _ | n
 ·exact qe hr
 rw [R06_Kernel_class.eq_2] at hr
 refine qb (N := 74) (m := 0) (dt := drawsOf [(5, .node [0, 1, 2, 3, 4, 5, 6, 7, 8, 9, 10, 11] [(12, .node [13, 14, 15] [(16, .node [] [(17, .leaf [18])])]), (16, .node [] [(12, .node [13, 14, 15] [(17, .leaf [18])])])], [12, 17], [])]) [] ttOK func233 rfl call233 ntmps233 rfl rfl rfl mixed (by kernel_rfl) ?_
 refine AtIf.mk (fun h8 => ?_) (fun h8 => ?_)
 ·replace hr := qg h8 hr
  refine AtIf.mk (fun h9 => ?_) (fun h9 => ?_)
  ·replace hr := qg h9 hr
   replace hr := osi hr; subst hr
   exact qa [.nil 4] [(.slice none 0 0, .sl 4 [])] rfl rfl ⟨none, 0, rfl, rfl⟩
  ·replace hr := qf h9 hr
   obtain ⟨v10, h11, hr⟩ := bind_some hr
   obtain ⟨h12, h13⟩ := qi h11
   refine qh ttOK 2 rfl rfl rfl rfl h12 (Tm.encL_get h13) ?_
   intro a16 c16 _ _
   refine ⟨?_, ?_⟩
   ·
    refine (qhf v10 (IntKind.i64.wrap (v6.n + 1)) 0 a16 c16).atR [4] rfl rfl rfl ?_
    rintro _ _ ⟨a17, c17, rfl, rfl⟩
    refine ⟨OwnKeptBut.append, ?_⟩
    replace hr := osi hr; subst hr
    exact qa [.old 5] [(.slice a17 ((Tm.encL (((shiftF v10 (IntKind.i64.wrap (v6.n + 1)) 0).1).args)).length) c17, .sl 4 (Tm.encL (((shiftF v10 (IntKind.i64.wrap (v6.n + 1)) 0).1).args)))] rfl rfl ⟨a17, c17, rfl, rfl⟩
   ·
    refine ⟨OwnKeptBut.append, ?_⟩
    refine (qhf v10 (IntKind.i64.wrap (v6.n + 1)) 0 a16 c16).atR [4] rfl rfl rfl ?_
    rintro _ _ ⟨a18, c18, rfl, rfl⟩
    replace hr := osi hr; subst hr
    exact qa [.old 5] [(.slice a18 ((Tm.encL (((shiftF v10 (IntKind.i64.wrap (v6.n + 1)) 0).1).args)).length) c18, .sl 4 (Tm.encL (((shiftF v10 (IntKind.i64.wrap (v6.n + 1)) 0).1).args)))] rfl rfl ⟨a18, c18, rfl, rfl⟩
 ·replace hr := qf h8 hr
  refine AtIf.mk (fun h19 => ?_) (fun h19 => ?_)
  ·replace hr := qg h19 hr
   obtain ⟨v20, h21, hr⟩ := bind_some hr
   refine (qh2 n v1.sig v6.n a2 c2 _ h21).atR [0] rfl rfl rfl ?_
   rintro _ _ ⟨rfl, rfl⟩
   refine AtIf.mk (fun h22 => ?_) (fun h22 => ?_)
   ·replace hr := qg h22 hr
    replace hr := osi hr; subst hr
    exact qa [.nil 4] [(.slice none 0 0, .sl 4 [])] rfl rfl ⟨none, 0, rfl, rfl⟩
   ·replace hr := qf h22 hr
    obtain ⟨v23, h24, hr⟩ := bind_some hr
    refine (qdz n v1.sig v6.n a2 c2 _ h24).atR [0] rfl rfl rfl ?_
    rintro _ _ ⟨rfl, rfl⟩
    refine AtIf.mk (fun h25 => ?_) (fun h25 => ?_)
    ·replace hr := qg h25 hr
     replace hr := osi hr; subst hr
     exact qa [.nil 4] [(.slice none 0 0, .sl 4 [])] rfl rfl ⟨none, 0, rfl, rfl⟩
    ·replace hr := qf h25 hr
     obtain ⟨v26, h27, hr⟩ := bind_some hr
     obtain ⟨h28, h29⟩ := qi h27
     refine qh ttOK 0 rfl rfl rfl rfl h28 (Dc.encL_get h29) ?_
     intro a30 c30 _ _
     replace hr := osi hr; subst hr
     exact qa [.old 4] [(tQ v26.cls.args a30 c30)] rfl rfl ⟨a30, c30, rfl, rfl⟩
  ·replace hr := qf h19 hr
   refine AtIf.mk (fun h31 => ?_) (fun h31 => ?_)
   ·replace hr := qg h31 hr
    replace hr := osi hr; subst hr
    exact qa [.nil 4] [(.slice none 0 0, .sl 4 [])] rfl rfl ⟨none, 0, rfl, rfl⟩
   ·replace hr := qf h31 hr
    obtain ⟨v32, h33, hr⟩ := bind_some hr
    obtain ⟨h34, h35⟩ := qi h33
    refine qh ttOK 1 rfl rfl rfl rfl h34 (Mt.encL_get h35) ?_
    intro a36 c36 _ _ a37 c37 _ _
    replace hr := osi hr; subst hr
    exact qa [.old 4] [(tQ v32.cls.args a36 c36)] rfl rfl ⟨a36, c36, rfl, rfl⟩
mutual
def R06_Kernel_fits : Nat → Kn → (List Tm) → (List Tm) → Tm → Option (Tm × Int)
 | 0, _, _, _, _ => none
 | n + 1, v1, v4, v6, v8 =>
  R06_Kernel_fits_L1 n v6 v1 v4 v8 0
def R06_Kernel_fits_L1 : Nat → (List Tm) → Kn → (List Tm) → Tm → Int → Option (Tm × Int)
 | 0, _, _, _, _, _ => none
 | n + 1, v6, v1, v4, v10, v12 =>
  cond (decide (v12 < ((Tm.encL v6).length : Int))) (
  cond (v10.op != 2) (
  some ((Tm.mk 0 0 0 ([])), 23)) (
  (idx v6 v12).bind (fun v15 =>
  (idx v10.args 0).bind (fun v20 =>
  (R06_Kernel_Object n v1 v4 v15 v20).bind (fun v25 =>
  cond (v25 != 0) (
  some ((Tm.mk 0 0 0 ([])), v25)) (
  (idx v6 v12).bind (fun v28 =>
  (R04_Instance n v10 ([v28])).bind (fun v34 =>
  cond (v34.2 != 0) (
  some ((Tm.mk 0 0 0 ([])), v34.2)) (
  R06_Kernel_fits_L1 n v6 v1 v4 v34.1 (IntKind.i64.wrap (v12 + 1))))))))))) (
  some (v10, 0))
def R06_Kernel_Infer : Nat → Kn → (List Tm) → Tm → Option (Tm × Int)
 | 0, _, _, _ => none
 | n + 1, v1, v4, v6 =>
  cond (v6.op != 4) (
  some ((Tm.mk 0 0 0 ([])), 22)) (
  (R06_Kernel_class n v1 v4 v6).bind (fun v9 =>
  cond (v9.2 != 0) (
  some ((Tm.mk 0 0 0 ([])), v9.2)) (
  (R06_Kernel_fits n v1 v4 v6.args v9.1).bind (fun v13 =>
  cond (v13.2 != 0) (
  some ((Tm.mk 0 0 0 ([])), v13.2)) (
  cond (v13.1.op == 2) (
  some ((Tm.mk 0 0 0 ([])), 23)) (
  some (v13.1, 0)))))))
def R06_Kernel_Object : Nat → Kn → (List Tm) → Tm → Tm → Option (Int)
 | 0, _, _, _, _ => none
 | n + 1, v1, v4, v6, v8 =>
  cond (v8.op == 2) (
  cond (v6.op == 4) (
  some (23)) (
  cond (v6.op != 3) (
  some (22)) (
  (idx v8.args 0).bind (fun v13 =>
  (R06_longer n v4 v13).bind (fun v18 =>
  cond (v18.2 != 0) (
  some (v18.2)) (
  (idx v6.args 0).bind (fun v22 =>
  (idx v8.args 1).bind (fun v27 =>
  (R06_Kernel_Object n v1 v18.1 v22 v27).bind (fun v32 =>
  some (v32)))))))))) (
  cond (v8.op == 4) (
  cond (v6.op == 3) (
  some (23)) (
  (R06_Kernel_Infer n v1 v4 v6).bind (fun v36 =>
  cond (v36.2 != 0) (
  some (v36.2)) (
  cond (!(sameF v8 v36.1)) (
  some (24)) (
  some (0)))))) (
  some (22)))
 end
theorem qez : ∀ (N : Nat), (∀ (n : Nat), n ≤ N → ∀ (v1 : Kn) (v4 : (List Tm)) (v6 : (List Tm)) (v8 : Tm) (a2 : OA) (c2 : Nat) (a3 : OA) (c3 : Nat) (a5 : OA) (c5 : Nat) (a7 : OA) (c7 : Nat) (a9 : OA) (c9 : Nat) (r : Tm × Int), R06_Kernel_fits n v1 v4 v6 v8 = some r → Pure Tryz.prog (.val (.fn (.func 157) [] [])) [(.agg [(.v (.slice a2 ((Dc.encL v1.sig).length) c2)), (.v (.slice a3 ((Mt.encL v1.metas).length) c3))]), (tU v4 a5 c5), (tU v6 a7 c7), (.agg [(iS v8.op), (iS v8.hd), (iS v8.n), (tU v8.args a9 c9)])] [(.slice a2 ((Dc.encL v1.sig).length) c2, .sl 6 (Dc.encL v1.sig)), (.slice a3 ((Mt.encL v1.metas).length) c3, .sl 10 (Mt.encL v1.metas)), (tQ v4 a5 c5), (tQ v6 a7 c7), (tQ v8.args a9 c9)] (fun r' out => ∃ (b1 : OA) (d1 : Nat), r' = (.tup [(.agg [(iS r.1.op), (iS r.1.hd), (iS r.1.n), (tU r.1.args b1 d1)]), (iS r.2)]) ∧ out = [(tQ r.1.args b1 d1)])) ∧ (∀ (n : Nat), n ≤ N → ∀ (v1 : Kn) (v4 : (List Tm)) (v6 : Tm) (a2 : OA) (c2 : Nat) (a3 : OA) (c3 : Nat) (a5 : OA) (c5 : Nat) (a7 : OA) (c7 : Nat) (r : Tm × Int), R06_Kernel_Infer n v1 v4 v6 = some r → Pure Tryz.prog (.val (.fn (.func 159) [] [])) [(.agg [(.v (.slice a2 ((Dc.encL v1.sig).length) c2)), (.v (.slice a3 ((Mt.encL v1.metas).length) c3))]), (tU v4 a5 c5), (.agg [(iS v6.op), (iS v6.hd), (iS v6.n), (tU v6.args a7 c7)])] [(.slice a2 ((Dc.encL v1.sig).length) c2, .sl 6 (Dc.encL v1.sig)), (.slice a3 ((Mt.encL v1.metas).length) c3, .sl 10 (Mt.encL v1.metas)), (tQ v4 a5 c5), (tQ v6.args a7 c7)] (fun r' out => ∃ (b1 : OA) (d1 : Nat), r' = (.tup [(.agg [(iS r.1.op), (iS r.1.hd), (iS r.1.n), (tU r.1.args b1 d1)]), (iS r.2)]) ∧ out = [(tQ r.1.args b1 d1)])) ∧ (∀ (n : Nat), n ≤ N → ∀ (v1 : Kn) (v4 : (List Tm)) (v6 : Tm) (v8 : Tm) (a2 : OA) (c2 : Nat) (a3 : OA) (c3 : Nat) (a5 : OA) (c5 : Nat) (a7 : OA) (c7 : Nat) (a9 : OA) (c9 : Nat) (r : Int), R06_Kernel_Object n v1 v4 v6 v8 = some r → Pure Tryz.prog (.val (.fn (.func 90) [] [])) [(.agg [(.v (.slice a2 ((Dc.encL v1.sig).length) c2)), (.v (.slice a3 ((Mt.encL v1.metas).length) c3))]), (tU v4 a5 c5), (.agg [(iS v6.op), (iS v6.hd), (iS v6.n), (tU v6.args a7 c7)]), (.agg [(iS v8.op), (iS v8.hd), (iS v8.n), (tU v8.args a9 c9)])] [(.slice a2 ((Dc.encL v1.sig).length) c2, .sl 6 (Dc.encL v1.sig)), (.slice a3 ((Mt.encL v1.metas).length) c3, .sl 10 (Mt.encL v1.metas)), (tQ v4 a5 c5), (tQ v6.args a7 c7), (tQ v8.args a9 c9)] (fun r' out => r' = (iS r) ∧ out = [])) := by
 intro N
 induction N with
 | zero =>
  refine ⟨?_, ?_, ?_⟩
  ·intro n hn v1 v4 v6 v8 a2 c2 a3 c3 a5 c5 a7 c7 a9 c9 r hr; obtain rfl : n = 0 := (by omega); exact qe hr
  ·intro n hn v1 v4 v6 a2 c2 a3 c3 a5 c5 a7 c7 r hr; obtain rfl : n = 0 := (by omega); exact qe hr
  ·intro n hn v1 v4 v6 v8 a2 c2 a3 c3 a5 c5 a7 c7 a9 c9 r hr; obtain rfl : n = 0 := (by omega); exact qe hr
 | succ N ih =>
  obtain ⟨ih1, ih2, ih3⟩ := ih
  refine ⟨?_, ?_, ?_⟩
  ·
   intro n hn v1 v4 v6 v8 a2 c2 a3 c3 a5 c5 a7 c7 a9 c9 r hr
   rcases n with _ | n
   ·exact qe hr
   replace hn : n ≤ N := by omega
   rw [R06_Kernel_fits.eq_2] at hr
   refine qb (N := 55) (m := 0) (dt := drawsOf [(6, .node [0, 1, 2, 3, 4, 5, 6, 7, 8, 9] [(10, .leaf [11])], [10], []), (9, .node [0, 1, 2, 3, 4] [(5, .node [] [(6, .node [7, 8, 9] [(10, .node [] [(11, .leaf [12])])]), (10, .node [] [(6, .node [7, 8, 9] [(11, .leaf [12])])])]), (10, .node [] [(5, .node [] [(6, .node [7, 8, 9] [(11, .leaf [12])])])])], [6, 11], [])]) [] ttOK func157 rfl call157 ntmps157 rfl rfl rfl mixed (by kernel_rfl) ?_
   refine AtLoop.mk ⟨Nat × Tm × Option Addr × Nat × Int, fun x => [(1, (tU v4 a5 c5)), (2, (tU v6 a7 c7)), (4, (.loc 0 0)), (7, (.loc 1 0)), (8, (.loc 2 0)), (10, (iS x.2.2.2.2))], fun x => ⟨[.cells 144 [(.v (.slice a2 ((Dc.encL v1.sig).length) c2)), (.v (.slice a3 ((Mt.encL v1.metas).length) c3))], .cells 41 [(iS x.2.1.op), (iS x.2.1.hd), (iS x.2.1.n), (tU x.2.1.args x.2.2.1 x.2.2.2.1)], .cells 41 [(iS 0), (iS 0), (iS 0), (.v (.slice none 0 0))]], [], [(tQ x.2.1.args x.2.2.1 x.2.2.2.1), (.slice a2 ((Dc.encL v1.sig).length) c2, .sl 6 (Dc.encL v1.sig)), (.slice a3 ((Mt.encL v1.metas).length) c3, .sl 10 (Mt.encL v1.metas)), (tQ v4 a5 c5), (tQ v6 a7 c7), (tQ v8.args a9 c9)]⟩, fun x => x.1 ≤ N ∧ R06_Kernel_fits_L1 x.1 v6 v1 v4 x.2.1 x.2.2.2.2 = some r, fun x => x.1, (n, v8, a9, c9, 0), ⟨by omega, hr⟩, ⟨rfl, rfl, rfl, rfl, rfl, rfl, trivial⟩, (StLe.gen 3 [] [.old 4, .old 0, .old 1, .old 2, .old 3, .old 4] rfl rfl rfl rfl rfl rfl rfl), fun x _ => ⟨rfl, rfl⟩, ?_⟩
   rintro ⟨n, v10, a11, c11, v12⟩ HH
   obtain ⟨hn, hr⟩ : n ≤ N ∧ R06_Kernel_fits_L1 n v6 v1 v4 v10 v12 = some r := HH
   rcases n with _ | n
   ·exact qe hr
   rw [R06_Kernel_fits_L1.eq_2] at hr
   refine AtIf.mk (fun h13 => ?_) (fun h13 => ?_)
   ·replace hr := qg h13 hr
    refine AtIf.mk (fun h14 => ?_) (fun h14 => ?_)
    ·replace hr := qg h14 hr
     replace hr := osi hr; subst hr
     exact qa [.nil 4] [(.slice none 0 0, .sl 4 [])] rfl rfl ⟨none, 0, rfl, rfl⟩
    ·replace hr := qf h14 hr
     obtain ⟨v15, h16, hr⟩ := bind_some hr
     obtain ⟨h17, h18⟩ := qi h16
     refine qh ttOK 4 rfl rfl rfl rfl h17 (Tm.encL_get h18) ?_
     intro a19 c19 _ _
     obtain ⟨v20, h21, hr⟩ := bind_some hr
     obtain ⟨h22, h23⟩ := qi h21
     refine qh ttOK 0 rfl rfl rfl rfl h22 (Tm.encL_get h23) ?_
     intro a24 c24 _ _
     obtain ⟨v25, h26, hr⟩ := bind_some hr
     refine (ih3 n (by omega) v1 v4 v15 v20 a2 c2 a3 c3 a5 c5 a19 c19 a24 c24 _ h26).atR [1, 2, 3, 6, 7] rfl rfl rfl ?_
     rintro _ _ ⟨rfl, rfl⟩
     refine AtIf.mk (fun h27 => ?_) (fun h27 => ?_)
     ·replace hr := qg h27 hr
      replace hr := osi hr; subst hr
      exact qa [.nil 4] [(.slice none 0 0, .sl 4 [])] rfl rfl ⟨none, 0, rfl, rfl⟩
     ·replace hr := qf h27 hr
      obtain ⟨v28, h29, hr⟩ := bind_some hr
      obtain ⟨h30, h31⟩ := qi h29
      obtain ⟨v34, h35, hr⟩ := bind_some hr
      refine qh ttOK 4 rfl rfl rfl rfl h30 (Tm.encL_get h31) ?_
      intro a37 c37 _ _
      refine ⟨?_, ?_⟩
      ·
       refine qk (n := 1) ttOK 48 [.agg [.int .i64 v28.op, .int .i64 v28.hd, .int .i64 v28.n, .sl 4 (Tm.encL v28.args)]] (ds' := (Tm.encL ([v28]))) rfl (by kernel_rfl) ⟨⟨rfl, rfl, rfl, ⟨[(iS v28.op)], _, rfl, rfl, ⟨[(iS v28.hd)], _, rfl, rfl, ⟨[(iS v28.n)], _, rfl, rfl, ⟨[(tU v28.args a37 c37)], _, rfl, (.inl ⟨_, rfl, ql (j := 8) rfl⟩), rfl⟩⟩⟩⟩⟩, trivial⟩ rfl (by simp only [Tm.encL_eq, List.map_cons, List.map_nil, Tm.enc_eq] <;> rfl) (by decide) (by decide) ?_
       intro a38
       refine ⟨fun _ _ h => h, ?_⟩
       refine ⟨?_, ?_⟩
       ·
        refine (qcd n v10 ([v28]) a11 c11 a38 1 _ h35).atR [0, 9] rfl rfl rfl ?_
        rintro _ _ ⟨a39, c39, rfl, rfl⟩
        refine ⟨OwnKeptBut.append, ?_⟩
        refine AtIf.mk (fun h40 => ?_) (fun h40 => ?_)
        ·replace hr := qg h40 hr
         replace hr := osi hr; subst hr
         exact qa [.nil 4] [(.slice none 0 0, .sl 4 [])] rfl rfl ⟨none, 0, rfl, rfl⟩
        ·replace hr := qf h40 hr
         exact ⟨(n, v34.1, a39, c39, (IntKind.i64.wrap (v12 + 1))), ⟨by omega, hr⟩, Nat.lt_succ_self _, ⟨rfl, rfl, rfl, rfl, rfl, rfl, trivial⟩, (StLe.gen 3 [] [.old 10, .old 1, .old 2, .old 3, .old 4, .old 5] rfl rfl rfl rfl rfl rfl rfl)⟩
       ·
        refine ⟨OwnKeptBut.append, ?_⟩
        refine (qcd n v10 ([v28]) a11 c11 a38 1 _ h35).atR [0, 9] rfl rfl rfl ?_
        rintro _ _ ⟨a41, c41, rfl, rfl⟩
        refine AtIf.mk (fun h40 => ?_) (fun h40 => ?_)
        ·replace hr := qg h40 hr
         replace hr := osi hr; subst hr
         exact qa [.nil 4] [(.slice none 0 0, .sl 4 [])] rfl rfl ⟨none, 0, rfl, rfl⟩
        ·replace hr := qf h40 hr
         exact ⟨(n, v34.1, a41, c41, (IntKind.i64.wrap (v12 + 1))), ⟨by omega, hr⟩, Nat.lt_succ_self _, ⟨rfl, rfl, rfl, rfl, rfl, rfl, trivial⟩, (StLe.gen 3 [] [.old 10, .old 1, .old 2, .old 3, .old 4, .old 5] rfl rfl rfl rfl rfl rfl rfl)⟩
      ·
       refine ⟨OwnKeptBut.append, ?_⟩
       refine qk (n := 1) ttOK 48 [.agg [.int .i64 v28.op, .int .i64 v28.hd, .int .i64 v28.n, .sl 4 (Tm.encL v28.args)]] (ds' := (Tm.encL ([v28]))) rfl (by kernel_rfl) ⟨⟨rfl, rfl, rfl, ⟨[(iS v28.op)], _, rfl, rfl, ⟨[(iS v28.hd)], _, rfl, rfl, ⟨[(iS v28.n)], _, rfl, rfl, ⟨[(tU v28.args a37 c37)], _, rfl, (.inl ⟨_, rfl, ql (j := 8) rfl⟩), rfl⟩⟩⟩⟩⟩, trivial⟩ rfl (by simp only [Tm.encL_eq, List.map_cons, List.map_nil, Tm.enc_eq] <;> rfl) (by decide) (by decide) ?_
       intro a42
       refine ⟨fun _ _ h => h, ?_⟩
       refine (qcd n v10 ([v28]) a11 c11 a42 1 _ h35).atR [0, 9] rfl rfl rfl ?_
       rintro _ _ ⟨a43, c43, rfl, rfl⟩
       refine AtIf.mk (fun h40 => ?_) (fun h40 => ?_)
       ·replace hr := qg h40 hr
        replace hr := osi hr; subst hr
        exact qa [.nil 4] [(.slice none 0 0, .sl 4 [])] rfl rfl ⟨none, 0, rfl, rfl⟩
       ·replace hr := qf h40 hr
        exact ⟨(n, v34.1, a43, c43, (IntKind.i64.wrap (v12 + 1))), ⟨by omega, hr⟩, Nat.lt_succ_self _, ⟨rfl, rfl, rfl, rfl, rfl, rfl, trivial⟩, (StLe.gen 3 [] [.old 10, .old 1, .old 2, .old 3, .old 4, .old 5] rfl rfl rfl rfl rfl rfl rfl)⟩
   ·replace hr := qf h13 hr
    replace hr := osi hr; subst hr
    exact qa [.old 0] [(tQ v10.args a11 c11)] rfl rfl ⟨a11, c11, rfl, rfl⟩
  ·
   intro n hn v1 v4 v6 a2 c2 a3 c3 a5 c5 a7 c7 r hr
   rcases n with _ | n
   ·exact qe hr
   replace hn : n ≤ N := by omega
   rw [R06_Kernel_Infer.eq_2] at hr
   refine qb (N := 44) (m := 0) (dt := fun _ => none) [] ttOK func159 rfl call159 ntmps159 rfl rfl rfl mixed (by kernel_rfl) ?_
   refine AtIf.mk (fun h8 => ?_) (fun h8 => ?_)
   ·replace hr := qg h8 hr
    replace hr := osi hr; subst hr
    exact qa [.nil 4] [(.slice none 0 0, .sl 4 [])] rfl rfl ⟨none, 0, rfl, rfl⟩
   ·replace hr := qf h8 hr
    obtain ⟨v9, h10, hr⟩ := bind_some hr
    refine (qe0 n v1 v4 v6 a2 c2 a3 c3 a5 c5 a7 c7 _ h10).atR [0, 1, 2, 3] rfl rfl rfl ?_
    rintro _ _ ⟨a11, c11, rfl, rfl⟩
    refine AtIf.mk (fun h12 => ?_) (fun h12 => ?_)
    ·replace hr := qg h12 hr
     replace hr := osi hr; subst hr
     exact qa [.nil 4] [(.slice none 0 0, .sl 4 [])] rfl rfl ⟨none, 0, rfl, rfl⟩
    ·replace hr := qf h12 hr
     obtain ⟨v13, h14, hr⟩ := bind_some hr
     refine (ih1 n (by omega) v1 v4 v6.args v9.1 a2 c2 a3 c3 a5 c5 a7 c7 a11 c11 _ h14).atR [0, 1, 2, 3, 4] rfl rfl rfl ?_
     rintro _ _ ⟨a15, c15, rfl, rfl⟩
     refine AtIf.mk (fun h16 => ?_) (fun h16 => ?_)
     ·replace hr := qg h16 hr
      replace hr := osi hr; subst hr
      exact qa [.nil 4] [(.slice none 0 0, .sl 4 [])] rfl rfl ⟨none, 0, rfl, rfl⟩
     ·replace hr := qf h16 hr
      refine AtIf.mk (fun h17 => ?_) (fun h17 => ?_)
      ·replace hr := qg h17 hr
       replace hr := osi hr; subst hr
       exact qa [.nil 4] [(.slice none 0 0, .sl 4 [])] rfl rfl ⟨none, 0, rfl, rfl⟩
      ·replace hr := qf h17 hr
       replace hr := osi hr; subst hr
       exact qa [.old 5] [(tQ v13.1.args a15 c15)] rfl rfl ⟨a15, c15, rfl, rfl⟩
  ·
   intro n hn v1 v4 v6 v8 a2 c2 a3 c3 a5 c5 a7 c7 a9 c9 r hr
   rcases n with _ | n
   ·exact qe hr
   replace hn : n ≤ N := by omega
   rw [R06_Kernel_Object.eq_2] at hr
   refine qb (N := 65) (m := 0) (dt := drawsOf [(10, .node [0, 1, 2, 3, 4, 5, 6, 7, 8, 9] [(10, .leaf [11])], [10], [])]) [] ttOK func90 rfl call90 ntmps90 rfl rfl rfl mixed (by kernel_rfl) ?_
   refine AtIf.mk (fun h10 => ?_) (fun h10 => ?_)
   ·replace hr := qg h10 hr
    refine AtIf.mk (fun h11 => ?_) (fun h11 => ?_)
    ·replace hr := qg h11 hr
     replace hr := osi hr; subst hr
     exact qa [] [] rfl rfl ⟨rfl, rfl⟩
    ·replace hr := qf h11 hr
     refine AtIf.mk (fun h12 => ?_) (fun h12 => ?_)
     ·replace hr := qg h12 hr
      replace hr := osi hr; subst hr
      exact qa [] [] rfl rfl ⟨rfl, rfl⟩
     ·replace hr := qf h12 hr
      obtain ⟨v13, h14, hr⟩ := bind_some hr
      obtain ⟨h15, h16⟩ := qi h14
      refine qh ttOK 4 rfl rfl rfl rfl h15 (Tm.encL_get h16) ?_
      intro a17 c17 _ _
      obtain ⟨v18, h19, hr⟩ := bind_some hr
      refine (qfb n v4 v13 a5 c5 a17 c17 _ h19).atR [2, 5] rfl rfl rfl ?_
      rintro _ _ ⟨a20, c20, rfl, rfl⟩
      refine AtIf.mk (fun h21 => ?_) (fun h21 => ?_)
      ·replace hr := qg h21 hr
       replace hr := osi hr; subst hr
       exact qa [] [] rfl rfl ⟨rfl, rfl⟩
      ·replace hr := qf h21 hr
       obtain ⟨v22, h23, hr⟩ := bind_some hr
       obtain ⟨h24, h25⟩ := qi h23
       refine qh ttOK 3 rfl rfl rfl rfl h24 (Tm.encL_get h25) ?_
       intro a26 c26 _ _
       obtain ⟨v27, h28, hr⟩ := bind_some hr
       obtain ⟨h29, h30⟩ := qi h28
       refine qh ttOK 4 rfl rfl rfl rfl h29 (Tm.encL_get h30) ?_
       intro a31 c31 _ _
       obtain ⟨v32, h33, hr⟩ := bind_some hr
       refine (ih3 n (by omega) v1 v18.1 v22 v27 a2 c2 a3 c3 a20 c20 a26 c26 a31 c31 _ h33).atR [0, 1, 6, 7, 8] rfl rfl rfl ?_
       rintro _ _ ⟨rfl, rfl⟩
       replace hr := osi hr; subst hr
       exact qa [] [] rfl rfl ⟨rfl, rfl⟩
   ·replace hr := qf h10 hr
    refine AtIf.mk (fun h34 => ?_) (fun h34 => ?_)
    ·replace hr := qg h34 hr
     refine AtIf.mk (fun h35 => ?_) (fun h35 => ?_)
     ·replace hr := qg h35 hr
      replace hr := osi hr; subst hr
      exact qa [] [] rfl rfl ⟨rfl, rfl⟩
     ·replace hr := qf h35 hr
      obtain ⟨v36, h37, hr⟩ := bind_some hr
      refine (ih2 n (by omega) v1 v4 v6 a2 c2 a3 c3 a5 c5 a7 c7 _ h37).atR [0, 1, 2, 3] rfl rfl rfl ?_
      rintro _ _ ⟨a38, c38, rfl, rfl⟩
      refine AtIf.mk (fun h39 => ?_) (fun h39 => ?_)
      ·replace hr := qg h39 hr
       replace hr := osi hr; subst hr
       exact qa [] [] rfl rfl ⟨rfl, rfl⟩
      ·replace hr := qf h39 hr
       refine (qic v8 v36.1 a9 a38 c9 c38).atR [4, 5] rfl rfl rfl ?_
       rintro _ _ ⟨rfl, rfl⟩
       refine AtIf.mk (fun h40 => ?_) (fun h40 => ?_)
       ·replace hr := qg h40 hr
        replace hr := osi hr; subst hr
        exact qa [] [] rfl rfl ⟨rfl, rfl⟩
       ·replace hr := qf h40 hr
        replace hr := osi hr; subst hr
        exact qa [] [] rfl rfl ⟨rfl, rfl⟩
    ·replace hr := qf h34 hr
     replace hr := osi hr; subst hr
     exact qa [] [] rfl rfl ⟨rfl, rfl⟩
theorem qcr (n : Nat) (v1 : Kn) (v4 : (List Tm)) (v6 : (List Tm)) (v8 : Tm) (a2 : OA) (c2 : Nat) (a3 : OA) (c3 : Nat) (a5 : OA) (c5 : Nat) (a7 : OA) (c7 : Nat) (a9 : OA) (c9 : Nat) (r : Tm × Int) (hr : R06_Kernel_fits n v1 v4 v6 v8 = some r) : Pure Tryz.prog (.val (.fn (.func 157) [] [])) [(.agg [(.v (.slice a2 ((Dc.encL v1.sig).length) c2)), (.v (.slice a3 ((Mt.encL v1.metas).length) c3))]), (tU v4 a5 c5), (tU v6 a7 c7), (.agg [(iS v8.op), (iS v8.hd), (iS v8.n), (tU v8.args a9 c9)])] [(.slice a2 ((Dc.encL v1.sig).length) c2, .sl 6 (Dc.encL v1.sig)), (.slice a3 ((Mt.encL v1.metas).length) c3, .sl 10 (Mt.encL v1.metas)), (tQ v4 a5 c5), (tQ v6 a7 c7), (tQ v8.args a9 c9)] (fun r' out => ∃ (b1 : OA) (d1 : Nat), r' = (.tup [(.agg [(iS r.1.op), (iS r.1.hd), (iS r.1.n), (tU r.1.args b1 d1)]), (iS r.2)]) ∧ out = [(tQ r.1.args b1 d1)]) := (qez n).1 n (Nat.le_refl _) v1 v4 v6 v8 a2 c2 a3 c3 a5 c5 a7 c7 a9 c9 r hr
mutual
def R06_Kernel_pi : Nat → Kn → (List Tm) → Tm → Bool → Option (Int)
 | 0, _, _, _, _ => none
 | n + 1, v1, v4, v6, v8 =>
  (idx v6.args 0).bind (fun v9 =>
  (R06_Kernel_Type n v1 v4 v9).bind (fun v14 =>
  cond (v14 != 0) (
  some (v14)) (
  (idx v6.args 0).bind (fun v17 =>
  (R06_longer n v4 v17).bind (fun v22 =>
  cond (v22.2 != 0) (
  some (v22.2)) (
  cond v8 (
  (idx v6.args 1).bind (fun v27 =>
  (R06_Kernel_Kind n v1 v22.1 v27).bind (fun v32 =>
  some (v32)))) (
  (idx v6.args 1).bind (fun v34 =>
  (R06_Kernel_Type n v1 v22.1 v34).bind (fun v39 =>
  some (v39))))))))))
def R06_Kernel_Kind : Nat → Kn → (List Tm) → Tm → Option (Int)
 | 0, _, _, _ => none
 | n + 1, v1, v4, v6 =>
  cond (v6.op == 1) (
  some (0)) (
  cond (v6.op == 2) (
  (R06_Kernel_pi n v1 v4 v6 true).bind (fun v10 =>
  some (v10))) (
  some (22)))
def R06_Kernel_Type : Nat → Kn → (List Tm) → Tm → Option (Int)
 | 0, _, _, _ => none
 | n + 1, v1, v4, v6 =>
  cond (v6.op == 2) (
  (R06_Kernel_pi n v1 v4 v6 false).bind (fun v9 =>
  some (v9))) (
  cond ((v6.op != 4) || (v6.hd != 2)) (
  some (22)) (
  (R05_Has n v1.sig v6.n).bind (fun v12 =>
  cond (!v12) (
  some (27)) (
  (R05_IsFamily n v1.sig v6.n).bind (fun v15 =>
  cond (!v15) (
  some (22)) (
  (idx v1.sig v6.n).bind (fun v18 =>
  (R06_Kernel_fits n v1 v4 v6.args v18.cls).bind (fun v23 =>
  cond (v23.2 != 0) (
  some (v23.2)) (
  cond (v23.1.op != 1) (
  some (23)) (
  some (0)))))))))))
 end
theorem qde : ∀ (N : Nat), (∀ (n : Nat), n ≤ N → ∀ (v1 : Kn) (v4 : (List Tm)) (v6 : Tm) (v8 : Bool) (a2 : OA) (c2 : Nat) (a3 : OA) (c3 : Nat) (a5 : OA) (c5 : Nat) (a7 : OA) (c7 : Nat) (r : Int), R06_Kernel_pi n v1 v4 v6 v8 = some r → Pure Tryz.prog (.val (.fn (.func 156) [] [])) [(.agg [(.v (.slice a2 ((Dc.encL v1.sig).length) c2)), (.v (.slice a3 ((Mt.encL v1.metas).length) c3))]), (tU v4 a5 c5), (.agg [(iS v6.op), (iS v6.hd), (iS v6.n), (tU v6.args a7 c7)]), (bS v8)] [(.slice a2 ((Dc.encL v1.sig).length) c2, .sl 6 (Dc.encL v1.sig)), (.slice a3 ((Mt.encL v1.metas).length) c3, .sl 10 (Mt.encL v1.metas)), (tQ v4 a5 c5), (tQ v6.args a7 c7)] (fun r' out => r' = (iS r) ∧ out = [])) ∧ (∀ (n : Nat), n ≤ N → ∀ (v1 : Kn) (v4 : (List Tm)) (v6 : Tm) (a2 : OA) (c2 : Nat) (a3 : OA) (c3 : Nat) (a5 : OA) (c5 : Nat) (a7 : OA) (c7 : Nat) (r : Int), R06_Kernel_Kind n v1 v4 v6 = some r → Pure Tryz.prog (.val (.fn (.func 231) [] [])) [(.agg [(.v (.slice a2 ((Dc.encL v1.sig).length) c2)), (.v (.slice a3 ((Mt.encL v1.metas).length) c3))]), (tU v4 a5 c5), (.agg [(iS v6.op), (iS v6.hd), (iS v6.n), (tU v6.args a7 c7)])] [(.slice a2 ((Dc.encL v1.sig).length) c2, .sl 6 (Dc.encL v1.sig)), (.slice a3 ((Mt.encL v1.metas).length) c3, .sl 10 (Mt.encL v1.metas)), (tQ v4 a5 c5), (tQ v6.args a7 c7)] (fun r' out => r' = (iS r) ∧ out = [])) ∧ (∀ (n : Nat), n ≤ N → ∀ (v1 : Kn) (v4 : (List Tm)) (v6 : Tm) (a2 : OA) (c2 : Nat) (a3 : OA) (c3 : Nat) (a5 : OA) (c5 : Nat) (a7 : OA) (c7 : Nat) (r : Int), R06_Kernel_Type n v1 v4 v6 = some r → Pure Tryz.prog (.val (.fn (.func 89) [] [])) [(.agg [(.v (.slice a2 ((Dc.encL v1.sig).length) c2)), (.v (.slice a3 ((Mt.encL v1.metas).length) c3))]), (tU v4 a5 c5), (.agg [(iS v6.op), (iS v6.hd), (iS v6.n), (tU v6.args a7 c7)])] [(.slice a2 ((Dc.encL v1.sig).length) c2, .sl 6 (Dc.encL v1.sig)), (.slice a3 ((Mt.encL v1.metas).length) c3, .sl 10 (Mt.encL v1.metas)), (tQ v4 a5 c5), (tQ v6.args a7 c7)] (fun r' out => r' = (iS r) ∧ out = [])) := by
 intro N
 induction N with
 | zero =>
  refine ⟨?_, ?_, ?_⟩
  ·intro n hn v1 v4 v6 v8 a2 c2 a3 c3 a5 c5 a7 c7 r hr; obtain rfl : n = 0 := (by omega); exact qe hr
  ·intro n hn v1 v4 v6 a2 c2 a3 c3 a5 c5 a7 c7 r hr; obtain rfl : n = 0 := (by omega); exact qe hr
  ·intro n hn v1 v4 v6 a2 c2 a3 c3 a5 c5 a7 c7 r hr; obtain rfl : n = 0 := (by omega); exact qe hr
 | succ N ih =>
  obtain ⟨ih1, ih2, ih3⟩ := ih
  refine ⟨?_, ?_, ?_⟩
  ·
   intro n hn v1 v4 v6 v8 a2 c2 a3 c3 a5 c5 a7 c7 r hr
   rcases n with _ | n
   ·exact qe hr
   replace hn : n ≤ N := by omega
   rw [R06_Kernel_pi.eq_2] at hr
   refine qb (N := 49) (m := 0) (dt := drawsOf [(1, .node [0, 1, 2, 3, 4, 5] [(6, .leaf [7])], [6], []), (8, .node [0, 1, 2, 3, 4, 5] [(6, .leaf [7])], [6], []), (9, .node [0, 1, 2, 3, 4, 5] [(6, .leaf [7])], [6], [])]) [] ttOK func156 rfl call156 ntmps156 rfl rfl rfl mixed (by kernel_rfl) ?_
   obtain ⟨v9, h10, hr⟩ := bind_some hr
   obtain ⟨h11, h12⟩ := qi h10
   refine qh ttOK 3 rfl rfl rfl rfl h11 (Tm.encL_get h12) ?_
   intro a13 c13 _ _
   obtain ⟨v14, h15, hr⟩ := bind_some hr
   refine (ih3 n (by omega) v1 v4 v9 a2 c2 a3 c3 a5 c5 a13 c13 _ h15).atR [0, 1, 2, 4] rfl rfl rfl ?_
   rintro _ _ ⟨rfl, rfl⟩
   refine AtIf.mk (fun h16 => ?_) (fun h16 => ?_)
   ·replace hr := qg h16 hr
    replace hr := osi hr; subst hr
    exact qa [] [] rfl rfl ⟨rfl, rfl⟩
   ·replace hr := qf h16 hr
    obtain ⟨v17, h18, hr⟩ := bind_some hr
    obtain ⟨h19, h20⟩ := qi h18
    refine qh ttOK 3 rfl rfl rfl rfl h19 (Tm.encL_get h20) ?_
    intro a21 c21 _ _
    obtain ⟨v22, h23, hr⟩ := bind_some hr
    refine (qfb n v4 v17 a5 c5 a21 c21 _ h23).atR [2, 5] rfl rfl rfl ?_
    rintro _ _ ⟨a24, c24, rfl, rfl⟩
    refine AtIf.mk (fun h25 => ?_) (fun h25 => ?_)
    ·replace hr := qg h25 hr
     replace hr := osi hr; subst hr
     exact qa [] [] rfl rfl ⟨rfl, rfl⟩
    ·replace hr := qf h25 hr
     refine AtIf.mk (fun h26 => ?_) (fun h26 => ?_)
     ·replace hr := qg h26 hr
      obtain ⟨v27, h28, hr⟩ := bind_some hr
      obtain ⟨h29, h30⟩ := qi h28
      refine qh ttOK 3 rfl rfl rfl rfl h29 (Tm.encL_get h30) ?_
      intro a31 c31 _ _
      obtain ⟨v32, h33, hr⟩ := bind_some hr
      refine (ih2 n (by omega) v1 v22.1 v27 a2 c2 a3 c3 a24 c24 a31 c31 _ h33).atR [0, 1, 6, 7] rfl rfl rfl ?_
      rintro _ _ ⟨rfl, rfl⟩
      replace hr := osi hr; subst hr
      exact qa [] [] rfl rfl ⟨rfl, rfl⟩
     ·replace hr := qf h26 hr
      obtain ⟨v34, h35, hr⟩ := bind_some hr
      obtain ⟨h36, h37⟩ := qi h35
      refine qh ttOK 3 rfl rfl rfl rfl h36 (Tm.encL_get h37) ?_
      intro a38 c38 _ _
      obtain ⟨v39, h40, hr⟩ := bind_some hr
      refine (ih3 n (by omega) v1 v22.1 v34 a2 c2 a3 c3 a24 c24 a38 c38 _ h40).atR [0, 1, 6, 7] rfl rfl rfl ?_
      rintro _ _ ⟨rfl, rfl⟩
      replace hr := osi hr; subst hr
      exact qa [] [] rfl rfl ⟨rfl, rfl⟩
  ·
   intro n hn v1 v4 v6 a2 c2 a3 c3 a5 c5 a7 c7 r hr
   rcases n with _ | n
   ·exact qe hr
   replace hn : n ≤ N := by omega
   rw [R06_Kernel_Kind.eq_2] at hr
   refine qb (N := 17) (m := 0) (dt := fun _ => none) [] ttOK func231 rfl call231 ntmps231 rfl rfl rfl mixed (by kernel_rfl) ?_
   refine AtIf.mk (fun h8 => ?_) (fun h8 => ?_)
   ·replace hr := qg h8 hr
    replace hr := osi hr; subst hr
    exact qa [] [] rfl rfl ⟨rfl, rfl⟩
   ·replace hr := qf h8 hr
    refine AtIf.mk (fun h9 => ?_) (fun h9 => ?_)
    ·replace hr := qg h9 hr
     obtain ⟨v10, h11, hr⟩ := bind_some hr
     refine (ih1 n (by omega) v1 v4 v6 true a2 c2 a3 c3 a5 c5 a7 c7 _ h11).atR [0, 1, 2, 3] rfl rfl rfl ?_
     rintro _ _ ⟨rfl, rfl⟩
     replace hr := osi hr; subst hr
     exact qa [] [] rfl rfl ⟨rfl, rfl⟩
    ·replace hr := qf h9 hr
     replace hr := osi hr; subst hr
     exact qa [] [] rfl rfl ⟨rfl, rfl⟩
  ·
   intro n hn v1 v4 v6 a2 c2 a3 c3 a5 c5 a7 c7 r hr
   rcases n with _ | n
   ·exact qe hr
   replace hn : n ≤ N := by omega
   rw [R06_Kernel_Type.eq_2] at hr
   refine qb (N := 61) (m := 0) (dt := drawsOf [(9, .node [0, 1, 2, 3, 4, 5, 6, 7, 8, 9, 10] [(11, .node [12, 13, 14] [(15, .node [] [(16, .leaf [17])])]), (15, .node [] [(11, .node [12, 13, 14] [(16, .leaf [17])])])], [11, 16], [])]) [] ttOK func89 rfl call89 ntmps89 rfl rfl rfl mixed (by kernel_rfl) ?_
   refine AtIf.mk (fun h8 => ?_) (fun h8 => ?_)
   ·replace hr := qg h8 hr
    obtain ⟨v9, h10, hr⟩ := bind_some hr
    refine (ih1 n (by omega) v1 v4 v6 false a2 c2 a3 c3 a5 c5 a7 c7 _ h10).atR [0, 1, 2, 3] rfl rfl rfl ?_
    rintro _ _ ⟨rfl, rfl⟩
    replace hr := osi hr; subst hr
    exact qa [] [] rfl rfl ⟨rfl, rfl⟩
   ·replace hr := qf h8 hr
    refine AtIf.mk (fun h11 => ?_) (fun h11 => ?_)
    ·replace hr := qg h11 hr
     replace hr := osi hr; subst hr
     exact qa [] [] rfl rfl ⟨rfl, rfl⟩
    ·replace hr := qf h11 hr
     obtain ⟨v12, h13, hr⟩ := bind_some hr
     refine (qh2 n v1.sig v6.n a2 c2 _ h13).atR [0] rfl rfl rfl ?_
     rintro _ _ ⟨rfl, rfl⟩
     refine AtIf.mk (fun h14 => ?_) (fun h14 => ?_)
     ·replace hr := qg h14 hr
      replace hr := osi hr; subst hr
      exact qa [] [] rfl rfl ⟨rfl, rfl⟩
     ·replace hr := qf h14 hr
      obtain ⟨v15, h16, hr⟩ := bind_some hr
      refine (qdz n v1.sig v6.n a2 c2 _ h16).atR [0] rfl rfl rfl ?_
      rintro _ _ ⟨rfl, rfl⟩
      refine AtIf.mk (fun h17 => ?_) (fun h17 => ?_)
      ·replace hr := qg h17 hr
       replace hr := osi hr; subst hr
       exact qa [] [] rfl rfl ⟨rfl, rfl⟩
      ·replace hr := qf h17 hr
       obtain ⟨v18, h19, hr⟩ := bind_some hr
       obtain ⟨h20, h21⟩ := qi h19
       obtain ⟨v23, h24, hr⟩ := bind_some hr
       refine qh ttOK 0 rfl rfl rfl rfl h20 (Dc.encL_get h21) ?_
       intro a26 c26 _ _
       refine ⟨?_, ?_⟩
       ·
        refine (qcr n v1 v4 v6.args v18.cls a2 c2 a3 c3 a5 c5 a7 c7 a26 c26 _ h24).atR [0, 1, 2, 3, 4] rfl rfl rfl ?_
        rintro _ _ ⟨a27, c27, rfl, rfl⟩
        refine ⟨OwnKeptBut.append, ?_⟩
        refine AtIf.mk (fun h28 => ?_) (fun h28 => ?_)
        ·replace hr := qg h28 hr
         replace hr := osi hr; subst hr
         exact qa [] [] rfl rfl ⟨rfl, rfl⟩
        ·replace hr := qf h28 hr
         refine AtIf.mk (fun h29 => ?_) (fun h29 => ?_)
         ·replace hr := qg h29 hr
          replace hr := osi hr; subst hr
          exact qa [] [] rfl rfl ⟨rfl, rfl⟩
         ·replace hr := qf h29 hr
          replace hr := osi hr; subst hr
          exact qa [] [] rfl rfl ⟨rfl, rfl⟩
       ·
        refine ⟨OwnKeptBut.append, ?_⟩
        refine (qcr n v1 v4 v6.args v18.cls a2 c2 a3 c3 a5 c5 a7 c7 a26 c26 _ h24).atR [0, 1, 2, 3, 4] rfl rfl rfl ?_
        rintro _ _ ⟨a30, c30, rfl, rfl⟩
        refine AtIf.mk (fun h28 => ?_) (fun h28 => ?_)
        ·replace hr := qg h28 hr
         replace hr := osi hr; subst hr
         exact qa [] [] rfl rfl ⟨rfl, rfl⟩
        ·replace hr := qf h28 hr
         refine AtIf.mk (fun h29 => ?_) (fun h29 => ?_)
         ·replace hr := qg h29 hr
          replace hr := osi hr; subst hr
          exact qa [] [] rfl rfl ⟨rfl, rfl⟩
         ·replace hr := qf h29 hr
          replace hr := osi hr; subst hr
          exact qa [] [] rfl rfl ⟨rfl, rfl⟩
theorem qfl (n : Nat) (v1 : Kn) (v4 : (List Tm)) (v6 : Tm) (a2 : OA) (c2 : Nat) (a3 : OA) (c3 : Nat) (a5 : OA) (c5 : Nat) (a7 : OA) (c7 : Nat) (r : Int) (hr : R06_Kernel_Kind n v1 v4 v6 = some r) : Pure Tryz.prog (.val (.fn (.func 231) [] [])) [(.agg [(.v (.slice a2 ((Dc.encL v1.sig).length) c2)), (.v (.slice a3 ((Mt.encL v1.metas).length) c3))]), (tU v4 a5 c5), (.agg [(iS v6.op), (iS v6.hd), (iS v6.n), (tU v6.args a7 c7)])] [(.slice a2 ((Dc.encL v1.sig).length) c2, .sl 6 (Dc.encL v1.sig)), (.slice a3 ((Mt.encL v1.metas).length) c3, .sl 10 (Mt.encL v1.metas)), (tQ v4 a5 c5), (tQ v6.args a7 c7)] (fun r' out => r' = (iS r) ∧ out = []) := (qde n).2.1 n (Nat.le_refl _) v1 v4 v6 a2 c2 a3 c3 a5 c5 a7 c7 r hr
theorem qcs (n : Nat) (v1 : Kn) (v4 : (List Tm)) (v6 : Tm) (a2 : OA) (c2 : Nat) (a3 : OA) (c3 : Nat) (a5 : OA) (c5 : Nat) (a7 : OA) (c7 : Nat) (r : Int) (hr : R06_Kernel_Type n v1 v4 v6 = some r) : Pure Tryz.prog (.val (.fn (.func 89) [] [])) [(.agg [(.v (.slice a2 ((Dc.encL v1.sig).length) c2)), (.v (.slice a3 ((Mt.encL v1.metas).length) c3))]), (tU v4 a5 c5), (.agg [(iS v6.op), (iS v6.hd), (iS v6.n), (tU v6.args a7 c7)])] [(.slice a2 ((Dc.encL v1.sig).length) c2, .sl 6 (Dc.encL v1.sig)), (.slice a3 ((Mt.encL v1.metas).length) c3, .sl 10 (Mt.encL v1.metas)), (tQ v4 a5 c5), (tQ v6.args a7 c7)] (fun r' out => r' = (iS r) ∧ out = []) := (qde n).2.2 n (Nat.le_refl _) v1 v4 v6 a2 c2 a3 c3 a5 c5 a7 c7 r hr
def R06_Kernel_Class : Nat → Kn → Tm → Option (Int)
 | 0, _, _ => none
 | n + 1, v1, v4 =>
  (R03_Split n v4).bind (fun v6 =>
  cond (v6.2.op == 1) (
  (R06_Kernel_Kind n v1 ([]) v4).bind (fun v11 =>
  some (v11))) (
  (R06_Kernel_Type n v1 ([]) v4).bind (fun v13 =>
  some (v13))))
theorem qe1 (n : Nat) (v1 : Kn) (v4 : Tm) (a2 : OA) (c2 : Nat) (a3 : OA) (c3 : Nat) (a5 : OA) (c5 : Nat) (r : Int) (hr : R06_Kernel_Class n v1 v4 = some r) : Pure Tryz.prog (.val (.fn (.func 155) [] [])) [(.agg [(.v (.slice a2 ((Dc.encL v1.sig).length) c2)), (.v (.slice a3 ((Mt.encL v1.metas).length) c3))]), (.agg [(iS v4.op), (iS v4.hd), (iS v4.n), (tU v4.args a5 c5)])] [(.slice a2 ((Dc.encL v1.sig).length) c2, .sl 6 (Dc.encL v1.sig)), (.slice a3 ((Mt.encL v1.metas).length) c3, .sl 10 (Mt.encL v1.metas)), (tQ v4.args a5 c5)] (fun r' out => r' = (iS r) ∧ out = []) := by
 rcases n with _ | n
 ·exact qe hr
 rw [R06_Kernel_Class.eq_2] at hr
 refine qb (N := 21) (m := 0) (dt := fun _ => none) [] ttOK func155 rfl call155 ntmps155 rfl rfl rfl mixed (by kernel_rfl) ?_
 obtain ⟨v6, h7, hr⟩ := bind_some hr
 refine (qds n v4 a5 c5 _ h7).atR [2] rfl rfl rfl ?_
 rintro _ _ ⟨a8, c8, a9, c9, rfl, rfl⟩
 refine AtIf.mk (fun h10 => ?_) (fun h10 => ?_)
 ·replace hr := qg h10 hr
  obtain ⟨v11, h12, hr⟩ := bind_some hr
  refine Meets.nilRep 4 ?_
  refine (qfl n v1 ([]) v4 a2 c2 a3 c3 none 0 a5 c5 _ h12).atR [1, 2, 0, 3] rfl rfl rfl ?_
  rintro _ _ ⟨rfl, rfl⟩
  replace hr := osi hr; subst hr
  exact qa [] [] rfl rfl ⟨rfl, rfl⟩
 ·replace hr := qf h10 hr
  obtain ⟨v13, h14, hr⟩ := bind_some hr
  refine Meets.nilRep 4 ?_
  refine (qcs n v1 ([]) v4 a2 c2 a3 c3 none 0 a5 c5 _ h14).atR [1, 2, 0, 3] rfl rfl rfl ?_
  rintro _ _ ⟨rfl, rfl⟩
  replace hr := osi hr; subst hr
  exact qa [] [] rfl rfl ⟨rfl, rfl⟩
mutual
def R06_Signature : Nat → (List Dc) → Option (Int × Int)
 | 0, _ => none
 | n + 1, v1 =>
  R06_Signature_L1 n v1 0
def R06_Signature_L1 : Nat → (List Dc) → Int → Option (Int × Int)
 | 0, _, _ => none
 | n + 1, v1, v3 =>
  cond (decide (v3 < ((Dc.encL v1).length : Int))) (
  (idx v1 v3).bind (fun v5 =>
  cond (decide ((0 : Int) ≤ (0 : Int) ∧ (0 : Int) ≤ v3 ∧ v3 ≤ ((Dc.encL v1).length : Int))) (
  (R06_Kernel_Class n (Kn.mk (v1.take v3.toNat) ([])) v5.cls).bind (fun v12 =>
  cond (v12 != 0) (
  some (v3, v12)) (
  R06_Signature_L1 n v1 (IntKind.i64.wrap (v3 + 1))))) none)) (
  some (((Dc.encL v1).length : Int), 0))
 end
theorem qg7 (n : Nat) (v1 : (List Dc)) (a2 : OA) (c2 : Nat) (r : Int × Int) (hr : R06_Signature n v1 = some r) : Pure Tryz.prog (.val (.fn (.func 86) [] [])) [(.v (.slice a2 ((Dc.encL v1).length) c2))] [(.slice a2 ((Dc.encL v1).length) c2, .sl 6 (Dc.encL v1))] (fun r' out => r' = (.tup [(iS r.1), (iS r.2)]) ∧ out = []) := by
 rcases n with _ | n
 ·exact qe hr
 rw [R06_Signature.eq_2] at hr
 refine qb (N := 30) (m := 0) (dt := fun _ => none) [] ttOK func86 rfl call86 ntmps86 rfl rfl rfl mixed (by kernel_rfl) ?_
 refine AtLoop.mk ⟨Nat × Int, fun x => [(0, (.v (.slice a2 ((Dc.encL v1).length) c2))), (8, (.v (.slice a2 ((Dc.encL v1).length) c2))), (9, (iS ((Dc.encL v1).length : Int))), (10, (iS x.2))], fun x => ⟨[], [], [(.slice a2 ((Dc.encL v1).length) c2, .sl 6 (Dc.encL v1))]⟩, fun x => R06_Signature_L1 x.1 v1 x.2 = some r, fun x => x.1, (n, 0), hr, ⟨rfl, rfl, rfl, rfl, trivial⟩, (StLe.gen 0 [] [.old 0] rfl rfl rfl rfl rfl rfl rfl), fun x _ => ⟨rfl, rfl⟩, ?_⟩
 rintro ⟨n, v3⟩ HH
 have hr : R06_Signature_L1 n v1 v3 = some r := HH
 rcases n with _ | n
 ·exact qe hr
 rw [R06_Signature_L1.eq_2] at hr
 refine AtIf.mk (fun h4 => ?_) (fun h4 => ?_)
 ·replace hr := qg h4 hr
  obtain ⟨v5, h6, hr⟩ := bind_some hr
  obtain ⟨h7, h8⟩ := qi h6
  refine qh ttOK 0 rfl rfl rfl rfl h7 (Dc.encL_get h8) ?_
  intro a9 c9 _ _
  obtain ⟨h10, hr⟩ := qj hr
  refine qaa ttOK 0 0 v3 (ds' := (Dc.encL (v1.take v3.toNat))) rfl rfl rfl (.inr ⟨rfl, rfl⟩) (.inl ⟨_, rfl⟩) h10 (by simp only [Dc.encL_eq]; exact sl_h ..) ?_
  intro a11 c11
  obtain ⟨v12, h13, hr⟩ := bind_some hr
  refine Meets.nilRep 10 ?_
  refine (qe1 n (Kn.mk (v1.take v3.toNat) ([])) v5.cls a11 c11 none 0 a9 c9 _ h13).atR [3, 0, 2] rfl rfl rfl ?_
  rintro _ _ ⟨rfl, rfl⟩
  refine AtIf.mk (fun h14 => ?_) (fun h14 => ?_)
  ·replace hr := qg h14 hr
   replace hr := osi hr; subst hr
   exact qa [] [] rfl rfl ⟨rfl, rfl⟩
  ·replace hr := qf h14 hr
   exact ⟨(n, (IntKind.i64.wrap (v3 + 1))), hr, Nat.lt_succ_self _, ⟨rfl, rfl, rfl, rfl, trivial⟩, (StLe.gen 0 [] [.old 1] rfl rfl rfl rfl rfl rfl rfl)⟩
 ·replace hr := qf h4 hr
  replace hr := osi hr; subst hr
  exact qa [] [] rfl rfl ⟨rfl, rfl⟩
mutual
def R03_nodes : Nat → Tm → Int → Option (Int)
 | 0, _, _ => none
 | n + 1, v1, v3 =>
  R03_nodes_L1 n v1 v3 1 0
def R03_nodes_L1 : Nat → Tm → Int → Int → Int → Option (Int)
 | 0, _, _, _, _ => none
 | n + 1, v1, v3, v4, v5 =>
  cond ((decide (v5 < ((Tm.encL v1.args).length : Int))) && (decide (v4 ≤ v3))) (
  (idx v1.args v5).bind (fun v7 =>
  (R03_nodes n v7 (IntKind.i64.wrap (v3 - v4))).bind (fun v12 =>
  R03_nodes_L1 n v1 v3 (IntKind.i64.wrap (v4 + v12)) (IntKind.i64.wrap (v5 + 1))))) (
  some ((if (IntKind.i64.wrap (v3 + 1)) < v4 then (IntKind.i64.wrap (v3 + 1)) else v4)))
 end
theorem qj9 : ∀ (N : Nat), (∀ (n : Nat), n ≤ N → ∀ (v1 : Tm) (v3 : Int) (a2 : OA) (c2 : Nat) (r : Int), R03_nodes n v1 v3 = some r → Pure Tryz.prog (.val (.fn (.func 113) [] [])) [(.agg [(iS v1.op), (iS v1.hd), (iS v1.n), (tU v1.args a2 c2)]), (iS v3)] [(tQ v1.args a2 c2)] (fun r' out => r' = (iS r) ∧ out = [])) := by
 intro N
 induction N with
 | zero =>
  intro n hn v1 v3 a2 c2 r hr; obtain rfl : n = 0 := (by omega); exact qe hr
 | succ N ih =>
  intro n hn v1 v3 a2 c2 r hr
  rcases n with _ | n
  ·exact qe hr
  replace hn : n ≤ N := by omega
  rw [R03_nodes.eq_2] at hr
  refine qb (N := 34) (m := 0) (dt := fun _ => none) [] ttOK func113 rfl call113 ntmps113 rfl rfl rfl mixed (by kernel_rfl) ?_
  refine AtLoop.mk ⟨Nat × Int × Int, fun x => [(1, (iS v3)), (2, (.loc 0 0)), (5, (iS x.2.1)), (6, (iS x.2.2))], fun x => ⟨[.cells 41 [(iS v1.op), (iS v1.hd), (iS v1.n), (tU v1.args a2 c2)]], [], [(tQ v1.args a2 c2)]⟩, fun x => x.1 ≤ N ∧ R03_nodes_L1 x.1 v1 v3 x.2.1 x.2.2 = some r, fun x => x.1, (n, 1, 0), ⟨by omega, hr⟩, ⟨rfl, rfl, rfl, rfl, trivial⟩, (StLe.gen 1 [] [.old 0] rfl rfl rfl rfl rfl rfl rfl), fun x _ => ⟨rfl, rfl⟩, ?_⟩
  rintro ⟨n, v4, v5⟩ HH
  obtain ⟨hn, hr⟩ : n ≤ N ∧ R03_nodes_L1 n v1 v3 v4 v5 = some r := HH
  rcases n with _ | n
  ·exact qe hr
  rw [R03_nodes_L1.eq_2] at hr
  refine AtIf.mk (fun h6 => ?_) (fun h6 => ?_)
  ·replace hr := qg h6 hr
   obtain ⟨v7, h8, hr⟩ := bind_some hr
   obtain ⟨h9, h10⟩ := qi h8
   refine qh ttOK 0 rfl rfl rfl rfl h9 (Tm.encL_get h10) ?_
   intro a11 c11 _ _
   obtain ⟨v12, h13, hr⟩ := bind_some hr
   refine (ih n (by omega) v7 (IntKind.i64.wrap (v3 - v4)) a11 c11 _ h13).atR [1] rfl rfl rfl ?_
   rintro _ _ ⟨rfl, rfl⟩
   exact ⟨(n, (IntKind.i64.wrap (v4 + v12)), (IntKind.i64.wrap (v5 + 1))), ⟨by omega, hr⟩, Nat.lt_succ_self _, ⟨rfl, rfl, rfl, rfl, trivial⟩, (StLe.gen 1 [] [.old 0] rfl rfl rfl rfl rfl rfl rfl)⟩
  ·replace hr := qf h6 hr
   refine at_min ?_
   replace hr := osi hr; subst hr
   exact qa [] [] rfl rfl ⟨rfl, rfl⟩
theorem qk5 (n : Nat) (v1 : Tm) (v3 : Int) (a2 : OA) (c2 : Nat) (r : Int) (hr : R03_nodes n v1 v3 = some r) : Pure Tryz.prog (.val (.fn (.func 113) [] [])) [(.agg [(iS v1.op), (iS v1.hd), (iS v1.n), (tU v1.args a2 c2)]), (iS v3)] [(tQ v1.args a2 c2)] (fun r' out => r' = (iS r) ∧ out = []) := (qj9 n) n (Nat.le_refl _) v1 v3 a2 c2 r hr
mutual
def R03_Depth : Nat → Tm → Option (Int)
 | 0, _ => none
 | n + 1, v1 =>
  R03_Depth_L1 n v1 0 0
def R03_Depth_L1 : Nat → Tm → Int → Int → Option (Int)
 | 0, _, _, _ => none
 | n + 1, v1, v3, v4 =>
  cond (decide (v4 < ((Tm.encL v1.args).length : Int))) (
  (idx v1.args v4).bind (fun v6 =>
  (R03_Depth n v6).bind (fun v11 =>
  R03_Depth_L1 n v1 (if v11 > v3 then v11 else v3) (IntKind.i64.wrap (v4 + 1))))) (
  some ((IntKind.i64.wrap (v3 + 1))))
 end
theorem qiz : ∀ (N : Nat), (∀ (n : Nat), n ≤ N → ∀ (v1 : Tm) (a2 : OA) (c2 : Nat) (r : Int), R03_Depth n v1 = some r → Pure Tryz.prog (.val (.fn (.func 188) [] [])) [(.agg [(iS v1.op), (iS v1.hd), (iS v1.n), (tU v1.args a2 c2)])] [(tQ v1.args a2 c2)] (fun r' out => r' = (iS r) ∧ out = [])) := by
 intro N
 induction N with
 | zero =>
  intro n hn v1 a2 c2 r hr; obtain rfl : n = 0 := (by omega); exact qe hr
 | succ N ih =>
  intro n hn v1 a2 c2 r hr
  rcases n with _ | n
  ·exact qe hr
  replace hn : n ≤ N := by omega
  rw [R03_Depth.eq_2] at hr
  refine qb (N := 22) (m := 0) (dt := fun _ => none) [] ttOK func188 rfl call188 ntmps188 rfl rfl rfl mixed (by kernel_rfl) ?_
  refine AtLoop.mk ⟨Nat × Int × Int, fun x => [(1, (.loc 0 0)), (3, (iS x.2.1)), (4, (iS x.2.2))], fun x => ⟨[.cells 41 [(iS v1.op), (iS v1.hd), (iS v1.n), (tU v1.args a2 c2)]], [], [(tQ v1.args a2 c2)]⟩, fun x => x.1 ≤ N ∧ R03_Depth_L1 x.1 v1 x.2.1 x.2.2 = some r, fun x => x.1, (n, 0, 0), ⟨by omega, hr⟩, ⟨rfl, rfl, rfl, trivial⟩, (StLe.gen 1 [] [.old 0] rfl rfl rfl rfl rfl rfl rfl), fun x _ => ⟨rfl, rfl⟩, ?_⟩
  rintro ⟨n, v3, v4⟩ HH
  obtain ⟨hn, hr⟩ : n ≤ N ∧ R03_Depth_L1 n v1 v3 v4 = some r := HH
  rcases n with _ | n
  ·exact qe hr
  rw [R03_Depth_L1.eq_2] at hr
  refine AtIf.mk (fun h5 => ?_) (fun h5 => ?_)
  ·replace hr := qg h5 hr
   obtain ⟨v6, h7, hr⟩ := bind_some hr
   obtain ⟨h8, h9⟩ := qi h7
   refine qh ttOK 0 rfl rfl rfl rfl h8 (Tm.encL_get h9) ?_
   intro a10 c10 _ _
   obtain ⟨v11, h12, hr⟩ := bind_some hr
   refine (ih n (by omega) v6 a10 c10 _ h12).atR [1] rfl rfl rfl ?_
   rintro _ _ ⟨rfl, rfl⟩
   refine at_max ?_
   exact ⟨(n, (if v11 > v3 then v11 else v3), (IntKind.i64.wrap (v4 + 1))), ⟨by omega, hr⟩, Nat.lt_succ_self _, ⟨rfl, rfl, rfl, trivial⟩, (StLe.gen 1 [] [.old 0] rfl rfl rfl rfl rfl rfl rfl)⟩
  ·replace hr := qf h5 hr
   replace hr := osi hr; subst hr
   exact qa [] [] rfl rfl ⟨rfl, rfl⟩
theorem qk1 (n : Nat) (v1 : Tm) (a2 : OA) (c2 : Nat) (r : Int) (hr : R03_Depth n v1 = some r) : Pure Tryz.prog (.val (.fn (.func 188) [] [])) [(.agg [(iS v1.op), (iS v1.hd), (iS v1.n), (tU v1.args a2 c2)])] [(tQ v1.args a2 c2)] (fun r' out => r' = (iS r) ∧ out = []) := (qiz n) n (Nat.le_refl _) v1 a2 c2 r hr
def R03_Size : Nat → Tm → Option (Int × Int)
 | 0, _ => none
 | n + 1, v1 =>
  (R03_nodes n v1 600).bind (fun v3 =>
  (R03_Depth n v1).bind (fun v5 =>
  some (v3, v5)))
theorem ql8 (n : Nat) (v1 : Tm) (a2 : OA) (c2 : Nat) (r : Int × Int) (hr : R03_Size n v1 = some r) : Pure Tryz.prog (.val (.fn (.func 117) [] [])) [(.agg [(iS v1.op), (iS v1.hd), (iS v1.n), (tU v1.args a2 c2)])] [(tQ v1.args a2 c2)] (fun r' out => r' = (.tup [(iS r.1), (iS r.2)]) ∧ out = []) := by
 rcases n with _ | n
 ·exact qe hr
 rw [R03_Size.eq_2] at hr
 refine qb (N := 8) (m := 0) (dt := drawsOf [(1, .node [0, 2] [(1, .node [] [(3, .leaf [4, 5])])], [3], [])]) [] ttOK func117 rfl call117 ntmps117 rfl rfl rfl mixed (by kernel_rfl) ?_
 obtain ⟨v3, h4, hr⟩ := bind_some hr
 refine (qk5 n v1 600 a2 c2 _ h4).atR [0] rfl rfl rfl ?_
 rintro _ _ ⟨rfl, rfl⟩
 refine ⟨fun _ _ h => h, ?_⟩
 obtain ⟨v5, h6, hr⟩ := bind_some hr
 refine (qk1 n v1 a2 c2 _ h6).atR [0] rfl rfl rfl ?_
 rintro _ _ ⟨rfl, rfl⟩
 replace hr := osi hr; subst hr
 exact qa [] [] rfl rfl ⟨rfl, rfl⟩
end
end Go.Proofs.YthkgcfplebgolaaGreat

namespace Go.Tr
section
open Go
set_option maxRecDepth 10000
abbrev GE (α : Type) : Type := α × Option Addr × Nat
def agV {κ α : Type} (_k : Nat) (p : α → List D) (g : List (κ × GE α)) : Value := .agg (g.map fun x => Value.slice x.2.2.1 (p x.2.1).length x.2.2.2).toArray
def agD {κ α : Type} (k : Nat) (p : α → List D) (g : List (κ × GE α)) : D := .agg (g.map fun x => .sl k (p x.2.1))
def AllR {κ α : Type} (J : Nat → Prop) (w : World) (k : Nat) (p : α → List D) (g : List (κ × GE α)) : Prop := ∀ x ∈ g, RepC J w (.sl k (p x.2.1)) [.slice x.2.2.1 (p x.2.1).length x.2.2.2]
theorem ag_iff {κ α : Type} {J : Nat → Prop} {w : World} (k : Nat) (p : α → List D) : ∀ (g : List (κ × GE α)), Rep J w (agV k p g) (agD k p g) ↔ AllR J w k p g := by
 have key : ∀ (g : List (κ × GE α)), RepA J w (g.map fun x => D.sl k (p x.2.1)) (g.map fun x => Value.slice x.2.2.1 (p x.2.1).length x.2.2.2) ↔ AllR J w k p g := by
  intro g
  induction g with
  | nil => simp [RepA, AllR]
  | cons x g ih =>
   simp only [List.map_cons, RepA]
   constructor
   ·rintro ⟨u, v, h1, h2, h3⟩
    have hu : ∃ c, u = [c] := by
     simp only [RepC] at h2
     obtain ⟨a, cap, e, _⟩ := h2
     exact ⟨_, e⟩
    obtain ⟨c, rfl⟩ := hu
    simp only [List.singleton_append, List.cons.injEq] at h1
    obtain ⟨rfl, rfl⟩ := h1
    intro y hy
    rcases List.mem_cons.1 hy with rfl | hy
    ·exact h2
    ·exact ih.1 h3 y hy
   ·intro h
    exact ⟨[_], _, rfl, h x (List.mem_cons_self ..), ih.2 (fun y hy => h y (List.mem_cons_of_mem _ hy))⟩
 intro g
 simp only [agV, agD, Rep]
 constructor
 ·rintro ⟨cs, h1, h2⟩
  simp only [Value.agg.injEq] at h1
  subst h1
  exact (key g).1 h2
 ·intro h
  exact ⟨_, rfl, (key g).2 h⟩
theorem AllR.get {κ α : Type} [DecidableEq κ] {J : Nat → Prop} {w : World} {k : Nat} {p : α → List D} {n : κ} {v : GE α} : ∀ {g : List (κ × GE α)}, AllR J w k p g → mget g n = some v → RepC J w (.sl k (p v.1)) [.slice v.2.1 (p v.1).length v.2.2]
 | [], _, h => by cases h
 | (k', u) :: r, hA, h => by
  simp only [mget] at h
  split at h
  ·simp only [Option.some.injEq] at h; subst h; exact hA _ (List.mem_cons_self ..)
  ·exact AllR.get (g := r) (fun y hy => hA y (List.mem_cons_of_mem _ hy)) h
theorem AllR.put {κ α : Type} [DecidableEq κ] {J : Nat → Prop} {w : World} {k : Nat} {p : α → List D} {n : κ} {v : GE α} (hv : RepC J w (.sl k (p v.1)) [.slice v.2.1 (p v.1).length v.2.2]) : ∀ {g : List (κ × GE α)}, AllR J w k p g → AllR J w k p (mput n v g)
 | [], _ => by
  intro x hx
  simp only [mput, List.mem_singleton] at hx
  subst hx; exact hv
 | (k', u) :: r, hA => by
  have hr : AllR J w k p r := fun y hy => hA y (List.mem_cons_of_mem _ hy)
  simp only [mput]
  split
  ·intro x hx
   rcases List.mem_cons.1 hx with rfl | hx
   ·exact hv
   ·exact hr x hx
  ·intro x hx
   rcases List.mem_cons.1 hx with rfl | hx
   ·exact hA _ (List.mem_cons_self ..)
   ·exact AllR.put hv hr x hx
theorem qom {P : Program} {t : TypeId} (q : IntKind) {α : Type} (f : GE α → Value) (k : Nat) (p : α → List D) {S : St} {K : SV → St → Prop} (h : forceL (S.own ++ [.obj (mapO q (encM f []))]) (fun own => putOwn S own (fun S' => addReps S' [(agV k p ([] : List (Int × GE α)), agD k p ([] : List (Int × GE α)))] (fun S'' => K (.mp S.own.length) S'')))) : AtSem P (fun ℓ => Instr.makeMap t (denO ℓ none)) S K := by
 rw [qu, qan, qbs] at h
 constructor
 intro J ℓ w hG hJ
 obtain ⟨r, ℓ', S', w', a1, a2, a3, a4, a5, a6, a7⟩ := (qfi (P := P) (t := t) (S := S) (K := fun v S' => v = .mp S.own.length ∧ S' = ⟨S.own ++ [.obj (mapO q [])], S.accs, S.reps⟩) q (by rw [qu, qan]; exact ⟨rfl, rfl⟩)).sem J ℓ w hG hJ
 obtain ⟨rfl, rfl⟩ := a7
 have a5' : Good J ℓ' ⟨S.own ++ [.obj (mapO q (encM f ([] : List (Int × GE α))))], S.accs, S.reps⟩ w' := a5
 exact ⟨_, ℓ', ⟨S.own ++ [.obj (mapO q (encM f ([] : List (Int × GE α))))], S.accs, S.reps ++ [(agV k p ([] : List (Int × GE α)), agD k p ([] : List (Int × GE α)))]⟩, w', a1, a2, a3, a4, a5'.reps_add _ (by
  intro x hx
  simp only [List.mem_singleton] at hx
  subst hx
  exact (ag_iff (κ := Int) k p []).2 (by intro x hx; cases hx)), a6, h⟩
theorem Pure.atB {P : Program} {cl : Cal} {args : List SV} {rs : List (Value × D)} {R : SV → List (Value × D) → Prop} {S : St} {K : Out → St → Prop} (h : Pure P cl args rs R) (sel : List RSel) (hrs : selReps S sel = some rs) (hargs : qr 0 args = true) (hcl : cl.wf 0 = true)
  (k : ∀ r out, R r out → out = [] ∧ K (.ret r) S) : Meets P cl args S K := by
 intro J ℓ w hG hJ
 have hG0 : Good J [] ⟨[], [], rs⟩ w := by
  refine ⟨rfl, by simp [mutS, mutL], by simp [mutS, mutL], by simp [mutS, mutL], by simp, by simp, by simp, ?_⟩
  have hx : ∀ x, x < w.heap.size → Jx J (mutS ℓ S) x → Jx J (mutS [] ⟨[], [], rs⟩) x ∧ w.heap[x]? = w.heap[x]? := fun x _ hj => ⟨⟨hj.1, by simp [mutS, mutL]⟩, rfl⟩
  intro p hp
  rcases qcc hrs p hp with h1 | ⟨j, a, hj, haj, rfl⟩ | ⟨k, rfl⟩
  ·exact (hG.reps p h1).map hx
  ·exact (hG.accs a (List.mem_of_getElem? haj)).rep hx (fun b hba => ⟨hG.memJ b (by simp only [mutS]; exact List.mem_append.2 (.inr (List.mem_flatMap.2 ⟨a, List.mem_of_getElem? haj, hba⟩))), by simp [mutS, mutL]⟩)
  ·exact ⟨none, 0, rfl, ⟨Nat.zero_le _, Nat.zero_le _⟩, .inl rfl⟩
 obtain ⟨nx, h1, h2⟩ := h _ [] w hG0 hJ
 refine ⟨nx, by rw [qjv ℓ [] args cl hargs hcl]; exact h1, h2.mono ?_⟩
 rintro e w' ⟨ℓ', o, S', he, hwf, _, hx, hG', hf, r, out, rfl, rfl, hr0, hR⟩
 obtain ⟨rfl, hK⟩ := k r out hR
 have hx0 : Ext [] w w' := by simpa [mutS, mutL] using hx
 have hℓ' : ℓ' = [] := by have := hG'.len; simpa using this
 subst hℓ'
 refine ⟨ℓ, .ret r, S, ?_, SV.wf_mono (Nat.zero_le _) r hr0, List.prefix_refl _, hx0.mono (by simp), ?_, fun b hb => .inl hb, hK⟩
 ·rw [he]; simp only [Out.ending]; rw [qy (n := 0) (ℓ := ℓ) (ℓ' := []) (fun i hi => by omega) r hr0]
 ·exact hG.beside hx0.size (fun b hb => hx0.block b hb (by simp))
end

section
open Go
end
end Go.Tr

namespace Go.Proofs.YthkgcfplebgolaaGreat
section
open Go.Tr Go Go.Proofs.Tryz
set_option maxRecDepth 10000
def freeL (t : Tm) : List Int := if isProper t = true then numsOf freeOf t else []
def freeE (t : Tm) : Int := if isProper t = true then 0 else 2
theorem free0 (t : Tm) (a : OA) (c : Nat) :
  Pure Tryz.prog (fnS 317) [tmS t a c] [tmR t a c]
   (fun r out => ∃ (b1 : OA) (d1 : Nat), r = .tup [.v (.slice b1 (List.map (D.int .i64) (freeL t)).length d1), iS (freeE t)] ∧ out = [(.slice b1 (List.map (D.int .i64) (freeL t)).length d1, .sl 1 (List.map (D.int .i64) (freeL t)))]) := by
 refine qb (N := 8) (m := 0) (dt := fun _ => none) [] ttOK Tryz.func317 rfl Tryz.call317 Tryz.ntmps317 rfl rfl rfl mixed (by kernel_rfl) ?_
 refine (qex 361 freeOf ql4 t a c).opened.at (by simp) rfl rfl ?_
 rintro r out ⟨⟨hp, rfl, rfl⟩ | ⟨hp, v, rfl, rfl⟩, ho⟩
 ·have e1 : freeL t = [] := by rw [freeL, hp]; rfl
  have e2 : freeE t = 2 := by rw [freeE, hp]; rfl
  rw [e1, e2]
  exact qa [.nil 1] [(.slice none 0 0, .sl 1 [])] rfl rfl ⟨none, 0, rfl, rfl⟩
 ·have e1 : freeL t = numsOf freeOf t := by rw [freeL, if_pos hp]
  have e2 : freeE t = 0 := by rw [freeE, if_pos hp]
  obtain ⟨a', c', rfl, hle, hle2⟩ := ho _ (List.mem_singleton.2 rfl)
  rw [e1, e2]
  exact qa [.old 1] _ rfl rfl ⟨a', c', rfl, rfl⟩
end
end Go.Proofs.YthkgcfplebgolaaGreat
