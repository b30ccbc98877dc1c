/- Merged texts: W1 Rd1 EvA EvB. Conditions stand in each rule. -/
import Derived.Test.YthkgcfplebgolaaGreatQK
set_option linter.unusedSimpArgs false
set_option linter.unusedVariables false

namespace Go.Proofs.YthkgcfplebgolaaGreat
section
open Go.Tr Go Go.Proofs.Tryz
set_option maxRecDepth 10000
structure Ply where
 sig : (List Dc)
 w : (List Bk)
 ctx : (List Tm)
abbrev Ply.enc (t : Ply) : D := .agg [.sl 6 (Dc.encL t.sig), .sl 2 (Bk.encL t.w), .sl 4 (Tm.encL t.ctx)]
abbrev Ply.encL (l : List Ply) : List D := l.map Ply.enc
theorem Ply.encL_eq (l : List Ply) : Ply.encL l = l.map Ply.enc := rfl
theorem Ply.enc_eq (t : Ply) : t.enc = .agg [.sl 6 (Dc.encL t.sig), .sl 2 (Bk.encL t.w), .sl 4 (Tm.encL t.ctx)] := rfl
theorem Ply.encL_length (l : List Ply) : (Ply.encL l).length = l.length := by simp
theorem Ply.encL_get {l : List Ply} {i : Nat} {t : Ply} (h : l[i]? = some t) : (Ply.encL l)[i]? = some (.agg [.sl 6 (Dc.encL t.sig), .sl 2 (Bk.encL t.w), .sl 4 (Tm.encL t.ctx)]) := by rw [Ply.encL_eq, List.getElem?_map, h]; rfl
structure Ctr where
 sig : (List Dc)
 w : (List Bk)
 ctx : (List Tm)
 failed : (List Bool)
abbrev Ctr.enc (t : Ctr) : D := .agg [.sl 6 (Dc.encL t.sig), .sl 2 (Bk.encL t.w), .sl 4 (Tm.encL t.ctx), .sl 1 (List.map D.bool t.failed)]
abbrev Ctr.encL (l : List Ctr) : List D := l.map Ctr.enc
theorem Ctr.encL_eq (l : List Ctr) : Ctr.encL l = l.map Ctr.enc := rfl
theorem Ctr.enc_eq (t : Ctr) : t.enc = .agg [.sl 6 (Dc.encL t.sig), .sl 2 (Bk.encL t.w), .sl 4 (Tm.encL t.ctx), .sl 1 (List.map D.bool t.failed)] := rfl
theorem Ctr.encL_length (l : List Ctr) : (Ctr.encL l).length = l.length := by simp
theorem Ctr.encL_get {l : List Ctr} {i : Nat} {t : Ctr} (h : l[i]? = some t) : (Ctr.encL l)[i]? = some (.agg [.sl 6 (Dc.encL t.sig), .sl 2 (Bk.encL t.w), .sl 4 (Tm.encL t.ctx), .sl 1 (List.map D.bool t.failed)]) := by rw [Ctr.encL_eq, List.getElem?_map, h]; rfl
def W16_nat : Nat → Option ((List Dc))
 | 0 => none
 | n + 1 =>
  (R03_App n 2 0 ([])).bind (fun v1 =>
  (R03_Pi n v1 v1).bind (fun v4 =>
  some ([(Dc.mk (⟨#[110, 97, 116]⟩) (Tm.mk 1 0 0 ([])) 0), (Dc.mk (⟨#[122]⟩) v1 0), (Dc.mk (⟨#[115]⟩) v4 0)])))
theorem qac (n : Nat)  (r : (List Dc)) (hr : W16_nat n  = some r) : Pure Tryz.prog (.val (.fn (.func 129) [] [])) [] [] (fun r' out => ∃ (b1 : OA) (d1 : Nat), r' = (.v (.slice b1 ((Dc.encL r).length) d1)) ∧ out = [(.slice b1 ((Dc.encL r).length) d1, .sl 6 (Dc.encL r))]) := by
 rcases n with _ | n
 ·exact qe hr
 rw [W16_nat.eq_2] at hr
 refine qb (N := 12) (m := 0) (dt := drawsOf [(2, .node [0, 1, 2, 3, 4, 5] [(6, .node [7] [(8, .leaf [9])])], [8], [])]) [] ttOK Tryz.func129 rfl Tryz.call129 Tryz.ntmps129 rfl rfl rfl mixed (by kernel_rfl) ?_
 obtain ⟨v1, h2, hr⟩ := bind_some hr
 refine Meets.le (S' := ⟨[], [⟨.slice none 0 0, 4, 41, []⟩], []⟩) (StLe.gen 0 [.nil 4 41] [] rfl rfl rfl rfl rfl rfl rfl) rfl ?_
 refine (qh0 n 2 0 ([]) none 0 _ h2).frameRA [] [0] [] rfl rfl rfl rfl rfl rfl rfl rfl rfl ?_
 rintro _ _ ⟨a3, c3, rfl, rfl⟩
 refine ⟨rfl, [], rfl, ?_⟩
 obtain ⟨v4, h5, hr⟩ := bind_some hr
 refine Meets.le (S' := ⟨[.cells 41 [(.v (.int .i64 v1.op)), (.v (.int .i64 v1.hd)), (.v (.int .i64 v1.n)), (.v (.slice a3 ((Tm.encL v1.args).length) c3))]], [], [(.slice a3 ((Tm.encL v1.args).length) c3, .sl 4 (Tm.encL v1.args))]⟩) (StLe.gen 1 [] [.froz 0] rfl rfl rfl rfl rfl rfl rfl) rfl ?_
 refine (qos n v1 v1 a3 c3 a3 c3 _ h5).atR [0, 0] rfl rfl rfl ?_
 rintro _ _ ⟨a6, c6, rfl, rfl⟩
 refine ⟨fun _ _ h => h, ?_⟩
 refine qk (n := 3) ttOK 72 [.agg [.str (⟨#[110, 97, 116]⟩), .agg [.int .i64 1, .int .i64 0, .int .i64 0, .sl 4 []], .int .i64 0], .agg [.str (⟨#[122]⟩), .agg [.int .i64 v1.op, .int .i64 v1.hd, .int .i64 v1.n, .sl 4 (Tm.encL v1.args)], .int .i64 0], .agg [.str (⟨#[115]⟩), .agg [.int .i64 v4.op, .int .i64 v4.hd, .int .i64 v4.n, .sl 4 (Tm.encL v4.args)], .int .i64 0]] (ds' := (Dc.encL ([(Dc.mk (⟨#[110, 97, 116]⟩) (Tm.mk 1 0 0 ([])) 0), (Dc.mk (⟨#[122]⟩) v1 0), (Dc.mk (⟨#[115]⟩) v4 0)]))) rfl (by kernel_rfl) ⟨⟨rfl, rfl, rfl, ⟨[(.v (.string (⟨#[110, 97, 116]⟩)))], _, rfl, rfl, ⟨[(.v (.int .i64 1)), (.v (.int .i64 0)), (.v (.int .i64 0)), (.v (.slice none 0 0))], _, rfl, ⟨[(.v (.int .i64 1))], _, rfl, rfl, ⟨[(.v (.int .i64 0))], _, rfl, rfl, ⟨[(.v (.int .i64 0))], _, rfl, rfl, ⟨[(.v (.slice none 0 0))], _, rfl, (.inr ⟨rfl, rfl⟩), rfl⟩⟩⟩⟩, ⟨[(.v (.int .i64 0))], _, rfl, rfl, rfl⟩⟩⟩⟩, ⟨⟨rfl, rfl, rfl, ⟨[(.v (.string (⟨#[122]⟩)))], _, rfl, rfl, ⟨[(.v (.int .i64 v1.op)), (.v (.int .i64 v1.hd)), (.v (.int .i64 v1.n)), (.v (.slice a3 ((Tm.encL v1.args).length) c3))], _, rfl, ⟨[(.v (.int .i64 v1.op))], _, rfl, rfl, ⟨[(.v (.int .i64 v1.hd))], _, rfl, rfl, ⟨[(.v (.int .i64 v1.n))], _, rfl, rfl, ⟨[(.v (.slice a3 ((Tm.encL v1.args).length) c3))], _, rfl, (.inl ⟨_, rfl, ql (j := 0) rfl⟩), rfl⟩⟩⟩⟩, ⟨[(.v (.int .i64 0))], _, rfl, rfl, rfl⟩⟩⟩⟩, ⟨⟨rfl, rfl, rfl, ⟨[(.v (.string (⟨#[115]⟩)))], _, rfl, rfl, ⟨[(.v (.int .i64 v4.op)), (.v (.int .i64 v4.hd)), (.v (.int .i64 v4.n)), (.v (.slice a6 ((Tm.encL v4.args).length) c6))], _, rfl, ⟨[(.v (.int .i64 v4.op))], _, rfl, rfl, ⟨[(.v (.int .i64 v4.hd))], _, rfl, rfl, ⟨[(.v (.int .i64 v4.n))], _, rfl, rfl, ⟨[(.v (.slice a6 ((Tm.encL v4.args).length) c6))], _, rfl, (.inl ⟨_, rfl, ql (j := 1) rfl⟩), rfl⟩⟩⟩⟩, ⟨[(.v (.int .i64 0))], _, rfl, rfl, rfl⟩⟩⟩⟩, trivial⟩⟩⟩ rfl (by simp only [Dc.encL_eq, List.map_cons, List.map_nil, Dc.enc_eq] <;> rfl) (by decide) (by decide) ?_
 intro a7
 replace hr := Option.some.inj hr
 subst hr
 exact qa [.old 2] [(.slice a7 ((Dc.encL ([(Dc.mk (⟨#[110, 97, 116]⟩) (Tm.mk 1 0 0 ([])) 0), (Dc.mk (⟨#[122]⟩) v1 0), (Dc.mk (⟨#[115]⟩) v4 0)])).length) 3, .sl 6 (Dc.encL ([(Dc.mk (⟨#[110, 97, 116]⟩) (Tm.mk 1 0 0 ([])) 0), (Dc.mk (⟨#[122]⟩) v1 0), (Dc.mk (⟨#[115]⟩) v4 0)])))] rfl rfl ⟨a7, 3, rfl, rfl⟩
def world_good_1 : Nat → Tm → Option (Bool)
 | 0, _ => none
 | n + 1, v1 =>
  some ((((freeE v1) != 0) || (decide (((List.map (D.int .i64) (metasL v1)).length : Int) > 0))))
theorem qhg (n : Nat) (v1 : Tm) (a2 : OA) (c2 : Nat) (r : Bool) (hr : world_good_1 n v1 = some r) : Pure Tryz.prog (.val (.fn (.func 206) [] [])) [(.agg [(.v (.int .i64 v1.op)), (.v (.int .i64 v1.hd)), (.v (.int .i64 v1.n)), (.v (.slice a2 ((Tm.encL v1.args).length) c2))])] [(.slice a2 ((Tm.encL v1.args).length) c2, .sl 4 (Tm.encL v1.args))] (fun r' out => r' = (.v (.bool r)) ∧ out = []) := by
 rcases n with _ | n
 ·exact qe hr
 rw [world_good_1.eq_2] at hr
 refine qb (N := 17) (m := 0) (dt := fun _ => none) [] ttOK Tryz.func206 rfl Tryz.call206 Tryz.ntmps206 rfl rfl rfl mixed (by kernel_rfl) ?_
 refine (metas0 v1 a2 c2).atR [0] rfl rfl rfl ?_
 rintro _ _ ⟨a3, c3, rfl, rfl⟩
 replace hr := Option.some.inj hr
 subst hr
 exact qa [] [] rfl rfl ⟨rfl, rfl⟩
mutual
def slices_IndexFunc_world_good_1 : Nat → (List Tm) → Option (Int)
 | 0, _ => none
 | n + 1, v1 =>
  slices_IndexFunc_world_good_1_L1 n v1 0
def slices_IndexFunc_world_good_1_L1 : Nat → (List Tm) → Int → Option (Int)
 | 0, _, _ => none
 | n + 1, v1, v3 =>
  cond (decide (v3 < ((Tm.encL v1).length : Int))) (
  (idx v1 v3).bind (fun v5 =>
  (world_good_1 n v5).bind (fun v10 =>
  cond v10 (
  some (v3)) (
  slices_IndexFunc_world_good_1_L1 n v1 (IntKind.i64.wrap (v3 + 1)))))) (
  some ((-1)))
 end
theorem qby (n : Nat) (v1 : (List Tm)) (a2 : OA) (c2 : Nat) (r : Int) (hr : slices_IndexFunc_world_good_1 n v1 = some r) : Pure Tryz.prog (.val (.fn (.func 250) [] [])) [(.v (.slice a2 ((Tm.encL v1).length) c2)), (.fn (.func 206) [] [])] [(.slice a2 ((Tm.encL v1).length) c2, .sl 4 (Tm.encL v1))] (fun r' out => r' = (.v (.int .i64 r)) ∧ out = []) := by
 rcases n with _ | n
 ·exact qe hr
 rw [slices_IndexFunc_world_good_1.eq_2] at hr
 refine qb (N := 19) (m := 0) (dt := fun _ => none) [] ttOK Tryz.func250 rfl Tryz.call250 Tryz.ntmps250 rfl rfl rfl mixed (by kernel_rfl) ?_
 refine AtLoop.mk ⟨Nat × Int, fun x => [(0, (.v (.slice a2 ((Tm.encL v1).length) c2))), (1, (.fn (.func 206) [] [])), (7, (.v (.int .i64 ((Tm.encL v1).length : Int)))), (8, (.v (.int .i64 x.2)))], fun x => ⟨[], [], [(.slice a2 ((Tm.encL v1).length) c2, .sl 4 (Tm.encL v1))]⟩, fun x => slices_IndexFunc_world_good_1_L1 x.1 v1 x.2 = some r, fun x => x.1, (n, 0), hr, ⟨rfl, rfl, rfl, rfl, trivial⟩, (StLe.gen 0 [] [.old 0] rfl rfl rfl rfl rfl rfl rfl), fun x _ => ⟨rfl, rfl⟩, ?_⟩
 rintro ⟨n, v3⟩ HH
 have hr : slices_IndexFunc_world_good_1_L1 n v1 v3 = some r := HH
 rcases n with _ | n
 ·exact qe hr
 rw [slices_IndexFunc_world_good_1_L1.eq_2] at hr
 refine AtIf.mk (fun h4 => ?_) (fun h4 => ?_)
 ·replace hr := qg h4 hr
  obtain ⟨v5, h6, hr⟩ := bind_some hr
  obtain ⟨h7, h8⟩ := qi h6
  refine qh ttOK 0 rfl rfl rfl rfl h7 (Tm.encL_get h8) ?_
  intro a9 c9 _ _
  obtain ⟨v10, h11, hr⟩ := bind_some hr
  refine (qhg n v5 a9 c9 _ h11).atR [1] rfl rfl rfl ?_
  rintro _ _ ⟨rfl, rfl⟩
  refine AtIf.mk (fun h12 => ?_) (fun h12 => ?_)
  ·replace hr := qg h12 hr
   replace hr := Option.some.inj hr
   subst hr
   exact qa [] [] rfl rfl ⟨rfl, rfl⟩
  ·replace hr := qf h12 hr
   exact ⟨(n, (IntKind.i64.wrap (v3 + 1))), hr, Nat.lt_succ_self _, ⟨rfl, rfl, rfl, rfl, trivial⟩, (StLe.gen 0 [] [.old 0] rfl rfl rfl rfl rfl rfl rfl)⟩
 ·replace hr := qf h4 hr
  replace hr := Option.some.inj hr
  subst hr
  exact qa [] [] rfl rfl ⟨rfl, rfl⟩
def slices_ContainsFunc_world_good_1 : Nat → (List Tm) → Option (Bool)
 | 0, _ => none
 | n + 1, v1 =>
  (slices_IndexFunc_world_good_1 n v1).bind (fun v3 =>
  some ((decide (v3 ≥ 0))))
theorem qbj (n : Nat) (v1 : (List Tm)) (a2 : OA) (c2 : Nat) (r : Bool) (hr : slices_ContainsFunc_world_good_1 n v1 = some r) : Pure Tryz.prog (.val (.fn (.func 178) [] [])) [(.v (.slice a2 ((Tm.encL v1).length) c2)), (.fn (.func 206) [] [])] [(.slice a2 ((Tm.encL v1).length) c2, .sl 4 (Tm.encL v1))] (fun r' out => r' = (.v (.bool r)) ∧ out = []) := by
 rcases n with _ | n
 ·exact qe hr
 rw [slices_ContainsFunc_world_good_1.eq_2] at hr
 refine qb (N := 9) (m := 0) (dt := fun _ => none) [] ttOK Tryz.func178 rfl Tryz.call178 Tryz.ntmps178 rfl rfl rfl mixed (by kernel_rfl) ?_
 obtain ⟨v3, h4, hr⟩ := bind_some hr
 refine (qby n v1 a2 c2 _ h4).atR [0] rfl rfl rfl ?_
 rintro _ _ ⟨rfl, rfl⟩
 replace hr := Option.some.inj hr
 subst hr
 exact qa [] [] rfl rfl ⟨rfl, rfl⟩
mutual
def world_types : Nat → (List Bk) → Option ((List Tm) × Bool)
 | 0, _ => none
 | n + 1, v1 =>
  world_types_L1 n v1 ([]) 0
def world_types_L1 : Nat → (List Bk) → (List Tm) → Int → Option ((List Tm) × Bool)
 | 0, _, _, _ => none
 | n + 1, v1, v3, v5 =>
  cond (decide (v5 < ((Bk.encL v1).length : Int))) (
  (idx v1 v5).bind (fun v7 =>
  cond (decide (([v7.som, v7.lst]).flatten.length * 48 ≤ 281474976710656)) (
  cond (decide (((Tm.encL (([v7.som, v7.lst]).flatten)).length : Int) > 30)) (
  some ([], false)) (
  cond (decide ((Tm.encL (v3 ++ ([v7.som, v7.lst]).flatten)).length ≤ 1000000)) (
  world_types_L1 n v1 (v3 ++ ([v7.som, v7.lst]).flatten) (IntKind.i64.wrap (v5 + 1))) none)) none)) (
  some (v3, (decide (((Bk.encL v1).length : Int) ≤ 8))))
 end
theorem qij (n : Nat) (v1 : (List Bk)) (a2 : OA) (c2 : Nat) (r : (List Tm) × Bool) (hr : world_types n v1 = some r) : Pure Tryz.prog (.val (.fn (.func 205) [] [])) [(.v (.slice a2 ((Bk.encL v1).length) c2))] [(.slice a2 ((Bk.encL v1).length) c2, .sl 2 (Bk.encL v1))] (fun r' out => ∃ (b1 : OA) (d1 : Nat), r' = (.tup [(.v (.slice b1 ((Tm.encL r.1).length) d1)), (.v (.bool r.2))]) ∧ out = [(.slice b1 ((Tm.encL r.1).length) d1, .sl 4 (Tm.encL r.1))]) := by
 rcases n with _ | n
 ·exact qe hr
 rw [world_types.eq_2] at hr
 refine qb (N := 31) (m := 0) (dt := fun _ => none) [] ttOK Tryz.func205 rfl Tryz.call205 Tryz.ntmps205 rfl rfl rfl mixed (by kernel_rfl) ?_
 refine AtLoop.mk ⟨Nat × (List Tm) × Option Addr × Nat × Int, fun x => [(0, (.v (.slice a2 ((Bk.encL v1).length) c2))), (4, (.v (.slice x.2.2.1 ((Tm.encL x.2.1).length) x.2.2.2.1))), (8, (.v (.slice a2 ((Bk.encL v1).length) c2))), (9, (.v (.int .i64 ((Bk.encL v1).length : Int)))), (10, (.v (.int .i64 x.2.2.2.2)))], fun x => ⟨[], [⟨.slice x.2.2.1 ((Tm.encL x.2.1).length) x.2.2.2.1, 4, 41, (Tm.encL x.2.1)⟩], [(.slice a2 ((Bk.encL v1).length) c2, .sl 2 (Bk.encL v1))]⟩, fun x => world_types_L1 x.1 v1 x.2.1 x.2.2.2.2 = some r, fun x => x.1, (n, [], none, 0, 0), hr, ⟨rfl, rfl, rfl, rfl, rfl, trivial⟩, (StLe.gen 0 [.nil 4 41] [.old 0] rfl rfl rfl rfl rfl rfl rfl), fun x _ => ⟨rfl, rfl⟩, ?_⟩
 rintro ⟨n, v3, a4, c4, v5⟩ HH
 have hr : world_types_L1 n v1 v3 v5 = some r := HH
 rcases n with _ | n
 ·exact qe hr
 rw [world_types_L1.eq_2] at hr
 refine AtIf.mk (fun h6 => ?_) (fun h6 => ?_)
 ·replace hr := qg h6 hr
  obtain ⟨v7, h8, hr⟩ := bind_some hr
  obtain ⟨h9, h10⟩ := qi h8
  refine qh ttOK 0 rfl rfl rfl rfl h9 (Bk.encL_get h10) ?_
  intro a11 c11 _ _ a12 c12 _ _
  refine qk (n := 2) ttOK 24 [.sl 4 (Tm.encL v7.som), .sl 4 (Tm.encL v7.lst)] (ds' := (List.map (fun l => D.sl 4 (Tm.encL l)) ([v7.som, v7.lst]))) rfl (by kernel_rfl) ⟨⟨rfl, rfl, rfl, (.inl ⟨_, rfl, ql (j := 1) rfl⟩)⟩, ⟨⟨rfl, rfl, rfl, (.inl ⟨_, rfl, ql (j := 2) rfl⟩)⟩, trivial⟩⟩ rfl rfl (by decide) (by decide) ?_
  intro a13
  obtain ⟨h14, hr⟩ := qj hr
  refine (concatT ([v7.som, v7.lst]) a13 2 (of_decide_eq_true h14)).atR [3] rfl rfl rfl ?_
  rintro _ _ ⟨a15, c15, rfl, rfl⟩
  refine AtIf.mk (fun h16 => ?_) (fun h16 => ?_)
  ·replace hr := qg h16 hr
   replace hr := Option.some.inj hr
   subst hr
   exact qa [.nil 4] [(.slice none 0 0, .sl 4 [])] rfl rfl ⟨none, 0, rfl, rfl⟩
  ·replace hr := qf h16 hr
   obtain ⟨h17, hr⟩ := qj hr
   refine qm (ds' := (Tm.encL (v3 ++ ([v7.som, v7.lst]).flatten))) ttOK 48 0 4 rfl (by kernel_rfl) rfl rfl rfl rfl (by simp only [Tm.encL_eq, List.map_append]) h17 (by decide) ?_
   intro a18 c18
   exact ⟨(n, (v3 ++ ([v7.som, v7.lst]).flatten), a18, c18, (IntKind.i64.wrap (v5 + 1))), hr, Nat.lt_succ_self _, ⟨rfl, rfl, rfl, rfl, rfl, trivial⟩, (StLe.gen 0 [.old 0] [.old 0] rfl rfl rfl rfl rfl rfl rfl)⟩
 ·replace hr := qf h6 hr
  replace hr := Option.some.inj hr
  subst hr
  exact qa [.froz 0] [(.slice a4 ((Tm.encL v3).length) c4, .sl 4 (Tm.encL v3))] rfl rfl ⟨a4, c4, rfl, rfl⟩
def world_good : Nat → (List Dc) → (List Tm) → (List Bk) → (List Tm) → Option (Bool)
 | 0, _, _, _, _ => none
 | n + 1, v1, v3, v5, v7 =>
  (world_types n v5).bind (fun v9 =>
  cond v9.2 (
  (sign_Check n v1).bind (fun v13 =>
  cond ((v13 == 0) && (decide (((Tm.encL v3).length : Int) ≤ 30))) (
  cond (decide (([v3, v9.1, v7]).flatten.length * 48 ≤ 281474976710656)) (
  (slices_ContainsFunc_world_good_1 n (([v3, v9.1, v7]).flatten)).bind (fun v19 =>
  some ((!v19)))) none) (
  some (false)))) (
  some (false)))
theorem qdf (n : Nat) (v1 : (List Dc)) (v3 : (List Tm)) (v5 : (List Bk)) (v7 : (List Tm)) (a2 : OA) (c2 : Nat) (a4 : OA) (c4 : Nat) (a6 : OA) (c6 : Nat) (a8 : OA) (c8 : Nat) (r : Bool) (hr : world_good n v1 v3 v5 v7 = some r) : Pure Tryz.prog (.val (.fn (.func 131) [] [])) [(.v (.slice a2 ((Dc.encL v1).length) c2)), (.v (.slice a4 ((Tm.encL v3).length) c4)), (.v (.slice a6 ((Bk.encL v5).length) c6)), (.v (.slice a8 ((Tm.encL v7).length) c8))] [(.slice a2 ((Dc.encL v1).length) c2, .sl 6 (Dc.encL v1)), (.slice a4 ((Tm.encL v3).length) c4, .sl 4 (Tm.encL v3)), (.slice a6 ((Bk.encL v5).length) c6, .sl 2 (Bk.encL v5)), (.slice a8 ((Tm.encL v7).length) c8, .sl 4 (Tm.encL v7))] (fun r' out => r' = (.v (.bool r)) ∧ out = []) := by
 rcases n with _ | n
 ·exact qe hr
 rw [world_good.eq_2] at hr
 refine qb (N := 36) (m := 0) (dt := fun _ => none) [] ttOK Tryz.func131 rfl Tryz.call131 Tryz.ntmps131 rfl rfl rfl mixed (by kernel_rfl) ?_
 obtain ⟨v9, h10, hr⟩ := bind_some hr
 refine (qij n v5 a6 c6 _ h10).atR [2] rfl rfl rfl ?_
 rintro _ _ ⟨a11, c11, rfl, rfl⟩
 refine AtGuard.mk (fun h12 => ?_) (fun h12 => ?_)
 ·replace hr := qg h12 hr
  obtain ⟨v13, h14, hr⟩ := bind_some hr
  refine (qe4 n v1 a2 c2 _ h14).atR [0] rfl rfl rfl ?_
  rintro _ _ ⟨rfl, rfl⟩
  refine AtGuard.mk (fun h15 => ?_) (fun h15 => ?_)
  ·replace hr := qg h15 hr
   refine qk (n := 3) ttOK 24 [.sl 4 (Tm.encL v3), .sl 4 (Tm.encL v9.1), .sl 4 (Tm.encL v7)] (ds' := (List.map (fun l => D.sl 4 (Tm.encL l)) ([v3, v9.1, v7]))) rfl (by kernel_rfl) ⟨⟨rfl, rfl, rfl, (.inl ⟨_, rfl, ql (j := 1) rfl⟩)⟩, ⟨⟨rfl, rfl, rfl, (.inl ⟨_, rfl, ql (j := 4) rfl⟩)⟩, ⟨⟨rfl, rfl, rfl, (.inl ⟨_, rfl, ql (j := 3) rfl⟩)⟩, trivial⟩⟩⟩ rfl rfl (by decide) (by decide) ?_
   intro a16
   obtain ⟨h17, hr⟩ := qj hr
   refine (concatT ([v3, v9.1, v7]) a16 3 (of_decide_eq_true h17)).atR [5] rfl rfl rfl ?_
   rintro _ _ ⟨a18, c18, rfl, rfl⟩
   obtain ⟨v19, h20, hr⟩ := bind_some hr
   refine (qbj n (([v3, v9.1, v7]).flatten) a18 c18 _ h20).atR [6] rfl rfl rfl ?_
   rintro _ _ ⟨rfl, rfl⟩
   replace hr := Option.some.inj hr
   subst hr
   exact qa [] [] rfl rfl ⟨rfl, rfl⟩
  ·replace hr := qf h15 hr
   replace hr := Option.some.inj hr
   subst hr
   exact qa [] [] rfl rfl ⟨rfl, rfl⟩
 ·replace hr := qf h12 hr
  refine AtGuard.mk (fun h => ff h) (fun _ => ?_)
  replace hr := Option.some.inj hr
  subst hr
  exact qa [] [] rfl rfl ⟨rfl, rfl⟩
def world_Valid : Nat → (List Dc) → Bk → Option (Int)
 | 0, _, _ => none
 | n + 1, v1, v3 =>
  (world_good n v1 ([]) ([v3]) ([])).bind (fun v7 =>
  cond (!v7) (
  some (2)) (
  cond (decide (([v3.som, v3.lst]).flatten.length * 48 ≤ 281474976710656)) (
  (qeb n v1 ([]) (([v3.som, v3.lst]).flatten)).bind (fun v13 =>
  some (v13))) none))
theorem qbq (n : Nat) (v1 : (List Dc)) (v3 : Bk) (a2 : OA) (c2 : Nat) (a4 : OA) (c4 : Nat) (a5 : OA) (c5 : Nat) (r : Int) (hr : world_Valid n v1 v3 = some r) : Pure Tryz.prog (.val (.fn (.func 130) [] [])) [(.v (.slice a2 ((Dc.encL v1).length) c2)), (.agg [(.v (.slice a4 ((Tm.encL v3.som).length) c4)), (.v (.slice a5 ((Tm.encL v3.lst).length) c5))])] [(.slice a2 ((Dc.encL v1).length) c2, .sl 6 (Dc.encL v1)), (.slice a4 ((Tm.encL v3.som).length) c4, .sl 4 (Tm.encL v3.som)), (.slice a5 ((Tm.encL v3.lst).length) c5, .sl 4 (Tm.encL v3.lst))] (fun r' out => r' = (.v (.int .i64 r)) ∧ out = []) := by
 rcases n with _ | n
 ·exact qe hr
 rw [world_Valid.eq_2] at hr
 refine qb (N := 18) (m := 0) (dt := fun _ => none) [] ttOK Tryz.func130 rfl Tryz.call130 Tryz.ntmps130 rfl rfl rfl mixed (by kernel_rfl) ?_
 refine qk (n := 1) ttOK 48 [.agg [.sl 4 (Tm.encL v3.som), .sl 4 (Tm.encL v3.lst)]] (ds' := (Bk.encL ([v3]))) rfl (by kernel_rfl) ⟨⟨rfl, rfl, rfl, ⟨[(.v (.slice a4 ((Tm.encL v3.som).length) c4))], _, rfl, (.inl ⟨_, rfl, ql (j := 1) rfl⟩), ⟨[(.v (.slice a5 ((Tm.encL v3.lst).length) c5))], _, rfl, (.inl ⟨_, rfl, ql (j := 2) rfl⟩), rfl⟩⟩⟩, trivial⟩ rfl (by simp only [Bk.encL_eq, List.map_cons, List.map_nil, Bk.enc_eq] <;> rfl) (by decide) (by decide) ?_
 intro a6
 obtain ⟨v7, h8, hr⟩ := bind_some hr
 refine Meets.nilRep 4 ?_
 refine (qdf n v1 ([]) ([v3]) ([]) a2 c2 none 0 a6 1 none 0 _ h8).atR [1, 0, 4, 0] rfl rfl rfl ?_
 rintro _ _ ⟨rfl, rfl⟩
 refine AtIf.mk (fun h9 => ?_) (fun h9 => ?_)
 ·replace hr := qg h9 hr
  replace hr := Option.some.inj hr
  subst hr
  exact qa [] [] rfl rfl ⟨rfl, rfl⟩
 ·replace hr := qf h9 hr
  refine qk (n := 2) ttOK 24 [.sl 4 (Tm.encL v3.som), .sl 4 (Tm.encL v3.lst)] (ds' := (List.map (fun l => D.sl 4 (Tm.encL l)) ([v3.som, v3.lst]))) rfl (by kernel_rfl) ⟨⟨rfl, rfl, rfl, (.inl ⟨_, rfl, ql (j := 2) rfl⟩)⟩, ⟨⟨rfl, rfl, rfl, (.inl ⟨_, rfl, ql (j := 3) rfl⟩)⟩, trivial⟩⟩ rfl rfl (by decide) (by decide) ?_
  intro a10
  obtain ⟨h11, hr⟩ := qj hr
  refine (concatT ([v3.som, v3.lst]) a10 2 (of_decide_eq_true h11)).atR [5] rfl rfl rfl ?_
  rintro _ _ ⟨a12, c12, rfl, rfl⟩
  obtain ⟨v13, h14, hr⟩ := bind_some hr
  refine Meets.nilRep 10 ?_
  refine (qg1 n v1 ([]) (([v3.som, v3.lst]).flatten) a2 c2 none 0 a12 c12 _ h14).atR [2, 0, 7] rfl rfl rfl ?_
  rintro _ _ ⟨rfl, rfl⟩
  replace hr := Option.some.inj hr
  subst hr
  exact qa [] [] rfl rfl ⟨rfl, rfl⟩
mutual
def world_Extend : Nat → (List Dc) → (List Tm) → Bk → (List Tm) → Option ((List Tm) × Int)
 | 0, _, _, _, _ => none
 | n + 1, v1, v3, v5, v8 =>
  cond (decide (((Tm.encL v8).length : Int) > 30)) (
  some ([], 2)) (
  (world_good n v1 v3 ([v5]) v8).bind (fun v12 =>
  cond ((!v12) || (((Tm.encL v8).length : Int) != ((Tm.encL v5.som).length : Int))) (
  some ([], 2)) (
  cond (decide ((IntKind.i64.wrap (((Tm.encL v3).length : Int) + ((Tm.encL v5.lst).length : Int))) > 30)) (
  some ([], 5)) (
  world_Extend_L1 n v3 v5 v8 ([]) 0))))
def world_Extend_L2 : Nat → Bk → (List Tm) → (List Tm) → Int → Option ((List Tm) × Int)
 | 0, _, _, _, _ => none
 | n + 1, v5, v8, v31, v33 =>
  cond (decide (v33 < ((Tm.encL v5.lst).length : Int))) (
  (idx v5.lst v33).bind (fun v36 =>
  (world_put n v36 v5.som v8 v33).bind (fun v41 =>
  cond (v41.2 != 0) (
  some ([], v41.2)) (
  cond (decide ((Tm.encL (v31 ++ [v41.1])).length ≤ 1000000)) (
  world_Extend_L2 n v5 v8 (v31 ++ [v41.1]) (IntKind.i64.wrap (v33 + 1))) none)))) (
  some (v31, 0))
def world_Extend_L1 : Nat → (List Tm) → Bk → (List Tm) → (List Tm) → Int → Option ((List Tm) × Int)
 | 0, _, _, _, _, _ => none
 | n + 1, v3, v5, v8, v16, v18 =>
  cond (decide (v18 < ((Tm.encL v3).length : Int))) (
  (idx v3 v18).bind (fun v20 =>
  (term_Copy n v20).bind (fun v25 =>
  cond (decide ((Tm.encL (v16 ++ [v25])).length ≤ 1000000)) (
  world_Extend_L1 n v3 v5 v8 (v16 ++ [v25]) (IntKind.i64.wrap (v18 + 1))) none))) (
  world_Extend_L2 n v5 v8 v16 0)
 end
theorem qa1 (n : Nat) (v1 : (List Dc)) (v3 : (List Tm)) (v5 : Bk) (v8 : (List Tm)) (a2 : OA) (c2 : Nat) (a4 : OA) (c4 : Nat) (a6 : OA) (c6 : Nat) (a7 : OA) (c7 : Nat) (a9 : OA) (c9 : Nat) (r : (List Tm) × Int) (hr : world_Extend n v1 v3 v5 v8 = some r) : Pure Tryz.prog (.val (.fn (.func 59) [] [])) [(.v (.slice a2 ((Dc.encL v1).length) c2)), (.v (.slice a4 ((Tm.encL v3).length) c4)), (.agg [(.v (.slice a6 ((Tm.encL v5.som).length) c6)), (.v (.slice a7 ((Tm.encL v5.lst).length) c7))]), (.v (.slice a9 ((Tm.encL v8).length) c9))] [(.slice a2 ((Dc.encL v1).length) c2, .sl 6 (Dc.encL v1)), (.slice a4 ((Tm.encL v3).length) c4, .sl 4 (Tm.encL v3)), (.slice a6 ((Tm.encL v5.som).length) c6, .sl 4 (Tm.encL v5.som)), (.slice a7 ((Tm.encL v5.lst).length) c7, .sl 4 (Tm.encL v5.lst)), (.slice a9 ((Tm.encL v8).length) c9, .sl 4 (Tm.encL v8))] (fun r' out => ∃ (b1 : OA) (d1 : Nat), r' = (.tup [(.v (.slice b1 ((Tm.encL r.1).length) d1)), (.v (.int .i64 r.2))]) ∧ out = [(.slice b1 ((Tm.encL r.1).length) d1, .sl 4 (Tm.encL r.1))]) := by
 rcases n with _ | n
 ·exact qe hr
 rw [world_Extend.eq_2] at hr
 refine qb (N := 82) (m := 0) (dt := fun _ => none) [] ttOK Tryz.func59 rfl Tryz.call59 Tryz.ntmps59 rfl rfl rfl mixed (by kernel_rfl) ?_
 refine AtGuard.mk (fun h10 => ?_) (fun h10 => ?_)
 ·replace hr := qf h10 hr
  refine qk (n := 1) ttOK 48 [.agg [.sl 4 (Tm.encL v5.som), .sl 4 (Tm.encL v5.lst)]] (ds' := (Bk.encL ([v5]))) rfl (by kernel_rfl) ⟨⟨rfl, rfl, rfl, ⟨[(.v (.slice a6 ((Tm.encL v5.som).length) c6))], _, rfl, (.inl ⟨_, rfl, ql (j := 2) rfl⟩), ⟨[(.v (.slice a7 ((Tm.encL v5.lst).length) c7))], _, rfl, (.inl ⟨_, rfl, ql (j := 3) rfl⟩), rfl⟩⟩⟩, trivial⟩ rfl (by simp only [Bk.encL_eq, List.map_cons, List.map_nil, Bk.enc_eq] <;> rfl) (by decide) (by decide) ?_
  intro a11
  obtain ⟨v12, h13, hr⟩ := bind_some hr
  refine (qdf n v1 v3 ([v5]) v8 a2 c2 a4 c4 a11 1 a9 c9 _ h13).atR [0, 1, 5, 4] rfl rfl rfl ?_
  rintro _ _ ⟨rfl, rfl⟩
  refine AtIf.mk (fun h14 => ?_) (fun h14 => ?_)
  ·replace hr := qg h14 hr
   replace hr := Option.some.inj hr
   subst hr
   exact qa [.nil 4] [(.slice none 0 0, .sl 4 [])] rfl rfl ⟨none, 0, rfl, rfl⟩
  ·replace hr := qf h14 hr
   refine AtIf.mk (fun h15 => ?_) (fun h15 => ?_)
   ·replace hr := qg h15 hr
    replace hr := Option.some.inj hr
    subst hr
    exact qa [.nil 4] [(.slice none 0 0, .sl 4 [])] rfl rfl ⟨none, 0, rfl, rfl⟩
   ·replace hr := qf h15 hr
    refine AtLoop.mk ⟨Nat × (List Tm) × Option Addr × Nat × Int, fun x => [(3, (.v (.slice a9 ((Tm.encL v8).length) c9))), (6, (.loc 0 0)), (10, (.v (.slice x.2.2.1 ((Tm.encL x.2.1).length) x.2.2.2.1))), (44, (.v (.slice a4 ((Tm.encL v3).length) c4))), (45, (.v (.int .i64 ((Tm.encL v3).length : Int)))), (46, (.v (.int .i64 x.2.2.2.2)))], fun x => ⟨[.cells 110 [(.v (.slice a6 ((Tm.encL v5.som).length) c6)), (.v (.slice a7 ((Tm.encL v5.lst).length) c7))]], [⟨.slice x.2.2.1 ((Tm.encL x.2.1).length) x.2.2.2.1, 4, 41, (Tm.encL x.2.1)⟩], [(.slice a2 ((Dc.encL v1).length) c2, .sl 6 (Dc.encL v1)), (.slice a4 ((Tm.encL v3).length) c4, .sl 4 (Tm.encL v3)), (.slice a6 ((Tm.encL v5.som).length) c6, .sl 4 (Tm.encL v5.som)), (.slice a7 ((Tm.encL v5.lst).length) c7, .sl 4 (Tm.encL v5.lst)), (.slice a9 ((Tm.encL v8).length) c9, .sl 4 (Tm.encL v8)), (.slice a11 ((Bk.encL ([v5])).length) 1, .sl 2 (Bk.encL ([v5])))]⟩, fun x => world_Extend_L1 x.1 v3 v5 v8 x.2.1 x.2.2.2.2 = some r, fun x => x.1, (n, [], none, 0, 0), hr, ⟨rfl, rfl, rfl, rfl, rfl, rfl, trivial⟩, (StLe.gen 1 [.nil 4 41] [.old 0, .old 1, .old 2, .old 3, .old 4, .old 5] rfl rfl rfl rfl rfl rfl rfl), fun x _ => ⟨rfl, rfl⟩, ?_⟩
    rintro ⟨n, v16, a17, c17, v18⟩ HH
    have hr : world_Extend_L1 n v3 v5 v8 v16 v18 = some r := HH
    rcases n with _ | n
    ·exact qe hr
    rw [world_Extend_L1.eq_2] at hr
    refine AtIf.mk (fun h19 => ?_) (fun h19 => ?_)
    ·replace hr := qg h19 hr
     obtain ⟨v20, h21, hr⟩ := bind_some hr
     obtain ⟨h22, h23⟩ := qi h21
     refine qh ttOK 1 rfl rfl rfl rfl h22 (Tm.encL_get h23) ?_
     intro a24 c24 _ _
     obtain ⟨v25, h26, hr⟩ := bind_some hr
     refine (qk9 n v20 a24 c24 _ h26).atR [6] rfl rfl rfl ?_
     rintro _ _ ⟨a27, c27, rfl, rfl⟩
     refine qk (n := 1) ttOK 48 [.agg [.int .i64 v25.op, .int .i64 v25.hd, .int .i64 v25.n, .sl 4 (Tm.encL v25.args)]] (ds' := (Tm.encL ([v25]))) rfl (by kernel_rfl) ⟨⟨rfl, rfl, rfl, ⟨[(.v (.int .i64 v25.op))], _, rfl, rfl, ⟨[(.v (.int .i64 v25.hd))], _, rfl, rfl, ⟨[(.v (.int .i64 v25.n))], _, rfl, rfl, ⟨[(.v (.slice a27 ((Tm.encL v25.args).length) c27))], _, rfl, (.inl ⟨_, rfl, ql (j := 7) rfl⟩), rfl⟩⟩⟩⟩⟩, trivial⟩ rfl (by simp only [Tm.encL_eq, List.map_cons, List.map_nil, Tm.enc_eq] <;> rfl) (by decide) (by decide) ?_
     intro a28
     obtain ⟨h29, hr⟩ := qj hr
     refine qm (ds' := (Tm.encL (v16 ++ [v25]))) ttOK 48 0 8 rfl (by kernel_rfl) rfl rfl rfl rfl (by simp only [Tm.encL_eq, List.map_append]) h29 (by decide) ?_
     intro a30 c30
     exact ⟨(n, (v16 ++ [v25]), a30, c30, (IntKind.i64.wrap (v18 + 1))), hr, Nat.lt_succ_self _, ⟨rfl, rfl, rfl, rfl, rfl, rfl, trivial⟩, (StLe.gen 1 [.old 0] [.old 0, .old 1, .old 2, .old 3, .old 4, .old 5] rfl rfl rfl rfl rfl rfl rfl)⟩
    ·replace hr := qf h19 hr
     obtain ⟨q34, hq34⟩ : ∃ q, q = n := ⟨_, rfl⟩
     refine AtLoop.mk ⟨Nat × (List Tm) × Option Addr × Nat × Int, fun x => [(3, (.v (.slice a9 ((Tm.encL v8).length) c9))), (6, (.loc 0 0)), (10, (.v (.slice x.2.2.1 ((Tm.encL x.2.1).length) x.2.2.2.1))), (57, (.v (.slice a7 ((Tm.encL v5.lst).length) c7))), (58, (.v (.int .i64 ((Tm.encL v5.lst).length : Int)))), (59, (.v (.int .i64 x.2.2.2.2)))], fun x => ⟨[.cells 110 [(.v (.slice a6 ((Tm.encL v5.som).length) c6)), (.v (.slice a7 ((Tm.encL v5.lst).length) c7))]], [⟨.slice x.2.2.1 ((Tm.encL x.2.1).length) x.2.2.2.1, 4, 41, (Tm.encL x.2.1)⟩], [(.slice a2 ((Dc.encL v1).length) c2, .sl 6 (Dc.encL v1)), (.slice a4 ((Tm.encL v3).length) c4, .sl 4 (Tm.encL v3)), (.slice a6 ((Tm.encL v5.som).length) c6, .sl 4 (Tm.encL v5.som)), (.slice a7 ((Tm.encL v5.lst).length) c7, .sl 4 (Tm.encL v5.lst)), (.slice a9 ((Tm.encL v8).length) c9, .sl 4 (Tm.encL v8)), (.slice a11 ((Bk.encL ([v5])).length) 1, .sl 2 (Bk.encL ([v5])))]⟩, fun x => x.1 ≤ q34 ∧ world_Extend_L2 x.1 v5 v8 x.2.1 x.2.2.2.2 = some r, fun x => x.1, (n, v16, a17, c17, 0), ⟨by omega, hr⟩, ⟨rfl, rfl, rfl, rfl, rfl, rfl, trivial⟩, (StLe.gen 1 [.old 0] [.old 0, .old 1, .old 2, .old 3, .old 4, .old 5] rfl rfl rfl rfl rfl rfl rfl), fun x _ => ⟨rfl, rfl⟩, ?_⟩
     rintro ⟨n, v31, a32, c32, v33⟩ HH
     obtain ⟨hbq34, hr⟩ : n ≤ q34 ∧ world_Extend_L2 n v5 v8 v31 v33 = some r := HH
     rcases n with _ | n
     ·exact qe hr
     rw [world_Extend_L2.eq_2] at hr
     refine AtIf.mk (fun h35 => ?_) (fun h35 => ?_)
     ·replace hr := qg h35 hr
      obtain ⟨v36, h37, hr⟩ := bind_some hr
      obtain ⟨h38, h39⟩ := qi h37
      refine qh ttOK 3 rfl rfl rfl rfl h38 (Tm.encL_get h39) ?_
      intro a40 c40 _ _
      obtain ⟨v41, h42, hr⟩ := bind_some hr
      refine (qft n v36 v5.som v8 v33 a40 c40 a6 c6 a9 c9 _ h42).atR [6, 2, 4] rfl rfl rfl ?_
      rintro _ _ ⟨a43, c43, rfl, rfl⟩
      refine AtIf.mk (fun h44 => ?_) (fun h44 => ?_)
      ·replace hr := qg h44 hr
       replace hr := Option.some.inj hr
       subst hr
       exact qa [.nil 4] [(.slice none 0 0, .sl 4 [])] rfl rfl ⟨none, 0, rfl, rfl⟩
      ·replace hr := qf h44 hr
       refine qk (n := 1) ttOK 48 [.agg [.int .i64 v41.1.op, .int .i64 v41.1.hd, .int .i64 v41.1.n, .sl 4 (Tm.encL v41.1.args)]] (ds' := (Tm.encL ([v41.1]))) rfl (by kernel_rfl) ⟨⟨rfl, rfl, rfl, ⟨[(.v (.int .i64 v41.1.op))], _, rfl, rfl, ⟨[(.v (.int .i64 v41.1.hd))], _, rfl, rfl, ⟨[(.v (.int .i64 v41.1.n))], _, rfl, rfl, ⟨[(.v (.slice a43 ((Tm.encL v41.1.args).length) c43))], _, rfl, (.inl ⟨_, rfl, ql (j := 7) rfl⟩), rfl⟩⟩⟩⟩⟩, trivial⟩ rfl (by simp only [Tm.encL_eq, List.map_cons, List.map_nil, Tm.enc_eq] <;> rfl) (by decide) (by decide) ?_
       intro a45
       obtain ⟨h46, hr⟩ := qj hr
       refine qm (ds' := (Tm.encL (v31 ++ [v41.1]))) ttOK 48 0 8 rfl (by kernel_rfl) rfl rfl rfl rfl (by simp only [Tm.encL_eq, List.map_append]) h46 (by decide) ?_
       intro a47 c47
       exact ⟨(n, (v31 ++ [v41.1]), a47, c47, (IntKind.i64.wrap (v33 + 1))), ⟨by omega, hr⟩, Nat.lt_succ_self _, ⟨rfl, rfl, rfl, rfl, rfl, rfl, trivial⟩, (StLe.gen 1 [.old 0] [.old 0, .old 1, .old 2, .old 3, .old 4, .old 5] rfl rfl rfl rfl rfl rfl rfl)⟩
     ·replace hr := qf h35 hr
      replace hr := Option.some.inj hr
      subst hr
      exact qa [.froz 0] [(.slice a32 ((Tm.encL v31).length) c32, .sl 4 (Tm.encL v31))] rfl rfl ⟨a32, c32, rfl, rfl⟩
 ·replace hr := qg h10 hr
  refine AtIf.mk (fun _ => ?_) (fun h => tf h)
  replace hr := Option.some.inj hr
  subst hr
  exact qa [.nil 4] [(.slice none 0 0, .sl 4 [])] rfl rfl ⟨none, 0, rfl, rfl⟩
def world_Cut : Nat → (List Dc) → (List Bk) → (List Tm) → Option ((List Int) × Int)
 | 0, _, _, _ => none
 | n + 1, v1, v3, v5 =>
  (world_good n v1 v5 v3 ([])).bind (fun v7 =>
  cond (!v7) (
  some ([], 2)) (
  (qf6 n v1 v3 ([]) v5).bind (fun v10 =>
  some (v10.1, v10.2))))
theorem qa5 (n : Nat) (v1 : (List Dc)) (v3 : (List Bk)) (v5 : (List Tm)) (a2 : OA) (c2 : Nat) (a4 : OA) (c4 : Nat) (a6 : OA) (c6 : Nat) (r : (List Int) × Int) (hr : world_Cut n v1 v3 v5 = some r) : Pure Tryz.prog (.val (.fn (.func 64) [] [])) [(.v (.slice a2 ((Dc.encL v1).length) c2)), (.v (.slice a4 ((Bk.encL v3).length) c4)), (.v (.slice a6 ((Tm.encL v5).length) c6))] [(.slice a2 ((Dc.encL v1).length) c2, .sl 6 (Dc.encL v1)), (.slice a4 ((Bk.encL v3).length) c4, .sl 2 (Bk.encL v3)), (.slice a6 ((Tm.encL v5).length) c6, .sl 4 (Tm.encL v5))] (fun r' out => ∃ (b1 : OA) (d1 : Nat), r' = (.tup [(.v (.slice b1 ((List.map (D.int .i64) r.1).length) d1)), (.v (.int .i64 r.2))]) ∧ out = [(.slice b1 ((List.map (D.int .i64) r.1).length) d1, .sl 1 (List.map (D.int .i64) r.1))]) := by
 rcases n with _ | n
 ·exact qe hr
 rw [world_Cut.eq_2] at hr
 refine qb (N := 19) (m := 0) (dt := fun _ => none) [] ttOK Tryz.func64 rfl Tryz.call64 Tryz.ntmps64 rfl rfl rfl mixed (by kernel_rfl) ?_
 obtain ⟨v7, h8, hr⟩ := bind_some hr
 refine Meets.nilRep 4 ?_
 refine (qdf n v1 v5 v3 ([]) a2 c2 a6 c6 a4 c4 none 0 _ h8).atR [1, 3, 2, 0] rfl rfl rfl ?_
 rintro _ _ ⟨rfl, rfl⟩
 refine AtIf.mk (fun h9 => ?_) (fun h9 => ?_)
 ·replace hr := qg h9 hr
  replace hr := Option.some.inj hr
  subst hr
  exact qa [.nil 1] [(.slice none 0 0, .sl 1 [])] rfl rfl ⟨none, 0, rfl, rfl⟩
 ·replace hr := qf h9 hr
  obtain ⟨v10, h11, hr⟩ := bind_some hr
  refine (qil n v1 v3 ([]) v5 a2 c2 a4 c4 none 0 a6 c6 _ h11).atR [1, 2, 0, 3] rfl rfl rfl ?_
  rintro _ _ ⟨a12, c12, rfl, rfl⟩
  replace hr := Option.some.inj hr
  subst hr
  exact qa [.old 4] [(.slice a12 ((List.map (D.int .i64) v10.1).length) c12, .sl 1 (List.map (D.int .i64) v10.1))] rfl rfl ⟨a12, c12, rfl, rfl⟩
def W16_awake : Nat → Option (Bool)
 | 0 => none
 | n + 1 =>
  (R03_App n 2 0 ([])).bind (fun v1 =>
  (W16_nat n ).bind (fun v6 =>
  (world_Cut n v6 ([(Bk.mk ([]) ([v1]))]) ([v1, v1])).bind (fun v10 =>
  (W16_nat n ).bind (fun v16 =>
  (world_Cut n v16 ([]) ([v1])).bind (fun v20 =>
  (idx ([(Bk.mk ([]) ([v1]))]) 0).bind (fun v26 =>
  (W16_nat n ).bind (fun v32 =>
  (world_Extend n v32 ([]) v26 ([])).bind (fun v35 =>
  cond ((v10.2 != 0) || (((List.map (D.int .i64) v10.1).length : Int) != 2)) (
  some (false)) (
  (idx v10.1 0).bind (fun v39 =>
  cond (v39 != 0) (
  some (false)) (
  (idx v10.1 1).bind (fun v44 =>
  cond ((((v44 != 0) || (v20.2 != 33)) || (v35.2 != 0)) || (((Tm.encL v35.1).length : Int) != 1)) (
  some (false)) (
  (idx ([(Bk.mk ([]) ([v1]))]) 0).bind (fun v49 =>
  (W16_nat n ).bind (fun v55 =>
  (world_Valid n v55 v49).bind (fun v58 =>
  cond (v58 != 0) (
  some (false)) (
  some (true))))))))))))))))))
theorem qbp (n : Nat)  (r : Bool) (hr : W16_awake n  = some r) : Pure Tryz.prog (.val (.fn (.func 58) [] [])) [] [] (fun r' out => r' = (.v (.bool r)) ∧ out = []) := by
 rcases n with _ | n
 ·exact qe hr
 rw [W16_awake.eq_2] at hr
 refine qb (N := 78) (m := 0) (dt := drawsOf [(3, .node [1, 2, 3] [(0, .node [] [(4, .node [] [(5, .leaf [6, 7, 8, 9, 10])])]), (4, .node [] [(0, .node [] [(5, .leaf [6, 7, 8, 9, 10])])])], [4, 5], []), (4, .node [1] [(0, .node [] [(2, .node [] [(3, .leaf [4, 5, 6, 7, 8])])]), (2, .node [] [(0, .node [] [(3, .leaf [4, 5, 6, 7, 8])])])], [2, 3], []), (5, .node [1, 2, 3] [(0, .node [] [(4, .leaf [5, 6, 7, 8, 9])])], [4], []), (6, .node [0, 1, 2, 3, 4, 5, 6, 7, 8, 9, 10, 11, 12, 13, 14, 15, 16, 17, 18, 19, 20, 21, 22, 23, 24, 25, 26, 27, 28, 29, 30, 31, 32, 34, 35, 36] [(33, .node [] [(37, .leaf [38, 39])])], [37], [])]) [] ttOK Tryz.func58 rfl Tryz.call58 Tryz.ntmps58 rfl rfl rfl mixed (by kernel_rfl) ?_
 obtain ⟨v1, h2, hr⟩ := bind_some hr
 refine Meets.le (S' := ⟨[], [⟨.slice none 0 0, 4, 41, []⟩], []⟩) (StLe.gen 0 [.nil 4 41] [] rfl rfl rfl rfl rfl rfl rfl) rfl ?_
 refine (qh0 n 2 0 ([]) none 0 _ h2).frameRA [] [0] [] rfl rfl rfl rfl rfl rfl rfl rfl rfl ?_
 rintro _ _ ⟨a3, c3, rfl, rfl⟩
 refine ⟨rfl, [], rfl, ?_⟩
 refine AtSem.le (S' := ⟨[.cells 41 [(.v (.int .i64 v1.op)), (.v (.int .i64 v1.hd)), (.v (.int .i64 v1.n)), (.v (.slice a3 ((Tm.encL v1.args).length) c3))]], [], [(.slice a3 ((Tm.encL v1.args).length) c3, .sl 4 (Tm.encL v1.args))]⟩) (StLe.gen 1 [] [.froz 0] rfl rfl rfl rfl rfl rfl rfl) rfl ?_
 refine qk (n := 1) ttOK 48 [.agg [.int .i64 v1.op, .int .i64 v1.hd, .int .i64 v1.n, .sl 4 (Tm.encL v1.args)]] (ds' := (Tm.encL ([v1]))) rfl (by kernel_rfl) ⟨⟨rfl, rfl, rfl, ⟨[(.v (.int .i64 v1.op))], _, rfl, rfl, ⟨[(.v (.int .i64 v1.hd))], _, rfl, rfl, ⟨[(.v (.int .i64 v1.n))], _, rfl, rfl, ⟨[(.v (.slice a3 ((Tm.encL v1.args).length) c3))], _, rfl, (.inl ⟨_, rfl, ql (j := 0) rfl⟩), rfl⟩⟩⟩⟩⟩, trivial⟩ rfl (by simp only [Tm.encL_eq, List.map_cons, List.map_nil, Tm.enc_eq] <;> rfl) (by decide) (by decide) ?_
 intro a4
 refine qk (n := 1) ttOK 48 [.agg [.sl 4 [], .sl 4 (Tm.encL ([v1]))]] (ds' := (Bk.encL ([(Bk.mk ([]) ([v1]))]))) rfl (by kernel_rfl) ⟨⟨rfl, rfl, rfl, ⟨[(.v (.slice none 0 0))], _, rfl, (.inr ⟨rfl, rfl⟩), ⟨[(.v (.slice a4 ((Tm.encL ([v1])).length) 1))], _, rfl, (.inl ⟨_, rfl, ql (j := 1) rfl⟩), rfl⟩⟩⟩, trivial⟩ rfl (by simp only [Bk.encL_eq, List.map_cons, List.map_nil, Bk.enc_eq] <;> rfl) (by decide) (by decide) ?_
 intro a5
 obtain ⟨v6, h7, hr⟩ := bind_some hr
 obtain ⟨v10, h11, hr⟩ := bind_some hr
 refine ⟨?_, ?_⟩
 ·
  refine (qac n  _ h7).atR [] rfl rfl rfl ?_
  rintro _ _ ⟨a13, c13, rfl, rfl⟩
  refine ⟨fun _ _ h => h, ?_⟩
  refine qk (n := 2) ttOK 48 [.agg [.int .i64 v1.op, .int .i64 v1.hd, .int .i64 v1.n, .sl 4 (Tm.encL v1.args)], .agg [.int .i64 v1.op, .int .i64 v1.hd, .int .i64 v1.n, .sl 4 (Tm.encL v1.args)]] (ds' := (Tm.encL ([v1, v1]))) rfl (by kernel_rfl) ⟨⟨rfl, rfl, rfl, ⟨[(.v (.int .i64 v1.op))], _, rfl, rfl, ⟨[(.v (.int .i64 v1.hd))], _, rfl, rfl, ⟨[(.v (.int .i64 v1.n))], _, rfl, rfl, ⟨[(.v (.slice a3 ((Tm.encL v1.args).length) c3))], _, rfl, (.inl ⟨_, rfl, ql (j := 0) rfl⟩), rfl⟩⟩⟩⟩⟩, ⟨⟨rfl, rfl, rfl, ⟨[(.v (.int .i64 v1.op))], _, rfl, rfl, ⟨[(.v (.int .i64 v1.hd))], _, rfl, rfl, ⟨[(.v (.int .i64 v1.n))], _, rfl, rfl, ⟨[(.v (.slice a3 ((Tm.encL v1.args).length) c3))], _, rfl, (.inl ⟨_, rfl, ql (j := 0) rfl⟩), rfl⟩⟩⟩⟩⟩, trivial⟩⟩ rfl (by simp only [Tm.encL_eq, List.map_cons, List.map_nil, Tm.enc_eq] <;> rfl) (by decide) (by decide) ?_
  intro a14
  refine (qa5 n v6 ([(Bk.mk ([]) ([v1]))]) ([v1, v1]) a13 c13 a5 1 a14 2 _ h11).atR [3, 2, 4] rfl rfl rfl ?_
  rintro _ _ ⟨a15, c15, rfl, rfl⟩
  obtain ⟨v16, h17, hr⟩ := bind_some hr
  obtain ⟨v20, h21, hr⟩ := bind_some hr
  refine ⟨?_, ?_⟩
  ·
   refine (qac n  _ h17).atR [] rfl rfl rfl ?_
   rintro _ _ ⟨a23, c23, rfl, rfl⟩
   refine ⟨fun _ _ h => h, ?_⟩
   refine qk (n := 1) ttOK 48 [.agg [.int .i64 v1.op, .int .i64 v1.hd, .int .i64 v1.n, .sl 4 (Tm.encL v1.args)]] (ds' := (Tm.encL ([v1]))) rfl (by kernel_rfl) ⟨⟨rfl, rfl, rfl, ⟨[(.v (.int .i64 v1.op))], _, rfl, rfl, ⟨[(.v (.int .i64 v1.hd))], _, rfl, rfl, ⟨[(.v (.int .i64 v1.n))], _, rfl, rfl, ⟨[(.v (.slice a3 ((Tm.encL v1.args).length) c3))], _, rfl, (.inl ⟨_, rfl, ql (j := 0) rfl⟩), rfl⟩⟩⟩⟩⟩, trivial⟩ rfl (by simp only [Tm.encL_eq, List.map_cons, List.map_nil, Tm.enc_eq] <;> rfl) (by decide) (by decide) ?_
   intro a24
   refine Meets.nilRep 2 ?_
   refine (qa5 n v16 ([]) ([v1]) a23 c23 none 0 a24 1 _ h21).atR [7, 0, 8] rfl rfl rfl ?_
   rintro _ _ ⟨a25, c25, rfl, rfl⟩
   obtain ⟨v26, h27, hr⟩ := bind_some hr
   obtain ⟨h28, h29⟩ := qi h27
   refine qh ttOK 3 rfl rfl rfl rfl h28 (Bk.encL_get h29) ?_
   intro a30 c30 _ _ a31 c31 _ _
   obtain ⟨v32, h33, hr⟩ := bind_some hr
   refine (qac n  _ h33).atR [] rfl rfl rfl ?_
   rintro _ _ ⟨a34, c34, rfl, rfl⟩
   refine ⟨fun _ _ h => h, ?_⟩
   obtain ⟨v35, h36, hr⟩ := bind_some hr
   refine Meets.nilRep 4 ?_
   refine (qa1 n v32 ([]) v26 ([]) a34 c34 none 0 a30 c30 a31 c31 none 0 _ h36).atR [13, 0, 11, 12, 0] rfl rfl rfl ?_
   rintro _ _ ⟨a37, c37, rfl, rfl⟩
   refine AtGuard.mk (fun h38 => ?_) (fun h38 => ?_)
   ·replace hr := qf h38 hr
    obtain ⟨v39, h40, hr⟩ := bind_some hr
    obtain ⟨h41, h42⟩ := qi h40
    refine qh ttOK 7 rfl rfl rfl rfl h41 (qa7 (D.int .i64) h42) ?_
    refine AtGuard.mk (fun h43 => ?_) (fun h43 => ?_)
    ·replace hr := qf h43 hr
     obtain ⟨v44, h45, hr⟩ := bind_some hr
     obtain ⟨h46, h47⟩ := qi h45
     refine qh ttOK 7 rfl rfl rfl rfl h46 (qa7 (D.int .i64) h47) ?_
     refine AtGuard.mk (fun h48 => ?_) (fun h48 => ?_)
     ·replace hr := qf h48 hr
      obtain ⟨v49, h50, hr⟩ := bind_some hr
      obtain ⟨h51, h52⟩ := qi h50
      refine qh ttOK 4 rfl rfl rfl rfl h51 (Bk.encL_get h52) ?_
      intro a53 c53 _ _ a54 c54 _ _
      obtain ⟨v55, h56, hr⟩ := bind_some hr
      refine (qac n  _ h56).atR [] rfl rfl rfl ?_
      rintro _ _ ⟨a57, c57, rfl, rfl⟩
      refine ⟨fun _ _ h => h, ?_⟩
      obtain ⟨v58, h59, hr⟩ := bind_some hr
      refine (qbq n v55 v49 a57 c57 a53 c53 a54 c54 _ h59).atR [17, 15, 16] rfl rfl rfl ?_
      rintro _ _ ⟨rfl, rfl⟩
      refine AtIf.mk (fun h60 => ?_) (fun h60 => ?_)
      ·replace hr := qg h60 hr
       replace hr := Option.some.inj hr
       subst hr
       exact qa [] [] rfl rfl ⟨rfl, rfl⟩
      ·replace hr := qf h60 hr
       refine AtIf.mk (fun h => ff h) (fun _ => ?_)
       replace hr := Option.some.inj hr
       subst hr
       exact qa [] [] rfl rfl ⟨rfl, rfl⟩
     ·replace hr := qg h48 hr
      refine AtIf.mk (fun _ => ?_) (fun h => tf h)
      replace hr := Option.some.inj hr
      subst hr
      exact qa [] [] rfl rfl ⟨rfl, rfl⟩
    ·replace hr := qg h43 hr
     refine AtGuard.mk (fun h => tf h) (fun _ => ?_)
     refine AtIf.mk (fun _ => ?_) (fun h => tf h)
     replace hr := Option.some.inj hr
     subst hr
     exact qa [] [] rfl rfl ⟨rfl, rfl⟩
   ·replace hr := qg h38 hr
    refine AtGuard.mk (fun h => tf h) (fun _ => ?_)
    refine AtGuard.mk (fun h => tf h) (fun _ => ?_)
    refine AtIf.mk (fun _ => ?_) (fun h => tf h)
    replace hr := Option.some.inj hr
    subst hr
    exact qa [] [] rfl rfl ⟨rfl, rfl⟩
  ·
   refine qk (n := 1) ttOK 48 [.agg [.int .i64 v1.op, .int .i64 v1.hd, .int .i64 v1.n, .sl 4 (Tm.encL v1.args)]] (ds' := (Tm.encL ([v1]))) rfl (by kernel_rfl) ⟨⟨rfl, rfl, rfl, ⟨[(.v (.int .i64 v1.op))], _, rfl, rfl, ⟨[(.v (.int .i64 v1.hd))], _, rfl, rfl, ⟨[(.v (.int .i64 v1.n))], _, rfl, rfl, ⟨[(.v (.slice a3 ((Tm.encL v1.args).length) c3))], _, rfl, (.inl ⟨_, rfl, ql (j := 0) rfl⟩), rfl⟩⟩⟩⟩⟩, trivial⟩ rfl (by simp only [Tm.encL_eq, List.map_cons, List.map_nil, Tm.enc_eq] <;> rfl) (by decide) (by decide) ?_
   intro a61
   refine (qac n  _ h17).atR [] rfl rfl rfl ?_
   rintro _ _ ⟨a62, c62, rfl, rfl⟩
   refine ⟨fun _ _ h => h, ?_⟩
   refine Meets.nilRep 2 ?_
   refine (qa5 n v16 ([]) ([v1]) a62 c62 none 0 a61 1 _ h21).atR [8, 0, 7] rfl rfl rfl ?_
   rintro _ _ ⟨a63, c63, rfl, rfl⟩
   obtain ⟨v26, h27, hr⟩ := bind_some hr
   obtain ⟨h28, h29⟩ := qi h27
   refine qh ttOK 3 rfl rfl rfl rfl h28 (Bk.encL_get h29) ?_
   intro a30 c30 _ _ a31 c31 _ _
   obtain ⟨v32, h33, hr⟩ := bind_some hr
   refine (qac n  _ h33).atR [] rfl rfl rfl ?_
   rintro _ _ ⟨a34, c34, rfl, rfl⟩
   refine ⟨fun _ _ h => h, ?_⟩
   obtain ⟨v35, h36, hr⟩ := bind_some hr
   refine Meets.nilRep 4 ?_
   refine (qa1 n v32 ([]) v26 ([]) a34 c34 none 0 a30 c30 a31 c31 none 0 _ h36).atR [13, 0, 11, 12, 0] rfl rfl rfl ?_
   rintro _ _ ⟨a37, c37, rfl, rfl⟩
   refine AtGuard.mk (fun h38 => ?_) (fun h38 => ?_)
   ·replace hr := qf h38 hr
    obtain ⟨v39, h40, hr⟩ := bind_some hr
    obtain ⟨h41, h42⟩ := qi h40
    refine qh ttOK 7 rfl rfl rfl rfl h41 (qa7 (D.int .i64) h42) ?_
    refine AtGuard.mk (fun h43 => ?_) (fun h43 => ?_)
    ·replace hr := qf h43 hr
     obtain ⟨v44, h45, hr⟩ := bind_some hr
     obtain ⟨h46, h47⟩ := qi h45
     refine qh ttOK 7 rfl rfl rfl rfl h46 (qa7 (D.int .i64) h47) ?_
     refine AtGuard.mk (fun h48 => ?_) (fun h48 => ?_)
     ·replace hr := qf h48 hr
      obtain ⟨v49, h50, hr⟩ := bind_some hr
      obtain ⟨h51, h52⟩ := qi h50
      refine qh ttOK 4 rfl rfl rfl rfl h51 (Bk.encL_get h52) ?_
      intro a53 c53 _ _ a54 c54 _ _
      obtain ⟨v55, h56, hr⟩ := bind_some hr
      refine (qac n  _ h56).atR [] rfl rfl rfl ?_
      rintro _ _ ⟨a57, c57, rfl, rfl⟩
      refine ⟨fun _ _ h => h, ?_⟩
      obtain ⟨v58, h59, hr⟩ := bind_some hr
      refine (qbq n v55 v49 a57 c57 a53 c53 a54 c54 _ h59).atR [17, 15, 16] rfl rfl rfl ?_
      rintro _ _ ⟨rfl, rfl⟩
      refine AtIf.mk (fun h60 => ?_) (fun h60 => ?_)
      ·replace hr := qg h60 hr
       replace hr := Option.some.inj hr
       subst hr
       exact qa [] [] rfl rfl ⟨rfl, rfl⟩
      ·replace hr := qf h60 hr
       refine AtIf.mk (fun h => ff h) (fun _ => ?_)
       replace hr := Option.some.inj hr
       subst hr
       exact qa [] [] rfl rfl ⟨rfl, rfl⟩
     ·replace hr := qg h48 hr
      refine AtIf.mk (fun _ => ?_) (fun h => tf h)
      replace hr := Option.some.inj hr
      subst hr
      exact qa [] [] rfl rfl ⟨rfl, rfl⟩
    ·replace hr := qg h43 hr
     refine AtGuard.mk (fun h => tf h) (fun _ => ?_)
     refine AtIf.mk (fun _ => ?_) (fun h => tf h)
     replace hr := Option.some.inj hr
     subst hr
     exact qa [] [] rfl rfl ⟨rfl, rfl⟩
   ·replace hr := qg h38 hr
    refine AtGuard.mk (fun h => tf h) (fun _ => ?_)
    refine AtGuard.mk (fun h => tf h) (fun _ => ?_)
    refine AtIf.mk (fun _ => ?_) (fun h => tf h)
    replace hr := Option.some.inj hr
    subst hr
    exact qa [] [] rfl rfl ⟨rfl, rfl⟩
 ·
  refine qk (n := 2) ttOK 48 [.agg [.int .i64 v1.op, .int .i64 v1.hd, .int .i64 v1.n, .sl 4 (Tm.encL v1.args)], .agg [.int .i64 v1.op, .int .i64 v1.hd, .int .i64 v1.n, .sl 4 (Tm.encL v1.args)]] (ds' := (Tm.encL ([v1, v1]))) rfl (by kernel_rfl) ⟨⟨rfl, rfl, rfl, ⟨[(.v (.int .i64 v1.op))], _, rfl, rfl, ⟨[(.v (.int .i64 v1.hd))], _, rfl, rfl, ⟨[(.v (.int .i64 v1.n))], _, rfl, rfl, ⟨[(.v (.slice a3 ((Tm.encL v1.args).length) c3))], _, rfl, (.inl ⟨_, rfl, ql (j := 0) rfl⟩), rfl⟩⟩⟩⟩⟩, ⟨⟨rfl, rfl, rfl, ⟨[(.v (.int .i64 v1.op))], _, rfl, rfl, ⟨[(.v (.int .i64 v1.hd))], _, rfl, rfl, ⟨[(.v (.int .i64 v1.n))], _, rfl, rfl, ⟨[(.v (.slice a3 ((Tm.encL v1.args).length) c3))], _, rfl, (.inl ⟨_, rfl, ql (j := 0) rfl⟩), rfl⟩⟩⟩⟩⟩, trivial⟩⟩ rfl (by simp only [Tm.encL_eq, List.map_cons, List.map_nil, Tm.enc_eq] <;> rfl) (by decide) (by decide) ?_
  intro a64
  refine (qac n  _ h7).atR [] rfl rfl rfl ?_
  rintro _ _ ⟨a65, c65, rfl, rfl⟩
  refine ⟨fun _ _ h => h, ?_⟩
  refine (qa5 n v6 ([(Bk.mk ([]) ([v1]))]) ([v1, v1]) a65 c65 a5 1 a64 2 _ h11).atR [4, 2, 3] rfl rfl rfl ?_
  rintro _ _ ⟨a66, c66, rfl, rfl⟩
  obtain ⟨v16, h17, hr⟩ := bind_some hr
  obtain ⟨v20, h21, hr⟩ := bind_some hr
  refine ⟨?_, ?_⟩
  ·
   refine (qac n  _ h17).atR [] rfl rfl rfl ?_
   rintro _ _ ⟨a23, c23, rfl, rfl⟩
   refine ⟨fun _ _ h => h, ?_⟩
   refine qk (n := 1) ttOK 48 [.agg [.int .i64 v1.op, .int .i64 v1.hd, .int .i64 v1.n, .sl 4 (Tm.encL v1.args)]] (ds' := (Tm.encL ([v1]))) rfl (by kernel_rfl) ⟨⟨rfl, rfl, rfl, ⟨[(.v (.int .i64 v1.op))], _, rfl, rfl, ⟨[(.v (.int .i64 v1.hd))], _, rfl, rfl, ⟨[(.v (.int .i64 v1.n))], _, rfl, rfl, ⟨[(.v (.slice a3 ((Tm.encL v1.args).length) c3))], _, rfl, (.inl ⟨_, rfl, ql (j := 0) rfl⟩), rfl⟩⟩⟩⟩⟩, trivial⟩ rfl (by simp only [Tm.encL_eq, List.map_cons, List.map_nil, Tm.enc_eq] <;> rfl) (by decide) (by decide) ?_
   intro a24
   refine Meets.nilRep 2 ?_
   refine (qa5 n v16 ([]) ([v1]) a23 c23 none 0 a24 1 _ h21).atR [7, 0, 8] rfl rfl rfl ?_
   rintro _ _ ⟨a25, c25, rfl, rfl⟩
   obtain ⟨v26, h27, hr⟩ := bind_some hr
   obtain ⟨h28, h29⟩ := qi h27
   refine qh ttOK 3 rfl rfl rfl rfl h28 (Bk.encL_get h29) ?_
   intro a30 c30 _ _ a31 c31 _ _
   obtain ⟨v32, h33, hr⟩ := bind_some hr
   refine (qac n  _ h33).atR [] rfl rfl rfl ?_
   rintro _ _ ⟨a34, c34, rfl, rfl⟩
   refine ⟨fun _ _ h => h, ?_⟩
   obtain ⟨v35, h36, hr⟩ := bind_some hr
   refine Meets.nilRep 4 ?_
   refine (qa1 n v32 ([]) v26 ([]) a34 c34 none 0 a30 c30 a31 c31 none 0 _ h36).atR [13, 0, 11, 12, 0] rfl rfl rfl ?_
   rintro _ _ ⟨a37, c37, rfl, rfl⟩
   refine AtGuard.mk (fun h38 => ?_) (fun h38 => ?_)
   ·replace hr := qf h38 hr
    obtain ⟨v39, h40, hr⟩ := bind_some hr
    obtain ⟨h41, h42⟩ := qi h40
    refine qh ttOK 7 rfl rfl rfl rfl h41 (qa7 (D.int .i64) h42) ?_
    refine AtGuard.mk (fun h43 => ?_) (fun h43 => ?_)
    ·replace hr := qf h43 hr
     obtain ⟨v44, h45, hr⟩ := bind_some hr
     obtain ⟨h46, h47⟩ := qi h45
     refine qh ttOK 7 rfl rfl rfl rfl h46 (qa7 (D.int .i64) h47) ?_
     refine AtGuard.mk (fun h48 => ?_) (fun h48 => ?_)
     ·replace hr := qf h48 hr
      obtain ⟨v49, h50, hr⟩ := bind_some hr
      obtain ⟨h51, h52⟩ := qi h50
      refine qh ttOK 4 rfl rfl rfl rfl h51 (Bk.encL_get h52) ?_
      intro a53 c53 _ _ a54 c54 _ _
      obtain ⟨v55, h56, hr⟩ := bind_some hr
      refine (qac n  _ h56).atR [] rfl rfl rfl ?_
      rintro _ _ ⟨a57, c57, rfl, rfl⟩
      refine ⟨fun _ _ h => h, ?_⟩
      obtain ⟨v58, h59, hr⟩ := bind_some hr
      refine (qbq n v55 v49 a57 c57 a53 c53 a54 c54 _ h59).atR [17, 15, 16] rfl rfl rfl ?_
      rintro _ _ ⟨rfl, rfl⟩
      refine AtIf.mk (fun h60 => ?_) (fun h60 => ?_)
      ·replace hr := qg h60 hr
       replace hr := Option.some.inj hr
       subst hr
       exact qa [] [] rfl rfl ⟨rfl, rfl⟩
      ·replace hr := qf h60 hr
       refine AtIf.mk (fun h => ff h) (fun _ => ?_)
       replace hr := Option.some.inj hr
       subst hr
       exact qa [] [] rfl rfl ⟨rfl, rfl⟩
     ·replace hr := qg h48 hr
      refine AtIf.mk (fun _ => ?_) (fun h => tf h)
      replace hr := Option.some.inj hr
      subst hr
      exact qa [] [] rfl rfl ⟨rfl, rfl⟩
    ·replace hr := qg h43 hr
     refine AtGuard.mk (fun h => tf h) (fun _ => ?_)
     refine AtIf.mk (fun _ => ?_) (fun h => tf h)
     replace hr := Option.some.inj hr
     subst hr
     exact qa [] [] rfl rfl ⟨rfl, rfl⟩
   ·replace hr := qg h38 hr
    refine AtGuard.mk (fun h => tf h) (fun _ => ?_)
    refine AtGuard.mk (fun h => tf h) (fun _ => ?_)
    refine AtIf.mk (fun _ => ?_) (fun h => tf h)
    replace hr := Option.some.inj hr
    subst hr
    exact qa [] [] rfl rfl ⟨rfl, rfl⟩
  ·
   refine qk (n := 1) ttOK 48 [.agg [.int .i64 v1.op, .int .i64 v1.hd, .int .i64 v1.n, .sl 4 (Tm.encL v1.args)]] (ds' := (Tm.encL ([v1]))) rfl (by kernel_rfl) ⟨⟨rfl, rfl, rfl, ⟨[(.v (.int .i64 v1.op))], _, rfl, rfl, ⟨[(.v (.int .i64 v1.hd))], _, rfl, rfl, ⟨[(.v (.int .i64 v1.n))], _, rfl, rfl, ⟨[(.v (.slice a3 ((Tm.encL v1.args).length) c3))], _, rfl, (.inl ⟨_, rfl, ql (j := 0) rfl⟩), rfl⟩⟩⟩⟩⟩, trivial⟩ rfl (by simp only [Tm.encL_eq, List.map_cons, List.map_nil, Tm.enc_eq] <;> rfl) (by decide) (by decide) ?_
   intro a61
   refine (qac n  _ h17).atR [] rfl rfl rfl ?_
   rintro _ _ ⟨a62, c62, rfl, rfl⟩
   refine ⟨fun _ _ h => h, ?_⟩
   refine Meets.nilRep 2 ?_
   refine (qa5 n v16 ([]) ([v1]) a62 c62 none 0 a61 1 _ h21).atR [8, 0, 7] rfl rfl rfl ?_
   rintro _ _ ⟨a63, c63, rfl, rfl⟩
   obtain ⟨v26, h27, hr⟩ := bind_some hr
   obtain ⟨h28, h29⟩ := qi h27
   refine qh ttOK 3 rfl rfl rfl rfl h28 (Bk.encL_get h29) ?_
   intro a30 c30 _ _ a31 c31 _ _
   obtain ⟨v32, h33, hr⟩ := bind_some hr
   refine (qac n  _ h33).atR [] rfl rfl rfl ?_
   rintro _ _ ⟨a34, c34, rfl, rfl⟩
   refine ⟨fun _ _ h => h, ?_⟩
   obtain ⟨v35, h36, hr⟩ := bind_some hr
   refine Meets.nilRep 4 ?_
   refine (qa1 n v32 ([]) v26 ([]) a34 c34 none 0 a30 c30 a31 c31 none 0 _ h36).atR [13, 0, 11, 12, 0] rfl rfl rfl ?_
   rintro _ _ ⟨a37, c37, rfl, rfl⟩
   refine AtGuard.mk (fun h38 => ?_) (fun h38 => ?_)
   ·replace hr := qf h38 hr
    obtain ⟨v39, h40, hr⟩ := bind_some hr
    obtain ⟨h41, h42⟩ := qi h40
    refine qh ttOK 7 rfl rfl rfl rfl h41 (qa7 (D.int .i64) h42) ?_
    refine AtGuard.mk (fun h43 => ?_) (fun h43 => ?_)
    ·replace hr := qf h43 hr
     obtain ⟨v44, h45, hr⟩ := bind_some hr
     obtain ⟨h46, h47⟩ := qi h45
     refine qh ttOK 7 rfl rfl rfl rfl h46 (qa7 (D.int .i64) h47) ?_
     refine AtGuard.mk (fun h48 => ?_) (fun h48 => ?_)
     ·replace hr := qf h48 hr
      obtain ⟨v49, h50, hr⟩ := bind_some hr
      obtain ⟨h51, h52⟩ := qi h50
      refine qh ttOK 4 rfl rfl rfl rfl h51 (Bk.encL_get h52) ?_
      intro a53 c53 _ _ a54 c54 _ _
      obtain ⟨v55, h56, hr⟩ := bind_some hr
      refine (qac n  _ h56).atR [] rfl rfl rfl ?_
      rintro _ _ ⟨a57, c57, rfl, rfl⟩
      refine ⟨fun _ _ h => h, ?_⟩
      obtain ⟨v58, h59, hr⟩ := bind_some hr
      refine (qbq n v55 v49 a57 c57 a53 c53 a54 c54 _ h59).atR [17, 15, 16] rfl rfl rfl ?_
      rintro _ _ ⟨rfl, rfl⟩
      refine AtIf.mk (fun h60 => ?_) (fun h60 => ?_)
      ·replace hr := qg h60 hr
       replace hr := Option.some.inj hr
       subst hr
       exact qa [] [] rfl rfl ⟨rfl, rfl⟩
      ·replace hr := qf h60 hr
       refine AtIf.mk (fun h => ff h) (fun _ => ?_)
       replace hr := Option.some.inj hr
       subst hr
       exact qa [] [] rfl rfl ⟨rfl, rfl⟩
     ·replace hr := qg h48 hr
      refine AtIf.mk (fun _ => ?_) (fun h => tf h)
      replace hr := Option.some.inj hr
      subst hr
      exact qa [] [] rfl rfl ⟨rfl, rfl⟩
    ·replace hr := qg h43 hr
     refine AtGuard.mk (fun h => tf h) (fun _ => ?_)
     refine AtIf.mk (fun _ => ?_) (fun h => tf h)
     replace hr := Option.some.inj hr
     subst hr
     exact qa [] [] rfl rfl ⟨rfl, rfl⟩
   ·replace hr := qg h38 hr
    refine AtGuard.mk (fun h => tf h) (fun _ => ?_)
    refine AtGuard.mk (fun h => tf h) (fun _ => ?_)
    refine AtIf.mk (fun _ => ?_) (fun h => tf h)
    replace hr := Option.some.inj hr
    subst hr
    exact qa [] [] rfl rfl ⟨rfl, rfl⟩
mutual
def R06_Proper : Nat → (List Tm) → Option (Bool)
 | 0, _ => none
 | n + 1, v1 =>
  R06_Proper_L1 n v1 0
def R06_Proper_L1 : Nat → (List Tm) → Int → Option (Bool)
 | 0, _, _ => none
 | n + 1, v1, v3 =>
  cond (decide (v3 < ((Tm.encL v1).length : Int))) (
  (idx v1 v3).bind (fun v5 =>
  cond (!(refProper v5)) (
  some (false)) (
  R06_Proper_L1 n v1 (IntKind.i64.wrap (v3 + 1))))) (
  some (true))
 end
theorem qj6 (n : Nat) (v1 : (List Tm)) (a2 : OA) (c2 : Nat) (r : Bool) (hr : R06_Proper n v1 = some r) : Pure Tryz.prog (.val (.fn (.func 37) [] [])) [(.v (.slice a2 ((Tm.encL v1).length) c2))] [(.slice a2 ((Tm.encL v1).length) c2, .sl 4 (Tm.encL v1))] (fun r' out => r' = (.v (.bool r)) ∧ out = []) := by
 rcases n with _ | n
 ·exact qe hr
 rw [R06_Proper.eq_2] at hr
 refine qb (N := 16) (m := 0) (dt := fun _ => none) [] ttOK Tryz.func37 rfl Tryz.call37 Tryz.ntmps37 rfl rfl rfl mixed (by kernel_rfl) ?_
 refine AtLoop.mk ⟨Nat × Int, fun x => [(0, (.v (.slice a2 ((Tm.encL v1).length) c2))), (3, (.v (.int .i64 x.2)))], fun x => ⟨[], [], [(.slice a2 ((Tm.encL v1).length) c2, .sl 4 (Tm.encL v1))]⟩, fun x => R06_Proper_L1 x.1 v1 x.2 = some r, fun x => x.1, (n, 0), hr, ⟨rfl, rfl, trivial⟩, (StLe.gen 0 [] [.old 0] rfl rfl rfl rfl rfl rfl rfl), fun x _ => ⟨rfl, rfl⟩, ?_⟩
 rintro ⟨n, v3⟩ HH
 have hr : R06_Proper_L1 n v1 v3 = some r := HH
 rcases n with _ | n
 ·exact qe hr
 rw [R06_Proper_L1.eq_2] at hr
 refine AtIf.mk (fun h4 => ?_) (fun h4 => ?_)
 ·replace hr := qg h4 hr
  obtain ⟨v5, h6, hr⟩ := bind_some hr
  obtain ⟨h7, h8⟩ := qi h6
  refine qh ttOK 0 rfl rfl rfl rfl h7 (Tm.encL_get h8) ?_
  intro a9 c9 _ _
  refine (qam v5 a9 c9).atR [1] rfl rfl rfl ?_
  rintro _ _ ⟨rfl, rfl⟩
  refine AtIf.mk (fun h10 => ?_) (fun h10 => ?_)
  ·replace hr := qg h10 hr
   replace hr := Option.some.inj hr
   subst hr
   exact qa [] [] rfl rfl ⟨rfl, rfl⟩
  ·replace hr := qf h10 hr
   exact ⟨(n, (IntKind.i64.wrap (v3 + 1))), hr, Nat.lt_succ_self _, ⟨rfl, rfl, trivial⟩, (StLe.gen 0 [] [.old 0] rfl rfl rfl rfl rfl rfl rfl)⟩
 ·replace hr := qf h4 hr
  replace hr := Option.some.inj hr
  subst hr
  exact qa [] [] rfl rfl ⟨rfl, rfl⟩
mutual
def R16_Whole : Nat → (List Tm) → Option (Bool)
 | 0, _ => none
 | n + 1, v1 =>
  (R06_Proper n v1).bind (fun v3 =>
  cond (!v3) (
  some (false)) (
  R16_Whole_L1 n v1 0))
def R16_Whole_L1 : Nat → (List Tm) → Int → Option (Bool)
 | 0, _, _ => none
 | n + 1, v1, v6 =>
  cond (decide (v6 < ((Tm.encL v1).length : Int))) (
  (idx v1 v6).bind (fun v8 =>
  (R03_Metas n v8).bind (fun v13 =>
  cond (decide (((List.map (D.int .i64) v13).length : Int) > 0)) (
  some (false)) (
  R16_Whole_L1 n v1 (IntKind.i64.wrap (v6 + 1)))))) (
  some (true))
 end
theorem qch (n : Nat) (v1 : (List Tm)) (a2 : OA) (c2 : Nat) (r : Bool) (hr : R16_Whole n v1 = some r) : Pure Tryz.prog (.val (.fn (.func 61) [] [])) [(.v (.slice a2 ((Tm.encL v1).length) c2))] [(.slice a2 ((Tm.encL v1).length) c2, .sl 4 (Tm.encL v1))] (fun r' out => r' = (.v (.bool r)) ∧ out = []) := by
 rcases n with _ | n
 ·exact qe hr
 rw [R16_Whole.eq_2] at hr
 refine qb (N := 20) (m := 0) (dt := fun _ => none) [] ttOK Tryz.func61 rfl Tryz.call61 Tryz.ntmps61 rfl rfl rfl mixed (by kernel_rfl) ?_
 obtain ⟨v3, h4, hr⟩ := bind_some hr
 refine (qj6 n v1 a2 c2 _ h4).atR [0] rfl rfl rfl ?_
 rintro _ _ ⟨rfl, rfl⟩
 refine AtIf.mk (fun h5 => ?_) (fun h5 => ?_)
 ·replace hr := qg h5 hr
  replace hr := Option.some.inj hr
  subst hr
  exact qa [] [] rfl rfl ⟨rfl, rfl⟩
 ·replace hr := qf h5 hr
  refine AtLoop.mk ⟨Nat × Int, fun x => [(0, (.v (.slice a2 ((Tm.encL v1).length) c2))), (3, (.v (.int .i64 x.2)))], fun x => ⟨[], [], [(.slice a2 ((Tm.encL v1).length) c2, .sl 4 (Tm.encL v1))]⟩, fun x => R16_Whole_L1 x.1 v1 x.2 = some r, fun x => x.1, (n, 0), hr, ⟨rfl, rfl, trivial⟩, (StLe.gen 0 [] [.old 0] rfl rfl rfl rfl rfl rfl rfl), fun x _ => ⟨rfl, rfl⟩, ?_⟩
  rintro ⟨n, v6⟩ HH
  have hr : R16_Whole_L1 n v1 v6 = some r := HH
  rcases n with _ | n
  ·exact qe hr
  rw [R16_Whole_L1.eq_2] at hr
  refine AtIf.mk (fun h7 => ?_) (fun h7 => ?_)
  ·replace hr := qg h7 hr
   obtain ⟨v8, h9, hr⟩ := bind_some hr
   obtain ⟨h10, h11⟩ := qi h9
   refine qh ttOK 0 rfl rfl rfl rfl h10 (Tm.encL_get h11) ?_
   intro a12 c12 _ _
   obtain ⟨v13, h14, hr⟩ := bind_some hr
   refine (qfq n v8 a12 c12 _ h14).frameRA [] [] [1] rfl rfl rfl rfl rfl rfl rfl rfl rfl ?_
   rintro _ _ ⟨a15, c15, rfl, rfl⟩
   refine ⟨rfl, [], rfl, ?_⟩
   refine AtIf.mk (fun h16 => ?_) (fun h16 => ?_)
   ·replace hr := qg h16 hr
    replace hr := Option.some.inj hr
    subst hr
    exact qa [] [] rfl rfl ⟨rfl, rfl⟩
   ·replace hr := qf h16 hr
    exact ⟨(n, (IntKind.i64.wrap (v6 + 1))), hr, Nat.lt_succ_self _, ⟨rfl, rfl, trivial⟩, (StLe.gen 0 [] [.old 0] rfl rfl rfl rfl rfl rfl rfl)⟩
  ·replace hr := qf h7 hr
   replace hr := Option.some.inj hr
   subst hr
   exact qa [] [] rfl rfl ⟨rfl, rfl⟩
def R16_Proper : Nat → Bk → Option (Bool)
 | 0, _ => none
 | n + 1, v1 =>
  cond (decide ((IntKind.i64.wrap (((Tm.encL v1.som).length : Int) + ((Tm.encL v1.lst).length : Int))) ≤ 30)) (
  (R16_Whole n v1.som).bind (fun v5 =>
  cond v5 (
  (R16_Whole n v1.lst).bind (fun v8 =>
  some (v8))) (
  some (false)))) (
  some (false))
theorem qkj (n : Nat) (v1 : Bk) (a2 : OA) (c2 : Nat) (a3 : OA) (c3 : Nat) (r : Bool) (hr : R16_Proper n v1 = some r) : Pure Tryz.prog (.val (.fn (.func 71) [] [])) [(.agg [(.v (.slice a2 ((Tm.encL v1.som).length) c2)), (.v (.slice a3 ((Tm.encL v1.lst).length) c3))])] [(.slice a2 ((Tm.encL v1.som).length) c2, .sl 4 (Tm.encL v1.som)), (.slice a3 ((Tm.encL v1.lst).length) c3, .sl 4 (Tm.encL v1.lst))] (fun r' out => r' = (.v (.bool r)) ∧ out = []) := by
 rcases n with _ | n
 ·exact qe hr
 rw [R16_Proper.eq_2] at hr
 refine qb (N := 21) (m := 0) (dt := fun _ => none) [] ttOK Tryz.func71 rfl Tryz.call71 Tryz.ntmps71 rfl rfl rfl mixed (by kernel_rfl) ?_
 refine AtGuard.mk (fun h4 => ?_) (fun h4 => ?_)
 ·replace hr := qg h4 hr
  obtain ⟨v5, h6, hr⟩ := bind_some hr
  refine (qch n v1.som a2 c2 _ h6).atR [0] rfl rfl rfl ?_
  rintro _ _ ⟨rfl, rfl⟩
  refine AtGuard.mk (fun h7 => ?_) (fun h7 => ?_)
  ·replace hr := qg h7 hr
   obtain ⟨v8, h9, hr⟩ := bind_some hr
   refine (qch n v1.lst a3 c3 _ h9).atR [1] rfl rfl rfl ?_
   rintro _ _ ⟨rfl, rfl⟩
   replace hr := Option.some.inj hr
   subst hr
   exact qa [] [] rfl rfl ⟨rfl, rfl⟩
  ·replace hr := qf h7 hr
   replace hr := Option.some.inj hr
   subst hr
   exact qa [] [] rfl rfl ⟨rfl, rfl⟩
 ·replace hr := qf h4 hr
  refine AtGuard.mk (fun h => ff h) (fun _ => ?_)
  replace hr := Option.some.inj hr
  subst hr
  exact qa [] [] rfl rfl ⟨rfl, rfl⟩
def W16_right : Nat → (List Dc) → (List Tm) → Bk → Option (Bool)
 | 0, _, _, _ => none
 | n + 1, v1, v3, v5 =>
  (R05_Formed n v1).bind (fun v8 =>
  cond (v8 && (decide (((Tm.encL v3).length : Int) ≤ 30))) (
  (R16_Whole n v3).bind (fun v11 =>
  cond v11 (
  (R16_Proper n v5).bind (fun v14 =>
  some (v14))) (
  some (false)))) (
  some (false)))
theorem qfs (n : Nat) (v1 : (List Dc)) (v3 : (List Tm)) (v5 : Bk) (a2 : OA) (c2 : Nat) (a4 : OA) (c4 : Nat) (a6 : OA) (c6 : Nat) (a7 : OA) (c7 : Nat) (r : Bool) (hr : W16_right n v1 v3 v5 = some r) : Pure Tryz.prog (.val (.fn (.func 60) [] [])) [(.v (.slice a2 ((Dc.encL v1).length) c2)), (.v (.slice a4 ((Tm.encL v3).length) c4)), (.agg [(.v (.slice a6 ((Tm.encL v5.som).length) c6)), (.v (.slice a7 ((Tm.encL v5.lst).length) c7))])] [(.slice a2 ((Dc.encL v1).length) c2, .sl 6 (Dc.encL v1)), (.slice a4 ((Tm.encL v3).length) c4, .sl 4 (Tm.encL v3)), (.slice a6 ((Tm.encL v5.som).length) c6, .sl 4 (Tm.encL v5.som)), (.slice a7 ((Tm.encL v5.lst).length) c7, .sl 4 (Tm.encL v5.lst))] (fun r' out => r' = (.v (.bool r)) ∧ out = []) := by
 rcases n with _ | n
 ·exact qe hr
 rw [W16_right.eq_2] at hr
 refine qb (N := 22) (m := 0) (dt := fun _ => none) [] ttOK Tryz.func60 rfl Tryz.call60 Tryz.ntmps60 rfl rfl rfl mixed (by kernel_rfl) ?_
 obtain ⟨v8, h9, hr⟩ := bind_some hr
 refine (qeu n v1 a2 c2 _ h9).atR [0] rfl rfl rfl ?_
 rintro _ _ ⟨rfl, rfl⟩
 refine AtGuard.mk (fun h10 => ?_) (fun h10 => ?_)
 ·replace hr := qg h10 hr
  obtain ⟨v11, h12, hr⟩ := bind_some hr
  refine (qch n v3 a4 c4 _ h12).atR [1] rfl rfl rfl ?_
  rintro _ _ ⟨rfl, rfl⟩
  refine AtGuard.mk (fun h13 => ?_) (fun h13 => ?_)
  ·replace hr := qg h13 hr
   obtain ⟨v14, h15, hr⟩ := bind_some hr
   refine (qkj n v5 a6 c6 a7 c7 _ h15).atR [2, 3] rfl rfl rfl ?_
   rintro _ _ ⟨rfl, rfl⟩
   replace hr := Option.some.inj hr
   subst hr
   exact qa [] [] rfl rfl ⟨rfl, rfl⟩
  ·replace hr := qf h13 hr
   replace hr := Option.some.inj hr
   subst hr
   exact qa [] [] rfl rfl ⟨rfl, rfl⟩
 ·replace hr := qf h10 hr
  refine AtGuard.mk (fun h => ff h) (fun _ => ?_)
  replace hr := Option.some.inj hr
  subst hr
  exact qa [] [] rfl rfl ⟨rfl, rfl⟩
mutual
def R06_Kernel_Context : Nat → Kn → (List Tm) → Option (Int)
 | 0, _, _ => none
 | n + 1, v1, v4 =>
  R06_Kernel_Context_L1 n v4 v1 0
def R06_Kernel_Context_L1 : Nat → (List Tm) → Kn → Int → Option (Int)
 | 0, _, _, _ => none
 | n + 1, v4, v1, v6 =>
  cond (decide (v6 < ((Tm.encL v4).length : Int))) (
  cond (decide ((0 : Int) ≤ (0 : Int) ∧ (0 : Int) ≤ v6 ∧ v6 ≤ ((Tm.encL v4).length : Int))) (
  (idx v4 v6).bind (fun v10 =>
  (R06_Kernel_Type n v1 (v4.take v6.toNat) v10).bind (fun v15 =>
  cond (v15 != 0) (
  some (v15)) (
  R06_Kernel_Context_L1 n v4 v1 (IntKind.i64.wrap (v6 + 1)))))) none) (
  some (0))
 end
theorem qb0 (n : Nat) (v1 : Kn) (v4 : (List Tm)) (a2 : OA) (c2 : Nat) (a3 : OA) (c3 : Nat) (a5 : OA) (c5 : Nat) (r : Int) (hr : R06_Kernel_Context n v1 v4 = some r) : Pure Tryz.prog (.val (.fn (.func 88) [] [])) [(.agg [(.v (.slice a2 ((Dc.encL v1.sig).length) c2)), (.v (.slice a3 ((Mt.encL v1.metas).length) c3))]), (.v (.slice a5 ((Tm.encL v4).length) c5))] [(.slice a2 ((Dc.encL v1.sig).length) c2, .sl 6 (Dc.encL v1.sig)), (.slice a3 ((Mt.encL v1.metas).length) c3, .sl 10 (Mt.encL v1.metas)), (.slice a5 ((Tm.encL v4).length) c5, .sl 4 (Tm.encL v4))] (fun r' out => r' = (.v (.int .i64 r)) ∧ out = []) := by
 rcases n with _ | n
 ·exact qe hr
 rw [R06_Kernel_Context.eq_2] at hr
 refine qb (N := 25) (m := 0) (dt := drawsOf [(4, .node [0, 1, 2, 3, 4, 5, 6, 7] [(8, .leaf [9])], [8], [])]) [] ttOK Tryz.func88 rfl Tryz.call88 Tryz.ntmps88 rfl rfl rfl mixed (by kernel_rfl) ?_
 refine AtLoop.mk ⟨Nat × Int, fun x => [(1, (.v (.slice a5 ((Tm.encL v4).length) c5))), (2, (.loc 0 0)), (8, (.v (.int .i64 ((Tm.encL v4).length : Int)))), (9, (.v (.int .i64 x.2)))], fun x => ⟨[.cells 144 [(.v (.slice a2 ((Dc.encL v1.sig).length) c2)), (.v (.slice a3 ((Mt.encL v1.metas).length) c3))]], [], [(.slice a2 ((Dc.encL v1.sig).length) c2, .sl 6 (Dc.encL v1.sig)), (.slice a3 ((Mt.encL v1.metas).length) c3, .sl 10 (Mt.encL v1.metas)), (.slice a5 ((Tm.encL v4).length) c5, .sl 4 (Tm.encL v4))]⟩, fun x => R06_Kernel_Context_L1 x.1 v4 v1 x.2 = some r, fun x => x.1, (n, 0), hr, ⟨rfl, rfl, rfl, rfl, trivial⟩, (StLe.gen 1 [] [.old 0, .old 1, .old 2] rfl rfl rfl rfl rfl rfl rfl), fun x _ => ⟨rfl, rfl⟩, ?_⟩
 rintro ⟨n, v6⟩ HH
 have hr : R06_Kernel_Context_L1 n v4 v1 v6 = some r := HH
 rcases n with _ | n
 ·exact qe hr
 rw [R06_Kernel_Context_L1.eq_2] at hr
 refine AtIf.mk (fun h7 => ?_) (fun h7 => ?_)
 ·replace hr := qg h7 hr
  obtain ⟨h8, hr⟩ := qj hr
  refine qaa ttOK 2 0 v6 (ds' := (Tm.encL (v4.take v6.toNat))) rfl rfl rfl (.inr ⟨rfl, rfl⟩) (.inl ⟨_, rfl⟩) h8 (by simp only [Tm.encL_eq]; exact sl_h ..) ?_
  intro a9 c9
  obtain ⟨v10, h11, hr⟩ := bind_some hr
  obtain ⟨h12, h13⟩ := qi h11
  refine qh ttOK 2 rfl rfl rfl rfl h12 (Tm.encL_get h13) ?_
  intro a14 c14 _ _
  obtain ⟨v15, h16, hr⟩ := bind_some hr
  refine (qcs n v1 (v4.take v6.toNat) v10 a2 c2 a3 c3 a9 c9 a14 c14 _ h16).atR [0, 1, 3, 4] rfl rfl rfl ?_
  rintro _ _ ⟨rfl, rfl⟩
  refine AtIf.mk (fun h17 => ?_) (fun h17 => ?_)
  ·replace hr := qg h17 hr
   replace hr := Option.some.inj hr
   subst hr
   exact qa [] [] rfl rfl ⟨rfl, rfl⟩
  ·replace hr := qf h17 hr
   exact ⟨(n, (IntKind.i64.wrap (v6 + 1))), hr, Nat.lt_succ_self _, ⟨rfl, rfl, rfl, rfl, trivial⟩, (StLe.gen 1 [] [.old 0, .old 1, .old 2] rfl rfl rfl rfl rfl rfl rfl)⟩
 ·replace hr := qf h7 hr
  replace hr := Option.some.inj hr
  subst hr
  exact qa [] [] rfl rfl ⟨rfl, rfl⟩
def R16_Valid : Nat → (List Dc) → Bk → Option (Int)
 | 0, _, _ => none
 | n + 1, v1, v3 =>
  cond (decide ((Tm.encL v3.som).length ≤ 1000000)) (
  cond (decide ((Tm.encL (v3.som ++ v3.lst)).length ≤ 1000000)) (
  (R06_Kernel_Context n (Kn.mk v1 ([])) (v3.som ++ v3.lst)).bind (fun v10 =>
  some (v10))) none) none
theorem qk2 (n : Nat) (v1 : (List Dc)) (v3 : Bk) (a2 : OA) (c2 : Nat) (a4 : OA) (c4 : Nat) (a5 : OA) (c5 : Nat) (r : Int) (hr : R16_Valid n v1 v3 = some r) : Pure Tryz.prog (.val (.fn (.func 135) [] [])) [(.v (.slice a2 ((Dc.encL v1).length) c2)), (.agg [(.v (.slice a4 ((Tm.encL v3.som).length) c4)), (.v (.slice a5 ((Tm.encL v3.lst).length) c5))])] [(.slice a2 ((Dc.encL v1).length) c2, .sl 6 (Dc.encL v1)), (.slice a4 ((Tm.encL v3.som).length) c4, .sl 4 (Tm.encL v3.som)), (.slice a5 ((Tm.encL v3.lst).length) c5, .sl 4 (Tm.encL v3.lst))] (fun r' out => r' = (.v (.int .i64 r)) ∧ out = []) := by
 rcases n with _ | n
 ·exact qe hr
 rw [R16_Valid.eq_2] at hr
 refine qb (N := 17) (m := 0) (dt := fun _ => none) [] ttOK Tryz.func135 rfl Tryz.call135 Tryz.ntmps135 rfl rfl rfl mixed (by kernel_rfl) ?_
 obtain ⟨h6, hr⟩ := qj hr
 refine AtSem.le (S' := ⟨[.cells 110 [(.v (.slice a4 ((Tm.encL v3.som).length) c4)), (.v (.slice a5 ((Tm.encL v3.lst).length) c5))]], [⟨.slice none 0 0, 4, 41, []⟩], [(.slice a2 ((Dc.encL v1).length) c2, .sl 6 (Dc.encL v1)), (.slice a4 ((Tm.encL v3.som).length) c4, .sl 4 (Tm.encL v3.som)), (.slice a5 ((Tm.encL v3.lst).length) c5, .sl 4 (Tm.encL v3.lst))]⟩) (StLe.gen 1 [.nil 4 41] [.old 0, .old 1, .old 2] rfl rfl rfl rfl rfl rfl rfl) rfl ?_
 refine qm (ds' := (Tm.encL v3.som)) ttOK 48 0 1 rfl (by kernel_rfl) rfl rfl rfl rfl (List.nil_append _).symm h6 (by decide) ?_
 intro a7 c7
 obtain ⟨h8, hr⟩ := qj hr
 refine qm (ds' := (Tm.encL (v3.som ++ v3.lst))) ttOK 48 0 2 rfl (by kernel_rfl) rfl rfl rfl rfl (by simp only [Tm.encL_eq, List.map_append]) h8 (by decide) ?_
 intro a9 c9
 obtain ⟨v10, h11, hr⟩ := bind_some hr
 refine Meets.nilRep 10 ?_
 refine (qb0 n (Kn.mk v1 ([])) (v3.som ++ v3.lst) a2 c2 none 0 a9 c9 _ h11).atB [.old 1, .old 0, .froz 0] rfl rfl rfl ?_
 rintro _ _ ⟨rfl, rfl⟩
 refine ⟨rfl, ?_⟩
 replace hr := Option.some.inj hr
 subst hr
 exact qa [] [] rfl rfl ⟨rfl, rfl⟩
mutual
def W16_valid : Nat → (List Dc) → Option (Bool)
 | 0, _ => none
 | n + 1, v1 =>
  W16_valid_L1 n v1 0 0
def W16_valid_L1 : Nat → (List Dc) → Int → Int → Option (Bool)
 | 0, _, _, _ => none
 | n + 1, v1, v3, v4 =>
  cond ((decide (v4 < ((Dc.encL v1).length : Int))) && (decide (v3 ≤ 3000))) (
  (idx v1 v4).bind (fun v6 =>
  (R03_Size n v6.cls).bind (fun v11 =>
  W16_valid_L1 n v1 (IntKind.i64.wrap (v3 + v11.1)) (IntKind.i64.wrap (v4 + 1))))) (
  cond (decide (v3 > 3000)) (
  some (false)) (
  (R05_Formed n v1).bind (fun v14 =>
  cond (!v14) (
  some (false)) (
  (R06_Signature n v1).bind (fun v17 =>
  some ((v17.2 == 0)))))))
 end
theorem qkz (n : Nat) (v1 : (List Dc)) (a2 : OA) (c2 : Nat) (r : Bool) (hr : W16_valid n v1 = some r) : Pure Tryz.prog (.val (.fn (.func 70) [] [])) [(.v (.slice a2 ((Dc.encL v1).length) c2))] [(.slice a2 ((Dc.encL v1).length) c2, .sl 6 (Dc.encL v1))] (fun r' out => r' = (.v (.bool r)) ∧ out = []) := by
 rcases n with _ | n
 ·exact qe hr
 rw [W16_valid.eq_2] at hr
 refine qb (N := 45) (m := 0) (dt := fun _ => none) [] ttOK Tryz.func70 rfl Tryz.call70 Tryz.ntmps70 rfl rfl rfl mixed (by kernel_rfl) ?_
 refine AtLoop.mk ⟨Nat × Int × Int, fun x => [(0, (.v (.slice a2 ((Dc.encL v1).length) c2))), (3, (.v (.int .i64 x.2.1))), (4, (.v (.int .i64 x.2.2)))], fun x => ⟨[], [], [(.slice a2 ((Dc.encL v1).length) c2, .sl 6 (Dc.encL v1))]⟩, fun x => W16_valid_L1 x.1 v1 x.2.1 x.2.2 = some r, fun x => x.1, (n, 0, 0), hr, ⟨rfl, rfl, rfl, trivial⟩, (StLe.gen 0 [] [.old 0] rfl rfl rfl rfl rfl rfl rfl), fun x _ => ⟨rfl, rfl⟩, ?_⟩
 rintro ⟨n, v3, v4⟩ HH
 have hr : W16_valid_L1 n v1 v3 v4 = some r := HH
 rcases n with _ | n
 ·exact qe hr
 rw [W16_valid_L1.eq_2] at hr
 refine AtIf.mk (fun h5 => ?_) (fun h5 => ?_)
 ·replace hr := qg h5 hr
  obtain ⟨v6, h7, hr⟩ := bind_some hr
  obtain ⟨h8, h9⟩ := qi h7
  refine qh ttOK 0 rfl rfl rfl rfl h8 (Dc.encL_get h9) ?_
  intro a10 c10 _ _
  obtain ⟨v11, h12, hr⟩ := bind_some hr
  refine (ql8 n v6.cls a10 c10 _ h12).atR [1] rfl rfl rfl ?_
  rintro _ _ ⟨rfl, rfl⟩
  exact ⟨(n, (IntKind.i64.wrap (v3 + v11.1)), (IntKind.i64.wrap (v4 + 1))), hr, Nat.lt_succ_self _, ⟨rfl, rfl, rfl, trivial⟩, (StLe.gen 0 [] [.old 0] rfl rfl rfl rfl rfl rfl rfl)⟩
 ·replace hr := qf h5 hr
  refine AtGuard.mk (fun h13 => ?_) (fun h13 => ?_)
  ·replace hr := qf h13 hr
   obtain ⟨v14, h15, hr⟩ := bind_some hr
   refine (qeu n v1 a2 c2 _ h15).atR [0] rfl rfl rfl ?_
   rintro _ _ ⟨rfl, rfl⟩
   refine AtIf.mk (fun h16 => ?_) (fun h16 => ?_)
   ·replace hr := qg h16 hr
    replace hr := Option.some.inj hr
    subst hr
    exact qa [] [] rfl rfl ⟨rfl, rfl⟩
   ·replace hr := qf h16 hr
    obtain ⟨v17, h18, hr⟩ := bind_some hr
    refine (qg7 n v1 a2 c2 _ h18).atR [0] rfl rfl rfl ?_
    rintro _ _ ⟨rfl, rfl⟩
    replace hr := Option.some.inj hr
    subst hr
    exact qa [] [] rfl rfl ⟨rfl, rfl⟩
  ·replace hr := qg h13 hr
   refine AtIf.mk (fun _ => ?_) (fun h => tf h)
   replace hr := Option.some.inj hr
   subst hr
   exact qa [] [] rfl rfl ⟨rfl, rfl⟩
def W16_good : Nat → (List Dc) → (List Tm) → Bk → Option (Bool)
 | 0, _, _, _ => none
 | n + 1, v1, v3, v5 =>
  (W16_valid n v1).bind (fun v8 =>
  cond v8 (
  (W16_right n v1 v3 v5).bind (fun v11 =>
  cond v11 (
  (R06_Kernel_Context n (Kn.mk v1 ([])) v3).bind (fun v14 =>
  cond (v14 == 0) (
  (R16_Valid n v1 v5).bind (fun v17 =>
  some ((v17 == 0)))) (
  some (false)))) (
  some (false)))) (
  some (false)))
theorem qmx (n : Nat) (v1 : (List Dc)) (v3 : (List Tm)) (v5 : Bk) (a2 : OA) (c2 : Nat) (a4 : OA) (c4 : Nat) (a6 : OA) (c6 : Nat) (a7 : OA) (c7 : Nat) (r : Bool) (hr : W16_good n v1 v3 v5 = some r) : Pure Tryz.prog (.val (.fn (.func 62) [] [])) [(.v (.slice a2 ((Dc.encL v1).length) c2)), (.v (.slice a4 ((Tm.encL v3).length) c4)), (.agg [(.v (.slice a6 ((Tm.encL v5.som).length) c6)), (.v (.slice a7 ((Tm.encL v5.lst).length) c7))])] [(.slice a2 ((Dc.encL v1).length) c2, .sl 6 (Dc.encL v1)), (.slice a4 ((Tm.encL v3).length) c4, .sl 4 (Tm.encL v3)), (.slice a6 ((Tm.encL v5.som).length) c6, .sl 4 (Tm.encL v5.som)), (.slice a7 ((Tm.encL v5.lst).length) c7, .sl 4 (Tm.encL v5.lst))] (fun r' out => r' = (.v (.bool r)) ∧ out = []) := by
 rcases n with _ | n
 ·exact qe hr
 rw [W16_good.eq_2] at hr
 refine qb (N := 28) (m := 0) (dt := fun _ => none) [] ttOK Tryz.func62 rfl Tryz.call62 Tryz.ntmps62 rfl rfl rfl mixed (by kernel_rfl) ?_
 obtain ⟨v8, h9, hr⟩ := bind_some hr
 refine (qkz n v1 a2 c2 _ h9).atR [0] rfl rfl rfl ?_
 rintro _ _ ⟨rfl, rfl⟩
 refine AtGuard.mk (fun h10 => ?_) (fun h10 => ?_)
 ·replace hr := qg h10 hr
  obtain ⟨v11, h12, hr⟩ := bind_some hr
  refine (qfs n v1 v3 v5 a2 c2 a4 c4 a6 c6 a7 c7 _ h12).atR [0, 1, 2, 3] rfl rfl rfl ?_
  rintro _ _ ⟨rfl, rfl⟩
  refine AtGuard.mk (fun h13 => ?_) (fun h13 => ?_)
  ·replace hr := qg h13 hr
   obtain ⟨v14, h15, hr⟩ := bind_some hr
   refine Meets.nilRep 10 ?_
   refine (qb0 n (Kn.mk v1 ([])) v3 a2 c2 none 0 a4 c4 _ h15).atR [1, 0, 2] rfl rfl rfl ?_
   rintro _ _ ⟨rfl, rfl⟩
   refine AtGuard.mk (fun h16 => ?_) (fun h16 => ?_)
   ·replace hr := qg h16 hr
    obtain ⟨v17, h18, hr⟩ := bind_some hr
    refine (qk2 n v1 v5 a2 c2 a6 c6 a7 c7 _ h18).atR [1, 3, 4] rfl rfl rfl ?_
    rintro _ _ ⟨rfl, rfl⟩
    replace hr := Option.some.inj hr
    subst hr
    exact qa [] [] rfl rfl ⟨rfl, rfl⟩
   ·replace hr := qf h16 hr
    replace hr := Option.some.inj hr
    subst hr
    exact qa [] [] rfl rfl ⟨rfl, rfl⟩
  ·replace hr := qf h13 hr
   refine AtGuard.mk (fun h => ff h) (fun _ => ?_)
   replace hr := Option.some.inj hr
   subst hr
   exact qa [] [] rfl rfl ⟨rfl, rfl⟩
 ·replace hr := qf h10 hr
  refine AtGuard.mk (fun h => ff h) (fun _ => ?_)
  refine AtGuard.mk (fun h => ff h) (fun _ => ?_)
  replace hr := Option.some.inj hr
  subst hr
  exact qa [] [] rfl rfl ⟨rfl, rfl⟩
def R16_joined : Nat → (List Tm) → (List Tm) → Option ((List Tm))
 | 0, _, _ => none
 | n + 1, v1, v3 =>
  cond (decide ((Tm.encL v1).length ≤ 1000000)) (
  cond (decide ((Tm.encL (v1 ++ v3)).length ≤ 1000000)) (
  some ((v1 ++ v3))) none) none
theorem qkd (n : Nat) (v1 : (List Tm)) (v3 : (List Tm)) (a2 : OA) (c2 : Nat) (a4 : OA) (c4 : Nat) (r : (List Tm)) (hr : R16_joined n v1 v3 = some r) : Meets Tryz.prog (.val (.fn (.func 136) [] [])) [(.v (.slice a2 ((Tm.encL v1).length) c2)), (.v (.slice a4 ((Tm.encL v3).length) c4))] ⟨[], [], [(.slice a2 ((Tm.encL v1).length) c2, .sl 4 (Tm.encL v1)), (.slice a4 ((Tm.encL v3).length) c4, .sl 4 (Tm.encL v3))]⟩ (fun o S' => ∃ (b1 : OA) (d1 : Nat), o = .ret (.v (.slice b1 ((Tm.encL r).length) d1)) ∧ S' = ⟨[], [⟨.slice b1 ((Tm.encL r).length) d1, 4, 41, (Tm.encL r)⟩], []⟩) := by
 rcases n with _ | n
 ·exact qe hr
 rw [R16_joined.eq_2] at hr
 refine qb (N := 12) (m := 0) (dt := fun _ => none) [] ttOK Tryz.func136 rfl Tryz.call136 Tryz.ntmps136 rfl rfl rfl mixed (by kernel_rfl) ?_
 obtain ⟨h5, hr⟩ := qj hr
 refine AtSem.le (S' := ⟨[], [⟨.slice none 0 0, 4, 41, []⟩], [(.slice a2 ((Tm.encL v1).length) c2, .sl 4 (Tm.encL v1)), (.slice a4 ((Tm.encL v3).length) c4, .sl 4 (Tm.encL v3))]⟩) (StLe.gen 0 [.nil 4 41] [.old 0, .old 1] rfl rfl rfl rfl rfl rfl rfl) rfl ?_
 refine qm (ds' := (Tm.encL v1)) ttOK 48 0 0 rfl (by kernel_rfl) rfl rfl rfl rfl (List.nil_append _).symm h5 (by decide) ?_
 intro a6 c6
 obtain ⟨h7, hr⟩ := qj hr
 refine qm (ds' := (Tm.encL (v1 ++ v3))) ttOK 48 0 1 rfl (by kernel_rfl) rfl rfl rfl rfl (by simp only [Tm.encL_eq, List.map_append]) h7 (by decide) ?_
 intro a8 c8
 replace hr := Option.some.inj hr
 subst hr
 exact AtRet.gen ⟨[], [⟨.slice a8 ((Tm.encL (v1 ++ v3)).length) c8, 4, 41, (Tm.encL (v1 ++ v3))⟩], []⟩ (StLe.gen 0 [.old 0] [] rfl rfl rfl rfl rfl rfl rfl) rfl rfl ⟨a8, c8, rfl, rfl⟩
def R04_Subst : Nat → Tm → Int → Tm → Sm → Option (Tm × Int)
 | 0, _, _, _, _ => none
 | n + 1, v1, v3, v4, v6 =>
  cond (!(refProper v1)) (
  some ((Tm.mk 0 0 0 ([])), 2)) (
  (R04_number n v3).bind (fun v9 =>
  cond (!v9) (
  some ((Tm.mk 0 0 0 ([])), 2)) (
  cond (!(refProper v4)) (
  some ((Tm.mk 0 0 0 ([])), 2)) (
  (R04_Small n v6).bind (fun v13 =>
  cond (!v13) (
  some ((Tm.mk 0 0 0 ([])), 2)) (
  (R04_count_put n v1 v3 v4 v6 (Ct.mk 0)).bind (fun v16 =>
  some (v16.1, v16.2.1))))))))
theorem qk4 (n : Nat) (v1 : Tm) (v3 : Int) (v4 : Tm) (v6 : Sm) (a2 : OA) (c2 : Nat) (a5 : OA) (c5 : Nat) (a7 : OA) (c7 : Nat) (r : Tm × Int) (hr : R04_Subst n v1 v3 v4 v6 = some r) : Pure Tryz.prog (.val (.fn (.func 215) [] [])) [(.agg [(.v (.int .i64 v1.op)), (.v (.int .i64 v1.hd)), (.v (.int .i64 v1.n)), (.v (.slice a2 ((Tm.encL v1.args).length) c2))]), (.v (.int .i64 v3)), (.agg [(.v (.int .i64 v4.op)), (.v (.int .i64 v4.hd)), (.v (.int .i64 v4.n)), (.v (.slice a5 ((Tm.encL v4.args).length) c5))]), (.agg [(.v (.slice a7 ((Sm.encL v6.args).length) c7)), (.v (.int .i64 v6.con))])] [(.slice a2 ((Tm.encL v1.args).length) c2, .sl 4 (Tm.encL v1.args)), (.slice a5 ((Tm.encL v4.args).length) c5, .sl 4 (Tm.encL v4.args)), (.slice a7 ((Sm.encL v6.args).length) c7, .sl 2 (Sm.encL v6.args))] (fun r' out => ∃ (b1 : OA) (d1 : Nat), r' = (.tup [(.agg [(.v (.int .i64 r.1.op)), (.v (.int .i64 r.1.hd)), (.v (.int .i64 r.1.n)), (.v (.slice b1 ((Tm.encL r.1.args).length) d1))]), (.v (.int .i64 r.2))]) ∧ out = [(.slice b1 ((Tm.encL r.1.args).length) d1, .sl 4 (Tm.encL r.1.args))]) := by
 rcases n with _ | n
 ·exact qe hr
 rw [R04_Subst.eq_2] at hr
 refine qb (N := 40) (m := 0) (dt := fun _ => none) [] ttOK Tryz.func215 rfl Tryz.call215 Tryz.ntmps215 rfl rfl rfl mixed (by kernel_rfl) ?_
 refine (qam v1 a2 c2).atR [0] rfl rfl rfl ?_
 rintro _ _ ⟨rfl, rfl⟩
 refine AtGuard.mk (fun h8 => ?_) (fun h8 => ?_)
 ·replace hr := qf h8 hr
  obtain ⟨v9, h10, hr⟩ := bind_some hr
  refine (qi0 n v3 _ h10).atR [] rfl rfl rfl ?_
  rintro _ _ ⟨rfl, rfl⟩
  refine AtGuard.mk (fun h11 => ?_) (fun h11 => ?_)
  ·replace hr := qf h11 hr
   refine (qam v4 a5 c5).atR [1] rfl rfl rfl ?_
   rintro _ _ ⟨rfl, rfl⟩
   refine AtGuard.mk (fun h12 => ?_) (fun h12 => ?_)
   ·replace hr := qf h12 hr
    obtain ⟨v13, h14, hr⟩ := bind_some hr
    refine (qfx n v6 a7 c7 _ h14).atR [2] rfl rfl rfl ?_
    rintro _ _ ⟨rfl, rfl⟩
    refine AtIf.mk (fun h15 => ?_) (fun h15 => ?_)
    ·replace hr := qg h15 hr
     replace hr := Option.some.inj hr
     subst hr
     exact qa [.nil 4] [(.slice none 0 0, .sl 4 [])] rfl rfl ⟨none, 0, rfl, rfl⟩
    ·replace hr := qf h15 hr
     obtain ⟨v16, h17, hr⟩ := bind_some hr
     refine (qdm n v1 v3 v4 v6 (Ct.mk 0) a2 c2 a5 c5 a7 c7 _ h17).frameR [4] [0, 1, 2] rfl rfl rfl rfl rfl rfl rfl rfl ?_
     rintro _ _ ⟨a18, c18, rfl, rfl⟩
     refine ⟨rfl, rfl, [.cells 314 [(.v (.int .i64 v16.2.2.n))]], rfl, ?_⟩
     replace hr := Option.some.inj hr
     subst hr
     exact qa [.old 3] [(.slice a18 ((Tm.encL v16.1.args).length) c18, .sl 4 (Tm.encL v16.1.args))] rfl rfl ⟨a18, c18, rfl, rfl⟩
   ·replace hr := qg h12 hr
    refine AtIf.mk (fun _ => ?_) (fun h => tf h)
    replace hr := Option.some.inj hr
    subst hr
    exact qa [.nil 4] [(.slice none 0 0, .sl 4 [])] rfl rfl ⟨none, 0, rfl, rfl⟩
  ·replace hr := qg h11 hr
   refine AtGuard.mk (fun h => tf h) (fun _ => ?_)
   refine AtIf.mk (fun _ => ?_) (fun h => tf h)
   replace hr := Option.some.inj hr
   subst hr
   exact qa [.nil 4] [(.slice none 0 0, .sl 4 [])] rfl rfl ⟨none, 0, rfl, rfl⟩
 ·replace hr := qg h8 hr
  refine AtGuard.mk (fun h => tf h) (fun _ => ?_)
  refine AtGuard.mk (fun h => tf h) (fun _ => ?_)
  refine AtIf.mk (fun _ => ?_) (fun h => tf h)
  replace hr := Option.some.inj hr
  subst hr
  exact qa [.nil 4] [(.slice none 0 0, .sl 4 [])] rfl rfl ⟨none, 0, rfl, rfl⟩
mutual
def R16_within : Nat → Tm → (List Tm) → (List Tm) → Int → Option (Tm × Int)
 | 0, _, _, _, _ => none
 | n + 1, v1, v3, v5, v7 =>
  R16_within_L1 n v5 v3 v7 v1 (IntKind.i64.wrap (((Tm.encL v5).length : Int) - 1))
def R16_within_L1 : Nat → (List Tm) → (List Tm) → Int → Tm → Int → Option (Tm × Int)
 | 0, _, _, _, _, _ => none
 | n + 1, v5, v3, v7, v8, v10 =>
  cond (decide (v10 ≥ 0)) (
  (idx v5 v10).bind (fun v12 =>
  cond (((shiftF v12 v10 0).2) != 0) (
  some ((Tm.mk 0 0 0 ([])), (shiftF v12 v10 0).2)) (
  (idx v3 v10).bind (fun v19 =>
  (R03_Simple n v19).bind (fun v24 =>
  cond (!v24.2) (
  some ((Tm.mk 0 0 0 ([])), 22)) (
  (R04_Subst n v8 v7 ((shiftF v12 v10 0).1) v24.1).bind (fun v28 =>
  cond (v28.2 != 0) (
  some ((Tm.mk 0 0 0 ([])), v28.2)) (
  R16_within_L1 n v5 v3 v7 v28.1 (IntKind.i64.wrap (v10 - 1)))))))))) (
  some (v8, 0))
 end
theorem qe8 (n : Nat) (v1 : Tm) (v3 : (List Tm)) (v5 : (List Tm)) (v7 : Int) (a2 : OA) (c2 : Nat) (a4 : OA) (c4 : Nat) (a6 : OA) (c6 : Nat) (r : Tm × Int) (hr : R16_within n v1 v3 v5 v7 = some r) : Pure Tryz.prog (.val (.fn (.func 137) [] [])) [(.agg [(.v (.int .i64 v1.op)), (.v (.int .i64 v1.hd)), (.v (.int .i64 v1.n)), (.v (.slice a2 ((Tm.encL v1.args).length) c2))]), (.v (.slice a4 ((Tm.encL v3).length) c4)), (.v (.slice a6 ((Tm.encL v5).length) c6)), (.v (.int .i64 v7))] [(.slice a2 ((Tm.encL v1.args).length) c2, .sl 4 (Tm.encL v1.args)), (.slice a4 ((Tm.encL v3).length) c4, .sl 4 (Tm.encL v3)), (.slice a6 ((Tm.encL v5).length) c6, .sl 4 (Tm.encL v5))] (fun r' out => ∃ (b1 : OA) (d1 : Nat), r' = (.tup [(.agg [(.v (.int .i64 r.1.op)), (.v (.int .i64 r.1.hd)), (.v (.int .i64 r.1.n)), (.v (.slice b1 ((Tm.encL r.1.args).length) d1))]), (.v (.int .i64 r.2))]) ∧ out = [(.slice b1 ((Tm.encL r.1.args).length) d1, .sl 4 (Tm.encL r.1.args))]) := by
 rcases n with _ | n
 ·exact qe hr
 rw [R16_within.eq_2] at hr
 refine qb (N := 59) (m := 0) (dt := fun _ => none) [] ttOK Tryz.func137 rfl Tryz.call137 Tryz.ntmps137 rfl rfl rfl mixed (by kernel_rfl) ?_
 refine AtLoop.mk ⟨Nat × Tm × Option Addr × Nat × Int, fun x => [(1, (.v (.slice a4 ((Tm.encL v3).length) c4))), (2, (.v (.slice a6 ((Tm.encL v5).length) c6))), (3, (.v (.int .i64 v7))), (4, (.loc 0 0)), (8, (.loc 1 0)), (10, (.v (.int .i64 x.2.2.2.2)))], fun x => ⟨[.cells 41 [(.v (.int .i64 x.2.1.op)), (.v (.int .i64 x.2.1.hd)), (.v (.int .i64 x.2.1.n)), (.v (.slice x.2.2.1 ((Tm.encL x.2.1.args).length) x.2.2.2.1))], .cells 41 [(.v (.int .i64 0)), (.v (.int .i64 0)), (.v (.int .i64 0)), (.v (.slice none 0 0))]], [], [(.slice x.2.2.1 ((Tm.encL x.2.1.args).length) x.2.2.2.1, .sl 4 (Tm.encL x.2.1.args)), (.slice a2 ((Tm.encL v1.args).length) c2, .sl 4 (Tm.encL v1.args)), (.slice a4 ((Tm.encL v3).length) c4, .sl 4 (Tm.encL v3)), (.slice a6 ((Tm.encL v5).length) c6, .sl 4 (Tm.encL v5))]⟩, fun x => R16_within_L1 x.1 v5 v3 v7 x.2.1 x.2.2.2.2 = some r, fun x => x.1, (n, v1, a2, c2, (IntKind.i64.wrap (((Tm.encL v5).length : Int) - 1))), hr, ⟨rfl, rfl, rfl, rfl, rfl, rfl, trivial⟩, (StLe.gen 2 [] [.old 0, .old 0, .old 1, .old 2] rfl rfl rfl rfl rfl rfl rfl), fun x _ => ⟨rfl, rfl⟩, ?_⟩
 rintro ⟨n, v8, a9, c9, v10⟩ HH
 have hr : R16_within_L1 n v5 v3 v7 v8 v10 = some r := HH
 rcases n with _ | n
 ·exact qe hr
 rw [R16_within_L1.eq_2] at hr
 refine AtIf.mk (fun h11 => ?_) (fun h11 => ?_)
 ·replace hr := qg h11 hr
  obtain ⟨v12, h13, hr⟩ := bind_some hr
  obtain ⟨h14, h15⟩ := qi h13
  refine qh ttOK 3 rfl rfl rfl rfl h14 (Tm.encL_get h15) ?_
  intro a16 c16 _ _
  refine (qhf v12 v10 0 a16 c16).atR [4] rfl rfl rfl ?_
  rintro _ _ ⟨a17, c17, rfl, rfl⟩
  refine AtIf.mk (fun h18 => ?_) (fun h18 => ?_)
  ·replace hr := qg h18 hr
   replace hr := Option.some.inj hr
   subst hr
   exact qa [.nil 4] [(.slice none 0 0, .sl 4 [])] rfl rfl ⟨none, 0, rfl, rfl⟩
  ·replace hr := qf h18 hr
   obtain ⟨v19, h20, hr⟩ := bind_some hr
   obtain ⟨h21, h22⟩ := qi h20
   refine qh ttOK 2 rfl rfl rfl rfl h21 (Tm.encL_get h22) ?_
   intro a23 c23 _ _
   obtain ⟨v24, h25, hr⟩ := bind_some hr
   refine (qe7 n v19 a23 c23 _ h25).atR [6] rfl rfl rfl ?_
   rintro _ _ ⟨a26, c26, rfl, rfl⟩
   refine AtIf.mk (fun h27 => ?_) (fun h27 => ?_)
   ·replace hr := qg h27 hr
    replace hr := Option.some.inj hr
    subst hr
    exact qa [.nil 4] [(.slice none 0 0, .sl 4 [])] rfl rfl ⟨none, 0, rfl, rfl⟩
   ·replace hr := qf h27 hr
    obtain ⟨v28, h29, hr⟩ := bind_some hr
    refine (qk4 n v8 v7 ((shiftF v12 v10 0).1) v24.1 a9 c9 a17 c17 a26 c26 _ h29).atR [0, 5, 7] rfl rfl rfl ?_
    rintro _ _ ⟨a30, c30, rfl, rfl⟩
    refine AtIf.mk (fun h31 => ?_) (fun h31 => ?_)
    ·replace hr := qg h31 hr
     replace hr := Option.some.inj hr
     subst hr
     exact qa [.nil 4] [(.slice none 0 0, .sl 4 [])] rfl rfl ⟨none, 0, rfl, rfl⟩
    ·replace hr := qf h31 hr
     exact ⟨(n, v28.1, a30, c30, (IntKind.i64.wrap (v10 - 1))), hr, Nat.lt_succ_self _, ⟨rfl, rfl, rfl, rfl, rfl, rfl, trivial⟩, (StLe.gen 2 [] [.old 8, .old 1, .old 2, .old 3] rfl rfl rfl rfl rfl rfl rfl)⟩
 ·replace hr := qf h11 hr
  replace hr := Option.some.inj hr
  subst hr
  exact qa [.old 0] [(.slice a9 ((Tm.encL v8.args).length) c9, .sl 4 (Tm.encL v8.args))] rfl rfl ⟨a9, c9, rfl, rfl⟩
mutual
def R16_Extend : Nat → (List Tm) → Bk → (List Tm) → Option ((List Tm) × Int)
 | 0, _, _, _ => none
 | n + 1, v1, v3, v6 =>
  cond (((Tm.encL v6).length : Int) != ((Tm.encL v3.som).length : Int)) (
  some ([], 2)) (
  cond (decide ((IntKind.i64.wrap (((Tm.encL v1).length : Int) + ((Tm.encL v3.lst).length : Int))) > 30)) (
  some ([], 5)) (
  (R16_joined n v1 ([])).bind (fun v10 =>
  R16_Extend_L1 n v3 v6 v10 0)))
def R16_Extend_L1 : Nat → Bk → (List Tm) → (List Tm) → Int → Option ((List Tm) × Int)
 | 0, _, _, _, _ => none
 | n + 1, v3, v6, v13, v15 =>
  cond (decide (v15 < ((Tm.encL v3.lst).length : Int))) (
  (idx v3.lst v15).bind (fun v17 =>
  (R16_within n v17 v3.som v6 v15).bind (fun v22 =>
  cond (v22.2 != 0) (
  some ([], v22.2)) (
  cond (decide ((Tm.encL (v13 ++ [v22.1])).length ≤ 1000000)) (
  R16_Extend_L1 n v3 v6 (v13 ++ [v22.1]) (IntKind.i64.wrap (v15 + 1))) none)))) (
  some (v13, 0))
 end
theorem qjy (n : Nat) (v1 : (List Tm)) (v3 : Bk) (v6 : (List Tm)) (a2 : OA) (c2 : Nat) (a4 : OA) (c4 : Nat) (a5 : OA) (c5 : Nat) (a7 : OA) (c7 : Nat) (r : (List Tm) × Int) (hr : R16_Extend n v1 v3 v6 = some r) : Pure Tryz.prog (.val (.fn (.func 63) [] [])) [(.v (.slice a2 ((Tm.encL v1).length) c2)), (.agg [(.v (.slice a4 ((Tm.encL v3.som).length) c4)), (.v (.slice a5 ((Tm.encL v3.lst).length) c5))]), (.v (.slice a7 ((Tm.encL v6).length) c7))] [(.slice a2 ((Tm.encL v1).length) c2, .sl 4 (Tm.encL v1)), (.slice a4 ((Tm.encL v3.som).length) c4, .sl 4 (Tm.encL v3.som)), (.slice a5 ((Tm.encL v3.lst).length) c5, .sl 4 (Tm.encL v3.lst)), (.slice a7 ((Tm.encL v6).length) c7, .sl 4 (Tm.encL v6))] (fun r' out => ∃ (b1 : OA) (d1 : Nat), r' = (.tup [(.v (.slice b1 ((Tm.encL r.1).length) d1)), (.v (.int .i64 r.2))]) ∧ out = [(.slice b1 ((Tm.encL r.1).length) d1, .sl 4 (Tm.encL r.1))]) := by
 rcases n with _ | n
 ·exact qe hr
 rw [R16_Extend.eq_2] at hr
 refine qb (N := 55) (m := 0) (dt := drawsOf [(9, .node [0, 1, 2, 3, 4, 5, 6, 7, 8] [(9, .node [10, 11, 12] [(13, .node [] [(14, .leaf [15])])]), (13, .node [] [(9, .node [10, 11, 12] [(14, .leaf [15])])])], [9, 14], [])]) [] ttOK Tryz.func63 rfl Tryz.call63 Tryz.ntmps63 rfl rfl rfl mixed (by kernel_rfl) ?_
 refine AtIf.mk (fun h8 => ?_) (fun h8 => ?_)
 ·replace hr := qg h8 hr
  replace hr := Option.some.inj hr
  subst hr
  exact qa [.nil 4] [(.slice none 0 0, .sl 4 [])] rfl rfl ⟨none, 0, rfl, rfl⟩
 ·replace hr := qf h8 hr
  refine AtIf.mk (fun h9 => ?_) (fun h9 => ?_)
  ·replace hr := qg h9 hr
   replace hr := Option.some.inj hr
   subst hr
   exact qa [.nil 4] [(.slice none 0 0, .sl 4 [])] rfl rfl ⟨none, 0, rfl, rfl⟩
  ·replace hr := qf h9 hr
   obtain ⟨v10, h11, hr⟩ := bind_some hr
   refine Meets.nilRep 4 ?_
   refine (qkd n v1 ([]) a2 c2 none 0 _ h11).frameRA [] [] [1, 0] rfl rfl rfl rfl rfl rfl rfl rfl rfl ?_
   rintro _ _ ⟨a12, c12, rfl, rfl⟩
   refine ⟨rfl, [], rfl, ?_⟩
   refine AtLoop.mk ⟨Nat × (List Tm) × Option Addr × Nat × Int, fun x => [(2, (.v (.slice a7 ((Tm.encL v6).length) c7))), (4, (.loc 0 0)), (8, (.v (.slice x.2.2.1 ((Tm.encL x.2.1).length) x.2.2.2.1))), (9, (.v (.int .i64 x.2.2.2.2)))], fun x => ⟨[.cells 110 [(.v (.slice a4 ((Tm.encL v3.som).length) c4)), (.v (.slice a5 ((Tm.encL v3.lst).length) c5))]], [⟨.slice x.2.2.1 ((Tm.encL x.2.1).length) x.2.2.2.1, 4, 41, (Tm.encL x.2.1)⟩], [(.slice none 0 0, .sl 4 []), (.slice a2 ((Tm.encL v1).length) c2, .sl 4 (Tm.encL v1)), (.slice a4 ((Tm.encL v3.som).length) c4, .sl 4 (Tm.encL v3.som)), (.slice a5 ((Tm.encL v3.lst).length) c5, .sl 4 (Tm.encL v3.lst)), (.slice a7 ((Tm.encL v6).length) c7, .sl 4 (Tm.encL v6))]⟩, fun x => R16_Extend_L1 x.1 v3 v6 x.2.1 x.2.2.2.2 = some r, fun x => x.1, (n, v10, a12, c12, 0), hr, ⟨rfl, rfl, rfl, rfl, trivial⟩, (StLe.gen 1 [.old 0] [.old 0, .old 1, .old 2, .old 3, .old 4] rfl rfl rfl rfl rfl rfl rfl), fun x _ => ⟨rfl, rfl⟩, ?_⟩
   rintro ⟨n, v13, a14, c14, v15⟩ HH
   have hr : R16_Extend_L1 n v3 v6 v13 v15 = some r := HH
   rcases n with _ | n
   ·exact qe hr
   rw [R16_Extend_L1.eq_2] at hr
   refine AtIf.mk (fun h16 => ?_) (fun h16 => ?_)
   ·replace hr := qg h16 hr
    obtain ⟨v17, h18, hr⟩ := bind_some hr
    obtain ⟨h19, h20⟩ := qi h18
    obtain ⟨v22, h23, hr⟩ := bind_some hr
    refine qh ttOK 3 rfl rfl rfl rfl h19 (Tm.encL_get h20) ?_
    intro a25 c25 _ _
    refine ⟨?_, ?_⟩
    ·
     refine (qe8 n v17 v3.som v6 v15 a25 c25 a4 c4 a7 c7 _ h23).atR [5, 2, 4] rfl rfl rfl ?_
     rintro _ _ ⟨a26, c26, rfl, rfl⟩
     refine ⟨OwnKeptBut.append, ?_⟩
     refine AtIf.mk (fun h27 => ?_) (fun h27 => ?_)
     ·replace hr := qg h27 hr
      replace hr := Option.some.inj hr
      subst hr
      exact qa [.old 0] [(.slice none 0 0, .sl 4 [])] rfl rfl ⟨none, 0, rfl, rfl⟩
     ·replace hr := qf h27 hr
      refine qk (n := 1) ttOK 48 [.agg [.int .i64 v22.1.op, .int .i64 v22.1.hd, .int .i64 v22.1.n, .sl 4 (Tm.encL v22.1.args)]] (ds' := (Tm.encL ([v22.1]))) rfl (by kernel_rfl) ⟨⟨rfl, rfl, rfl, ⟨[(.v (.int .i64 v22.1.op))], _, rfl, rfl, ⟨[(.v (.int .i64 v22.1.hd))], _, rfl, rfl, ⟨[(.v (.int .i64 v22.1.n))], _, rfl, rfl, ⟨[(.v (.slice a26 ((Tm.encL v22.1.args).length) c26))], _, rfl, (.inl ⟨_, rfl, ql (j := 6) rfl⟩), rfl⟩⟩⟩⟩⟩, trivial⟩ rfl (by simp only [Tm.encL_eq, List.map_cons, List.map_nil, Tm.enc_eq] <;> rfl) (by decide) (by decide) ?_
      intro a28
      obtain ⟨h29, hr⟩ := qj hr
      refine qm (ds' := (Tm.encL (v13 ++ [v22.1]))) ttOK 48 0 7 rfl (by kernel_rfl) rfl rfl rfl rfl (by simp only [Tm.encL_eq, List.map_append]) h29 (by decide) ?_
      intro a30 c30
      exact ⟨(n, (v13 ++ [v22.1]), a30, c30, (IntKind.i64.wrap (v15 + 1))), hr, Nat.lt_succ_self _, ⟨rfl, rfl, rfl, rfl, trivial⟩, (StLe.gen 1 [.old 0] [.old 0, .old 1, .old 2, .old 3, .old 4] rfl rfl rfl rfl rfl rfl rfl)⟩
    ·
     refine ⟨OwnKeptBut.append, ?_⟩
     refine (qe8 n v17 v3.som v6 v15 a25 c25 a4 c4 a7 c7 _ h23).atR [5, 2, 4] rfl rfl rfl ?_
     rintro _ _ ⟨a31, c31, rfl, rfl⟩
     refine AtIf.mk (fun h27 => ?_) (fun h27 => ?_)
     ·replace hr := qg h27 hr
      replace hr := Option.some.inj hr
      subst hr
      exact qa [.old 0] [(.slice none 0 0, .sl 4 [])] rfl rfl ⟨none, 0, rfl, rfl⟩
     ·replace hr := qf h27 hr
      refine qk (n := 1) ttOK 48 [.agg [.int .i64 v22.1.op, .int .i64 v22.1.hd, .int .i64 v22.1.n, .sl 4 (Tm.encL v22.1.args)]] (ds' := (Tm.encL ([v22.1]))) rfl (by kernel_rfl) ⟨⟨rfl, rfl, rfl, ⟨[(.v (.int .i64 v22.1.op))], _, rfl, rfl, ⟨[(.v (.int .i64 v22.1.hd))], _, rfl, rfl, ⟨[(.v (.int .i64 v22.1.n))], _, rfl, rfl, ⟨[(.v (.slice a31 ((Tm.encL v22.1.args).length) c31))], _, rfl, (.inl ⟨_, rfl, ql (j := 6) rfl⟩), rfl⟩⟩⟩⟩⟩, trivial⟩ rfl (by simp only [Tm.encL_eq, List.map_cons, List.map_nil, Tm.enc_eq] <;> rfl) (by decide) (by decide) ?_
      intro a28
      obtain ⟨h29, hr⟩ := qj hr
      refine qm (ds' := (Tm.encL (v13 ++ [v22.1]))) ttOK 48 0 7 rfl (by kernel_rfl) rfl rfl rfl rfl (by simp only [Tm.encL_eq, List.map_append]) h29 (by decide) ?_
      intro a30 c30
      exact ⟨(n, (v13 ++ [v22.1]), a30, c30, (IntKind.i64.wrap (v15 + 1))), hr, Nat.lt_succ_self _, ⟨rfl, rfl, rfl, rfl, trivial⟩, (StLe.gen 1 [.old 0] [.old 0, .old 1, .old 2, .old 3, .old 4] rfl rfl rfl rfl rfl rfl rfl)⟩
   ·replace hr := qf h16 hr
    replace hr := Option.some.inj hr
    subst hr
    exact qa [.froz 0] [(.slice a14 ((Tm.encL v13).length) c14, .sl 4 (Tm.encL v13))] rfl rfl ⟨a14, c14, rfl, rfl⟩
def W16_WorldExtends : Nat → Ply → (List Tm) → Option (Bool)
 | 0, _, _ => none
 | n + 1, v1, v5 =>
  cond (((Bk.encL v1.w).length : Int) == 0) (
  (W16_awake n ).bind (fun v8 =>
  some (v8))) (
  (idx v1.w 0).bind (fun v10 =>
  cond (decide ((0 : Int) ≤ (0 : Int) ∧ (0 : Int) ≤ (if 31 < ((Tm.encL v5).length : Int) then 31 else ((Tm.encL v5).length : Int)) ∧ (if 31 < ((Tm.encL v5).length : Int) then 31 else ((Tm.encL v5).length : Int)) ≤ ((Tm.encL v5).length : Int))) (
  (world_Extend n v1.sig v1.ctx v10 (v5.take (if 31 < ((Tm.encL v5).length : Int) then 31 else ((Tm.encL v5).length : Int)).toNat)).bind (fun v18 =>
  (W16_right n v1.sig v1.ctx v10).bind (fun v21 =>
  cond (!v21) (
  cond ((((Tm.encL v18.1).length : Int) == 0) && (v18.2 == 2)) (
  (W16_awake n ).bind (fun v44 =>
  some (v44))) (
  some (false))) (
  (R16_Whole n (v5.take (if 31 < ((Tm.encL v5).length : Int) then 31 else ((Tm.encL v5).length : Int)).toNat)).bind (fun v24 =>
  cond (!v24) (
  cond ((((Tm.encL v18.1).length : Int) == 0) && (v18.2 == 2)) (
  (W16_awake n ).bind (fun v28 =>
  some (v28))) (
  some (false))) (
  (W16_good n v1.sig v1.ctx v10).bind (fun v30 =>
  cond (!v30) (
  (W16_awake n ).bind (fun v33 =>
  some (v33))) (
  (R16_Extend n v1.ctx v10 (v5.take (if 31 < ((Tm.encL v5).length : Int) then 31 else ((Tm.encL v5).length : Int)).toNat)).bind (fun v35 =>
  (R03_SameAll n v18.1 v35.1).bind (fun v38 =>
  cond (v38 && (v18.2 == v35.2)) (
  (W16_awake n ).bind (fun v41 =>
  some (v41))) (
  some (false)))))))))))) none))
theorem qfc (n : Nat) (v1 : Ply) (v5 : (List Tm)) (a2 : OA) (c2 : Nat) (a3 : OA) (c3 : Nat) (a4 : OA) (c4 : Nat) (a6 : OA) (c6 : Nat) (r : Bool) (hr : W16_WorldExtends n v1 v5 = some r) : Pure Tryz.prog (.val (.fn (.func 13) [] [])) [(.agg [(.v (.slice a2 ((Dc.encL v1.sig).length) c2)), (.v (.slice a3 ((Bk.encL v1.w).length) c3)), (.v (.slice a4 ((Tm.encL v1.ctx).length) c4))]), (.v (.slice a6 ((Tm.encL v5).length) c6))] [(.slice a2 ((Dc.encL v1.sig).length) c2, .sl 6 (Dc.encL v1.sig)), (.slice a3 ((Bk.encL v1.w).length) c3, .sl 2 (Bk.encL v1.w)), (.slice a4 ((Tm.encL v1.ctx).length) c4, .sl 4 (Tm.encL v1.ctx)), (.slice a6 ((Tm.encL v5).length) c6, .sl 4 (Tm.encL v5))] (fun r' out => r' = (.v (.bool r)) ∧ out = []) := by
 rcases n with _ | n
 ·exact qe hr
 rw [W16_WorldExtends.eq_2] at hr
 refine qb (N := 84) (m := 0) (dt := fun _ => none) [] ttOK Tryz.func13 rfl Tryz.call13 Tryz.ntmps13 rfl rfl rfl mixed (by kernel_rfl) ?_
 refine AtIf.mk (fun h7 => ?_) (fun h7 => ?_)
 ·replace hr := qg h7 hr
  obtain ⟨v8, h9, hr⟩ := bind_some hr
  refine (qbp n  _ h9).atR [] rfl rfl rfl ?_
  rintro _ _ ⟨rfl, rfl⟩
  replace hr := Option.some.inj hr
  subst hr
  exact qa [] [] rfl rfl ⟨rfl, rfl⟩
 ·replace hr := qf h7 hr
  obtain ⟨v10, h11, hr⟩ := bind_some hr
  obtain ⟨h12, h13⟩ := qi h11
  refine qh ttOK 1 rfl rfl rfl rfl h12 (Bk.encL_get h13) ?_
  intro a14 c14 _ _ a15 c15 _ _
  refine at_min ?_
  obtain ⟨h16, hr⟩ := qj hr
  refine qaa ttOK 3 0 (if 31 < ((Tm.encL v5).length : Int) then 31 else ((Tm.encL v5).length : Int)) (ds' := (Tm.encL (v5.take (if 31 < ((Tm.encL v5).length : Int) then 31 else ((Tm.encL v5).length : Int)).toNat))) rfl rfl rfl (.inr ⟨rfl, rfl⟩) (.inl ⟨_, rfl⟩) h16 (by simp only [Tm.encL_eq]; exact sl_h ..) ?_
  intro a17 c17
  obtain ⟨v18, h19, hr⟩ := bind_some hr
  refine (qa1 n v1.sig v1.ctx v10 (v5.take (if 31 < ((Tm.encL v5).length : Int) then 31 else ((Tm.encL v5).length : Int)).toNat) a2 c2 a4 c4 a14 c14 a15 c15 a17 c17 _ h19).atR [0, 2, 4, 5, 6] rfl rfl rfl ?_
  rintro _ _ ⟨a20, c20, rfl, rfl⟩
  obtain ⟨v21, h22, hr⟩ := bind_some hr
  refine (qfs n v1.sig v1.ctx v10 a2 c2 a4 c4 a14 c14 a15 c15 _ h22).atR [0, 2, 4, 5] rfl rfl rfl ?_
  rintro _ _ ⟨rfl, rfl⟩
  refine AtGuard.mk (fun h23 => ?_) (fun h23 => ?_)
  ·replace hr := qf h23 hr
   obtain ⟨v24, h25, hr⟩ := bind_some hr
   refine (qch n (v5.take (if 31 < ((Tm.encL v5).length : Int) then 31 else ((Tm.encL v5).length : Int)).toNat) a17 c17 _ h25).atR [6] rfl rfl rfl ?_
   rintro _ _ ⟨rfl, rfl⟩
   refine AtIf.mk (fun h26 => ?_) (fun h26 => ?_)
   ·replace hr := qg h26 hr
    refine AtGuard.mk (fun h27 => ?_) (fun h27 => ?_)
    ·replace hr := qg h27 hr
     obtain ⟨v28, h29, hr⟩ := bind_some hr
     refine (qbp n  _ h29).atR [] rfl rfl rfl ?_
     rintro _ _ ⟨rfl, rfl⟩
     replace hr := Option.some.inj hr
     subst hr
     exact qa [] [] rfl rfl ⟨rfl, rfl⟩
    ·replace hr := qf h27 hr
     replace hr := Option.some.inj hr
     subst hr
     exact qa [] [] rfl rfl ⟨rfl, rfl⟩
   ·replace hr := qf h26 hr
    obtain ⟨v30, h31, hr⟩ := bind_some hr
    refine (qmx n v1.sig v1.ctx v10 a2 c2 a4 c4 a14 c14 a15 c15 _ h31).atR [0, 2, 4, 5] rfl rfl rfl ?_
    rintro _ _ ⟨rfl, rfl⟩
    refine AtIf.mk (fun h32 => ?_) (fun h32 => ?_)
    ·replace hr := qg h32 hr
     obtain ⟨v33, h34, hr⟩ := bind_some hr
     refine (qbp n  _ h34).atR [] rfl rfl rfl ?_
     rintro _ _ ⟨rfl, rfl⟩
     replace hr := Option.some.inj hr
     subst hr
     exact qa [] [] rfl rfl ⟨rfl, rfl⟩
    ·replace hr := qf h32 hr
     obtain ⟨v35, h36, hr⟩ := bind_some hr
     refine (qjy n v1.ctx v10 (v5.take (if 31 < ((Tm.encL v5).length : Int) then 31 else ((Tm.encL v5).length : Int)).toNat) a4 c4 a14 c14 a15 c15 a17 c17 _ h36).atR [2, 4, 5, 6] rfl rfl rfl ?_
     rintro _ _ ⟨a37, c37, rfl, rfl⟩
     obtain ⟨v38, h39, hr⟩ := bind_some hr
     refine (qig n v18.1 v35.1 a20 c20 a37 c37 _ h39).atR [7, 8] rfl rfl rfl ?_
     rintro _ _ ⟨rfl, rfl⟩
     refine AtGuard.mk (fun h40 => ?_) (fun h40 => ?_)
     ·replace hr := qg h40 hr
      obtain ⟨v41, h42, hr⟩ := bind_some hr
      refine (qbp n  _ h42).atR [] rfl rfl rfl ?_
      rintro _ _ ⟨rfl, rfl⟩
      replace hr := Option.some.inj hr
      subst hr
      exact qa [] [] rfl rfl ⟨rfl, rfl⟩
     ·replace hr := qf h40 hr
      replace hr := Option.some.inj hr
      subst hr
      exact qa [] [] rfl rfl ⟨rfl, rfl⟩
  ·replace hr := qg h23 hr
   refine AtIf.mk (fun _ => ?_) (fun h => tf h)
   refine AtGuard.mk (fun h43 => ?_) (fun h43 => ?_)
   ·replace hr := qg h43 hr
    obtain ⟨v44, h45, hr⟩ := bind_some hr
    refine (qbp n  _ h45).atR [] rfl rfl rfl ?_
    rintro _ _ ⟨rfl, rfl⟩
    replace hr := Option.some.inj hr
    subst hr
    exact qa [] [] rfl rfl ⟨rfl, rfl⟩
   ·replace hr := qf h43 hr
    replace hr := Option.some.inj hr
    subst hr
    exact qa [] [] rfl rfl ⟨rfl, rfl⟩
end

section
open Go.Tr Go Go.Proofs.Tryz
open Go.ChangeShapes Go.WideShapes Go.ChangeAt Go.RowKit
set_option maxRecDepth 10000
theorem cz3 : Tryz.prog.cellsOf 3 = 1 := by kernel_rfl
theorem cz9 : Tryz.prog.cellsOf 9 = 1 := by kernel_rfl
theorem cz22 : Tryz.prog.cellsOf 22 = 1 := by kernel_rfl
theorem cz39 : Tryz.prog.cellsOf 39 = 1 := by kernel_rfl
theorem cz41 : Tryz.prog.cellsOf 41 = 4 := by kernel_rfl
theorem cz106 : Tryz.prog.cellsOf 106 = 1 := by kernel_rfl
theorem cz108 : Tryz.prog.cellsOf 108 = 3 := by kernel_rfl
theorem cz110 : Tryz.prog.cellsOf 110 = 2 := by kernel_rfl
theorem cz165 : Tryz.prog.cellsOf 165 = 6 := by kernel_rfl
section
variable {H : Type} {enc : TypeId × Value → H} {W : World}
theorem repC_Tm {W : World} {t : Tm} {a1 : Option Addr} {c1 : Nat} (r1 : RepC (fun _ => True) W (.sl 4 (Tm.encL t.args)) [.slice a1 (Tm.encL t.args).length c1]) : RepC (fun _ => True) W t.enc [.int .i64 t.op, .int .i64 t.hd, .int .i64 t.n, .slice a1 (Tm.encL t.args).length c1] := by
 rw [Tm.enc_eq]
 exact ⟨[.int .i64 t.op], _, rfl, rfl, [.int .i64 t.hd], _, rfl, rfl, [.int .i64 t.n], _, rfl, rfl, [.slice a1 (Tm.encL t.args).length c1], _, rfl, r1, rfl⟩
theorem bz41 : 1 ≤ Tryz.prog.bytesOf 41 := by decide +kernel
theorem rds_Tm (n : Nat) (hel : ∀ m, m < n → ∀ cs x, DataW.trod enc Tryz.prog W 0 (fun _ => true) true m 41 cs = some x → (∀ y ∈ x.1.weights Tryz.prog 41, y ≤ reachBytes) → ∃ t : Tm, RepC (fun _ => True) W t.enc cs)
  {cs : List Value} {x : DataW H × List MemPlace} (h : DataW.trod enc Tryz.prog W 0 (fun _ => true) true n 39 cs = some x) (hw : ∀ y ∈ x.1.weights Tryz.prog 39, y ≤ reachBytes) :
  ∃ (l : List Tm) (a : OA) (c : Nat), cs = [.slice a (Tm.encL l).length c] ∧ RepC (fun _ => True) W (.sl 4 (Tm.encL l)) [.slice a (Tm.encL l).length c] := by
 obtain ⟨l, a, c, e, hr⟩ := qht Tryz.underlying39 cz41 (by decide) bz41 Tm.enc n hel h hw
 subst e
 exact ⟨l, a, c, by rw [Tm.encL_length], by rw [Tm.encL_eq, List.length_map]; exact hr⟩
theorem rd_Tm : ∀ (n : Nat) (cs : List Value) (x : DataW H × List MemPlace), DataW.trod enc Tryz.prog W 0 (fun _ => true) true n 41 cs = some x → (∀ y ∈ x.1.weights Tryz.prog 41, y ≤ reachBytes) →
  ∃ (t : Tm) (a1 : OA) (c1 : Nat), cs = [.int .i64 t.op, .int .i64 t.hd, .int .i64 t.n, .slice a1 (Tm.encL t.args).length c1] ∧ RepC (fun _ => True) W (.sl 4 (Tm.encL t.args)) [.slice a1 (Tm.encL t.args).length c1] := by
 intro n
 induction n using Nat.strongRecOn with
 | ind n ih =>
 intro cs x h hw
 obtain ⟨xs, m, rfl, rfl, hl, hlen, hf⟩ := DataW.trod_struct Tryz.underlying41 h
 match xs, hlen with
 | [y0, y1, y2, y3], _ =>
 rw [cz41] at hl
 match cs, hl with
 | [v0, v1, v2, v3], _ =>
 have h0 : DataW.trod enc Tryz.prog W 0 (fun _ => true) true m 3 (([v0, v1, v2, v3].drop 0).take (Tryz.prog.cellsOf 3)) = some y0 := hf 0 _ rfl
 have h1 : DataW.trod enc Tryz.prog W 0 (fun _ => true) true m 3 (([v0, v1, v2, v3].drop 1).take (Tryz.prog.cellsOf 3)) = some y1 := hf 1 _ rfl
 have h2 : DataW.trod enc Tryz.prog W 0 (fun _ => true) true m 3 (([v0, v1, v2, v3].drop 2).take (Tryz.prog.cellsOf 3)) = some y2 := hf 2 _ rfl
 have h3 : DataW.trod enc Tryz.prog W 0 (fun _ => true) true m 39 (([v0, v1, v2, v3].drop 3).take (Tryz.prog.cellsOf 39)) = some y3 := hf 3 _ rfl
 simp only [cz3, cz39, List.drop_zero, List.drop_succ_cons, List.take_succ_cons, List.take_zero] at h0 h1 h2 h3
 simp only [DataW.weights, Tryz.underlying41, List.map_cons, List.map_nil, DataW.weightsEach, List.append_nil, List.mem_append] at hw
 obtain ⟨f0, e0, _, _⟩ := DataW.trod_int Tryz.underlying3 h0
 obtain ⟨f1, e1, _, _⟩ := DataW.trod_int Tryz.underlying3 h1
 obtain ⟨f2, e2, _, _⟩ := DataW.trod_int Tryz.underlying3 h2
 obtain ⟨f3, a1, c1, e3, r1⟩ := rds_Tm m (fun m' hm' cs' x' h' hw' => by
  obtain ⟨t, a1, c1, rfl, r1⟩ := ih m' (by omega) cs' x' h' hw'
  exact ⟨t, repC_Tm r1⟩) h3 (fun y hy => hw y (.inr (.inr (.inr hy))))
 simp only [List.cons.injEq, and_true] at e0 e1 e2 e3
 subst e0
 subst e1
 subst e2
 subst e3
 exact ⟨.mk f0 f1 f2 f3, a1, c1, rfl, r1⟩
theorem rdl_Tm (n : Nat) (cs : List Value) (x : DataW H × List MemPlace) (h : DataW.trod enc Tryz.prog W 0 (fun _ => true) true n 39 cs = some x) (hw : ∀ y ∈ x.1.weights Tryz.prog 39, y ≤ reachBytes) :
  ∃ (l : List Tm) (a : OA) (c : Nat), cs = [.slice a (Tm.encL l).length c] ∧ RepC (fun _ => True) W (.sl 4 (Tm.encL l)) [.slice a (Tm.encL l).length c] :=
 rds_Tm n (fun m' _ cs' x' h' hw' => by
  obtain ⟨t, a1, c1, rfl, r1⟩ := rd_Tm m' cs' x' h' hw'
  exact ⟨t, repC_Tm r1⟩) h hw
theorem argl_Tm {base : Nat} {v : Value} {d : DataW H} {p : List MemPlace} (hok : Value.okWide Tryz.prog W .any base 39 v) (h : DataW.Trod enc Tryz.prog W 0 (fun _ => true) true 39 v d p) (hw : ∀ y ∈ d.weights Tryz.prog 39, y ≤ reachBytes) :
  ∃ (l : List Tm) (a : OA) (c : Nat), v = .slice a (Tm.encL l).length c ∧ Rep (fun _ => True) W (.slice a (Tm.encL l).length c) (.sl 4 (Tm.encL l)) := by
 obtain ⟨a0, l0, c0, rfl⟩ := okWide_slice Tryz.underlying39 hok
 obtain ⟨n, hn⟩ := h
 obtain ⟨l, a, c, e, hr⟩ := rdl_Tm n _ _ hn hw
 simp only [Value.cells, List.cons.injEq, and_true] at e
 exact ⟨l, a, c, e, hr⟩
theorem repC_Dc {W : World} {t : Dc} {a1 : Option Addr} {c1 : Nat} (r1 : RepC (fun _ => True) W (.sl 4 (Tm.encL t.cls.args)) [.slice a1 (Tm.encL t.cls.args).length c1]) : RepC (fun _ => True) W t.enc [.string t.name, .int .i64 t.cls.op, .int .i64 t.cls.hd, .int .i64 t.cls.n, .slice a1 (Tm.encL t.cls.args).length c1, .int .i64 t.implicit] := by
 rw [Dc.enc_eq]
 exact ⟨[.string t.name], _, rfl, rfl, [.int .i64 t.cls.op, .int .i64 t.cls.hd, .int .i64 t.cls.n, .slice a1 (Tm.encL t.cls.args).length c1], _, rfl, ⟨[.int .i64 t.cls.op], _, rfl, rfl, [.int .i64 t.cls.hd], _, rfl, rfl, [.int .i64 t.cls.n], _, rfl, rfl, [.slice a1 (Tm.encL t.cls.args).length c1], _, rfl, r1, rfl⟩, [.int .i64 t.implicit], _, rfl, rfl, rfl⟩
theorem bz165 : 1 ≤ Tryz.prog.bytesOf 165 := by decide +kernel
theorem rds_Dc (n : Nat) (hel : ∀ m, m < n → ∀ cs x, DataW.trod enc Tryz.prog W 0 (fun _ => true) true m 165 cs = some x → (∀ y ∈ x.1.weights Tryz.prog 165, y ≤ reachBytes) → ∃ t : Dc, RepC (fun _ => True) W t.enc cs)
  {cs : List Value} {x : DataW H × List MemPlace} (h : DataW.trod enc Tryz.prog W 0 (fun _ => true) true n 22 cs = some x) (hw : ∀ y ∈ x.1.weights Tryz.prog 22, y ≤ reachBytes) :
  ∃ (l : List Dc) (a : OA) (c : Nat), cs = [.slice a (Dc.encL l).length c] ∧ RepC (fun _ => True) W (.sl 6 (Dc.encL l)) [.slice a (Dc.encL l).length c] := by
 obtain ⟨l, a, c, e, hr⟩ := qht Tryz.underlying22 cz165 (by decide) bz165 Dc.enc n hel h hw
 subst e
 exact ⟨l, a, c, by rw [Dc.encL_length], by rw [Dc.encL_eq, List.length_map]; exact hr⟩
theorem rd_Dc : ∀ (n : Nat) (cs : List Value) (x : DataW H × List MemPlace), DataW.trod enc Tryz.prog W 0 (fun _ => true) true n 165 cs = some x → (∀ y ∈ x.1.weights Tryz.prog 165, y ≤ reachBytes) →
  ∃ (t : Dc) (a1 : OA) (c1 : Nat), cs = [.string t.name, .int .i64 t.cls.op, .int .i64 t.cls.hd, .int .i64 t.cls.n, .slice a1 (Tm.encL t.cls.args).length c1, .int .i64 t.implicit] ∧ RepC (fun _ => True) W (.sl 4 (Tm.encL t.cls.args)) [.slice a1 (Tm.encL t.cls.args).length c1] := by
 intro n
 intro cs x h hw
 obtain ⟨xs, m, rfl, rfl, hl, hlen, hf⟩ := DataW.trod_struct Tryz.underlying165 h
 match xs, hlen with
 | [y0, y1, y2], _ =>
 rw [cz165] at hl
 match cs, hl with
 | [v0, v1, v2, v3, v4, v5], _ =>
 have h0 : DataW.trod enc Tryz.prog W 0 (fun _ => true) true m 9 (([v0, v1, v2, v3, v4, v5].drop 0).take (Tryz.prog.cellsOf 9)) = some y0 := hf 0 _ rfl
 have h1 : DataW.trod enc Tryz.prog W 0 (fun _ => true) true m 41 (([v0, v1, v2, v3, v4, v5].drop 1).take (Tryz.prog.cellsOf 41)) = some y1 := hf 1 _ rfl
 have h2 : DataW.trod enc Tryz.prog W 0 (fun _ => true) true m 3 (([v0, v1, v2, v3, v4, v5].drop 5).take (Tryz.prog.cellsOf 3)) = some y2 := hf 2 _ rfl
 simp only [cz3, cz41, cz9, List.drop_zero, List.drop_succ_cons, List.take_succ_cons, List.take_zero] at h0 h1 h2
 simp only [DataW.weights, Tryz.underlying165, List.map_cons, List.map_nil, DataW.weightsEach, List.append_nil, List.mem_append] at hw
 obtain ⟨f0, e0, _, _⟩ := DataW.trod_string Tryz.underlying9 h0
 obtain ⟨f1, a1, c1, e1, r1⟩ := rd_Tm m _ _ h1 (fun y hy => hw y (.inr (.inl hy)))
 obtain ⟨f2, e2, _, _⟩ := DataW.trod_int Tryz.underlying3 h2
 simp only [List.cons.injEq, and_true] at e0 e1 e2
 subst e0
 obtain ⟨rfl, rfl, rfl, rfl⟩ := e1
 subst e2
 exact ⟨.mk f0 f1 f2, a1, c1, rfl, r1⟩
theorem rdl_Dc (n : Nat) (cs : List Value) (x : DataW H × List MemPlace) (h : DataW.trod enc Tryz.prog W 0 (fun _ => true) true n 22 cs = some x) (hw : ∀ y ∈ x.1.weights Tryz.prog 22, y ≤ reachBytes) :
  ∃ (l : List Dc) (a : OA) (c : Nat), cs = [.slice a (Dc.encL l).length c] ∧ RepC (fun _ => True) W (.sl 6 (Dc.encL l)) [.slice a (Dc.encL l).length c] :=
 rds_Dc n (fun m' _ cs' x' h' hw' => by
  obtain ⟨t, a1, c1, rfl, r1⟩ := rd_Dc m' cs' x' h' hw'
  exact ⟨t, repC_Dc r1⟩) h hw
theorem repC_Bk {W : World} {t : Bk} {a1 : Option Addr} {c1 : Nat} {a2 : Option Addr} {c2 : Nat} (r1 : RepC (fun _ => True) W (.sl 4 (Tm.encL t.som)) [.slice a1 (Tm.encL t.som).length c1]) (r2 : RepC (fun _ => True) W (.sl 4 (Tm.encL t.lst)) [.slice a2 (Tm.encL t.lst).length c2]) : RepC (fun _ => True) W t.enc [.slice a1 (Tm.encL t.som).length c1, .slice a2 (Tm.encL t.lst).length c2] := by
 rw [Bk.enc_eq]
 exact ⟨[.slice a1 (Tm.encL t.som).length c1], _, rfl, r1, [.slice a2 (Tm.encL t.lst).length c2], _, rfl, r2, rfl⟩
theorem bz110 : 1 ≤ Tryz.prog.bytesOf 110 := by decide +kernel
theorem rd_Bk : ∀ (n : Nat) (cs : List Value) (x : DataW H × List MemPlace), DataW.trod enc Tryz.prog W 0 (fun _ => true) true n 110 cs = some x → (∀ y ∈ x.1.weights Tryz.prog 110, y ≤ reachBytes) →
  ∃ (t : Bk) (a1 : OA) (c1 : Nat) (a2 : OA) (c2 : Nat), cs = [.slice a1 (Tm.encL t.som).length c1, .slice a2 (Tm.encL t.lst).length c2] ∧ RepC (fun _ => True) W (.sl 4 (Tm.encL t.som)) [.slice a1 (Tm.encL t.som).length c1] ∧ RepC (fun _ => True) W (.sl 4 (Tm.encL t.lst)) [.slice a2 (Tm.encL t.lst).length c2] := by
 intro n
 intro cs x h hw
 obtain ⟨xs, m, rfl, rfl, hl, hlen, hf⟩ := DataW.trod_struct Tryz.underlying110 h
 match xs, hlen with
 | [y0, y1], _ =>
 rw [cz110] at hl
 match cs, hl with
 | [v0, v1], _ =>
 have h0 : DataW.trod enc Tryz.prog W 0 (fun _ => true) true m 39 (([v0, v1].drop 0).take (Tryz.prog.cellsOf 39)) = some y0 := hf 0 _ rfl
 have h1 : DataW.trod enc Tryz.prog W 0 (fun _ => true) true m 39 (([v0, v1].drop 1).take (Tryz.prog.cellsOf 39)) = some y1 := hf 1 _ rfl
 simp only [cz39, List.drop_zero, List.drop_succ_cons, List.take_succ_cons, List.take_zero] at h0 h1
 simp only [DataW.weights, Tryz.underlying110, List.map_cons, List.map_nil, DataW.weightsEach, List.append_nil, List.mem_append] at hw
 obtain ⟨f0, a1, c1, e0, r1⟩ := rdl_Tm m _ _ h0 (fun y hy => hw y (.inl hy))
 obtain ⟨f1, a2, c2, e1, r2⟩ := rdl_Tm m _ _ h1 (fun y hy => hw y (.inr hy))
 simp only [List.cons.injEq, and_true] at e0 e1
 subst e0
 subst e1
 exact ⟨.mk f0 f1, a1, c1, a2, c2, rfl, r1, r2⟩
end
end

section
open Go.Tr Go Go.Proofs.Tryz
theorem wrapS {i : Nat} (h : i < 2000000000000000000) : IntKind.i64.wrap ((i : Int) + 1) = ((i + 1 : Nat) : Int) := by
 rw [wrap_i64 (by omega) (by omega)]; omega
def Tot {α : Type} (f : Nat → Option α) : Prop := ∃ r, Ev f r
theorem Ev.tot {α : Type} {f : Nat → Option α} {r : α} (h : Ev f r) : Tot f := ⟨r, h⟩
theorem Ev.unique {α : Type} {f : Nat → Option α} {r r' : α} (h : Ev f r) (h' : Ev f r') : r = r' := by
 obtain ⟨N, h⟩ := h
 obtain ⟨M, h'⟩ := h'
 have e1 := h (max N M) (by omega)
 have e2 := h' (max N M) (by omega)
 rw [e1] at e2
 exact Option.some.inj e2
def Yields {α : Type} (f : Nat → Option α) (p : α → Prop) : Prop := ∃ r, Ev f r ∧ p r
theorem Yields.succ {α : Type} {f g : Nat → Option α} {p : α → Prop} (hf : ∀ n, f (n + 1) = g n) (h : Yields g p) : Yields f p := by
 obtain ⟨r, h1, h2⟩ := h; exact ⟨r, h1.succ hf, h2⟩
theorem Yields.bind {α β : Type} {f : Nat → Option α} {g : Nat → α → Option β} {q : α → Prop} {p : β → Prop} (h : Yields f q) (k : ∀ x, q x → Yields (fun n => g n x) p) : Yields (fun n => (f n).bind (g n)) p := by
 obtain ⟨x, h1, h2⟩ := h
 obtain ⟨r, h3, h4⟩ := k x h2
 exact ⟨r, h1.bind h3, h4⟩
theorem Yields.pure {α : Type} {p : α → Prop} {r : α} (h : p r) : Yields (fun _ => some r) p := ⟨r, Ev.pure r, h⟩
theorem Yields.ite {α : Type} {b : Bool} {f g : Nat → Option α} {p : α → Prop} (h : b = true → Yields f p) (k : b = false → Yields g p) : Yields (fun n => cond b (f n) (g n)) p := by
 cases b with
 | true => exact h rfl
 | false => exact k rfl
theorem Yields.need {α : Type} {b : Bool} {f : Nat → Option α} {p : α → Prop} (hb : b = true) (h : Yields f p) : Yields (fun n => cond b (f n) none) p := by
 subst hb; exact h
theorem Yields.some {α β : Type} {o : Option α} {x : α} {g : Nat → α → Option β} {p : β → Prop} (ho : o = Option.some x) (k : Yields (fun n => g n x) p) : Yields (fun n => o.bind (g n)) p := by
 subst ho; exact k
theorem Yields.mono {α : Type} {f : Nat → Option α} {p q : α → Prop} (h : Yields f p) (k : ∀ r, p r → q r) : Yields f q := by
 obtain ⟨r, h1, h2⟩ := h; exact ⟨r, h1, k r h2⟩
theorem Ev.yields {α : Type} {f : Nat → Option α} {r : α} {p : α → Prop} (h : Ev f r) (hp : p r) : Yields f p := ⟨r, h, hp⟩
theorem Yields.ev {α : Type} {f : Nat → Option α} {r : α} (h : Yields f (· = r)) : Ev f r := by
 obtain ⟨r', h1, rfl⟩ := h; exact h1
theorem Ev.is {α : Type} {f : Nat → Option α} {r : α} (h : Ev f r) : Yields f (· = r) := ⟨r, h, rfl⟩
theorem Ev.some {α β : Type} {o : Option α} {x : α} {g : Nat → α → Option β} {r : β} (ho : o = Option.some x) (k : Ev (fun n => g n x) r) : Ev (fun n => o.bind (g n)) r := by
 subst ho; exact k
theorem Ev.need {α : Type} {b : Bool} {f : Nat → Option α} {r : α} (hb : b = true) (h : Ev f r) : Ev (fun n => cond b (f n) none) r := by
 subst hb; exact h
theorem qz {α : Type} {l : List α} {i : Nat} {x : α} (h : l[i]? = Option.some x) : idx l (i : Int) = Option.some x := by rw [idx_nat, h]
theorem qmb {α : Type} {x : α} {l : List α} : idx (x :: l) 0 = Option.some x := rfl
theorem qm2 {α : Type} {x y : α} {l : List α} : idx (x :: y :: l) 1 = Option.some y := rfl
end

section
open Go.Tr Go Go.Proofs.Tryz
set_option maxRecDepth 10000
theorem qer {t : Tm} (h : okAll t = true) (ho : t.op = 2) : ∃ a b, t.args = [a, b] ∧ okAll a = true ∧ okAll b = true ∧ a.height + 1 ≤ t.height ∧ b.height + 1 ≤ t.height ∧ a.count + b.count + 1 = t.count := by
 cases t with
 | mk o hd n us =>
  simp only [Tm.op] at ho
  subst ho
  simp only [okAll, okNode, Bool.and_eq_true] at h
  have h1 : us.length = 2 := by have := h.1; simp at this; exact this.2
  match us, h1 with
  | [a, b], _ =>
   simp only [okAllL, Bool.and_eq_true] at h
   refine ⟨a, b, rfl, h.2.1, h.2.2.1, ?_, ?_, ?_⟩
   ·simp only [Tm.height, qp]; omega
   ·simp only [Tm.height, qp]; omega
   ·simp only [Tm.count, qn]; omega
theorem okAll_one {t : Tm} (h : okAll t = true) (ho : t.op = 3) : ∃ a, t.args = [a] ∧ okAll a = true ∧ a.height + 1 ≤ t.height ∧ a.count + 1 = t.count := by
 cases t with
 | mk o hd n us =>
  simp only [Tm.op] at ho
  subst ho
  simp only [okAll, okNode, Bool.and_eq_true] at h
  have h1 : us.length = 1 := by have := h.1; simp at this; exact this.2
  match us, h1 with
  | [a], _ =>
   simp only [okAllL, Bool.and_eq_true] at h
   refine ⟨a, rfl, h.2.1, ?_, ?_⟩
   ·simp only [Tm.height, qp]; omega
   ·simp only [Tm.count, qn]
def spl : Nat → Tm → List Tm → List Tm × Tm
 | 0, t, l => (l, t)
 | n + 1, t, l => if t.op = 2 then match t.args with
  | a :: b :: _ => spl n b (l ++ [a])
  | _ => (l, t)
  else (l, t)
def split (t : Tm) : List Tm × Tm := spl t.height t []
theorem spl_rest : ∀ (n : Nat) (t : Tm) (l : List Tm), okAll t = true → t.height ≤ n → (spl n t l).2.op ≠ 2 ∧ okAll (spl n t l).2 = true ∧ (spl n t l).2.count ≤ t.count ∧ (spl n t l).2.height ≤ t.height ∧ (spl n t l).1.length + (spl n t l).2.height ≤ l.length + t.height
 | 0, t, l, hok, hn => by have := qa3 t; omega
 | n + 1, t, l, hok, hn => by
  simp only [spl]
  by_cases h : t.op = 2
  ·rw [if_pos h]
   obtain ⟨a, b, e, _, hb, _, hh, hc⟩ := qer hok h
   simp only [e]
   have := spl_rest n b (l ++ [a]) hb (by omega)
   simp only [List.length_append, List.length_cons, List.length_nil] at this
   exact ⟨this.1, this.2.1, by omega, by omega, by omega⟩
  ·rw [if_neg h]
   exact ⟨h, hok, Nat.le_refl _, Nat.le_refl _, Nat.le_refl _⟩
theorem qv : ∀ (us : List Tm), us.length ≤ qn us
 | [] => Nat.le_refl _
 | u :: us => by have := qv us; have := qah u; simp only [List.length_cons, qn]; omega
theorem beqI {a b : Int} (h : a = b) : (a == b) = true := by simp [h]
theorem beqI' {a b : Int} (h : a ≠ b) : (a == b) = false := by simp [h]
theorem qnm : ∀ (n : Nat) (t : Tm) (l : List Tm), okAll t = true → t.height ≤ n → l.length + t.height ≤ 1000000 → Ev (fun k => R03_Split_L1 k t l) (spl n t l)
 | 0, t, l, hok, hn, _ => by have := qa3 t; omega
 | n + 1, t, l, hok, hn, hl => by
  refine Ev.succ (fun k => R03_Split_L1.eq_2 ..) ?_
  simp only [spl]
  by_cases h : t.op = 2
  ·obtain ⟨a, b, e, _, hb, _, hh, _⟩ := qer hok h
   rw [if_pos h, e]
   refine Ev.t (beqI h) ?_
   refine Ev.some qmb ?_
   refine Ev.need (by simp [Tm.encL_length]; omega) ?_
   refine Ev.some qm2 ?_
   exact qnm n b _ hb (by omega) (by simp; omega)
  ·rw [if_neg h]
   refine Ev.f (beqI' h) ?_
   exact Ev.pure _
theorem qmr {t : Tm} (hok : okAll t = true) (hh : t.height ≤ 1000000) : Ev (fun k => R03_Split k t) (split t) := by
 refine Ev.succ (fun k => R03_Split.eq_2 ..) ?_
 exact qnm t.height t [] hok (Nat.le_refl _) (by simpa using hh)
theorem qkt : ∀ (n : Nat) (t : Tm) (l : List Tm), okAll t = true → t.height ≤ n → l.length + t.height ≤ 1000000 → Ev (fun k => term_Domains_L1 k t l) (spl n t l)
 | 0, t, l, hok, hn, _ => by have := qa3 t; omega
 | n + 1, t, l, hok, hn, hl => by
  refine Ev.succ (fun k => term_Domains_L1.eq_2 ..) ?_
  simp only [spl]
  by_cases h : t.op = 2
  ·obtain ⟨a, b, e, _, hb, _, hh, _⟩ := qer hok h
   rw [if_pos h, e]
   refine Ev.t (beqI h) ?_
   refine Ev.some qmb ?_
   refine Ev.need (by simp [Tm.encL_length]; omega) ?_
   refine Ev.some qm2 ?_
   exact qkt n b _ hb (by omega) (by simp; omega)
  ·rw [if_neg h]
   refine Ev.f (beqI' h) ?_
   exact Ev.pure _
theorem qd5 {t : Tm} (hok : okAll t = true) (hh : t.height ≤ 1000000) : Ev (fun k => term_Domains k t) (split t) := by
 refine Ev.succ (fun k => term_Domains.eq_2 ..) ?_
 exact qkt t.height t [] hok (Nat.le_refl _) (by simpa using hh)
def kindT (t : Tm) : Bool := (split t).2.op == 1
theorem kind_ev {t : Tm} (hok : okAll t = true) (hh : t.height ≤ 1000000) : Ev (fun k => sign_kind k t) (kindT t) := by
 refine Ev.succ (fun k => sign_kind.eq_2 ..) ?_
 exact (qd5 hok hh).bind (Ev.pure _)
theorem target_ev {t : Tm} (hok : okAll t = true) (hh : t.height ≤ 1000000) : Ev (fun k => sign_target k t) ((split t).2.n, ((split t).2.op == 4) && ((split t).2.hd == 2)) := by
 refine Ev.succ (fun k => sign_target.eq_2 ..) ?_
 exact (qd5 hok hh).bind (Ev.pure _)
theorem qnf {sig : List Dc} {n : Int} {d : Dc} (hd : idx sig n = some d) (hok : okAll d.cls = true) (hh : d.cls.height ≤ 1000000) : Ev (fun k => R05_family k sig n) (kindT d.cls) := by
 refine Ev.succ (fun k => R05_family.eq_2 ..) ?_
 refine Ev.some hd ?_
 exact (qmr hok hh).bind (Ev.pure _)
theorem qjf {sig : List Dc} {n : Int} {d : Dc} (hd : idx sig n = some d) (hok : okAll d.cls = true) (hh : d.cls.height ≤ 1000000) : Ev (fun k => R05_IsFamily k sig n) (kindT d.cls) := by
 refine Ev.succ (fun k => R05_IsFamily.eq_2 ..) ?_
 exact (qnf hd hok hh).bind (Ev.pure _)
def nodeB (o h n k : Int) (m : Nat) : Bool := (o != 4) || (((h != 3) && ((h != 1) || decide (n < k))) && ((h != 2) || decide (n < (m : Int))))
mutual
def nodesB (m : Nat) : Tm → Int → Bool
 | .mk o h n us, k => nodeB o h n k m && nodesBL m o us 0 k
def nodesBL (m : Nat) : Int → List Tm → Nat → Int → Bool
 | _, [], _, _ => true
 | o, u :: us, i, k => nodesB m u (k + under o i) && nodesBL m o us (i + 1) k
 end
theorem qgr (t : Tm) (i : Int) : Ev (fun k => term_Under k t i) (under t.op i) := by
 refine Ev.succ (fun k => term_Under.eq_2 ..) ?_
 by_cases h : t.op = 3 ∨ t.op = 2 ∧ i = 1
 ·rw [under, if_pos h]
  exact Ev.t (by simpa using h) (Ev.pure _)
 ·rw [under, if_neg h]
  exact Ev.f (by simpa using h) (Ev.pure _)
mutual
theorem each_ev (sig : List Dc) : ∀ (t : Tm) (k : Int) (b : Bool), 0 ≤ k → k + t.height ≤ 1000000 → t.count ≤ 1000000 → Ev (fun n => term_Each_sign_formed_1 n t k b sig) (b && nodesB sig.length t k)
 | .mk o h n us, k, b, hk0, hk1, hc => by
  refine Ev.succ (fun n => term_Each_sign_formed_1.eq_2 ..) ?_
  have h1 : Ev (fun q => sign_formed_1 q (.mk o h n us) k b sig) (b && nodeB o h n k sig.length) := by
   refine Ev.succ (fun n => sign_formed_1.eq_2 ..) ?_
   refine Ev.ite (fun h1 => ?_) (fun h1 => ?_)
   ·have h1 : o ≠ 4 := by simpa [Tm.op] using h1
    refine (Ev.pure b).eq ?_
    simp [nodeB, h1]
   ·have h1 : o = 4 := by simpa [Tm.op] using h1
    refine (Ev.pure _).eq ?_
    simp only [nodeB, h1, Tm.hd, Tm.n, Dc.encL_length]
    cases b with
    | false => simp
    | true => simp; rfl
  refine h1.bind ?_
  have hl := each_evL sig o h n us (by have := qv us; rw [qai] at hc; simp only [Tm.args] at hc; omega) us k (b && nodeB o h n k sig.length) 0 rfl hk0 (by rw [Tm.height_eq] at hk1; simp only [Tm.args] at hk1; omega) (by rw [qai] at hc; simp only [Tm.args] at hc; omega) (by simp)
  refine hl.eq ?_
  simp only [nodesB, Bool.and_assoc]
theorem each_evL (sig : List Dc) (o h n : Int) (us : List Tm) (hus : us.length ≤ 1000000) : ∀ (ts : List Tm) (k : Int) (b : Bool) (i : Nat), us.drop i = ts → 0 ≤ k → k + 1 + qp ts ≤ 1000000 → qn ts ≤ 1000000 → i + ts.length = us.length → Ev (fun q => term_Each_sign_formed_1_L1 q (.mk o h n us) k sig b (i : Int)) (b && nodesBL sig.length o ts i k)
 | [], k, b, i, hd, hk0, hk1, hc, hi => by
  refine Ev.succ (fun n => term_Each_sign_formed_1_L1.eq_2 ..) ?_
  simp only [List.length_nil, Nat.add_zero] at hi
  refine Ev.f (by simp [Tm.encL_length, Tm.args, hi]) ?_
  refine (Ev.pure b).eq ?_
  simp [nodesBL]
 | u :: ts, k, b, i, hd, hk0, hk1, hc, hi => by
  refine Ev.succ (fun n => term_Each_sign_formed_1_L1.eq_2 ..) ?_
  simp only [List.length_cons] at hi
  have hu : us[i]? = some u := by
   have := congrArg (fun l => l[0]?) hd
   simpa using this
  have hul := qb1 o i
  simp only [qp, qn] at hk1 hc
  refine Ev.t (by simp [Tm.encL_length, Tm.args]; omega) ?_
  refine Ev.some (qz hu) ?_
  refine (qgr _ _).bind ?_
  have hw : IntKind.i64.wrap (k + under o i) = k + under o i := wrap_i64 (by omega) (by omega)
  simp only [Tm.op, hw]
  refine (each_ev sig u (k + under o i) b (by omega) (by omega) (by omega)).bind ?_
  simp only [wrapS (show i < 2000000000000000000 by omega)]
  refine (each_evL sig o h n us hus ts k _ (i + 1) (by rw [← List.drop_drop, hd]; rfl) hk0 (by omega) (by omega) (by omega)).eq ?_
  simp only [nodesBL, Bool.and_assoc]
 end
end
end Go.Proofs.YthkgcfplebgolaaGreat
