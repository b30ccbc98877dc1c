/- Merged texts: G7. Conditions stand in each rule. -/
import Derived.Test.YtogicnodmgdnbaaGreatPJ
set_option linter.unusedSimpArgs false
set_option linter.unusedVariables false

namespace Go.Proofs.YtogicnodmgdnbaaGreat
section
open Go.Tr Go Go.Proofs.Tryz
set_option maxRecDepth 10000
mutual
def R14_State_known : Nat → Sta → Tm → Option (Bool)
 | 0, _, _ => none
 | n + 1, v1, v4 =>
  (R03_Free n v4).bind (fun v6 =>
  R14_State_known_L1 n v6 v1 0)
def R14_State_known_L1 : Nat → (List Int) → Sta → Int → Option (Bool)
 | 0, _, _, _ => none
 | n + 1, v6, v1, v24 =>
  cond (decide (v24 < ((List.map (D.int .i64) v6).length : Int))) (
  (idx v6 v24).bind (fun v26 =>
  (idx v1.opn (IntKind.i64.wrap ((IntKind.i64.wrap (((List.map D.bool v1.opn).length : Int) - 1)) - v26))).bind (fun v30 =>
  cond v30 (
  (idx v1.known (IntKind.i64.wrap ((IntKind.i64.wrap (((List.map D.bool v1.opn).length : Int) - 1)) - v26))).bind (fun v35 =>
  cond (!v35) (
  some (false)) (
  R14_State_known_L1 n v6 v1 (IntKind.i64.wrap (v24 + 1))))) (
  R14_State_known_L1 n v6 v1 (IntKind.i64.wrap (v24 + 1)))))) (
  some (true))
 end
theorem qfg (n : Nat) (v1 : Sta) (v4 : Tm) (a2 : OA) (c2 : Nat) (a3 : OA) (c3 : Nat) (a5 : OA) (c5 : Nat) (r : Bool) (hr : R14_State_known n v1 v4 = some r) : Pure Tryz.prog (.val (.fn (.func 145) [] [])) [(.agg [(.v (.slice a2 ((List.map D.bool v1.opn).length) c2)), (.v (.slice a3 ((List.map D.bool v1.known).length) c3))]), (.agg [(iS v4.op), (iS v4.hd), (iS v4.n), (tU v4.args a5 c5)])] [(.slice a2 ((List.map D.bool v1.opn).length) c2, .sl 1 (List.map D.bool v1.opn)), (.slice a3 ((List.map D.bool v1.known).length) c3, .sl 1 (List.map D.bool v1.known)), (tQ v4.args a5 c5)] (fun r' out => r' = (bS r) ∧ out = []) := by
 rcases n with _ | n
 ·exact qg hr
 rw [R14_State_known.eq_2] at hr
 refine qb (N := 38) (m := 0) (dt := drawsOf [(5, .leaf [0, 1, 2, 3, 4, 5, 6, 7, 8, 9], [], [])]) [] ttOK func145 rfl call145 ntmps145 rfl rfl rfl mixed (by kernel_rfl) ?_
 obtain ⟨v6, h7, hr⟩ := bind_some hr
 refine (qgh n v4 a5 c5 _ h7).atR [2] rfl rfl rfl ?_
 rintro _ _ ⟨a8, c8, rfl, rfl⟩
 refine AtLoop.mk ⟨Nat × Int, fun x => [(2, (.loc 0 0)), (5, (nU v6 a8 c8)), (6, (iS x.2))], fun x => ⟨[.cells 103 [(.v (.slice a2 ((List.map D.bool v1.opn).length) c2)), (.v (.slice a3 ((List.map D.bool v1.known).length) c3))], .cells 47 [(iS v4.op), (iS v4.hd), (iS v4.n), (tU v4.args a5 c5)]], [], [(.slice a2 ((List.map D.bool v1.opn).length) c2, .sl 1 (List.map D.bool v1.opn)), (.slice a3 ((List.map D.bool v1.known).length) c3, .sl 1 (List.map D.bool v1.known)), (tQ v4.args a5 c5), (nQ v6 a8 c8)]⟩, fun x => R14_State_known_L1 x.1 v6 v1 x.2 = some r, fun x => x.1, (n, 0), hr, ⟨rfl, rfl, rfl, trivial⟩, (StLe.gen 2 [] [.old 0, .old 1, .old 2, .old 3] rfl rfl rfl rfl rfl rfl rfl), fun x _ => ⟨rfl, rfl⟩, ?_⟩
 rintro ⟨n, v24⟩ HH
 have hr : R14_State_known_L1 n v6 v1 v24 = some r := HH
 rcases n with _ | n
 ·exact qg hr
 rw [R14_State_known_L1.eq_2] at hr
 refine AtIf.mk (fun h25 => ?_) (fun h25 => ?_)
 ·replace hr := qf h25 hr
  obtain ⟨v26, h27, hr⟩ := bind_some hr
  obtain ⟨h28, h29⟩ := qh h27
  refine qd ttOK 3 rfl rfl rfl rfl h28 (qx (D.int .i64) h29) ?_
  obtain ⟨v30, h31, hr⟩ := bind_some hr
  obtain ⟨h32, h33⟩ := qh h31
  refine qd ttOK 0 rfl rfl rfl rfl h32 (qx D.bool h33) ?_
  refine AtGuard.mk (fun h34 => ?_) (fun h34 => ?_)
  ·replace hr := qf h34 hr
   obtain ⟨v35, h36, hr⟩ := bind_some hr
   obtain ⟨h37, h38⟩ := qh h36
   refine qd ttOK 1 rfl rfl rfl rfl h37 (qx D.bool h38) ?_
   refine AtIf.mk (fun h39 => ?_) (fun h39 => ?_)
   ·replace hr := qf h39 hr
    replace hr := osi hr; subst hr
    exact qa [] [] rfl rfl ⟨rfl, rfl⟩
   ·replace hr := qe h39 hr
    exact ⟨(n, (IntKind.i64.wrap (v24 + 1))), hr, Nat.lt_succ_self _, ⟨rfl, rfl, rfl, trivial⟩, (StLe.gen 2 [] [.old 0, .old 1, .old 2, .old 3] rfl rfl rfl rfl rfl rfl rfl)⟩
  ·replace hr := qe h34 hr
   refine AtIf.mk (fun h => ff h) (fun _ => ?_)
   exact ⟨(n, (IntKind.i64.wrap (v24 + 1))), hr, Nat.lt_succ_self _, ⟨rfl, rfl, rfl, trivial⟩, (StLe.gen 2 [] [.old 0, .old 1, .old 2, .old 3] rfl rfl rfl rfl rfl rfl rfl)⟩
 ·replace hr := qe h25 hr
  replace hr := osi hr; subst hr
  exact qa [] [] rfl rfl ⟨rfl, rfl⟩
mutual
def R14_State_unknown : Nat → Sta → Md → (List Tm) → Int → Option (Int)
 | 0, _, _, _, _ => none
 | n + 1, v1, v4, v6, v8 =>
  R14_State_unknown_L1 n v6 v4 v8 v1 0
def R14_State_unknown_L1 : Nat → (List Tm) → Md → Int → Sta → Int → Option (Int)
 | 0, _, _, _, _, _ => none
 | n + 1, v6, v4, v8, v1, v23 =>
  cond (decide (v23 < ((Tm.encL v6).length : Int))) (
  (idx v4.signs v23).bind (fun v25 =>
  cond (v25 == v8) (
  (idx v6 v23).bind (fun v30 =>
  (R14_State_known n v1 v30).bind (fun v35 =>
  cond (!v35) (
  some (v23)) (
  R14_State_unknown_L1 n v6 v4 v8 v1 (IntKind.i64.wrap (v23 + 1)))))) (
  R14_State_unknown_L1 n v6 v4 v8 v1 (IntKind.i64.wrap (v23 + 1))))) (
  some ((-1)))
 end
theorem qb3 (n : Nat) (v1 : Sta) (v4 : Md) (v6 : (List Tm)) (v8 : Int) (a2 : OA) (c2 : Nat) (a3 : OA) (c3 : Nat) (a5 : OA) (c5 : Nat) (a7 : OA) (c7 : Nat) (r : Int) (hr : R14_State_unknown n v1 v4 v6 v8 = some r) : Pure Tryz.prog (.val (.fn (.func 105) [] [])) [(.agg [(.v (.slice a2 ((List.map D.bool v1.opn).length) c2)), (.v (.slice a3 ((List.map D.bool v1.known).length) c3))]), (.agg [(iS v4.family), (nU v4.signs a5 c5)]), (tU v6 a7 c7), (iS v8)] [(.slice a2 ((List.map D.bool v1.opn).length) c2, .sl 1 (List.map D.bool v1.opn)), (.slice a3 ((List.map D.bool v1.known).length) c3, .sl 1 (List.map D.bool v1.known)), (nQ v4.signs a5 c5), (tQ v6 a7 c7)] (fun r' out => r' = (iS r) ∧ out = []) := by
 rcases n with _ | n
 ·exact qg hr
 rw [R14_State_unknown.eq_2] at hr
 refine qb (N := 33) (m := 0) (dt := drawsOf [(4, .node [0, 1, 2, 3, 4, 5, 6, 7, 8, 9, 10, 11, 12] [(13, .leaf [14, 15])], [13], [])]) [] ttOK func105 rfl call105 ntmps105 rfl rfl rfl mixed (by kernel_rfl) ?_
 refine AtLoop.mk ⟨Nat × Int, fun x => [(2, (tU v6 a7 c7)), (3, (iS v8)), (4, (.loc 0 0)), (5, (.loc 1 0)), (9, (iS x.2))], fun x => ⟨[.cells 103 [(.v (.slice a2 ((List.map D.bool v1.opn).length) c2)), (.v (.slice a3 ((List.map D.bool v1.known).length) c3))], .cells 31 [(iS v4.family), (nU v4.signs a5 c5)]], [], [(.slice a2 ((List.map D.bool v1.opn).length) c2, .sl 1 (List.map D.bool v1.opn)), (.slice a3 ((List.map D.bool v1.known).length) c3, .sl 1 (List.map D.bool v1.known)), (nQ v4.signs a5 c5), (tQ v6 a7 c7)]⟩, fun x => R14_State_unknown_L1 x.1 v6 v4 v8 v1 x.2 = some r, fun x => x.1, (n, 0), hr, ⟨rfl, rfl, rfl, rfl, rfl, trivial⟩, (StLe.gen 2 [] [.old 0, .old 1, .old 2, .old 3] rfl rfl rfl rfl rfl rfl rfl), fun x _ => ⟨rfl, rfl⟩, ?_⟩
 rintro ⟨n, v23⟩ HH
 have hr : R14_State_unknown_L1 n v6 v4 v8 v1 v23 = some r := HH
 rcases n with _ | n
 ·exact qg hr
 rw [R14_State_unknown_L1.eq_2] at hr
 refine AtIf.mk (fun h24 => ?_) (fun h24 => ?_)
 ·replace hr := qf h24 hr
  obtain ⟨v25, h26, hr⟩ := bind_some hr
  obtain ⟨h27, h28⟩ := qh h26
  refine qd ttOK 2 rfl rfl rfl rfl h27 (qx (D.int .i64) h28) ?_
  refine AtGuard.mk (fun h29 => ?_) (fun h29 => ?_)
  ·replace hr := qf h29 hr
   obtain ⟨v30, h31, hr⟩ := bind_some hr
   obtain ⟨h32, h33⟩ := qh h31
   refine qd ttOK 3 rfl rfl rfl rfl h32 (Tm.encL_get h33) ?_
   intro a34 c34 _ _
   obtain ⟨v35, h36, hr⟩ := bind_some hr
   refine (qfg n v1 v30 a2 c2 a3 c3 a34 c34 _ h36).atR [0, 1, 4] rfl rfl rfl ?_
   rintro _ _ ⟨rfl, rfl⟩
   refine AtIf.mk (fun h37 => ?_) (fun h37 => ?_)
   ·replace hr := qf h37 hr
    replace hr := osi hr; subst hr
    exact qa [] [] rfl rfl ⟨rfl, rfl⟩
   ·replace hr := qe h37 hr
    exact ⟨(n, (IntKind.i64.wrap (v23 + 1))), hr, Nat.lt_succ_self _, ⟨rfl, rfl, rfl, rfl, rfl, trivial⟩, (StLe.gen 2 [] [.old 0, .old 1, .old 2, .old 3] rfl rfl rfl rfl rfl rfl rfl)⟩
  ·replace hr := qe h29 hr
   refine AtIf.mk (fun h => ff h) (fun _ => ?_)
   exact ⟨(n, (IntKind.i64.wrap (v23 + 1))), hr, Nat.lt_succ_self _, ⟨rfl, rfl, rfl, rfl, rfl, trivial⟩, (StLe.gen 2 [] [.old 0, .old 1, .old 2, .old 3] rfl rfl rfl rfl rfl rfl rfl)⟩
 ·replace hr := qe h24 hr
  replace hr := osi hr; subst hr
  exact qa [] [] rfl rfl ⟨rfl, rfl⟩
def R14_State_First : Nat → Sta → Int → Option (Sta)
 | 0, _, _ => none
 | n + 1, v1, v4 =>
  cond (decide ((0 : Int) ≤ (0 : Int) ∧ (0 : Int) ≤ v4 ∧ v4 ≤ ((List.map D.bool v1.opn).length : Int))) (
  cond (decide ((0 : Int) ≤ (0 : Int) ∧ (0 : Int) ≤ v4 ∧ v4 ≤ ((List.map D.bool v1.known).length : Int))) (
  cond (decide ((List.map D.bool (v1.opn.take v4.toNat)).length ≤ 1000000)) (
  cond (decide ((List.map D.bool (v1.known.take v4.toNat)).length ≤ 1000000)) (
  some ((Sta.mk (v1.opn.take v4.toNat) (v1.known.take v4.toNat)))) none) none) none) none
theorem qah (n : Nat) (v1 : Sta) (v4 : Int) (a2 : OA) (c2 : Nat) (a3 : OA) (c3 : Nat) (r : Sta) (hr : R14_State_First n v1 v4 = some r) : Meets Tryz.prog (.val (.fn (.func 104) [] [])) [(.agg [(.v (.slice a2 ((List.map D.bool v1.opn).length) c2)), (.v (.slice a3 ((List.map D.bool v1.known).length) c3))]), (iS v4)] ⟨[], [], [(.slice a2 ((List.map D.bool v1.opn).length) c2, .sl 1 (List.map D.bool v1.opn)), (.slice a3 ((List.map D.bool v1.known).length) c3, .sl 1 (List.map D.bool v1.known))]⟩ (fun o S' => ∃ (b1 : OA) (d1 : Nat), ∃ (b2 : OA) (d2 : Nat), o = .ret (.agg [(.v (.slice b1 ((List.map D.bool r.opn).length) d1)), (.v (.slice b2 ((List.map D.bool r.known).length) d2))]) ∧ S' = ⟨[], [⟨.slice b1 ((List.map D.bool r.opn).length) d1, 1, 4, (List.map D.bool r.opn)⟩, ⟨.slice b2 ((List.map D.bool r.known).length) d2, 1, 4, (List.map D.bool r.known)⟩], []⟩) := by
 rcases n with _ | n
 ·exact qg hr
 rw [R14_State_First.eq_2] at hr
 refine qb (N := 20) (m := 0) (dt := drawsOf [(2, .node [0, 1, 2, 3, 4, 6, 7, 8, 9, 10] [(5, .node [] [(11, .node [12] [(13, .leaf [])])])], [11, 13], [])]) [] ttOK func104 rfl call104 ntmps104 rfl rfl rfl mixed (by kernel_rfl) ?_
 obtain ⟨h5, hr⟩ := qk hr
 refine qa9 ttOK 0 0 v4 (ds' := (List.map D.bool (v1.opn.take v4.toNat))) rfl rfl rfl (.inr ⟨rfl, rfl⟩) (.inl ⟨_, rfl⟩) h5 (sl_h ..) ?_
 intro a6 c6
 obtain ⟨h7, hr⟩ := qk hr
 refine qa9 ttOK 1 0 v4 (ds' := (List.map D.bool (v1.known.take v4.toNat))) rfl rfl rfl (.inr ⟨rfl, rfl⟩) (.inl ⟨_, rfl⟩) h7 (sl_h ..) ?_
 intro a8 c8
 obtain ⟨h9, hr⟩ := qk hr
 refine AtSem.le (S' := ⟨[.cells 103 [(.v (.slice a2 ((List.map D.bool v1.opn).length) c2)), (.v (.slice a3 ((List.map D.bool v1.known).length) c3))], .cells 103 [(.v (.slice none 0 0)), (.v (.slice none 0 0))]], [⟨.slice none 0 0, 1, 4, []⟩], [(.slice a2 ((List.map D.bool v1.opn).length) c2, .sl 1 (List.map D.bool v1.opn)), (.slice a3 ((List.map D.bool v1.known).length) c3, .sl 1 (List.map D.bool v1.known)), (.slice a6 ((List.map D.bool (v1.opn.take v4.toNat)).length) c6, .sl 1 (List.map D.bool (v1.opn.take v4.toNat))), (.slice a8 ((List.map D.bool (v1.known.take v4.toNat)).length) c8, .sl 1 (List.map D.bool (v1.known.take v4.toNat)))]⟩) (StLe.gen 2 [.nil 1 4] [.old 0, .old 1, .old 2, .old 3] rfl rfl rfl rfl rfl rfl rfl) rfl ?_
 refine qq (ds' := (List.map D.bool (v1.opn.take v4.toNat))) ttOK 1 0 2 rfl (by kernel_rfl) rfl rfl rfl rfl (List.nil_append _).symm h9 (by decide) ?_
 intro a10 c10
 refine ⟨fun _ _ h => h, ?_⟩
 obtain ⟨h11, hr⟩ := qk hr
 refine AtSem.le (S' := ⟨[.cells 103 [(.v (.slice a2 ((List.map D.bool v1.opn).length) c2)), (.v (.slice a3 ((List.map D.bool v1.known).length) c3))], .cells 103 [(.v (.slice none 0 0)), (.v (.slice none 0 0))]], [⟨.slice none 0 0, 1, 4, []⟩, ⟨.slice a10 ((List.map D.bool (v1.opn.take v4.toNat)).length) c10, 1, 4, (List.map D.bool (v1.opn.take v4.toNat))⟩], [(.slice a2 ((List.map D.bool v1.opn).length) c2, .sl 1 (List.map D.bool v1.opn)), (.slice a3 ((List.map D.bool v1.known).length) c3, .sl 1 (List.map D.bool v1.known)), (.slice a6 ((List.map D.bool (v1.opn.take v4.toNat)).length) c6, .sl 1 (List.map D.bool (v1.opn.take v4.toNat))), (.slice a8 ((List.map D.bool (v1.known.take v4.toNat)).length) c8, .sl 1 (List.map D.bool (v1.known.take v4.toNat)))]⟩) (StLe.gen 2 [.nil 1 4, .old 0] [.old 0, .old 1, .old 2, .old 3] rfl rfl rfl rfl rfl rfl rfl) rfl ?_
 refine qq (ds' := (List.map D.bool (v1.known.take v4.toNat))) ttOK 1 0 3 rfl (by kernel_rfl) rfl rfl rfl rfl (List.nil_append _).symm h11 (by decide) ?_
 intro a12 c12
 replace hr := osi hr; subst hr
 exact AtRet.gen ⟨[], [⟨.slice a10 ((List.map D.bool (v1.opn.take v4.toNat)).length) c10, 1, 4, (List.map D.bool (v1.opn.take v4.toNat))⟩, ⟨.slice a12 ((List.map D.bool (v1.known.take v4.toNat)).length) c12, 1, 4, (List.map D.bool (v1.known.take v4.toNat))⟩], []⟩ (StLe.gen 0 [.old 1, .old 0] [] rfl rfl rfl rfl rfl rfl rfl) rfl rfl ⟨a10, c10, a12, c12, rfl, rfl⟩
mutual
def R14_State_strict : Nat → Sta → Tm → Int → (List Bool) → Option ((List Bool))
 | 0, _, _, _, _ => none
 | n + 1, v1, v4, v6, v7 =>
  cond (v4.op == 3) (
  (idx v4.args 0).bind (fun v10 =>
  (R14_State_strict n v1 v10 (IntKind.i64.wrap (v6 + 1)) v7).bind (fun v15 =>
  cond (decide (v15.length = v7.length)) (
  some (v15)) none))) (
  cond (v4.op == 2) (
  (idx v4.args 0).bind (fun v22 =>
  (R14_State_strict n v1 v22 v6 v7).bind (fun v27 =>
  (idx v4.args 1).bind (fun v32 =>
  (R14_State_strict n v1 v32 (IntKind.i64.wrap (v6 + 1)) v27).bind (fun v37 =>
  cond (decide (v37.length = v7.length)) (
  some (v37)) none))))) (
  cond (((v4.op == 4) && (v4.hd == 1)) && (decide (v4.n ≥ v6))) (
  (idx v1.opn (IntKind.i64.wrap ((IntKind.i64.wrap (((List.map D.bool v1.opn).length : Int) - 1)) - (IntKind.i64.wrap (v4.n - v6))))).bind (fun v44 =>
  cond v44 (
  (R14_State_pattern n v1 v4.args v6).bind (fun v49 =>
  cond v49 (
  cond (decide (0 ≤ (IntKind.i64.wrap ((IntKind.i64.wrap (((List.map D.bool v1.opn).length : Int) - 1)) - (IntKind.i64.wrap (v4.n - v6)))) ∧ ((IntKind.i64.wrap ((IntKind.i64.wrap (((List.map D.bool v1.opn).length : Int) - 1)) - (IntKind.i64.wrap (v4.n - v6))))).toNat < (List.map D.bool v7).length)) (
  cond (decide ((v7.set (((IntKind.i64.wrap ((IntKind.i64.wrap (((List.map D.bool v1.opn).length : Int) - 1)) - (IntKind.i64.wrap (v4.n - v6))))).toNat) true).length = v7.length)) (
  some ((v7.set (((IntKind.i64.wrap ((IntKind.i64.wrap (((List.map D.bool v1.opn).length : Int) - 1)) - (IntKind.i64.wrap (v4.n - v6))))).toNat) true))) none) none) (
  cond (decide (v7.length = v7.length)) (
  some (v7)) none))) (
  R14_State_strict_L1 n v4 v1 v6 v7 v7 0))) (
  R14_State_strict_L1 n v4 v1 v6 v7 v7 0)))
def R14_State_strict_L1 : Nat → Tm → Sta → Int → (List Bool) → (List Bool) → Int → Option ((List Bool))
 | 0, _, _, _, _, _, _ => none
 | n + 1, v4, v1, v6, v7, v70, v71 =>
  cond (decide (v71 < ((Tm.encL v4.args).length : Int))) (
  (idx v4.args v71).bind (fun v73 =>
  (R14_State_strict n v1 v73 v6 v70).bind (fun v78 =>
  R14_State_strict_L1 n v4 v1 v6 v7 v78 (IntKind.i64.wrap (v71 + 1))))) (
  cond (decide (v70.length = v7.length)) (
  some (v70)) none)
 end
theorem qei : ∀ (N : Nat), (∀ (n : Nat), n ≤ N → ∀ (v1 : Sta) (v4 : Tm) (v6 : Int) (v7 : (List Bool)) (a2 : OA) (c2 : Nat) (a3 : OA) (c3 : Nat) (a5 : OA) (c5 : Nat) (a8 : OA) (c8 : Nat) (r : (List Bool)), R14_State_strict n v1 v4 v6 v7 = some r → Meets Tryz.prog (.val (.fn (.func 73) [] [])) [(.agg [(.v (.slice a2 ((List.map D.bool v1.opn).length) c2)), (.v (.slice a3 ((List.map D.bool v1.known).length) c3))]), (.agg [(iS v4.op), (iS v4.hd), (iS v4.n), (.v (.slice a5 ((Tm.encL v4.args).length) c5))]), (iS v6), (.v (.slice a8 ((List.map D.bool v7).length) c8))] ⟨[], [⟨.slice a8 ((List.map D.bool v7).length) c8, 1, 4, (List.map D.bool v7)⟩], [(.slice a2 ((List.map D.bool v1.opn).length) c2, .sl 1 (List.map D.bool v1.opn)), (.slice a3 ((List.map D.bool v1.known).length) c3, .sl 1 (List.map D.bool v1.known)), (.slice a5 ((Tm.encL v4.args).length) c5, .sl 4 (Tm.encL v4.args))]⟩ (fun o S' => r.length = v7.length ∧ o = .ret (.tup []) ∧ S' = ⟨[], [⟨.slice a8 ((List.map D.bool r).length) c8, 1, 4, (List.map D.bool r)⟩], []⟩)) := by
 intro N
 induction N with
 | zero =>
  intro n hn v1 v4 v6 v7 a2 c2 a3 c3 a5 c5 a8 c8 r hr; obtain rfl : n = 0 := (by omega); exact qg hr
 | succ N ih =>
  intro n hn v1 v4 v6 v7 a2 c2 a3 c3 a5 c5 a8 c8 r hr
  rcases n with _ | n
  ·exact qg hr
  replace hn : n ≤ N := by omega
  rw [R14_State_strict.eq_2] at hr
  refine qb (N := 105) (m := 0) (dt := drawsOf [(2, .node [0, 1, 2, 3, 4, 5, 6, 7] [(8, .leaf [])], [8], []), (4, .node [0, 1, 2, 3, 4, 5, 6] [(7, .leaf [])], [7], []), (5, .node [0, 1, 2, 3, 4, 5, 6, 7] [(8, .leaf [])], [8], []), (12, .node [0, 1, 2, 3, 4, 5, 6, 7] [(8, .leaf [])], [8], [])]) [] ttOK func73 rfl call73 ntmps73 rfl rfl rfl mixed (by kernel_rfl) ?_
  refine AtIf.mk (fun h9 => ?_) (fun h9 => ?_)
  ·replace hr := qf h9 hr
   obtain ⟨v10, h11, hr⟩ := bind_some hr
   obtain ⟨h12, h13⟩ := qh h11
   refine qd ttOK 2 rfl rfl rfl rfl h12 (Tm.encL_get h13) ?_
   intro a14 c14 _ _
   obtain ⟨v15, h16, hr⟩ := bind_some hr
   refine (ih n (by omega) v1 v10 (IntKind.i64.wrap (v6 + 1)) v7 a2 c2 a3 c3 a14 c14 a8 c8 _ h16).frameRA [] [0] [0, 1, 3] rfl rfl rfl rfl rfl rfl rfl rfl rfl ?_
   rintro _ _ ⟨h17, rfl, rfl⟩
   refine ⟨rfl, [], rfl, ?_⟩
   try dsimp only
   rw [show (List.map D.bool v15).length = (List.map D.bool v7).length by simp [h17]]
   obtain ⟨m18, h19⟩ : ∃ m18, m18 = (List.map D.bool v7).length := ⟨_, rfl⟩
   rw [← h19]
   obtain rfl : m18 = (List.map D.bool v15).length := by rw [h19]; simp [h17]
   obtain ⟨h20, hr⟩ := qk hr
   replace hr := osi hr; subst hr
   exact AtRet.gen ⟨[], [⟨.slice a8 ((List.map D.bool v15).length) c8, 1, 4, (List.map D.bool v15)⟩], []⟩ (StLe.gen 0 [.old 0] [] rfl rfl rfl rfl rfl rfl rfl) rfl rfl ⟨of_decide_eq_true h20, rfl, rfl⟩
  ·replace hr := qe h9 hr
   refine AtIf.mk (fun h21 => ?_) (fun h21 => ?_)
   ·replace hr := qf h21 hr
    obtain ⟨v22, h23, hr⟩ := bind_some hr
    obtain ⟨h24, h25⟩ := qh h23
    refine qd ttOK 2 rfl rfl rfl rfl h24 (Tm.encL_get h25) ?_
    intro a26 c26 _ _
    obtain ⟨v27, h28, hr⟩ := bind_some hr
    refine (ih n (by omega) v1 v22 v6 v7 a2 c2 a3 c3 a26 c26 a8 c8 _ h28).frameRA [] [0] [0, 1, 3] rfl rfl rfl rfl rfl rfl rfl rfl rfl ?_
    rintro _ _ ⟨h29, rfl, rfl⟩
    refine ⟨rfl, [], rfl, ?_⟩
    try dsimp only
    rw [show (List.map D.bool v27).length = (List.map D.bool v7).length by simp [h29]]
    obtain ⟨m30, h31⟩ : ∃ m30, m30 = (List.map D.bool v7).length := ⟨_, rfl⟩
    rw [← h31]
    obtain ⟨v32, h33, hr⟩ := bind_some hr
    obtain ⟨h34, h35⟩ := qh h33
    refine qd ttOK 2 rfl rfl rfl rfl h34 (Tm.encL_get h35) ?_
    intro a36 c36 _ _
    obtain ⟨v37, h38, hr⟩ := bind_some hr
    obtain rfl : m30 = (List.map D.bool v27).length := by rw [h31]; simp [h29]
    refine (ih n (by omega) v1 v32 (IntKind.i64.wrap (v6 + 1)) v27 a2 c2 a3 c3 a36 c36 a8 c8 _ h38).frameRA [] [0] [0, 1, 4] rfl rfl rfl rfl rfl rfl rfl rfl rfl ?_
    rintro _ _ ⟨h39, rfl, rfl⟩
    refine ⟨rfl, [], rfl, ?_⟩
    try dsimp only
    rw [show (List.map D.bool v37).length = (List.map D.bool v27).length by simp [h39]]
    obtain ⟨m40, h41⟩ : ∃ m40, m40 = (List.map D.bool v27).length := ⟨_, rfl⟩
    rw [← h41]
    obtain rfl : m40 = (List.map D.bool v37).length := by rw [h41]; simp [h39]
    obtain ⟨h42, hr⟩ := qk hr
    replace hr := osi hr; subst hr
    exact AtRet.gen ⟨[], [⟨.slice a8 ((List.map D.bool v37).length) c8, 1, 4, (List.map D.bool v37)⟩], []⟩ (StLe.gen 0 [.old 0] [] rfl rfl rfl rfl rfl rfl rfl) rfl rfl ⟨of_decide_eq_true h42, rfl, rfl⟩
   ·replace hr := qe h21 hr
    refine AtGuard.mk (fun h43 => ?_) (fun h43 => ?_)
    ·replace hr := qf h43 hr
     obtain ⟨v44, h45, hr⟩ := bind_some hr
     obtain ⟨h46, h47⟩ := qh h45
     refine qd ttOK 0 rfl rfl rfl rfl h46 (qx D.bool h47) ?_
     refine AtIf.mk (fun h48 => ?_) (fun h48 => ?_)
     ·replace hr := qf h48 hr
      obtain ⟨v49, h50, hr⟩ := bind_some hr
      refine (qeh n v1 v4.args v6 a2 c2 a3 c3 a5 c5 _ h50).atR [0, 1, 2] rfl rfl rfl ?_
      rintro _ _ ⟨rfl, rfl⟩
      refine AtIf.mk (fun h51 => ?_) (fun h51 => ?_)
      ·replace hr := qf h51 hr
       obtain ⟨h52, hr⟩ := qk hr
       refine qb2 ttOK 0 rfl rfl rfl rfl h52 ?_
       intro b53 h54
       subst h54
       obtain ⟨m55, h56⟩ : ∃ m55, m55 = (List.map D.bool v7).length := ⟨_, rfl⟩
       try dsimp only
       rw [← h56]
       refine qeb (ds' := List.map D.bool (v7.set (((IntKind.i64.wrap ((IntKind.i64.wrap (((List.map D.bool v1.opn).length : Int) - 1)) - (IntKind.i64.wrap (v4.n - v6))))).toNat) true)) ttOK 0 rfl (by simpa using (of_decide_eq_true h52).2) rfl (.inl ⟨_, rfl⟩) rfl rfl (qmp ..) ?_
       obtain rfl : m55 = (List.map D.bool (v7.set (((IntKind.i64.wrap ((IntKind.i64.wrap (((List.map D.bool v1.opn).length : Int) - 1)) - (IntKind.i64.wrap (v4.n - v6))))).toNat) true)).length := by rw [h56]; simp
       obtain ⟨h57, hr⟩ := qk hr
       replace hr := osi hr; subst hr
       exact AtRet.gen ⟨[], [⟨.slice (some ⟨b53, 0, none⟩) ((List.map D.bool (v7.set (((IntKind.i64.wrap ((IntKind.i64.wrap (((List.map D.bool v1.opn).length : Int) - 1)) - (IntKind.i64.wrap (v4.n - v6))))).toNat) true)).length) c8, 1, 4, (List.map D.bool (v7.set (((IntKind.i64.wrap ((IntKind.i64.wrap (((List.map D.bool v1.opn).length : Int) - 1)) - (IntKind.i64.wrap (v4.n - v6))))).toNat) true))⟩], []⟩ (StLe.gen 0 [.old 0] [] rfl rfl rfl rfl rfl rfl rfl) rfl rfl ⟨of_decide_eq_true h57, rfl, rfl⟩
      ·replace hr := qe h51 hr
       obtain ⟨h58, hr⟩ := qk hr
       replace hr := osi hr; subst hr
       exact AtRet.gen ⟨[], [⟨.slice a8 ((List.map D.bool v7).length) c8, 1, 4, (List.map D.bool v7)⟩], []⟩ (StLe.gen 0 [.old 0] [] rfl rfl rfl rfl rfl rfl rfl) rfl rfl ⟨of_decide_eq_true h58, rfl, rfl⟩
     ·replace hr := qe h48 hr
      refine AtLoop.mk ⟨Nat × (List Bool) × Int, fun x => [(2, (iS v6)), (3, (.v (.slice a8 ((List.map D.bool x.2.1).length) c8))), (4, (.loc 0 0)), (5, (.loc 1 0)), (8, (iS x.2.2))], fun x => ⟨[.cells 103 [(.v (.slice a2 ((List.map D.bool v1.opn).length) c2)), (.v (.slice a3 ((List.map D.bool v1.known).length) c3))], .cells 47 [(iS v4.op), (iS v4.hd), (iS v4.n), (.v (.slice a5 ((Tm.encL v4.args).length) c5))], .imm [(bS v44)]], [⟨.slice a8 ((List.map D.bool x.2.1).length) c8, 1, 4, (List.map D.bool x.2.1)⟩], [(.slice a2 ((List.map D.bool v1.opn).length) c2, .sl 1 (List.map D.bool v1.opn)), (.slice a3 ((List.map D.bool v1.known).length) c3, .sl 1 (List.map D.bool v1.known)), (.slice a5 ((Tm.encL v4.args).length) c5, .sl 4 (Tm.encL v4.args))]⟩, fun x => x.1 ≤ N ∧ R14_State_strict_L1 x.1 v4 v1 v6 v7 x.2.1 x.2.2 = some r, fun x => x.1, (n, v7, 0), ⟨by omega, hr⟩, ⟨rfl, rfl, rfl, rfl, rfl, trivial⟩, (StLe.gen 3 [.old 0] [.old 0, .old 1, .old 2] rfl rfl rfl rfl rfl rfl rfl), fun x _ => ⟨rfl, rfl⟩, ?_⟩
      rintro ⟨n, v70, v71⟩ HH
      obtain ⟨hn, hr⟩ : n ≤ N ∧ R14_State_strict_L1 n v4 v1 v6 v7 v70 v71 = some r := HH
      rcases n with _ | n
      ·exact qg hr
      rw [R14_State_strict_L1.eq_2] at hr
      refine AtIf.mk (fun h72 => ?_) (fun h72 => ?_)
      ·replace hr := qf h72 hr
       obtain ⟨v73, h74, hr⟩ := bind_some hr
       obtain ⟨h75, h76⟩ := qh h74
       refine qd ttOK 2 rfl rfl rfl rfl h75 (Tm.encL_get h76) ?_
       intro a77 c77 _ _
       obtain ⟨v78, h79, hr⟩ := bind_some hr
       refine (ih n (by omega) v1 v73 v6 v70 a2 c2 a3 c3 a77 c77 a8 c8 _ h79).frameRA [] [0] [0, 1, 3] rfl rfl rfl rfl rfl rfl rfl rfl rfl ?_
       rintro _ _ ⟨h80, rfl, rfl⟩
       refine ⟨rfl, [], rfl, ?_⟩
       try dsimp only
       rw [show (List.map D.bool v78).length = (List.map D.bool v70).length by simp [h80]]
       obtain ⟨m81, h82⟩ : ∃ m81, m81 = (List.map D.bool v70).length := ⟨_, rfl⟩
       rw [← h82]
       obtain rfl : m81 = (List.map D.bool v78).length := by rw [h82]; simp [h80]
       exact ⟨(n, v78, (IntKind.i64.wrap (v71 + 1))), ⟨by omega, hr⟩, Nat.lt_succ_self _, ⟨rfl, rfl, rfl, rfl, rfl, trivial⟩, (StLe.gen 3 [.old 0] [.old 0, .old 1, .old 2] rfl rfl rfl rfl rfl rfl rfl)⟩
      ·replace hr := qe h72 hr
       obtain ⟨h83, hr⟩ := qk hr
       replace hr := osi hr; subst hr
       exact AtRet.gen ⟨[], [⟨.slice a8 ((List.map D.bool v70).length) c8, 1, 4, (List.map D.bool v70)⟩], []⟩ (StLe.gen 0 [.old 0] [] rfl rfl rfl rfl rfl rfl rfl) rfl rfl ⟨of_decide_eq_true h83, rfl, rfl⟩
    ·replace hr := qe h43 hr
     refine AtIf.mk (fun h => ff h) (fun _ => ?_)
     refine AtLoop.mk ⟨Nat × (List Bool) × Int, fun x => [(2, (iS v6)), (3, (.v (.slice a8 ((List.map D.bool x.2.1).length) c8))), (4, (.loc 0 0)), (5, (.loc 1 0)), (8, (iS x.2.2))], fun x => ⟨[.cells 103 [(.v (.slice a2 ((List.map D.bool v1.opn).length) c2)), (.v (.slice a3 ((List.map D.bool v1.known).length) c3))], .cells 47 [(iS v4.op), (iS v4.hd), (iS v4.n), (.v (.slice a5 ((Tm.encL v4.args).length) c5))]], [⟨.slice a8 ((List.map D.bool x.2.1).length) c8, 1, 4, (List.map D.bool x.2.1)⟩], [(.slice a2 ((List.map D.bool v1.opn).length) c2, .sl 1 (List.map D.bool v1.opn)), (.slice a3 ((List.map D.bool v1.known).length) c3, .sl 1 (List.map D.bool v1.known)), (.slice a5 ((Tm.encL v4.args).length) c5, .sl 4 (Tm.encL v4.args))]⟩, fun x => x.1 ≤ N ∧ R14_State_strict_L1 x.1 v4 v1 v6 v7 x.2.1 x.2.2 = some r, fun x => x.1, (n, v7, 0), ⟨by omega, hr⟩, ⟨rfl, rfl, rfl, rfl, rfl, trivial⟩, (StLe.gen 2 [.old 0] [.old 0, .old 1, .old 2] rfl rfl rfl rfl rfl rfl rfl), fun x _ => ⟨rfl, rfl⟩, ?_⟩
     rintro ⟨n, v95, v96⟩ HH
     obtain ⟨hn, hr⟩ : n ≤ N ∧ R14_State_strict_L1 n v4 v1 v6 v7 v95 v96 = some r := HH
     rcases n with _ | n
     ·exact qg hr
     rw [R14_State_strict_L1.eq_2] at hr
     refine AtIf.mk (fun h97 => ?_) (fun h97 => ?_)
     ·replace hr := qf h97 hr
      obtain ⟨v98, h99, hr⟩ := bind_some hr
      obtain ⟨h100, h101⟩ := qh h99
      refine qd ttOK 2 rfl rfl rfl rfl h100 (Tm.encL_get h101) ?_
      intro a102 c102 _ _
      obtain ⟨v103, h104, hr⟩ := bind_some hr
      refine (ih n (by omega) v1 v98 v6 v95 a2 c2 a3 c3 a102 c102 a8 c8 _ h104).frameRA [] [0] [0, 1, 3] rfl rfl rfl rfl rfl rfl rfl rfl rfl ?_
      rintro _ _ ⟨h105, rfl, rfl⟩
      refine ⟨rfl, [], rfl, ?_⟩
      try dsimp only
      rw [show (List.map D.bool v103).length = (List.map D.bool v95).length by simp [h105]]
      obtain ⟨m106, h107⟩ : ∃ m106, m106 = (List.map D.bool v95).length := ⟨_, rfl⟩
      rw [← h107]
      obtain rfl : m106 = (List.map D.bool v103).length := by rw [h107]; simp [h105]
      exact ⟨(n, v103, (IntKind.i64.wrap (v96 + 1))), ⟨by omega, hr⟩, Nat.lt_succ_self _, ⟨rfl, rfl, rfl, rfl, rfl, trivial⟩, (StLe.gen 2 [.old 0] [.old 0, .old 1, .old 2] rfl rfl rfl rfl rfl rfl rfl)⟩
     ·replace hr := qe h97 hr
      obtain ⟨h108, hr⟩ := qk hr
      replace hr := osi hr; subst hr
      exact AtRet.gen ⟨[], [⟨.slice a8 ((List.map D.bool v95).length) c8, 1, 4, (List.map D.bool v95)⟩], []⟩ (StLe.gen 0 [.old 0] [] rfl rfl rfl rfl rfl rfl rfl) rfl rfl ⟨of_decide_eq_true h108, rfl, rfl⟩
theorem qe0 (n : Nat) (v1 : Sta) (v4 : Tm) (v6 : Int) (v7 : (List Bool)) (a2 : OA) (c2 : Nat) (a3 : OA) (c3 : Nat) (a5 : OA) (c5 : Nat) (a8 : OA) (c8 : Nat) (r : (List Bool)) (hr : R14_State_strict n v1 v4 v6 v7 = some r) : Meets Tryz.prog (.val (.fn (.func 73) [] [])) [(.agg [(.v (.slice a2 ((List.map D.bool v1.opn).length) c2)), (.v (.slice a3 ((List.map D.bool v1.known).length) c3))]), (.agg [(iS v4.op), (iS v4.hd), (iS v4.n), (tU v4.args a5 c5)]), (iS v6), (.v (.slice a8 ((List.map D.bool v7).length) c8))] ⟨[], [⟨.slice a8 ((List.map D.bool v7).length) c8, 1, 4, (List.map D.bool v7)⟩], [(.slice a2 ((List.map D.bool v1.opn).length) c2, .sl 1 (List.map D.bool v1.opn)), (.slice a3 ((List.map D.bool v1.known).length) c3, .sl 1 (List.map D.bool v1.known)), (tQ v4.args a5 c5)]⟩ (fun o S' => r.length = v7.length ∧ o = .ret (.tup []) ∧ S' = ⟨[], [⟨.slice a8 ((List.map D.bool r).length) c8, 1, 4, (List.map D.bool r)⟩], []⟩) := (qei n) n (Nat.le_refl _) v1 v4 v6 v7 a2 c2 a3 c3 a5 c5 a8 c8 r hr
mutual
def R14_State_Learn : Nat → Sta → Md → (List Tm) → Int → Option (Sta)
 | 0, _, _, _, _ => none
 | n + 1, v1, v4, v6, v8 =>
  (R14_State_First n v1 ((List.map D.bool v1.opn).length : Int)).bind (fun v9 =>
  R14_State_Learn_L1 n v6 v4 v8 v1 v9 0)
def R14_State_Learn_L1 : Nat → (List Tm) → Md → Int → Sta → Sta → Int → Option (Sta)
 | 0, _, _, _, _, _, _ => none
 | n + 1, v6, v4, v8, v1, v29, v32 =>
  cond (decide (v32 < ((Tm.encL v6).length : Int))) (
  (idx v4.signs v32).bind (fun v34 =>
  cond (v34 == v8) (
  (idx v6 v32).bind (fun v39 =>
  (R14_State_strict n v1 v39 0 v29.known).bind (fun v44 =>
  R14_State_Learn_L1 n v6 v4 v8 v1 (Sta.mk v29.opn v44) (IntKind.i64.wrap (v32 + 1))))) (
  R14_State_Learn_L1 n v6 v4 v8 v1 v29 (IntKind.i64.wrap (v32 + 1))))) (
  some (v29))
 end
theorem qcp (n : Nat) (v1 : Sta) (v4 : Md) (v6 : (List Tm)) (v8 : Int) (a2 : OA) (c2 : Nat) (a3 : OA) (c3 : Nat) (a5 : OA) (c5 : Nat) (a7 : OA) (c7 : Nat) (r : Sta) (hr : R14_State_Learn n v1 v4 v6 v8 = some r) : Meets Tryz.prog (.val (.fn (.func 102) [] [])) [(.agg [(.v (.slice a2 ((List.map D.bool v1.opn).length) c2)), (.v (.slice a3 ((List.map D.bool v1.known).length) c3))]), (.agg [(iS v4.family), (.v (.slice a5 ((List.map (D.int .i64) v4.signs).length) c5))]), (.v (.slice a7 ((Tm.encL v6).length) c7)), (iS v8)] ⟨[], [], [(.slice a2 ((List.map D.bool v1.opn).length) c2, .sl 1 (List.map D.bool v1.opn)), (.slice a3 ((List.map D.bool v1.known).length) c3, .sl 1 (List.map D.bool v1.known)), (.slice a5 ((List.map (D.int .i64) v4.signs).length) c5, .sl 1 (List.map (D.int .i64) v4.signs)), (.slice a7 ((Tm.encL v6).length) c7, .sl 4 (Tm.encL v6))]⟩ (fun o S' => ∃ (b1 : OA) (d1 : Nat), ∃ (b2 : OA) (d2 : Nat), o = .ret (.agg [(.v (.slice b1 ((List.map D.bool r.opn).length) d1)), (.v (.slice b2 ((List.map D.bool r.known).length) d2))]) ∧ S' = ⟨[], [⟨.slice b2 ((List.map D.bool r.known).length) d2, 1, 4, (List.map D.bool r.known)⟩], [(.slice b1 ((List.map D.bool r.opn).length) d1, .sl 1 (List.map D.bool r.opn))]⟩) := by
 rcases n with _ | n
 ·exact qg hr
 rw [R14_State_Learn.eq_2] at hr
 refine qb (N := 38) (m := 0) (dt := drawsOf [(6, .node [0, 1, 2, 3, 4, 5, 6] [(7, .leaf [])], [7], [])]) [] ttOK func102 rfl call102 ntmps102 rfl rfl rfl mixed (by kernel_rfl) ?_
 obtain ⟨v9, h10, hr⟩ := bind_some hr
 refine (qah n v1 ((List.map D.bool v1.opn).length : Int) a2 c2 a3 c3 _ h10).frameRA [] [] [0, 1] rfl rfl rfl rfl rfl rfl rfl rfl rfl ?_
 rintro _ _ ⟨a11, c11, a12, c12, rfl, rfl⟩
 refine ⟨rfl, [], rfl, ?_⟩
 refine AtLoop.mk ⟨Nat × Sta × Option Addr × Nat × Option Addr × Nat × Int, fun x => [(2, (.v (.slice a7 ((Tm.encL v6).length) c7))), (3, (iS v8)), (4, (.loc 0 0)), (5, (.loc 1 0)), (8, (.loc 2 0)), (9, (.loc 3 0)), (10, (iS x.2.2.2.2.2.2))], fun x => ⟨[.cells 103 [(.v (.slice a2 ((List.map D.bool v1.opn).length) c2)), (.v (.slice a3 ((List.map D.bool v1.known).length) c3))], .cells 31 [(iS v4.family), (.v (.slice a5 ((List.map (D.int .i64) v4.signs).length) c5))], .cells 103 [(.v (.slice none 0 0)), (.v (.slice none 0 0))], .cells 103 [(.v (.slice x.2.2.1 ((List.map D.bool x.2.1.opn).length) x.2.2.2.1)), (.v (.slice x.2.2.2.2.1 ((List.map D.bool x.2.1.known).length) x.2.2.2.2.2.1))]], [⟨.slice x.2.2.1 ((List.map D.bool x.2.1.opn).length) x.2.2.2.1, 1, 4, (List.map D.bool x.2.1.opn)⟩, ⟨.slice x.2.2.2.2.1 ((List.map D.bool x.2.1.known).length) x.2.2.2.2.2.1, 1, 4, (List.map D.bool x.2.1.known)⟩], [(.slice a2 ((List.map D.bool v1.opn).length) c2, .sl 1 (List.map D.bool v1.opn)), (.slice a3 ((List.map D.bool v1.known).length) c3, .sl 1 (List.map D.bool v1.known)), (.slice a5 ((List.map (D.int .i64) v4.signs).length) c5, .sl 1 (List.map (D.int .i64) v4.signs)), (.slice a7 ((Tm.encL v6).length) c7, .sl 4 (Tm.encL v6))]⟩, fun x => R14_State_Learn_L1 x.1 v6 v4 v8 v1 x.2.1 x.2.2.2.2.2.2 = some r, fun x => x.1, (n, v9, a11, c11, a12, c12, 0), hr, ⟨rfl, rfl, rfl, rfl, rfl, rfl, rfl, trivial⟩, (StLe.gen 4 [.old 0, .old 1] [.old 0, .old 1, .old 2, .old 3] rfl rfl rfl rfl rfl rfl rfl), fun x _ => ⟨rfl, rfl⟩, ?_⟩
 rintro ⟨n, v29, a30, c30, a31, c31, v32⟩ HH
 have hr : R14_State_Learn_L1 n v6 v4 v8 v1 v29 v32 = some r := HH
 rcases n with _ | n
 ·exact qg hr
 rw [R14_State_Learn_L1.eq_2] at hr
 refine AtIf.mk (fun h33 => ?_) (fun h33 => ?_)
 ·replace hr := qf h33 hr
  obtain ⟨v34, h35, hr⟩ := bind_some hr
  obtain ⟨h36, h37⟩ := qh h35
  refine qd ttOK 2 rfl rfl rfl rfl h36 (qx (D.int .i64) h37) ?_
  refine AtIf.mk (fun h38 => ?_) (fun h38 => ?_)
  ·replace hr := qf h38 hr
   obtain ⟨v39, h40, hr⟩ := bind_some hr
   obtain ⟨h41, h42⟩ := qh h40
   refine qd ttOK 3 rfl rfl rfl rfl h41 (Tm.encL_get h42) ?_
   intro a43 c43 _ _
   obtain ⟨v44, h45, hr⟩ := bind_some hr
   refine (qe0 n v1 v39 0 v29.known a2 c2 a3 c3 a43 c43 a31 c31 _ h45).frameRA [] [1] [0, 1, 4] rfl rfl rfl rfl rfl rfl rfl rfl rfl ?_
   rintro _ _ ⟨h46, rfl, rfl⟩
   refine ⟨rfl, [], rfl, ?_⟩
   try dsimp only
   rw [show (List.map D.bool v44).length = (List.map D.bool v29.known).length by simp [h46]]
   obtain ⟨m47, h48⟩ : ∃ m47, m47 = (List.map D.bool v29.known).length := ⟨_, rfl⟩
   rw [← h48]
   obtain rfl : m47 = (List.map D.bool v44).length := by rw [h48]; simp [h46]
   exact ⟨(n, (Sta.mk v29.opn v44), a30, c30, a31, c31, (IntKind.i64.wrap (v32 + 1))), hr, Nat.lt_succ_self _, ⟨rfl, rfl, rfl, rfl, rfl, rfl, rfl, trivial⟩, (StLe.gen 4 [.old 1, .old 0] [.old 0, .old 1, .old 2, .old 3] rfl rfl rfl rfl rfl rfl rfl)⟩
  ·replace hr := qe h38 hr
   exact ⟨(n, v29, a30, c30, a31, c31, (IntKind.i64.wrap (v32 + 1))), hr, Nat.lt_succ_self _, ⟨rfl, rfl, rfl, rfl, rfl, rfl, rfl, trivial⟩, (StLe.gen 4 [.old 0, .old 1] [.old 0, .old 1, .old 2, .old 3] rfl rfl rfl rfl rfl rfl rfl)⟩
 ·replace hr := qe h33 hr
  replace hr := osi hr; subst hr
  exact AtRet.gen ⟨[], [⟨.slice a31 ((List.map D.bool v29.known).length) c31, 1, 4, (List.map D.bool v29.known)⟩], [(.slice a30 ((List.map D.bool v29.opn).length) c30, .sl 1 (List.map D.bool v29.opn))]⟩ (StLe.gen 0 [.old 1] [.froz 0] rfl rfl rfl rfl rfl rfl rfl) rfl rfl ⟨a30, c30, a31, c31, rfl, rfl⟩
mutual
def R14_Find : Nat → (List Md) → Int → Option (Int)
 | 0, _, _ => none
 | n + 1, v1, v3 =>
  R14_Find_L1 n v1 v3 0
def R14_Find_L1 : Nat → (List Md) → Int → Int → Option (Int)
 | 0, _, _, _ => none
 | n + 1, v1, v3, v11 =>
  cond (decide (v11 < ((Md.encL v1).length : Int))) (
  (idx v1 v11).bind (fun v13 =>
  cond (v13.family == v3) (
  some (v11)) (
  R14_Find_L1 n v1 v3 (IntKind.i64.wrap (v11 + 1))))) (
  some ((-1)))
 end
theorem qdw (n : Nat) (v1 : (List Md)) (v3 : Int) (a2 : OA) (c2 : Nat) (r : Int) (hr : R14_Find n v1 v3 = some r) : Pure Tryz.prog (.val (.fn (.func 57) [] [])) [(.v (.slice a2 ((Md.encL v1).length) c2)), (iS v3)] [(.slice a2 ((Md.encL v1).length) c2, .sl 2 (Md.encL v1))] (fun r' out => r' = (iS r) ∧ out = []) := by
 rcases n with _ | n
 ·exact qg hr
 rw [R14_Find.eq_2] at hr
 refine qb (N := 20) (m := 0) (dt := fun _ => none) [] ttOK func57 rfl call57 ntmps57 rfl rfl rfl mixed (by kernel_rfl) ?_
 refine AtLoop.mk ⟨Nat × Int, fun x => [(0, (.v (.slice a2 ((Md.encL v1).length) c2))), (1, (iS v3)), (5, (iS x.2))], fun x => ⟨[], [], [(.slice a2 ((Md.encL v1).length) c2, .sl 2 (Md.encL v1))]⟩, fun x => R14_Find_L1 x.1 v1 v3 x.2 = some r, fun x => x.1, (n, 0), hr, ⟨rfl, rfl, rfl, trivial⟩, (StLe.gen 0 [] [.old 0] rfl rfl rfl rfl rfl rfl rfl), fun x _ => ⟨rfl, rfl⟩, ?_⟩
 rintro ⟨n, v11⟩ HH
 have hr : R14_Find_L1 n v1 v3 v11 = some r := HH
 rcases n with _ | n
 ·exact qg hr
 rw [R14_Find_L1.eq_2] at hr
 refine AtIf.mk (fun h12 => ?_) (fun h12 => ?_)
 ·replace hr := qf h12 hr
  obtain ⟨v13, h14, hr⟩ := bind_some hr
  obtain ⟨h15, h16⟩ := qh h14
  refine qd ttOK 0 rfl rfl rfl rfl h15 (Md.encL_get h16) ?_
  intro a17 c17 _ _
  refine AtIf.mk (fun h18 => ?_) (fun h18 => ?_)
  ·replace hr := qf h18 hr
   replace hr := osi hr; subst hr
   exact qa [] [] rfl rfl ⟨rfl, rfl⟩
  ·replace hr := qe h18 hr
   exact ⟨(n, (IntKind.i64.wrap (v11 + 1))), hr, Nat.lt_succ_self _, ⟨rfl, rfl, rfl, trivial⟩, (StLe.gen 0 [] [.old 0] rfl rfl rfl rfl rfl rfl rfl)⟩
 ·replace hr := qe h12 hr
  replace hr := osi hr; subst hr
  exact qa [] [] rfl rfl ⟨rfl, rfl⟩
mutual
def R14_Use : Nat → (List Md) → Sta → Tm → Option (Sta × Bool × Int)
 | 0, _, _, _ => none
 | n + 1, v1, v3, v6 =>
  cond (v6.op == 2) (
  (idx v6.args 0).bind (fun v9 =>
  (R14_Assume n v1 v3 v9).bind (fun v14 =>
  cond (!v14.2.2) (
  some (v3, false, v14.2.1)) (
  (idx v6.args 1).bind (fun v17 =>
  (R14_State_With n v3 false).bind (fun v22 =>
  (R14_Use n v1 v22 v17).bind (fun v26 =>
  (R14_State_First n v26.1 ((List.map D.bool v3.opn).length : Int)).bind (fun v35 =>
  some (v35, v26.2.1, v26.2.2))))))))) (
  (R14_Find n v1 v6.n).bind (fun v45 =>
  cond (decide (v45 < 0)) (
  some (v3, false, (-1))) (
  (idx v1 v45).bind (fun v48 =>
  (R14_State_unknown n v3 v48 v6.args 1).bind (fun v53 =>
  cond (decide (v53 ≥ 0)) (
  some (v3, false, v53)) (
  (idx v1 v45).bind (fun v56 =>
  (R14_State_Learn n v3 v56 v6.args 2).bind (fun v61 =>
  some (v61, true, 0)))))))))
def R14_Assume : Nat → (List Md) → Sta → Tm → Option (Int × Int × Bool)
 | 0, _, _, _ => none
 | n + 1, v1, v3, v6 =>
  (R03_Split n v6).bind (fun v8 =>
  (R14_Find n v1 v8.2.n).bind (fun v12 =>
  cond (decide (v12 < 0)) (
  some (0, 0, true)) (
  (R14_Dependent n v6).bind (fun v15 =>
  R14_Assume_L1 n v8 v15 v1 v12 v3 v3 0))))
def R14_Assume_L2 : Nat → (List Bool) → ((List Tm) × Tm) → Sta → (List Md) → Int → Sta → Int → Option (Int × Int × Bool)
 | 0, _, _, _, _, _, _, _ => none
 | n + 1, v15, v8, v3, v1, v12, v85, v88 =>
  cond (decide (v88 ≥ 0)) (
  (idx v15 v88).bind (fun v91 =>
  cond v91 (
  R14_Assume_L2 n v15 v8 v3 v1 v12 v85 (IntKind.i64.wrap (v88 - 1))) (
  (idx v8.1 v88).bind (fun v96 =>
  (R14_State_First n v85 (IntKind.i64.wrap (((List.map D.bool v3.opn).length : Int) + v88))).bind (fun v101 =>
  (R14_Use n v1 v101 v96).bind (fun v105 =>
  cond (!v105.2.1) (
  some (v88, v105.2.2, false)) (
  R14_Assume_L2 n v15 v8 v3 v1 v12 (Sta.mk v85.opn (copyL v105.1.known v85.known)) (IntKind.i64.wrap (v88 - 1))))))))) (
  (idx v1 v12).bind (fun v123 =>
  (R14_State_unknown n v85 v123 v8.2.args 2).bind (fun v128 =>
  cond (decide (v128 ≥ 0)) (
  some ((-1), v128, false)) (
  some (0, 0, true)))))
def R14_Assume_L1 : Nat → ((List Tm) × Tm) → (List Bool) → (List Md) → Int → Sta → Sta → Int → Option (Int × Int × Bool)
 | 0, _, _, _, _, _, _, _ => none
 | n + 1, v8, v15, v1, v12, v3, v27, v30 =>
  cond (decide (v30 < ((Tm.encL v8.1).length : Int))) (
  (idx v15 v30).bind (fun v32 =>
  (R14_State_With n v27 v32).bind (fun v36 =>
  R14_Assume_L1 n v8 v15 v1 v12 v3 v36 (IntKind.i64.wrap (v30 + 1))))) (
  (idx v1 v12).bind (fun v40 =>
  (R14_State_Learn n v27 v40 v8.2.args 1).bind (fun v45 =>
  R14_Assume_L2 n v15 v8 v3 v1 v12 v45 (IntKind.i64.wrap (((Tm.encL v8.1).length : Int) - 1)))))
 end
theorem qm2 : ∀ (N : Nat), (∀ (n : Nat), n ≤ N → ∀ (v1 : (List Md)) (v3 : Sta) (v6 : Tm) (a2 : OA) (c2 : Nat) (a4 : OA) (c4 : Nat) (a5 : OA) (c5 : Nat) (a7 : OA) (c7 : Nat) (r : Sta × Bool × Int), R14_Use n v1 v3 v6 = some r → Pure Tryz.prog (.val (.fn (.func 103) [] [])) [(.v (.slice a2 ((Md.encL v1).length) c2)), (.agg [(.v (.slice a4 ((List.map D.bool v3.opn).length) c4)), (.v (.slice a5 ((List.map D.bool v3.known).length) c5))]), (.agg [(iS v6.op), (iS v6.hd), (iS v6.n), (.v (.slice a7 ((Tm.encL v6.args).length) c7))])] [(.slice a2 ((Md.encL v1).length) c2, .sl 2 (Md.encL v1)), (.slice a4 ((List.map D.bool v3.opn).length) c4, .sl 1 (List.map D.bool v3.opn)), (.slice a5 ((List.map D.bool v3.known).length) c5, .sl 1 (List.map D.bool v3.known)), (.slice a7 ((Tm.encL v6.args).length) c7, .sl 4 (Tm.encL v6.args))] (fun r' out => ∃ (b1 : OA) (d1 : Nat), ∃ (b2 : OA) (d2 : Nat), r' = (.tup [(.agg [(.v (.slice b1 ((List.map D.bool r.1.opn).length) d1)), (.v (.slice b2 ((List.map D.bool r.1.known).length) d2))]), (bS r.2.1), (iS r.2.2)]) ∧ out = [(.slice b1 ((List.map D.bool r.1.opn).length) d1, .sl 1 (List.map D.bool r.1.opn)), (.slice b2 ((List.map D.bool r.1.known).length) d2, .sl 1 (List.map D.bool r.1.known))])) ∧ (∀ (n : Nat), n ≤ N → ∀ (v1 : (List Md)) (v3 : Sta) (v6 : Tm) (a2 : OA) (c2 : Nat) (a4 : OA) (c4 : Nat) (a5 : OA) (c5 : Nat) (a7 : OA) (c7 : Nat) (r : Int × Int × Bool), R14_Assume n v1 v3 v6 = some r → Pure Tryz.prog (.val (.fn (.func 58) [] [])) [(.v (.slice a2 ((Md.encL v1).length) c2)), (.agg [(.v (.slice a4 ((List.map D.bool v3.opn).length) c4)), (.v (.slice a5 ((List.map D.bool v3.known).length) c5))]), (.agg [(iS v6.op), (iS v6.hd), (iS v6.n), (.v (.slice a7 ((Tm.encL v6.args).length) c7))])] [(.slice a2 ((Md.encL v1).length) c2, .sl 2 (Md.encL v1)), (.slice a4 ((List.map D.bool v3.opn).length) c4, .sl 1 (List.map D.bool v3.opn)), (.slice a5 ((List.map D.bool v3.known).length) c5, .sl 1 (List.map D.bool v3.known)), (.slice a7 ((Tm.encL v6.args).length) c7, .sl 4 (Tm.encL v6.args))] (fun r' out => r' = (.tup [(iS r.1), (iS r.2.1), (bS r.2.2)]) ∧ out = [])) := by
 intro N
 induction N with
 | zero =>
  refine ⟨?_, ?_⟩
  ·intro n hn v1 v3 v6 a2 c2 a4 c4 a5 c5 a7 c7 r hr; obtain rfl : n = 0 := (by omega); exact qg hr
  ·intro n hn v1 v3 v6 a2 c2 a4 c4 a5 c5 a7 c7 r hr; obtain rfl : n = 0 := (by omega); exact qg hr
 | succ N ih =>
  obtain ⟨ih1, ih2⟩ := ih
  refine ⟨?_, ?_⟩
  ·
   intro n hn v1 v3 v6 a2 c2 a4 c4 a5 c5 a7 c7 r hr
   rcases n with _ | n
   ·exact qg hr
   replace hn : n ≤ N := by omega
   rw [R14_Use.eq_2] at hr
   refine qb (N := 81) (m := 0) (dt := drawsOf [(2, .node [0, 1, 2, 3, 4, 5] [(6, .leaf [7, 8, 9, 10, 11, 12, 13])], [6], []), (5, .node [0, 1, 3, 4, 5, 6] [(2, .node [] [(7, .node [8, 9, 10, 11] [(12, .node [] [(13, .leaf [14, 15])])]), (12, .node [] [(7, .node [8, 9, 10, 11] [(13, .leaf [14, 15])])])]), (12, .node [] [(2, .node [] [(7, .node [8, 9, 10, 11] [(13, .leaf [14, 15])])])])], [7], [5]), (10, .node [0, 1, 2, 3, 4, 5, 6] [(7, .leaf [8])], [7], []), (13, .node [0, 1, 2, 3, 4, 5, 6] [(7, .node [] [(8, .leaf [9, 10])])], [7, 8], [])]) [] ttOK func103 rfl call103 ntmps103 rfl rfl rfl mixed (by kernel_rfl) ?_
   refine AtIf.mk (fun h8 => ?_) (fun h8 => ?_)
   ·replace hr := qf h8 hr
    obtain ⟨v9, h10, hr⟩ := bind_some hr
    obtain ⟨h11, h12⟩ := qh h10
    refine qd ttOK 3 rfl rfl rfl rfl h11 (Tm.encL_get h12) ?_
    intro a13 c13 _ _
    obtain ⟨v14, h15, hr⟩ := bind_some hr
    refine (ih2 n (by omega) v1 v3 v9 a2 c2 a4 c4 a5 c5 a13 c13 _ h15).atR [0, 1, 2, 4] rfl rfl rfl ?_
    rintro _ _ ⟨rfl, rfl⟩
    refine AtIf.mk (fun h16 => ?_) (fun h16 => ?_)
    ·replace hr := qf h16 hr
     replace hr := osi hr; subst hr
     exact qa [.old 1, .old 2] [(.slice a4 ((List.map D.bool v3.opn).length) c4, .sl 1 (List.map D.bool v3.opn)), (.slice a5 ((List.map D.bool v3.known).length) c5, .sl 1 (List.map D.bool v3.known))] rfl rfl ⟨a4, c4, a5, c5, rfl, rfl⟩
    ·replace hr := qe h16 hr
     obtain ⟨v17, h18, hr⟩ := bind_some hr
     obtain ⟨h19, h20⟩ := qh h18
     obtain ⟨v22, h23, hr⟩ := bind_some hr
     obtain ⟨v26, h27, hr⟩ := bind_some hr
     refine qd ttOK 3 rfl rfl rfl rfl h19 (Tm.encL_get h20) ?_
     intro a30 c30 _ _
     refine ⟨?_, ?_⟩
     ·
      refine (qbt n v3 false a4 c4 a5 c5 _ h23).atR [1, 2] rfl rfl rfl ?_
      rintro _ _ ⟨a31, c31, a32, c32, rfl, rfl⟩
      refine ⟨fun _ _ h => h, ?_⟩
      refine ⟨?_, ?_⟩
      ·
       refine (ih1 n (by omega) v1 v22 v17 a2 c2 a31 c31 a32 c32 a30 c30 _ h27).atR [0, 6, 7, 5] rfl rfl rfl ?_
       rintro _ _ ⟨a33, c33, a34, c34, rfl, rfl⟩
       refine ⟨OwnKeptBut.append, ?_⟩
       refine ⟨fun _ _ h => h, ?_⟩
       obtain ⟨v35, h36, hr⟩ := bind_some hr
       refine (qah n v26.1 ((List.map D.bool v3.opn).length : Int) a33 c33 a34 c34 _ h36).frameRA [] [] [8, 9] rfl rfl rfl rfl rfl rfl rfl rfl rfl ?_
       rintro _ _ ⟨a37, c37, a38, c38, rfl, rfl⟩
       refine ⟨rfl, [], rfl, ?_⟩
       replace hr := osi hr; subst hr
       exact qa [.froz 0, .froz 1] [(.slice a37 ((List.map D.bool v35.opn).length) c37, .sl 1 (List.map D.bool v35.opn)), (.slice a38 ((List.map D.bool v35.known).length) c38, .sl 1 (List.map D.bool v35.known))] rfl rfl ⟨a37, c37, a38, c38, rfl, rfl⟩
      ·
       refine ⟨OwnKeptBut.append, ?_⟩
       refine (ih1 n (by omega) v1 v22 v17 a2 c2 a31 c31 a32 c32 a30 c30 _ h27).atR [0, 6, 7, 5] rfl rfl rfl ?_
       rintro _ _ ⟨a39, c39, a40, c40, rfl, rfl⟩
       refine ⟨fun _ _ h => h, ?_⟩
       obtain ⟨v35, h36, hr⟩ := bind_some hr
       refine (qah n v26.1 ((List.map D.bool v3.opn).length : Int) a39 c39 a40 c40 _ h36).frameRA [] [] [8, 9] rfl rfl rfl rfl rfl rfl rfl rfl rfl ?_
       rintro _ _ ⟨a37, c37, a38, c38, rfl, rfl⟩
       refine ⟨rfl, [], rfl, ?_⟩
       replace hr := osi hr; subst hr
       exact qa [.froz 0, .froz 1] [(.slice a37 ((List.map D.bool v35.opn).length) c37, .sl 1 (List.map D.bool v35.opn)), (.slice a38 ((List.map D.bool v35.known).length) c38, .sl 1 (List.map D.bool v35.known))] rfl rfl ⟨a37, c37, a38, c38, rfl, rfl⟩
     ·
      refine ⟨OwnKeptBut.append, ?_⟩
      refine (qbt n v3 false a4 c4 a5 c5 _ h23).atR [1, 2] rfl rfl rfl ?_
      rintro _ _ ⟨a41, c41, a42, c42, rfl, rfl⟩
      refine ⟨fun _ _ h => h, ?_⟩
      refine (ih1 n (by omega) v1 v22 v17 a2 c2 a41 c41 a42 c42 a30 c30 _ h27).atR [0, 6, 7, 5] rfl rfl rfl ?_
      rintro _ _ ⟨a43, c43, a44, c44, rfl, rfl⟩
      refine ⟨fun _ _ h => h, ?_⟩
      obtain ⟨v35, h36, hr⟩ := bind_some hr
      refine (qah n v26.1 ((List.map D.bool v3.opn).length : Int) a43 c43 a44 c44 _ h36).frameRA [] [] [8, 9] rfl rfl rfl rfl rfl rfl rfl rfl rfl ?_
      rintro _ _ ⟨a37, c37, a38, c38, rfl, rfl⟩
      refine ⟨rfl, [], rfl, ?_⟩
      replace hr := osi hr; subst hr
      exact qa [.froz 0, .froz 1] [(.slice a37 ((List.map D.bool v35.opn).length) c37, .sl 1 (List.map D.bool v35.opn)), (.slice a38 ((List.map D.bool v35.known).length) c38, .sl 1 (List.map D.bool v35.known))] rfl rfl ⟨a37, c37, a38, c38, rfl, rfl⟩
   ·replace hr := qe h8 hr
    obtain ⟨v45, h46, hr⟩ := bind_some hr
    refine (qdw n v1 v6.n a2 c2 _ h46).atR [0] rfl rfl rfl ?_
    rintro _ _ ⟨rfl, rfl⟩
    refine AtIf.mk (fun h47 => ?_) (fun h47 => ?_)
    ·replace hr := qf h47 hr
     replace hr := osi hr; subst hr
     exact qa [.old 1, .old 2] [(.slice a4 ((List.map D.bool v3.opn).length) c4, .sl 1 (List.map D.bool v3.opn)), (.slice a5 ((List.map D.bool v3.known).length) c5, .sl 1 (List.map D.bool v3.known))] rfl rfl ⟨a4, c4, a5, c5, rfl, rfl⟩
    ·replace hr := qe h47 hr
     obtain ⟨v48, h49, hr⟩ := bind_some hr
     obtain ⟨h50, h51⟩ := qh h49
     refine qd ttOK 0 rfl rfl rfl rfl h50 (Md.encL_get h51) ?_
     intro a52 c52 _ _
     obtain ⟨v53, h54, hr⟩ := bind_some hr
     refine (qb3 n v3 v48 v6.args 1 a4 c4 a5 c5 a52 c52 a7 c7 _ h54).atR [1, 2, 4, 3] rfl rfl rfl ?_
     rintro _ _ ⟨rfl, rfl⟩
     refine AtIf.mk (fun h55 => ?_) (fun h55 => ?_)
     ·replace hr := qf h55 hr
      replace hr := osi hr; subst hr
      exact qa [.old 1, .old 2] [(.slice a4 ((List.map D.bool v3.opn).length) c4, .sl 1 (List.map D.bool v3.opn)), (.slice a5 ((List.map D.bool v3.known).length) c5, .sl 1 (List.map D.bool v3.known))] rfl rfl ⟨a4, c4, a5, c5, rfl, rfl⟩
     ·replace hr := qe h55 hr
      obtain ⟨v56, h57, hr⟩ := bind_some hr
      obtain ⟨h58, h59⟩ := qh h57
      refine qd ttOK 0 rfl rfl rfl rfl h58 (Md.encL_get h59) ?_
      intro a60 c60 _ _
      obtain ⟨v61, h62, hr⟩ := bind_some hr
      refine (qcp n v3 v56 v6.args 2 a4 c4 a5 c5 a60 c60 a7 c7 _ h62).frameRA [] [] [1, 2, 5, 3] rfl rfl rfl rfl rfl rfl rfl rfl rfl ?_
      rintro _ _ ⟨a63, c63, a64, c64, rfl, rfl⟩
      refine ⟨rfl, [], rfl, ?_⟩
      replace hr := osi hr; subst hr
      exact qa [.old 6, .froz 0] [(.slice a63 ((List.map D.bool v61.opn).length) c63, .sl 1 (List.map D.bool v61.opn)), (.slice a64 ((List.map D.bool v61.known).length) c64, .sl 1 (List.map D.bool v61.known))] rfl rfl ⟨a63, c63, a64, c64, rfl, rfl⟩
  ·
   intro n hn v1 v3 v6 a2 c2 a4 c4 a5 c5 a7 c7 r hr
   rcases n with _ | n
   ·exact qg hr
   replace hn : n ≤ N := by omega
   rw [R14_Assume.eq_2] at hr
   refine qb (N := 102) (m := 0) (dt := drawsOf [(10, .node [0, 1, 2, 3, 4] [(5, .node [] [(6, .leaf [])])], [5, 6], []), (11, .node [0, 1, 2, 3, 4, 5, 6] [(7, .node [] [(8, .leaf [])])], [7, 8], []), (16, .node [0, 1, 2, 3, 4, 5, 6, 8, 9, 10, 11] [(7, .node [] [(12, .node [13, 14, 15, 16] [(17, .node [] [(18, .leaf [19, 20])])]), (17, .node [] [(12, .node [13, 14, 15, 16] [(18, .leaf [19, 20])])])]), (17, .node [] [(7, .node [] [(12, .node [13, 14, 15, 16] [(18, .leaf [19, 20])])])])], [12], [7]), (20, .node [0, 1, 2, 3, 4, 5, 6] [(7, .leaf [8])], [7], [])]) [] ttOK func58 rfl call58 ntmps58 rfl rfl rfl mixed (by kernel_rfl) ?_
   obtain ⟨v8, h9, hr⟩ := bind_some hr
   refine (qbq n v6 a7 c7 _ h9).atR [3] rfl rfl rfl ?_
   rintro _ _ ⟨a10, c10, a11, c11, rfl, rfl⟩
   obtain ⟨v12, h13, hr⟩ := bind_some hr
   refine (qdw n v1 v8.2.n a2 c2 _ h13).atR [0] rfl rfl rfl ?_
   rintro _ _ ⟨rfl, rfl⟩
   refine AtIf.mk (fun h14 => ?_) (fun h14 => ?_)
   ·replace hr := qf h14 hr
    replace hr := osi hr; subst hr
    exact qa [] [] rfl rfl ⟨rfl, rfl⟩
   ·replace hr := qe h14 hr
    obtain ⟨v15, h16, hr⟩ := bind_some hr
    refine (qdh n v6 a7 c7 _ h16).atR [3] rfl rfl rfl ?_
    rintro _ _ ⟨a17, c17, rfl, rfl⟩
    refine AtLoop.mk ⟨Nat × Sta × Option Addr × Nat × Option Addr × Nat × Int, fun x => [(0, (.v (.slice a2 ((Md.encL v1).length) c2))), (4, (.loc 0 0)), (9, (.v (.slice a10 ((Tm.encL v8.1).length) c10))), (10, (.loc 2 0)), (11, (iS v12)), (12, (.v (.slice a17 ((List.map D.bool v15).length) c17))), (13, (.loc 3 0)), (14, (iS x.2.2.2.2.2.2))], fun x => ⟨[.cells 103 [(.v (.slice a4 ((List.map D.bool v3.opn).length) c4)), (.v (.slice a5 ((List.map D.bool v3.known).length) c5))], .cells 47 [(iS v6.op), (iS v6.hd), (iS v6.n), (.v (.slice a7 ((Tm.encL v6.args).length) c7))], .cells 47 [(iS v8.2.op), (iS v8.2.hd), (iS v8.2.n), (.v (.slice a11 ((Tm.encL v8.2.args).length) c11))], .cells 103 [(.v (.slice x.2.2.1 ((List.map D.bool x.2.1.opn).length) x.2.2.2.1)), (.v (.slice x.2.2.2.2.1 ((List.map D.bool x.2.1.known).length) x.2.2.2.2.2.1))]], [], [(.slice x.2.2.1 ((List.map D.bool x.2.1.opn).length) x.2.2.2.1, .sl 1 (List.map D.bool x.2.1.opn)), (.slice x.2.2.2.2.1 ((List.map D.bool x.2.1.known).length) x.2.2.2.2.2.1, .sl 1 (List.map D.bool x.2.1.known)), (.slice a2 ((Md.encL v1).length) c2, .sl 2 (Md.encL v1)), (.slice a4 ((List.map D.bool v3.opn).length) c4, .sl 1 (List.map D.bool v3.opn)), (.slice a5 ((List.map D.bool v3.known).length) c5, .sl 1 (List.map D.bool v3.known)), (.slice a7 ((Tm.encL v6.args).length) c7, .sl 4 (Tm.encL v6.args)), (.slice a10 ((Tm.encL v8.1).length) c10, .sl 4 (Tm.encL v8.1)), (.slice a11 ((Tm.encL v8.2.args).length) c11, .sl 4 (Tm.encL v8.2.args)), (.slice a17 ((List.map D.bool v15).length) c17, .sl 1 (List.map D.bool v15))]⟩, fun x => x.1 ≤ N ∧ R14_Assume_L1 x.1 v8 v15 v1 v12 v3 x.2.1 x.2.2.2.2.2.2 = some r, fun x => x.1, (n, v3, a4, c4, a5, c5, 0), ⟨by omega, hr⟩, ⟨rfl, rfl, rfl, rfl, rfl, rfl, rfl, rfl, trivial⟩, (StLe.gen 4 [] [.old 1, .old 2, .old 0, .old 1, .old 2, .old 3, .old 4, .old 5, .old 6] rfl rfl rfl rfl rfl rfl rfl), fun x _ => ⟨rfl, rfl⟩, ?_⟩
    rintro ⟨n, v27, a28, c28, a29, c29, v30⟩ HH
    obtain ⟨hn, hr⟩ : n ≤ N ∧ R14_Assume_L1 n v8 v15 v1 v12 v3 v27 v30 = some r := HH
    rcases n with _ | n
    ·exact qg hr
    rw [R14_Assume_L1.eq_2] at hr
    refine AtIf.mk (fun h31 => ?_) (fun h31 => ?_)
    ·replace hr := qf h31 hr
     obtain ⟨v32, h33, hr⟩ := bind_some hr
     obtain ⟨h34, h35⟩ := qh h33
     refine qd ttOK 8 rfl rfl rfl rfl h34 (qx D.bool h35) ?_
     obtain ⟨v36, h37, hr⟩ := bind_some hr
     refine (qbt n v27 v32 a28 c28 a29 c29 _ h37).atR [0, 1] rfl rfl rfl ?_
     rintro _ _ ⟨a38, c38, a39, c39, rfl, rfl⟩
     exact ⟨(n, v36, a38, c38, a39, c39, (IntKind.i64.wrap (v30 + 1))), ⟨by omega, hr⟩, Nat.lt_succ_self _, ⟨rfl, rfl, rfl, rfl, rfl, rfl, rfl, rfl, trivial⟩, (StLe.gen 4 [] [.old 9, .old 10, .old 2, .old 3, .old 4, .old 5, .old 6, .old 7, .old 8] rfl rfl rfl rfl rfl rfl rfl)⟩
    ·replace hr := qe h31 hr
     obtain ⟨v40, h41, hr⟩ := bind_some hr
     obtain ⟨h42, h43⟩ := qh h41
     refine qd ttOK 2 rfl rfl rfl rfl h42 (Md.encL_get h43) ?_
     intro a44 c44 _ _
     obtain ⟨v45, h46, hr⟩ := bind_some hr
     refine (qcp n v27 v40 v8.2.args 1 a28 c28 a29 c29 a44 c44 a11 c11 _ h46).frameRA [] [] [0, 1, 9, 7] rfl rfl rfl rfl rfl rfl rfl rfl rfl ?_
     rintro _ _ ⟨a47, c47, a48, c48, rfl, rfl⟩
     refine ⟨rfl, [], rfl, ?_⟩
     obtain ⟨q89, hq89⟩ : ∃ q, q = n := ⟨_, rfl⟩
     refine AtLoop.mk ⟨Nat × Sta × Option Addr × Nat × Option Addr × Nat × Int, fun x => [(0, (.v (.slice a2 ((Md.encL v1).length) c2))), (4, (.loc 0 0)), (9, (.v (.slice a10 ((Tm.encL v8.1).length) c10))), (10, (.loc 2 0)), (11, (iS v12)), (12, (.v (.slice a17 ((List.map D.bool v15).length) c17))), (13, (.loc 3 0)), (15, (iS x.2.2.2.2.2.2))], fun x => ⟨[.cells 103 [(.v (.slice a4 ((List.map D.bool v3.opn).length) c4)), (.v (.slice a5 ((List.map D.bool v3.known).length) c5))], .cells 47 [(iS v6.op), (iS v6.hd), (iS v6.n), (.v (.slice a7 ((Tm.encL v6.args).length) c7))], .cells 47 [(iS v8.2.op), (iS v8.2.hd), (iS v8.2.n), (.v (.slice a11 ((Tm.encL v8.2.args).length) c11))], .cells 103 [(.v (.slice x.2.2.1 ((List.map D.bool x.2.1.opn).length) x.2.2.2.1)), (.v (.slice x.2.2.2.2.1 ((List.map D.bool x.2.1.known).length) x.2.2.2.2.2.1))], .imm [(iS v40.family), (.v (.slice a44 ((List.map (D.int .i64) v40.signs).length) c44))]], [⟨.slice x.2.2.2.2.1 ((List.map D.bool x.2.1.known).length) x.2.2.2.2.2.1, 1, 4, (List.map D.bool x.2.1.known)⟩], [(.slice x.2.2.1 ((List.map D.bool x.2.1.opn).length) x.2.2.2.1, .sl 1 (List.map D.bool x.2.1.opn)), (.slice a28 ((List.map D.bool v27.opn).length) c28, .sl 1 (List.map D.bool v27.opn)), (.slice a29 ((List.map D.bool v27.known).length) c29, .sl 1 (List.map D.bool v27.known)), (.slice a2 ((Md.encL v1).length) c2, .sl 2 (Md.encL v1)), (.slice a4 ((List.map D.bool v3.opn).length) c4, .sl 1 (List.map D.bool v3.opn)), (.slice a5 ((List.map D.bool v3.known).length) c5, .sl 1 (List.map D.bool v3.known)), (.slice a7 ((Tm.encL v6.args).length) c7, .sl 4 (Tm.encL v6.args)), (.slice a10 ((Tm.encL v8.1).length) c10, .sl 4 (Tm.encL v8.1)), (.slice a11 ((Tm.encL v8.2.args).length) c11, .sl 4 (Tm.encL v8.2.args)), (.slice a17 ((List.map D.bool v15).length) c17, .sl 1 (List.map D.bool v15)), (.slice a44 ((List.map (D.int .i64) v40.signs).length) c44, .sl 1 (List.map (D.int .i64) v40.signs)), (.slice a47 ((List.map D.bool v45.opn).length) c47, .sl 1 (List.map D.bool v45.opn))]⟩, fun x => x.1 ≤ N ∧ x.1 ≤ q89 ∧ R14_Assume_L2 x.1 v15 v8 v3 v1 v12 x.2.1 x.2.2.2.2.2.2 = some r, fun x => x.1, (n, v45, a47, c47, a48, c48, (IntKind.i64.wrap (((Tm.encL v8.1).length : Int) - 1))), ⟨by omega, by omega, hr⟩, ⟨rfl, rfl, rfl, rfl, rfl, rfl, rfl, rfl, trivial⟩, (StLe.gen 5 [.old 0] [.old 10, .old 0, .old 1, .old 2, .old 3, .old 4, .old 5, .old 6, .old 7, .old 8, .old 9, .old 10] rfl rfl rfl rfl rfl rfl rfl), fun x _ => ⟨rfl, rfl⟩, ?_⟩
     rintro ⟨n, v85, a86, c86, a87, c87, v88⟩ HH
     obtain ⟨hn, hbq89, hr⟩ : n ≤ N ∧ n ≤ q89 ∧ R14_Assume_L2 n v15 v8 v3 v1 v12 v85 v88 = some r := HH
     rcases n with _ | n
     ·exact qg hr
     rw [R14_Assume_L2.eq_2] at hr
     refine AtIf.mk (fun h90 => ?_) (fun h90 => ?_)
     ·replace hr := qf h90 hr
      obtain ⟨v91, h92, hr⟩ := bind_some hr
      obtain ⟨h93, h94⟩ := qh h92
      refine qd ttOK 9 rfl rfl rfl rfl h93 (qx D.bool h94) ?_
      refine AtIf.mk (fun h95 => ?_) (fun h95 => ?_)
      ·replace hr := qf h95 hr
       exact ⟨(n, v85, a86, c86, a87, c87, (IntKind.i64.wrap (v88 - 1))), ⟨by omega, by omega, hr⟩, Nat.lt_succ_self _, ⟨rfl, rfl, rfl, rfl, rfl, rfl, rfl, rfl, trivial⟩, (StLe.gen 5 [.old 0] [.old 0, .old 1, .old 2, .old 3, .old 4, .old 5, .old 6, .old 7, .old 8, .old 9, .old 10, .old 11] rfl rfl rfl rfl rfl rfl rfl)⟩
      ·replace hr := qe h95 hr
       obtain ⟨v96, h97, hr⟩ := bind_some hr
       obtain ⟨h98, h99⟩ := qh h97
       obtain ⟨v101, h102, hr⟩ := bind_some hr
       obtain ⟨v105, h106, hr⟩ := bind_some hr
       refine qd ttOK 7 rfl rfl rfl rfl h98 (Tm.encL_get h99) ?_
       intro a109 c109 _ _
       refine ⟨?_, ?_⟩
       ·
        refine (qah n v85 (IntKind.i64.wrap (((List.map D.bool v3.opn).length : Int) + v88)) a86 c86 a87 c87 _ h102).atBL [.old 0, .froz 0] rfl rfl rfl ?_
        rintro _ _ ⟨a110, c110, a111, c111, rfl, rfl⟩
        refine ⟨_, _, rfl, rfl, rfl, by intro a ha; simp only [List.mem_cons, List.not_mem_nil, or_false] at ha; rcases ha with rfl | rfl <;> exact qld _ _ _, ?_⟩
        refine ⟨fun _ _ h => h, ?_⟩
        refine ⟨?_, ?_⟩
        ·
         refine Meets.le (S' := ⟨[.cells 103 [(.v (.slice a4 ((List.map D.bool v3.opn).length) c4)), (.v (.slice a5 ((List.map D.bool v3.known).length) c5))], .cells 47 [(iS v6.op), (iS v6.hd), (iS v6.n), (.v (.slice a7 ((Tm.encL v6.args).length) c7))], .cells 47 [(iS v8.2.op), (iS v8.2.hd), (iS v8.2.n), (.v (.slice a11 ((Tm.encL v8.2.args).length) c11))], .cells 103 [(.v (.slice a86 ((List.map D.bool v85.opn).length) c86)), (.v (.slice a87 ((List.map D.bool v85.known).length) c87))], .imm [(iS v40.family), (.v (.slice a44 ((List.map (D.int .i64) v40.signs).length) c44))], .imm [(bS v91)], .imm [(iS v96.op), (iS v96.hd), (iS v96.n), (.v (.slice a109 ((Tm.encL v96.args).length) c109))]], [⟨.slice a111 ((List.map D.bool v101.known).length) c111, 1, 4, (List.map D.bool v101.known)⟩, ⟨.slice a87 ((List.map D.bool v85.known).length) c87, 1, 4, (List.map D.bool v85.known)⟩], [(.slice a110 ((List.map D.bool v101.opn).length) c110, .sl 1 (List.map D.bool v101.opn)), (.slice a86 ((List.map D.bool v85.opn).length) c86, .sl 1 (List.map D.bool v85.opn)), (.slice a28 ((List.map D.bool v27.opn).length) c28, .sl 1 (List.map D.bool v27.opn)), (.slice a29 ((List.map D.bool v27.known).length) c29, .sl 1 (List.map D.bool v27.known)), (.slice a2 ((Md.encL v1).length) c2, .sl 2 (Md.encL v1)), (.slice a4 ((List.map D.bool v3.opn).length) c4, .sl 1 (List.map D.bool v3.opn)), (.slice a5 ((List.map D.bool v3.known).length) c5, .sl 1 (List.map D.bool v3.known)), (.slice a7 ((Tm.encL v6.args).length) c7, .sl 4 (Tm.encL v6.args)), (.slice a10 ((Tm.encL v8.1).length) c10, .sl 4 (Tm.encL v8.1)), (.slice a11 ((Tm.encL v8.2.args).length) c11, .sl 4 (Tm.encL v8.2.args)), (.slice a17 ((List.map D.bool v15).length) c17, .sl 1 (List.map D.bool v15)), (.slice a44 ((List.map (D.int .i64) v40.signs).length) c44, .sl 1 (List.map (D.int .i64) v40.signs)), (.slice a47 ((List.map D.bool v45.opn).length) c47, .sl 1 (List.map D.bool v45.opn)), (.slice a109 ((Tm.encL v96.args).length) c109, .sl 4 (Tm.encL v96.args))]⟩) (StLe.gen 7 [.old 1, .old 2] [.froz 0, .old 0, .old 1, .old 2, .old 3, .old 4, .old 5, .old 6, .old 7, .old 8, .old 9, .old 10, .old 11, .old 12] rfl rfl rfl rfl rfl rfl rfl) rfl ?_
         refine Meets.le (S' := ⟨[.cells 103 [(.v (.slice a4 ((List.map D.bool v3.opn).length) c4)), (.v (.slice a5 ((List.map D.bool v3.known).length) c5))], .cells 47 [(iS v6.op), (iS v6.hd), (iS v6.n), (.v (.slice a7 ((Tm.encL v6.args).length) c7))], .cells 47 [(iS v8.2.op), (iS v8.2.hd), (iS v8.2.n), (.v (.slice a11 ((Tm.encL v8.2.args).length) c11))], .cells 103 [(.v (.slice a86 ((List.map D.bool v85.opn).length) c86)), (.v (.slice a87 ((List.map D.bool v85.known).length) c87))], .imm [(iS v40.family), (.v (.slice a44 ((List.map (D.int .i64) v40.signs).length) c44))], .imm [(bS v91)], .imm [(iS v96.op), (iS v96.hd), (iS v96.n), (.v (.slice a109 ((Tm.encL v96.args).length) c109))]], [⟨.slice a87 ((List.map D.bool v85.known).length) c87, 1, 4, (List.map D.bool v85.known)⟩], [(.slice a111 ((List.map D.bool v101.known).length) c111, .sl 1 (List.map D.bool v101.known)), (.slice a110 ((List.map D.bool v101.opn).length) c110, .sl 1 (List.map D.bool v101.opn)), (.slice a86 ((List.map D.bool v85.opn).length) c86, .sl 1 (List.map D.bool v85.opn)), (.slice a28 ((List.map D.bool v27.opn).length) c28, .sl 1 (List.map D.bool v27.opn)), (.slice a29 ((List.map D.bool v27.known).length) c29, .sl 1 (List.map D.bool v27.known)), (.slice a2 ((Md.encL v1).length) c2, .sl 2 (Md.encL v1)), (.slice a4 ((List.map D.bool v3.opn).length) c4, .sl 1 (List.map D.bool v3.opn)), (.slice a5 ((List.map D.bool v3.known).length) c5, .sl 1 (List.map D.bool v3.known)), (.slice a7 ((Tm.encL v6.args).length) c7, .sl 4 (Tm.encL v6.args)), (.slice a10 ((Tm.encL v8.1).length) c10, .sl 4 (Tm.encL v8.1)), (.slice a11 ((Tm.encL v8.2.args).length) c11, .sl 4 (Tm.encL v8.2.args)), (.slice a17 ((List.map D.bool v15).length) c17, .sl 1 (List.map D.bool v15)), (.slice a44 ((List.map (D.int .i64) v40.signs).length) c44, .sl 1 (List.map (D.int .i64) v40.signs)), (.slice a47 ((List.map D.bool v45.opn).length) c47, .sl 1 (List.map D.bool v45.opn)), (.slice a109 ((Tm.encL v96.args).length) c109, .sl 4 (Tm.encL v96.args))]⟩) (StLe.gen 7 [.old 1] [.froz 0, .old 0, .old 1, .old 2, .old 3, .old 4, .old 5, .old 6, .old 7, .old 8, .old 9, .old 10, .old 11, .old 12, .old 13] rfl rfl rfl rfl rfl rfl rfl) rfl ?_
         refine (ih1 n (by omega) v1 v101 v96 a2 c2 a110 c110 a111 c111 a109 c109 _ h106).atR [5, 1, 0, 14] rfl rfl rfl ?_
         rintro _ _ ⟨a112, c112, a113, c113, rfl, rfl⟩
         refine ⟨OwnKeptBut.append, ?_⟩
         refine ⟨fun _ _ h => h, ?_⟩
         refine AtIf.mk (fun h114 => ?_) (fun h114 => ?_)
         ·replace hr := qf h114 hr
          replace hr := osi hr; subst hr
          exact qa [] [] rfl rfl ⟨rfl, rfl⟩
         ·replace hr := qe h114 hr
          obtain ⟨m115, h116⟩ : ∃ m115, m115 = (List.map D.bool v85.known).length := ⟨_, rfl⟩
          try dsimp only
          rw [← h116]
          refine at_copy (ds' := List.map D.bool (copyL v105.1.known v85.known)) ttOK 0 16 rfl rfl rfl rfl rfl rfl (qik ..) ?_
          obtain rfl : m115 = (List.map D.bool (copyL v105.1.known v85.known)).length := by rw [h116]; simp [qdd]
          exact ⟨(n, (Sta.mk v85.opn (copyL v105.1.known v85.known)), a86, c86, a87, c87, (IntKind.i64.wrap (v88 - 1))), ⟨by omega, by omega, hr⟩, Nat.lt_succ_self _, ⟨rfl, rfl, rfl, rfl, rfl, rfl, rfl, rfl, trivial⟩, (StLe.gen 5 [.old 0] [.old 2, .old 3, .old 4, .old 5, .old 6, .old 7, .old 8, .old 9, .old 10, .old 11, .old 12, .old 13] rfl rfl rfl rfl rfl rfl rfl)⟩
        ·
         refine ⟨OwnKeptBut.append, ?_⟩
         refine Meets.le (S' := ⟨[.cells 103 [(.v (.slice a4 ((List.map D.bool v3.opn).length) c4)), (.v (.slice a5 ((List.map D.bool v3.known).length) c5))], .cells 47 [(iS v6.op), (iS v6.hd), (iS v6.n), (.v (.slice a7 ((Tm.encL v6.args).length) c7))], .cells 47 [(iS v8.2.op), (iS v8.2.hd), (iS v8.2.n), (.v (.slice a11 ((Tm.encL v8.2.args).length) c11))], .cells 103 [(.v (.slice a86 ((List.map D.bool v85.opn).length) c86)), (.v (.slice a87 ((List.map D.bool v85.known).length) c87))], .imm [(iS v40.family), (.v (.slice a44 ((List.map (D.int .i64) v40.signs).length) c44))], .imm [(bS v91)], .imm [(iS v96.op), (iS v96.hd), (iS v96.n), (.v (.slice a109 ((Tm.encL v96.args).length) c109))], .cells 103 [(.v (.slice none 0 0)), (.v (.slice none 0 0))]], [⟨.slice a111 ((List.map D.bool v101.known).length) c111, 1, 4, (List.map D.bool v101.known)⟩, ⟨.slice a87 ((List.map D.bool v85.known).length) c87, 1, 4, (List.map D.bool v85.known)⟩], [(.slice a110 ((List.map D.bool v101.opn).length) c110, .sl 1 (List.map D.bool v101.opn)), (.slice a86 ((List.map D.bool v85.opn).length) c86, .sl 1 (List.map D.bool v85.opn)), (.slice a28 ((List.map D.bool v27.opn).length) c28, .sl 1 (List.map D.bool v27.opn)), (.slice a29 ((List.map D.bool v27.known).length) c29, .sl 1 (List.map D.bool v27.known)), (.slice a2 ((Md.encL v1).length) c2, .sl 2 (Md.encL v1)), (.slice a4 ((List.map D.bool v3.opn).length) c4, .sl 1 (List.map D.bool v3.opn)), (.slice a5 ((List.map D.bool v3.known).length) c5, .sl 1 (List.map D.bool v3.known)), (.slice a7 ((Tm.encL v6.args).length) c7, .sl 4 (Tm.encL v6.args)), (.slice a10 ((Tm.encL v8.1).length) c10, .sl 4 (Tm.encL v8.1)), (.slice a11 ((Tm.encL v8.2.args).length) c11, .sl 4 (Tm.encL v8.2.args)), (.slice a17 ((List.map D.bool v15).length) c17, .sl 1 (List.map D.bool v15)), (.slice a44 ((List.map (D.int .i64) v40.signs).length) c44, .sl 1 (List.map (D.int .i64) v40.signs)), (.slice a47 ((List.map D.bool v45.opn).length) c47, .sl 1 (List.map D.bool v45.opn)), (.slice a109 ((Tm.encL v96.args).length) c109, .sl 4 (Tm.encL v96.args))]⟩) (StLe.gen 8 [.old 1, .old 2] [.froz 0, .old 0, .old 1, .old 2, .old 3, .old 4, .old 5, .old 6, .old 7, .old 8, .old 9, .old 10, .old 11, .old 12] rfl rfl rfl rfl rfl rfl rfl) rfl ?_
         refine Meets.le (S' := ⟨[.cells 103 [(.v (.slice a4 ((List.map D.bool v3.opn).length) c4)), (.v (.slice a5 ((List.map D.bool v3.known).length) c5))], .cells 47 [(iS v6.op), (iS v6.hd), (iS v6.n), (.v (.slice a7 ((Tm.encL v6.args).length) c7))], .cells 47 [(iS v8.2.op), (iS v8.2.hd), (iS v8.2.n), (.v (.slice a11 ((Tm.encL v8.2.args).length) c11))], .cells 103 [(.v (.slice a86 ((List.map D.bool v85.opn).length) c86)), (.v (.slice a87 ((List.map D.bool v85.known).length) c87))], .imm [(iS v40.family), (.v (.slice a44 ((List.map (D.int .i64) v40.signs).length) c44))], .imm [(bS v91)], .imm [(iS v96.op), (iS v96.hd), (iS v96.n), (.v (.slice a109 ((Tm.encL v96.args).length) c109))], .cells 103 [(.v (.slice none 0 0)), (.v (.slice none 0 0))]], [⟨.slice a87 ((List.map D.bool v85.known).length) c87, 1, 4, (List.map D.bool v85.known)⟩], [(.slice a111 ((List.map D.bool v101.known).length) c111, .sl 1 (List.map D.bool v101.known)), (.slice a110 ((List.map D.bool v101.opn).length) c110, .sl 1 (List.map D.bool v101.opn)), (.slice a86 ((List.map D.bool v85.opn).length) c86, .sl 1 (List.map D.bool v85.opn)), (.slice a28 ((List.map D.bool v27.opn).length) c28, .sl 1 (List.map D.bool v27.opn)), (.slice a29 ((List.map D.bool v27.known).length) c29, .sl 1 (List.map D.bool v27.known)), (.slice a2 ((Md.encL v1).length) c2, .sl 2 (Md.encL v1)), (.slice a4 ((List.map D.bool v3.opn).length) c4, .sl 1 (List.map D.bool v3.opn)), (.slice a5 ((List.map D.bool v3.known).length) c5, .sl 1 (List.map D.bool v3.known)), (.slice a7 ((Tm.encL v6.args).length) c7, .sl 4 (Tm.encL v6.args)), (.slice a10 ((Tm.encL v8.1).length) c10, .sl 4 (Tm.encL v8.1)), (.slice a11 ((Tm.encL v8.2.args).length) c11, .sl 4 (Tm.encL v8.2.args)), (.slice a17 ((List.map D.bool v15).length) c17, .sl 1 (List.map D.bool v15)), (.slice a44 ((List.map (D.int .i64) v40.signs).length) c44, .sl 1 (List.map (D.int .i64) v40.signs)), (.slice a47 ((List.map D.bool v45.opn).length) c47, .sl 1 (List.map D.bool v45.opn)), (.slice a109 ((Tm.encL v96.args).length) c109, .sl 4 (Tm.encL v96.args))]⟩) (StLe.gen 8 [.old 1] [.froz 0, .old 0, .old 1, .old 2, .old 3, .old 4, .old 5, .old 6, .old 7, .old 8, .old 9, .old 10, .old 11, .old 12, .old 13] rfl rfl rfl rfl rfl rfl rfl) rfl ?_
         refine (ih1 n (by omega) v1 v101 v96 a2 c2 a110 c110 a111 c111 a109 c109 _ h106).atR [5, 1, 0, 14] rfl rfl rfl ?_
         rintro _ _ ⟨a117, c117, a118, c118, rfl, rfl⟩
         refine ⟨fun _ _ h => h, ?_⟩
         refine AtIf.mk (fun h114 => ?_) (fun h114 => ?_)
         ·replace hr := qf h114 hr
          replace hr := osi hr; subst hr
          exact qa [] [] rfl rfl ⟨rfl, rfl⟩
         ·replace hr := qe h114 hr
          obtain ⟨m115, h116⟩ : ∃ m115, m115 = (List.map D.bool v85.known).length := ⟨_, rfl⟩
          try dsimp only
          rw [← h116]
          refine at_copy (ds' := List.map D.bool (copyL v105.1.known v85.known)) ttOK 0 16 rfl rfl rfl rfl rfl rfl (qik ..) ?_
          obtain rfl : m115 = (List.map D.bool (copyL v105.1.known v85.known)).length := by rw [h116]; simp [qdd]
          exact ⟨(n, (Sta.mk v85.opn (copyL v105.1.known v85.known)), a86, c86, a87, c87, (IntKind.i64.wrap (v88 - 1))), ⟨by omega, by omega, hr⟩, Nat.lt_succ_self _, ⟨rfl, rfl, rfl, rfl, rfl, rfl, rfl, rfl, trivial⟩, (StLe.gen 5 [.old 0] [.old 2, .old 3, .old 4, .old 5, .old 6, .old 7, .old 8, .old 9, .old 10, .old 11, .old 12, .old 13] rfl rfl rfl rfl rfl rfl rfl)⟩
       ·
        refine ⟨OwnKeptBut.append, ?_⟩
        refine (qah n v85 (IntKind.i64.wrap (((List.map D.bool v3.opn).length : Int) + v88)) a86 c86 a87 c87 _ h102).atBL [.old 0, .froz 0] rfl rfl rfl ?_
        rintro _ _ ⟨a119, c119, a120, c120, rfl, rfl⟩
        refine ⟨_, _, rfl, rfl, rfl, by intro a ha; simp only [List.mem_cons, List.not_mem_nil, or_false] at ha; rcases ha with rfl | rfl <;> exact qld _ _ _, ?_⟩
        refine ⟨fun _ _ h => h, ?_⟩
        refine Meets.le (S' := ⟨[.cells 103 [(.v (.slice a4 ((List.map D.bool v3.opn).length) c4)), (.v (.slice a5 ((List.map D.bool v3.known).length) c5))], .cells 47 [(iS v6.op), (iS v6.hd), (iS v6.n), (.v (.slice a7 ((Tm.encL v6.args).length) c7))], .cells 47 [(iS v8.2.op), (iS v8.2.hd), (iS v8.2.n), (.v (.slice a11 ((Tm.encL v8.2.args).length) c11))], .cells 103 [(.v (.slice a86 ((List.map D.bool v85.opn).length) c86)), (.v (.slice a87 ((List.map D.bool v85.known).length) c87))], .imm [(iS v40.family), (.v (.slice a44 ((List.map (D.int .i64) v40.signs).length) c44))], .imm [(bS v91)], .imm [(iS v96.op), (iS v96.hd), (iS v96.n), (.v (.slice a109 ((Tm.encL v96.args).length) c109))], .cells 103 [(.v (.slice none 0 0)), (.v (.slice none 0 0))]], [⟨.slice a120 ((List.map D.bool v101.known).length) c120, 1, 4, (List.map D.bool v101.known)⟩, ⟨.slice a87 ((List.map D.bool v85.known).length) c87, 1, 4, (List.map D.bool v85.known)⟩], [(.slice a119 ((List.map D.bool v101.opn).length) c119, .sl 1 (List.map D.bool v101.opn)), (.slice a86 ((List.map D.bool v85.opn).length) c86, .sl 1 (List.map D.bool v85.opn)), (.slice a28 ((List.map D.bool v27.opn).length) c28, .sl 1 (List.map D.bool v27.opn)), (.slice a29 ((List.map D.bool v27.known).length) c29, .sl 1 (List.map D.bool v27.known)), (.slice a2 ((Md.encL v1).length) c2, .sl 2 (Md.encL v1)), (.slice a4 ((List.map D.bool v3.opn).length) c4, .sl 1 (List.map D.bool v3.opn)), (.slice a5 ((List.map D.bool v3.known).length) c5, .sl 1 (List.map D.bool v3.known)), (.slice a7 ((Tm.encL v6.args).length) c7, .sl 4 (Tm.encL v6.args)), (.slice a10 ((Tm.encL v8.1).length) c10, .sl 4 (Tm.encL v8.1)), (.slice a11 ((Tm.encL v8.2.args).length) c11, .sl 4 (Tm.encL v8.2.args)), (.slice a17 ((List.map D.bool v15).length) c17, .sl 1 (List.map D.bool v15)), (.slice a44 ((List.map (D.int .i64) v40.signs).length) c44, .sl 1 (List.map (D.int .i64) v40.signs)), (.slice a47 ((List.map D.bool v45.opn).length) c47, .sl 1 (List.map D.bool v45.opn)), (.slice a109 ((Tm.encL v96.args).length) c109, .sl 4 (Tm.encL v96.args))]⟩) (StLe.gen 8 [.old 1, .old 2] [.froz 0, .old 0, .old 1, .old 2, .old 3, .old 4, .old 5, .old 6, .old 7, .old 8, .old 9, .old 10, .old 11, .old 12] rfl rfl rfl rfl rfl rfl rfl) rfl ?_
        refine Meets.le (S' := ⟨[.cells 103 [(.v (.slice a4 ((List.map D.bool v3.opn).length) c4)), (.v (.slice a5 ((List.map D.bool v3.known).length) c5))], .cells 47 [(iS v6.op), (iS v6.hd), (iS v6.n), (.v (.slice a7 ((Tm.encL v6.args).length) c7))], .cells 47 [(iS v8.2.op), (iS v8.2.hd), (iS v8.2.n), (.v (.slice a11 ((Tm.encL v8.2.args).length) c11))], .cells 103 [(.v (.slice a86 ((List.map D.bool v85.opn).length) c86)), (.v (.slice a87 ((List.map D.bool v85.known).length) c87))], .imm [(iS v40.family), (.v (.slice a44 ((List.map (D.int .i64) v40.signs).length) c44))], .imm [(bS v91)], .imm [(iS v96.op), (iS v96.hd), (iS v96.n), (.v (.slice a109 ((Tm.encL v96.args).length) c109))], .cells 103 [(.v (.slice none 0 0)), (.v (.slice none 0 0))]], [⟨.slice a87 ((List.map D.bool v85.known).length) c87, 1, 4, (List.map D.bool v85.known)⟩], [(.slice a120 ((List.map D.bool v101.known).length) c120, .sl 1 (List.map D.bool v101.known)), (.slice a119 ((List.map D.bool v101.opn).length) c119, .sl 1 (List.map D.bool v101.opn)), (.slice a86 ((List.map D.bool v85.opn).length) c86, .sl 1 (List.map D.bool v85.opn)), (.slice a28 ((List.map D.bool v27.opn).length) c28, .sl 1 (List.map D.bool v27.opn)), (.slice a29 ((List.map D.bool v27.known).length) c29, .sl 1 (List.map D.bool v27.known)), (.slice a2 ((Md.encL v1).length) c2, .sl 2 (Md.encL v1)), (.slice a4 ((List.map D.bool v3.opn).length) c4, .sl 1 (List.map D.bool v3.opn)), (.slice a5 ((List.map D.bool v3.known).length) c5, .sl 1 (List.map D.bool v3.known)), (.slice a7 ((Tm.encL v6.args).length) c7, .sl 4 (Tm.encL v6.args)), (.slice a10 ((Tm.encL v8.1).length) c10, .sl 4 (Tm.encL v8.1)), (.slice a11 ((Tm.encL v8.2.args).length) c11, .sl 4 (Tm.encL v8.2.args)), (.slice a17 ((List.map D.bool v15).length) c17, .sl 1 (List.map D.bool v15)), (.slice a44 ((List.map (D.int .i64) v40.signs).length) c44, .sl 1 (List.map (D.int .i64) v40.signs)), (.slice a47 ((List.map D.bool v45.opn).length) c47, .sl 1 (List.map D.bool v45.opn)), (.slice a109 ((Tm.encL v96.args).length) c109, .sl 4 (Tm.encL v96.args))]⟩) (StLe.gen 8 [.old 1] [.froz 0, .old 0, .old 1, .old 2, .old 3, .old 4, .old 5, .old 6, .old 7, .old 8, .old 9, .old 10, .old 11, .old 12, .old 13] rfl rfl rfl rfl rfl rfl rfl) rfl ?_
        refine (ih1 n (by omega) v1 v101 v96 a2 c2 a119 c119 a120 c120 a109 c109 _ h106).atR [5, 1, 0, 14] rfl rfl rfl ?_
        rintro _ _ ⟨a121, c121, a122, c122, rfl, rfl⟩
        refine ⟨fun _ _ h => h, ?_⟩
        refine AtIf.mk (fun h114 => ?_) (fun h114 => ?_)
        ·replace hr := qf h114 hr
         replace hr := osi hr; subst hr
         exact qa [] [] rfl rfl ⟨rfl, rfl⟩
        ·replace hr := qe h114 hr
         obtain ⟨m115, h116⟩ : ∃ m115, m115 = (List.map D.bool v85.known).length := ⟨_, rfl⟩
         try dsimp only
         rw [← h116]
         refine at_copy (ds' := List.map D.bool (copyL v105.1.known v85.known)) ttOK 0 16 rfl rfl rfl rfl rfl rfl (qik ..) ?_
         obtain rfl : m115 = (List.map D.bool (copyL v105.1.known v85.known)).length := by rw [h116]; simp [qdd]
         exact ⟨(n, (Sta.mk v85.opn (copyL v105.1.known v85.known)), a86, c86, a87, c87, (IntKind.i64.wrap (v88 - 1))), ⟨by omega, by omega, hr⟩, Nat.lt_succ_self _, ⟨rfl, rfl, rfl, rfl, rfl, rfl, rfl, rfl, trivial⟩, (StLe.gen 5 [.old 0] [.old 2, .old 3, .old 4, .old 5, .old 6, .old 7, .old 8, .old 9, .old 10, .old 11, .old 12, .old 13] rfl rfl rfl rfl rfl rfl rfl)⟩
     ·replace hr := qe h90 hr
      obtain ⟨v123, h124, hr⟩ := bind_some hr
      obtain ⟨h125, h126⟩ := qh h124
      refine qd ttOK 3 rfl rfl rfl rfl h125 (Md.encL_get h126) ?_
      intro a127 c127 _ _
      obtain ⟨v128, h129, hr⟩ := bind_some hr
      refine (qb3 n v85 v123 v8.2.args 2 a86 c86 a87 c87 a127 c127 a11 c11 _ h129).atB [.old 0, .froz 0, .old 12, .old 8] rfl rfl rfl ?_
      rintro _ _ ⟨rfl, rfl⟩
      refine ⟨rfl, ?_⟩
      refine AtIf.mk (fun h130 => ?_) (fun h130 => ?_)
      ·replace hr := qf h130 hr
       replace hr := osi hr; subst hr
       exact qa [] [] rfl rfl ⟨rfl, rfl⟩
      ·replace hr := qe h130 hr
       replace hr := osi hr; subst hr
       exact qa [] [] rfl rfl ⟨rfl, rfl⟩
theorem qj5 (n : Nat) (v1 : (List Md)) (v3 : Sta) (v6 : Tm) (a2 : OA) (c2 : Nat) (a4 : OA) (c4 : Nat) (a5 : OA) (c5 : Nat) (a7 : OA) (c7 : Nat) (r : Int × Int × Bool) (hr : R14_Assume n v1 v3 v6 = some r) : Pure Tryz.prog (.val (.fn (.func 58) [] [])) [(.v (.slice a2 ((Md.encL v1).length) c2)), (.agg [(.v (.slice a4 ((List.map D.bool v3.opn).length) c4)), (.v (.slice a5 ((List.map D.bool v3.known).length) c5))]), (.agg [(iS v6.op), (iS v6.hd), (iS v6.n), (tU v6.args a7 c7)])] [(.slice a2 ((Md.encL v1).length) c2, .sl 2 (Md.encL v1)), (.slice a4 ((List.map D.bool v3.opn).length) c4, .sl 1 (List.map D.bool v3.opn)), (.slice a5 ((List.map D.bool v3.known).length) c5, .sl 1 (List.map D.bool v3.known)), (tQ v6.args a7 c7)] (fun r' out => r' = (.tup [(iS r.1), (iS r.2.1), (bS r.2.2)]) ∧ out = []) := (qm2 n).2 n (Nat.le_refl _) v1 v3 v6 a2 c2 a4 c4 a5 c5 a7 c7 r hr
def R14_Check : Nat → (List Dc) → (List Md) → Int → Option (Int × Int × Bool)
 | 0, _, _, _ => none
 | n + 1, v1, v3, v5 =>
  (idx v1 v5).bind (fun v6 =>
  (R14_Assume n v3 (Sta.mk ([]) ([])) v6.cls).bind (fun v11 =>
  some (v11.1, v11.2.1, v11.2.2)))
theorem qfl (n : Nat) (v1 : (List Dc)) (v3 : (List Md)) (v5 : Int) (a2 : OA) (c2 : Nat) (a4 : OA) (c4 : Nat) (r : Int × Int × Bool) (hr : R14_Check n v1 v3 v5 = some r) : Pure Tryz.prog (.val (.fn (.func 22) [] [])) [(.v (.slice a2 ((Dc.encL v1).length) c2)), (.v (.slice a4 ((Md.encL v3).length) c4)), (iS v5)] [(.slice a2 ((Dc.encL v1).length) c2, .sl 6 (Dc.encL v1)), (.slice a4 ((Md.encL v3).length) c4, .sl 2 (Md.encL v3))] (fun r' out => r' = (.tup [(iS r.1), (iS r.2.1), (bS r.2.2)]) ∧ out = []) := by
 rcases n with _ | n
 ·exact qg hr
 rw [R14_Check.eq_2] at hr
 refine qb (N := 20) (m := 0) (dt := fun _ => none) [] ttOK func22 rfl call22 ntmps22 rfl rfl rfl mixed (by kernel_rfl) ?_
 obtain ⟨v6, h7, hr⟩ := bind_some hr
 obtain ⟨h8, h9⟩ := qh h7
 refine qd ttOK 0 rfl rfl rfl rfl h8 (Dc.encL_get h9) ?_
 intro a10 c10 _ _
 obtain ⟨v11, h12, hr⟩ := bind_some hr
 refine Meets.nilRep 1 ?_
 refine (qj5 n v3 (Sta.mk ([]) ([])) v6.cls a4 c4 none 0 none 0 a10 c10 _ h12).atR [2, 0, 0, 3] rfl rfl rfl ?_
 rintro _ _ ⟨rfl, rfl⟩
 replace hr := osi hr; subst hr
 exact qa [] [] rfl rfl ⟨rfl, rfl⟩
mutual
def R14_Modes : Nat → (List Dc) → (List Md) → Option (Bool)
 | 0, _, _ => none
 | n + 1, v1, v3 =>
  cond (decide (((Md.encL v3).length : Int) > 40)) (
  some (false)) (
  R14_Modes_L1 n v3 v1 0)
def R14_Modes_L1 : Nat → (List Md) → (List Dc) → Int → Option (Bool)
 | 0, _, _, _ => none
 | n + 1, v3, v1, v23 =>
  cond (decide (v23 < ((Md.encL v3).length : Int))) (
  (idx v3 v23).bind (fun v25 =>
  (R14_Right n v1 v25).bind (fun v30 =>
  cond (!v30) (
  some (false)) (
  (idx v3 v23).bind (fun v33 =>
  (R14_Find n v3 v33.family).bind (fun v38 =>
  cond (decide (v38 < v23)) (
  some (false)) (
  R14_Modes_L1 n v3 v1 (IntKind.i64.wrap (v23 + 1))))))))) (
  some (true))
 end
theorem qk2 (n : Nat) (v1 : (List Dc)) (v3 : (List Md)) (a2 : OA) (c2 : Nat) (a4 : OA) (c4 : Nat) (r : Bool) (hr : R14_Modes n v1 v3 = some r) : Pure Tryz.prog (.val (.fn (.func 21) [] [])) [(.v (.slice a2 ((Dc.encL v1).length) c2)), (.v (.slice a4 ((Md.encL v3).length) c4))] [(.slice a2 ((Dc.encL v1).length) c2, .sl 6 (Dc.encL v1)), (.slice a4 ((Md.encL v3).length) c4, .sl 2 (Md.encL v3))] (fun r' out => r' = (bS r) ∧ out = []) := by
 rcases n with _ | n
 ·exact qg hr
 rw [R14_Modes.eq_2] at hr
 refine qb (N := 33) (m := 0) (dt := fun _ => none) [] ttOK func21 rfl call21 ntmps21 rfl rfl rfl mixed (by kernel_rfl) ?_
 refine AtIf.mk (fun h5 => ?_) (fun h5 => ?_)
 ·replace hr := qf h5 hr
  replace hr := osi hr; subst hr
  exact qa [] [] rfl rfl ⟨rfl, rfl⟩
 ·replace hr := qe h5 hr
  refine AtLoop.mk ⟨Nat × Int, fun x => [(0, (.v (.slice a2 ((Dc.encL v1).length) c2))), (1, (.v (.slice a4 ((Md.encL v3).length) c4))), (5, (iS x.2))], fun x => ⟨[], [], [(.slice a2 ((Dc.encL v1).length) c2, .sl 6 (Dc.encL v1)), (.slice a4 ((Md.encL v3).length) c4, .sl 2 (Md.encL v3))]⟩, fun x => R14_Modes_L1 x.1 v3 v1 x.2 = some r, fun x => x.1, (n, 0), hr, ⟨rfl, rfl, rfl, trivial⟩, (StLe.gen 0 [] [.old 0, .old 1] rfl rfl rfl rfl rfl rfl rfl), fun x _ => ⟨rfl, rfl⟩, ?_⟩
  rintro ⟨n, v23⟩ HH
  have hr : R14_Modes_L1 n v3 v1 v23 = some r := HH
  rcases n with _ | n
  ·exact qg hr
  rw [R14_Modes_L1.eq_2] at hr
  refine AtIf.mk (fun h24 => ?_) (fun h24 => ?_)
  ·replace hr := qf h24 hr
   obtain ⟨v25, h26, hr⟩ := bind_some hr
   obtain ⟨h27, h28⟩ := qh h26
   refine qd ttOK 1 rfl rfl rfl rfl h27 (Md.encL_get h28) ?_
   intro a29 c29 _ _
   obtain ⟨v30, h31, hr⟩ := bind_some hr
   refine (qkz n v1 v25 a2 c2 a29 c29 _ h31).atR [0, 2] rfl rfl rfl ?_
   rintro _ _ ⟨rfl, rfl⟩
   refine AtGuard.mk (fun h32 => ?_) (fun h32 => ?_)
   ·replace hr := qe h32 hr
    obtain ⟨v33, h34, hr⟩ := bind_some hr
    obtain ⟨h35, h36⟩ := qh h34
    refine qd ttOK 1 rfl rfl rfl rfl h35 (Md.encL_get h36) ?_
    intro a37 c37 _ _
    obtain ⟨v38, h39, hr⟩ := bind_some hr
    refine (qdw n v3 v33.family a4 c4 _ h39).atR [1] rfl rfl rfl ?_
    rintro _ _ ⟨rfl, rfl⟩
    refine AtIf.mk (fun h40 => ?_) (fun h40 => ?_)
    ·replace hr := qf h40 hr
     replace hr := osi hr; subst hr
     exact qa [] [] rfl rfl ⟨rfl, rfl⟩
    ·replace hr := qe h40 hr
     exact ⟨(n, (IntKind.i64.wrap (v23 + 1))), hr, Nat.lt_succ_self _, ⟨rfl, rfl, rfl, trivial⟩, (StLe.gen 0 [] [.old 0, .old 1] rfl rfl rfl rfl rfl rfl rfl)⟩
   ·replace hr := qf h32 hr
    refine AtIf.mk (fun _ => ?_) (fun h => tf h)
    replace hr := osi hr; subst hr
    exact qa [] [] rfl rfl ⟨rfl, rfl⟩
  ·replace hr := qe h24 hr
   replace hr := osi hr; subst hr
   exact qa [] [] rfl rfl ⟨rfl, rfl⟩
end
end Go.Proofs.YtogicnodmgdnbaaGreat
