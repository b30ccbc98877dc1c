/- Merged texts: G8 EvA EvB EvC EvK. Conditions stand in each rule. -/
import Derived.Test.YtogicnodmgdnbaaGreatSJ
set_option linter.unusedSimpArgs false
set_option linter.unusedVariables false

namespace Go.Proofs.YtogicnodmgdnbaaGreat
section
open Go.Tr Go Go.Proofs.Tryz
set_option maxRecDepth 10000
mutual
def mode_Check : Nat → (List Dc) → (List Md) → Int → Option (Int × Int × Int)
 | 0, _, _, _ => none
 | n + 1, v1, v3, v5 =>
  (sign_Check n v1).bind (fun v6 =>
  cond (v6 != 0) (
  some (0, 0, 2)) (
  mode_Check_L1 n v3 v1 v5 ([]) 0))
def mode_Check_L1 : Nat → (List Md) → (List Dc) → Int → (List (Int × Md)) → Int → Option (Int × Int × Int)
 | 0, _, _, _, _, _ => none
 | n + 1, v3, v1, v5, v20, v22 =>
  cond (decide (v22 < ((Md.encL v3).length : Int))) (
  (idx v3 v22).bind (fun v24 =>
  cond ((mget v20 v24.family).isSome) (
  some (0, 0, 2)) (
  (mode_isMode n v1 v24).bind (fun v31 =>
  cond ((!v31) || (decide (((Md.encL v3).length : Int) > 40))) (
  some (0, 0, 2)) (
  mode_Check_L1 n v3 v1 v5 (mput v24.family v24 v20) (IntKind.i64.wrap (v22 + 1))))))) (
  cond ((decide (v5 < 0)) || (decide (v5 ≥ ((Dc.encL v1).length : Int)))) (
  some (0, 0, 6)) (
  (sign_Family n v1 v5).bind (fun v35 =>
  cond v35 (
  some (0, 0, 22)) (
  (qco n v1 v5 v20).bind (fun v38 =>
  some (v38.1, v38.2.1, v38.2.2))))))
 end
theorem qcu (n : Nat) (v1 : (List Dc)) (v3 : (List Md)) (v5 : Int) (a2 : OA) (c2 : Nat) (a4 : OA) (c4 : Nat) (r : Int × Int × Int) (hr : mode_Check n v1 v3 v5 = some r) : Pure Tryz.prog (.val (.fn (.func 19) [] [])) [(.v (.slice a2 ((Dc.encL v1).length) c2)), (.v (.slice a4 ((Md.encL v3).length) c4)), (iS v5)] [(.slice a2 ((Dc.encL v1).length) c2, .sl 6 (Dc.encL v1)), (.slice a4 ((Md.encL v3).length) c4, .sl 2 (Md.encL v3))] (fun r' out => r' = (.tup [(iS r.1), (iS r.2.1), (iS r.2.2)]) ∧ out = []) := by
 rcases n with _ | n
 ·exact qe hr
 rw [mode_Check.eq_2] at hr
 refine qb (N := 36) (m := 0) (dt := fun _ => none) [] ttOK func19 rfl call19 ntmps19 rfl rfl rfl mixed (by kernel_rfl) ?_
 obtain ⟨v6, h7, hr⟩ := bind_some hr
 refine (qcx n v1 a2 c2 _ h7).atR [0] rfl rfl rfl ?_
 rintro _ _ ⟨rfl, rfl⟩
 refine AtIf.mk (fun h8 => ?_) (fun h8 => ?_)
 ·replace hr := qf h8 hr
  replace hr := osi hr; subst hr
  exact qa [] [] rfl rfl ⟨rfl, rfl⟩
 ·replace hr := qg h8 hr
  refine qb (N := 43) (m := 0) (dt := fun _ => none) [] ttOK func52 rfl call52 ntmps52 rfl rfl rfl mixed (by kernel_rfl) ?_
  refine qnw .i64 Md.gv 1 Md.gp ?_
  refine AtLoop.mk ⟨Nat × (List (Int × GE Md)) × Int, fun x => [(0, (.v (.slice a2 ((Dc.encL v1).length) c2))), (1, (.v (.slice a4 ((Md.encL v3).length) c4))), (6, (.mp 0)), (12, (.v (.slice a4 ((Md.encL v3).length) c4))), (13, (iS ((Md.encL v3).length : Int))), (14, (iS x.2.2))], fun x => ⟨[.obj (mapO .i64 (encM Md.gv x.2.1))], [], [(.slice a2 ((Dc.encL v1).length) c2, .sl 6 (Dc.encL v1)), (.slice a4 ((Md.encL v3).length) c4, .sl 2 (Md.encL v3)), (agV 1 Md.gp x.2.1, agD 1 Md.gp x.2.1)]⟩, fun x => mode_Check_L1 x.1 v3 v1 v5 (er x.2.1) x.2.2 = some r, fun x => x.1, (n, ([] : List (Int × GE Md)), 0), hr, ⟨rfl, rfl, rfl, rfl, rfl, rfl, trivial⟩, (StLe.gen 1 [] [.old 0, .old 1, .old 2] rfl rfl rfl rfl rfl rfl rfl), fun x _ => ⟨rfl, rfl⟩, ?_⟩
  rintro ⟨n, g21, v22⟩ HH
  have hr : mode_Check_L1 n v3 v1 v5 (er g21) v22 = some r := HH
  rcases n with _ | n
  ·exact qe hr
  rw [mode_Check_L1.eq_2] at hr
  refine AtIf.mk (fun h23 => ?_) (fun h23 => ?_)
  ·replace hr := qf h23 hr
   obtain ⟨v24, h25, hr⟩ := bind_some hr
   obtain ⟨h26, h27⟩ := qi h25
   refine qd ttOK 1 rfl rfl rfl rfl h26 (Md.encL_get h27) ?_
   intro a28 c28 _ _
   refine qh3 ttOK Md.gv Md.gk 1 Md.gp (Md.mk 0 ([])) _ 2 rfl underlying3 zeroValue31 rfl rfl (fun _ _ _ _ => rfl) (fun _ _ _ _ => rfl) rfl rfl rfl rfl ?_
   intro a29 c29
   refine AtGuard.mk (fun h30 => ?_) (fun h30 => ?_)
   ·replace hr := qg h30 hr
    obtain ⟨v31, h32, hr⟩ := bind_some hr
    refine (qhi n v1 v24 a2 c2 a28 c28 _ h32).atR [0, 3] rfl rfl rfl ?_
    rintro _ _ ⟨rfl, rfl⟩
    refine AtIf.mk (fun h33 => ?_) (fun h33 => ?_)
    ·replace hr := qf h33 hr
     refine AtRet.gen _ (StLe.refl _) rfl rfl ?_
     refine AtIf.mk (fun _ => ?_) (fun h => tf h)
     replace hr := osi hr; subst hr
     exact qa [] [] rfl rfl ⟨rfl, rfl⟩
    ·replace hr := qg h33 hr
     refine qod ttOK Md.gv 1 Md.gp v24 a28 c28 2 3 rfl underlying3 rfl rfl rfl (fun _ => rfl) rfl rfl rfl ?_
     exact ⟨(n, (mput v24.family (v24, a28, c28) g21), (IntKind.i64.wrap (v22 + 1))), (by simpa only [er_mput] using hr), Nat.lt_succ_self _, ⟨rfl, rfl, rfl, rfl, rfl, rfl, trivial⟩, (StLe.gen 1 [] [.old 0, .old 1, .old 2] rfl rfl rfl rfl rfl rfl rfl)⟩
   ·replace hr := qf h30 hr
    refine AtIf.mk (fun _ => ?_) (fun h => tf h)
    refine AtRet.gen _ (StLe.refl _) rfl rfl ?_
    refine AtIf.mk (fun _ => ?_) (fun h => tf h)
    replace hr := osi hr; subst hr
    exact qa [] [] rfl rfl ⟨rfl, rfl⟩
  ·replace hr := qg h23 hr
   refine AtRet.gen _ (StLe.refl _) rfl rfl ?_
   refine AtIf.mk (fun h => ff h) (fun _ => ?_)
   refine qb (N := 18) (m := 1) (dt := fun _ => none) [] ttOK func53 rfl call53 ntmps53 rfl rfl rfl mixed (by kernel_rfl) ?_
   refine AtIf.mk (fun h34 => ?_) (fun h34 => ?_)
   ·replace hr := qf h34 hr
    refine AtRet.gen _ (StLe.refl _) rfl rfl ?_
    refine AtIf.mk (fun _ => ?_) (fun h => tf h)
    replace hr := osi hr; subst hr
    exact qa [] [] rfl rfl ⟨rfl, rfl⟩
   ·replace hr := qg h34 hr
    obtain ⟨v35, h36, hr⟩ := bind_some hr
    refine (qcd n v1 v5 a2 c2 _ h36).atR [0] rfl rfl rfl ?_
    rintro _ _ ⟨rfl, rfl⟩
    refine AtIf.mk (fun h37 => ?_) (fun h37 => ?_)
    ·replace hr := qf h37 hr
     refine AtRet.gen _ (StLe.refl _) rfl rfl ?_
     refine AtIf.mk (fun _ => ?_) (fun h => tf h)
     replace hr := osi hr; subst hr
     exact qa [] [] rfl rfl ⟨rfl, rfl⟩
    ·replace hr := qg h37 hr
     refine AtRet.gen _ (StLe.refl _) rfl rfl ?_
     refine AtIf.mk (fun h => ff h) (fun _ => ?_)
     obtain ⟨v38, h39, hr⟩ := bind_some hr
     refine (qis n v1 v5 g21 a2 c2 _ h39).frameR [0] [0, 2] rfl rfl rfl rfl rfl rfl rfl rfl ?_
     rintro _ _ ⟨rfl, rfl⟩
     refine ⟨rfl, rfl, [.obj (mapO .i64 (encM Md.gv g21))], rfl, ?_⟩
     replace hr := osi hr; subst hr
     exact qa [] [] rfl rfl ⟨rfl, rfl⟩
def R03_App : Nat → Int → Int → (List Tm) → Option (Tm)
 | 0, _, _, _ => none
 | n + 1, v1, v2, v3 =>
  some ((Tm.mk 4 v1 v2 v3))
theorem qbo (n : Nat) (v1 : Int) (v2 : Int) (v3 : (List Tm)) (a4 : OA) (c4 : Nat) (r : Tm) (hr : R03_App n v1 v2 v3 = some r) : Pure Tryz.prog (.val (.fn (.func 28) [] [])) [(iS v1), (iS v2), (tU v3 a4 c4)] [(tQ v3 a4 c4)] (fun r' out => ∃ (b1 : OA) (d1 : Nat), r' = (.agg [(iS r.op), (iS r.hd), (iS r.n), (tU r.args b1 d1)]) ∧ out = [(tQ r.args b1 d1)]) := by
 rcases n with _ | n
 ·exact qe hr
 rw [R03_App.eq_2] at hr
 refine qb (N := 11) (m := 0) (dt := fun _ => none) [] ttOK func28 rfl call28 ntmps28 rfl rfl rfl mixed (by kernel_rfl) ?_
 replace hr := osi hr; subst hr
 exact qa [.old 0] [(tQ v3 a4 c4)] rfl rfl ⟨a4, c4, rfl, rfl⟩
def R03_Pi : Nat → Tm → Tm → Option (Tm)
 | 0, _, _ => none
 | n + 1, v1, v3 =>
  some ((Tm.mk 2 0 0 ([v1, v3])))
theorem qa0 (n : Nat) (v1 : Tm) (v3 : Tm) (a2 : OA) (c2 : Nat) (a4 : OA) (c4 : Nat) (r : Tm) (hr : R03_Pi n v1 v3 = some r) : Pure Tryz.prog (.val (.fn (.func 93) [] [])) [(.agg [(iS v1.op), (iS v1.hd), (iS v1.n), (tU v1.args a2 c2)]), (.agg [(iS v3.op), (iS v3.hd), (iS v3.n), (tU v3.args a4 c4)])] [(tQ v1.args a2 c2), (tQ v3.args a4 c4)] (fun r' out => ∃ (b1 : OA) (d1 : Nat), r' = (.agg [(iS r.op), (iS r.hd), (iS r.n), (tU r.args b1 d1)]) ∧ out = [(tQ r.args b1 d1)]) := by
 rcases n with _ | n
 ·exact qe hr
 rw [R03_Pi.eq_2] at hr
 refine qb (N := 9) (m := 0) (dt := fun _ => none) [] ttOK func93 rfl call93 ntmps93 rfl rfl rfl mixed (by kernel_rfl) ?_
 refine ql (n := 2) ttOK 48 [.agg [.int .i64 v1.op, .int .i64 v1.hd, .int .i64 v1.n, .sl 4 (Tm.encL v1.args)], .agg [.int .i64 v3.op, .int .i64 v3.hd, .int .i64 v3.n, .sl 4 (Tm.encL v3.args)]] (ds' := (Tm.encL ([v1, v3]))) rfl (by kernel_rfl) ⟨⟨rfl, rfl, rfl, ⟨[(iS v1.op)], _, rfl, rfl, ⟨[(iS v1.hd)], _, rfl, rfl, ⟨[(iS v1.n)], _, rfl, rfl, ⟨[(tU v1.args a2 c2)], _, rfl, (.inl ⟨_, rfl, qr (j := 0) rfl⟩), rfl⟩⟩⟩⟩⟩, ⟨⟨rfl, rfl, rfl, ⟨[(iS v3.op)], _, rfl, rfl, ⟨[(iS v3.hd)], _, rfl, rfl, ⟨[(iS v3.n)], _, rfl, rfl, ⟨[(tU v3.args a4 c4)], _, rfl, (.inl ⟨_, rfl, qr (j := 1) rfl⟩), rfl⟩⟩⟩⟩⟩, trivial⟩⟩ rfl (by simp only [Tm.encL_eq, List.map_cons, List.map_nil, Tm.enc_eq] <;> rfl) (by decide) (by decide) ?_
 intro a5
 replace hr := osi hr; subst hr
 exact qa [.old 2] [(tQ ([v1, v3]) a5 2)] rfl rfl ⟨a5, 2, rfl, rfl⟩
def W14_sample : Nat → Option ((List Dc))
 | 0 => none
 | n + 1 =>
  (R03_App n 2 0 ([])).bind (fun v1 =>
  (R03_App n 2 1 ([])).bind (fun v4 =>
  (R03_Pi n v1 v1).bind (fun v7 =>
  (R03_Pi n v1 (Tm.mk 1 0 0 ([]))).bind (fun v10 =>
  (R03_Pi n v1 v10).bind (fun v13 =>
  (R03_App n 2 3 ([v4, v4])).bind (fun v17 =>
  some ([(Dc.mk (⟨#[110, 97, 116]⟩) (Tm.mk 1 0 0 ([])) 0), (Dc.mk (⟨#[122]⟩) v1 0), (Dc.mk (⟨#[115]⟩) v7 0), (Dc.mk (⟨#[100, 111, 117, 98, 108, 101]⟩) v13 0), (Dc.mk (⟨#[100, 122]⟩) v17 0)])))))))
theorem qar (n : Nat)  (r : (List Dc)) (hr : W14_sample n  = some r) : Pure Tryz.prog (.val (.fn (.func 44) [] [])) [] [] (fun r' out => ∃ (b1 : OA) (d1 : Nat), r' = (.v (.slice b1 ((Dc.encL r).length) d1)) ∧ out = [(.slice b1 ((Dc.encL r).length) d1, .sl 6 (Dc.encL r))]) := by
 rcases n with _ | n
 ·exact qe hr
 rw [W14_sample.eq_2] at hr
 refine qb (N := 25) (m := 0) (dt := drawsOf [(3, .node [0, 1, 2, 3, 4, 5, 8, 9, 10, 14, 15] [(6, .node [7] [(11, .node [] [(12, .node [13] [(16, .node [] [(17, .node [18] [(19, .leaf [20])])])]), (16, .node [] [(12, .node [13] [(17, .node [18] [(19, .leaf [20])])])])]), (16, .node [] [(11, .node [] [(12, .node [13] [(17, .node [18] [(19, .leaf [20])])])])])]), (16, .node [] [(6, .node [7] [(11, .node [] [(12, .node [13] [(17, .node [18] [(19, .leaf [20])])])])])])], [19], [])]) [] ttOK func44 rfl call44 ntmps44 rfl rfl rfl mixed (by kernel_rfl) ?_
 obtain ⟨v1, h2, hr⟩ := bind_some hr
 refine Meets.nilRep 4 ?_
 refine (qbo n 2 0 ([]) none 0 _ h2).atR [0] rfl rfl rfl ?_
 rintro _ _ ⟨a3, c3, rfl, rfl⟩
 obtain ⟨v4, h5, hr⟩ := bind_some hr
 refine (qbo n 2 1 ([]) none 0 _ h5).atR [0] rfl rfl rfl ?_
 rintro _ _ ⟨a6, c6, rfl, rfl⟩
 obtain ⟨v7, h8, hr⟩ := bind_some hr
 obtain ⟨v10, h11, hr⟩ := bind_some hr
 obtain ⟨v13, h14, hr⟩ := bind_some hr
 obtain ⟨v17, h18, hr⟩ := bind_some hr
 refine ⟨?_, ?_⟩
 ·
  refine (qa0 n v1 v1 a3 c3 a3 c3 _ h8).atR [1, 1] rfl rfl rfl ?_
  rintro _ _ ⟨a21, c21, rfl, rfl⟩
  refine ⟨fun _ _ h => h, ?_⟩
  refine ⟨?_, ?_⟩
  ·
   refine (qa0 n v1 (Tm.mk 1 0 0 ([])) a3 c3 none 0 _ h11).atR [1, 0] rfl rfl rfl ?_
   rintro _ _ ⟨a22, c22, rfl, rfl⟩
   refine ⟨fun _ _ h => h, ?_⟩
   refine ⟨?_, ?_⟩
   ·
    refine (qa0 n v1 v10 a3 c3 a22 c22 _ h14).atR [1, 4] rfl rfl rfl ?_
    rintro _ _ ⟨a23, c23, rfl, rfl⟩
    refine ⟨fun _ _ h => h, ?_⟩
    refine ql (n := 2) ttOK 48 [.agg [.int .i64 v4.op, .int .i64 v4.hd, .int .i64 v4.n, .sl 4 (Tm.encL v4.args)], .agg [.int .i64 v4.op, .int .i64 v4.hd, .int .i64 v4.n, .sl 4 (Tm.encL v4.args)]] (ds' := (Tm.encL ([v4, v4]))) rfl (by kernel_rfl) ⟨⟨rfl, rfl, rfl, ⟨[(iS v4.op)], _, rfl, rfl, ⟨[(iS v4.hd)], _, rfl, rfl, ⟨[(iS v4.n)], _, rfl, rfl, ⟨[(tU v4.args a6 c6)], _, rfl, (.inl ⟨_, rfl, qr (j := 2) rfl⟩), rfl⟩⟩⟩⟩⟩, ⟨⟨rfl, rfl, rfl, ⟨[(iS v4.op)], _, rfl, rfl, ⟨[(iS v4.hd)], _, rfl, rfl, ⟨[(iS v4.n)], _, rfl, rfl, ⟨[(tU v4.args a6 c6)], _, rfl, (.inl ⟨_, rfl, qr (j := 2) rfl⟩), rfl⟩⟩⟩⟩⟩, trivial⟩⟩ rfl (by simp only [Tm.encL_eq, List.map_cons, List.map_nil, Tm.enc_eq] <;> rfl) (by decide) (by decide) ?_
    intro a24
    refine ⟨fun _ _ h => h, ?_⟩
    refine (qbo n 2 3 ([v4, v4]) a24 2 _ h18).atR [6] rfl rfl rfl ?_
    rintro _ _ ⟨a25, c25, rfl, rfl⟩
    refine ⟨fun _ _ h => h, ?_⟩
    refine ql (n := 5) ttOK 72 [.agg [.str (⟨#[110, 97, 116]⟩), .agg [.int .i64 1, .int .i64 0, .int .i64 0, .sl 4 []], .int .i64 0], .agg [.str (⟨#[122]⟩), .agg [.int .i64 v1.op, .int .i64 v1.hd, .int .i64 v1.n, .sl 4 (Tm.encL v1.args)], .int .i64 0], .agg [.str (⟨#[115]⟩), .agg [.int .i64 v7.op, .int .i64 v7.hd, .int .i64 v7.n, .sl 4 (Tm.encL v7.args)], .int .i64 0], .agg [.str (⟨#[100, 111, 117, 98, 108, 101]⟩), .agg [.int .i64 v13.op, .int .i64 v13.hd, .int .i64 v13.n, .sl 4 (Tm.encL v13.args)], .int .i64 0], .agg [.str (⟨#[100, 122]⟩), .agg [.int .i64 v17.op, .int .i64 v17.hd, .int .i64 v17.n, .sl 4 (Tm.encL v17.args)], .int .i64 0]] (ds' := (Dc.encL ([(Dc.mk (⟨#[110, 97, 116]⟩) (Tm.mk 1 0 0 ([])) 0), (Dc.mk (⟨#[122]⟩) v1 0), (Dc.mk (⟨#[115]⟩) v7 0), (Dc.mk (⟨#[100, 111, 117, 98, 108, 101]⟩) v13 0), (Dc.mk (⟨#[100, 122]⟩) v17 0)]))) rfl (by kernel_rfl) ⟨⟨rfl, rfl, rfl, ⟨[(.v (.string (⟨#[110, 97, 116]⟩)))], _, rfl, rfl, ⟨[(iS 1), (iS 0), (iS 0), (.v (.slice none 0 0))], _, rfl, ⟨[(iS 1)], _, rfl, rfl, ⟨[(iS 0)], _, rfl, rfl, ⟨[(iS 0)], _, rfl, rfl, ⟨[(.v (.slice none 0 0))], _, rfl, (.inr ⟨rfl, rfl⟩), rfl⟩⟩⟩⟩, ⟨[(iS 0)], _, rfl, rfl, rfl⟩⟩⟩⟩, ⟨⟨rfl, rfl, rfl, ⟨[(.v (.string (⟨#[122]⟩)))], _, rfl, rfl, ⟨[(iS v1.op), (iS v1.hd), (iS v1.n), (tU v1.args a3 c3)], _, rfl, ⟨[(iS v1.op)], _, rfl, rfl, ⟨[(iS v1.hd)], _, rfl, rfl, ⟨[(iS v1.n)], _, rfl, rfl, ⟨[(tU v1.args a3 c3)], _, rfl, (.inl ⟨_, rfl, qr (j := 1) rfl⟩), rfl⟩⟩⟩⟩, ⟨[(iS 0)], _, rfl, rfl, rfl⟩⟩⟩⟩, ⟨⟨rfl, rfl, rfl, ⟨[(.v (.string (⟨#[115]⟩)))], _, rfl, rfl, ⟨[(iS v7.op), (iS v7.hd), (iS v7.n), (tU v7.args a21 c21)], _, rfl, ⟨[(iS v7.op)], _, rfl, rfl, ⟨[(iS v7.hd)], _, rfl, rfl, ⟨[(iS v7.n)], _, rfl, rfl, ⟨[(tU v7.args a21 c21)], _, rfl, (.inl ⟨_, rfl, qr (j := 3) rfl⟩), rfl⟩⟩⟩⟩, ⟨[(iS 0)], _, rfl, rfl, rfl⟩⟩⟩⟩, ⟨⟨rfl, rfl, rfl, ⟨[(.v (.string (⟨#[100, 111, 117, 98, 108, 101]⟩)))], _, rfl, rfl, ⟨[(iS v13.op), (iS v13.hd), (iS v13.n), (tU v13.args a23 c23)], _, rfl, ⟨[(iS v13.op)], _, rfl, rfl, ⟨[(iS v13.hd)], _, rfl, rfl, ⟨[(iS v13.n)], _, rfl, rfl, ⟨[(tU v13.args a23 c23)], _, rfl, (.inl ⟨_, rfl, qr (j := 5) rfl⟩), rfl⟩⟩⟩⟩, ⟨[(iS 0)], _, rfl, rfl, rfl⟩⟩⟩⟩, ⟨⟨rfl, rfl, rfl, ⟨[(.v (.string (⟨#[100, 122]⟩)))], _, rfl, rfl, ⟨[(iS v17.op), (iS v17.hd), (iS v17.n), (tU v17.args a25 c25)], _, rfl, ⟨[(iS v17.op)], _, rfl, rfl, ⟨[(iS v17.hd)], _, rfl, rfl, ⟨[(iS v17.n)], _, rfl, rfl, ⟨[(tU v17.args a25 c25)], _, rfl, (.inl ⟨_, rfl, qr (j := 7) rfl⟩), rfl⟩⟩⟩⟩, ⟨[(iS 0)], _, rfl, rfl, rfl⟩⟩⟩⟩, trivial⟩⟩⟩⟩⟩ rfl (by simp only [Dc.encL_eq, List.map_cons, List.map_nil, Dc.enc_eq] <;> rfl) (by decide) (by decide) ?_
    intro a26
    replace hr := osi hr; subst hr
    exact qa [.old 8] [(.slice a26 ((Dc.encL ([(Dc.mk (⟨#[110, 97, 116]⟩) (Tm.mk 1 0 0 ([])) 0), (Dc.mk (⟨#[122]⟩) v1 0), (Dc.mk (⟨#[115]⟩) v7 0), (Dc.mk (⟨#[100, 111, 117, 98, 108, 101]⟩) v13 0), (Dc.mk (⟨#[100, 122]⟩) v17 0)])).length) 5, .sl 6 (Dc.encL ([(Dc.mk (⟨#[110, 97, 116]⟩) (Tm.mk 1 0 0 ([])) 0), (Dc.mk (⟨#[122]⟩) v1 0), (Dc.mk (⟨#[115]⟩) v7 0), (Dc.mk (⟨#[100, 111, 117, 98, 108, 101]⟩) v13 0), (Dc.mk (⟨#[100, 122]⟩) v17 0)])))] rfl rfl ⟨a26, 5, rfl, rfl⟩
   ·
    refine ql (n := 2) ttOK 48 [.agg [.int .i64 v4.op, .int .i64 v4.hd, .int .i64 v4.n, .sl 4 (Tm.encL v4.args)], .agg [.int .i64 v4.op, .int .i64 v4.hd, .int .i64 v4.n, .sl 4 (Tm.encL v4.args)]] (ds' := (Tm.encL ([v4, v4]))) rfl (by kernel_rfl) ⟨⟨rfl, rfl, rfl, ⟨[(iS v4.op)], _, rfl, rfl, ⟨[(iS v4.hd)], _, rfl, rfl, ⟨[(iS v4.n)], _, rfl, rfl, ⟨[(tU v4.args a6 c6)], _, rfl, (.inl ⟨_, rfl, qr (j := 2) rfl⟩), rfl⟩⟩⟩⟩⟩, ⟨⟨rfl, rfl, rfl, ⟨[(iS v4.op)], _, rfl, rfl, ⟨[(iS v4.hd)], _, rfl, rfl, ⟨[(iS v4.n)], _, rfl, rfl, ⟨[(tU v4.args a6 c6)], _, rfl, (.inl ⟨_, rfl, qr (j := 2) rfl⟩), rfl⟩⟩⟩⟩⟩, trivial⟩⟩ rfl (by simp only [Tm.encL_eq, List.map_cons, List.map_nil, Tm.enc_eq] <;> rfl) (by decide) (by decide) ?_
    intro a27
    refine ⟨fun _ _ h => h, ?_⟩
    refine (qa0 n v1 v10 a3 c3 a22 c22 _ h14).atR [1, 4] rfl rfl rfl ?_
    rintro _ _ ⟨a28, c28, rfl, rfl⟩
    refine ⟨fun _ _ h => h, ?_⟩
    refine (qbo n 2 3 ([v4, v4]) a27 2 _ h18).atR [5] rfl rfl rfl ?_
    rintro _ _ ⟨a29, c29, rfl, rfl⟩
    refine ⟨fun _ _ h => h, ?_⟩
    refine ql (n := 5) ttOK 72 [.agg [.str (⟨#[110, 97, 116]⟩), .agg [.int .i64 1, .int .i64 0, .int .i64 0, .sl 4 []], .int .i64 0], .agg [.str (⟨#[122]⟩), .agg [.int .i64 v1.op, .int .i64 v1.hd, .int .i64 v1.n, .sl 4 (Tm.encL v1.args)], .int .i64 0], .agg [.str (⟨#[115]⟩), .agg [.int .i64 v7.op, .int .i64 v7.hd, .int .i64 v7.n, .sl 4 (Tm.encL v7.args)], .int .i64 0], .agg [.str (⟨#[100, 111, 117, 98, 108, 101]⟩), .agg [.int .i64 v13.op, .int .i64 v13.hd, .int .i64 v13.n, .sl 4 (Tm.encL v13.args)], .int .i64 0], .agg [.str (⟨#[100, 122]⟩), .agg [.int .i64 v17.op, .int .i64 v17.hd, .int .i64 v17.n, .sl 4 (Tm.encL v17.args)], .int .i64 0]] (ds' := (Dc.encL ([(Dc.mk (⟨#[110, 97, 116]⟩) (Tm.mk 1 0 0 ([])) 0), (Dc.mk (⟨#[122]⟩) v1 0), (Dc.mk (⟨#[115]⟩) v7 0), (Dc.mk (⟨#[100, 111, 117, 98, 108, 101]⟩) v13 0), (Dc.mk (⟨#[100, 122]⟩) v17 0)]))) rfl (by kernel_rfl) ⟨⟨rfl, rfl, rfl, ⟨[(.v (.string (⟨#[110, 97, 116]⟩)))], _, rfl, rfl, ⟨[(iS 1), (iS 0), (iS 0), (.v (.slice none 0 0))], _, rfl, ⟨[(iS 1)], _, rfl, rfl, ⟨[(iS 0)], _, rfl, rfl, ⟨[(iS 0)], _, rfl, rfl, ⟨[(.v (.slice none 0 0))], _, rfl, (.inr ⟨rfl, rfl⟩), rfl⟩⟩⟩⟩, ⟨[(iS 0)], _, rfl, rfl, rfl⟩⟩⟩⟩, ⟨⟨rfl, rfl, rfl, ⟨[(.v (.string (⟨#[122]⟩)))], _, rfl, rfl, ⟨[(iS v1.op), (iS v1.hd), (iS v1.n), (tU v1.args a3 c3)], _, rfl, ⟨[(iS v1.op)], _, rfl, rfl, ⟨[(iS v1.hd)], _, rfl, rfl, ⟨[(iS v1.n)], _, rfl, rfl, ⟨[(tU v1.args a3 c3)], _, rfl, (.inl ⟨_, rfl, qr (j := 1) rfl⟩), rfl⟩⟩⟩⟩, ⟨[(iS 0)], _, rfl, rfl, rfl⟩⟩⟩⟩, ⟨⟨rfl, rfl, rfl, ⟨[(.v (.string (⟨#[115]⟩)))], _, rfl, rfl, ⟨[(iS v7.op), (iS v7.hd), (iS v7.n), (tU v7.args a21 c21)], _, rfl, ⟨[(iS v7.op)], _, rfl, rfl, ⟨[(iS v7.hd)], _, rfl, rfl, ⟨[(iS v7.n)], _, rfl, rfl, ⟨[(tU v7.args a21 c21)], _, rfl, (.inl ⟨_, rfl, qr (j := 3) rfl⟩), rfl⟩⟩⟩⟩, ⟨[(iS 0)], _, rfl, rfl, rfl⟩⟩⟩⟩, ⟨⟨rfl, rfl, rfl, ⟨[(.v (.string (⟨#[100, 111, 117, 98, 108, 101]⟩)))], _, rfl, rfl, ⟨[(iS v13.op), (iS v13.hd), (iS v13.n), (tU v13.args a28 c28)], _, rfl, ⟨[(iS v13.op)], _, rfl, rfl, ⟨[(iS v13.hd)], _, rfl, rfl, ⟨[(iS v13.n)], _, rfl, rfl, ⟨[(tU v13.args a28 c28)], _, rfl, (.inl ⟨_, rfl, qr (j := 6) rfl⟩), rfl⟩⟩⟩⟩, ⟨[(iS 0)], _, rfl, rfl, rfl⟩⟩⟩⟩, ⟨⟨rfl, rfl, rfl, ⟨[(.v (.string (⟨#[100, 122]⟩)))], _, rfl, rfl, ⟨[(iS v17.op), (iS v17.hd), (iS v17.n), (tU v17.args a29 c29)], _, rfl, ⟨[(iS v17.op)], _, rfl, rfl, ⟨[(iS v17.hd)], _, rfl, rfl, ⟨[(iS v17.n)], _, rfl, rfl, ⟨[(tU v17.args a29 c29)], _, rfl, (.inl ⟨_, rfl, qr (j := 7) rfl⟩), rfl⟩⟩⟩⟩, ⟨[(iS 0)], _, rfl, rfl, rfl⟩⟩⟩⟩, trivial⟩⟩⟩⟩⟩ rfl (by simp only [Dc.encL_eq, List.map_cons, List.map_nil, Dc.enc_eq] <;> rfl) (by decide) (by decide) ?_
    intro a30
    replace hr := osi hr; subst hr
    exact qa [.old 8] [(.slice a30 ((Dc.encL ([(Dc.mk (⟨#[110, 97, 116]⟩) (Tm.mk 1 0 0 ([])) 0), (Dc.mk (⟨#[122]⟩) v1 0), (Dc.mk (⟨#[115]⟩) v7 0), (Dc.mk (⟨#[100, 111, 117, 98, 108, 101]⟩) v13 0), (Dc.mk (⟨#[100, 122]⟩) v17 0)])).length) 5, .sl 6 (Dc.encL ([(Dc.mk (⟨#[110, 97, 116]⟩) (Tm.mk 1 0 0 ([])) 0), (Dc.mk (⟨#[122]⟩) v1 0), (Dc.mk (⟨#[115]⟩) v7 0), (Dc.mk (⟨#[100, 111, 117, 98, 108, 101]⟩) v13 0), (Dc.mk (⟨#[100, 122]⟩) v17 0)])))] rfl rfl ⟨a30, 5, rfl, rfl⟩
  ·
   refine ql (n := 2) ttOK 48 [.agg [.int .i64 v4.op, .int .i64 v4.hd, .int .i64 v4.n, .sl 4 (Tm.encL v4.args)], .agg [.int .i64 v4.op, .int .i64 v4.hd, .int .i64 v4.n, .sl 4 (Tm.encL v4.args)]] (ds' := (Tm.encL ([v4, v4]))) rfl (by kernel_rfl) ⟨⟨rfl, rfl, rfl, ⟨[(iS v4.op)], _, rfl, rfl, ⟨[(iS v4.hd)], _, rfl, rfl, ⟨[(iS v4.n)], _, rfl, rfl, ⟨[(tU v4.args a6 c6)], _, rfl, (.inl ⟨_, rfl, qr (j := 2) rfl⟩), rfl⟩⟩⟩⟩⟩, ⟨⟨rfl, rfl, rfl, ⟨[(iS v4.op)], _, rfl, rfl, ⟨[(iS v4.hd)], _, rfl, rfl, ⟨[(iS v4.n)], _, rfl, rfl, ⟨[(tU v4.args a6 c6)], _, rfl, (.inl ⟨_, rfl, qr (j := 2) rfl⟩), rfl⟩⟩⟩⟩⟩, trivial⟩⟩ rfl (by simp only [Tm.encL_eq, List.map_cons, List.map_nil, Tm.enc_eq] <;> rfl) (by decide) (by decide) ?_
   intro a31
   refine ⟨fun _ _ h => h, ?_⟩
   refine (qa0 n v1 (Tm.mk 1 0 0 ([])) a3 c3 none 0 _ h11).atR [1, 0] rfl rfl rfl ?_
   rintro _ _ ⟨a32, c32, rfl, rfl⟩
   refine ⟨fun _ _ h => h, ?_⟩
   refine (qa0 n v1 v10 a3 c3 a32 c32 _ h14).atR [1, 5] rfl rfl rfl ?_
   rintro _ _ ⟨a33, c33, rfl, rfl⟩
   refine ⟨fun _ _ h => h, ?_⟩
   refine (qbo n 2 3 ([v4, v4]) a31 2 _ h18).atR [4] rfl rfl rfl ?_
   rintro _ _ ⟨a34, c34, rfl, rfl⟩
   refine ⟨fun _ _ h => h, ?_⟩
   refine ql (n := 5) ttOK 72 [.agg [.str (⟨#[110, 97, 116]⟩), .agg [.int .i64 1, .int .i64 0, .int .i64 0, .sl 4 []], .int .i64 0], .agg [.str (⟨#[122]⟩), .agg [.int .i64 v1.op, .int .i64 v1.hd, .int .i64 v1.n, .sl 4 (Tm.encL v1.args)], .int .i64 0], .agg [.str (⟨#[115]⟩), .agg [.int .i64 v7.op, .int .i64 v7.hd, .int .i64 v7.n, .sl 4 (Tm.encL v7.args)], .int .i64 0], .agg [.str (⟨#[100, 111, 117, 98, 108, 101]⟩), .agg [.int .i64 v13.op, .int .i64 v13.hd, .int .i64 v13.n, .sl 4 (Tm.encL v13.args)], .int .i64 0], .agg [.str (⟨#[100, 122]⟩), .agg [.int .i64 v17.op, .int .i64 v17.hd, .int .i64 v17.n, .sl 4 (Tm.encL v17.args)], .int .i64 0]] (ds' := (Dc.encL ([(Dc.mk (⟨#[110, 97, 116]⟩) (Tm.mk 1 0 0 ([])) 0), (Dc.mk (⟨#[122]⟩) v1 0), (Dc.mk (⟨#[115]⟩) v7 0), (Dc.mk (⟨#[100, 111, 117, 98, 108, 101]⟩) v13 0), (Dc.mk (⟨#[100, 122]⟩) v17 0)]))) rfl (by kernel_rfl) ⟨⟨rfl, rfl, rfl, ⟨[(.v (.string (⟨#[110, 97, 116]⟩)))], _, rfl, rfl, ⟨[(iS 1), (iS 0), (iS 0), (.v (.slice none 0 0))], _, rfl, ⟨[(iS 1)], _, rfl, rfl, ⟨[(iS 0)], _, rfl, rfl, ⟨[(iS 0)], _, rfl, rfl, ⟨[(.v (.slice none 0 0))], _, rfl, (.inr ⟨rfl, rfl⟩), rfl⟩⟩⟩⟩, ⟨[(iS 0)], _, rfl, rfl, rfl⟩⟩⟩⟩, ⟨⟨rfl, rfl, rfl, ⟨[(.v (.string (⟨#[122]⟩)))], _, rfl, rfl, ⟨[(iS v1.op), (iS v1.hd), (iS v1.n), (tU v1.args a3 c3)], _, rfl, ⟨[(iS v1.op)], _, rfl, rfl, ⟨[(iS v1.hd)], _, rfl, rfl, ⟨[(iS v1.n)], _, rfl, rfl, ⟨[(tU v1.args a3 c3)], _, rfl, (.inl ⟨_, rfl, qr (j := 1) rfl⟩), rfl⟩⟩⟩⟩, ⟨[(iS 0)], _, rfl, rfl, rfl⟩⟩⟩⟩, ⟨⟨rfl, rfl, rfl, ⟨[(.v (.string (⟨#[115]⟩)))], _, rfl, rfl, ⟨[(iS v7.op), (iS v7.hd), (iS v7.n), (tU v7.args a21 c21)], _, rfl, ⟨[(iS v7.op)], _, rfl, rfl, ⟨[(iS v7.hd)], _, rfl, rfl, ⟨[(iS v7.n)], _, rfl, rfl, ⟨[(tU v7.args a21 c21)], _, rfl, (.inl ⟨_, rfl, qr (j := 3) rfl⟩), rfl⟩⟩⟩⟩, ⟨[(iS 0)], _, rfl, rfl, rfl⟩⟩⟩⟩, ⟨⟨rfl, rfl, rfl, ⟨[(.v (.string (⟨#[100, 111, 117, 98, 108, 101]⟩)))], _, rfl, rfl, ⟨[(iS v13.op), (iS v13.hd), (iS v13.n), (tU v13.args a33 c33)], _, rfl, ⟨[(iS v13.op)], _, rfl, rfl, ⟨[(iS v13.hd)], _, rfl, rfl, ⟨[(iS v13.n)], _, rfl, rfl, ⟨[(tU v13.args a33 c33)], _, rfl, (.inl ⟨_, rfl, qr (j := 6) rfl⟩), rfl⟩⟩⟩⟩, ⟨[(iS 0)], _, rfl, rfl, rfl⟩⟩⟩⟩, ⟨⟨rfl, rfl, rfl, ⟨[(.v (.string (⟨#[100, 122]⟩)))], _, rfl, rfl, ⟨[(iS v17.op), (iS v17.hd), (iS v17.n), (tU v17.args a34 c34)], _, rfl, ⟨[(iS v17.op)], _, rfl, rfl, ⟨[(iS v17.hd)], _, rfl, rfl, ⟨[(iS v17.n)], _, rfl, rfl, ⟨[(tU v17.args a34 c34)], _, rfl, (.inl ⟨_, rfl, qr (j := 7) rfl⟩), rfl⟩⟩⟩⟩, ⟨[(iS 0)], _, rfl, rfl, rfl⟩⟩⟩⟩, trivial⟩⟩⟩⟩⟩ rfl (by simp only [Dc.encL_eq, List.map_cons, List.map_nil, Dc.enc_eq] <;> rfl) (by decide) (by decide) ?_
   intro a35
   replace hr := osi hr; subst hr
   exact qa [.old 8] [(.slice a35 ((Dc.encL ([(Dc.mk (⟨#[110, 97, 116]⟩) (Tm.mk 1 0 0 ([])) 0), (Dc.mk (⟨#[122]⟩) v1 0), (Dc.mk (⟨#[115]⟩) v7 0), (Dc.mk (⟨#[100, 111, 117, 98, 108, 101]⟩) v13 0), (Dc.mk (⟨#[100, 122]⟩) v17 0)])).length) 5, .sl 6 (Dc.encL ([(Dc.mk (⟨#[110, 97, 116]⟩) (Tm.mk 1 0 0 ([])) 0), (Dc.mk (⟨#[122]⟩) v1 0), (Dc.mk (⟨#[115]⟩) v7 0), (Dc.mk (⟨#[100, 111, 117, 98, 108, 101]⟩) v13 0), (Dc.mk (⟨#[100, 122]⟩) v17 0)])))] rfl rfl ⟨a35, 5, rfl, rfl⟩
 ·
  refine ql (n := 2) ttOK 48 [.agg [.int .i64 v4.op, .int .i64 v4.hd, .int .i64 v4.n, .sl 4 (Tm.encL v4.args)], .agg [.int .i64 v4.op, .int .i64 v4.hd, .int .i64 v4.n, .sl 4 (Tm.encL v4.args)]] (ds' := (Tm.encL ([v4, v4]))) rfl (by kernel_rfl) ⟨⟨rfl, rfl, rfl, ⟨[(iS v4.op)], _, rfl, rfl, ⟨[(iS v4.hd)], _, rfl, rfl, ⟨[(iS v4.n)], _, rfl, rfl, ⟨[(tU v4.args a6 c6)], _, rfl, (.inl ⟨_, rfl, qr (j := 2) rfl⟩), rfl⟩⟩⟩⟩⟩, ⟨⟨rfl, rfl, rfl, ⟨[(iS v4.op)], _, rfl, rfl, ⟨[(iS v4.hd)], _, rfl, rfl, ⟨[(iS v4.n)], _, rfl, rfl, ⟨[(tU v4.args a6 c6)], _, rfl, (.inl ⟨_, rfl, qr (j := 2) rfl⟩), rfl⟩⟩⟩⟩⟩, trivial⟩⟩ rfl (by simp only [Tm.encL_eq, List.map_cons, List.map_nil, Tm.enc_eq] <;> rfl) (by decide) (by decide) ?_
  intro a36
  refine ⟨fun _ _ h => h, ?_⟩
  refine (qa0 n v1 v1 a3 c3 a3 c3 _ h8).atR [1, 1] rfl rfl rfl ?_
  rintro _ _ ⟨a37, c37, rfl, rfl⟩
  refine ⟨fun _ _ h => h, ?_⟩
  refine (qa0 n v1 (Tm.mk 1 0 0 ([])) a3 c3 none 0 _ h11).atR [1, 0] rfl rfl rfl ?_
  rintro _ _ ⟨a38, c38, rfl, rfl⟩
  refine ⟨fun _ _ h => h, ?_⟩
  refine (qa0 n v1 v10 a3 c3 a38 c38 _ h14).atR [1, 5] rfl rfl rfl ?_
  rintro _ _ ⟨a39, c39, rfl, rfl⟩
  refine ⟨fun _ _ h => h, ?_⟩
  refine (qbo n 2 3 ([v4, v4]) a36 2 _ h18).atR [3] rfl rfl rfl ?_
  rintro _ _ ⟨a40, c40, rfl, rfl⟩
  refine ⟨fun _ _ h => h, ?_⟩
  refine ql (n := 5) ttOK 72 [.agg [.str (⟨#[110, 97, 116]⟩), .agg [.int .i64 1, .int .i64 0, .int .i64 0, .sl 4 []], .int .i64 0], .agg [.str (⟨#[122]⟩), .agg [.int .i64 v1.op, .int .i64 v1.hd, .int .i64 v1.n, .sl 4 (Tm.encL v1.args)], .int .i64 0], .agg [.str (⟨#[115]⟩), .agg [.int .i64 v7.op, .int .i64 v7.hd, .int .i64 v7.n, .sl 4 (Tm.encL v7.args)], .int .i64 0], .agg [.str (⟨#[100, 111, 117, 98, 108, 101]⟩), .agg [.int .i64 v13.op, .int .i64 v13.hd, .int .i64 v13.n, .sl 4 (Tm.encL v13.args)], .int .i64 0], .agg [.str (⟨#[100, 122]⟩), .agg [.int .i64 v17.op, .int .i64 v17.hd, .int .i64 v17.n, .sl 4 (Tm.encL v17.args)], .int .i64 0]] (ds' := (Dc.encL ([(Dc.mk (⟨#[110, 97, 116]⟩) (Tm.mk 1 0 0 ([])) 0), (Dc.mk (⟨#[122]⟩) v1 0), (Dc.mk (⟨#[115]⟩) v7 0), (Dc.mk (⟨#[100, 111, 117, 98, 108, 101]⟩) v13 0), (Dc.mk (⟨#[100, 122]⟩) v17 0)]))) rfl (by kernel_rfl) ⟨⟨rfl, rfl, rfl, ⟨[(.v (.string (⟨#[110, 97, 116]⟩)))], _, rfl, rfl, ⟨[(iS 1), (iS 0), (iS 0), (.v (.slice none 0 0))], _, rfl, ⟨[(iS 1)], _, rfl, rfl, ⟨[(iS 0)], _, rfl, rfl, ⟨[(iS 0)], _, rfl, rfl, ⟨[(.v (.slice none 0 0))], _, rfl, (.inr ⟨rfl, rfl⟩), rfl⟩⟩⟩⟩, ⟨[(iS 0)], _, rfl, rfl, rfl⟩⟩⟩⟩, ⟨⟨rfl, rfl, rfl, ⟨[(.v (.string (⟨#[122]⟩)))], _, rfl, rfl, ⟨[(iS v1.op), (iS v1.hd), (iS v1.n), (tU v1.args a3 c3)], _, rfl, ⟨[(iS v1.op)], _, rfl, rfl, ⟨[(iS v1.hd)], _, rfl, rfl, ⟨[(iS v1.n)], _, rfl, rfl, ⟨[(tU v1.args a3 c3)], _, rfl, (.inl ⟨_, rfl, qr (j := 1) rfl⟩), rfl⟩⟩⟩⟩, ⟨[(iS 0)], _, rfl, rfl, rfl⟩⟩⟩⟩, ⟨⟨rfl, rfl, rfl, ⟨[(.v (.string (⟨#[115]⟩)))], _, rfl, rfl, ⟨[(iS v7.op), (iS v7.hd), (iS v7.n), (tU v7.args a37 c37)], _, rfl, ⟨[(iS v7.op)], _, rfl, rfl, ⟨[(iS v7.hd)], _, rfl, rfl, ⟨[(iS v7.n)], _, rfl, rfl, ⟨[(tU v7.args a37 c37)], _, rfl, (.inl ⟨_, rfl, qr (j := 4) rfl⟩), rfl⟩⟩⟩⟩, ⟨[(iS 0)], _, rfl, rfl, rfl⟩⟩⟩⟩, ⟨⟨rfl, rfl, rfl, ⟨[(.v (.string (⟨#[100, 111, 117, 98, 108, 101]⟩)))], _, rfl, rfl, ⟨[(iS v13.op), (iS v13.hd), (iS v13.n), (tU v13.args a39 c39)], _, rfl, ⟨[(iS v13.op)], _, rfl, rfl, ⟨[(iS v13.hd)], _, rfl, rfl, ⟨[(iS v13.n)], _, rfl, rfl, ⟨[(tU v13.args a39 c39)], _, rfl, (.inl ⟨_, rfl, qr (j := 6) rfl⟩), rfl⟩⟩⟩⟩, ⟨[(iS 0)], _, rfl, rfl, rfl⟩⟩⟩⟩, ⟨⟨rfl, rfl, rfl, ⟨[(.v (.string (⟨#[100, 122]⟩)))], _, rfl, rfl, ⟨[(iS v17.op), (iS v17.hd), (iS v17.n), (tU v17.args a40 c40)], _, rfl, ⟨[(iS v17.op)], _, rfl, rfl, ⟨[(iS v17.hd)], _, rfl, rfl, ⟨[(iS v17.n)], _, rfl, rfl, ⟨[(tU v17.args a40 c40)], _, rfl, (.inl ⟨_, rfl, qr (j := 7) rfl⟩), rfl⟩⟩⟩⟩, ⟨[(iS 0)], _, rfl, rfl, rfl⟩⟩⟩⟩, trivial⟩⟩⟩⟩⟩ rfl (by simp only [Dc.encL_eq, List.map_cons, List.map_nil, Dc.enc_eq] <;> rfl) (by decide) (by decide) ?_
  intro a41
  replace hr := osi hr; subst hr
  exact qa [.old 8] [(.slice a41 ((Dc.encL ([(Dc.mk (⟨#[110, 97, 116]⟩) (Tm.mk 1 0 0 ([])) 0), (Dc.mk (⟨#[122]⟩) v1 0), (Dc.mk (⟨#[115]⟩) v7 0), (Dc.mk (⟨#[100, 111, 117, 98, 108, 101]⟩) v13 0), (Dc.mk (⟨#[100, 122]⟩) v17 0)])).length) 5, .sl 6 (Dc.encL ([(Dc.mk (⟨#[110, 97, 116]⟩) (Tm.mk 1 0 0 ([])) 0), (Dc.mk (⟨#[122]⟩) v1 0), (Dc.mk (⟨#[115]⟩) v7 0), (Dc.mk (⟨#[100, 111, 117, 98, 108, 101]⟩) v13 0), (Dc.mk (⟨#[100, 122]⟩) v17 0)])))] rfl rfl ⟨a41, 5, rfl, rfl⟩
mutual
def W14_awake : Nat → Option (Bool)
 | 0 => none
 | n + 1 =>
  (W14_sample n ).bind (fun v11 =>
  (mode_Read n v11 (It.mk (⟨#[109, 111, 100, 101]⟩) ByteArray.empty (Rw.mk 0 ByteArray.empty ([])) ([(Pt.mk 1 ByteArray.empty (⟨#[100, 111, 117, 98, 108, 101]⟩) 0 (Rw.mk 0 ByteArray.empty ([])) ([])), (Pt.mk 2 (⟨#[43]⟩) (⟨#[88]⟩) 0 (Rw.mk 0 ByteArray.empty ([])) ([])), (Pt.mk 2 (⟨#[45]⟩) (⟨#[89]⟩) 0 (Rw.mk 0 ByteArray.empty ([])) ([]))]))).bind (fun v15 =>
  W14_awake_C1 n v15.1 v15.2))
def W14_awake_C2 : Nat → Int → Option (Bool)
 | 0, _ => none
 | n + 1, v66 =>
  cond (((((v66 != 0) || false) || false) || false) || false) (
  some (false)) (
  some (true))
def W14_awake_C1 : Nat → Md → Int → Option (Bool)
 | 0, _, _ => none
 | n + 1, v21, v23 =>
  cond (((v23 != 0) || (v21.family != 3)) || (((List.map (D.int .i64) v21.signs).length : Int) != 2)) (
  some (false)) (
  (idx v21.signs 0).bind (fun v40 =>
  cond (v40 != 1) (
  some (false)) (
  (idx v21.signs 1).bind (fun v45 =>
  cond (v45 != 2) (
  some (false)) (
  (W14_sample n ).bind (fun v58 =>
  (mode_Check n v58 ([v21]) 4).bind (fun v62 =>
  W14_awake_C2 n v62.2.2)))))))
 end
theorem qb3 (n : Nat)  (r : Bool) (hr : W14_awake n  = some r) : Pure Tryz.prog (.val (.fn (.func 12) [] [])) [] [] (fun r' out => r' = (bS r) ∧ out = []) := by
 rcases n with _ | n
 ·exact qe hr
 rw [W14_awake.eq_2] at hr
 refine qb (N := 63) (m := 0) (dt := drawsOf [(2, .node [1, 2, 3] [(0, .node [] [(4, .node [5] [(6, .node [7, 8, 9] [(10, .node [] [(11, .leaf [12])])]), (10, .node [] [(6, .node [7, 8, 9] [(11, .leaf [12])])])]), (10, .node [] [(4, .node [5] [(6, .node [7, 8, 9] [(11, .leaf [12])])])])]), (4, .node [5] [(0, .node [] [(6, .node [7, 8, 9] [(10, .node [] [(11, .leaf [12])])]), (10, .node [] [(6, .node [7, 8, 9] [(11, .leaf [12])])])]), (10, .node [] [(0, .node [] [(6, .node [7, 8, 9] [(11, .leaf [12])])])])]), (10, .node [] [(0, .node [] [(4, .node [5] [(6, .node [7, 8, 9] [(11, .leaf [12])])])]), (4, .node [5] [(0, .node [] [(6, .node [7, 8, 9] [(11, .leaf [12])])])])])], [4, 6], [1]), (5, .node [1] [(0, .node [] [(2, .node [] [(3, .leaf [4, 5, 6, 7, 8, 9, 10])])]), (2, .node [] [(0, .node [] [(3, .leaf [4, 5, 6, 7, 8, 9, 10])])])], [2, 3], [])]) [2, 5] ttOK func12 rfl call12 ntmps12 rfl rfl rfl mixed (by kernel_rfl) ?_
 refine AtCut.mk ⟨Nat × Md × Option Addr × Nat × Int, fun x => [(2, (.loc 1 0)), (3, (iS x.2.2.2.2))], fun x => ⟨[.cells 74 [(iS 2), (.v (.string (⟨#[43]⟩))), (.v (.string (⟨#[88]⟩))), (iS 0), (iS 0), (sS ByteArray.empty), (.v (.slice none 0 0)), (.v (.slice none 0 0))], .cells 31 [(iS x.2.1.family), (nU x.2.1.signs x.2.2.1 x.2.2.2.1)]], [], [(nQ x.2.1.signs x.2.2.1 x.2.2.2.1)]⟩, fun x => W14_awake_C1 x.1 x.2.1 x.2.2.2.2 = some r, fun x _ => ⟨rfl, rfl⟩, ?_, ?_⟩
 ·
  obtain ⟨v11, h12, hr⟩ := bind_some hr
  obtain ⟨v15, h16, hr⟩ := bind_some hr
  refine ⟨?_, ?_⟩
  ·
   refine (qar n  _ h12).atR [] rfl rfl rfl ?_
   rintro _ _ ⟨a18, c18, rfl, rfl⟩
   refine ⟨fun _ _ h => h, ?_⟩
   refine ⟨?_, ?_⟩
   ·
    refine ql (n := 3) ttOK 120 [.agg [.int .i64 1, .str ByteArray.empty, .str (⟨#[100, 111, 117, 98, 108, 101]⟩), .int .i64 0, .agg [.int .i64 0, .str ByteArray.empty, .sl 3 []], .sl 8 []], .agg [.int .i64 2, .str (⟨#[43]⟩), .str (⟨#[88]⟩), .int .i64 0, .agg [.int .i64 0, .str ByteArray.empty, .sl 3 []], .sl 8 []], .agg [.int .i64 2, .str (⟨#[45]⟩), .str (⟨#[89]⟩), .int .i64 0, .agg [.int .i64 0, .str ByteArray.empty, .sl 3 []], .sl 8 []]] (ds' := (Pt.encL ([(Pt.mk 1 ByteArray.empty (⟨#[100, 111, 117, 98, 108, 101]⟩) 0 (Rw.mk 0 ByteArray.empty ([])) ([])), (Pt.mk 2 (⟨#[43]⟩) (⟨#[88]⟩) 0 (Rw.mk 0 ByteArray.empty ([])) ([])), (Pt.mk 2 (⟨#[45]⟩) (⟨#[89]⟩) 0 (Rw.mk 0 ByteArray.empty ([])) ([]))]))) rfl (by kernel_rfl) ⟨⟨rfl, rfl, rfl, ⟨[(iS 1)], _, rfl, rfl, ⟨[(sS ByteArray.empty)], _, rfl, rfl, ⟨[(.v (.string (⟨#[100, 111, 117, 98, 108, 101]⟩)))], _, rfl, rfl, ⟨[(iS 0)], _, rfl, rfl, ⟨[(iS 0), (sS ByteArray.empty), (.v (.slice none 0 0))], _, rfl, ⟨[(iS 0)], _, rfl, rfl, ⟨[(sS ByteArray.empty)], _, rfl, rfl, ⟨[(.v (.slice none 0 0))], _, rfl, (.inr ⟨rfl, rfl⟩), rfl⟩⟩⟩, ⟨[(.v (.slice none 0 0))], _, rfl, (.inr ⟨rfl, rfl⟩), rfl⟩⟩⟩⟩⟩⟩⟩, ⟨⟨rfl, rfl, rfl, ⟨[(iS 2)], _, rfl, rfl, ⟨[(.v (.string (⟨#[43]⟩)))], _, rfl, rfl, ⟨[(.v (.string (⟨#[88]⟩)))], _, rfl, rfl, ⟨[(iS 0)], _, rfl, rfl, ⟨[(iS 0), (sS ByteArray.empty), (.v (.slice none 0 0))], _, rfl, ⟨[(iS 0)], _, rfl, rfl, ⟨[(sS ByteArray.empty)], _, rfl, rfl, ⟨[(.v (.slice none 0 0))], _, rfl, (.inr ⟨rfl, rfl⟩), rfl⟩⟩⟩, ⟨[(.v (.slice none 0 0))], _, rfl, (.inr ⟨rfl, rfl⟩), rfl⟩⟩⟩⟩⟩⟩⟩, ⟨⟨rfl, rfl, rfl, ⟨[(iS 2)], _, rfl, rfl, ⟨[(.v (.string (⟨#[45]⟩)))], _, rfl, rfl, ⟨[(.v (.string (⟨#[89]⟩)))], _, rfl, rfl, ⟨[(iS 0)], _, rfl, rfl, ⟨[(iS 0), (sS ByteArray.empty), (.v (.slice none 0 0))], _, rfl, ⟨[(iS 0)], _, rfl, rfl, ⟨[(sS ByteArray.empty)], _, rfl, rfl, ⟨[(.v (.slice none 0 0))], _, rfl, (.inr ⟨rfl, rfl⟩), rfl⟩⟩⟩, ⟨[(.v (.slice none 0 0))], _, rfl, (.inr ⟨rfl, rfl⟩), rfl⟩⟩⟩⟩⟩⟩⟩, trivial⟩⟩⟩ rfl (by simp only [Pt.encL_eq, List.map_cons, List.map_nil, Pt.enc_eq] <;> rfl) (by decide) (by decide) ?_
    intro a19
    refine ⟨?_, ?_⟩
    ·
     refine Meets.nilRep 3 ?_
     refine (qap n v11 (It.mk (⟨#[109, 111, 100, 101]⟩) ByteArray.empty (Rw.mk 0 ByteArray.empty ([])) ([(Pt.mk 1 ByteArray.empty (⟨#[100, 111, 117, 98, 108, 101]⟩) 0 (Rw.mk 0 ByteArray.empty ([])) ([])), (Pt.mk 2 (⟨#[43]⟩) (⟨#[88]⟩) 0 (Rw.mk 0 ByteArray.empty ([])) ([])), (Pt.mk 2 (⟨#[45]⟩) (⟨#[89]⟩) 0 (Rw.mk 0 ByteArray.empty ([])) ([]))])) a18 c18 none 0 a19 3 _ h16).atR [1, 0, 2] rfl rfl rfl ?_
     rintro _ _ ⟨a20, c20, rfl, rfl⟩
     refine ⟨OwnKeptBut.append, ?_⟩
     refine ⟨fun _ _ h => h, ?_⟩
     exact ⟨(n, v15.1, a20, c20, v15.2), hr, ⟨rfl, rfl, trivial⟩, (StLe.gen 2 [] [.old 3] rfl rfl rfl rfl rfl rfl rfl)⟩
    ·
     refine ⟨OwnKeptBut.append, ?_⟩
     refine Meets.nilRep 3 ?_
     refine (qap n v11 (It.mk (⟨#[109, 111, 100, 101]⟩) ByteArray.empty (Rw.mk 0 ByteArray.empty ([])) ([(Pt.mk 1 ByteArray.empty (⟨#[100, 111, 117, 98, 108, 101]⟩) 0 (Rw.mk 0 ByteArray.empty ([])) ([])), (Pt.mk 2 (⟨#[43]⟩) (⟨#[88]⟩) 0 (Rw.mk 0 ByteArray.empty ([])) ([])), (Pt.mk 2 (⟨#[45]⟩) (⟨#[89]⟩) 0 (Rw.mk 0 ByteArray.empty ([])) ([]))])) a18 c18 none 0 a19 3 _ h16).atR [1, 0, 2] rfl rfl rfl ?_
     rintro _ _ ⟨a24, c24, rfl, rfl⟩
     refine ⟨fun _ _ h => h, ?_⟩
     exact ⟨(n, v15.1, a24, c24, v15.2), hr, ⟨rfl, rfl, trivial⟩, (StLe.gen 2 [] [.old 3] rfl rfl rfl rfl rfl rfl rfl)⟩
   ·
    refine ⟨OwnKeptBut.append, ?_⟩
    refine ql (n := 3) ttOK 120 [.agg [.int .i64 1, .str ByteArray.empty, .str (⟨#[100, 111, 117, 98, 108, 101]⟩), .int .i64 0, .agg [.int .i64 0, .str ByteArray.empty, .sl 3 []], .sl 8 []], .agg [.int .i64 2, .str (⟨#[43]⟩), .str (⟨#[88]⟩), .int .i64 0, .agg [.int .i64 0, .str ByteArray.empty, .sl 3 []], .sl 8 []], .agg [.int .i64 2, .str (⟨#[45]⟩), .str (⟨#[89]⟩), .int .i64 0, .agg [.int .i64 0, .str ByteArray.empty, .sl 3 []], .sl 8 []]] (ds' := (Pt.encL ([(Pt.mk 1 ByteArray.empty (⟨#[100, 111, 117, 98, 108, 101]⟩) 0 (Rw.mk 0 ByteArray.empty ([])) ([])), (Pt.mk 2 (⟨#[43]⟩) (⟨#[88]⟩) 0 (Rw.mk 0 ByteArray.empty ([])) ([])), (Pt.mk 2 (⟨#[45]⟩) (⟨#[89]⟩) 0 (Rw.mk 0 ByteArray.empty ([])) ([]))]))) rfl (by kernel_rfl) ⟨⟨rfl, rfl, rfl, ⟨[(iS 1)], _, rfl, rfl, ⟨[(sS ByteArray.empty)], _, rfl, rfl, ⟨[(.v (.string (⟨#[100, 111, 117, 98, 108, 101]⟩)))], _, rfl, rfl, ⟨[(iS 0)], _, rfl, rfl, ⟨[(iS 0), (sS ByteArray.empty), (.v (.slice none 0 0))], _, rfl, ⟨[(iS 0)], _, rfl, rfl, ⟨[(sS ByteArray.empty)], _, rfl, rfl, ⟨[(.v (.slice none 0 0))], _, rfl, (.inr ⟨rfl, rfl⟩), rfl⟩⟩⟩, ⟨[(.v (.slice none 0 0))], _, rfl, (.inr ⟨rfl, rfl⟩), rfl⟩⟩⟩⟩⟩⟩⟩, ⟨⟨rfl, rfl, rfl, ⟨[(iS 2)], _, rfl, rfl, ⟨[(.v (.string (⟨#[43]⟩)))], _, rfl, rfl, ⟨[(.v (.string (⟨#[88]⟩)))], _, rfl, rfl, ⟨[(iS 0)], _, rfl, rfl, ⟨[(iS 0), (sS ByteArray.empty), (.v (.slice none 0 0))], _, rfl, ⟨[(iS 0)], _, rfl, rfl, ⟨[(sS ByteArray.empty)], _, rfl, rfl, ⟨[(.v (.slice none 0 0))], _, rfl, (.inr ⟨rfl, rfl⟩), rfl⟩⟩⟩, ⟨[(.v (.slice none 0 0))], _, rfl, (.inr ⟨rfl, rfl⟩), rfl⟩⟩⟩⟩⟩⟩⟩, ⟨⟨rfl, rfl, rfl, ⟨[(iS 2)], _, rfl, rfl, ⟨[(.v (.string (⟨#[45]⟩)))], _, rfl, rfl, ⟨[(.v (.string (⟨#[89]⟩)))], _, rfl, rfl, ⟨[(iS 0)], _, rfl, rfl, ⟨[(iS 0), (sS ByteArray.empty), (.v (.slice none 0 0))], _, rfl, ⟨[(iS 0)], _, rfl, rfl, ⟨[(sS ByteArray.empty)], _, rfl, rfl, ⟨[(.v (.slice none 0 0))], _, rfl, (.inr ⟨rfl, rfl⟩), rfl⟩⟩⟩, ⟨[(.v (.slice none 0 0))], _, rfl, (.inr ⟨rfl, rfl⟩), rfl⟩⟩⟩⟩⟩⟩⟩, trivial⟩⟩⟩ rfl (by simp only [Pt.encL_eq, List.map_cons, List.map_nil, Pt.enc_eq] <;> rfl) (by decide) (by decide) ?_
    intro a25
    refine Meets.nilRep 3 ?_
    refine (qap n v11 (It.mk (⟨#[109, 111, 100, 101]⟩) ByteArray.empty (Rw.mk 0 ByteArray.empty ([])) ([(Pt.mk 1 ByteArray.empty (⟨#[100, 111, 117, 98, 108, 101]⟩) 0 (Rw.mk 0 ByteArray.empty ([])) ([])), (Pt.mk 2 (⟨#[43]⟩) (⟨#[88]⟩) 0 (Rw.mk 0 ByteArray.empty ([])) ([])), (Pt.mk 2 (⟨#[45]⟩) (⟨#[89]⟩) 0 (Rw.mk 0 ByteArray.empty ([])) ([]))])) a18 c18 none 0 a25 3 _ h16).atR [1, 0, 2] rfl rfl rfl ?_
    rintro _ _ ⟨a26, c26, rfl, rfl⟩
    refine ⟨fun _ _ h => h, ?_⟩
    exact ⟨(n, v15.1, a26, c26, v15.2), hr, ⟨rfl, rfl, trivial⟩, (StLe.gen 2 [] [.old 3] rfl rfl rfl rfl rfl rfl rfl)⟩
  refine ⟨?_, ?_⟩
  ·
   refine ql (n := 3) ttOK 120 [.agg [.int .i64 1, .str ByteArray.empty, .str (⟨#[100, 111, 117, 98, 108, 101]⟩), .int .i64 0, .agg [.int .i64 0, .str ByteArray.empty, .sl 3 []], .sl 8 []], .agg [.int .i64 2, .str (⟨#[43]⟩), .str (⟨#[88]⟩), .int .i64 0, .agg [.int .i64 0, .str ByteArray.empty, .sl 3 []], .sl 8 []], .agg [.int .i64 2, .str (⟨#[45]⟩), .str (⟨#[89]⟩), .int .i64 0, .agg [.int .i64 0, .str ByteArray.empty, .sl 3 []], .sl 8 []]] (ds' := (Pt.encL ([(Pt.mk 1 ByteArray.empty (⟨#[100, 111, 117, 98, 108, 101]⟩) 0 (Rw.mk 0 ByteArray.empty ([])) ([])), (Pt.mk 2 (⟨#[43]⟩) (⟨#[88]⟩) 0 (Rw.mk 0 ByteArray.empty ([])) ([])), (Pt.mk 2 (⟨#[45]⟩) (⟨#[89]⟩) 0 (Rw.mk 0 ByteArray.empty ([])) ([]))]))) rfl (by kernel_rfl) ⟨⟨rfl, rfl, rfl, ⟨[(iS 1)], _, rfl, rfl, ⟨[(sS ByteArray.empty)], _, rfl, rfl, ⟨[(.v (.string (⟨#[100, 111, 117, 98, 108, 101]⟩)))], _, rfl, rfl, ⟨[(iS 0)], _, rfl, rfl, ⟨[(iS 0), (sS ByteArray.empty), (.v (.slice none 0 0))], _, rfl, ⟨[(iS 0)], _, rfl, rfl, ⟨[(sS ByteArray.empty)], _, rfl, rfl, ⟨[(.v (.slice none 0 0))], _, rfl, (.inr ⟨rfl, rfl⟩), rfl⟩⟩⟩, ⟨[(.v (.slice none 0 0))], _, rfl, (.inr ⟨rfl, rfl⟩), rfl⟩⟩⟩⟩⟩⟩⟩, ⟨⟨rfl, rfl, rfl, ⟨[(iS 2)], _, rfl, rfl, ⟨[(.v (.string (⟨#[43]⟩)))], _, rfl, rfl, ⟨[(.v (.string (⟨#[88]⟩)))], _, rfl, rfl, ⟨[(iS 0)], _, rfl, rfl, ⟨[(iS 0), (sS ByteArray.empty), (.v (.slice none 0 0))], _, rfl, ⟨[(iS 0)], _, rfl, rfl, ⟨[(sS ByteArray.empty)], _, rfl, rfl, ⟨[(.v (.slice none 0 0))], _, rfl, (.inr ⟨rfl, rfl⟩), rfl⟩⟩⟩, ⟨[(.v (.slice none 0 0))], _, rfl, (.inr ⟨rfl, rfl⟩), rfl⟩⟩⟩⟩⟩⟩⟩, ⟨⟨rfl, rfl, rfl, ⟨[(iS 2)], _, rfl, rfl, ⟨[(.v (.string (⟨#[45]⟩)))], _, rfl, rfl, ⟨[(.v (.string (⟨#[89]⟩)))], _, rfl, rfl, ⟨[(iS 0)], _, rfl, rfl, ⟨[(iS 0), (sS ByteArray.empty), (.v (.slice none 0 0))], _, rfl, ⟨[(iS 0)], _, rfl, rfl, ⟨[(sS ByteArray.empty)], _, rfl, rfl, ⟨[(.v (.slice none 0 0))], _, rfl, (.inr ⟨rfl, rfl⟩), rfl⟩⟩⟩, ⟨[(.v (.slice none 0 0))], _, rfl, (.inr ⟨rfl, rfl⟩), rfl⟩⟩⟩⟩⟩⟩⟩, trivial⟩⟩⟩ rfl (by simp only [Pt.encL_eq, List.map_cons, List.map_nil, Pt.enc_eq] <;> rfl) (by decide) (by decide) ?_
   intro a27
   refine ⟨?_, ?_⟩
   ·
    refine (qar n  _ h12).atR [] rfl rfl rfl ?_
    rintro _ _ ⟨a28, c28, rfl, rfl⟩
    refine ⟨fun _ _ h => h, ?_⟩
    refine ⟨?_, ?_⟩
    ·
     refine Meets.nilRep 3 ?_
     refine (qap n v11 (It.mk (⟨#[109, 111, 100, 101]⟩) ByteArray.empty (Rw.mk 0 ByteArray.empty ([])) ([(Pt.mk 1 ByteArray.empty (⟨#[100, 111, 117, 98, 108, 101]⟩) 0 (Rw.mk 0 ByteArray.empty ([])) ([])), (Pt.mk 2 (⟨#[43]⟩) (⟨#[88]⟩) 0 (Rw.mk 0 ByteArray.empty ([])) ([])), (Pt.mk 2 (⟨#[45]⟩) (⟨#[89]⟩) 0 (Rw.mk 0 ByteArray.empty ([])) ([]))])) a28 c28 none 0 a27 3 _ h16).atR [2, 0, 1] rfl rfl rfl ?_
     rintro _ _ ⟨a29, c29, rfl, rfl⟩
     refine ⟨OwnKeptBut.append, ?_⟩
     refine ⟨fun _ _ h => h, ?_⟩
     exact ⟨(n, v15.1, a29, c29, v15.2), hr, ⟨rfl, rfl, trivial⟩, (StLe.gen 2 [] [.old 3] rfl rfl rfl rfl rfl rfl rfl)⟩
    ·
     refine ⟨OwnKeptBut.append, ?_⟩
     refine Meets.nilRep 3 ?_
     refine (qap n v11 (It.mk (⟨#[109, 111, 100, 101]⟩) ByteArray.empty (Rw.mk 0 ByteArray.empty ([])) ([(Pt.mk 1 ByteArray.empty (⟨#[100, 111, 117, 98, 108, 101]⟩) 0 (Rw.mk 0 ByteArray.empty ([])) ([])), (Pt.mk 2 (⟨#[43]⟩) (⟨#[88]⟩) 0 (Rw.mk 0 ByteArray.empty ([])) ([])), (Pt.mk 2 (⟨#[45]⟩) (⟨#[89]⟩) 0 (Rw.mk 0 ByteArray.empty ([])) ([]))])) a28 c28 none 0 a27 3 _ h16).atR [2, 0, 1] rfl rfl rfl ?_
     rintro _ _ ⟨a30, c30, rfl, rfl⟩
     refine ⟨fun _ _ h => h, ?_⟩
     exact ⟨(n, v15.1, a30, c30, v15.2), hr, ⟨rfl, rfl, trivial⟩, (StLe.gen 2 [] [.old 3] rfl rfl rfl rfl rfl rfl rfl)⟩
   ·
    refine ⟨OwnKeptBut.append, ?_⟩
    refine (qar n  _ h12).atR [] rfl rfl rfl ?_
    rintro _ _ ⟨a31, c31, rfl, rfl⟩
    refine ⟨fun _ _ h => h, ?_⟩
    refine Meets.nilRep 3 ?_
    refine (qap n v11 (It.mk (⟨#[109, 111, 100, 101]⟩) ByteArray.empty (Rw.mk 0 ByteArray.empty ([])) ([(Pt.mk 1 ByteArray.empty (⟨#[100, 111, 117, 98, 108, 101]⟩) 0 (Rw.mk 0 ByteArray.empty ([])) ([])), (Pt.mk 2 (⟨#[43]⟩) (⟨#[88]⟩) 0 (Rw.mk 0 ByteArray.empty ([])) ([])), (Pt.mk 2 (⟨#[45]⟩) (⟨#[89]⟩) 0 (Rw.mk 0 ByteArray.empty ([])) ([]))])) a31 c31 none 0 a27 3 _ h16).atR [2, 0, 1] rfl rfl rfl ?_
    rintro _ _ ⟨a32, c32, rfl, rfl⟩
    refine ⟨fun _ _ h => h, ?_⟩
    exact ⟨(n, v15.1, a32, c32, v15.2), hr, ⟨rfl, rfl, trivial⟩, (StLe.gen 2 [] [.old 3] rfl rfl rfl rfl rfl rfl rfl)⟩
  ·
   refine ⟨OwnKeptBut.append, ?_⟩
   refine ⟨?_, ?_⟩
   ·
    refine (qar n  _ h12).atR [] rfl rfl rfl ?_
    rintro _ _ ⟨a33, c33, rfl, rfl⟩
    refine ⟨fun _ _ h => h, ?_⟩
    refine ql (n := 3) ttOK 120 [.agg [.int .i64 1, .str ByteArray.empty, .str (⟨#[100, 111, 117, 98, 108, 101]⟩), .int .i64 0, .agg [.int .i64 0, .str ByteArray.empty, .sl 3 []], .sl 8 []], .agg [.int .i64 2, .str (⟨#[43]⟩), .str (⟨#[88]⟩), .int .i64 0, .agg [.int .i64 0, .str ByteArray.empty, .sl 3 []], .sl 8 []], .agg [.int .i64 2, .str (⟨#[45]⟩), .str (⟨#[89]⟩), .int .i64 0, .agg [.int .i64 0, .str ByteArray.empty, .sl 3 []], .sl 8 []]] (ds' := (Pt.encL ([(Pt.mk 1 ByteArray.empty (⟨#[100, 111, 117, 98, 108, 101]⟩) 0 (Rw.mk 0 ByteArray.empty ([])) ([])), (Pt.mk 2 (⟨#[43]⟩) (⟨#[88]⟩) 0 (Rw.mk 0 ByteArray.empty ([])) ([])), (Pt.mk 2 (⟨#[45]⟩) (⟨#[89]⟩) 0 (Rw.mk 0 ByteArray.empty ([])) ([]))]))) rfl (by kernel_rfl) ⟨⟨rfl, rfl, rfl, ⟨[(iS 1)], _, rfl, rfl, ⟨[(sS ByteArray.empty)], _, rfl, rfl, ⟨[(.v (.string (⟨#[100, 111, 117, 98, 108, 101]⟩)))], _, rfl, rfl, ⟨[(iS 0)], _, rfl, rfl, ⟨[(iS 0), (sS ByteArray.empty), (.v (.slice none 0 0))], _, rfl, ⟨[(iS 0)], _, rfl, rfl, ⟨[(sS ByteArray.empty)], _, rfl, rfl, ⟨[(.v (.slice none 0 0))], _, rfl, (.inr ⟨rfl, rfl⟩), rfl⟩⟩⟩, ⟨[(.v (.slice none 0 0))], _, rfl, (.inr ⟨rfl, rfl⟩), rfl⟩⟩⟩⟩⟩⟩⟩, ⟨⟨rfl, rfl, rfl, ⟨[(iS 2)], _, rfl, rfl, ⟨[(.v (.string (⟨#[43]⟩)))], _, rfl, rfl, ⟨[(.v (.string (⟨#[88]⟩)))], _, rfl, rfl, ⟨[(iS 0)], _, rfl, rfl, ⟨[(iS 0), (sS ByteArray.empty), (.v (.slice none 0 0))], _, rfl, ⟨[(iS 0)], _, rfl, rfl, ⟨[(sS ByteArray.empty)], _, rfl, rfl, ⟨[(.v (.slice none 0 0))], _, rfl, (.inr ⟨rfl, rfl⟩), rfl⟩⟩⟩, ⟨[(.v (.slice none 0 0))], _, rfl, (.inr ⟨rfl, rfl⟩), rfl⟩⟩⟩⟩⟩⟩⟩, ⟨⟨rfl, rfl, rfl, ⟨[(iS 2)], _, rfl, rfl, ⟨[(.v (.string (⟨#[45]⟩)))], _, rfl, rfl, ⟨[(.v (.string (⟨#[89]⟩)))], _, rfl, rfl, ⟨[(iS 0)], _, rfl, rfl, ⟨[(iS 0), (sS ByteArray.empty), (.v (.slice none 0 0))], _, rfl, ⟨[(iS 0)], _, rfl, rfl, ⟨[(sS ByteArray.empty)], _, rfl, rfl, ⟨[(.v (.slice none 0 0))], _, rfl, (.inr ⟨rfl, rfl⟩), rfl⟩⟩⟩, ⟨[(.v (.slice none 0 0))], _, rfl, (.inr ⟨rfl, rfl⟩), rfl⟩⟩⟩⟩⟩⟩⟩, trivial⟩⟩⟩ rfl (by simp only [Pt.encL_eq, List.map_cons, List.map_nil, Pt.enc_eq] <;> rfl) (by decide) (by decide) ?_
    intro a34
    refine Meets.nilRep 3 ?_
    refine (qap n v11 (It.mk (⟨#[109, 111, 100, 101]⟩) ByteArray.empty (Rw.mk 0 ByteArray.empty ([])) ([(Pt.mk 1 ByteArray.empty (⟨#[100, 111, 117, 98, 108, 101]⟩) 0 (Rw.mk 0 ByteArray.empty ([])) ([])), (Pt.mk 2 (⟨#[43]⟩) (⟨#[88]⟩) 0 (Rw.mk 0 ByteArray.empty ([])) ([])), (Pt.mk 2 (⟨#[45]⟩) (⟨#[89]⟩) 0 (Rw.mk 0 ByteArray.empty ([])) ([]))])) a33 c33 none 0 a34 3 _ h16).atR [1, 0, 2] rfl rfl rfl ?_
    rintro _ _ ⟨a35, c35, rfl, rfl⟩
    refine ⟨fun _ _ h => h, ?_⟩
    exact ⟨(n, v15.1, a35, c35, v15.2), hr, ⟨rfl, rfl, trivial⟩, (StLe.gen 2 [] [.old 3] rfl rfl rfl rfl rfl rfl rfl)⟩
   ·
    refine ql (n := 3) ttOK 120 [.agg [.int .i64 1, .str ByteArray.empty, .str (⟨#[100, 111, 117, 98, 108, 101]⟩), .int .i64 0, .agg [.int .i64 0, .str ByteArray.empty, .sl 3 []], .sl 8 []], .agg [.int .i64 2, .str (⟨#[43]⟩), .str (⟨#[88]⟩), .int .i64 0, .agg [.int .i64 0, .str ByteArray.empty, .sl 3 []], .sl 8 []], .agg [.int .i64 2, .str (⟨#[45]⟩), .str (⟨#[89]⟩), .int .i64 0, .agg [.int .i64 0, .str ByteArray.empty, .sl 3 []], .sl 8 []]] (ds' := (Pt.encL ([(Pt.mk 1 ByteArray.empty (⟨#[100, 111, 117, 98, 108, 101]⟩) 0 (Rw.mk 0 ByteArray.empty ([])) ([])), (Pt.mk 2 (⟨#[43]⟩) (⟨#[88]⟩) 0 (Rw.mk 0 ByteArray.empty ([])) ([])), (Pt.mk 2 (⟨#[45]⟩) (⟨#[89]⟩) 0 (Rw.mk 0 ByteArray.empty ([])) ([]))]))) rfl (by kernel_rfl) ⟨⟨rfl, rfl, rfl, ⟨[(iS 1)], _, rfl, rfl, ⟨[(sS ByteArray.empty)], _, rfl, rfl, ⟨[(.v (.string (⟨#[100, 111, 117, 98, 108, 101]⟩)))], _, rfl, rfl, ⟨[(iS 0)], _, rfl, rfl, ⟨[(iS 0), (sS ByteArray.empty), (.v (.slice none 0 0))], _, rfl, ⟨[(iS 0)], _, rfl, rfl, ⟨[(sS ByteArray.empty)], _, rfl, rfl, ⟨[(.v (.slice none 0 0))], _, rfl, (.inr ⟨rfl, rfl⟩), rfl⟩⟩⟩, ⟨[(.v (.slice none 0 0))], _, rfl, (.inr ⟨rfl, rfl⟩), rfl⟩⟩⟩⟩⟩⟩⟩, ⟨⟨rfl, rfl, rfl, ⟨[(iS 2)], _, rfl, rfl, ⟨[(.v (.string (⟨#[43]⟩)))], _, rfl, rfl, ⟨[(.v (.string (⟨#[88]⟩)))], _, rfl, rfl, ⟨[(iS 0)], _, rfl, rfl, ⟨[(iS 0), (sS ByteArray.empty), (.v (.slice none 0 0))], _, rfl, ⟨[(iS 0)], _, rfl, rfl, ⟨[(sS ByteArray.empty)], _, rfl, rfl, ⟨[(.v (.slice none 0 0))], _, rfl, (.inr ⟨rfl, rfl⟩), rfl⟩⟩⟩, ⟨[(.v (.slice none 0 0))], _, rfl, (.inr ⟨rfl, rfl⟩), rfl⟩⟩⟩⟩⟩⟩⟩, ⟨⟨rfl, rfl, rfl, ⟨[(iS 2)], _, rfl, rfl, ⟨[(.v (.string (⟨#[45]⟩)))], _, rfl, rfl, ⟨[(.v (.string (⟨#[89]⟩)))], _, rfl, rfl, ⟨[(iS 0)], _, rfl, rfl, ⟨[(iS 0), (sS ByteArray.empty), (.v (.slice none 0 0))], _, rfl, ⟨[(iS 0)], _, rfl, rfl, ⟨[(sS ByteArray.empty)], _, rfl, rfl, ⟨[(.v (.slice none 0 0))], _, rfl, (.inr ⟨rfl, rfl⟩), rfl⟩⟩⟩, ⟨[(.v (.slice none 0 0))], _, rfl, (.inr ⟨rfl, rfl⟩), rfl⟩⟩⟩⟩⟩⟩⟩, trivial⟩⟩⟩ rfl (by simp only [Pt.encL_eq, List.map_cons, List.map_nil, Pt.enc_eq] <;> rfl) (by decide) (by decide) ?_
    intro a36
    refine (qar n  _ h12).atR [] rfl rfl rfl ?_
    rintro _ _ ⟨a37, c37, rfl, rfl⟩
    refine ⟨fun _ _ h => h, ?_⟩
    refine Meets.nilRep 3 ?_
    refine (qap n v11 (It.mk (⟨#[109, 111, 100, 101]⟩) ByteArray.empty (Rw.mk 0 ByteArray.empty ([])) ([(Pt.mk 1 ByteArray.empty (⟨#[100, 111, 117, 98, 108, 101]⟩) 0 (Rw.mk 0 ByteArray.empty ([])) ([])), (Pt.mk 2 (⟨#[43]⟩) (⟨#[88]⟩) 0 (Rw.mk 0 ByteArray.empty ([])) ([])), (Pt.mk 2 (⟨#[45]⟩) (⟨#[89]⟩) 0 (Rw.mk 0 ByteArray.empty ([])) ([]))])) a37 c37 none 0 a36 3 _ h16).atR [2, 0, 1] rfl rfl rfl ?_
    rintro _ _ ⟨a38, c38, rfl, rfl⟩
    refine ⟨fun _ _ h => h, ?_⟩
    exact ⟨(n, v15.1, a38, c38, v15.2), hr, ⟨rfl, rfl, trivial⟩, (StLe.gen 2 [] [.old 3] rfl rfl rfl rfl rfl rfl rfl)⟩
 ·
  rintro ⟨n, v21, a22, c22, v23⟩ HH
  have hr : W14_awake_C1 n v21 v23 = some r := HH
  rcases n with _ | n
  ·exact qe hr
  rw [W14_awake_C1.eq_2] at hr
  refine AtGuard.mk (fun h39 => ?_) (fun h39 => ?_)
  ·replace hr := qg h39 hr
   obtain ⟨v40, h41, hr⟩ := bind_some hr
   obtain ⟨h42, h43⟩ := qi h41
   refine qd ttOK 0 rfl rfl rfl rfl h42 (qav (D.int .i64) h43) ?_
   refine AtGuard.mk (fun h44 => ?_) (fun h44 => ?_)
   ·replace hr := qg h44 hr
    obtain ⟨v45, h46, hr⟩ := bind_some hr
    obtain ⟨h47, h48⟩ := qi h46
    refine qd ttOK 0 rfl rfl rfl rfl h47 (qav (D.int .i64) h48) ?_
    refine AtIf.mk (fun h49 => ?_) (fun h49 => ?_)
    ·replace hr := qf h49 hr
     replace hr := osi hr; subst hr
     exact qa [] [] rfl rfl ⟨rfl, rfl⟩
    ·replace hr := qg h49 hr
     refine AtCut.mk ⟨Nat × Int, fun x => [(6, (iS x.2))], fun x => ⟨[.cells 74 [(iS 2), (.v (.string (⟨#[43]⟩))), (.v (.string (⟨#[88]⟩))), (iS 0), (iS 0), (sS ByteArray.empty), (.v (.slice none 0 0)), (.v (.slice none 0 0))], .cells 31 [(iS v21.family), (nU v21.signs a22 c22)], .imm [(iS v40)], .imm [(iS v45)]], [], [(nQ v21.signs a22 c22)]⟩, fun x => W14_awake_C2 x.1 x.2 = some r, fun x _ => ⟨rfl, rfl⟩, ?_, ?_⟩
     ·
      obtain ⟨v58, h59, hr⟩ := bind_some hr
      obtain ⟨v62, h63, hr⟩ := bind_some hr
      refine ⟨?_, ?_⟩
      ·
       refine (qar n  _ h59).atR [] rfl rfl rfl ?_
       rintro _ _ ⟨a64, c64, rfl, rfl⟩
       refine ⟨fun _ _ h => h, ?_⟩
       refine ql (n := 1) ttOK 32 [.agg [.int .i64 v21.family, .sl 1 (List.map (D.int .i64) v21.signs)]] (ds' := (Md.encL ([v21]))) rfl (by kernel_rfl) ⟨⟨rfl, rfl, rfl, ⟨[(iS v21.family)], _, rfl, rfl, ⟨[(nU v21.signs a22 c22)], _, rfl, (.inl ⟨_, rfl, qr (j := 0) rfl⟩), rfl⟩⟩⟩, trivial⟩ rfl (by simp only [Md.encL_eq, List.map_cons, List.map_nil, Md.enc_eq] <;> rfl) (by decide) (by decide) ?_
       intro a65
       refine (qcu n v58 ([v21]) 4 a64 c64 a65 1 _ h63).atR [1, 2] rfl rfl rfl ?_
       rintro _ _ ⟨rfl, rfl⟩
       exact ⟨(n, v62.2.2), hr, ⟨rfl, trivial⟩, (StLe.gen 4 [] [.old 0] rfl rfl rfl rfl rfl rfl rfl)⟩
      ·
       refine ql (n := 1) ttOK 32 [.agg [.int .i64 v21.family, .sl 1 (List.map (D.int .i64) v21.signs)]] (ds' := (Md.encL ([v21]))) rfl (by kernel_rfl) ⟨⟨rfl, rfl, rfl, ⟨[(iS v21.family)], _, rfl, rfl, ⟨[(nU v21.signs a22 c22)], _, rfl, (.inl ⟨_, rfl, qr (j := 0) rfl⟩), rfl⟩⟩⟩, trivial⟩ rfl (by simp only [Md.encL_eq, List.map_cons, List.map_nil, Md.enc_eq] <;> rfl) (by decide) (by decide) ?_
       intro a67
       refine (qar n  _ h59).atR [] rfl rfl rfl ?_
       rintro _ _ ⟨a68, c68, rfl, rfl⟩
       refine ⟨fun _ _ h => h, ?_⟩
       refine (qcu n v58 ([v21]) 4 a68 c68 a67 1 _ h63).atR [2, 1] rfl rfl rfl ?_
       rintro _ _ ⟨rfl, rfl⟩
       exact ⟨(n, v62.2.2), hr, ⟨rfl, trivial⟩, (StLe.gen 4 [] [.old 0] rfl rfl rfl rfl rfl rfl rfl)⟩
     ·
      rintro ⟨n, v66⟩ HH
      have hr : W14_awake_C2 n v66 = some r := HH
      rcases n with _ | n
      ·exact qe hr
      rw [W14_awake_C2.eq_2] at hr
      refine AtIf.mk (fun h69 => ?_) (fun h69 => ?_)
      ·replace hr := qf h69 hr
       replace hr := osi hr; subst hr
       exact qa [] [] rfl rfl ⟨rfl, rfl⟩
      ·replace hr := qg h69 hr
       replace hr := osi hr; subst hr
       exact qa [] [] rfl rfl ⟨rfl, rfl⟩
   ·replace hr := qf h44 hr
    refine AtIf.mk (fun _ => ?_) (fun h => tf h)
    replace hr := osi hr; subst hr
    exact qa [] [] rfl rfl ⟨rfl, rfl⟩
  ·replace hr := qf h39 hr
   refine AtGuard.mk (fun h => tf h) (fun _ => ?_)
   refine AtIf.mk (fun _ => ?_) (fun h => tf h)
   replace hr := osi hr; subst hr
   exact qa [] [] rfl rfl ⟨rfl, rfl⟩
mutual
def R05_Of : Nat → (List Dc) → Int → Option ((List Int))
 | 0, _, _ => none
 | n + 1, v1, v3 =>
  R05_Of_L1 n v1 v3 ([]) 0
def R05_Of_L1 : Nat → (List Dc) → Int → (List Int) → Int → Option ((List Int))
 | 0, _, _, _, _ => none
 | n + 1, v1, v3, v14, v16 =>
  cond (decide (v16 < ((Dc.encL v1).length : Int))) (
  (R05_family n v1 v16).bind (fun v18 =>
  cond (!v18) (
  (R05_Target n v1 v16).bind (fun v21 =>
  cond (v21 == v3) (
  cond (decide ((List.map (D.int .i64) (v14 ++ [v16])).length ≤ 1000000)) (
  R05_Of_L1 n v1 v3 (v14 ++ [v16]) (IntKind.i64.wrap (v16 + 1))) none) (
  R05_Of_L1 n v1 v3 v14 (IntKind.i64.wrap (v16 + 1))))) (
  R05_Of_L1 n v1 v3 v14 (IntKind.i64.wrap (v16 + 1))))) (
  some (v14))
 end
theorem qol (n : Nat) (v1 : (List Dc)) (v3 : Int) (a2 : OA) (c2 : Nat) (r : (List Int)) (hr : R05_Of n v1 v3 = some r) : Pure Tryz.prog (.val (.fn (.func 18) [] [])) [(.v (.slice a2 ((Dc.encL v1).length) c2)), (iS v3)] [(.slice a2 ((Dc.encL v1).length) c2, .sl 6 (Dc.encL v1))] (fun r' out => ∃ (b1 : OA) (d1 : Nat), r' = (nU r b1 d1) ∧ out = [(nQ r b1 d1)]) := by
 rcases n with _ | n
 ·exact qe hr
 rw [R05_Of.eq_2] at hr
 refine qb (N := 29) (m := 0) (dt := fun _ => none) [] ttOK func18 rfl call18 ntmps18 rfl rfl rfl mixed (by kernel_rfl) ?_
 refine AtLoop.mk ⟨Nat × (List Int) × Option Addr × Nat × Int, fun x => [(0, (.v (.slice a2 ((Dc.encL v1).length) c2))), (1, (iS v3)), (5, (nU x.2.1 x.2.2.1 x.2.2.2.1)), (8, (iS ((Dc.encL v1).length : Int))), (9, (iS x.2.2.2.2))], fun x => ⟨[], [⟨.slice x.2.2.1 ((List.map (D.int .i64) x.2.1).length) x.2.2.2.1, 1, 3, (List.map (D.int .i64) x.2.1)⟩], [(.slice a2 ((Dc.encL v1).length) c2, .sl 6 (Dc.encL v1))]⟩, fun x => R05_Of_L1 x.1 v1 v3 x.2.1 x.2.2.2.2 = some r, fun x => x.1, (n, [], none, 0, 0), hr, ⟨rfl, rfl, rfl, rfl, rfl, trivial⟩, (StLe.gen 0 [.nil 1 3] [.old 0] rfl rfl rfl rfl rfl rfl rfl), fun x _ => ⟨rfl, rfl⟩, ?_⟩
 rintro ⟨n, v14, a15, c15, v16⟩ HH
 have hr : R05_Of_L1 n v1 v3 v14 v16 = some r := HH
 rcases n with _ | n
 ·exact qe hr
 rw [R05_Of_L1.eq_2] at hr
 refine AtIf.mk (fun h17 => ?_) (fun h17 => ?_)
 ·replace hr := qf h17 hr
  obtain ⟨v18, h19, hr⟩ := bind_some hr
  refine (qcy n v1 v16 a2 c2 _ h19).atR [0] rfl rfl rfl ?_
  rintro _ _ ⟨rfl, rfl⟩
  refine AtGuard.mk (fun h20 => ?_) (fun h20 => ?_)
  ·replace hr := qf h20 hr
   obtain ⟨v21, h22, hr⟩ := bind_some hr
   refine (qig n v1 v16 a2 c2 _ h22).atR [0] rfl rfl rfl ?_
   rintro _ _ ⟨rfl, rfl⟩
   refine AtIf.mk (fun h23 => ?_) (fun h23 => ?_)
   ·replace hr := qf h23 hr
    refine ql (n := 1) ttOK 8 [.int .i64 v16] (ds' := (List.map (D.int .i64) ([v16]))) rfl (by kernel_rfl) ⟨⟨rfl, rfl, rfl, rfl⟩, trivial⟩ rfl rfl (by decide) (by decide) ?_
    intro a24
    obtain ⟨h25, hr⟩ := qm hr
    refine qu (ds' := (List.map (D.int .i64) (v14 ++ [v16]))) ttOK 8 0 1 rfl (by kernel_rfl) rfl rfl rfl rfl (by simp only [List.map_append]) h25 (by decide) ?_
    intro a26 c26
    exact ⟨(n, (v14 ++ [v16]), a26, c26, (IntKind.i64.wrap (v16 + 1))), hr, Nat.lt_succ_self _, ⟨rfl, rfl, rfl, rfl, rfl, trivial⟩, (StLe.gen 0 [.old 0] [.old 0] rfl rfl rfl rfl rfl rfl rfl)⟩
   ·replace hr := qg h23 hr
    exact ⟨(n, v14, a15, c15, (IntKind.i64.wrap (v16 + 1))), hr, Nat.lt_succ_self _, ⟨rfl, rfl, rfl, rfl, rfl, trivial⟩, (StLe.gen 0 [.old 0] [.old 0] rfl rfl rfl rfl rfl rfl rfl)⟩
  ·replace hr := qg h20 hr
   refine AtIf.mk (fun h => ff h) (fun _ => ?_)
   exact ⟨(n, v14, a15, c15, (IntKind.i64.wrap (v16 + 1))), hr, Nat.lt_succ_self _, ⟨rfl, rfl, rfl, rfl, rfl, trivial⟩, (StLe.gen 0 [.old 0] [.old 0] rfl rfl rfl rfl rfl rfl rfl)⟩
 ·replace hr := qg h17 hr
  replace hr := osi hr; subst hr
  exact qa [.froz 0] [(nQ v14 a15 c15)] rfl rfl ⟨a15, c15, rfl, rfl⟩
mutual
def W14_ModeAny : Nat → (List Dc) → Int → Option (Bool)
 | 0, _, _ => none
 | n + 1, v1, v3 =>
  (W14_valid n v1).bind (fun v4 =>
  cond (!v4) (
  (W14_awake n ).bind (fun v82 =>
  some (v82))) (
  (R05_Has n v1 v3).bind (fun v7 =>
  cond (!v7) (
  (W14_awake n ).bind (fun v80 =>
  some (v80))) (
  (R05_IsFamily n v1 v3).bind (fun v10 =>
  cond (!v10) (
  (W14_awake n ).bind (fun v13 =>
  some (v13))) (
  W14_ModeAny_L1 n v1 v3 (Md.mk v3 ([])) 0))))))
def W14_ModeAny_L2 : Nat → (List Int) → (List Dc) → Md → Int → Option (Bool)
 | 0, _, _, _, _ => none
 | n + 1, v42, v1, v27, v66 =>
  cond (decide (v66 < ((List.map (D.int .i64) v42).length : Int))) (
  (idx v42 v66).bind (fun v69 =>
  (mode_Check n v1 ([v27]) v69).bind (fun v74 =>
  cond (v74.2.2 == 0) (
  W14_ModeAny_L2 n v42 v1 v27 (IntKind.i64.wrap (v66 + 1))) (
  cond (((v74.2.2 != 31) || (decide (v74.1 < 0))) || (v74.2.1 != (-1))) (
  some (false)) (
  W14_ModeAny_L2 n v42 v1 v27 (IntKind.i64.wrap (v66 + 1))))))) (
  (W14_awake n ).bind (fun v78 =>
  some (v78)))
def W14_ModeAny_L1 : Nat → (List Dc) → Int → Md → Int → Option (Bool)
 | 0, _, _, _, _ => none
 | n + 1, v1, v3, v27, v29 =>
  (idx v1 v3).bind (fun v30 =>
  (R14_Dependent n v30.cls).bind (fun v35 =>
  cond (decide (v29 < ((List.map D.bool v35).length : Int))) (
  cond (decide ((List.map (D.int .i64) (v27.signs ++ [3])).length ≤ 1000000)) (
  W14_ModeAny_L1 n v1 v3 (Md.mk v27.family (v27.signs ++ [3])) (IntKind.i64.wrap (v29 + 1))) none) (
  (R05_Of n v1 v3).bind (fun v42 =>
  W14_ModeAny_L2 n v42 v1 v27 0))))
 end
theorem qhj (n : Nat) (v1 : (List Dc)) (v3 : Int) (a2 : OA) (c2 : Nat) (r : Bool) (hr : W14_ModeAny n v1 v3 = some r) : Pure Tryz.prog (.val (.fn (.func 4) [] [])) [(.v (.slice a2 ((Dc.encL v1).length) c2)), (iS v3)] [(.slice a2 ((Dc.encL v1).length) c2, .sl 6 (Dc.encL v1))] (fun r' out => r' = (bS r) ∧ out = []) := by
 rcases n with _ | n
 ·exact qe hr
 rw [W14_ModeAny.eq_2] at hr
 refine qb (N := 80) (m := 0) (dt := drawsOf [(12, .node [0, 1, 3, 4, 5, 6] [(2, .node [] [(7, .leaf [8, 9, 10, 11, 12, 13, 14])])], [7], [])]) [] ttOK func4 rfl call4 ntmps4 rfl rfl rfl mixed (by kernel_rfl) ?_
 obtain ⟨v4, h5, hr⟩ := bind_some hr
 refine (qkg n v1 a2 c2 _ h5).atR [0] rfl rfl rfl ?_
 rintro _ _ ⟨rfl, rfl⟩
 refine AtGuard.mk (fun h6 => ?_) (fun h6 => ?_)
 ·replace hr := qg h6 hr
  obtain ⟨v7, h8, hr⟩ := bind_some hr
  refine (qed n v1 v3 a2 c2 _ h8).atR [0] rfl rfl rfl ?_
  rintro _ _ ⟨rfl, rfl⟩
  refine AtGuard.mk (fun h9 => ?_) (fun h9 => ?_)
  ·replace hr := qg h9 hr
   obtain ⟨v10, h11, hr⟩ := bind_some hr
   refine (qbu n v1 v3 a2 c2 _ h11).atR [0] rfl rfl rfl ?_
   rintro _ _ ⟨rfl, rfl⟩
   refine AtIf.mk (fun h12 => ?_) (fun h12 => ?_)
   ·replace hr := qf h12 hr
    obtain ⟨v13, h14, hr⟩ := bind_some hr
    refine (qb3 n  _ h14).atR [] rfl rfl rfl ?_
    rintro _ _ ⟨rfl, rfl⟩
    replace hr := osi hr; subst hr
    exact qa [] [] rfl rfl ⟨rfl, rfl⟩
   ·replace hr := qg h12 hr
    refine AtLoop.mk ⟨Nat × Md × Option Addr × Nat × Int, fun x => [(0, (.v (.slice a2 ((Dc.encL v1).length) c2))), (1, (iS v3)), (5, (.loc 0 0)), (6, (iS x.2.2.2.2))], fun x => ⟨[.cells 31 [(iS x.2.1.family), (nU x.2.1.signs x.2.2.1 x.2.2.2.1)]], [⟨.slice x.2.2.1 ((List.map (D.int .i64) x.2.1.signs).length) x.2.2.2.1, 1, 3, (List.map (D.int .i64) x.2.1.signs)⟩], [(.slice a2 ((Dc.encL v1).length) c2, .sl 6 (Dc.encL v1))]⟩, fun x => W14_ModeAny_L1 x.1 v1 v3 x.2.1 x.2.2.2.2 = some r, fun x => x.1, (n, (Md.mk v3 ([])), none, 0, 0), hr, ⟨rfl, rfl, rfl, rfl, trivial⟩, (StLe.gen 1 [.nil 1 3] [.old 0] rfl rfl rfl rfl rfl rfl rfl), fun x _ => ⟨rfl, rfl⟩, ?_⟩
    rintro ⟨n, v27, a28, c28, v29⟩ HH
    have hr : W14_ModeAny_L1 n v1 v3 v27 v29 = some r := HH
    rcases n with _ | n
    ·exact qe hr
    rw [W14_ModeAny_L1.eq_2] at hr
    obtain ⟨v30, h31, hr⟩ := bind_some hr
    obtain ⟨h32, h33⟩ := qi h31
    refine qd ttOK 0 rfl rfl rfl rfl h32 (Dc.encL_get h33) ?_
    intro a34 c34 _ _
    obtain ⟨v35, h36, hr⟩ := bind_some hr
    refine (qfr n v30.cls a34 c34 _ h36).atR [1] rfl rfl rfl ?_
    rintro _ _ ⟨a37, c37, rfl, rfl⟩
    refine AtIf.mk (fun h38 => ?_) (fun h38 => ?_)
    ·replace hr := qf h38 hr
     refine ql (n := 1) ttOK 8 [.int .i64 3] (ds' := (List.map (D.int .i64) ([3]))) rfl (by kernel_rfl) ⟨⟨rfl, rfl, rfl, rfl⟩, trivial⟩ rfl rfl (by decide) (by decide) ?_
     intro a39
     obtain ⟨h40, hr⟩ := qm hr
     refine qu (ds' := (List.map (D.int .i64) (v27.signs ++ [3]))) ttOK 8 0 3 rfl (by kernel_rfl) rfl rfl rfl rfl (by simp only [List.map_append]) h40 (by decide) ?_
     intro a41 c41
     exact ⟨(n, (Md.mk v27.family (v27.signs ++ [3])), a41, c41, (IntKind.i64.wrap (v29 + 1))), hr, Nat.lt_succ_self _, ⟨rfl, rfl, rfl, rfl, trivial⟩, (StLe.gen 1 [.old 0] [.old 0] rfl rfl rfl rfl rfl rfl rfl)⟩
    ·replace hr := qg h38 hr
     obtain ⟨v42, h43, hr⟩ := bind_some hr
     refine (qol n v1 v3 a2 c2 _ h43).atR [0] rfl rfl rfl ?_
     rintro _ _ ⟨a44, c44, rfl, rfl⟩
     obtain ⟨q67, hq67⟩ : ∃ q, q = n := ⟨_, rfl⟩
     refine AtLoop.mk ⟨Nat × Int, fun x => [(0, (.v (.slice a2 ((Dc.encL v1).length) c2))), (5, (.loc 0 0)), (7, (nU v42 a44 c44)), (8, (iS x.2))], fun x => ⟨[.cells 31 [(iS v27.family), (nU v27.signs a28 c28)], .imm [(sS v30.name), (iS v30.cls.op), (iS v30.cls.hd), (iS v30.cls.n), (tU v30.cls.args a34 c34), (iS v30.implicit)]], [], [(nQ v27.signs a28 c28), (.slice a2 ((Dc.encL v1).length) c2, .sl 6 (Dc.encL v1)), (tQ v30.cls.args a34 c34), (.slice a37 ((List.map D.bool v35).length) c37, .sl 1 (List.map D.bool v35)), (nQ v42 a44 c44)]⟩, fun x => x.1 ≤ q67 ∧ W14_ModeAny_L2 x.1 v42 v1 v27 x.2 = some r, fun x => x.1, (n, 0), ⟨by omega, hr⟩, ⟨rfl, rfl, rfl, rfl, trivial⟩, (StLe.gen 2 [] [.froz 0, .old 0, .old 1, .old 2, .old 3] rfl rfl rfl rfl rfl rfl rfl), fun x _ => ⟨rfl, rfl⟩, ?_⟩
     rintro ⟨n, v66⟩ HH
     obtain ⟨hbq67, hr⟩ : n ≤ q67 ∧ W14_ModeAny_L2 n v42 v1 v27 v66 = some r := HH
     rcases n with _ | n
     ·exact qe hr
     rw [W14_ModeAny_L2.eq_2] at hr
     refine AtIf.mk (fun h68 => ?_) (fun h68 => ?_)
     ·replace hr := qf h68 hr
      obtain ⟨v69, h70, hr⟩ := bind_some hr
      obtain ⟨h71, h72⟩ := qi h70
      refine qd ttOK 4 rfl rfl rfl rfl h71 (qav (D.int .i64) h72) ?_
      refine ql (n := 1) ttOK 32 [.agg [.int .i64 v27.family, .sl 1 (List.map (D.int .i64) v27.signs)]] (ds' := (Md.encL ([v27]))) rfl (by kernel_rfl) ⟨⟨rfl, rfl, rfl, ⟨[(iS v27.family)], _, rfl, rfl, ⟨[(nU v27.signs a28 c28)], _, rfl, (.inl ⟨_, rfl, qr (j := 0) rfl⟩), rfl⟩⟩⟩, trivial⟩ rfl (by simp only [Md.encL_eq, List.map_cons, List.map_nil, Md.enc_eq] <;> rfl) (by decide) (by decide) ?_
      intro a73
      refine ⟨fun _ _ h => h, ?_⟩
      obtain ⟨v74, h75, hr⟩ := bind_some hr
      refine (qcu n v1 ([v27]) v69 a2 c2 a73 1 _ h75).atR [1, 5] rfl rfl rfl ?_
      rintro _ _ ⟨rfl, rfl⟩
      refine AtIf.mk (fun h76 => ?_) (fun h76 => ?_)
      ·replace hr := qf h76 hr
       exact ⟨(n, (IntKind.i64.wrap (v66 + 1))), ⟨by omega, hr⟩, Nat.lt_succ_self _, ⟨rfl, rfl, rfl, rfl, trivial⟩, (StLe.gen 2 [] [.old 0, .old 1, .old 2, .old 3, .old 4] rfl rfl rfl rfl rfl rfl rfl)⟩
      ·replace hr := qg h76 hr
       refine AtIf.mk (fun h77 => ?_) (fun h77 => ?_)
       ·replace hr := qf h77 hr
        replace hr := osi hr; subst hr
        exact qa [] [] rfl rfl ⟨rfl, rfl⟩
       ·replace hr := qg h77 hr
        exact ⟨(n, (IntKind.i64.wrap (v66 + 1))), ⟨by omega, hr⟩, Nat.lt_succ_self _, ⟨rfl, rfl, rfl, rfl, trivial⟩, (StLe.gen 2 [] [.old 0, .old 1, .old 2, .old 3, .old 4] rfl rfl rfl rfl rfl rfl rfl)⟩
     ·replace hr := qg h68 hr
      obtain ⟨v78, h79, hr⟩ := bind_some hr
      refine (qb3 n  _ h79).atR [] rfl rfl rfl ?_
      rintro _ _ ⟨rfl, rfl⟩
      replace hr := osi hr; subst hr
      exact qa [] [] rfl rfl ⟨rfl, rfl⟩
  ·replace hr := qf h9 hr
   refine AtIf.mk (fun _ => ?_) (fun h => tf h)
   obtain ⟨v80, h81, hr⟩ := bind_some hr
   refine (qb3 n  _ h81).atR [] rfl rfl rfl ?_
   rintro _ _ ⟨rfl, rfl⟩
   replace hr := osi hr; subst hr
   exact qa [] [] rfl rfl ⟨rfl, rfl⟩
 ·replace hr := qf h6 hr
  refine AtGuard.mk (fun h => tf h) (fun _ => ?_)
  refine AtIf.mk (fun _ => ?_) (fun h => tf h)
  obtain ⟨v82, h83, hr⟩ := bind_some hr
  refine (qb3 n  _ h83).atR [] rfl rfl rfl ?_
  rintro _ _ ⟨rfl, rfl⟩
  replace hr := osi hr; subst hr
  exact qa [] [] rfl rfl ⟨rfl, rfl⟩
end

section
open Go.Tr Go Go.Proofs.Tryz
theorem wrapS {i : Nat} (h : i < 2000000000000000000) : IntKind.i64.wrap ((i : Int) + 1) = ((i + 1 : Nat) : Int) := by
 rw [wrap_i64 (by omega) (by omega)]; omega
def Tot {α : Type} (f : Nat → Option α) : Prop := ∃ r, Ev f r
theorem Ev.tot {α : Type} {f : Nat → Option α} {r : α} (h : Ev f r) : Tot f := ⟨r, h⟩
def Yields {α : Type} (f : Nat → Option α) (p : α → Prop) : Prop := ∃ r, Ev f r ∧ p r
theorem Yields.succ {α : Type} {f g : Nat → Option α} {p : α → Prop} (hf : ∀ n, f (n + 1) = g n) (h : Yields g p) : Yields f p := by
 obtain ⟨r, h1, h2⟩ := h; exact ⟨r, h1.succ hf, h2⟩
theorem Yields.bind {α β : Type} {f : Nat → Option α} {g : Nat → α → Option β} {q : α → Prop} {p : β → Prop} (h : Yields f q) (k : ∀ x, q x → Yields (fun n => g n x) p) : Yields (fun n => (f n).bind (g n)) p := by
 obtain ⟨x, h1, h2⟩ := h
 obtain ⟨r, h3, h4⟩ := k x h2
 exact ⟨r, h1.bind h3, h4⟩
theorem Yields.pure {α : Type} {p : α → Prop} {r : α} (h : p r) : Yields (fun _ => some r) p := ⟨r, Ev.pure r, h⟩
theorem Yields.ite {α : Type} {b : Bool} {f g : Nat → Option α} {p : α → Prop} (h : b = true → Yields f p) (k : b = false → Yields g p) : Yields (fun n => cond b (f n) (g n)) p := by
 cases b with
 | true => exact h rfl
 | false => exact k rfl
theorem Yields.need {α : Type} {b : Bool} {f : Nat → Option α} {p : α → Prop} (hb : b = true) (h : Yields f p) : Yields (fun n => cond b (f n) none) p := by
 subst hb; exact h
theorem Yields.some {α β : Type} {o : Option α} {x : α} {g : Nat → α → Option β} {p : β → Prop} (ho : o = Option.some x) (k : Yields (fun n => g n x) p) : Yields (fun n => o.bind (g n)) p := by
 subst ho; exact k
theorem Yields.mono {α : Type} {f : Nat → Option α} {p q : α → Prop} (h : Yields f p) (k : ∀ r, p r → q r) : Yields f q := by
 obtain ⟨r, h1, h2⟩ := h; exact ⟨r, h1, k r h2⟩
theorem Ev.yields {α : Type} {f : Nat → Option α} {r : α} {p : α → Prop} (h : Ev f r) (hp : p r) : Yields f p := ⟨r, h, hp⟩
theorem Yields.ev {α : Type} {f : Nat → Option α} {r : α} (h : Yields f (· = r)) : Ev f r := by
 obtain ⟨r', h1, rfl⟩ := h; exact h1
theorem Ev.is {α : Type} {f : Nat → Option α} {r : α} (h : Ev f r) : Yields f (· = r) := ⟨r, h, rfl⟩
theorem Ev.some {α β : Type} {o : Option α} {x : α} {g : Nat → α → Option β} {r : β} (ho : o = Option.some x) (k : Ev (fun n => g n x) r) : Ev (fun n => o.bind (g n)) r := by
 subst ho; exact k
theorem Ev.need {α : Type} {b : Bool} {f : Nat → Option α} {r : α} (hb : b = true) (h : Ev f r) : Ev (fun n => cond b (f n) none) r := by
 subst hb; exact h
theorem qw {α : Type} {l : List α} {i : Nat} {x : α} (h : l[i]? = Option.some x) : idx l (i : Int) = Option.some x := by rw [qi7, h]
theorem idx_get0 {α : Type} {x : α} {l : List α} : idx (x :: l) 0 = Option.some x := rfl
theorem idx_get1 {α : Type} {x y : α} {l : List α} : idx (x :: y :: l) 1 = Option.some y := rfl
end

section
open Go.Tr Go Go.Proofs.Tryz
set_option maxRecDepth 10000
theorem qaz {t : Tm} (h : okAll t = true) (ho : t.op = 2) : ∃ a b, t.args = [a, b] ∧ okAll a = true ∧ okAll b = true ∧ a.height + 1 ≤ t.height ∧ b.height + 1 ≤ t.height ∧ a.count + b.count + 1 = t.count := by
 cases t with
 | mk o hd n us =>
  simp only [Tm.op] at ho
  subst ho
  simp only [okAll, okNode, Bool.and_eq_true] at h
  have h1 : us.length = 2 := by have := h.1; simp at this; exact this.2
  match us, h1 with
  | [a, b], _ =>
   simp only [okAllL, Bool.and_eq_true] at h
   refine ⟨a, b, rfl, h.2.1, h.2.2.1, ?_, ?_, ?_⟩
   ·simp only [Tm.height, qs]; omega
   ·simp only [Tm.height, qs]; omega
   ·simp only [Tm.count, qn]; omega
theorem qgj {t : Tm} (h : okAll t = true) (ho : t.op = 3) : ∃ a, t.args = [a] ∧ okAll a = true ∧ a.height + 1 ≤ t.height ∧ a.count + 1 = t.count := by
 cases t with
 | mk o hd n us =>
  simp only [Tm.op] at ho
  subst ho
  simp only [okAll, okNode, Bool.and_eq_true] at h
  have h1 : us.length = 1 := by have := h.1; simp at this; exact this.2
  match us, h1 with
  | [a], _ =>
   simp only [okAllL, Bool.and_eq_true] at h
   refine ⟨a, rfl, h.2.1, ?_, ?_⟩
   ·simp only [Tm.height, qs]; omega
   ·simp only [Tm.count, qn]
def spl : Nat → Tm → List Tm → List Tm × Tm
 | 0, t, l => (l, t)
 | n + 1, t, l => if t.op = 2 then match t.args with
  | a :: b :: _ => spl n b (l ++ [a])
  | _ => (l, t)
  else (l, t)
def split (t : Tm) : List Tm × Tm := spl t.height t []
theorem spl_more : ∀ (n m : Nat) (t : Tm) (l : List Tm), okAll t = true → t.height ≤ n → t.height ≤ m → spl n t l = spl m t l
 | 0, m, t, l, hok, hn, _ => by have := qt t; omega
 | n + 1, 0, t, l, hok, _, hm => by have := qt t; omega
 | n + 1, m + 1, t, l, hok, hn, hm => by
  simp only [spl]
  by_cases h : t.op = 2
  ·rw [if_pos h, if_pos h]
   obtain ⟨a, b, e, _, hb, _, hh, _⟩ := qaz hok h
   rw [e]
   exact spl_more n m b _ hb (by omega) (by omega)
  ·rw [if_neg h, if_neg h]
theorem spl_rest : ∀ (n : Nat) (t : Tm) (l : List Tm), okAll t = true → t.height ≤ n → (spl n t l).2.op ≠ 2 ∧ okAll (spl n t l).2 = true ∧ (spl n t l).2.count ≤ t.count ∧ (spl n t l).2.height ≤ t.height ∧ (spl n t l).1.length + (spl n t l).2.height ≤ l.length + t.height
 | 0, t, l, hok, hn => by have := qt t; omega
 | n + 1, t, l, hok, hn => by
  simp only [spl]
  by_cases h : t.op = 2
  ·rw [if_pos h]
   obtain ⟨a, b, e, _, hb, _, hh, hc⟩ := qaz hok h
   simp only [e]
   have := spl_rest n b (l ++ [a]) hb (by omega)
   simp only [List.length_append, List.length_cons, List.length_nil] at this
   exact ⟨this.1, this.2.1, by omega, by omega, by omega⟩
  ·rw [if_neg h]
   exact ⟨h, hok, Nat.le_refl _, Nat.le_refl _, Nat.le_refl _⟩
theorem qab : ∀ (us : List Tm), us.length ≤ qn us
 | [] => Nat.le_refl _
 | u :: us => by have := qab us; have := qx u; simp only [List.length_cons, qn]; omega
theorem beqI {a b : Int} (h : a = b) : (a == b) = true := by simp [h]
theorem beqI' {a b : Int} (h : a ≠ b) : (a == b) = false := by simp [h]
theorem qmp : ∀ (n : Nat) (t : Tm) (l : List Tm), okAll t = true → t.height ≤ n → l.length + t.height ≤ 1000000 → Ev (fun k => R03_Split_L1 k t l) (spl n t l)
 | 0, t, l, hok, hn, _ => by have := qt t; omega
 | n + 1, t, l, hok, hn, hl => by
  refine Ev.succ (fun k => R03_Split_L1.eq_2 ..) ?_
  simp only [spl]
  by_cases h : t.op = 2
  ·obtain ⟨a, b, e, _, hb, _, hh, _⟩ := qaz hok h
   rw [if_pos h, e]
   refine Ev.t (beqI h) ?_
   refine Ev.some idx_get0 ?_
   refine Ev.need (by simp [Tm.encL_length]; omega) ?_
   refine Ev.some idx_get1 ?_
   exact qmp n b _ hb (by omega) (by simp; omega)
  ·rw [if_neg h]
   refine Ev.f (beqI' h) ?_
   exact Ev.pure _
theorem qen {t : Tm} (hok : okAll t = true) (hh : t.height ≤ 1000000) : Ev (fun k => R03_Split k t) (split t) := by
 refine Ev.succ (fun k => R03_Split.eq_2 ..) ?_
 exact qmp t.height t [] hok (Nat.le_refl _) (by simpa using hh)
theorem qix : ∀ (n : Nat) (t : Tm) (l : List Tm), okAll t = true → t.height ≤ n → l.length + t.height ≤ 1000000 → Ev (fun k => term_Domains_L1 k t l) (spl n t l)
 | 0, t, l, hok, hn, _ => by have := qt t; omega
 | n + 1, t, l, hok, hn, hl => by
  refine Ev.succ (fun k => term_Domains_L1.eq_2 ..) ?_
  simp only [spl]
  by_cases h : t.op = 2
  ·obtain ⟨a, b, e, _, hb, _, hh, _⟩ := qaz hok h
   rw [if_pos h, e]
   refine Ev.t (beqI h) ?_
   refine Ev.some idx_get0 ?_
   refine Ev.need (by simp [Tm.encL_length]; omega) ?_
   refine Ev.some idx_get1 ?_
   exact qix n b _ hb (by omega) (by simp; omega)
  ·rw [if_neg h]
   refine Ev.f (beqI' h) ?_
   exact Ev.pure _
theorem qem {t : Tm} (hok : okAll t = true) (hh : t.height ≤ 1000000) : Ev (fun k => term_Domains k t) (split t) := by
 refine Ev.succ (fun k => term_Domains.eq_2 ..) ?_
 exact qix t.height t [] hok (Nat.le_refl _) (by simpa using hh)
def kindT (t : Tm) : Bool := (split t).2.op == 1
theorem kind_ev {t : Tm} (hok : okAll t = true) (hh : t.height ≤ 1000000) : Ev (fun k => sign_kind k t) (kindT t) := by
 refine Ev.succ (fun k => sign_kind.eq_2 ..) ?_
 exact (qem hok hh).bind (Ev.pure _)
theorem target_ev {t : Tm} (hok : okAll t = true) (hh : t.height ≤ 1000000) : Ev (fun k => sign_target k t) ((split t).2.n, ((split t).2.op == 4) && ((split t).2.hd == 2)) := by
 refine Ev.succ (fun k => sign_target.eq_2 ..) ?_
 exact (qem hok hh).bind (Ev.pure _)
theorem qhz {sig : List Dc} {n : Int} {d : Dc} (hd : idx sig n = some d) (hok : okAll d.cls = true) (hh : d.cls.height ≤ 1000000) : Ev (fun k => R05_family k sig n) (kindT d.cls) := by
 refine Ev.succ (fun k => R05_family.eq_2 ..) ?_
 refine Ev.some hd ?_
 exact (qen hok hh).bind (Ev.pure _)
theorem qdo {sig : List Dc} {n : Int} {d : Dc} (hd : idx sig n = some d) (hok : okAll d.cls = true) (hh : d.cls.height ≤ 1000000) : Ev (fun k => R05_IsFamily k sig n) (kindT d.cls) := by
 refine Ev.succ (fun k => R05_IsFamily.eq_2 ..) ?_
 exact (qhz hd hok hh).bind (Ev.pure _)
theorem qga {sig : List Dc} {n : Int} {d : Dc} (hd : idx sig n = some d) (hok : okAll d.cls = true) (hh : d.cls.height ≤ 1000000) : Ev (fun k => sign_Family k sig n) (kindT d.cls) := by
 refine Ev.succ (fun k => sign_Family.eq_2 ..) ?_
 refine Ev.some hd ?_
 exact (kind_ev hok hh).bind (Ev.pure _)
def nodeB (o h n k : Int) (m : Nat) : Bool := (o != 4) || (((h != 3) && ((h != 1) || decide (n < k))) && ((h != 2) || decide (n < (m : Int))))
mutual
def nodesB (m : Nat) : Tm → Int → Bool
 | .mk o h n us, k => nodeB o h n k m && nodesBL m o us 0 k
def nodesBL (m : Nat) : Int → List Tm → Nat → Int → Bool
 | _, [], _, _ => true
 | o, u :: us, i, k => nodesB m u (k + under o i) && nodesBL m o us (i + 1) k
 end
theorem under_ev (t : Tm) (i : Int) : Ev (fun k => term_Under k t i) (under t.op i) := by
 refine Ev.succ (fun k => term_Under.eq_2 ..) ?_
 by_cases h : t.op = 3 ∨ t.op = 2 ∧ i = 1
 ·rw [under, if_pos h]
  exact Ev.t (by simpa using h) (Ev.pure _)
 ·rw [under, if_neg h]
  exact Ev.f (by simpa using h) (Ev.pure _)
mutual
theorem each_ev (sig : List Dc) : ∀ (t : Tm) (k : Int) (b : Bool), 0 ≤ k → k + t.height ≤ 1000000 → t.count ≤ 1000000 → Ev (fun n => term_Each_sign_formed_1 n t k b sig) (b && nodesB sig.length t k)
 | .mk o h n us, k, b, hk0, hk1, hc => by
  refine Ev.succ (fun n => term_Each_sign_formed_1.eq_2 ..) ?_
  have h1 : Ev (fun q => sign_formed_1 q (.mk o h n us) k b sig) (b && nodeB o h n k sig.length) := by
   refine Ev.succ (fun n => sign_formed_1.eq_2 ..) ?_
   refine Ev.ite (fun h1 => ?_) (fun h1 => ?_)
   ·have h1 : o ≠ 4 := by simpa [Tm.op] using h1
    refine (Ev.pure b).eq ?_
    simp [nodeB, h1]
   ·have h1 : o = 4 := by simpa [Tm.op] using h1
    refine (Ev.pure _).eq ?_
    simp only [nodeB, h1, Tm.hd, Tm.n, Dc.encL_length]
    cases b with
    | false => simp
    | true => simp; rfl
  refine h1.bind ?_
  have hl := each_evL sig o h n us (by have := qab us; rw [qai] at hc; simp only [Tm.args] at hc; omega) us k (b && nodeB o h n k sig.length) 0 rfl hk0 (by rw [qaf] at hk1; simp only [Tm.args] at hk1; omega) (by rw [qai] at hc; simp only [Tm.args] at hc; omega) (by simp)
  refine hl.eq ?_
  simp only [nodesB, Bool.and_assoc]
theorem each_evL (sig : List Dc) (o h n : Int) (us : List Tm) (hus : us.length ≤ 1000000) : ∀ (ts : List Tm) (k : Int) (b : Bool) (i : Nat), us.drop i = ts → 0 ≤ k → k + 1 + qs ts ≤ 1000000 → qn ts ≤ 1000000 → i + ts.length = us.length → Ev (fun q => term_Each_sign_formed_1_L1 q (.mk o h n us) k sig b (i : Int)) (b && nodesBL sig.length o ts i k)
 | [], k, b, i, hd, hk0, hk1, hc, hi => by
  refine Ev.succ (fun n => term_Each_sign_formed_1_L1.eq_2 ..) ?_
  simp only [List.length_nil, Nat.add_zero] at hi
  refine Ev.f (by simp [Tm.encL_length, Tm.args, hi]) ?_
  refine (Ev.pure b).eq ?_
  simp [nodesBL]
 | u :: ts, k, b, i, hd, hk0, hk1, hc, hi => by
  refine Ev.succ (fun n => term_Each_sign_formed_1_L1.eq_2 ..) ?_
  simp only [List.length_cons] at hi
  have hu : us[i]? = some u := by
   have := congrArg (fun l => l[0]?) hd
   simpa using this
  have hul := qbb o i
  simp only [qs, qn] at hk1 hc
  refine Ev.t (by simp [Tm.encL_length, Tm.args]; omega) ?_
  refine Ev.some (qw hu) ?_
  refine (under_ev _ _).bind ?_
  have hw : IntKind.i64.wrap (k + under o i) = k + under o i := wrap_i64 (by omega) (by omega)
  simp only [Tm.op, hw]
  refine (each_ev sig u (k + under o i) b (by omega) (by omega) (by omega)).bind ?_
  simp only [wrapS (show i < 2000000000000000000 by omega)]
  refine (each_evL sig o h n us hus ts k _ (i + 1) (by rw [← List.drop_drop, hd]; rfl) hk0 (by omega) (by omega) (by omega)).eq ?_
  simp only [nodesBL, Bool.and_assoc]
 end
end

section
open Go.Tr Go Go.Proofs.Tryz
set_option maxRecDepth 10000
theorem nb {b : Bool} (h : (!b) = true) : b = false := by cases b <;> simp_all
theorem nb' {b : Bool} (h : (!b) = false) : b = true := by cases b <;> simp_all
def occN (hd o h n k : Int) : List Int := if o = 4 ∧ h = hd then (if hd ≠ 1 then [n] else if n ≥ k then [n - k] else []) else []
mutual
def occ (hd : Int) : Tm → Int → List Int
 | .mk o h n us, k => occN hd o h n k ++ occL hd o us 0 k
def occL (hd : Int) : Int → List Tm → Nat → Int → List Int
 | _, [], _, _ => []
 | o, u :: us, i, k => occ hd u (k + under o i) ++ occL hd o us (i + 1) k
 end
mutual
theorem qgp (hd x : Int) : ∀ (t : Tm) (k : Int) (l : List Int), okAll t = true → 0 ≤ k → k + t.height ≤ 1000000 → (x ∈ headsF hd t k l ↔ x ∈ l ∨ x ∈ occ hd t k)
 | .mk o h n us, k, l, hok, hk0, hk1 => by
  have hn := qfe hok
  simp only [Tm.n] at hn
  simp only [okAll, Bool.and_eq_true] at hok
  rw [qaf] at hk1
  simp only [Tm.args] at hk1
  simp only [headsF, occ, List.mem_append]
  rw [qik hd x o us 0 k _ hok.2 hk0 (by omega)]
  rw [← or_assoc]
  apply or_congr _ Iff.rfl
  unfold occN
  by_cases h1 : o = 4 ∧ h = hd
  ·rw [if_pos h1, if_pos h1]
   by_cases h2 : hd ≠ 1
   ·rw [if_pos h2, if_pos h2, qfm]; simp [or_comm]
   ·rw [if_neg h2, if_neg h2]
    by_cases h3 : n ≥ k
    ·rw [if_pos h3, if_pos h3, qfm, wrap_i64 (by omega) (by omega)]; simp [or_comm]
    ·rw [if_neg h3, if_neg h3]; simp
  ·rw [if_neg h1, if_neg h1]; simp
theorem qik (hd x : Int) : ∀ (o : Int) (us : List Tm) (i : Nat) (k : Int) (l : List Int), okAllL us = true → 0 ≤ k → k + 1 + qs us ≤ 1000000 → (x ∈ headsL hd o us i k l ↔ x ∈ l ∨ x ∈ occL hd o us i k)
 | o, [], i, k, l, _, _, _ => by simp [headsL, occL]
 | o, u :: us, i, k, l, hok, hk0, hk1 => by
  simp only [okAllL, Bool.and_eq_true] at hok
  simp only [qs] at hk1
  have hu := qbb o i
  simp only [headsL, occL, List.mem_append]
  rw [qik hd x o us (i + 1) k _ hok.2 hk0 (by omega), qgp hd x u (k + under o i) l hok.1 (by omega) (by omega), or_assoc]
 end
mutual
theorem qgg (hd : Int) : ∀ (t : Tm) (k : Int) (l : List Int), l.Pairwise (· < ·) → (headsF hd t k l).Pairwise (· < ·)
 | .mk o h n us, k, l, hl => by
  simp only [headsF]
  refine qe2 hd o us 0 k _ ?_
  split
  ·split
   ·exact qff _ _ hl
   ·split
    ·exact qff _ _ hl
    ·exact hl
  ·exact hl
theorem qe2 (hd : Int) : ∀ (o : Int) (us : List Tm) (i : Nat) (k : Int) (l : List Int), l.Pairwise (· < ·) → (headsL hd o us i k l).Pairwise (· < ·)
 | o, [], i, k, l, hl => by simpa [headsL] using hl
 | o, u :: us, i, k, l, hl => by
  simp only [headsL]
  exact qe2 hd o us (i + 1) k _ (qgg hd u _ l hl)
 end
mutual
theorem qk3 (m : Nat) : ∀ (t : Tm) (k : Int), okAll t = true → (nodesB m t k = true ↔ occ 1 t k = [] ∧ occ 3 t k = [] ∧ ∀ x ∈ occ 2 t k, x < (m : Int))
 | .mk o h n us, k, hok => by
  have hhd : o = 4 → h = 1 ∨ h = 2 ∨ h = 3 := by
   intro e
   simp only [okAll, Bool.and_eq_true] at hok
   have h1 := hok.1
   subst e
   simp [okNode] at h1
   omega
  simp only [okAll, Bool.and_eq_true] at hok
  have hl := qir m o us 0 k hok.2
  simp only [nodesB, occ, Bool.and_eq_true, hl, List.append_eq_nil_iff, List.mem_append]
  have hn : nodeB o h n k m = true ↔ occN 1 o h n k = [] ∧ occN 3 o h n k = [] ∧ ∀ x ∈ occN 2 o h n k, x < (m : Int) := by
   unfold nodeB occN
   by_cases h4 : o = 4
   ·rcases hhd h4 with rfl | rfl | rfl
    ·subst h4
     by_cases hh : n < k
     ·simp [hh]
     ·simp [hh]
    ·subst h4; simp
    ·subst h4; simp
   ·simp [h4]
  rw [hn]
  constructor
  ·rintro ⟨⟨a, b, c⟩, d, e, f⟩
   exact ⟨⟨a, d⟩, ⟨b, e⟩, fun x hx => hx.elim (c x) (f x)⟩
  ·rintro ⟨⟨a, d⟩, ⟨b, e⟩, f⟩
   exact ⟨⟨a, b, fun x hx => f x (.inl hx)⟩, d, e, fun x hx => f x (.inr hx)⟩
theorem qir (m : Nat) : ∀ (o : Int) (us : List Tm) (i : Nat) (k : Int), okAllL us = true → (nodesBL m o us i k = true ↔ occL 1 o us i k = [] ∧ occL 3 o us i k = [] ∧ ∀ x ∈ occL 2 o us i k, x < (m : Int))
 | o, [], i, k, _ => by simp [nodesBL, occL]
 | o, u :: us, i, k, hok => by
  simp only [okAllL, Bool.and_eq_true] at hok
  have h1 := qk3 m u (k + under o i) hok.1
  have h2 := qir m o us (i + 1) k hok.2
  simp only [nodesBL, occL, Bool.and_eq_true, h1, h2, List.append_eq_nil_iff, List.mem_append]
  constructor
  ·rintro ⟨⟨a, b, c⟩, d, e, f⟩
   exact ⟨⟨a, d⟩, ⟨b, e⟩, fun x hx => hx.elim (c x) (f x)⟩
  ·rintro ⟨⟨a, d⟩, ⟨b, e⟩, f⟩
   exact ⟨⟨a, b, fun x hx => f x (.inl hx)⟩, d, e, fun x hx => f x (.inr hx)⟩
 end
theorem headsF_nil (hd : Int) (t : Tm) (hok : okAll t = true) (hh : t.height ≤ 1000000) : (headsF hd t 0 []).isEmpty = (occ hd t 0).isEmpty := by
 rw [Bool.eq_iff_iff, List.isEmpty_iff, List.isEmpty_iff]
 have hm := fun x => qgp hd x t 0 [] hok (by omega) (by omega)
 constructor
 ·intro e
  apply List.eq_nil_iff_forall_not_mem.2
  intro x hx
  have := (hm x).2 (.inr hx)
  rw [e] at this; cases this
 ·intro e
  apply List.eq_nil_iff_forall_not_mem.2
  intro x hx
  have := (hm x).1 hx
  rw [e] at this; simp at this
theorem qiz (hd : Int) (t : Tm) (hok : okAll t = true) (hh : t.height ≤ 1000000) : (((List.map (D.int .i64) (headsF hd t 0 [])).length : Int) == 0) = (occ hd t 0).isEmpty := by
 rw [← headsF_nil hd t hok hh, List.length_map]
 cases headsF hd t 0 [] with
 | nil => rfl
 | cons a l => simp; omega
theorem qii : ∀ (l : List Int), l.Pairwise (· < ·) → ∀ (y : Int), l[l.length - 1]? = some y → ∀ x ∈ l, x ≤ y
 | [], _, y, h, x, hx => by cases hx
 | [a], _, y, h, x, hx => by simp at h hx; omega
 | a :: b :: l, hp, y, h, x, hx => by
  rw [List.pairwise_cons] at hp
  have h' : (b :: l)[(b :: l).length - 1]? = some y := by simpa using h
  rcases List.mem_cons.1 hx with e | e
  ·subst e
   have := hp.1 y (List.mem_of_getElem? h'); omega
  ·exact qii (b :: l) hp.2 y h' x e
theorem qkz {t : Tm} (hh : t.height ≤ 1000000) (hc : t.count ≤ 1000000) : Ev (fun k => R03_Free k t) (headsF 1 t 0 []) := by
 refine Ev.succ (fun k => R03_Free.eq_2 ..) ?_
 exact Ev.need (by simp; omega) (Ev.pure _)
theorem qjp {t : Tm} (hh : t.height ≤ 1000000) (hc : t.count ≤ 1000000) : Ev (fun k => R03_Constants k t) (headsF 2 t 0 []) := by
 refine Ev.succ (fun k => R03_Constants.eq_2 ..) ?_
 exact Ev.need (by simp; omega) (Ev.pure _)
theorem qov {t : Tm} (hh : t.height ≤ 1000000) (hc : t.count ≤ 1000000) : Ev (fun k => R03_Metas k t) (headsF 3 t 0 []) := by
 refine Ev.succ (fun k => R03_Metas.eq_2 ..) ?_
 exact Ev.need (by simp; omega) (Ev.pure _)
theorem qnx (hd : Int) : ∀ (t : Tm) (k : Int) (l : List Int), (headsF hd t k l).length ≤ l.length + t.count := qcn hd
theorem closed_ev {t : Tm} (m : Nat) (hok : okAll t = true) (hh : t.height ≤ 1000) (hc : t.count ≤ 1000) : Ev (fun k => R05_closed k t (m : Int)) (nodesB m t 0) := by
 refine Ev.succ (fun k => R05_closed.eq_2 ..) ?_
 refine (qjp (by omega) (by omega)).bind ?_
 refine (qkz (by omega) (by omega)).bind ?_
 have hocc := qk3 m t 0 hok
 have e1 := qiz 1 t hok (by omega)
 have e2 := qiz 2 t hok (by omega)
 have e3 := qiz 3 t hok (by omega)
 refine Ev.ite (fun h1 => ?_) (fun h1 => ?_)
 ·rw [e1, List.isEmpty_iff] at h1
  refine (qov (by omega) (by omega)).bind ?_
  refine Ev.ite (fun h3 => ?_) (fun h3 => ?_)
  ·rw [e3, List.isEmpty_iff] at h3
   refine Ev.ite (fun h2 => ?_) (fun h2 => ?_)
   ·rw [e2, List.isEmpty_iff] at h2
    refine (Ev.pure true).eq ?_
    symm
    rw [hocc]
    exact ⟨h1, h3, by rw [h2]; simp⟩
   ·have hne : headsF 2 t 0 [] ≠ [] := by
     intro e; rw [e] at h2; simp at h2
    have hlen : 0 < (headsF 2 t 0 []).length := List.length_pos_iff.2 hne
    have hlc := qnx 2 t 0 []
    simp only [List.length_nil] at hlc
    obtain ⟨y, hy⟩ : ∃ y, (headsF 2 t 0 [])[(headsF 2 t 0 []).length - 1]? = some y := ⟨_, List.getElem?_eq_getElem (by omega)⟩
    have hw : IntKind.i64.wrap (((List.map (D.int .i64) (headsF 2 t 0 [])).length : Int) - 1) = (((headsF 2 t 0 []).length - 1 : Nat) : Int) := by
     rw [List.length_map, wrap_i64 (by omega) (by omega)]; omega
    rw [hw]
    refine Ev.some (qw hy) ?_
    refine (Ev.pure _).eq ?_
    rw [Bool.eq_iff_iff, decide_eq_true_eq, hocc]
    have hm := fun x => qgp 2 x t 0 [] hok (by omega) (by omega)
    constructor
    ·intro h
     refine ⟨h1, h3, fun x hx => ?_⟩
     have := qii _ (qgg 2 t 0 [] .nil) y hy x ((hm x).2 (.inr hx))
     omega
    ·rintro ⟨_, _, h⟩
     refine h y ?_
     have := (hm y).1 (List.mem_of_getElem? hy)
     simpa using this
  ·rw [e3] at h3
   refine (Ev.pure false).eq ?_
   symm
   rw [Bool.eq_false_iff, ne_eq, hocc]
   rintro ⟨_, h, _⟩
   rw [h] at h3; cases h3
 ·rw [e1] at h1
  refine (Ev.pure false).eq ?_
  symm
  rw [Bool.eq_false_iff, ne_eq, hocc]
  rintro ⟨h, _, _⟩
  rw [h] at h1; cases h1
theorem qj {t : Tm} (h : isProper t = true) : okAll t = true ∧ t.height ≤ 40 ∧ t.count ≤ 600 := by
 have := (qc5 t).1 h
 exact ⟨this.1, this.2.2, this.2.1⟩
def kindAt (sig : List Dc) (n : Int) : Bool := match idx sig n with
 | some d => kindT d.cls
 | none => false
def declOK (pre : List Dc) (d : Dc) : Bool := ((isSmallF d.name && !(d.name.toList == tyB.toList)) && isProper d.cls && nodesB pre.length d.cls 0 && !pre.any (fun x => x.name.toList == d.name.toList)) &&
 ((((split d.cls).2.op == 1) || (((split d.cls).2.op == 4) && ((split d.cls).2.hd == 2) && kindAt pre (split d.cls).2.n)) && decide (0 ≤ d.implicit) && decide (d.implicit ≤ ((split d.cls).1.length : Int)))
def sigG : List Dc → List Dc → Bool
 | _, [] => true
 | pre, d :: r => declOK pre d && sigG (pre ++ [d]) r
theorem qdm {pre : List Dc} {d : Dc} (h : declOK pre d = true) : isProper d.cls = true := by
 simp only [declOK, Bool.and_eq_true] at h
 exact h.1.1.1.2
theorem qlv (m : Nat) : ∀ (n : Nat) (t : Tm) (l : List Tm) (k : Int), okAll t = true → t.height ≤ n → nodesB m t k = true → (spl n t l).2.op = 4 → (spl n t l).2.hd = 2 → 0 ≤ (spl n t l).2.n ∧ (spl n t l).2.n < (m : Int)
 | 0, t, l, k, hok, hn, _, _, _ => by have := qt t; omega
 | n + 1, t, l, k, hok, hn, hb, h4, h2 => by
  simp only [spl] at h4 h2 ⊢
  by_cases h : t.op = 2
  ·rw [if_pos h] at h4 h2 ⊢
   obtain ⟨a, b, e, _, hbo, _, hh, hc⟩ := qaz hok h
   simp only [e] at h4 h2 ⊢
   cases t with
   | mk o hd q us =>
    simp only [Tm.args] at e
    subst e
    simp only [nodesB, nodesBL, Bool.and_eq_true] at hb
    exact qlv m n b _ _ hbo (by omega) hb.2.2.1 h4 h2
  ·rw [if_neg h] at h4 h2 ⊢
   have hnn := qfe hok
   cases t with
   | mk o hd q us =>
    simp only [Tm.op, Tm.hd, Tm.n] at h4 h2 hnn ⊢
    subst h4 h2
    simp only [nodesB, nodeB, Bool.and_eq_true] at hb
    have := hb.1
    simp at this
    exact ⟨hnn.1, this⟩
theorem qi8 {sig : List Dc} {n : Int} (h0 : 0 ≤ n) (h1 : n < (sig.length : Int)) : ∃ d, idx sig n = some d ∧ d ∈ sig := by
 obtain ⟨k, rfl⟩ : ∃ k : Nat, n = k := ⟨n.toNat, by omega⟩
 have : k < sig.length := by omega
 exact ⟨sig[k], by rw [qi7]; exact List.getElem?_eq_getElem this, List.getElem_mem this⟩
theorem refName_ev (s : ByteArray) : Ev (fun k => R05_IsName k s) (isSmallF s && !(s.toList == tyB.toList)) := by
 refine Ev.succ (fun k => R05_IsName.eq_2 ..) ?_
 exact Ev.pure _
theorem qom (s : ByteArray) : Ev (fun k => sign_name k s) (isSmallF s && !(s.toList == tyB.toList)) := by
 refine Ev.succ (fun k => sign_name.eq_2 ..) ?_
 exact Ev.pure _
def headOK (pre : List Dc) (d : Dc) : Bool := ((((split d.cls).2.op == 1) || (((split d.cls).2.op == 4) && ((split d.cls).2.hd == 2) && kindAt pre (split d.cls).2.n)) && decide (0 ≤ d.implicit) && decide (d.implicit ≤ ((split d.cls).1.length : Int)))
theorem qe9 {t : Tm} (h : isProper t = true) : (split t).2.op ≠ 2 ∧ okAll (split t).2 = true ∧ (split t).2.count ≤ 600 ∧ (split t).2.height ≤ 40 ∧ (split t).1.length ≤ 40 := by
 obtain ⟨hok, hh, hc⟩ := qj h
 have := spl_rest t.height t [] hok (Nat.le_refl _)
 have hp := qt (split t).2
 have e : split t = spl t.height t [] := rfl
 rw [← e] at this
 simp only [List.length_nil] at this
 refine ⟨this.1, this.2.1, by omega, by omega, by omega⟩
theorem kindAt_ev {pre : List Dc} (hpre : ∀ x ∈ pre, isProper x.cls = true) {n : Int} (h0 : 0 ≤ n) (h1 : n < (pre.length : Int)) : Ev (fun k => R05_family k pre n) (kindAt pre n) := by
 obtain ⟨d, hd, hm⟩ := qi8 h0 h1
 obtain ⟨hok, hh, _⟩ := qj (hpre d hm)
 rw [kindAt, hd]
 exact qhz hd hok (by omega)
theorem qk4 (pre : List Dc) (d : Dc) (hpre : ∀ x ∈ pre, isProper x.cls = true) (hlen : pre.length ≤ 1000) (hp : isProper d.cls = true) (hn : nodesB pre.length d.cls 0 = true) :
  ∀ (post : List Dc) (i : Nat), pre.drop i = post → i + post.length = pre.length → Ev (fun k => R05_formed_L1 k pre d (i : Int)) (!post.any (fun x => x.name.toList == d.name.toList) && headOK pre d)
 | [], i, hd, hi => by
  simp only [List.length_nil, Nat.add_zero] at hi
  refine Ev.succ (fun k => R05_formed_L1.eq_2 ..) ?_
  refine Ev.f (by simp [Dc.encL_length, hi]) ?_
  obtain ⟨hok, hh, hc⟩ := qj hp
  obtain ⟨s1, s2, s3, s4, s5⟩ := qe9 hp
  have hnode := qlv pre.length d.cls.height d.cls [] 0 hok (Nat.le_refl _) hn
  have e : spl d.cls.height d.cls [] = split d.cls := rfl
  rw [e] at hnode
  refine (qen hok (by omega)).bind ?_
  simp only [List.any_nil, Bool.not_false, Bool.true_and, headOK]
  refine Ev.ite (fun h4 => ?_) (fun h4 => ?_)
  ·have h4' : (split d.cls).2.op = 4 := by simpa using h4
   refine Ev.ite (fun h2 => ?_) (fun h2 => ?_)
   ·have h2' : ((split d.cls).2.hd == 2) = false := by simpa using h2
    refine (Ev.pure false).eq ?_
    rw [h2', h4']; simp
   ·have h2' : (split d.cls).2.hd = 2 := by simpa using h2
    obtain ⟨n0, n1⟩ := hnode h4' h2'
    refine (kindAt_ev hpre n0 n1).bind ?_
    refine Ev.ite (fun h5 => ?_) (fun h5 => ?_)
    ·refine (Ev.pure false).eq ?_
     have h5 : kindAt pre (split d.cls).2.n = false := by simpa using h5
     rw [h5, h4']; simp
    ·refine (Ev.pure _).eq ?_
     have h5 : kindAt pre (split d.cls).2.n = true := by simpa using h5
     rw [h5, h4', h2']; simp [Tm.encL_length]
  ·refine (Ev.pure _).eq ?_
   have h4' : ((split d.cls).2.op == 4) = false := h4
   simp only [h4', Tm.encL_length, Bool.or_false, Bool.false_and]
 | x :: post, i, hd, hi => by
  simp only [List.length_cons] at hi
  have hx : pre[i]? = some x := by
   have := congrArg (fun l => l[0]?) hd
   simpa using this
  refine Ev.succ (fun k => R05_formed_L1.eq_2 ..) ?_
  refine Ev.t (by simp [Dc.encL_length]; omega) ?_
  refine Ev.some (qw hx) ?_
  rw [List.any_cons]
  refine Ev.ite (fun h => ?_) (fun h => ?_)
  ·refine (Ev.pure false).eq ?_
   rw [h]; simp
  ·rw [h, wrapS (by omega), Bool.false_or]
   exact qk4 pre d hpre hlen hp hn post (i + 1) (by rw [← List.drop_drop, hd]; rfl) (by omega)
theorem qmj (pre : List Dc) (d : Dc) : declOK pre d = (((isSmallF d.name && !(d.name.toList == tyB.toList)) && isProper d.cls && nodesB pre.length d.cls 0 && !pre.any (fun x => x.name.toList == d.name.toList)) && headOK pre d) := rfl
theorem formed_ev (pre : List Dc) (d : Dc) (hpre : ∀ x ∈ pre, isProper x.cls = true) (hlen : pre.length ≤ 1000) : Ev (fun k => R05_formed k pre d) (declOK pre d) := by
 refine Ev.succ (fun k => R05_formed.eq_2 ..) ?_
 refine (refName_ev d.name).bind ?_
 rw [qmj]
 refine Ev.ite (fun h1 => ?_) (fun h1 => ?_)
 ·have h1 : (isSmallF d.name && !(d.name.toList == tyB.toList)) = false := nb h1
  exact (Ev.pure false).eq (by rw [h1]; rfl)
 have h1 : (isSmallF d.name && !(d.name.toList == tyB.toList)) = true := nb' h1
 rw [h1, qa9, Bool.true_and]
 refine Ev.ite (fun h2 => ?_) (fun h2 => ?_)
 ·have h2 : isProper d.cls = false := by simpa using h2
  exact (Ev.pure false).eq (by rw [h2]; rfl)
 have h2 : isProper d.cls = true := by simpa using h2
 obtain ⟨hok, hh, hc⟩ := qj h2
 rw [h2, Bool.true_and, Dc.encL_length]
 refine (closed_ev pre.length hok (by omega) (by omega)).bind ?_
 refine Ev.ite (fun h3 => ?_) (fun h3 => ?_)
 ·have h3 : nodesB pre.length d.cls 0 = false := by simpa using h3
  exact (Ev.pure false).eq (by rw [h3]; rfl)
 have h3 : nodesB pre.length d.cls 0 = true := by simpa using h3
 rw [h3, Bool.true_and]
 exact qk4 pre d hpre hlen h2 h3 pre 0 rfl (by simp)
theorem qgd (sig : List Dc) (hlen : sig.length ≤ 100) : ∀ (post : List Dc) (i : Nat), sig.drop i = post → i + post.length = sig.length → (∀ x ∈ sig.take i, isProper x.cls = true) → Ev (fun k => R05_Formed_L1 k sig (i : Int)) (sigG (sig.take i) post)
 | [], i, hd, hi, hpre => by
  simp only [List.length_nil, Nat.add_zero] at hi
  refine Ev.succ (fun k => R05_Formed_L1.eq_2 ..) ?_
  refine Ev.f (by simp [Dc.encL_length, hi]) ?_
  refine (Ev.pure _).eq ?_
  simp [sigG, Dc.encL_length]; omega
 | d :: post, i, hd, hi, hpre => by
  simp only [List.length_cons] at hi
  have hx : sig[i]? = some d := by
   have := congrArg (fun l => l[0]?) hd
   simpa using this
  refine Ev.succ (fun k => R05_Formed_L1.eq_2 ..) ?_
  refine Ev.t (by simp [Dc.encL_length]; omega) ?_
  refine Ev.need (by simp [Dc.encL_length]; omega) ?_
  refine Ev.some (qw hx) ?_
  rw [Int.toNat_natCast]
  refine (formed_ev (sig.take i) d hpre (by simp; omega)).bind ?_
  rw [sigG]
  have htk : sig.take (i + 1) = sig.take i ++ [d] := by
   rw [List.take_add_one, hx]; rfl
  refine Ev.ite (fun h => ?_) (fun h => ?_)
  ·have h : declOK (sig.take i) d = false := by simpa using h
   exact (Ev.pure false).eq (by rw [h]; rfl)
  ·have h : declOK (sig.take i) d = true := by simpa using h
   rw [h, wrapS (by omega), Bool.true_and, ← htk]
   refine qgd sig hlen post (i + 1) (by rw [← List.drop_drop, hd]; rfl) (by omega) ?_
   intro x hx'
   rw [htk, List.mem_append, List.mem_singleton] at hx'
   rcases hx' with h1 | rfl
   ·exact hpre x h1
   ·exact qdm h
def sigOK (sig : List Dc) : Bool := decide (sig.length ≤ 100) && sigG [] sig
theorem qmt (sig : List Dc) : Ev (fun k => R05_Formed k sig) (sigOK sig) := by
 refine Ev.succ (fun k => R05_Formed.eq_2 ..) ?_
 by_cases hl : sig.length ≤ 100
 ·refine (qgd sig hl sig 0 rfl (by simp) (by simp)).eq ?_
  simp [sigOK, hl]
 ·refine Ev.succ (fun k => R05_Formed_L1.eq_2 ..) ?_
  refine Ev.f (by simp [Dc.encL_length]; omega) ?_
  refine (Ev.pure _).eq ?_
  simp [sigOK, hl, Dc.encL_length]; omega
theorem qle (pre : List Dc) (d : Dc) (hpre : ∀ x ∈ pre, isProper x.cls = true) (hlen : pre.length ≤ 1000) (hn : pre.any (fun x => x.name.toList == d.name.toList) = false) : Ev (fun k => sign_formed k pre d) (declOK pre d) := by
 refine Ev.succ (fun k => sign_formed.eq_2 ..) ?_
 rw [qmj, hn]
 refine Ev.ite (fun h2 => ?_) (fun h2 => ?_)
 ·have h2 : isProper d.cls = false := by
   cases h : isProper d.cls with
   | false => rfl
   | true => rw [h] at h2; simp at h2
  exact (Ev.pure false).eq (by rw [h2]; simp)
 have h2 : isProper d.cls = true := by
  cases h : isProper d.cls with
  | true => rfl
  | false => rw [h] at h2; simp at h2
 obtain ⟨hok, hh, hc⟩ := qj h2
 rw [h2]
 refine (qom d.name).bind ?_
 generalize (isSmallF d.name && !(d.name.toList == tyB.toList)) = nm
 refine Ev.ite (fun h1 => ?_) (fun h1 => ?_)
 ·refine (Ev.pure false).eq ?_
  rw [headOK]
  cases nm with
  | false => rfl
  | true =>
   have h1 : d.implicit < 0 := by simpa using h1
   have : decide (0 ≤ d.implicit) = false := by simp; omega
   rw [this]; simp
 have hnm : nm = true := by cases nm with | true => rfl | false => simp at h1
 subst hnm
 have himp : decide (0 ≤ d.implicit) = true := by simp at h1; simp; omega
 refine (qem hok (by omega)).bind ?_
 refine (each_ev pre d.cls 0 _ (by omega) (by omega) (by omega)).bind ?_
 refine (kind_ev hok (by omega)).bind ?_
 obtain ⟨s1, s2, s3, s4, s5⟩ := qe9 h2
 have hnode := qlv pre.length d.cls.height d.cls [] 0 hok (Nat.le_refl _)
 have e : spl d.cls.height d.cls [] = split d.cls := rfl
 rw [e] at hnode
 rw [headOK, himp, Tm.encL_length]
 refine Ev.ite (fun h3 => ?_) (fun h3 => ?_)
 ·refine (Ev.pure _).eq ?_
  have h3 : ((split d.cls).2.op == 1) = true := h3
  rw [h3]
  simp [Bool.and_comm]
 have h3 : ((split d.cls).2.op == 1) = false := h3
 refine (target_ev hok (by omega)).bind ?_
 rw [h3]
 refine Ev.ite (fun h4 => ?_) (fun h4 => ?_)
 ·simp only [Bool.and_eq_true] at h4
  obtain ⟨⟨h5, h6⟩, h7, h8⟩ := h4
  obtain ⟨n0, n1⟩ := hnode h6 (by simpa using h7) (by simpa using h8)
  obtain ⟨x, hx, hm⟩ := qi8 n0 n1
  obtain ⟨xok, xh, _⟩ := qj (hpre x hm)
  refine Ev.some hx ?_
  refine (kind_ev xok (by omega)).bind ?_
  refine (Ev.pure _).eq ?_
  rw [kindAt, hx, h5, h6, h7, h8]; simp
 ·refine (Ev.pure false).eq ?_
  revert h4
  generalize decide (d.implicit ≤ ((split d.cls).1.length : Int)) = b1
  generalize nodesB pre.length d.cls 0 = b2
  generalize ((split d.cls).2.op == 4) = b3
  generalize ((split d.cls).2.hd == 2) = b4
  cases b1 <;> cases b2 <;> cases b3 <;> cases b4 <;> simp
def namesOf (pre : List Dc) (m : List (ByteArray × Bool)) : Prop := ∀ s, (mget m s).getD false = pre.any (fun x => x.name.toList == s.toList)
theorem qic {κ β : Type} [DecidableEq κ] (n : κ) (v : β) : ∀ (l : List (κ × β)) (x : κ), mget (mput n v l) x = if x = n then some v else mget l x
 | [], x => by simp only [mput, mget]
 | (k, u) :: r, x => by
  simp only [mput]
  split
  ·rename_i h
   subst h
   simp only [mget]
   split <;> rfl
  ·rename_i h
   simp only [mget, qic n v r x]
   by_cases h1 : x = k
   ·subst h1; rw [if_pos rfl, if_pos rfl, if_neg (fun e => h e.symm)]
   ·rw [if_neg h1, if_neg h1]
theorem qnh (sig : List Dc) (hlen : sig.length ≤ 100) : ∀ (post : List Dc) (i : Nat) (m : List (ByteArray × Bool)), sig.drop i = post → i + post.length = sig.length → (∀ x ∈ sig.take i, isProper x.cls = true) → namesOf (sig.take i) m → Ev (fun k => sign_Check_L1 k sig m (i : Int)) (if sigG (sig.take i) post then 0 else 2)
 | [], i, m, hd, hi, hpre, hm => by
  simp only [List.length_nil, Nat.add_zero] at hi
  refine Ev.succ (fun k => sign_Check_L1.eq_2 ..) ?_
  refine Ev.f (by simp [Dc.encL_length, hi]) ?_
  exact (Ev.pure _).eq (by simp [sigG])
 | d :: post, i, m, hd, hi, hpre, hm => by
  simp only [List.length_cons] at hi
  have hx : sig[i]? = some d := by
   have := congrArg (fun l => l[0]?) hd
   simpa using this
  have htk : sig.take (i + 1) = sig.take i ++ [d] := by
   rw [List.take_add_one, hx]; rfl
  refine Ev.succ (fun k => sign_Check_L1.eq_2 ..) ?_
  refine Ev.t (by simp [Dc.encL_length]; omega) ?_
  refine Ev.some (qw hx) ?_
  refine Ev.need (by simp [Dc.encL_length]; omega) ?_
  rw [hm d.name, sigG]
  refine Ev.ite (fun h1 => ?_) (fun h1 => ?_)
  ·refine (Ev.pure _).eq ?_
   rw [declOK, h1]; simp
  rw [Int.toNat_natCast]
  refine (qle (sig.take i) d hpre (by simp; omega) h1).bind ?_
  refine Ev.ite (fun h => ?_) (fun h => ?_)
  ·have h : declOK (sig.take i) d = false := by simpa using h
   exact (Ev.pure _).eq (by rw [h]; rfl)
  ·have h : declOK (sig.take i) d = true := by simpa using h
   rw [h, wrapS (by omega), Bool.true_and, ← htk]
   refine qnh sig hlen post (i + 1) _ (by rw [← List.drop_drop, hd]; rfl) (by omega) ?_ ?_
   ·intro x hx'
    rw [htk, List.mem_append, List.mem_singleton] at hx'
    rcases hx' with h1 | rfl
    ·exact hpre x h1
    ·exact qdm h
   ·intro s
    rw [qic, htk, List.any_append, ← hm s]
    by_cases hs : s = d.name
    ·subst hs; simp
    ·rw [if_neg hs]
     have : (d.name.toList == s.toList) = false := by rw [strEq, decide_eq_false_iff_not]; exact fun e => hs e.symm
     simp [this]
theorem check_ev (sig : List Dc) : Ev (fun k => sign_Check k sig) (if sigOK sig then 0 else 2) := by
 refine Ev.succ (fun k => sign_Check.eq_2 ..) ?_
 refine Ev.ite (fun h => ?_) (fun h => ?_)
 ·refine (Ev.pure _).eq ?_
  have h : 100 < sig.length := by simp [Dc.encL_length] at h; omega
  have : decide (sig.length ≤ 100) = false := by simp; omega
  rw [sigOK, this]; rfl
 ·have h : sig.length ≤ 100 := by simp [Dc.encL_length] at h; omega
  refine (qnh sig h sig 0 [] rfl (by simp) (by simp) (fun s => by simp [mget])).eq ?_
  have : decide (sig.length ≤ 100) = true := by simpa using h
  rw [sigOK, this]; rfl
theorem qhv : ∀ (post pre : List Dc), sigG pre post = true → ∀ x ∈ post, isProper x.cls = true
 | [], _, _, x, hx => by cases hx
 | d :: post, pre, h, x, hx => by
  simp only [sigG, Bool.and_eq_true] at h
  rcases List.mem_cons.1 hx with e | e
  ·subst e; exact qdm h.1
  ·exact qhv post _ h.2 x e
theorem qa6 {sig : List Dc} (h : sigOK sig = true) : sig.length ≤ 100 ∧ ∀ x ∈ sig, isProper x.cls = true := by
 simp only [sigOK, Bool.and_eq_true, decide_eq_true_eq] at h
 exact ⟨h.1, qhv sig [] h.2⟩
end

section
open Go.Tr Go Go.Proofs.Tryz
set_option maxRecDepth 10000
abbrev Pr (t : Tm) : Prop := isProper t = true
theorem qa3 {t u : Tm} (h : Pr t) (hu : u ∈ t.args) : Pr u := by
 obtain ⟨hok, hh, hc⟩ := qj h
 rw [Pr, qc5]
 have h1 := qan hu
 rw [qaf] at hh
 rw [qai] at hc
 have h2 : u.count ≤ qn t.args := by
  have : ∀ (us : List Tm), u ∈ us → u.count ≤ qn us := by
   intro us
   induction us with
   | nil => intro h; cases h
   | cons v us ih =>
    intro h
    simp only [qn]
    rcases List.mem_cons.1 h with e | e
    ·subst e; omega
    ·have := ih e; omega
  exact this _ hu
 exact ⟨okAll_arg hok hu, by omega, by omega⟩
theorem qg2 {t : Tm} (h : Pr t) : t.args.length ≤ 600 := by
 obtain ⟨hok, hh, hc⟩ := qj h
 have := qab t.args
 rw [qai] at hc
 omega
theorem pr_n {t : Tm} (h : Pr t) : 0 ≤ t.n ∧ t.n ≤ 9999 := qfe (qj h).1
theorem qjm {t : Tm} (h : Pr t) (ho : t.op = 2) : ∃ a b, t.args = [a, b] ∧ Pr a ∧ Pr b ∧ a.count < t.count ∧ b.count < t.count ∧ a.height < t.height ∧ b.height < t.height := by
 obtain ⟨a, b, e, _, _, h1, h2, h3⟩ := qaz (qj h).1 ho
 have := qx a; have := qx b
 exact ⟨a, b, e, qa3 h (by rw [e]; simp), qa3 h (by rw [e]; simp), by omega, by omega, by omega, by omega⟩
theorem pr_one {t : Tm} (h : Pr t) (ho : t.op = 3) : ∃ a, t.args = [a] ∧ Pr a ∧ a.count < t.count := by
 obtain ⟨a, e, _, h1, h2⟩ := qgj (qj h).1 ho
 exact ⟨a, e, qa3 h (by rw [e]; simp), by omega⟩
theorem qmb {t u : Tm} (hu : u ∈ t.args) : u.count < t.count := by
 rw [qai t]
 have : ∀ (us : List Tm), u ∈ us → u.count ≤ qn us := by
  intro us
  induction us with
  | nil => intro h; cases h
  | cons v us ih =>
   intro h
   simp only [qn]
   rcases List.mem_cons.1 h with e | e
   ·subst e; omega
   ·have := ih e; omega
 have := this _ hu
 omega
def okR (r : Tm × Int) : Prop := r.2 = 0 → Pr r.1
theorem qmc (t : Tm) : Yields (fun k => R04_whole k t) okR := by
 refine Yields.succ (fun k => R04_whole.eq_2 ..) ?_
 rw [qa9]
 refine Yields.ite (fun h => Yields.pure ?_) (fun h => Yields.pure ?_)
 ·intro h; cases h
 ·intro _; exact nb' h
theorem qd1 {α : Type} {l : List α} {i : Nat} (h : i < l.length) : ∃ x, idx l (i : Int) = some x ∧ x ∈ l ∧ l[i]? = some x :=
 ⟨l[i], by rw [qi7]; exact List.getElem?_eq_getElem h, List.getElem_mem h, List.getElem?_eq_getElem h⟩
theorem moved_y : ∀ (c : Nat) (t : Tm) (by_ f : Int), t.count ≤ c → t.count ≤ 600 → Yields (fun k => R04_moved k t by_ f) (fun _ => True)
 | 0, t, _, _, h, _ => by have := qx t; omega
 | c + 1, t, by_, f, h, h6 => by
  have hlen : t.args.length ≤ 600 := by have := qab t.args; rw [qai] at h6; omega
  have loop : ∀ (m i : Nat) (o : Tm), m = t.args.length - i → i ≤ t.args.length → o.args.length = i → Yields (fun k => R04_moved_L1 k t by_ f o (i : Int)) (fun _ => True) := by
   intro m
   induction m with
   | zero =>
    intro i o hm hi ho
    refine Yields.succ (fun k => R04_moved_L1.eq_2 ..) ?_
    refine Yields.ite (fun hc => ?_) (fun hc => Yields.pure trivial)
    simp [Tm.encL_length] at hc; omega
   | succ m ih =>
    intro i o hm hi ho
    refine Yields.succ (fun k => R04_moved_L1.eq_2 ..) ?_
    obtain ⟨x, hx, hxm, _⟩ := qd1 (show i < t.args.length by omega)
    have hcx := qmb hxm
    have hnext : ∀ y, Yields (fun k => R04_moved_L1 k t by_ f (Tm.mk o.op o.hd o.n (o.args ++ [y])) ((i + 1 : Nat) : Int)) (fun _ => True) := fun y => ih (i + 1) _ (by omega) (by omega) (by show (o.args ++ [y]).length = i + 1; simp [ho])
    refine Yields.ite (fun hc => ?_) (fun hc => Yields.pure trivial)
    refine Yields.ite (fun _ => ?_) (fun _ => ?_)
    ·refine Yields.some hx ?_
     refine Yields.bind (moved_y c x _ _ (by omega) (by omega)) (fun y _ => ?_)
     refine Yields.need (by simp [Tm.encL_length]; omega) ?_
     rw [wrapS (by omega)]
     exact hnext y
    ·refine Yields.some hx ?_
     refine Yields.bind (moved_y c x _ _ (by omega) (by omega)) (fun y _ => ?_)
     refine Yields.need (by simp [Tm.encL_length]; omega) ?_
     rw [wrapS (by omega)]
     exact hnext y
  refine Yields.succ (fun k => R04_moved.eq_2 ..) ?_
  refine Yields.ite (fun _ => ?_) (fun _ => ?_)
  ·exact loop _ 0 _ rfl (Nat.zero_le _) rfl
  ·exact loop _ 0 _ rfl (Nat.zero_le _) rfl
theorem raised_y {t : Tm} (h : Pr t) (n : Int) : Yields (fun k => R04_raised k t n) (fun _ => True) := by
 refine Yields.succ (fun k => R04_raised.eq_2 ..) ?_
 exact Yields.bind (moved_y t.count t _ _ (Nat.le_refl _) (qj h).2.2) (fun y _ => Yields.pure trivial)
def okP (c : Int) (r : Tm × Int × Ct) : Prop := c ≤ r.2.2.n ∧ r.2.2.n ≤ 20001 ∧ (r.2.1 = 0 → Pr r.1 ∧ r.2.2.n ≤ 20000)
theorem wrapc {c : Int} (h0 : 0 ≤ c) (h1 : c ≤ 20001) : IntKind.i64.wrap (c + 1) = c + 1 := wrap_i64 (by omega) (by omega)
def PutY (q : Nat) : Prop := ∀ (t : Tm) (n : Int) (s : Tm) (p : Sm) (c : Int), 0 ≤ c → c ≤ 20000 → 20001 - c ≤ q → Pr t → Pr s → Yields (fun k => R04_count_put k t n s p ⟨c⟩) (okP c)
theorem apply_y (q : Nat) (hput : PutY q) : ∀ (f : Tm) (l : List Tm) (p : Sm) (c : Int) (m : Nat), l.length ≤ m → 0 ≤ c → c ≤ 20000 → 20001 - c ≤ q → Pr f → (∀ x ∈ l, Pr x) → l.length ≤ 1000 → Yields (fun k => R04_count_apply k f l p ⟨c⟩) (okP c)
 | f, [], p, c, m, hm, h0, h1, hq, hf, hl, hb => by
  refine Yields.succ (fun k => R04_count_apply.eq_2 ..) ?_
  refine Yields.ite (fun _ => ?_) (fun h => by simp [Tm.encL] at h)
  refine Yields.bind (qmc f) (fun y hy => Yields.pure ⟨?_, ?_, fun h => ⟨hy h, ?_⟩⟩) <;> simp only <;> omega
 | f, x :: l, p, c, 0, hm, h0, h1, hq, hf, hl, hb => by simp at hm
 | f, x :: l, p, c, m + 1, hm, h0, h1, hq, hf, hl, hb => by
  refine Yields.succ (fun k => R04_count_apply.eq_2 ..) ?_
  refine Yields.ite (fun h => by simp [Tm.encL_length] at h; omega) (fun _ => ?_)
  refine Yields.ite (fun _ => Yields.pure ?_) (fun h2 => ?_)
  ·refine ⟨?_, ?_, fun h => by cases h⟩ <;> simp only <;> omega
  simp only [Bool.or_eq_false_iff, bne_eq_false_iff_eq] at h2
  obtain ⟨b, hb1, hpb, _⟩ := pr_one hf h2.1
  have hpa : p.args ≠ [] := by
   intro e; have := h2.2; rw [e] at this; simp [Sm.encL] at this
  obtain ⟨p0, ps, hps⟩ := List.exists_cons_of_ne_nil hpa
  refine Yields.some (x := b) (by rw [hb1]; rfl) ?_
  refine Yields.some (x := x) rfl ?_
  refine Yields.some (x := p0) (by rw [hps]; rfl) ?_
  refine Yields.bind (hput b 0 x p0 c h0 h1 hq hpb (hl x (by simp))) (fun y hy => ?_)
  obtain ⟨y1, y2, ⟨y3⟩⟩ := y
  obtain ⟨e1, e2, e3⟩ := hy
  simp only at e1 e2 e3 ⊢
  refine Yields.ite (fun h5 => Yields.pure ?_) (fun h5 => ?_)
  ·have h5 : y2 ≠ 0 := by simpa using h5
   exact ⟨e1, e2, fun h => (h5 h).elim⟩
  have h5 : y2 = 0 := by simpa using h5
  refine Yields.need (by simp [Tm.encL_length]; omega) ?_
  refine Yields.need (by rw [hps]; simp [Sm.encL_length]; omega) ?_
  simp only [List.length_cons] at hm hb
  refine Yields.bind (apply_y q hput y1 l _ y3 m (by omega) (by omega) (e3 h5).2 (by omega) (e3 h5).1 (fun z hz => hl z (by simp [hz])) (by omega)) (fun r hr => Yields.pure ?_)
  obtain ⟨g1, g2, g3⟩ := hr
  exact ⟨by simp only; omega, g2, g3⟩
theorem put_y : ∀ (q : Nat), PutY q
 | 0 => fun t n s p c h0 h1 hq ht hs => by omega
 | q + 1 => fun t n s p c h0 h1 hq ht hs => by
  have hput := put_y q
  refine Yields.succ (fun k => R04_count_put.eq_2 ..) ?_
  have hlen := qg2 ht
  simp only [wrapc h0 (by omega)]
  refine Yields.ite (fun h2 => Yields.pure ?_) (fun h2 => ?_)
  ·have h2 : 20000 < c + 1 := by simpa using h2
   refine ⟨?_, ?_, fun h => by cases h⟩ <;> simp only <;> omega
  have h2 : c + 1 ≤ 20000 := by simpa using h2
  have loop : ∀ (m i : Nat) (o : Tm) (c' : Int), m = t.args.length - i → i ≤ t.args.length → o.args.length = i → (∀ x ∈ o.args, Pr x) → c + 1 ≤ c' → c' ≤ 20000 → Yields (fun k => R04_count_put_L1 k t n s p ⟨c'⟩ o (i : Int)) (okP c) := by
   intro m
   induction m with
   | zero =>
    intro i o c' hm hi ho hop hc1 hc2
    refine Yields.succ (fun k => R04_count_put_L1.eq_2 ..) ?_
    refine Yields.ite (fun hc => ?_) (fun _ => ?_)
    ·simp [Tm.encL_length] at hc; omega
    refine Yields.ite (fun _ => ?_) (fun _ => ?_)
    ·refine Yields.bind (qmc o) (fun y hy => Yields.pure ⟨?_, ?_, fun h => ⟨hy h, ?_⟩⟩) <;> simp only <;> omega
    refine Yields.ite (fun _ => ?_) (fun _ => ?_)
    ·refine Yields.bind (qmc _) (fun y hy => Yields.pure ⟨?_, ?_, fun h => ⟨hy h, ?_⟩⟩) <;> simp only <;> omega
    refine Yields.bind (raised_y hs n) (fun y _ => ?_)
    refine Yields.bind (qmc y) (fun z hz => ?_)
    refine Yields.ite (fun h5 => Yields.pure ?_) (fun h5 => ?_)
    ·have h5 : z.2 ≠ 0 := by simpa using h5
     refine ⟨?_, ?_, fun h => (h5 h).elim⟩ <;> simp only <;> omega
    have h5 : z.2 = 0 := by simpa using h5
    refine Yields.bind (apply_y q hput z.1 o.args p c' o.args.length (Nat.le_refl _) (by omega) hc2 (by omega) (hz h5) hop (by omega)) (fun r hr => Yields.pure ?_)
    obtain ⟨e1, e2, e3⟩ := hr
    exact ⟨by simp only; omega, e2, e3⟩
   | succ m ih =>
    intro i o c' hm hi ho hop hc1 hc2
    refine Yields.succ (fun k => R04_count_put_L1.eq_2 ..) ?_
    obtain ⟨x, hx, hxm, _⟩ := qd1 (show i < t.args.length by omega)
    have hpx := qa3 ht hxm
    have hnext : ∀ (y : Tm × Int × Ct), okP c' y → Yields (fun k => cond (y.2.1 != 0) (some ((Tm.mk 0 0 0 ([])), y.2.1, y.2.2)) (cond (decide ((Tm.encL (o.args ++ [y.1])).length ≤ 1000000)) (R04_count_put_L1 k t n s p y.2.2 (Tm.mk o.op o.hd o.n (o.args ++ [y.1])) (IntKind.i64.wrap ((i : Int) + 1))) none)) (okP c) := by
     rintro ⟨y1, y2, ⟨y3⟩⟩ ⟨e1, e2, e3⟩
     simp only at e1 e2 e3 ⊢
     refine Yields.ite (fun h5 => Yields.pure ?_) (fun h5 => ?_)
     ·have h5 : y2 ≠ 0 := by simpa using h5
      exact ⟨by simp only; omega, e2, fun h => (h5 h).elim⟩
     have h5 : y2 = 0 := by simpa using h5
     refine Yields.need (by simp [Tm.encL_length]; omega) ?_
     rw [wrapS (by omega)]
     refine ih (i + 1) _ y3 (by omega) (by omega) (by show (o.args ++ [y1]).length = i + 1; simp [ho]) ?_ (by omega) (e3 h5).2
     intro z hz
     have hz : z ∈ o.args ++ [y1] := hz
     rw [List.mem_append, List.mem_singleton] at hz
     rcases hz with h | h
     ·exact hop z h
     ·subst h; exact (e3 h5).1
    refine Yields.ite (fun _ => ?_) (fun hc => ?_)
    ·refine Yields.ite (fun _ => ?_) (fun _ => ?_)
     ·refine Yields.some hx ?_
      exact Yields.bind (hput x _ s p c' (by omega) hc2 (by omega) hpx hs) hnext
     ·refine Yields.some hx ?_
      exact Yields.bind (hput x _ s p c' (by omega) hc2 (by omega) hpx hs) hnext
    ·simp [Tm.encL_length] at hc; omega
  exact loop _ 0 _ (c + 1) rfl (Nat.zero_le _) rfl (by simp [Tm.args]) (Int.le_refl _) h2
end
end Go.Proofs.YtogicnodmgdnbaaGreat
