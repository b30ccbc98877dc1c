/- Merged texts: G3. ModeItems with fuel, and its contract. Conditions stand in each. -/
import Derived.Test.YtogicnodmgdnbaaGreatDoorQK
/-! G3 -/
section
namespace Go.Proofs.YtogicnodmgdnbaaGreatDoor
open Go.Tr Go
set_option maxRecDepth 10000
set_option linter.unusedVariables false
set_option linter.unusedSimpArgs false

mutual
def mode_Of : Nat → (List Dc) → (List Md) → Int → Option (Md × Int)
  | 0, _, _, _ => none
  | n + 1, v1, v3, v5 =>
    (sign_Check n v1).bind (fun v6 =>
    cond (v6 != 0) (
    some ((Md.mk 0 ([])), 2)) (
    mode_Of_L1 n v3 v1 v5 ([]) 0))
def mode_Of_L1 : Nat → (List Md) → (List Dc) → Int → (List (Int × Md)) → Int → Option (Md × Int)
  | 0, _, _, _, _, _ => none
  | n + 1, v3, v1, v5, v20, v22 =>
    cond (decide (v22 < ((Md.encL v3).length : Int))) (
    (idx v3 v22).bind (fun v24 =>
    cond ((mget v20 v24.family).isSome) (
    some ((Md.mk 0 ([])), 2)) (
    (mode_isMode n v1 v24).bind (fun v31 =>
    cond ((!v31) || (decide (((Md.encL v3).length : Int) > 40))) (
    some ((Md.mk 0 ([])), 2)) (
    mode_Of_L1 n v3 v1 v5 (mput v24.family v24 v20) (IntKind.i64.wrap (v22 + 1))))))) (
    cond (!((mget v20 v5).isSome)) (
    some ((Md.mk 0 ([])), 6)) (
    cond (decide ((List.map (D.int .i64) (((mget v20 v5).getD (Md.mk 0 ([]))).signs)).length ≤ 1000000)) (
    some (((mget v20 v5).getD (Md.mk 0 ([]))), 0)) none))
 end
theorem mode_Of_spec (n : Nat) (v1 : (List Dc)) (v3 : (List Md)) (v5 : Int) (a2 : Option Addr) (c2 : Nat) (a4 : Option Addr) (c4 : Nat) (r : Md × Int) (hr : mode_Of n v1 v3 v5 = some r) : Pure Tryz.prog (.val (.fn (.func 10) [] [])) [(.v (.slice a2 ((Dc.encL v1).length) c2)), (.v (.slice a4 ((Md.encL v3).length) c4)), (.v (.int .i64 v5))] [(.slice a2 ((Dc.encL v1).length) c2, .sl 6 (Dc.encL v1)), (.slice a4 ((Md.encL v3).length) c4, .sl 2 (Md.encL v3))] (fun r' out => ∃ (b1 : Option Addr) (d1 : Nat), r' = (.tup [(.agg [(.v (.int .i64 r.1.family)), (.v (.slice b1 ((List.map (D.int .i64) r.1.signs).length) d1))]), (.v (.int .i64 r.2))]) ∧ out = [(.slice b1 ((List.map (D.int .i64) r.1.signs).length) d1, .sl 1 (List.map (D.int .i64) r.1.signs))]) := by
  rcases n with _ | n
  · exact no_some hr
  rw [mode_Of.eq_2] at hr
  refine spec_of_body (N := 38) (m := 0) (dt := fun _ => none) [] ttOK Tryz.func10 rfl Tryz.call10 Tryz.ntmps10 rfl rfl rfl mixed (by kernel_rfl) ?_
  obtain ⟨v6, h7, hr⟩ := bind_some hr
  refine (sign_Check_spec n v1 a2 c2 _ h7).atR [0] rfl rfl rfl ?_
  rintro _ _ ⟨rfl, rfl⟩
  refine AtIf.mk (fun h8 => ?_) (fun h8 => ?_)
  · replace hr := cond_t h8 hr
    replace hr := Option.some.inj hr
    subst hr
    exact AtRet.pureG [.nil 1] [(.slice none 0 0, .sl 1 [])] rfl rfl ⟨none, 0, rfl, rfl⟩
  · replace hr := cond_f h8 hr
    refine spec_of_body (N := 43) (m := 1) (dt := fun _ => none) [] ttOK Tryz.func32 rfl Tryz.call32 Tryz.ntmps32 rfl rfl rfl mixed (by kernel_rfl) ?_
    refine at_makeMapG .i64 Md.gv 1 Md.gp ?_
    refine AtLoop.mk ⟨Nat × (List (Int × GE Md)) × Int, fun x => [(0, (.v (.slice a2 ((Dc.encL v1).length) c2))), (1, (.v (.slice a4 ((Md.encL v3).length) c4))), (6, (.mp 1)), (12, (.v (.slice a4 ((Md.encL v3).length) c4))), (13, (.v (.int .i64 ((Md.encL v3).length : Int)))), (14, (.v (.int .i64 x.2.2)))], fun x => ⟨[.cells 25 [(.v (.int .i64 0)), (.v (.slice none 0 0))], .obj (mapO .i64 (encM Md.gv x.2.1))], [], [(.slice a2 ((Dc.encL v1).length) c2, .sl 6 (Dc.encL v1)), (.slice a4 ((Md.encL v3).length) c4, .sl 2 (Md.encL v3)), (agV 1 Md.gp x.2.1, agD 1 Md.gp x.2.1)]⟩, fun x => mode_Of_L1 x.1 v3 v1 v5 (er x.2.1) x.2.2 = some r, fun x => x.1, (n, ([] : List (Int × GE Md)), 0), hr, ⟨rfl, rfl, rfl, rfl, rfl, rfl, trivial⟩, (StLe.gen 2 [] [.old 0, .old 1, .old 2] rfl rfl rfl rfl rfl rfl rfl), fun x _ => ⟨rfl, rfl⟩, ?_⟩
    rintro ⟨n, g21, v22⟩ HH
    have hr : mode_Of_L1 n v3 v1 v5 (er g21) v22 = some r := HH
    rcases n with _ | n
    · exact no_some hr
    rw [mode_Of_L1.eq_2] at hr
    refine AtIf.mk (fun h23 => ?_) (fun h23 => ?_)
    · replace hr := cond_t h23 hr
      obtain ⟨v24, h25, hr⟩ := bind_some hr
      obtain ⟨h26, h27⟩ := idx_some h25
      refine at_index ttOK 1 rfl rfl rfl rfl h26 (Md.encL_get h27) ?_
      intro a28 c28 _ _
      refine at_lookupGE ttOK Md.gv Md.gk 1 Md.gp (Md.mk 0 ([])) _ 2 rfl Tryz.underlying3 Tryz.zeroValue25 rfl rfl (fun _ _ _ _ => rfl) (fun _ _ _ _ => rfl) rfl rfl rfl rfl ?_
      intro a29 c29
      refine AtGuard.mk (fun h30 => ?_) (fun h30 => ?_)
      · replace hr := cond_f h30 hr
        obtain ⟨v31, h32, hr⟩ := bind_some hr
        refine (mode_isMode_spec n v1 v24 a2 c2 a28 c28 _ h32).atR [0, 3] rfl rfl rfl ?_
        rintro _ _ ⟨rfl, rfl⟩
        refine AtIf.mk (fun h33 => ?_) (fun h33 => ?_)
        · replace hr := cond_t h33 hr
          refine AtRet.gen _ (StLe.refl _) rfl rfl ?_
          refine AtIf.mk (fun _ => ?_) (fun h => tf h)
          replace hr := Option.some.inj hr
          subst hr
          exact AtRet.pureG [.nil 1] [(.slice none 0 0, .sl 1 [])] rfl rfl ⟨none, 0, rfl, rfl⟩
        · replace hr := cond_f h33 hr
          refine at_mapPutGE ttOK Md.gv 1 Md.gp v24 a28 c28 2 3 rfl Tryz.underlying3 rfl rfl rfl (fun _ => rfl) rfl rfl rfl ?_
          exact ⟨(n, (mput v24.family (v24, a28, c28) g21), (IntKind.i64.wrap (v22 + 1))), (by simpa only [er_mput] using hr), Nat.lt_succ_self _, ⟨rfl, rfl, rfl, rfl, rfl, rfl, trivial⟩, (StLe.gen 2 [] [.old 0, .old 1, .old 2] rfl rfl rfl rfl rfl rfl rfl)⟩
      · replace hr := cond_t h30 hr
        refine AtIf.mk (fun _ => ?_) (fun h => tf h)
        refine AtRet.gen _ (StLe.refl _) rfl rfl ?_
        refine AtIf.mk (fun _ => ?_) (fun h => tf h)
        replace hr := Option.some.inj hr
        subst hr
        exact AtRet.pureG [.nil 1] [(.slice none 0 0, .sl 1 [])] rfl rfl ⟨none, 0, rfl, rfl⟩
    · replace hr := cond_f h23 hr
      refine AtRet.gen _ (StLe.refl _) rfl rfl ?_
      refine AtIf.mk (fun h => ff h) (fun _ => ?_)
      refine at_lookupGE ttOK Md.gv Md.gk 1 Md.gp (Md.mk 0 ([])) _ 2 rfl Tryz.underlying3 Tryz.zeroValue25 rfl rfl (fun _ _ _ _ => rfl) (fun _ _ _ _ => rfl) rfl rfl rfl rfl ?_
      intro a34 c34
      refine AtIf.mk (fun h35 => ?_) (fun h35 => ?_)
      · replace hr := cond_t h35 hr
        replace hr := Option.some.inj hr
        subst hr
        exact AtRet.pureG [.nil 1] [(.slice none 0 0, .sl 1 [])] rfl rfl ⟨none, 0, rfl, rfl⟩
      · replace hr := cond_f h35 hr
        obtain ⟨h36, hr⟩ := cond_need hr
        refine (cloneI_spec (((mget (er g21) v5).getD (Md.mk 0 ([]))).signs) a34 c34 h36).atR [3] rfl rfl rfl ?_
        rintro _ _ ⟨a37, c37, rfl, rfl⟩
        replace hr := Option.some.inj hr
        subst hr
        exact AtRet.pureG [.old 4] [(.slice a37 ((List.map (D.int .i64) (((mget (er g21) v5).getD (Md.mk 0 ([]))).signs)).length) c37, .sl 1 (List.map (D.int .i64) (((mget (er g21) v5).getD (Md.mk 0 ([]))).signs)))] rfl rfl ⟨a37, c37, rfl, rfl⟩
def R03_App : Nat → Int → Int → (List Tm) → Option (Tm)
  | 0, _, _, _ => none
  | n + 1, v1, v2, v3 =>
    some ((Tm.mk 4 v1 v2 v3))
theorem R03_App_spec (n : Nat) (v1 : Int) (v2 : Int) (v3 : (List Tm)) (a4 : Option Addr) (c4 : Nat) (r : Tm) (hr : R03_App n v1 v2 v3 = some r) : Pure Tryz.prog (.val (.fn (.func 45) [] [])) [(.v (.int .i64 v1)), (.v (.int .i64 v2)), (.v (.slice a4 ((Tm.encL v3).length) c4))] [(.slice a4 ((Tm.encL v3).length) c4, .sl 4 (Tm.encL v3))] (fun r' out => ∃ (b1 : Option Addr) (d1 : Nat), r' = (.agg [(.v (.int .i64 r.op)), (.v (.int .i64 r.hd)), (.v (.int .i64 r.n)), (.v (.slice b1 ((Tm.encL r.args).length) d1))]) ∧ out = [(.slice b1 ((Tm.encL r.args).length) d1, .sl 4 (Tm.encL r.args))]) := by
  rcases n with _ | n
  · exact no_some hr
  rw [R03_App.eq_2] at hr
  refine spec_of_body (N := 11) (m := 0) (dt := fun _ => none) [] ttOK Tryz.func45 rfl Tryz.call45 Tryz.ntmps45 rfl rfl rfl mixed (by kernel_rfl) ?_
  replace hr := Option.some.inj hr
  subst hr
  exact AtRet.pureG [.old 0] [(.slice a4 ((Tm.encL v3).length) c4, .sl 4 (Tm.encL v3))] rfl rfl ⟨a4, c4, rfl, rfl⟩
def R03_Pi : Nat → Tm → Tm → Option (Tm)
  | 0, _, _ => none
  | n + 1, v1, v3 =>
    some ((Tm.mk 2 0 0 ([v1, v3])))
theorem R03_Pi_spec (n : Nat) (v1 : Tm) (v3 : Tm) (a2 : Option Addr) (c2 : Nat) (a4 : Option Addr) (c4 : Nat) (r : Tm) (hr : R03_Pi n v1 v3 = some r) : Pure Tryz.prog (.val (.fn (.func 46) [] [])) [(.agg [(.v (.int .i64 v1.op)), (.v (.int .i64 v1.hd)), (.v (.int .i64 v1.n)), (.v (.slice a2 ((Tm.encL v1.args).length) c2))]), (.agg [(.v (.int .i64 v3.op)), (.v (.int .i64 v3.hd)), (.v (.int .i64 v3.n)), (.v (.slice a4 ((Tm.encL v3.args).length) c4))])] [(.slice a2 ((Tm.encL v1.args).length) c2, .sl 4 (Tm.encL v1.args)), (.slice a4 ((Tm.encL v3.args).length) c4, .sl 4 (Tm.encL v3.args))] (fun r' out => ∃ (b1 : Option Addr) (d1 : Nat), r' = (.agg [(.v (.int .i64 r.op)), (.v (.int .i64 r.hd)), (.v (.int .i64 r.n)), (.v (.slice b1 ((Tm.encL r.args).length) d1))]) ∧ out = [(.slice b1 ((Tm.encL r.args).length) d1, .sl 4 (Tm.encL r.args))]) := by
  rcases n with _ | n
  · exact no_some hr
  rw [R03_Pi.eq_2] at hr
  refine spec_of_body (N := 9) (m := 0) (dt := fun _ => none) [] ttOK Tryz.func46 rfl Tryz.call46 Tryz.ntmps46 rfl rfl rfl mixed (by kernel_rfl) ?_
  refine at_buildG (n := 2) ttOK 48 [.agg [.int .i64 v1.op, .int .i64 v1.hd, .int .i64 v1.n, .sl 4 (Tm.encL v1.args)], .agg [.int .i64 v3.op, .int .i64 v3.hd, .int .i64 v3.n, .sl 4 (Tm.encL v3.args)]] (ds' := (Tm.encL ([v1, v3]))) rfl (by kernel_rfl) ⟨⟨rfl, rfl, rfl, ⟨[(.v (.int .i64 v1.op))], _, rfl, rfl, ⟨[(.v (.int .i64 v1.hd))], _, rfl, rfl, ⟨[(.v (.int .i64 v1.n))], _, rfl, rfl, ⟨[(.v (.slice a2 ((Tm.encL v1.args).length) c2))], _, rfl, (.inl ⟨_, rfl, nth_mem (j := 0) rfl⟩), rfl⟩⟩⟩⟩⟩, ⟨⟨rfl, rfl, rfl, ⟨[(.v (.int .i64 v3.op))], _, rfl, rfl, ⟨[(.v (.int .i64 v3.hd))], _, rfl, rfl, ⟨[(.v (.int .i64 v3.n))], _, rfl, rfl, ⟨[(.v (.slice a4 ((Tm.encL v3.args).length) c4))], _, rfl, (.inl ⟨_, rfl, nth_mem (j := 1) rfl⟩), rfl⟩⟩⟩⟩⟩, trivial⟩⟩ rfl (by simp only [Tm.encL_eq, List.map_cons, List.map_nil, Tm.enc_eq] <;> rfl) (by decide) (by decide) ?_
  intro a5
  replace hr := Option.some.inj hr
  subst hr
  exact AtRet.pureG [.old 2] [(.slice a5 ((Tm.encL ([v1, v3])).length) 2, .sl 4 (Tm.encL ([v1, v3])))] rfl rfl ⟨a5, 2, rfl, rfl⟩
def W14_sample : Nat → Option ((List Dc))
  | 0 => none
  | n + 1 =>
    (R03_App n 2 0 ([])).bind (fun v1 =>
    (R03_App n 2 1 ([])).bind (fun v4 =>
    (R03_Pi n v1 v1).bind (fun v7 =>
    (R03_Pi n v1 (Tm.mk 1 0 0 ([]))).bind (fun v10 =>
    (R03_Pi n v1 v10).bind (fun v13 =>
    (R03_App n 2 3 ([v4, v4])).bind (fun v17 =>
    some ([(Dc.mk (⟨#[110, 97, 116]⟩) (Tm.mk 1 0 0 ([])) 0), (Dc.mk (⟨#[122]⟩) v1 0), (Dc.mk (⟨#[115]⟩) v7 0), (Dc.mk (⟨#[100, 111, 117, 98, 108, 101]⟩) v13 0), (Dc.mk (⟨#[100, 122]⟩) v17 0)])))))))
theorem W14_sample_spec (n : Nat)  (r : (List Dc)) (hr : W14_sample n  = some r) : Pure Tryz.prog (.val (.fn (.func 19) [] [])) [] [] (fun r' out => ∃ (b1 : Option Addr) (d1 : Nat), r' = (.v (.slice b1 ((Dc.encL r).length) d1)) ∧ out = [(.slice b1 ((Dc.encL r).length) d1, .sl 6 (Dc.encL r))]) := by
  rcases n with _ | n
  · exact no_some hr
  rw [W14_sample.eq_2] at hr
  refine spec_of_body (N := 25) (m := 0) (dt := drawsOf [(3, .node [0, 1, 2, 3, 4, 5, 8, 9, 10, 14, 15] [(6, .node [7] [(11, .node [] [(12, .node [13] [(16, .node [] [(17, .node [18] [(19, .leaf [20])])])]), (16, .node [] [(12, .node [13] [(17, .node [18] [(19, .leaf [20])])])])]), (16, .node [] [(11, .node [] [(12, .node [13] [(17, .node [18] [(19, .leaf [20])])])])])]), (16, .node [] [(6, .node [7] [(11, .node [] [(12, .node [13] [(17, .node [18] [(19, .leaf [20])])])])])])], [19], [])]) [] ttOK Tryz.func19 rfl Tryz.call19 Tryz.ntmps19 rfl rfl rfl mixed (by kernel_rfl) ?_
  obtain ⟨v1, h2, hr⟩ := bind_some hr
  refine Meets.nilRep 4 ?_
  refine (R03_App_spec n 2 0 ([]) none 0 _ h2).atR [0] rfl rfl rfl ?_
  rintro _ _ ⟨a3, c3, rfl, rfl⟩
  obtain ⟨v4, h5, hr⟩ := bind_some hr
  refine (R03_App_spec n 2 1 ([]) none 0 _ h5).atR [0] rfl rfl rfl ?_
  rintro _ _ ⟨a6, c6, rfl, rfl⟩
  obtain ⟨v7, h8, hr⟩ := bind_some hr
  obtain ⟨v10, h11, hr⟩ := bind_some hr
  obtain ⟨v13, h14, hr⟩ := bind_some hr
  obtain ⟨v17, h18, hr⟩ := bind_some hr
  refine ⟨?_, ?_⟩
  ·
    refine (R03_Pi_spec n v1 v1 a3 c3 a3 c3 _ h8).atR [1, 1] rfl rfl rfl ?_
    rintro _ _ ⟨a21, c21, rfl, rfl⟩
    refine ⟨fun _ _ h => h, ?_⟩
    refine ⟨?_, ?_⟩
    ·
      refine (R03_Pi_spec n v1 (Tm.mk 1 0 0 ([])) a3 c3 none 0 _ h11).atR [1, 0] rfl rfl rfl ?_
      rintro _ _ ⟨a22, c22, rfl, rfl⟩
      refine ⟨fun _ _ h => h, ?_⟩
      refine ⟨?_, ?_⟩
      ·
        refine (R03_Pi_spec n v1 v10 a3 c3 a22 c22 _ h14).atR [1, 4] rfl rfl rfl ?_
        rintro _ _ ⟨a23, c23, rfl, rfl⟩
        refine ⟨fun _ _ h => h, ?_⟩
        refine at_buildG (n := 2) ttOK 48 [.agg [.int .i64 v4.op, .int .i64 v4.hd, .int .i64 v4.n, .sl 4 (Tm.encL v4.args)], .agg [.int .i64 v4.op, .int .i64 v4.hd, .int .i64 v4.n, .sl 4 (Tm.encL v4.args)]] (ds' := (Tm.encL ([v4, v4]))) rfl (by kernel_rfl) ⟨⟨rfl, rfl, rfl, ⟨[(.v (.int .i64 v4.op))], _, rfl, rfl, ⟨[(.v (.int .i64 v4.hd))], _, rfl, rfl, ⟨[(.v (.int .i64 v4.n))], _, rfl, rfl, ⟨[(.v (.slice a6 ((Tm.encL v4.args).length) c6))], _, rfl, (.inl ⟨_, rfl, nth_mem (j := 2) rfl⟩), rfl⟩⟩⟩⟩⟩, ⟨⟨rfl, rfl, rfl, ⟨[(.v (.int .i64 v4.op))], _, rfl, rfl, ⟨[(.v (.int .i64 v4.hd))], _, rfl, rfl, ⟨[(.v (.int .i64 v4.n))], _, rfl, rfl, ⟨[(.v (.slice a6 ((Tm.encL v4.args).length) c6))], _, rfl, (.inl ⟨_, rfl, nth_mem (j := 2) rfl⟩), rfl⟩⟩⟩⟩⟩, trivial⟩⟩ rfl (by simp only [Tm.encL_eq, List.map_cons, List.map_nil, Tm.enc_eq] <;> rfl) (by decide) (by decide) ?_
        intro a24
        refine ⟨fun _ _ h => h, ?_⟩
        refine (R03_App_spec n 2 3 ([v4, v4]) a24 2 _ h18).atR [6] rfl rfl rfl ?_
        rintro _ _ ⟨a25, c25, rfl, rfl⟩
        refine ⟨fun _ _ h => h, ?_⟩
        refine at_buildG (n := 5) ttOK 72 [.agg [.str (⟨#[110, 97, 116]⟩), .agg [.int .i64 1, .int .i64 0, .int .i64 0, .sl 4 []], .int .i64 0], .agg [.str (⟨#[122]⟩), .agg [.int .i64 v1.op, .int .i64 v1.hd, .int .i64 v1.n, .sl 4 (Tm.encL v1.args)], .int .i64 0], .agg [.str (⟨#[115]⟩), .agg [.int .i64 v7.op, .int .i64 v7.hd, .int .i64 v7.n, .sl 4 (Tm.encL v7.args)], .int .i64 0], .agg [.str (⟨#[100, 111, 117, 98, 108, 101]⟩), .agg [.int .i64 v13.op, .int .i64 v13.hd, .int .i64 v13.n, .sl 4 (Tm.encL v13.args)], .int .i64 0], .agg [.str (⟨#[100, 122]⟩), .agg [.int .i64 v17.op, .int .i64 v17.hd, .int .i64 v17.n, .sl 4 (Tm.encL v17.args)], .int .i64 0]] (ds' := (Dc.encL ([(Dc.mk (⟨#[110, 97, 116]⟩) (Tm.mk 1 0 0 ([])) 0), (Dc.mk (⟨#[122]⟩) v1 0), (Dc.mk (⟨#[115]⟩) v7 0), (Dc.mk (⟨#[100, 111, 117, 98, 108, 101]⟩) v13 0), (Dc.mk (⟨#[100, 122]⟩) v17 0)]))) rfl (by kernel_rfl) ⟨⟨rfl, rfl, rfl, ⟨[(.v (.string (⟨#[110, 97, 116]⟩)))], _, rfl, rfl, ⟨[(.v (.int .i64 1)), (.v (.int .i64 0)), (.v (.int .i64 0)), (.v (.slice none 0 0))], _, rfl, ⟨[(.v (.int .i64 1))], _, rfl, rfl, ⟨[(.v (.int .i64 0))], _, rfl, rfl, ⟨[(.v (.int .i64 0))], _, rfl, rfl, ⟨[(.v (.slice none 0 0))], _, rfl, (.inr ⟨rfl, rfl⟩), rfl⟩⟩⟩⟩, ⟨[(.v (.int .i64 0))], _, rfl, rfl, rfl⟩⟩⟩⟩, ⟨⟨rfl, rfl, rfl, ⟨[(.v (.string (⟨#[122]⟩)))], _, rfl, rfl, ⟨[(.v (.int .i64 v1.op)), (.v (.int .i64 v1.hd)), (.v (.int .i64 v1.n)), (.v (.slice a3 ((Tm.encL v1.args).length) c3))], _, rfl, ⟨[(.v (.int .i64 v1.op))], _, rfl, rfl, ⟨[(.v (.int .i64 v1.hd))], _, rfl, rfl, ⟨[(.v (.int .i64 v1.n))], _, rfl, rfl, ⟨[(.v (.slice a3 ((Tm.encL v1.args).length) c3))], _, rfl, (.inl ⟨_, rfl, nth_mem (j := 1) rfl⟩), rfl⟩⟩⟩⟩, ⟨[(.v (.int .i64 0))], _, rfl, rfl, rfl⟩⟩⟩⟩, ⟨⟨rfl, rfl, rfl, ⟨[(.v (.string (⟨#[115]⟩)))], _, rfl, rfl, ⟨[(.v (.int .i64 v7.op)), (.v (.int .i64 v7.hd)), (.v (.int .i64 v7.n)), (.v (.slice a21 ((Tm.encL v7.args).length) c21))], _, rfl, ⟨[(.v (.int .i64 v7.op))], _, rfl, rfl, ⟨[(.v (.int .i64 v7.hd))], _, rfl, rfl, ⟨[(.v (.int .i64 v7.n))], _, rfl, rfl, ⟨[(.v (.slice a21 ((Tm.encL v7.args).length) c21))], _, rfl, (.inl ⟨_, rfl, nth_mem (j := 3) rfl⟩), rfl⟩⟩⟩⟩, ⟨[(.v (.int .i64 0))], _, rfl, rfl, rfl⟩⟩⟩⟩, ⟨⟨rfl, rfl, rfl, ⟨[(.v (.string (⟨#[100, 111, 117, 98, 108, 101]⟩)))], _, rfl, rfl, ⟨[(.v (.int .i64 v13.op)), (.v (.int .i64 v13.hd)), (.v (.int .i64 v13.n)), (.v (.slice a23 ((Tm.encL v13.args).length) c23))], _, rfl, ⟨[(.v (.int .i64 v13.op))], _, rfl, rfl, ⟨[(.v (.int .i64 v13.hd))], _, rfl, rfl, ⟨[(.v (.int .i64 v13.n))], _, rfl, rfl, ⟨[(.v (.slice a23 ((Tm.encL v13.args).length) c23))], _, rfl, (.inl ⟨_, rfl, nth_mem (j := 5) rfl⟩), rfl⟩⟩⟩⟩, ⟨[(.v (.int .i64 0))], _, rfl, rfl, rfl⟩⟩⟩⟩, ⟨⟨rfl, rfl, rfl, ⟨[(.v (.string (⟨#[100, 122]⟩)))], _, rfl, rfl, ⟨[(.v (.int .i64 v17.op)), (.v (.int .i64 v17.hd)), (.v (.int .i64 v17.n)), (.v (.slice a25 ((Tm.encL v17.args).length) c25))], _, rfl, ⟨[(.v (.int .i64 v17.op))], _, rfl, rfl, ⟨[(.v (.int .i64 v17.hd))], _, rfl, rfl, ⟨[(.v (.int .i64 v17.n))], _, rfl, rfl, ⟨[(.v (.slice a25 ((Tm.encL v17.args).length) c25))], _, rfl, (.inl ⟨_, rfl, nth_mem (j := 7) rfl⟩), rfl⟩⟩⟩⟩, ⟨[(.v (.int .i64 0))], _, rfl, rfl, rfl⟩⟩⟩⟩, trivial⟩⟩⟩⟩⟩ rfl (by simp only [Dc.encL_eq, List.map_cons, List.map_nil, Dc.enc_eq] <;> rfl) (by decide) (by decide) ?_
        intro a26
        replace hr := Option.some.inj hr
        subst hr
        exact AtRet.pureG [.old 8] [(.slice a26 ((Dc.encL ([(Dc.mk (⟨#[110, 97, 116]⟩) (Tm.mk 1 0 0 ([])) 0), (Dc.mk (⟨#[122]⟩) v1 0), (Dc.mk (⟨#[115]⟩) v7 0), (Dc.mk (⟨#[100, 111, 117, 98, 108, 101]⟩) v13 0), (Dc.mk (⟨#[100, 122]⟩) v17 0)])).length) 5, .sl 6 (Dc.encL ([(Dc.mk (⟨#[110, 97, 116]⟩) (Tm.mk 1 0 0 ([])) 0), (Dc.mk (⟨#[122]⟩) v1 0), (Dc.mk (⟨#[115]⟩) v7 0), (Dc.mk (⟨#[100, 111, 117, 98, 108, 101]⟩) v13 0), (Dc.mk (⟨#[100, 122]⟩) v17 0)])))] rfl rfl ⟨a26, 5, rfl, rfl⟩
      ·
        refine at_buildG (n := 2) ttOK 48 [.agg [.int .i64 v4.op, .int .i64 v4.hd, .int .i64 v4.n, .sl 4 (Tm.encL v4.args)], .agg [.int .i64 v4.op, .int .i64 v4.hd, .int .i64 v4.n, .sl 4 (Tm.encL v4.args)]] (ds' := (Tm.encL ([v4, v4]))) rfl (by kernel_rfl) ⟨⟨rfl, rfl, rfl, ⟨[(.v (.int .i64 v4.op))], _, rfl, rfl, ⟨[(.v (.int .i64 v4.hd))], _, rfl, rfl, ⟨[(.v (.int .i64 v4.n))], _, rfl, rfl, ⟨[(.v (.slice a6 ((Tm.encL v4.args).length) c6))], _, rfl, (.inl ⟨_, rfl, nth_mem (j := 2) rfl⟩), rfl⟩⟩⟩⟩⟩, ⟨⟨rfl, rfl, rfl, ⟨[(.v (.int .i64 v4.op))], _, rfl, rfl, ⟨[(.v (.int .i64 v4.hd))], _, rfl, rfl, ⟨[(.v (.int .i64 v4.n))], _, rfl, rfl, ⟨[(.v (.slice a6 ((Tm.encL v4.args).length) c6))], _, rfl, (.inl ⟨_, rfl, nth_mem (j := 2) rfl⟩), rfl⟩⟩⟩⟩⟩, trivial⟩⟩ rfl (by simp only [Tm.encL_eq, List.map_cons, List.map_nil, Tm.enc_eq] <;> rfl) (by decide) (by decide) ?_
        intro a27
        refine ⟨fun _ _ h => h, ?_⟩
        refine (R03_Pi_spec n v1 v10 a3 c3 a22 c22 _ h14).atR [1, 4] rfl rfl rfl ?_
        rintro _ _ ⟨a28, c28, rfl, rfl⟩
        refine ⟨fun _ _ h => h, ?_⟩
        refine (R03_App_spec n 2 3 ([v4, v4]) a27 2 _ h18).atR [5] rfl rfl rfl ?_
        rintro _ _ ⟨a29, c29, rfl, rfl⟩
        refine ⟨fun _ _ h => h, ?_⟩
        refine at_buildG (n := 5) ttOK 72 [.agg [.str (⟨#[110, 97, 116]⟩), .agg [.int .i64 1, .int .i64 0, .int .i64 0, .sl 4 []], .int .i64 0], .agg [.str (⟨#[122]⟩), .agg [.int .i64 v1.op, .int .i64 v1.hd, .int .i64 v1.n, .sl 4 (Tm.encL v1.args)], .int .i64 0], .agg [.str (⟨#[115]⟩), .agg [.int .i64 v7.op, .int .i64 v7.hd, .int .i64 v7.n, .sl 4 (Tm.encL v7.args)], .int .i64 0], .agg [.str (⟨#[100, 111, 117, 98, 108, 101]⟩), .agg [.int .i64 v13.op, .int .i64 v13.hd, .int .i64 v13.n, .sl 4 (Tm.encL v13.args)], .int .i64 0], .agg [.str (⟨#[100, 122]⟩), .agg [.int .i64 v17.op, .int .i64 v17.hd, .int .i64 v17.n, .sl 4 (Tm.encL v17.args)], .int .i64 0]] (ds' := (Dc.encL ([(Dc.mk (⟨#[110, 97, 116]⟩) (Tm.mk 1 0 0 ([])) 0), (Dc.mk (⟨#[122]⟩) v1 0), (Dc.mk (⟨#[115]⟩) v7 0), (Dc.mk (⟨#[100, 111, 117, 98, 108, 101]⟩) v13 0), (Dc.mk (⟨#[100, 122]⟩) v17 0)]))) rfl (by kernel_rfl) ⟨⟨rfl, rfl, rfl, ⟨[(.v (.string (⟨#[110, 97, 116]⟩)))], _, rfl, rfl, ⟨[(.v (.int .i64 1)), (.v (.int .i64 0)), (.v (.int .i64 0)), (.v (.slice none 0 0))], _, rfl, ⟨[(.v (.int .i64 1))], _, rfl, rfl, ⟨[(.v (.int .i64 0))], _, rfl, rfl, ⟨[(.v (.int .i64 0))], _, rfl, rfl, ⟨[(.v (.slice none 0 0))], _, rfl, (.inr ⟨rfl, rfl⟩), rfl⟩⟩⟩⟩, ⟨[(.v (.int .i64 0))], _, rfl, rfl, rfl⟩⟩⟩⟩, ⟨⟨rfl, rfl, rfl, ⟨[(.v (.string (⟨#[122]⟩)))], _, rfl, rfl, ⟨[(.v (.int .i64 v1.op)), (.v (.int .i64 v1.hd)), (.v (.int .i64 v1.n)), (.v (.slice a3 ((Tm.encL v1.args).length) c3))], _, rfl, ⟨[(.v (.int .i64 v1.op))], _, rfl, rfl, ⟨[(.v (.int .i64 v1.hd))], _, rfl, rfl, ⟨[(.v (.int .i64 v1.n))], _, rfl, rfl, ⟨[(.v (.slice a3 ((Tm.encL v1.args).length) c3))], _, rfl, (.inl ⟨_, rfl, nth_mem (j := 1) rfl⟩), rfl⟩⟩⟩⟩, ⟨[(.v (.int .i64 0))], _, rfl, rfl, rfl⟩⟩⟩⟩, ⟨⟨rfl, rfl, rfl, ⟨[(.v (.string (⟨#[115]⟩)))], _, rfl, rfl, ⟨[(.v (.int .i64 v7.op)), (.v (.int .i64 v7.hd)), (.v (.int .i64 v7.n)), (.v (.slice a21 ((Tm.encL v7.args).length) c21))], _, rfl, ⟨[(.v (.int .i64 v7.op))], _, rfl, rfl, ⟨[(.v (.int .i64 v7.hd))], _, rfl, rfl, ⟨[(.v (.int .i64 v7.n))], _, rfl, rfl, ⟨[(.v (.slice a21 ((Tm.encL v7.args).length) c21))], _, rfl, (.inl ⟨_, rfl, nth_mem (j := 3) rfl⟩), rfl⟩⟩⟩⟩, ⟨[(.v (.int .i64 0))], _, rfl, rfl, rfl⟩⟩⟩⟩, ⟨⟨rfl, rfl, rfl, ⟨[(.v (.string (⟨#[100, 111, 117, 98, 108, 101]⟩)))], _, rfl, rfl, ⟨[(.v (.int .i64 v13.op)), (.v (.int .i64 v13.hd)), (.v (.int .i64 v13.n)), (.v (.slice a28 ((Tm.encL v13.args).length) c28))], _, rfl, ⟨[(.v (.int .i64 v13.op))], _, rfl, rfl, ⟨[(.v (.int .i64 v13.hd))], _, rfl, rfl, ⟨[(.v (.int .i64 v13.n))], _, rfl, rfl, ⟨[(.v (.slice a28 ((Tm.encL v13.args).length) c28))], _, rfl, (.inl ⟨_, rfl, nth_mem (j := 6) rfl⟩), rfl⟩⟩⟩⟩, ⟨[(.v (.int .i64 0))], _, rfl, rfl, rfl⟩⟩⟩⟩, ⟨⟨rfl, rfl, rfl, ⟨[(.v (.string (⟨#[100, 122]⟩)))], _, rfl, rfl, ⟨[(.v (.int .i64 v17.op)), (.v (.int .i64 v17.hd)), (.v (.int .i64 v17.n)), (.v (.slice a29 ((Tm.encL v17.args).length) c29))], _, rfl, ⟨[(.v (.int .i64 v17.op))], _, rfl, rfl, ⟨[(.v (.int .i64 v17.hd))], _, rfl, rfl, ⟨[(.v (.int .i64 v17.n))], _, rfl, rfl, ⟨[(.v (.slice a29 ((Tm.encL v17.args).length) c29))], _, rfl, (.inl ⟨_, rfl, nth_mem (j := 7) rfl⟩), rfl⟩⟩⟩⟩, ⟨[(.v (.int .i64 0))], _, rfl, rfl, rfl⟩⟩⟩⟩, trivial⟩⟩⟩⟩⟩ rfl (by simp only [Dc.encL_eq, List.map_cons, List.map_nil, Dc.enc_eq] <;> rfl) (by decide) (by decide) ?_
        intro a30
        replace hr := Option.some.inj hr
        subst hr
        exact AtRet.pureG [.old 8] [(.slice a30 ((Dc.encL ([(Dc.mk (⟨#[110, 97, 116]⟩) (Tm.mk 1 0 0 ([])) 0), (Dc.mk (⟨#[122]⟩) v1 0), (Dc.mk (⟨#[115]⟩) v7 0), (Dc.mk (⟨#[100, 111, 117, 98, 108, 101]⟩) v13 0), (Dc.mk (⟨#[100, 122]⟩) v17 0)])).length) 5, .sl 6 (Dc.encL ([(Dc.mk (⟨#[110, 97, 116]⟩) (Tm.mk 1 0 0 ([])) 0), (Dc.mk (⟨#[122]⟩) v1 0), (Dc.mk (⟨#[115]⟩) v7 0), (Dc.mk (⟨#[100, 111, 117, 98, 108, 101]⟩) v13 0), (Dc.mk (⟨#[100, 122]⟩) v17 0)])))] rfl rfl ⟨a30, 5, rfl, rfl⟩
    ·
      refine at_buildG (n := 2) ttOK 48 [.agg [.int .i64 v4.op, .int .i64 v4.hd, .int .i64 v4.n, .sl 4 (Tm.encL v4.args)], .agg [.int .i64 v4.op, .int .i64 v4.hd, .int .i64 v4.n, .sl 4 (Tm.encL v4.args)]] (ds' := (Tm.encL ([v4, v4]))) rfl (by kernel_rfl) ⟨⟨rfl, rfl, rfl, ⟨[(.v (.int .i64 v4.op))], _, rfl, rfl, ⟨[(.v (.int .i64 v4.hd))], _, rfl, rfl, ⟨[(.v (.int .i64 v4.n))], _, rfl, rfl, ⟨[(.v (.slice a6 ((Tm.encL v4.args).length) c6))], _, rfl, (.inl ⟨_, rfl, nth_mem (j := 2) rfl⟩), rfl⟩⟩⟩⟩⟩, ⟨⟨rfl, rfl, rfl, ⟨[(.v (.int .i64 v4.op))], _, rfl, rfl, ⟨[(.v (.int .i64 v4.hd))], _, rfl, rfl, ⟨[(.v (.int .i64 v4.n))], _, rfl, rfl, ⟨[(.v (.slice a6 ((Tm.encL v4.args).length) c6))], _, rfl, (.inl ⟨_, rfl, nth_mem (j := 2) rfl⟩), rfl⟩⟩⟩⟩⟩, trivial⟩⟩ rfl (by simp only [Tm.encL_eq, List.map_cons, List.map_nil, Tm.enc_eq] <;> rfl) (by decide) (by decide) ?_
      intro a31
      refine ⟨fun _ _ h => h, ?_⟩
      refine (R03_Pi_spec n v1 (Tm.mk 1 0 0 ([])) a3 c3 none 0 _ h11).atR [1, 0] rfl rfl rfl ?_
      rintro _ _ ⟨a32, c32, rfl, rfl⟩
      refine ⟨fun _ _ h => h, ?_⟩
      refine (R03_Pi_spec n v1 v10 a3 c3 a32 c32 _ h14).atR [1, 5] rfl rfl rfl ?_
      rintro _ _ ⟨a33, c33, rfl, rfl⟩
      refine ⟨fun _ _ h => h, ?_⟩
      refine (R03_App_spec n 2 3 ([v4, v4]) a31 2 _ h18).atR [4] rfl rfl rfl ?_
      rintro _ _ ⟨a34, c34, rfl, rfl⟩
      refine ⟨fun _ _ h => h, ?_⟩
      refine at_buildG (n := 5) ttOK 72 [.agg [.str (⟨#[110, 97, 116]⟩), .agg [.int .i64 1, .int .i64 0, .int .i64 0, .sl 4 []], .int .i64 0], .agg [.str (⟨#[122]⟩), .agg [.int .i64 v1.op, .int .i64 v1.hd, .int .i64 v1.n, .sl 4 (Tm.encL v1.args)], .int .i64 0], .agg [.str (⟨#[115]⟩), .agg [.int .i64 v7.op, .int .i64 v7.hd, .int .i64 v7.n, .sl 4 (Tm.encL v7.args)], .int .i64 0], .agg [.str (⟨#[100, 111, 117, 98, 108, 101]⟩), .agg [.int .i64 v13.op, .int .i64 v13.hd, .int .i64 v13.n, .sl 4 (Tm.encL v13.args)], .int .i64 0], .agg [.str (⟨#[100, 122]⟩), .agg [.int .i64 v17.op, .int .i64 v17.hd, .int .i64 v17.n, .sl 4 (Tm.encL v17.args)], .int .i64 0]] (ds' := (Dc.encL ([(Dc.mk (⟨#[110, 97, 116]⟩) (Tm.mk 1 0 0 ([])) 0), (Dc.mk (⟨#[122]⟩) v1 0), (Dc.mk (⟨#[115]⟩) v7 0), (Dc.mk (⟨#[100, 111, 117, 98, 108, 101]⟩) v13 0), (Dc.mk (⟨#[100, 122]⟩) v17 0)]))) rfl (by kernel_rfl) ⟨⟨rfl, rfl, rfl, ⟨[(.v (.string (⟨#[110, 97, 116]⟩)))], _, rfl, rfl, ⟨[(.v (.int .i64 1)), (.v (.int .i64 0)), (.v (.int .i64 0)), (.v (.slice none 0 0))], _, rfl, ⟨[(.v (.int .i64 1))], _, rfl, rfl, ⟨[(.v (.int .i64 0))], _, rfl, rfl, ⟨[(.v (.int .i64 0))], _, rfl, rfl, ⟨[(.v (.slice none 0 0))], _, rfl, (.inr ⟨rfl, rfl⟩), rfl⟩⟩⟩⟩, ⟨[(.v (.int .i64 0))], _, rfl, rfl, rfl⟩⟩⟩⟩, ⟨⟨rfl, rfl, rfl, ⟨[(.v (.string (⟨#[122]⟩)))], _, rfl, rfl, ⟨[(.v (.int .i64 v1.op)), (.v (.int .i64 v1.hd)), (.v (.int .i64 v1.n)), (.v (.slice a3 ((Tm.encL v1.args).length) c3))], _, rfl, ⟨[(.v (.int .i64 v1.op))], _, rfl, rfl, ⟨[(.v (.int .i64 v1.hd))], _, rfl, rfl, ⟨[(.v (.int .i64 v1.n))], _, rfl, rfl, ⟨[(.v (.slice a3 ((Tm.encL v1.args).length) c3))], _, rfl, (.inl ⟨_, rfl, nth_mem (j := 1) rfl⟩), rfl⟩⟩⟩⟩, ⟨[(.v (.int .i64 0))], _, rfl, rfl, rfl⟩⟩⟩⟩, ⟨⟨rfl, rfl, rfl, ⟨[(.v (.string (⟨#[115]⟩)))], _, rfl, rfl, ⟨[(.v (.int .i64 v7.op)), (.v (.int .i64 v7.hd)), (.v (.int .i64 v7.n)), (.v (.slice a21 ((Tm.encL v7.args).length) c21))], _, rfl, ⟨[(.v (.int .i64 v7.op))], _, rfl, rfl, ⟨[(.v (.int .i64 v7.hd))], _, rfl, rfl, ⟨[(.v (.int .i64 v7.n))], _, rfl, rfl, ⟨[(.v (.slice a21 ((Tm.encL v7.args).length) c21))], _, rfl, (.inl ⟨_, rfl, nth_mem (j := 3) rfl⟩), rfl⟩⟩⟩⟩, ⟨[(.v (.int .i64 0))], _, rfl, rfl, rfl⟩⟩⟩⟩, ⟨⟨rfl, rfl, rfl, ⟨[(.v (.string (⟨#[100, 111, 117, 98, 108, 101]⟩)))], _, rfl, rfl, ⟨[(.v (.int .i64 v13.op)), (.v (.int .i64 v13.hd)), (.v (.int .i64 v13.n)), (.v (.slice a33 ((Tm.encL v13.args).length) c33))], _, rfl, ⟨[(.v (.int .i64 v13.op))], _, rfl, rfl, ⟨[(.v (.int .i64 v13.hd))], _, rfl, rfl, ⟨[(.v (.int .i64 v13.n))], _, rfl, rfl, ⟨[(.v (.slice a33 ((Tm.encL v13.args).length) c33))], _, rfl, (.inl ⟨_, rfl, nth_mem (j := 6) rfl⟩), rfl⟩⟩⟩⟩, ⟨[(.v (.int .i64 0))], _, rfl, rfl, rfl⟩⟩⟩⟩, ⟨⟨rfl, rfl, rfl, ⟨[(.v (.string (⟨#[100, 122]⟩)))], _, rfl, rfl, ⟨[(.v (.int .i64 v17.op)), (.v (.int .i64 v17.hd)), (.v (.int .i64 v17.n)), (.v (.slice a34 ((Tm.encL v17.args).length) c34))], _, rfl, ⟨[(.v (.int .i64 v17.op))], _, rfl, rfl, ⟨[(.v (.int .i64 v17.hd))], _, rfl, rfl, ⟨[(.v (.int .i64 v17.n))], _, rfl, rfl, ⟨[(.v (.slice a34 ((Tm.encL v17.args).length) c34))], _, rfl, (.inl ⟨_, rfl, nth_mem (j := 7) rfl⟩), rfl⟩⟩⟩⟩, ⟨[(.v (.int .i64 0))], _, rfl, rfl, rfl⟩⟩⟩⟩, trivial⟩⟩⟩⟩⟩ rfl (by simp only [Dc.encL_eq, List.map_cons, List.map_nil, Dc.enc_eq] <;> rfl) (by decide) (by decide) ?_
      intro a35
      replace hr := Option.some.inj hr
      subst hr
      exact AtRet.pureG [.old 8] [(.slice a35 ((Dc.encL ([(Dc.mk (⟨#[110, 97, 116]⟩) (Tm.mk 1 0 0 ([])) 0), (Dc.mk (⟨#[122]⟩) v1 0), (Dc.mk (⟨#[115]⟩) v7 0), (Dc.mk (⟨#[100, 111, 117, 98, 108, 101]⟩) v13 0), (Dc.mk (⟨#[100, 122]⟩) v17 0)])).length) 5, .sl 6 (Dc.encL ([(Dc.mk (⟨#[110, 97, 116]⟩) (Tm.mk 1 0 0 ([])) 0), (Dc.mk (⟨#[122]⟩) v1 0), (Dc.mk (⟨#[115]⟩) v7 0), (Dc.mk (⟨#[100, 111, 117, 98, 108, 101]⟩) v13 0), (Dc.mk (⟨#[100, 122]⟩) v17 0)])))] rfl rfl ⟨a35, 5, rfl, rfl⟩
  ·
    refine at_buildG (n := 2) ttOK 48 [.agg [.int .i64 v4.op, .int .i64 v4.hd, .int .i64 v4.n, .sl 4 (Tm.encL v4.args)], .agg [.int .i64 v4.op, .int .i64 v4.hd, .int .i64 v4.n, .sl 4 (Tm.encL v4.args)]] (ds' := (Tm.encL ([v4, v4]))) rfl (by kernel_rfl) ⟨⟨rfl, rfl, rfl, ⟨[(.v (.int .i64 v4.op))], _, rfl, rfl, ⟨[(.v (.int .i64 v4.hd))], _, rfl, rfl, ⟨[(.v (.int .i64 v4.n))], _, rfl, rfl, ⟨[(.v (.slice a6 ((Tm.encL v4.args).length) c6))], _, rfl, (.inl ⟨_, rfl, nth_mem (j := 2) rfl⟩), rfl⟩⟩⟩⟩⟩, ⟨⟨rfl, rfl, rfl, ⟨[(.v (.int .i64 v4.op))], _, rfl, rfl, ⟨[(.v (.int .i64 v4.hd))], _, rfl, rfl, ⟨[(.v (.int .i64 v4.n))], _, rfl, rfl, ⟨[(.v (.slice a6 ((Tm.encL v4.args).length) c6))], _, rfl, (.inl ⟨_, rfl, nth_mem (j := 2) rfl⟩), rfl⟩⟩⟩⟩⟩, trivial⟩⟩ rfl (by simp only [Tm.encL_eq, List.map_cons, List.map_nil, Tm.enc_eq] <;> rfl) (by decide) (by decide) ?_
    intro a36
    refine ⟨fun _ _ h => h, ?_⟩
    refine (R03_Pi_spec n v1 v1 a3 c3 a3 c3 _ h8).atR [1, 1] rfl rfl rfl ?_
    rintro _ _ ⟨a37, c37, rfl, rfl⟩
    refine ⟨fun _ _ h => h, ?_⟩
    refine (R03_Pi_spec n v1 (Tm.mk 1 0 0 ([])) a3 c3 none 0 _ h11).atR [1, 0] rfl rfl rfl ?_
    rintro _ _ ⟨a38, c38, rfl, rfl⟩
    refine ⟨fun _ _ h => h, ?_⟩
    refine (R03_Pi_spec n v1 v10 a3 c3 a38 c38 _ h14).atR [1, 5] rfl rfl rfl ?_
    rintro _ _ ⟨a39, c39, rfl, rfl⟩
    refine ⟨fun _ _ h => h, ?_⟩
    refine (R03_App_spec n 2 3 ([v4, v4]) a36 2 _ h18).atR [3] rfl rfl rfl ?_
    rintro _ _ ⟨a40, c40, rfl, rfl⟩
    refine ⟨fun _ _ h => h, ?_⟩
    refine at_buildG (n := 5) ttOK 72 [.agg [.str (⟨#[110, 97, 116]⟩), .agg [.int .i64 1, .int .i64 0, .int .i64 0, .sl 4 []], .int .i64 0], .agg [.str (⟨#[122]⟩), .agg [.int .i64 v1.op, .int .i64 v1.hd, .int .i64 v1.n, .sl 4 (Tm.encL v1.args)], .int .i64 0], .agg [.str (⟨#[115]⟩), .agg [.int .i64 v7.op, .int .i64 v7.hd, .int .i64 v7.n, .sl 4 (Tm.encL v7.args)], .int .i64 0], .agg [.str (⟨#[100, 111, 117, 98, 108, 101]⟩), .agg [.int .i64 v13.op, .int .i64 v13.hd, .int .i64 v13.n, .sl 4 (Tm.encL v13.args)], .int .i64 0], .agg [.str (⟨#[100, 122]⟩), .agg [.int .i64 v17.op, .int .i64 v17.hd, .int .i64 v17.n, .sl 4 (Tm.encL v17.args)], .int .i64 0]] (ds' := (Dc.encL ([(Dc.mk (⟨#[110, 97, 116]⟩) (Tm.mk 1 0 0 ([])) 0), (Dc.mk (⟨#[122]⟩) v1 0), (Dc.mk (⟨#[115]⟩) v7 0), (Dc.mk (⟨#[100, 111, 117, 98, 108, 101]⟩) v13 0), (Dc.mk (⟨#[100, 122]⟩) v17 0)]))) rfl (by kernel_rfl) ⟨⟨rfl, rfl, rfl, ⟨[(.v (.string (⟨#[110, 97, 116]⟩)))], _, rfl, rfl, ⟨[(.v (.int .i64 1)), (.v (.int .i64 0)), (.v (.int .i64 0)), (.v (.slice none 0 0))], _, rfl, ⟨[(.v (.int .i64 1))], _, rfl, rfl, ⟨[(.v (.int .i64 0))], _, rfl, rfl, ⟨[(.v (.int .i64 0))], _, rfl, rfl, ⟨[(.v (.slice none 0 0))], _, rfl, (.inr ⟨rfl, rfl⟩), rfl⟩⟩⟩⟩, ⟨[(.v (.int .i64 0))], _, rfl, rfl, rfl⟩⟩⟩⟩, ⟨⟨rfl, rfl, rfl, ⟨[(.v (.string (⟨#[122]⟩)))], _, rfl, rfl, ⟨[(.v (.int .i64 v1.op)), (.v (.int .i64 v1.hd)), (.v (.int .i64 v1.n)), (.v (.slice a3 ((Tm.encL v1.args).length) c3))], _, rfl, ⟨[(.v (.int .i64 v1.op))], _, rfl, rfl, ⟨[(.v (.int .i64 v1.hd))], _, rfl, rfl, ⟨[(.v (.int .i64 v1.n))], _, rfl, rfl, ⟨[(.v (.slice a3 ((Tm.encL v1.args).length) c3))], _, rfl, (.inl ⟨_, rfl, nth_mem (j := 1) rfl⟩), rfl⟩⟩⟩⟩, ⟨[(.v (.int .i64 0))], _, rfl, rfl, rfl⟩⟩⟩⟩, ⟨⟨rfl, rfl, rfl, ⟨[(.v (.string (⟨#[115]⟩)))], _, rfl, rfl, ⟨[(.v (.int .i64 v7.op)), (.v (.int .i64 v7.hd)), (.v (.int .i64 v7.n)), (.v (.slice a37 ((Tm.encL v7.args).length) c37))], _, rfl, ⟨[(.v (.int .i64 v7.op))], _, rfl, rfl, ⟨[(.v (.int .i64 v7.hd))], _, rfl, rfl, ⟨[(.v (.int .i64 v7.n))], _, rfl, rfl, ⟨[(.v (.slice a37 ((Tm.encL v7.args).length) c37))], _, rfl, (.inl ⟨_, rfl, nth_mem (j := 4) rfl⟩), rfl⟩⟩⟩⟩, ⟨[(.v (.int .i64 0))], _, rfl, rfl, rfl⟩⟩⟩⟩, ⟨⟨rfl, rfl, rfl, ⟨[(.v (.string (⟨#[100, 111, 117, 98, 108, 101]⟩)))], _, rfl, rfl, ⟨[(.v (.int .i64 v13.op)), (.v (.int .i64 v13.hd)), (.v (.int .i64 v13.n)), (.v (.slice a39 ((Tm.encL v13.args).length) c39))], _, rfl, ⟨[(.v (.int .i64 v13.op))], _, rfl, rfl, ⟨[(.v (.int .i64 v13.hd))], _, rfl, rfl, ⟨[(.v (.int .i64 v13.n))], _, rfl, rfl, ⟨[(.v (.slice a39 ((Tm.encL v13.args).length) c39))], _, rfl, (.inl ⟨_, rfl, nth_mem (j := 6) rfl⟩), rfl⟩⟩⟩⟩, ⟨[(.v (.int .i64 0))], _, rfl, rfl, rfl⟩⟩⟩⟩, ⟨⟨rfl, rfl, rfl, ⟨[(.v (.string (⟨#[100, 122]⟩)))], _, rfl, rfl, ⟨[(.v (.int .i64 v17.op)), (.v (.int .i64 v17.hd)), (.v (.int .i64 v17.n)), (.v (.slice a40 ((Tm.encL v17.args).length) c40))], _, rfl, ⟨[(.v (.int .i64 v17.op))], _, rfl, rfl, ⟨[(.v (.int .i64 v17.hd))], _, rfl, rfl, ⟨[(.v (.int .i64 v17.n))], _, rfl, rfl, ⟨[(.v (.slice a40 ((Tm.encL v17.args).length) c40))], _, rfl, (.inl ⟨_, rfl, nth_mem (j := 7) rfl⟩), rfl⟩⟩⟩⟩, ⟨[(.v (.int .i64 0))], _, rfl, rfl, rfl⟩⟩⟩⟩, trivial⟩⟩⟩⟩⟩ rfl (by simp only [Dc.encL_eq, List.map_cons, List.map_nil, Dc.enc_eq] <;> rfl) (by decide) (by decide) ?_
    intro a41
    replace hr := Option.some.inj hr
    subst hr
    exact AtRet.pureG [.old 8] [(.slice a41 ((Dc.encL ([(Dc.mk (⟨#[110, 97, 116]⟩) (Tm.mk 1 0 0 ([])) 0), (Dc.mk (⟨#[122]⟩) v1 0), (Dc.mk (⟨#[115]⟩) v7 0), (Dc.mk (⟨#[100, 111, 117, 98, 108, 101]⟩) v13 0), (Dc.mk (⟨#[100, 122]⟩) v17 0)])).length) 5, .sl 6 (Dc.encL ([(Dc.mk (⟨#[110, 97, 116]⟩) (Tm.mk 1 0 0 ([])) 0), (Dc.mk (⟨#[122]⟩) v1 0), (Dc.mk (⟨#[115]⟩) v7 0), (Dc.mk (⟨#[100, 111, 117, 98, 108, 101]⟩) v13 0), (Dc.mk (⟨#[100, 122]⟩) v17 0)])))] rfl rfl ⟨a41, 5, rfl, rfl⟩
mutual
def mode_Check : Nat → (List Dc) → (List Md) → Int → Option (Int × Int × Int)
  | 0, _, _, _ => none
  | n + 1, v1, v3, v5 =>
    (sign_Check n v1).bind (fun v6 =>
    cond (v6 != 0) (
    some (0, 0, 2)) (
    mode_Check_L1 n v3 v1 v5 ([]) 0))
def mode_Check_L1 : Nat → (List Md) → (List Dc) → Int → (List (Int × Md)) → Int → Option (Int × Int × Int)
  | 0, _, _, _, _, _ => none
  | n + 1, v3, v1, v5, v20, v22 =>
    cond (decide (v22 < ((Md.encL v3).length : Int))) (
    (idx v3 v22).bind (fun v24 =>
    cond ((mget v20 v24.family).isSome) (
    some (0, 0, 2)) (
    (mode_isMode n v1 v24).bind (fun v31 =>
    cond ((!v31) || (decide (((Md.encL v3).length : Int) > 40))) (
    some (0, 0, 2)) (
    mode_Check_L1 n v3 v1 v5 (mput v24.family v24 v20) (IntKind.i64.wrap (v22 + 1))))))) (
    cond ((decide (v5 < 0)) || (decide (v5 ≥ ((Dc.encL v1).length : Int)))) (
    some (0, 0, 6)) (
    (sign_Family n v1 v5).bind (fun v35 =>
    cond v35 (
    some (0, 0, 22)) (
    (mode_check n v1 v5 v20).bind (fun v38 =>
    some (v38.1, v38.2.1, v38.2.2))))))
 end
theorem mode_Check_spec (n : Nat) (v1 : (List Dc)) (v3 : (List Md)) (v5 : Int) (a2 : Option Addr) (c2 : Nat) (a4 : Option Addr) (c4 : Nat) (r : Int × Int × Int) (hr : mode_Check n v1 v3 v5 = some r) : Pure Tryz.prog (.val (.fn (.func 20) [] [])) [(.v (.slice a2 ((Dc.encL v1).length) c2)), (.v (.slice a4 ((Md.encL v3).length) c4)), (.v (.int .i64 v5))] [(.slice a2 ((Dc.encL v1).length) c2, .sl 6 (Dc.encL v1)), (.slice a4 ((Md.encL v3).length) c4, .sl 2 (Md.encL v3))] (fun r' out => r' = (.tup [(.v (.int .i64 r.1)), (.v (.int .i64 r.2.1)), (.v (.int .i64 r.2.2))]) ∧ out = []) := by
  rcases n with _ | n
  · exact no_some hr
  rw [mode_Check.eq_2] at hr
  refine spec_of_body (N := 36) (m := 0) (dt := fun _ => none) [] ttOK Tryz.func20 rfl Tryz.call20 Tryz.ntmps20 rfl rfl rfl mixed (by kernel_rfl) ?_
  obtain ⟨v6, h7, hr⟩ := bind_some hr
  refine (sign_Check_spec n v1 a2 c2 _ h7).atR [0] rfl rfl rfl ?_
  rintro _ _ ⟨rfl, rfl⟩
  refine AtIf.mk (fun h8 => ?_) (fun h8 => ?_)
  · replace hr := cond_t h8 hr
    replace hr := Option.some.inj hr
    subst hr
    exact AtRet.pureG [] [] rfl rfl ⟨rfl, rfl⟩
  · replace hr := cond_f h8 hr
    refine spec_of_body (N := 43) (m := 0) (dt := fun _ => none) [] ttOK Tryz.func32 rfl Tryz.call32 Tryz.ntmps32 rfl rfl rfl mixed (by kernel_rfl) ?_
    refine at_makeMapG .i64 Md.gv 1 Md.gp ?_
    refine AtLoop.mk ⟨Nat × (List (Int × GE Md)) × Int, fun x => [(0, (.v (.slice a2 ((Dc.encL v1).length) c2))), (1, (.v (.slice a4 ((Md.encL v3).length) c4))), (6, (.mp 0)), (12, (.v (.slice a4 ((Md.encL v3).length) c4))), (13, (.v (.int .i64 ((Md.encL v3).length : Int)))), (14, (.v (.int .i64 x.2.2)))], fun x => ⟨[.obj (mapO .i64 (encM Md.gv x.2.1))], [], [(.slice a2 ((Dc.encL v1).length) c2, .sl 6 (Dc.encL v1)), (.slice a4 ((Md.encL v3).length) c4, .sl 2 (Md.encL v3)), (agV 1 Md.gp x.2.1, agD 1 Md.gp x.2.1)]⟩, fun x => mode_Check_L1 x.1 v3 v1 v5 (er x.2.1) x.2.2 = some r, fun x => x.1, (n, ([] : List (Int × GE Md)), 0), hr, ⟨rfl, rfl, rfl, rfl, rfl, rfl, trivial⟩, (StLe.gen 1 [] [.old 0, .old 1, .old 2] rfl rfl rfl rfl rfl rfl rfl), fun x _ => ⟨rfl, rfl⟩, ?_⟩
    rintro ⟨n, g21, v22⟩ HH
    have hr : mode_Check_L1 n v3 v1 v5 (er g21) v22 = some r := HH
    rcases n with _ | n
    · exact no_some hr
    rw [mode_Check_L1.eq_2] at hr
    refine AtIf.mk (fun h23 => ?_) (fun h23 => ?_)
    · replace hr := cond_t h23 hr
      obtain ⟨v24, h25, hr⟩ := bind_some hr
      obtain ⟨h26, h27⟩ := idx_some h25
      refine at_index ttOK 1 rfl rfl rfl rfl h26 (Md.encL_get h27) ?_
      intro a28 c28 _ _
      refine at_lookupGE ttOK Md.gv Md.gk 1 Md.gp (Md.mk 0 ([])) _ 2 rfl Tryz.underlying3 Tryz.zeroValue25 rfl rfl (fun _ _ _ _ => rfl) (fun _ _ _ _ => rfl) rfl rfl rfl rfl ?_
      intro a29 c29
      refine AtGuard.mk (fun h30 => ?_) (fun h30 => ?_)
      · replace hr := cond_f h30 hr
        obtain ⟨v31, h32, hr⟩ := bind_some hr
        refine (mode_isMode_spec n v1 v24 a2 c2 a28 c28 _ h32).atR [0, 3] rfl rfl rfl ?_
        rintro _ _ ⟨rfl, rfl⟩
        refine AtIf.mk (fun h33 => ?_) (fun h33 => ?_)
        · replace hr := cond_t h33 hr
          refine AtRet.gen _ (StLe.refl _) rfl rfl ?_
          refine AtIf.mk (fun _ => ?_) (fun h => tf h)
          replace hr := Option.some.inj hr
          subst hr
          exact AtRet.pureG [] [] rfl rfl ⟨rfl, rfl⟩
        · replace hr := cond_f h33 hr
          refine at_mapPutGE ttOK Md.gv 1 Md.gp v24 a28 c28 2 3 rfl Tryz.underlying3 rfl rfl rfl (fun _ => rfl) rfl rfl rfl ?_
          exact ⟨(n, (mput v24.family (v24, a28, c28) g21), (IntKind.i64.wrap (v22 + 1))), (by simpa only [er_mput] using hr), Nat.lt_succ_self _, ⟨rfl, rfl, rfl, rfl, rfl, rfl, trivial⟩, (StLe.gen 1 [] [.old 0, .old 1, .old 2] rfl rfl rfl rfl rfl rfl rfl)⟩
      · replace hr := cond_t h30 hr
        refine AtIf.mk (fun _ => ?_) (fun h => tf h)
        refine AtRet.gen _ (StLe.refl _) rfl rfl ?_
        refine AtIf.mk (fun _ => ?_) (fun h => tf h)
        replace hr := Option.some.inj hr
        subst hr
        exact AtRet.pureG [] [] rfl rfl ⟨rfl, rfl⟩
    · replace hr := cond_f h23 hr
      refine AtRet.gen _ (StLe.refl _) rfl rfl ?_
      refine AtIf.mk (fun h => ff h) (fun _ => ?_)
      refine spec_of_body (N := 18) (m := 1) (dt := fun _ => none) [] ttOK Tryz.func47 rfl Tryz.call47 Tryz.ntmps47 rfl rfl rfl mixed (by kernel_rfl) ?_
      refine AtIf.mk (fun h34 => ?_) (fun h34 => ?_)
      · replace hr := cond_t h34 hr
        refine AtRet.gen _ (StLe.refl _) rfl rfl ?_
        refine AtIf.mk (fun _ => ?_) (fun h => tf h)
        replace hr := Option.some.inj hr
        subst hr
        exact AtRet.pureG [] [] rfl rfl ⟨rfl, rfl⟩
      · replace hr := cond_f h34 hr
        obtain ⟨v35, h36, hr⟩ := bind_some hr
        refine (sign_Family_spec n v1 v5 a2 c2 _ h36).atR [0] rfl rfl rfl ?_
        rintro _ _ ⟨rfl, rfl⟩
        refine AtIf.mk (fun h37 => ?_) (fun h37 => ?_)
        · replace hr := cond_t h37 hr
          refine AtRet.gen _ (StLe.refl _) rfl rfl ?_
          refine AtIf.mk (fun _ => ?_) (fun h => tf h)
          replace hr := Option.some.inj hr
          subst hr
          exact AtRet.pureG [] [] rfl rfl ⟨rfl, rfl⟩
        · replace hr := cond_f h37 hr
          refine AtRet.gen _ (StLe.refl _) rfl rfl ?_
          refine AtIf.mk (fun h => ff h) (fun _ => ?_)
          obtain ⟨v38, h39, hr⟩ := bind_some hr
          refine (mode_check_spec n v1 v5 g21 a2 c2 _ h39).frameR [0] [0, 2] rfl rfl rfl rfl rfl rfl rfl rfl ?_
          rintro _ _ ⟨rfl, rfl⟩
          refine ⟨rfl, rfl, [.obj (mapO .i64 (encM Md.gv g21))], rfl, ?_⟩
          replace hr := Option.some.inj hr
          subst hr
          exact AtRet.pureG [] [] rfl rfl ⟨rfl, rfl⟩
def W14_awake : Nat → Option (Bool)
  | 0 => none
  | n + 1 =>
    (W14_sample n ).bind (fun v1 =>
    (mode_Read n v1 (It.mk (⟨#[109, 111, 100, 101]⟩) ByteArray.empty (Rw.mk 0 ByteArray.empty ([])) ([(Pt.mk 1 ByteArray.empty (⟨#[100, 111, 117, 98, 108, 101]⟩) 0 (Rw.mk 0 ByteArray.empty ([])) ([])), (Pt.mk 2 (⟨#[43]⟩) (⟨#[88]⟩) 0 (Rw.mk 0 ByteArray.empty ([])) ([])), (Pt.mk 2 (⟨#[45]⟩) (⟨#[89]⟩) 0 (Rw.mk 0 ByteArray.empty ([])) ([]))]))).bind (fun v5 =>
    cond (((v5.2 != 0) || (v5.1.family != 3)) || (((List.map (D.int .i64) v5.1.signs).length : Int) != 2)) (
    some (false)) (
    (idx v5.1.signs 0).bind (fun v12 =>
    cond (v12 != 1) (
    some (false)) (
    (idx v5.1.signs 1).bind (fun v17 =>
    cond (v17 != 2) (
    some (false)) (
    (W14_sample n ).bind (fun v22 =>
    (mode_Check n v22 ([v5.1]) 4).bind (fun v26 =>
    cond (((((v26.2.2 != 0) || false) || false) || false) || false) (
    some (false)) (
    some (true)))))))))))
theorem W14_awake_spec (n : Nat)  (r : Bool) (hr : W14_awake n  = some r) : Pure Tryz.prog (.val (.fn (.func 6) [] [])) [] [] (fun r' out => r' = (.v (.bool r)) ∧ out = []) := by
  rcases n with _ | n
  · exact no_some hr
  rw [W14_awake.eq_2] at hr
  refine spec_of_body (N := 63) (m := 0) (dt := drawsOf [(2, .node [1, 2, 3] [(0, .node [] [(4, .node [5] [(6, .node [7, 8, 9] [(10, .node [] [(11, .leaf [12])])]), (10, .node [] [(6, .node [7, 8, 9] [(11, .leaf [12])])])]), (10, .node [] [(4, .node [5] [(6, .node [7, 8, 9] [(11, .leaf [12])])])])]), (4, .node [5] [(0, .node [] [(6, .node [7, 8, 9] [(10, .node [] [(11, .leaf [12])])]), (10, .node [] [(6, .node [7, 8, 9] [(11, .leaf [12])])])]), (10, .node [] [(0, .node [] [(6, .node [7, 8, 9] [(11, .leaf [12])])])])]), (10, .node [] [(0, .node [] [(4, .node [5] [(6, .node [7, 8, 9] [(11, .leaf [12])])])]), (4, .node [5] [(0, .node [] [(6, .node [7, 8, 9] [(11, .leaf [12])])])])])], [4, 6], [1]), (5, .node [1] [(0, .node [] [(2, .node [] [(3, .leaf [4, 5, 6, 7, 8, 9, 10])])]), (2, .node [] [(0, .node [] [(3, .leaf [4, 5, 6, 7, 8, 9, 10])])])], [2, 3], [])]) [] ttOK Tryz.func6 rfl Tryz.call6 Tryz.ntmps6 rfl rfl rfl mixed (by kernel_rfl) ?_
  obtain ⟨v1, h2, hr⟩ := bind_some hr
  obtain ⟨v5, h6, hr⟩ := bind_some hr
  refine ⟨?_, ?_⟩
  ·
    refine (W14_sample_spec n  _ h2).atR [] rfl rfl rfl ?_
    rintro _ _ ⟨a8, c8, rfl, rfl⟩
    refine ⟨fun _ _ h => h, ?_⟩
    refine ⟨?_, ?_⟩
    ·
      refine at_buildG (n := 3) ttOK 120 [.agg [.int .i64 1, .str ByteArray.empty, .str (⟨#[100, 111, 117, 98, 108, 101]⟩), .int .i64 0, .agg [.int .i64 0, .str ByteArray.empty, .sl 3 []], .sl 8 []], .agg [.int .i64 2, .str (⟨#[43]⟩), .str (⟨#[88]⟩), .int .i64 0, .agg [.int .i64 0, .str ByteArray.empty, .sl 3 []], .sl 8 []], .agg [.int .i64 2, .str (⟨#[45]⟩), .str (⟨#[89]⟩), .int .i64 0, .agg [.int .i64 0, .str ByteArray.empty, .sl 3 []], .sl 8 []]] (ds' := (Pt.encL ([(Pt.mk 1 ByteArray.empty (⟨#[100, 111, 117, 98, 108, 101]⟩) 0 (Rw.mk 0 ByteArray.empty ([])) ([])), (Pt.mk 2 (⟨#[43]⟩) (⟨#[88]⟩) 0 (Rw.mk 0 ByteArray.empty ([])) ([])), (Pt.mk 2 (⟨#[45]⟩) (⟨#[89]⟩) 0 (Rw.mk 0 ByteArray.empty ([])) ([]))]))) rfl (by kernel_rfl) ⟨⟨rfl, rfl, rfl, ⟨[(.v (.int .i64 1))], _, rfl, rfl, ⟨[(.v (.string ByteArray.empty))], _, rfl, rfl, ⟨[(.v (.string (⟨#[100, 111, 117, 98, 108, 101]⟩)))], _, rfl, rfl, ⟨[(.v (.int .i64 0))], _, rfl, rfl, ⟨[(.v (.int .i64 0)), (.v (.string ByteArray.empty)), (.v (.slice none 0 0))], _, rfl, ⟨[(.v (.int .i64 0))], _, rfl, rfl, ⟨[(.v (.string ByteArray.empty))], _, rfl, rfl, ⟨[(.v (.slice none 0 0))], _, rfl, (.inr ⟨rfl, rfl⟩), rfl⟩⟩⟩, ⟨[(.v (.slice none 0 0))], _, rfl, (.inr ⟨rfl, rfl⟩), rfl⟩⟩⟩⟩⟩⟩⟩, ⟨⟨rfl, rfl, rfl, ⟨[(.v (.int .i64 2))], _, rfl, rfl, ⟨[(.v (.string (⟨#[43]⟩)))], _, rfl, rfl, ⟨[(.v (.string (⟨#[88]⟩)))], _, rfl, rfl, ⟨[(.v (.int .i64 0))], _, rfl, rfl, ⟨[(.v (.int .i64 0)), (.v (.string ByteArray.empty)), (.v (.slice none 0 0))], _, rfl, ⟨[(.v (.int .i64 0))], _, rfl, rfl, ⟨[(.v (.string ByteArray.empty))], _, rfl, rfl, ⟨[(.v (.slice none 0 0))], _, rfl, (.inr ⟨rfl, rfl⟩), rfl⟩⟩⟩, ⟨[(.v (.slice none 0 0))], _, rfl, (.inr ⟨rfl, rfl⟩), rfl⟩⟩⟩⟩⟩⟩⟩, ⟨⟨rfl, rfl, rfl, ⟨[(.v (.int .i64 2))], _, rfl, rfl, ⟨[(.v (.string (⟨#[45]⟩)))], _, rfl, rfl, ⟨[(.v (.string (⟨#[89]⟩)))], _, rfl, rfl, ⟨[(.v (.int .i64 0))], _, rfl, rfl, ⟨[(.v (.int .i64 0)), (.v (.string ByteArray.empty)), (.v (.slice none 0 0))], _, rfl, ⟨[(.v (.int .i64 0))], _, rfl, rfl, ⟨[(.v (.string ByteArray.empty))], _, rfl, rfl, ⟨[(.v (.slice none 0 0))], _, rfl, (.inr ⟨rfl, rfl⟩), rfl⟩⟩⟩, ⟨[(.v (.slice none 0 0))], _, rfl, (.inr ⟨rfl, rfl⟩), rfl⟩⟩⟩⟩⟩⟩⟩, trivial⟩⟩⟩ rfl (by simp only [Pt.encL_eq, List.map_cons, List.map_nil, Pt.enc_eq] <;> rfl) (by decide) (by decide) ?_
      intro a9
      refine ⟨?_, ?_⟩
      ·
        refine Meets.nilRep 3 ?_
        refine (mode_Read_spec n v1 (It.mk (⟨#[109, 111, 100, 101]⟩) ByteArray.empty (Rw.mk 0 ByteArray.empty ([])) ([(Pt.mk 1 ByteArray.empty (⟨#[100, 111, 117, 98, 108, 101]⟩) 0 (Rw.mk 0 ByteArray.empty ([])) ([])), (Pt.mk 2 (⟨#[43]⟩) (⟨#[88]⟩) 0 (Rw.mk 0 ByteArray.empty ([])) ([])), (Pt.mk 2 (⟨#[45]⟩) (⟨#[89]⟩) 0 (Rw.mk 0 ByteArray.empty ([])) ([]))])) a8 c8 none 0 a9 3 _ h6).atR [1, 0, 2] rfl rfl rfl ?_
        rintro _ _ ⟨a10, c10, rfl, rfl⟩
        refine ⟨OwnKeptBut.append, ?_⟩
        refine ⟨fun _ _ h => h, ?_⟩
        refine AtGuard.mk (fun h11 => ?_) (fun h11 => ?_)
        · replace hr := cond_f h11 hr
          obtain ⟨v12, h13, hr⟩ := bind_some hr
          obtain ⟨h14, h15⟩ := idx_some h13
          refine at_index ttOK 3 rfl rfl rfl rfl h14 (map_get (D.int .i64) h15) ?_
          refine AtGuard.mk (fun h16 => ?_) (fun h16 => ?_)
          · replace hr := cond_f h16 hr
            obtain ⟨v17, h18, hr⟩ := bind_some hr
            obtain ⟨h19, h20⟩ := idx_some h18
            refine at_index ttOK 3 rfl rfl rfl rfl h19 (map_get (D.int .i64) h20) ?_
            refine AtIf.mk (fun h21 => ?_) (fun h21 => ?_)
            · replace hr := cond_t h21 hr
              replace hr := Option.some.inj hr
              subst hr
              exact AtRet.pureG [] [] rfl rfl ⟨rfl, rfl⟩
            · replace hr := cond_f h21 hr
              obtain ⟨v22, h23, hr⟩ := bind_some hr
              obtain ⟨v26, h27, hr⟩ := bind_some hr
              refine ⟨?_, ?_⟩
              ·
                refine (W14_sample_spec n  _ h23).atR [] rfl rfl rfl ?_
                rintro _ _ ⟨a28, c28, rfl, rfl⟩
                refine ⟨fun _ _ h => h, ?_⟩
                refine at_buildG (n := 1) ttOK 32 [.agg [.int .i64 v5.1.family, .sl 1 (List.map (D.int .i64) v5.1.signs)]] (ds' := (Md.encL ([v5.1]))) rfl (by kernel_rfl) ⟨⟨rfl, rfl, rfl, ⟨[(.v (.int .i64 v5.1.family))], _, rfl, rfl, ⟨[(.v (.slice a10 ((List.map (D.int .i64) v5.1.signs).length) c10))], _, rfl, (.inl ⟨_, rfl, nth_mem (j := 3) rfl⟩), rfl⟩⟩⟩, trivial⟩ rfl (by simp only [Md.encL_eq, List.map_cons, List.map_nil, Md.enc_eq] <;> rfl) (by decide) (by decide) ?_
                intro a29
                refine (mode_Check_spec n v22 ([v5.1]) 4 a28 c28 a29 1 _ h27).atR [4, 5] rfl rfl rfl ?_
                rintro _ _ ⟨rfl, rfl⟩
                refine AtIf.mk (fun h30 => ?_) (fun h30 => ?_)
                · replace hr := cond_t h30 hr
                  replace hr := Option.some.inj hr
                  subst hr
                  exact AtRet.pureG [] [] rfl rfl ⟨rfl, rfl⟩
                · replace hr := cond_f h30 hr
                  replace hr := Option.some.inj hr
                  subst hr
                  exact AtRet.pureG [] [] rfl rfl ⟨rfl, rfl⟩
              ·
                refine at_buildG (n := 1) ttOK 32 [.agg [.int .i64 v5.1.family, .sl 1 (List.map (D.int .i64) v5.1.signs)]] (ds' := (Md.encL ([v5.1]))) rfl (by kernel_rfl) ⟨⟨rfl, rfl, rfl, ⟨[(.v (.int .i64 v5.1.family))], _, rfl, rfl, ⟨[(.v (.slice a10 ((List.map (D.int .i64) v5.1.signs).length) c10))], _, rfl, (.inl ⟨_, rfl, nth_mem (j := 3) rfl⟩), rfl⟩⟩⟩, trivial⟩ rfl (by simp only [Md.encL_eq, List.map_cons, List.map_nil, Md.enc_eq] <;> rfl) (by decide) (by decide) ?_
                intro a31
                refine (W14_sample_spec n  _ h23).atR [] rfl rfl rfl ?_
                rintro _ _ ⟨a32, c32, rfl, rfl⟩
                refine ⟨fun _ _ h => h, ?_⟩
                refine (mode_Check_spec n v22 ([v5.1]) 4 a32 c32 a31 1 _ h27).atR [5, 4] rfl rfl rfl ?_
                rintro _ _ ⟨rfl, rfl⟩
                refine AtIf.mk (fun h30 => ?_) (fun h30 => ?_)
                · replace hr := cond_t h30 hr
                  replace hr := Option.some.inj hr
                  subst hr
                  exact AtRet.pureG [] [] rfl rfl ⟨rfl, rfl⟩
                · replace hr := cond_f h30 hr
                  replace hr := Option.some.inj hr
                  subst hr
                  exact AtRet.pureG [] [] rfl rfl ⟨rfl, rfl⟩
          · replace hr := cond_t h16 hr
            refine AtIf.mk (fun _ => ?_) (fun h => tf h)
            replace hr := Option.some.inj hr
            subst hr
            exact AtRet.pureG [] [] rfl rfl ⟨rfl, rfl⟩
        · replace hr := cond_t h11 hr
          refine AtGuard.mk (fun h => tf h) (fun _ => ?_)
          refine AtIf.mk (fun _ => ?_) (fun h => tf h)
          replace hr := Option.some.inj hr
          subst hr
          exact AtRet.pureG [] [] rfl rfl ⟨rfl, rfl⟩
      ·
        refine ⟨OwnKeptBut.append, ?_⟩
        refine Meets.nilRep 3 ?_
        refine (mode_Read_spec n v1 (It.mk (⟨#[109, 111, 100, 101]⟩) ByteArray.empty (Rw.mk 0 ByteArray.empty ([])) ([(Pt.mk 1 ByteArray.empty (⟨#[100, 111, 117, 98, 108, 101]⟩) 0 (Rw.mk 0 ByteArray.empty ([])) ([])), (Pt.mk 2 (⟨#[43]⟩) (⟨#[88]⟩) 0 (Rw.mk 0 ByteArray.empty ([])) ([])), (Pt.mk 2 (⟨#[45]⟩) (⟨#[89]⟩) 0 (Rw.mk 0 ByteArray.empty ([])) ([]))])) a8 c8 none 0 a9 3 _ h6).atR [1, 0, 2] rfl rfl rfl ?_
        rintro _ _ ⟨a33, c33, rfl, rfl⟩
        refine ⟨fun _ _ h => h, ?_⟩
        refine AtGuard.mk (fun h11 => ?_) (fun h11 => ?_)
        · replace hr := cond_f h11 hr
          obtain ⟨v12, h13, hr⟩ := bind_some hr
          obtain ⟨h14, h15⟩ := idx_some h13
          refine at_index ttOK 3 rfl rfl rfl rfl h14 (map_get (D.int .i64) h15) ?_
          refine AtGuard.mk (fun h16 => ?_) (fun h16 => ?_)
          · replace hr := cond_f h16 hr
            obtain ⟨v17, h18, hr⟩ := bind_some hr
            obtain ⟨h19, h20⟩ := idx_some h18
            refine at_index ttOK 3 rfl rfl rfl rfl h19 (map_get (D.int .i64) h20) ?_
            refine AtIf.mk (fun h21 => ?_) (fun h21 => ?_)
            · replace hr := cond_t h21 hr
              replace hr := Option.some.inj hr
              subst hr
              exact AtRet.pureG [] [] rfl rfl ⟨rfl, rfl⟩
            · replace hr := cond_f h21 hr
              obtain ⟨v22, h23, hr⟩ := bind_some hr
              obtain ⟨v26, h27, hr⟩ := bind_some hr
              refine ⟨?_, ?_⟩
              ·
                refine (W14_sample_spec n  _ h23).atR [] rfl rfl rfl ?_
                rintro _ _ ⟨a28, c28, rfl, rfl⟩
                refine ⟨fun _ _ h => h, ?_⟩
                refine at_buildG (n := 1) ttOK 32 [.agg [.int .i64 v5.1.family, .sl 1 (List.map (D.int .i64) v5.1.signs)]] (ds' := (Md.encL ([v5.1]))) rfl (by kernel_rfl) ⟨⟨rfl, rfl, rfl, ⟨[(.v (.int .i64 v5.1.family))], _, rfl, rfl, ⟨[(.v (.slice a33 ((List.map (D.int .i64) v5.1.signs).length) c33))], _, rfl, (.inl ⟨_, rfl, nth_mem (j := 3) rfl⟩), rfl⟩⟩⟩, trivial⟩ rfl (by simp only [Md.encL_eq, List.map_cons, List.map_nil, Md.enc_eq] <;> rfl) (by decide) (by decide) ?_
                intro a29
                refine (mode_Check_spec n v22 ([v5.1]) 4 a28 c28 a29 1 _ h27).atR [4, 5] rfl rfl rfl ?_
                rintro _ _ ⟨rfl, rfl⟩
                refine AtIf.mk (fun h30 => ?_) (fun h30 => ?_)
                · replace hr := cond_t h30 hr
                  replace hr := Option.some.inj hr
                  subst hr
                  exact AtRet.pureG [] [] rfl rfl ⟨rfl, rfl⟩
                · replace hr := cond_f h30 hr
                  replace hr := Option.some.inj hr
                  subst hr
                  exact AtRet.pureG [] [] rfl rfl ⟨rfl, rfl⟩
              ·
                refine at_buildG (n := 1) ttOK 32 [.agg [.int .i64 v5.1.family, .sl 1 (List.map (D.int .i64) v5.1.signs)]] (ds' := (Md.encL ([v5.1]))) rfl (by kernel_rfl) ⟨⟨rfl, rfl, rfl, ⟨[(.v (.int .i64 v5.1.family))], _, rfl, rfl, ⟨[(.v (.slice a33 ((List.map (D.int .i64) v5.1.signs).length) c33))], _, rfl, (.inl ⟨_, rfl, nth_mem (j := 3) rfl⟩), rfl⟩⟩⟩, trivial⟩ rfl (by simp only [Md.encL_eq, List.map_cons, List.map_nil, Md.enc_eq] <;> rfl) (by decide) (by decide) ?_
                intro a31
                refine (W14_sample_spec n  _ h23).atR [] rfl rfl rfl ?_
                rintro _ _ ⟨a32, c32, rfl, rfl⟩
                refine ⟨fun _ _ h => h, ?_⟩
                refine (mode_Check_spec n v22 ([v5.1]) 4 a32 c32 a31 1 _ h27).atR [5, 4] rfl rfl rfl ?_
                rintro _ _ ⟨rfl, rfl⟩
                refine AtIf.mk (fun h30 => ?_) (fun h30 => ?_)
                · replace hr := cond_t h30 hr
                  replace hr := Option.some.inj hr
                  subst hr
                  exact AtRet.pureG [] [] rfl rfl ⟨rfl, rfl⟩
                · replace hr := cond_f h30 hr
                  replace hr := Option.some.inj hr
                  subst hr
                  exact AtRet.pureG [] [] rfl rfl ⟨rfl, rfl⟩
          · replace hr := cond_t h16 hr
            refine AtIf.mk (fun _ => ?_) (fun h => tf h)
            replace hr := Option.some.inj hr
            subst hr
            exact AtRet.pureG [] [] rfl rfl ⟨rfl, rfl⟩
        · replace hr := cond_t h11 hr
          refine AtGuard.mk (fun h => tf h) (fun _ => ?_)
          refine AtIf.mk (fun _ => ?_) (fun h => tf h)
          replace hr := Option.some.inj hr
          subst hr
          exact AtRet.pureG [] [] rfl rfl ⟨rfl, rfl⟩
    ·
      refine ⟨OwnKeptBut.append, ?_⟩
      refine at_buildG (n := 3) ttOK 120 [.agg [.int .i64 1, .str ByteArray.empty, .str (⟨#[100, 111, 117, 98, 108, 101]⟩), .int .i64 0, .agg [.int .i64 0, .str ByteArray.empty, .sl 3 []], .sl 8 []], .agg [.int .i64 2, .str (⟨#[43]⟩), .str (⟨#[88]⟩), .int .i64 0, .agg [.int .i64 0, .str ByteArray.empty, .sl 3 []], .sl 8 []], .agg [.int .i64 2, .str (⟨#[45]⟩), .str (⟨#[89]⟩), .int .i64 0, .agg [.int .i64 0, .str ByteArray.empty, .sl 3 []], .sl 8 []]] (ds' := (Pt.encL ([(Pt.mk 1 ByteArray.empty (⟨#[100, 111, 117, 98, 108, 101]⟩) 0 (Rw.mk 0 ByteArray.empty ([])) ([])), (Pt.mk 2 (⟨#[43]⟩) (⟨#[88]⟩) 0 (Rw.mk 0 ByteArray.empty ([])) ([])), (Pt.mk 2 (⟨#[45]⟩) (⟨#[89]⟩) 0 (Rw.mk 0 ByteArray.empty ([])) ([]))]))) rfl (by kernel_rfl) ⟨⟨rfl, rfl, rfl, ⟨[(.v (.int .i64 1))], _, rfl, rfl, ⟨[(.v (.string ByteArray.empty))], _, rfl, rfl, ⟨[(.v (.string (⟨#[100, 111, 117, 98, 108, 101]⟩)))], _, rfl, rfl, ⟨[(.v (.int .i64 0))], _, rfl, rfl, ⟨[(.v (.int .i64 0)), (.v (.string ByteArray.empty)), (.v (.slice none 0 0))], _, rfl, ⟨[(.v (.int .i64 0))], _, rfl, rfl, ⟨[(.v (.string ByteArray.empty))], _, rfl, rfl, ⟨[(.v (.slice none 0 0))], _, rfl, (.inr ⟨rfl, rfl⟩), rfl⟩⟩⟩, ⟨[(.v (.slice none 0 0))], _, rfl, (.inr ⟨rfl, rfl⟩), rfl⟩⟩⟩⟩⟩⟩⟩, ⟨⟨rfl, rfl, rfl, ⟨[(.v (.int .i64 2))], _, rfl, rfl, ⟨[(.v (.string (⟨#[43]⟩)))], _, rfl, rfl, ⟨[(.v (.string (⟨#[88]⟩)))], _, rfl, rfl, ⟨[(.v (.int .i64 0))], _, rfl, rfl, ⟨[(.v (.int .i64 0)), (.v (.string ByteArray.empty)), (.v (.slice none 0 0))], _, rfl, ⟨[(.v (.int .i64 0))], _, rfl, rfl, ⟨[(.v (.string ByteArray.empty))], _, rfl, rfl, ⟨[(.v (.slice none 0 0))], _, rfl, (.inr ⟨rfl, rfl⟩), rfl⟩⟩⟩, ⟨[(.v (.slice none 0 0))], _, rfl, (.inr ⟨rfl, rfl⟩), rfl⟩⟩⟩⟩⟩⟩⟩, ⟨⟨rfl, rfl, rfl, ⟨[(.v (.int .i64 2))], _, rfl, rfl, ⟨[(.v (.string (⟨#[45]⟩)))], _, rfl, rfl, ⟨[(.v (.string (⟨#[89]⟩)))], _, rfl, rfl, ⟨[(.v (.int .i64 0))], _, rfl, rfl, ⟨[(.v (.int .i64 0)), (.v (.string ByteArray.empty)), (.v (.slice none 0 0))], _, rfl, ⟨[(.v (.int .i64 0))], _, rfl, rfl, ⟨[(.v (.string ByteArray.empty))], _, rfl, rfl, ⟨[(.v (.slice none 0 0))], _, rfl, (.inr ⟨rfl, rfl⟩), rfl⟩⟩⟩, ⟨[(.v (.slice none 0 0))], _, rfl, (.inr ⟨rfl, rfl⟩), rfl⟩⟩⟩⟩⟩⟩⟩, trivial⟩⟩⟩ rfl (by simp only [Pt.encL_eq, List.map_cons, List.map_nil, Pt.enc_eq] <;> rfl) (by decide) (by decide) ?_
      intro a34
      refine Meets.nilRep 3 ?_
      refine (mode_Read_spec n v1 (It.mk (⟨#[109, 111, 100, 101]⟩) ByteArray.empty (Rw.mk 0 ByteArray.empty ([])) ([(Pt.mk 1 ByteArray.empty (⟨#[100, 111, 117, 98, 108, 101]⟩) 0 (Rw.mk 0 ByteArray.empty ([])) ([])), (Pt.mk 2 (⟨#[43]⟩) (⟨#[88]⟩) 0 (Rw.mk 0 ByteArray.empty ([])) ([])), (Pt.mk 2 (⟨#[45]⟩) (⟨#[89]⟩) 0 (Rw.mk 0 ByteArray.empty ([])) ([]))])) a8 c8 none 0 a34 3 _ h6).atR [1, 0, 2] rfl rfl rfl ?_
      rintro _ _ ⟨a35, c35, rfl, rfl⟩
      refine ⟨fun _ _ h => h, ?_⟩
      refine AtGuard.mk (fun h11 => ?_) (fun h11 => ?_)
      · replace hr := cond_f h11 hr
        obtain ⟨v12, h13, hr⟩ := bind_some hr
        obtain ⟨h14, h15⟩ := idx_some h13
        refine at_index ttOK 3 rfl rfl rfl rfl h14 (map_get (D.int .i64) h15) ?_
        refine AtGuard.mk (fun h16 => ?_) (fun h16 => ?_)
        · replace hr := cond_f h16 hr
          obtain ⟨v17, h18, hr⟩ := bind_some hr
          obtain ⟨h19, h20⟩ := idx_some h18
          refine at_index ttOK 3 rfl rfl rfl rfl h19 (map_get (D.int .i64) h20) ?_
          refine AtIf.mk (fun h21 => ?_) (fun h21 => ?_)
          · replace hr := cond_t h21 hr
            replace hr := Option.some.inj hr
            subst hr
            exact AtRet.pureG [] [] rfl rfl ⟨rfl, rfl⟩
          · replace hr := cond_f h21 hr
            obtain ⟨v22, h23, hr⟩ := bind_some hr
            obtain ⟨v26, h27, hr⟩ := bind_some hr
            refine ⟨?_, ?_⟩
            ·
              refine (W14_sample_spec n  _ h23).atR [] rfl rfl rfl ?_
              rintro _ _ ⟨a28, c28, rfl, rfl⟩
              refine ⟨fun _ _ h => h, ?_⟩
              refine at_buildG (n := 1) ttOK 32 [.agg [.int .i64 v5.1.family, .sl 1 (List.map (D.int .i64) v5.1.signs)]] (ds' := (Md.encL ([v5.1]))) rfl (by kernel_rfl) ⟨⟨rfl, rfl, rfl, ⟨[(.v (.int .i64 v5.1.family))], _, rfl, rfl, ⟨[(.v (.slice a35 ((List.map (D.int .i64) v5.1.signs).length) c35))], _, rfl, (.inl ⟨_, rfl, nth_mem (j := 3) rfl⟩), rfl⟩⟩⟩, trivial⟩ rfl (by simp only [Md.encL_eq, List.map_cons, List.map_nil, Md.enc_eq] <;> rfl) (by decide) (by decide) ?_
              intro a29
              refine (mode_Check_spec n v22 ([v5.1]) 4 a28 c28 a29 1 _ h27).atR [4, 5] rfl rfl rfl ?_
              rintro _ _ ⟨rfl, rfl⟩
              refine AtIf.mk (fun h30 => ?_) (fun h30 => ?_)
              · replace hr := cond_t h30 hr
                replace hr := Option.some.inj hr
                subst hr
                exact AtRet.pureG [] [] rfl rfl ⟨rfl, rfl⟩
              · replace hr := cond_f h30 hr
                replace hr := Option.some.inj hr
                subst hr
                exact AtRet.pureG [] [] rfl rfl ⟨rfl, rfl⟩
            ·
              refine at_buildG (n := 1) ttOK 32 [.agg [.int .i64 v5.1.family, .sl 1 (List.map (D.int .i64) v5.1.signs)]] (ds' := (Md.encL ([v5.1]))) rfl (by kernel_rfl) ⟨⟨rfl, rfl, rfl, ⟨[(.v (.int .i64 v5.1.family))], _, rfl, rfl, ⟨[(.v (.slice a35 ((List.map (D.int .i64) v5.1.signs).length) c35))], _, rfl, (.inl ⟨_, rfl, nth_mem (j := 3) rfl⟩), rfl⟩⟩⟩, trivial⟩ rfl (by simp only [Md.encL_eq, List.map_cons, List.map_nil, Md.enc_eq] <;> rfl) (by decide) (by decide) ?_
              intro a31
              refine (W14_sample_spec n  _ h23).atR [] rfl rfl rfl ?_
              rintro _ _ ⟨a32, c32, rfl, rfl⟩
              refine ⟨fun _ _ h => h, ?_⟩
              refine (mode_Check_spec n v22 ([v5.1]) 4 a32 c32 a31 1 _ h27).atR [5, 4] rfl rfl rfl ?_
              rintro _ _ ⟨rfl, rfl⟩
              refine AtIf.mk (fun h30 => ?_) (fun h30 => ?_)
              · replace hr := cond_t h30 hr
                replace hr := Option.some.inj hr
                subst hr
                exact AtRet.pureG [] [] rfl rfl ⟨rfl, rfl⟩
              · replace hr := cond_f h30 hr
                replace hr := Option.some.inj hr
                subst hr
                exact AtRet.pureG [] [] rfl rfl ⟨rfl, rfl⟩
        · replace hr := cond_t h16 hr
          refine AtIf.mk (fun _ => ?_) (fun h => tf h)
          replace hr := Option.some.inj hr
          subst hr
          exact AtRet.pureG [] [] rfl rfl ⟨rfl, rfl⟩
      · replace hr := cond_t h11 hr
        refine AtGuard.mk (fun h => tf h) (fun _ => ?_)
        refine AtIf.mk (fun _ => ?_) (fun h => tf h)
        replace hr := Option.some.inj hr
        subst hr
        exact AtRet.pureG [] [] rfl rfl ⟨rfl, rfl⟩
  refine ⟨?_, ?_⟩
  ·
    refine at_buildG (n := 3) ttOK 120 [.agg [.int .i64 1, .str ByteArray.empty, .str (⟨#[100, 111, 117, 98, 108, 101]⟩), .int .i64 0, .agg [.int .i64 0, .str ByteArray.empty, .sl 3 []], .sl 8 []], .agg [.int .i64 2, .str (⟨#[43]⟩), .str (⟨#[88]⟩), .int .i64 0, .agg [.int .i64 0, .str ByteArray.empty, .sl 3 []], .sl 8 []], .agg [.int .i64 2, .str (⟨#[45]⟩), .str (⟨#[89]⟩), .int .i64 0, .agg [.int .i64 0, .str ByteArray.empty, .sl 3 []], .sl 8 []]] (ds' := (Pt.encL ([(Pt.mk 1 ByteArray.empty (⟨#[100, 111, 117, 98, 108, 101]⟩) 0 (Rw.mk 0 ByteArray.empty ([])) ([])), (Pt.mk 2 (⟨#[43]⟩) (⟨#[88]⟩) 0 (Rw.mk 0 ByteArray.empty ([])) ([])), (Pt.mk 2 (⟨#[45]⟩) (⟨#[89]⟩) 0 (Rw.mk 0 ByteArray.empty ([])) ([]))]))) rfl (by kernel_rfl) ⟨⟨rfl, rfl, rfl, ⟨[(.v (.int .i64 1))], _, rfl, rfl, ⟨[(.v (.string ByteArray.empty))], _, rfl, rfl, ⟨[(.v (.string (⟨#[100, 111, 117, 98, 108, 101]⟩)))], _, rfl, rfl, ⟨[(.v (.int .i64 0))], _, rfl, rfl, ⟨[(.v (.int .i64 0)), (.v (.string ByteArray.empty)), (.v (.slice none 0 0))], _, rfl, ⟨[(.v (.int .i64 0))], _, rfl, rfl, ⟨[(.v (.string ByteArray.empty))], _, rfl, rfl, ⟨[(.v (.slice none 0 0))], _, rfl, (.inr ⟨rfl, rfl⟩), rfl⟩⟩⟩, ⟨[(.v (.slice none 0 0))], _, rfl, (.inr ⟨rfl, rfl⟩), rfl⟩⟩⟩⟩⟩⟩⟩, ⟨⟨rfl, rfl, rfl, ⟨[(.v (.int .i64 2))], _, rfl, rfl, ⟨[(.v (.string (⟨#[43]⟩)))], _, rfl, rfl, ⟨[(.v (.string (⟨#[88]⟩)))], _, rfl, rfl, ⟨[(.v (.int .i64 0))], _, rfl, rfl, ⟨[(.v (.int .i64 0)), (.v (.string ByteArray.empty)), (.v (.slice none 0 0))], _, rfl, ⟨[(.v (.int .i64 0))], _, rfl, rfl, ⟨[(.v (.string ByteArray.empty))], _, rfl, rfl, ⟨[(.v (.slice none 0 0))], _, rfl, (.inr ⟨rfl, rfl⟩), rfl⟩⟩⟩, ⟨[(.v (.slice none 0 0))], _, rfl, (.inr ⟨rfl, rfl⟩), rfl⟩⟩⟩⟩⟩⟩⟩, ⟨⟨rfl, rfl, rfl, ⟨[(.v (.int .i64 2))], _, rfl, rfl, ⟨[(.v (.string (⟨#[45]⟩)))], _, rfl, rfl, ⟨[(.v (.string (⟨#[89]⟩)))], _, rfl, rfl, ⟨[(.v (.int .i64 0))], _, rfl, rfl, ⟨[(.v (.int .i64 0)), (.v (.string ByteArray.empty)), (.v (.slice none 0 0))], _, rfl, ⟨[(.v (.int .i64 0))], _, rfl, rfl, ⟨[(.v (.string ByteArray.empty))], _, rfl, rfl, ⟨[(.v (.slice none 0 0))], _, rfl, (.inr ⟨rfl, rfl⟩), rfl⟩⟩⟩, ⟨[(.v (.slice none 0 0))], _, rfl, (.inr ⟨rfl, rfl⟩), rfl⟩⟩⟩⟩⟩⟩⟩, trivial⟩⟩⟩ rfl (by simp only [Pt.encL_eq, List.map_cons, List.map_nil, Pt.enc_eq] <;> rfl) (by decide) (by decide) ?_
    intro a36
    refine ⟨?_, ?_⟩
    ·
      refine (W14_sample_spec n  _ h2).atR [] rfl rfl rfl ?_
      rintro _ _ ⟨a37, c37, rfl, rfl⟩
      refine ⟨fun _ _ h => h, ?_⟩
      refine ⟨?_, ?_⟩
      ·
        refine Meets.nilRep 3 ?_
        refine (mode_Read_spec n v1 (It.mk (⟨#[109, 111, 100, 101]⟩) ByteArray.empty (Rw.mk 0 ByteArray.empty ([])) ([(Pt.mk 1 ByteArray.empty (⟨#[100, 111, 117, 98, 108, 101]⟩) 0 (Rw.mk 0 ByteArray.empty ([])) ([])), (Pt.mk 2 (⟨#[43]⟩) (⟨#[88]⟩) 0 (Rw.mk 0 ByteArray.empty ([])) ([])), (Pt.mk 2 (⟨#[45]⟩) (⟨#[89]⟩) 0 (Rw.mk 0 ByteArray.empty ([])) ([]))])) a37 c37 none 0 a36 3 _ h6).atR [2, 0, 1] rfl rfl rfl ?_
        rintro _ _ ⟨a38, c38, rfl, rfl⟩
        refine ⟨OwnKeptBut.append, ?_⟩
        refine ⟨fun _ _ h => h, ?_⟩
        refine AtGuard.mk (fun h11 => ?_) (fun h11 => ?_)
        · replace hr := cond_f h11 hr
          obtain ⟨v12, h13, hr⟩ := bind_some hr
          obtain ⟨h14, h15⟩ := idx_some h13
          refine at_index ttOK 3 rfl rfl rfl rfl h14 (map_get (D.int .i64) h15) ?_
          refine AtGuard.mk (fun h16 => ?_) (fun h16 => ?_)
          · replace hr := cond_f h16 hr
            obtain ⟨v17, h18, hr⟩ := bind_some hr
            obtain ⟨h19, h20⟩ := idx_some h18
            refine at_index ttOK 3 rfl rfl rfl rfl h19 (map_get (D.int .i64) h20) ?_
            refine AtIf.mk (fun h21 => ?_) (fun h21 => ?_)
            · replace hr := cond_t h21 hr
              replace hr := Option.some.inj hr
              subst hr
              exact AtRet.pureG [] [] rfl rfl ⟨rfl, rfl⟩
            · replace hr := cond_f h21 hr
              obtain ⟨v22, h23, hr⟩ := bind_some hr
              obtain ⟨v26, h27, hr⟩ := bind_some hr
              refine ⟨?_, ?_⟩
              ·
                refine (W14_sample_spec n  _ h23).atR [] rfl rfl rfl ?_
                rintro _ _ ⟨a28, c28, rfl, rfl⟩
                refine ⟨fun _ _ h => h, ?_⟩
                refine at_buildG (n := 1) ttOK 32 [.agg [.int .i64 v5.1.family, .sl 1 (List.map (D.int .i64) v5.1.signs)]] (ds' := (Md.encL ([v5.1]))) rfl (by kernel_rfl) ⟨⟨rfl, rfl, rfl, ⟨[(.v (.int .i64 v5.1.family))], _, rfl, rfl, ⟨[(.v (.slice a38 ((List.map (D.int .i64) v5.1.signs).length) c38))], _, rfl, (.inl ⟨_, rfl, nth_mem (j := 3) rfl⟩), rfl⟩⟩⟩, trivial⟩ rfl (by simp only [Md.encL_eq, List.map_cons, List.map_nil, Md.enc_eq] <;> rfl) (by decide) (by decide) ?_
                intro a29
                refine (mode_Check_spec n v22 ([v5.1]) 4 a28 c28 a29 1 _ h27).atR [4, 5] rfl rfl rfl ?_
                rintro _ _ ⟨rfl, rfl⟩
                refine AtIf.mk (fun h30 => ?_) (fun h30 => ?_)
                · replace hr := cond_t h30 hr
                  replace hr := Option.some.inj hr
                  subst hr
                  exact AtRet.pureG [] [] rfl rfl ⟨rfl, rfl⟩
                · replace hr := cond_f h30 hr
                  replace hr := Option.some.inj hr
                  subst hr
                  exact AtRet.pureG [] [] rfl rfl ⟨rfl, rfl⟩
              ·
                refine at_buildG (n := 1) ttOK 32 [.agg [.int .i64 v5.1.family, .sl 1 (List.map (D.int .i64) v5.1.signs)]] (ds' := (Md.encL ([v5.1]))) rfl (by kernel_rfl) ⟨⟨rfl, rfl, rfl, ⟨[(.v (.int .i64 v5.1.family))], _, rfl, rfl, ⟨[(.v (.slice a38 ((List.map (D.int .i64) v5.1.signs).length) c38))], _, rfl, (.inl ⟨_, rfl, nth_mem (j := 3) rfl⟩), rfl⟩⟩⟩, trivial⟩ rfl (by simp only [Md.encL_eq, List.map_cons, List.map_nil, Md.enc_eq] <;> rfl) (by decide) (by decide) ?_
                intro a31
                refine (W14_sample_spec n  _ h23).atR [] rfl rfl rfl ?_
                rintro _ _ ⟨a32, c32, rfl, rfl⟩
                refine ⟨fun _ _ h => h, ?_⟩
                refine (mode_Check_spec n v22 ([v5.1]) 4 a32 c32 a31 1 _ h27).atR [5, 4] rfl rfl rfl ?_
                rintro _ _ ⟨rfl, rfl⟩
                refine AtIf.mk (fun h30 => ?_) (fun h30 => ?_)
                · replace hr := cond_t h30 hr
                  replace hr := Option.some.inj hr
                  subst hr
                  exact AtRet.pureG [] [] rfl rfl ⟨rfl, rfl⟩
                · replace hr := cond_f h30 hr
                  replace hr := Option.some.inj hr
                  subst hr
                  exact AtRet.pureG [] [] rfl rfl ⟨rfl, rfl⟩
          · replace hr := cond_t h16 hr
            refine AtIf.mk (fun _ => ?_) (fun h => tf h)
            replace hr := Option.some.inj hr
            subst hr
            exact AtRet.pureG [] [] rfl rfl ⟨rfl, rfl⟩
        · replace hr := cond_t h11 hr
          refine AtGuard.mk (fun h => tf h) (fun _ => ?_)
          refine AtIf.mk (fun _ => ?_) (fun h => tf h)
          replace hr := Option.some.inj hr
          subst hr
          exact AtRet.pureG [] [] rfl rfl ⟨rfl, rfl⟩
      ·
        refine ⟨OwnKeptBut.append, ?_⟩
        refine Meets.nilRep 3 ?_
        refine (mode_Read_spec n v1 (It.mk (⟨#[109, 111, 100, 101]⟩) ByteArray.empty (Rw.mk 0 ByteArray.empty ([])) ([(Pt.mk 1 ByteArray.empty (⟨#[100, 111, 117, 98, 108, 101]⟩) 0 (Rw.mk 0 ByteArray.empty ([])) ([])), (Pt.mk 2 (⟨#[43]⟩) (⟨#[88]⟩) 0 (Rw.mk 0 ByteArray.empty ([])) ([])), (Pt.mk 2 (⟨#[45]⟩) (⟨#[89]⟩) 0 (Rw.mk 0 ByteArray.empty ([])) ([]))])) a37 c37 none 0 a36 3 _ h6).atR [2, 0, 1] rfl rfl rfl ?_
        rintro _ _ ⟨a39, c39, rfl, rfl⟩
        refine ⟨fun _ _ h => h, ?_⟩
        refine AtGuard.mk (fun h11 => ?_) (fun h11 => ?_)
        · replace hr := cond_f h11 hr
          obtain ⟨v12, h13, hr⟩ := bind_some hr
          obtain ⟨h14, h15⟩ := idx_some h13
          refine at_index ttOK 3 rfl rfl rfl rfl h14 (map_get (D.int .i64) h15) ?_
          refine AtGuard.mk (fun h16 => ?_) (fun h16 => ?_)
          · replace hr := cond_f h16 hr
            obtain ⟨v17, h18, hr⟩ := bind_some hr
            obtain ⟨h19, h20⟩ := idx_some h18
            refine at_index ttOK 3 rfl rfl rfl rfl h19 (map_get (D.int .i64) h20) ?_
            refine AtIf.mk (fun h21 => ?_) (fun h21 => ?_)
            · replace hr := cond_t h21 hr
              replace hr := Option.some.inj hr
              subst hr
              exact AtRet.pureG [] [] rfl rfl ⟨rfl, rfl⟩
            · replace hr := cond_f h21 hr
              obtain ⟨v22, h23, hr⟩ := bind_some hr
              obtain ⟨v26, h27, hr⟩ := bind_some hr
              refine ⟨?_, ?_⟩
              ·
                refine (W14_sample_spec n  _ h23).atR [] rfl rfl rfl ?_
                rintro _ _ ⟨a28, c28, rfl, rfl⟩
                refine ⟨fun _ _ h => h, ?_⟩
                refine at_buildG (n := 1) ttOK 32 [.agg [.int .i64 v5.1.family, .sl 1 (List.map (D.int .i64) v5.1.signs)]] (ds' := (Md.encL ([v5.1]))) rfl (by kernel_rfl) ⟨⟨rfl, rfl, rfl, ⟨[(.v (.int .i64 v5.1.family))], _, rfl, rfl, ⟨[(.v (.slice a39 ((List.map (D.int .i64) v5.1.signs).length) c39))], _, rfl, (.inl ⟨_, rfl, nth_mem (j := 3) rfl⟩), rfl⟩⟩⟩, trivial⟩ rfl (by simp only [Md.encL_eq, List.map_cons, List.map_nil, Md.enc_eq] <;> rfl) (by decide) (by decide) ?_
                intro a29
                refine (mode_Check_spec n v22 ([v5.1]) 4 a28 c28 a29 1 _ h27).atR [4, 5] rfl rfl rfl ?_
                rintro _ _ ⟨rfl, rfl⟩
                refine AtIf.mk (fun h30 => ?_) (fun h30 => ?_)
                · replace hr := cond_t h30 hr
                  replace hr := Option.some.inj hr
                  subst hr
                  exact AtRet.pureG [] [] rfl rfl ⟨rfl, rfl⟩
                · replace hr := cond_f h30 hr
                  replace hr := Option.some.inj hr
                  subst hr
                  exact AtRet.pureG [] [] rfl rfl ⟨rfl, rfl⟩
              ·
                refine at_buildG (n := 1) ttOK 32 [.agg [.int .i64 v5.1.family, .sl 1 (List.map (D.int .i64) v5.1.signs)]] (ds' := (Md.encL ([v5.1]))) rfl (by kernel_rfl) ⟨⟨rfl, rfl, rfl, ⟨[(.v (.int .i64 v5.1.family))], _, rfl, rfl, ⟨[(.v (.slice a39 ((List.map (D.int .i64) v5.1.signs).length) c39))], _, rfl, (.inl ⟨_, rfl, nth_mem (j := 3) rfl⟩), rfl⟩⟩⟩, trivial⟩ rfl (by simp only [Md.encL_eq, List.map_cons, List.map_nil, Md.enc_eq] <;> rfl) (by decide) (by decide) ?_
                intro a31
                refine (W14_sample_spec n  _ h23).atR [] rfl rfl rfl ?_
                rintro _ _ ⟨a32, c32, rfl, rfl⟩
                refine ⟨fun _ _ h => h, ?_⟩
                refine (mode_Check_spec n v22 ([v5.1]) 4 a32 c32 a31 1 _ h27).atR [5, 4] rfl rfl rfl ?_
                rintro _ _ ⟨rfl, rfl⟩
                refine AtIf.mk (fun h30 => ?_) (fun h30 => ?_)
                · replace hr := cond_t h30 hr
                  replace hr := Option.some.inj hr
                  subst hr
                  exact AtRet.pureG [] [] rfl rfl ⟨rfl, rfl⟩
                · replace hr := cond_f h30 hr
                  replace hr := Option.some.inj hr
                  subst hr
                  exact AtRet.pureG [] [] rfl rfl ⟨rfl, rfl⟩
          · replace hr := cond_t h16 hr
            refine AtIf.mk (fun _ => ?_) (fun h => tf h)
            replace hr := Option.some.inj hr
            subst hr
            exact AtRet.pureG [] [] rfl rfl ⟨rfl, rfl⟩
        · replace hr := cond_t h11 hr
          refine AtGuard.mk (fun h => tf h) (fun _ => ?_)
          refine AtIf.mk (fun _ => ?_) (fun h => tf h)
          replace hr := Option.some.inj hr
          subst hr
          exact AtRet.pureG [] [] rfl rfl ⟨rfl, rfl⟩
    ·
      refine ⟨OwnKeptBut.append, ?_⟩
      refine (W14_sample_spec n  _ h2).atR [] rfl rfl rfl ?_
      rintro _ _ ⟨a40, c40, rfl, rfl⟩
      refine ⟨fun _ _ h => h, ?_⟩
      refine Meets.nilRep 3 ?_
      refine (mode_Read_spec n v1 (It.mk (⟨#[109, 111, 100, 101]⟩) ByteArray.empty (Rw.mk 0 ByteArray.empty ([])) ([(Pt.mk 1 ByteArray.empty (⟨#[100, 111, 117, 98, 108, 101]⟩) 0 (Rw.mk 0 ByteArray.empty ([])) ([])), (Pt.mk 2 (⟨#[43]⟩) (⟨#[88]⟩) 0 (Rw.mk 0 ByteArray.empty ([])) ([])), (Pt.mk 2 (⟨#[45]⟩) (⟨#[89]⟩) 0 (Rw.mk 0 ByteArray.empty ([])) ([]))])) a40 c40 none 0 a36 3 _ h6).atR [2, 0, 1] rfl rfl rfl ?_
      rintro _ _ ⟨a41, c41, rfl, rfl⟩
      refine ⟨fun _ _ h => h, ?_⟩
      refine AtGuard.mk (fun h11 => ?_) (fun h11 => ?_)
      · replace hr := cond_f h11 hr
        obtain ⟨v12, h13, hr⟩ := bind_some hr
        obtain ⟨h14, h15⟩ := idx_some h13
        refine at_index ttOK 3 rfl rfl rfl rfl h14 (map_get (D.int .i64) h15) ?_
        refine AtGuard.mk (fun h16 => ?_) (fun h16 => ?_)
        · replace hr := cond_f h16 hr
          obtain ⟨v17, h18, hr⟩ := bind_some hr
          obtain ⟨h19, h20⟩ := idx_some h18
          refine at_index ttOK 3 rfl rfl rfl rfl h19 (map_get (D.int .i64) h20) ?_
          refine AtIf.mk (fun h21 => ?_) (fun h21 => ?_)
          · replace hr := cond_t h21 hr
            replace hr := Option.some.inj hr
            subst hr
            exact AtRet.pureG [] [] rfl rfl ⟨rfl, rfl⟩
          · replace hr := cond_f h21 hr
            obtain ⟨v22, h23, hr⟩ := bind_some hr
            obtain ⟨v26, h27, hr⟩ := bind_some hr
            refine ⟨?_, ?_⟩
            ·
              refine (W14_sample_spec n  _ h23).atR [] rfl rfl rfl ?_
              rintro _ _ ⟨a28, c28, rfl, rfl⟩
              refine ⟨fun _ _ h => h, ?_⟩
              refine at_buildG (n := 1) ttOK 32 [.agg [.int .i64 v5.1.family, .sl 1 (List.map (D.int .i64) v5.1.signs)]] (ds' := (Md.encL ([v5.1]))) rfl (by kernel_rfl) ⟨⟨rfl, rfl, rfl, ⟨[(.v (.int .i64 v5.1.family))], _, rfl, rfl, ⟨[(.v (.slice a41 ((List.map (D.int .i64) v5.1.signs).length) c41))], _, rfl, (.inl ⟨_, rfl, nth_mem (j := 3) rfl⟩), rfl⟩⟩⟩, trivial⟩ rfl (by simp only [Md.encL_eq, List.map_cons, List.map_nil, Md.enc_eq] <;> rfl) (by decide) (by decide) ?_
              intro a29
              refine (mode_Check_spec n v22 ([v5.1]) 4 a28 c28 a29 1 _ h27).atR [4, 5] rfl rfl rfl ?_
              rintro _ _ ⟨rfl, rfl⟩
              refine AtIf.mk (fun h30 => ?_) (fun h30 => ?_)
              · replace hr := cond_t h30 hr
                replace hr := Option.some.inj hr
                subst hr
                exact AtRet.pureG [] [] rfl rfl ⟨rfl, rfl⟩
              · replace hr := cond_f h30 hr
                replace hr := Option.some.inj hr
                subst hr
                exact AtRet.pureG [] [] rfl rfl ⟨rfl, rfl⟩
            ·
              refine at_buildG (n := 1) ttOK 32 [.agg [.int .i64 v5.1.family, .sl 1 (List.map (D.int .i64) v5.1.signs)]] (ds' := (Md.encL ([v5.1]))) rfl (by kernel_rfl) ⟨⟨rfl, rfl, rfl, ⟨[(.v (.int .i64 v5.1.family))], _, rfl, rfl, ⟨[(.v (.slice a41 ((List.map (D.int .i64) v5.1.signs).length) c41))], _, rfl, (.inl ⟨_, rfl, nth_mem (j := 3) rfl⟩), rfl⟩⟩⟩, trivial⟩ rfl (by simp only [Md.encL_eq, List.map_cons, List.map_nil, Md.enc_eq] <;> rfl) (by decide) (by decide) ?_
              intro a31
              refine (W14_sample_spec n  _ h23).atR [] rfl rfl rfl ?_
              rintro _ _ ⟨a32, c32, rfl, rfl⟩
              refine ⟨fun _ _ h => h, ?_⟩
              refine (mode_Check_spec n v22 ([v5.1]) 4 a32 c32 a31 1 _ h27).atR [5, 4] rfl rfl rfl ?_
              rintro _ _ ⟨rfl, rfl⟩
              refine AtIf.mk (fun h30 => ?_) (fun h30 => ?_)
              · replace hr := cond_t h30 hr
                replace hr := Option.some.inj hr
                subst hr
                exact AtRet.pureG [] [] rfl rfl ⟨rfl, rfl⟩
              · replace hr := cond_f h30 hr
                replace hr := Option.some.inj hr
                subst hr
                exact AtRet.pureG [] [] rfl rfl ⟨rfl, rfl⟩
        · replace hr := cond_t h16 hr
          refine AtIf.mk (fun _ => ?_) (fun h => tf h)
          replace hr := Option.some.inj hr
          subst hr
          exact AtRet.pureG [] [] rfl rfl ⟨rfl, rfl⟩
      · replace hr := cond_t h11 hr
        refine AtGuard.mk (fun h => tf h) (fun _ => ?_)
        refine AtIf.mk (fun _ => ?_) (fun h => tf h)
        replace hr := Option.some.inj hr
        subst hr
        exact AtRet.pureG [] [] rfl rfl ⟨rfl, rfl⟩
  ·
    refine ⟨OwnKeptBut.append, ?_⟩
    refine ⟨?_, ?_⟩
    ·
      refine (W14_sample_spec n  _ h2).atR [] rfl rfl rfl ?_
      rintro _ _ ⟨a42, c42, rfl, rfl⟩
      refine ⟨fun _ _ h => h, ?_⟩
      refine at_buildG (n := 3) ttOK 120 [.agg [.int .i64 1, .str ByteArray.empty, .str (⟨#[100, 111, 117, 98, 108, 101]⟩), .int .i64 0, .agg [.int .i64 0, .str ByteArray.empty, .sl 3 []], .sl 8 []], .agg [.int .i64 2, .str (⟨#[43]⟩), .str (⟨#[88]⟩), .int .i64 0, .agg [.int .i64 0, .str ByteArray.empty, .sl 3 []], .sl 8 []], .agg [.int .i64 2, .str (⟨#[45]⟩), .str (⟨#[89]⟩), .int .i64 0, .agg [.int .i64 0, .str ByteArray.empty, .sl 3 []], .sl 8 []]] (ds' := (Pt.encL ([(Pt.mk 1 ByteArray.empty (⟨#[100, 111, 117, 98, 108, 101]⟩) 0 (Rw.mk 0 ByteArray.empty ([])) ([])), (Pt.mk 2 (⟨#[43]⟩) (⟨#[88]⟩) 0 (Rw.mk 0 ByteArray.empty ([])) ([])), (Pt.mk 2 (⟨#[45]⟩) (⟨#[89]⟩) 0 (Rw.mk 0 ByteArray.empty ([])) ([]))]))) rfl (by kernel_rfl) ⟨⟨rfl, rfl, rfl, ⟨[(.v (.int .i64 1))], _, rfl, rfl, ⟨[(.v (.string ByteArray.empty))], _, rfl, rfl, ⟨[(.v (.string (⟨#[100, 111, 117, 98, 108, 101]⟩)))], _, rfl, rfl, ⟨[(.v (.int .i64 0))], _, rfl, rfl, ⟨[(.v (.int .i64 0)), (.v (.string ByteArray.empty)), (.v (.slice none 0 0))], _, rfl, ⟨[(.v (.int .i64 0))], _, rfl, rfl, ⟨[(.v (.string ByteArray.empty))], _, rfl, rfl, ⟨[(.v (.slice none 0 0))], _, rfl, (.inr ⟨rfl, rfl⟩), rfl⟩⟩⟩, ⟨[(.v (.slice none 0 0))], _, rfl, (.inr ⟨rfl, rfl⟩), rfl⟩⟩⟩⟩⟩⟩⟩, ⟨⟨rfl, rfl, rfl, ⟨[(.v (.int .i64 2))], _, rfl, rfl, ⟨[(.v (.string (⟨#[43]⟩)))], _, rfl, rfl, ⟨[(.v (.string (⟨#[88]⟩)))], _, rfl, rfl, ⟨[(.v (.int .i64 0))], _, rfl, rfl, ⟨[(.v (.int .i64 0)), (.v (.string ByteArray.empty)), (.v (.slice none 0 0))], _, rfl, ⟨[(.v (.int .i64 0))], _, rfl, rfl, ⟨[(.v (.string ByteArray.empty))], _, rfl, rfl, ⟨[(.v (.slice none 0 0))], _, rfl, (.inr ⟨rfl, rfl⟩), rfl⟩⟩⟩, ⟨[(.v (.slice none 0 0))], _, rfl, (.inr ⟨rfl, rfl⟩), rfl⟩⟩⟩⟩⟩⟩⟩, ⟨⟨rfl, rfl, rfl, ⟨[(.v (.int .i64 2))], _, rfl, rfl, ⟨[(.v (.string (⟨#[45]⟩)))], _, rfl, rfl, ⟨[(.v (.string (⟨#[89]⟩)))], _, rfl, rfl, ⟨[(.v (.int .i64 0))], _, rfl, rfl, ⟨[(.v (.int .i64 0)), (.v (.string ByteArray.empty)), (.v (.slice none 0 0))], _, rfl, ⟨[(.v (.int .i64 0))], _, rfl, rfl, ⟨[(.v (.string ByteArray.empty))], _, rfl, rfl, ⟨[(.v (.slice none 0 0))], _, rfl, (.inr ⟨rfl, rfl⟩), rfl⟩⟩⟩, ⟨[(.v (.slice none 0 0))], _, rfl, (.inr ⟨rfl, rfl⟩), rfl⟩⟩⟩⟩⟩⟩⟩, trivial⟩⟩⟩ rfl (by simp only [Pt.encL_eq, List.map_cons, List.map_nil, Pt.enc_eq] <;> rfl) (by decide) (by decide) ?_
      intro a43
      refine Meets.nilRep 3 ?_
      refine (mode_Read_spec n v1 (It.mk (⟨#[109, 111, 100, 101]⟩) ByteArray.empty (Rw.mk 0 ByteArray.empty ([])) ([(Pt.mk 1 ByteArray.empty (⟨#[100, 111, 117, 98, 108, 101]⟩) 0 (Rw.mk 0 ByteArray.empty ([])) ([])), (Pt.mk 2 (⟨#[43]⟩) (⟨#[88]⟩) 0 (Rw.mk 0 ByteArray.empty ([])) ([])), (Pt.mk 2 (⟨#[45]⟩) (⟨#[89]⟩) 0 (Rw.mk 0 ByteArray.empty ([])) ([]))])) a42 c42 none 0 a43 3 _ h6).atR [1, 0, 2] rfl rfl rfl ?_
      rintro _ _ ⟨a44, c44, rfl, rfl⟩
      refine ⟨fun _ _ h => h, ?_⟩
      refine AtGuard.mk (fun h11 => ?_) (fun h11 => ?_)
      · replace hr := cond_f h11 hr
        obtain ⟨v12, h13, hr⟩ := bind_some hr
        obtain ⟨h14, h15⟩ := idx_some h13
        refine at_index ttOK 3 rfl rfl rfl rfl h14 (map_get (D.int .i64) h15) ?_
        refine AtGuard.mk (fun h16 => ?_) (fun h16 => ?_)
        · replace hr := cond_f h16 hr
          obtain ⟨v17, h18, hr⟩ := bind_some hr
          obtain ⟨h19, h20⟩ := idx_some h18
          refine at_index ttOK 3 rfl rfl rfl rfl h19 (map_get (D.int .i64) h20) ?_
          refine AtIf.mk (fun h21 => ?_) (fun h21 => ?_)
          · replace hr := cond_t h21 hr
            replace hr := Option.some.inj hr
            subst hr
            exact AtRet.pureG [] [] rfl rfl ⟨rfl, rfl⟩
          · replace hr := cond_f h21 hr
            obtain ⟨v22, h23, hr⟩ := bind_some hr
            obtain ⟨v26, h27, hr⟩ := bind_some hr
            refine ⟨?_, ?_⟩
            ·
              refine (W14_sample_spec n  _ h23).atR [] rfl rfl rfl ?_
              rintro _ _ ⟨a28, c28, rfl, rfl⟩
              refine ⟨fun _ _ h => h, ?_⟩
              refine at_buildG (n := 1) ttOK 32 [.agg [.int .i64 v5.1.family, .sl 1 (List.map (D.int .i64) v5.1.signs)]] (ds' := (Md.encL ([v5.1]))) rfl (by kernel_rfl) ⟨⟨rfl, rfl, rfl, ⟨[(.v (.int .i64 v5.1.family))], _, rfl, rfl, ⟨[(.v (.slice a44 ((List.map (D.int .i64) v5.1.signs).length) c44))], _, rfl, (.inl ⟨_, rfl, nth_mem (j := 3) rfl⟩), rfl⟩⟩⟩, trivial⟩ rfl (by simp only [Md.encL_eq, List.map_cons, List.map_nil, Md.enc_eq] <;> rfl) (by decide) (by decide) ?_
              intro a29
              refine (mode_Check_spec n v22 ([v5.1]) 4 a28 c28 a29 1 _ h27).atR [4, 5] rfl rfl rfl ?_
              rintro _ _ ⟨rfl, rfl⟩
              refine AtIf.mk (fun h30 => ?_) (fun h30 => ?_)
              · replace hr := cond_t h30 hr
                replace hr := Option.some.inj hr
                subst hr
                exact AtRet.pureG [] [] rfl rfl ⟨rfl, rfl⟩
              · replace hr := cond_f h30 hr
                replace hr := Option.some.inj hr
                subst hr
                exact AtRet.pureG [] [] rfl rfl ⟨rfl, rfl⟩
            ·
              refine at_buildG (n := 1) ttOK 32 [.agg [.int .i64 v5.1.family, .sl 1 (List.map (D.int .i64) v5.1.signs)]] (ds' := (Md.encL ([v5.1]))) rfl (by kernel_rfl) ⟨⟨rfl, rfl, rfl, ⟨[(.v (.int .i64 v5.1.family))], _, rfl, rfl, ⟨[(.v (.slice a44 ((List.map (D.int .i64) v5.1.signs).length) c44))], _, rfl, (.inl ⟨_, rfl, nth_mem (j := 3) rfl⟩), rfl⟩⟩⟩, trivial⟩ rfl (by simp only [Md.encL_eq, List.map_cons, List.map_nil, Md.enc_eq] <;> rfl) (by decide) (by decide) ?_
              intro a31
              refine (W14_sample_spec n  _ h23).atR [] rfl rfl rfl ?_
              rintro _ _ ⟨a32, c32, rfl, rfl⟩
              refine ⟨fun _ _ h => h, ?_⟩
              refine (mode_Check_spec n v22 ([v5.1]) 4 a32 c32 a31 1 _ h27).atR [5, 4] rfl rfl rfl ?_
              rintro _ _ ⟨rfl, rfl⟩
              refine AtIf.mk (fun h30 => ?_) (fun h30 => ?_)
              · replace hr := cond_t h30 hr
                replace hr := Option.some.inj hr
                subst hr
                exact AtRet.pureG [] [] rfl rfl ⟨rfl, rfl⟩
              · replace hr := cond_f h30 hr
                replace hr := Option.some.inj hr
                subst hr
                exact AtRet.pureG [] [] rfl rfl ⟨rfl, rfl⟩
        · replace hr := cond_t h16 hr
          refine AtIf.mk (fun _ => ?_) (fun h => tf h)
          replace hr := Option.some.inj hr
          subst hr
          exact AtRet.pureG [] [] rfl rfl ⟨rfl, rfl⟩
      · replace hr := cond_t h11 hr
        refine AtGuard.mk (fun h => tf h) (fun _ => ?_)
        refine AtIf.mk (fun _ => ?_) (fun h => tf h)
        replace hr := Option.some.inj hr
        subst hr
        exact AtRet.pureG [] [] rfl rfl ⟨rfl, rfl⟩
    ·
      refine at_buildG (n := 3) ttOK 120 [.agg [.int .i64 1, .str ByteArray.empty, .str (⟨#[100, 111, 117, 98, 108, 101]⟩), .int .i64 0, .agg [.int .i64 0, .str ByteArray.empty, .sl 3 []], .sl 8 []], .agg [.int .i64 2, .str (⟨#[43]⟩), .str (⟨#[88]⟩), .int .i64 0, .agg [.int .i64 0, .str ByteArray.empty, .sl 3 []], .sl 8 []], .agg [.int .i64 2, .str (⟨#[45]⟩), .str (⟨#[89]⟩), .int .i64 0, .agg [.int .i64 0, .str ByteArray.empty, .sl 3 []], .sl 8 []]] (ds' := (Pt.encL ([(Pt.mk 1 ByteArray.empty (⟨#[100, 111, 117, 98, 108, 101]⟩) 0 (Rw.mk 0 ByteArray.empty ([])) ([])), (Pt.mk 2 (⟨#[43]⟩) (⟨#[88]⟩) 0 (Rw.mk 0 ByteArray.empty ([])) ([])), (Pt.mk 2 (⟨#[45]⟩) (⟨#[89]⟩) 0 (Rw.mk 0 ByteArray.empty ([])) ([]))]))) rfl (by kernel_rfl) ⟨⟨rfl, rfl, rfl, ⟨[(.v (.int .i64 1))], _, rfl, rfl, ⟨[(.v (.string ByteArray.empty))], _, rfl, rfl, ⟨[(.v (.string (⟨#[100, 111, 117, 98, 108, 101]⟩)))], _, rfl, rfl, ⟨[(.v (.int .i64 0))], _, rfl, rfl, ⟨[(.v (.int .i64 0)), (.v (.string ByteArray.empty)), (.v (.slice none 0 0))], _, rfl, ⟨[(.v (.int .i64 0))], _, rfl, rfl, ⟨[(.v (.string ByteArray.empty))], _, rfl, rfl, ⟨[(.v (.slice none 0 0))], _, rfl, (.inr ⟨rfl, rfl⟩), rfl⟩⟩⟩, ⟨[(.v (.slice none 0 0))], _, rfl, (.inr ⟨rfl, rfl⟩), rfl⟩⟩⟩⟩⟩⟩⟩, ⟨⟨rfl, rfl, rfl, ⟨[(.v (.int .i64 2))], _, rfl, rfl, ⟨[(.v (.string (⟨#[43]⟩)))], _, rfl, rfl, ⟨[(.v (.string (⟨#[88]⟩)))], _, rfl, rfl, ⟨[(.v (.int .i64 0))], _, rfl, rfl, ⟨[(.v (.int .i64 0)), (.v (.string ByteArray.empty)), (.v (.slice none 0 0))], _, rfl, ⟨[(.v (.int .i64 0))], _, rfl, rfl, ⟨[(.v (.string ByteArray.empty))], _, rfl, rfl, ⟨[(.v (.slice none 0 0))], _, rfl, (.inr ⟨rfl, rfl⟩), rfl⟩⟩⟩, ⟨[(.v (.slice none 0 0))], _, rfl, (.inr ⟨rfl, rfl⟩), rfl⟩⟩⟩⟩⟩⟩⟩, ⟨⟨rfl, rfl, rfl, ⟨[(.v (.int .i64 2))], _, rfl, rfl, ⟨[(.v (.string (⟨#[45]⟩)))], _, rfl, rfl, ⟨[(.v (.string (⟨#[89]⟩)))], _, rfl, rfl, ⟨[(.v (.int .i64 0))], _, rfl, rfl, ⟨[(.v (.int .i64 0)), (.v (.string ByteArray.empty)), (.v (.slice none 0 0))], _, rfl, ⟨[(.v (.int .i64 0))], _, rfl, rfl, ⟨[(.v (.string ByteArray.empty))], _, rfl, rfl, ⟨[(.v (.slice none 0 0))], _, rfl, (.inr ⟨rfl, rfl⟩), rfl⟩⟩⟩, ⟨[(.v (.slice none 0 0))], _, rfl, (.inr ⟨rfl, rfl⟩), rfl⟩⟩⟩⟩⟩⟩⟩, trivial⟩⟩⟩ rfl (by simp only [Pt.encL_eq, List.map_cons, List.map_nil, Pt.enc_eq] <;> rfl) (by decide) (by decide) ?_
      intro a45
      refine (W14_sample_spec n  _ h2).atR [] rfl rfl rfl ?_
      rintro _ _ ⟨a46, c46, rfl, rfl⟩
      refine ⟨fun _ _ h => h, ?_⟩
      refine Meets.nilRep 3 ?_
      refine (mode_Read_spec n v1 (It.mk (⟨#[109, 111, 100, 101]⟩) ByteArray.empty (Rw.mk 0 ByteArray.empty ([])) ([(Pt.mk 1 ByteArray.empty (⟨#[100, 111, 117, 98, 108, 101]⟩) 0 (Rw.mk 0 ByteArray.empty ([])) ([])), (Pt.mk 2 (⟨#[43]⟩) (⟨#[88]⟩) 0 (Rw.mk 0 ByteArray.empty ([])) ([])), (Pt.mk 2 (⟨#[45]⟩) (⟨#[89]⟩) 0 (Rw.mk 0 ByteArray.empty ([])) ([]))])) a46 c46 none 0 a45 3 _ h6).atR [2, 0, 1] rfl rfl rfl ?_
      rintro _ _ ⟨a47, c47, rfl, rfl⟩
      refine ⟨fun _ _ h => h, ?_⟩
      refine AtGuard.mk (fun h11 => ?_) (fun h11 => ?_)
      · replace hr := cond_f h11 hr
        obtain ⟨v12, h13, hr⟩ := bind_some hr
        obtain ⟨h14, h15⟩ := idx_some h13
        refine at_index ttOK 3 rfl rfl rfl rfl h14 (map_get (D.int .i64) h15) ?_
        refine AtGuard.mk (fun h16 => ?_) (fun h16 => ?_)
        · replace hr := cond_f h16 hr
          obtain ⟨v17, h18, hr⟩ := bind_some hr
          obtain ⟨h19, h20⟩ := idx_some h18
          refine at_index ttOK 3 rfl rfl rfl rfl h19 (map_get (D.int .i64) h20) ?_
          refine AtIf.mk (fun h21 => ?_) (fun h21 => ?_)
          · replace hr := cond_t h21 hr
            replace hr := Option.some.inj hr
            subst hr
            exact AtRet.pureG [] [] rfl rfl ⟨rfl, rfl⟩
          · replace hr := cond_f h21 hr
            obtain ⟨v22, h23, hr⟩ := bind_some hr
            obtain ⟨v26, h27, hr⟩ := bind_some hr
            refine ⟨?_, ?_⟩
            ·
              refine (W14_sample_spec n  _ h23).atR [] rfl rfl rfl ?_
              rintro _ _ ⟨a28, c28, rfl, rfl⟩
              refine ⟨fun _ _ h => h, ?_⟩
              refine at_buildG (n := 1) ttOK 32 [.agg [.int .i64 v5.1.family, .sl 1 (List.map (D.int .i64) v5.1.signs)]] (ds' := (Md.encL ([v5.1]))) rfl (by kernel_rfl) ⟨⟨rfl, rfl, rfl, ⟨[(.v (.int .i64 v5.1.family))], _, rfl, rfl, ⟨[(.v (.slice a47 ((List.map (D.int .i64) v5.1.signs).length) c47))], _, rfl, (.inl ⟨_, rfl, nth_mem (j := 3) rfl⟩), rfl⟩⟩⟩, trivial⟩ rfl (by simp only [Md.encL_eq, List.map_cons, List.map_nil, Md.enc_eq] <;> rfl) (by decide) (by decide) ?_
              intro a29
              refine (mode_Check_spec n v22 ([v5.1]) 4 a28 c28 a29 1 _ h27).atR [4, 5] rfl rfl rfl ?_
              rintro _ _ ⟨rfl, rfl⟩
              refine AtIf.mk (fun h30 => ?_) (fun h30 => ?_)
              · replace hr := cond_t h30 hr
                replace hr := Option.some.inj hr
                subst hr
                exact AtRet.pureG [] [] rfl rfl ⟨rfl, rfl⟩
              · replace hr := cond_f h30 hr
                replace hr := Option.some.inj hr
                subst hr
                exact AtRet.pureG [] [] rfl rfl ⟨rfl, rfl⟩
            ·
              refine at_buildG (n := 1) ttOK 32 [.agg [.int .i64 v5.1.family, .sl 1 (List.map (D.int .i64) v5.1.signs)]] (ds' := (Md.encL ([v5.1]))) rfl (by kernel_rfl) ⟨⟨rfl, rfl, rfl, ⟨[(.v (.int .i64 v5.1.family))], _, rfl, rfl, ⟨[(.v (.slice a47 ((List.map (D.int .i64) v5.1.signs).length) c47))], _, rfl, (.inl ⟨_, rfl, nth_mem (j := 3) rfl⟩), rfl⟩⟩⟩, trivial⟩ rfl (by simp only [Md.encL_eq, List.map_cons, List.map_nil, Md.enc_eq] <;> rfl) (by decide) (by decide) ?_
              intro a31
              refine (W14_sample_spec n  _ h23).atR [] rfl rfl rfl ?_
              rintro _ _ ⟨a32, c32, rfl, rfl⟩
              refine ⟨fun _ _ h => h, ?_⟩
              refine (mode_Check_spec n v22 ([v5.1]) 4 a32 c32 a31 1 _ h27).atR [5, 4] rfl rfl rfl ?_
              rintro _ _ ⟨rfl, rfl⟩
              refine AtIf.mk (fun h30 => ?_) (fun h30 => ?_)
              · replace hr := cond_t h30 hr
                replace hr := Option.some.inj hr
                subst hr
                exact AtRet.pureG [] [] rfl rfl ⟨rfl, rfl⟩
              · replace hr := cond_f h30 hr
                replace hr := Option.some.inj hr
                subst hr
                exact AtRet.pureG [] [] rfl rfl ⟨rfl, rfl⟩
        · replace hr := cond_t h16 hr
          refine AtIf.mk (fun _ => ?_) (fun h => tf h)
          replace hr := Option.some.inj hr
          subst hr
          exact AtRet.pureG [] [] rfl rfl ⟨rfl, rfl⟩
      · replace hr := cond_t h11 hr
        refine AtGuard.mk (fun h => tf h) (fun _ => ?_)
        refine AtIf.mk (fun _ => ?_) (fun h => tf h)
        replace hr := Option.some.inj hr
        subst hr
        exact AtRet.pureG [] [] rfl rfl ⟨rfl, rfl⟩
def W14_ModeItems : Nat → (List Dc) → (List Md) → Int → Option (Bool)
  | 0, _, _, _ => none
  | n + 1, v1, v3, v5 =>
    cond (decide ((0 : Int) ≤ (0 : Int) ∧ (0 : Int) ≤ (if 50 < ((Md.encL v3).length : Int) then 50 else ((Md.encL v3).length : Int)) ∧ (if 50 < ((Md.encL v3).length : Int) then 50 else ((Md.encL v3).length : Int)) ≤ ((Md.encL v3).length : Int))) (
    (W14_valid n v1).bind (fun v8 =>
    cond ((!v8) || (((Md.encL (v3.take (if 50 < ((Md.encL v3).length : Int) then 50 else ((Md.encL v3).length : Int)).toNat)).length : Int) == 0)) (
    (W14_awake n ).bind (fun v11 =>
    some (v11))) (
    (idx (v3.take (if 50 < ((Md.encL v3).length : Int) then 50 else ((Md.encL v3).length : Int)).toNat) 0).bind (fun v13 =>
    (mode_Item n v1 v13).bind (fun v18 =>
    (mode_Of n v1 (v3.take (if 50 < ((Md.encL v3).length : Int) then 50 else ((Md.encL v3).length : Int)).toNat) v5).bind (fun v22 =>
    (idx (v3.take (if 50 < ((Md.encL v3).length : Int) then 50 else ((Md.encL v3).length : Int)).toNat) 0).bind (fun v25 =>
    (R14_Right n v1 v25).bind (fun v30 =>
    cond v30 (
    (idx (v3.take (if 50 < ((Md.encL v3).length : Int) then 50 else ((Md.encL v3).length : Int)).toNat) 0).bind (fun v33 =>
    (R14_Item n v1 v33).bind (fun v38 =>
    cond v38.2 (
    (R02_SameItem n v18.1 v38.1).bind (fun v43 =>
    cond ((!v43) || (v18.2 != 0)) (
    some (false)) (
    cond (!v38.2) (
    (R02_SameItem n v18.1 (It.mk ByteArray.empty ByteArray.empty (Rw.mk 0 ByteArray.empty ([])) ([]))).bind (fun v47 =>
    cond ((!v47) || (v18.2 != 2)) (
    some (false)) (
    (R14_Modes n v1 (v3.take (if 50 < ((Md.encL v3).length : Int) then 50 else ((Md.encL v3).length : Int)).toNat)).bind (fun v50 =>
    cond (!v50) (
    (W14_same n v22.1 (Md.mk 0 ([]))).bind (fun v53 =>
    cond (v53 && (v22.2 == 2)) (
    (W14_awake n ).bind (fun v56 =>
    some (v56))) (
    some (false)))) (
    (R14_Find n (v3.take (if 50 < ((Md.encL v3).length : Int) then 50 else ((Md.encL v3).length : Int)).toNat) v5).bind (fun v58 =>
    cond (decide (v58 < 0)) (
    (W14_same n v22.1 (Md.mk 0 ([]))).bind (fun v61 =>
    cond (v61 && (v22.2 == 6)) (
    (W14_awake n ).bind (fun v64 =>
    some (v64))) (
    some (false)))) (
    (idx (v3.take (if 50 < ((Md.encL v3).length : Int) then 50 else ((Md.encL v3).length : Int)).toNat) v58).bind (fun v66 =>
    (W14_same n v22.1 v66).bind (fun v71 =>
    cond (v71 && (v22.2 == 0)) (
    (W14_awake n ).bind (fun v74 =>
    some (v74))) (
    some (false))))))))))) (
    (R14_Modes n v1 (v3.take (if 50 < ((Md.encL v3).length : Int) then 50 else ((Md.encL v3).length : Int)).toNat)).bind (fun v76 =>
    cond (!v76) (
    (W14_same n v22.1 (Md.mk 0 ([]))).bind (fun v79 =>
    cond (v79 && (v22.2 == 2)) (
    (W14_awake n ).bind (fun v82 =>
    some (v82))) (
    some (false)))) (
    (R14_Find n (v3.take (if 50 < ((Md.encL v3).length : Int) then 50 else ((Md.encL v3).length : Int)).toNat) v5).bind (fun v84 =>
    cond (decide (v84 < 0)) (
    (W14_same n v22.1 (Md.mk 0 ([]))).bind (fun v87 =>
    cond (v87 && (v22.2 == 6)) (
    (W14_awake n ).bind (fun v90 =>
    some (v90))) (
    some (false)))) (
    (idx (v3.take (if 50 < ((Md.encL v3).length : Int) then 50 else ((Md.encL v3).length : Int)).toNat) v84).bind (fun v92 =>
    (W14_same n v22.1 v92).bind (fun v97 =>
    cond (v97 && (v22.2 == 0)) (
    (W14_awake n ).bind (fun v100 =>
    some (v100))) (
    some (false)))))))))))) (
    cond (!v38.2) (
    (R02_SameItem n v18.1 (It.mk ByteArray.empty ByteArray.empty (Rw.mk 0 ByteArray.empty ([])) ([]))).bind (fun v103 =>
    cond ((!v103) || (v18.2 != 2)) (
    some (false)) (
    (R14_Modes n v1 (v3.take (if 50 < ((Md.encL v3).length : Int) then 50 else ((Md.encL v3).length : Int)).toNat)).bind (fun v106 =>
    cond (!v106) (
    (W14_same n v22.1 (Md.mk 0 ([]))).bind (fun v109 =>
    cond (v109 && (v22.2 == 2)) (
    (W14_awake n ).bind (fun v112 =>
    some (v112))) (
    some (false)))) (
    (R14_Find n (v3.take (if 50 < ((Md.encL v3).length : Int) then 50 else ((Md.encL v3).length : Int)).toNat) v5).bind (fun v114 =>
    cond (decide (v114 < 0)) (
    (W14_same n v22.1 (Md.mk 0 ([]))).bind (fun v117 =>
    cond (v117 && (v22.2 == 6)) (
    (W14_awake n ).bind (fun v120 =>
    some (v120))) (
    some (false)))) (
    (idx (v3.take (if 50 < ((Md.encL v3).length : Int) then 50 else ((Md.encL v3).length : Int)).toNat) v114).bind (fun v122 =>
    (W14_same n v22.1 v122).bind (fun v127 =>
    cond (v127 && (v22.2 == 0)) (
    (W14_awake n ).bind (fun v130 =>
    some (v130))) (
    some (false))))))))))) (
    (R14_Modes n v1 (v3.take (if 50 < ((Md.encL v3).length : Int) then 50 else ((Md.encL v3).length : Int)).toNat)).bind (fun v132 =>
    cond (!v132) (
    (W14_same n v22.1 (Md.mk 0 ([]))).bind (fun v135 =>
    cond (v135 && (v22.2 == 2)) (
    (W14_awake n ).bind (fun v138 =>
    some (v138))) (
    some (false)))) (
    (R14_Find n (v3.take (if 50 < ((Md.encL v3).length : Int) then 50 else ((Md.encL v3).length : Int)).toNat) v5).bind (fun v140 =>
    cond (decide (v140 < 0)) (
    (W14_same n v22.1 (Md.mk 0 ([]))).bind (fun v143 =>
    cond (v143 && (v22.2 == 6)) (
    (W14_awake n ).bind (fun v146 =>
    some (v146))) (
    some (false)))) (
    (idx (v3.take (if 50 < ((Md.encL v3).length : Int) then 50 else ((Md.encL v3).length : Int)).toNat) v140).bind (fun v148 =>
    (W14_same n v22.1 v148).bind (fun v153 =>
    cond (v153 && (v22.2 == 0)) (
    (W14_awake n ).bind (fun v156 =>
    some (v156))) (
    some (false))))))))))))) (
    cond v30 (
    (R02_SameItem n v18.1 (It.mk ByteArray.empty ByteArray.empty (Rw.mk 0 ByteArray.empty ([])) ([]))).bind (fun v159 =>
    cond ((!v159) || (v18.2 != 0)) (
    some (false)) (
    cond (!v30) (
    (R02_SameItem n v18.1 (It.mk ByteArray.empty ByteArray.empty (Rw.mk 0 ByteArray.empty ([])) ([]))).bind (fun v163 =>
    cond ((!v163) || (v18.2 != 2)) (
    some (false)) (
    (R14_Modes n v1 (v3.take (if 50 < ((Md.encL v3).length : Int) then 50 else ((Md.encL v3).length : Int)).toNat)).bind (fun v166 =>
    cond (!v166) (
    (W14_same n v22.1 (Md.mk 0 ([]))).bind (fun v169 =>
    cond (v169 && (v22.2 == 2)) (
    (W14_awake n ).bind (fun v172 =>
    some (v172))) (
    some (false)))) (
    (R14_Find n (v3.take (if 50 < ((Md.encL v3).length : Int) then 50 else ((Md.encL v3).length : Int)).toNat) v5).bind (fun v174 =>
    cond (decide (v174 < 0)) (
    (W14_same n v22.1 (Md.mk 0 ([]))).bind (fun v177 =>
    cond (v177 && (v22.2 == 6)) (
    (W14_awake n ).bind (fun v180 =>
    some (v180))) (
    some (false)))) (
    (idx (v3.take (if 50 < ((Md.encL v3).length : Int) then 50 else ((Md.encL v3).length : Int)).toNat) v174).bind (fun v182 =>
    (W14_same n v22.1 v182).bind (fun v187 =>
    cond (v187 && (v22.2 == 0)) (
    (W14_awake n ).bind (fun v190 =>
    some (v190))) (
    some (false))))))))))) (
    (R14_Modes n v1 (v3.take (if 50 < ((Md.encL v3).length : Int) then 50 else ((Md.encL v3).length : Int)).toNat)).bind (fun v192 =>
    cond (!v192) (
    (W14_same n v22.1 (Md.mk 0 ([]))).bind (fun v195 =>
    cond (v195 && (v22.2 == 2)) (
    (W14_awake n ).bind (fun v198 =>
    some (v198))) (
    some (false)))) (
    (R14_Find n (v3.take (if 50 < ((Md.encL v3).length : Int) then 50 else ((Md.encL v3).length : Int)).toNat) v5).bind (fun v200 =>
    cond (decide (v200 < 0)) (
    (W14_same n v22.1 (Md.mk 0 ([]))).bind (fun v203 =>
    cond (v203 && (v22.2 == 6)) (
    (W14_awake n ).bind (fun v206 =>
    some (v206))) (
    some (false)))) (
    (idx (v3.take (if 50 < ((Md.encL v3).length : Int) then 50 else ((Md.encL v3).length : Int)).toNat) v200).bind (fun v208 =>
    (W14_same n v22.1 v208).bind (fun v213 =>
    cond (v213 && (v22.2 == 0)) (
    (W14_awake n ).bind (fun v216 =>
    some (v216))) (
    some (false)))))))))))) (
    cond (!v30) (
    (R02_SameItem n v18.1 (It.mk ByteArray.empty ByteArray.empty (Rw.mk 0 ByteArray.empty ([])) ([]))).bind (fun v219 =>
    cond ((!v219) || (v18.2 != 2)) (
    some (false)) (
    (R14_Modes n v1 (v3.take (if 50 < ((Md.encL v3).length : Int) then 50 else ((Md.encL v3).length : Int)).toNat)).bind (fun v222 =>
    cond (!v222) (
    (W14_same n v22.1 (Md.mk 0 ([]))).bind (fun v225 =>
    cond (v225 && (v22.2 == 2)) (
    (W14_awake n ).bind (fun v228 =>
    some (v228))) (
    some (false)))) (
    (R14_Find n (v3.take (if 50 < ((Md.encL v3).length : Int) then 50 else ((Md.encL v3).length : Int)).toNat) v5).bind (fun v230 =>
    cond (decide (v230 < 0)) (
    (W14_same n v22.1 (Md.mk 0 ([]))).bind (fun v233 =>
    cond (v233 && (v22.2 == 6)) (
    (W14_awake n ).bind (fun v236 =>
    some (v236))) (
    some (false)))) (
    (idx (v3.take (if 50 < ((Md.encL v3).length : Int) then 50 else ((Md.encL v3).length : Int)).toNat) v230).bind (fun v238 =>
    (W14_same n v22.1 v238).bind (fun v243 =>
    cond (v243 && (v22.2 == 0)) (
    (W14_awake n ).bind (fun v246 =>
    some (v246))) (
    some (false))))))))))) (
    (R14_Modes n v1 (v3.take (if 50 < ((Md.encL v3).length : Int) then 50 else ((Md.encL v3).length : Int)).toNat)).bind (fun v248 =>
    cond (!v248) (
    (W14_same n v22.1 (Md.mk 0 ([]))).bind (fun v251 =>
    cond (v251 && (v22.2 == 2)) (
    (W14_awake n ).bind (fun v254 =>
    some (v254))) (
    some (false)))) (
    (R14_Find n (v3.take (if 50 < ((Md.encL v3).length : Int) then 50 else ((Md.encL v3).length : Int)).toNat) v5).bind (fun v256 =>
    cond (decide (v256 < 0)) (
    (W14_same n v22.1 (Md.mk 0 ([]))).bind (fun v259 =>
    cond (v259 && (v22.2 == 6)) (
    (W14_awake n ).bind (fun v262 =>
    some (v262))) (
    some (false)))) (
    (idx (v3.take (if 50 < ((Md.encL v3).length : Int) then 50 else ((Md.encL v3).length : Int)).toNat) v256).bind (fun v264 =>
    (W14_same n v22.1 v264).bind (fun v269 =>
    cond (v269 && (v22.2 == 0)) (
    (W14_awake n ).bind (fun v272 =>
    some (v272))) (
    some (false))))))))))))))))))) none
theorem W14_ModeItems_spec (n : Nat) (v1 : (List Dc)) (v3 : (List Md)) (v5 : Int) (a2 : Option Addr) (c2 : Nat) (a4 : Option Addr) (c4 : Nat) (r : Bool) (hr : W14_ModeItems n v1 v3 v5 = some r) : Pure Tryz.prog (.val (.fn (.func 4) [] [])) [(.v (.slice a2 ((Dc.encL v1).length) c2)), (.v (.slice a4 ((Md.encL v3).length) c4)), (.v (.int .i64 v5))] [(.slice a2 ((Dc.encL v1).length) c2, .sl 6 (Dc.encL v1)), (.slice a4 ((Md.encL v3).length) c4, .sl 2 (Md.encL v3))] (fun r' out => r' = (.v (.bool r)) ∧ out = []) := by
  rcases n with _ | n
  · exact no_some hr
  rw [W14_ModeItems.eq_2] at hr
  refine spec_of_body (N := 125) (m := 0) (dt := drawsOf [(17, .node [0, 1, 2, 3, 4] [(5, .node [6, 7, 8, 9, 10] [(11, .leaf [12, 13])])], [5, 11], [])]) [] ttOK Tryz.func4 rfl Tryz.call4 Tryz.ntmps4 rfl rfl rfl mixed (by kernel_rfl) ?_
  refine at_min ?_
  obtain ⟨h6, hr⟩ := cond_need hr
  refine at_sliceG ttOK 1 0 (if 50 < ((Md.encL v3).length : Int) then 50 else ((Md.encL v3).length : Int)) (ds' := (Md.encL (v3.take (if 50 < ((Md.encL v3).length : Int) then 50 else ((Md.encL v3).length : Int)).toNat))) rfl rfl rfl (.inr ⟨rfl, rfl⟩) (.inl ⟨_, rfl⟩) h6 (by simp only [Md.encL_eq]; exact sl_h ..) ?_
  intro a7 c7
  obtain ⟨v8, h9, hr⟩ := bind_some hr
  refine (W14_valid_spec n v1 a2 c2 _ h9).atR [0] rfl rfl rfl ?_
  rintro _ _ ⟨rfl, rfl⟩
  refine AtIf.mk (fun h10 => ?_) (fun h10 => ?_)
  · replace hr := cond_t h10 hr
    obtain ⟨v11, h12, hr⟩ := bind_some hr
    refine (W14_awake_spec n  _ h12).atR [] rfl rfl rfl ?_
    rintro _ _ ⟨rfl, rfl⟩
    replace hr := Option.some.inj hr
    subst hr
    exact AtRet.pureG [] [] rfl rfl ⟨rfl, rfl⟩
  · replace hr := cond_f h10 hr
    obtain ⟨v13, h14, hr⟩ := bind_some hr
    obtain ⟨h15, h16⟩ := idx_some h14
    refine at_index ttOK 2 rfl rfl rfl rfl h15 (Md.encL_get h16) ?_
    intro a17 c17 _ _
    obtain ⟨v18, h19, hr⟩ := bind_some hr
    refine (mode_Item_spec n v1 v13 a2 c2 a17 c17 _ h19).atR [0, 3] rfl rfl rfl ?_
    rintro _ _ ⟨a20, c20, a21, c21, rfl, rfl⟩
    obtain ⟨v22, h23, hr⟩ := bind_some hr
    refine (mode_Of_spec n v1 (v3.take (if 50 < ((Md.encL v3).length : Int) then 50 else ((Md.encL v3).length : Int)).toNat) v5 a2 c2 a7 c7 _ h23).atR [0, 2] rfl rfl rfl ?_
    rintro _ _ ⟨a24, c24, rfl, rfl⟩
    obtain ⟨v25, h26, hr⟩ := bind_some hr
    obtain ⟨h27, h28⟩ := idx_some h26
    refine at_index ttOK 2 rfl rfl rfl rfl h27 (Md.encL_get h28) ?_
    intro a29 c29 _ _
    obtain ⟨v30, h31, hr⟩ := bind_some hr
    refine (R14_Right_spec n v1 v25 a2 c2 a29 c29 _ h31).atR [0, 7] rfl rfl rfl ?_
    rintro _ _ ⟨rfl, rfl⟩
    refine AtIf.mk (fun h32 => ?_) (fun h32 => ?_)
    · replace hr := cond_t h32 hr
      obtain ⟨v33, h34, hr⟩ := bind_some hr
      obtain ⟨h35, h36⟩ := idx_some h34
      refine at_index ttOK 2 rfl rfl rfl rfl h35 (Md.encL_get h36) ?_
      intro a37 c37 _ _
      obtain ⟨v38, h39, hr⟩ := bind_some hr
      refine (R14_Item_spec n v1 v33 a2 c2 a37 c37 _ h39).atR [0, 8] rfl rfl rfl ?_
      rintro _ _ ⟨a40, c40, a41, c41, rfl, rfl⟩
      refine AtGuard.mk (fun h42 => ?_) (fun h42 => ?_)
      · replace hr := cond_t h42 hr
        obtain ⟨v43, h44, hr⟩ := bind_some hr
        refine (R02_SameItem_spec n v18.1 v38.1 a20 c20 a21 c21 a40 c40 a41 c41 _ h44).atR [4, 5, 9, 10] rfl rfl rfl ?_
        rintro _ _ ⟨rfl, rfl⟩
        refine AtGuard.mk (fun h45 => ?_) (fun h45 => ?_)
        · replace hr := cond_f h45 hr
          refine AtGuard.mk (fun h46 => ?_) (fun h46 => ?_)
          · replace hr := cond_t h46 hr
            obtain ⟨v47, h48, hr⟩ := bind_some hr
            refine Meets.nilRep 3 ?_
            refine Meets.nilRep 8 ?_
            refine (R02_SameItem_spec n v18.1 (It.mk ByteArray.empty ByteArray.empty (Rw.mk 0 ByteArray.empty ([])) ([])) a20 c20 a21 c21 none 0 none 0 _ h48).atR [6, 7, 1, 0] rfl rfl rfl ?_
            rintro _ _ ⟨rfl, rfl⟩
            refine AtIf.mk (fun h49 => ?_) (fun h49 => ?_)
            · replace hr := cond_t h49 hr
              replace hr := Option.some.inj hr
              subst hr
              exact AtRet.pureG [] [] rfl rfl ⟨rfl, rfl⟩
            · replace hr := cond_f h49 hr
              obtain ⟨v50, h51, hr⟩ := bind_some hr
              refine (R14_Modes_spec n v1 (v3.take (if 50 < ((Md.encL v3).length : Int) then 50 else ((Md.encL v3).length : Int)).toNat) a2 c2 a7 c7 _ h51).atR [2, 4] rfl rfl rfl ?_
              rintro _ _ ⟨rfl, rfl⟩
              refine AtIf.mk (fun h52 => ?_) (fun h52 => ?_)
              · replace hr := cond_t h52 hr
                obtain ⟨v53, h54, hr⟩ := bind_some hr
                refine Meets.nilRep 1 ?_
                refine (W14_same_spec n v22.1 (Md.mk 0 ([])) a24 c24 none 0 _ h54).atR [9, 0] rfl rfl rfl ?_
                rintro _ _ ⟨rfl, rfl⟩
                refine AtGuard.mk (fun h55 => ?_) (fun h55 => ?_)
                · replace hr := cond_t h55 hr
                  obtain ⟨v56, h57, hr⟩ := bind_some hr
                  refine (W14_awake_spec n  _ h57).atR [] rfl rfl rfl ?_
                  rintro _ _ ⟨rfl, rfl⟩
                  replace hr := Option.some.inj hr
                  subst hr
                  exact AtRet.pureG [] [] rfl rfl ⟨rfl, rfl⟩
                · replace hr := cond_f h55 hr
                  replace hr := Option.some.inj hr
                  subst hr
                  exact AtRet.pureG [] [] rfl rfl ⟨rfl, rfl⟩
              · replace hr := cond_f h52 hr
                obtain ⟨v58, h59, hr⟩ := bind_some hr
                refine (R14_Find_spec n (v3.take (if 50 < ((Md.encL v3).length : Int) then 50 else ((Md.encL v3).length : Int)).toNat) v5 a7 c7 _ h59).atR [4] rfl rfl rfl ?_
                rintro _ _ ⟨rfl, rfl⟩
                refine AtIf.mk (fun h60 => ?_) (fun h60 => ?_)
                · replace hr := cond_t h60 hr
                  obtain ⟨v61, h62, hr⟩ := bind_some hr
                  refine Meets.nilRep 1 ?_
                  refine (W14_same_spec n v22.1 (Md.mk 0 ([])) a24 c24 none 0 _ h62).atR [9, 0] rfl rfl rfl ?_
                  rintro _ _ ⟨rfl, rfl⟩
                  refine AtGuard.mk (fun h63 => ?_) (fun h63 => ?_)
                  · replace hr := cond_t h63 hr
                    obtain ⟨v64, h65, hr⟩ := bind_some hr
                    refine (W14_awake_spec n  _ h65).atR [] rfl rfl rfl ?_
                    rintro _ _ ⟨rfl, rfl⟩
                    replace hr := Option.some.inj hr
                    subst hr
                    exact AtRet.pureG [] [] rfl rfl ⟨rfl, rfl⟩
                  · replace hr := cond_f h63 hr
                    replace hr := Option.some.inj hr
                    subst hr
                    exact AtRet.pureG [] [] rfl rfl ⟨rfl, rfl⟩
                · replace hr := cond_f h60 hr
                  obtain ⟨v66, h67, hr⟩ := bind_some hr
                  obtain ⟨h68, h69⟩ := idx_some h67
                  refine at_index ttOK 4 rfl rfl rfl rfl h68 (Md.encL_get h69) ?_
                  intro a70 c70 _ _
                  obtain ⟨v71, h72, hr⟩ := bind_some hr
                  refine (W14_same_spec n v22.1 v66 a24 c24 a70 c70 _ h72).atR [8, 13] rfl rfl rfl ?_
                  rintro _ _ ⟨rfl, rfl⟩
                  refine AtGuard.mk (fun h73 => ?_) (fun h73 => ?_)
                  · replace hr := cond_t h73 hr
                    obtain ⟨v74, h75, hr⟩ := bind_some hr
                    refine (W14_awake_spec n  _ h75).atR [] rfl rfl rfl ?_
                    rintro _ _ ⟨rfl, rfl⟩
                    replace hr := Option.some.inj hr
                    subst hr
                    exact AtRet.pureG [] [] rfl rfl ⟨rfl, rfl⟩
                  · replace hr := cond_f h73 hr
                    replace hr := Option.some.inj hr
                    subst hr
                    exact AtRet.pureG [] [] rfl rfl ⟨rfl, rfl⟩
          · replace hr := cond_f h46 hr
            refine AtIf.mk (fun h => ff h) (fun _ => ?_)
            obtain ⟨v76, h77, hr⟩ := bind_some hr
            refine (R14_Modes_spec n v1 (v3.take (if 50 < ((Md.encL v3).length : Int) then 50 else ((Md.encL v3).length : Int)).toNat) a2 c2 a7 c7 _ h77).atR [0, 2] rfl rfl rfl ?_
            rintro _ _ ⟨rfl, rfl⟩
            refine AtIf.mk (fun h78 => ?_) (fun h78 => ?_)
            · replace hr := cond_t h78 hr
              obtain ⟨v79, h80, hr⟩ := bind_some hr
              refine Meets.nilRep 1 ?_
              refine (W14_same_spec n v22.1 (Md.mk 0 ([])) a24 c24 none 0 _ h80).atR [7, 0] rfl rfl rfl ?_
              rintro _ _ ⟨rfl, rfl⟩
              refine AtGuard.mk (fun h81 => ?_) (fun h81 => ?_)
              · replace hr := cond_t h81 hr
                obtain ⟨v82, h83, hr⟩ := bind_some hr
                refine (W14_awake_spec n  _ h83).atR [] rfl rfl rfl ?_
                rintro _ _ ⟨rfl, rfl⟩
                replace hr := Option.some.inj hr
                subst hr
                exact AtRet.pureG [] [] rfl rfl ⟨rfl, rfl⟩
              · replace hr := cond_f h81 hr
                replace hr := Option.some.inj hr
                subst hr
                exact AtRet.pureG [] [] rfl rfl ⟨rfl, rfl⟩
            · replace hr := cond_f h78 hr
              obtain ⟨v84, h85, hr⟩ := bind_some hr
              refine (R14_Find_spec n (v3.take (if 50 < ((Md.encL v3).length : Int) then 50 else ((Md.encL v3).length : Int)).toNat) v5 a7 c7 _ h85).atR [2] rfl rfl rfl ?_
              rintro _ _ ⟨rfl, rfl⟩
              refine AtIf.mk (fun h86 => ?_) (fun h86 => ?_)
              · replace hr := cond_t h86 hr
                obtain ⟨v87, h88, hr⟩ := bind_some hr
                refine Meets.nilRep 1 ?_
                refine (W14_same_spec n v22.1 (Md.mk 0 ([])) a24 c24 none 0 _ h88).atR [7, 0] rfl rfl rfl ?_
                rintro _ _ ⟨rfl, rfl⟩
                refine AtGuard.mk (fun h89 => ?_) (fun h89 => ?_)
                · replace hr := cond_t h89 hr
                  obtain ⟨v90, h91, hr⟩ := bind_some hr
                  refine (W14_awake_spec n  _ h91).atR [] rfl rfl rfl ?_
                  rintro _ _ ⟨rfl, rfl⟩
                  replace hr := Option.some.inj hr
                  subst hr
                  exact AtRet.pureG [] [] rfl rfl ⟨rfl, rfl⟩
                · replace hr := cond_f h89 hr
                  replace hr := Option.some.inj hr
                  subst hr
                  exact AtRet.pureG [] [] rfl rfl ⟨rfl, rfl⟩
              · replace hr := cond_f h86 hr
                obtain ⟨v92, h93, hr⟩ := bind_some hr
                obtain ⟨h94, h95⟩ := idx_some h93
                refine at_index ttOK 2 rfl rfl rfl rfl h94 (Md.encL_get h95) ?_
                intro a96 c96 _ _
                obtain ⟨v97, h98, hr⟩ := bind_some hr
                refine (W14_same_spec n v22.1 v92 a24 c24 a96 c96 _ h98).atR [6, 11] rfl rfl rfl ?_
                rintro _ _ ⟨rfl, rfl⟩
                refine AtGuard.mk (fun h99 => ?_) (fun h99 => ?_)
                · replace hr := cond_t h99 hr
                  obtain ⟨v100, h101, hr⟩ := bind_some hr
                  refine (W14_awake_spec n  _ h101).atR [] rfl rfl rfl ?_
                  rintro _ _ ⟨rfl, rfl⟩
                  replace hr := Option.some.inj hr
                  subst hr
                  exact AtRet.pureG [] [] rfl rfl ⟨rfl, rfl⟩
                · replace hr := cond_f h99 hr
                  replace hr := Option.some.inj hr
                  subst hr
                  exact AtRet.pureG [] [] rfl rfl ⟨rfl, rfl⟩
        · replace hr := cond_t h45 hr
          refine AtIf.mk (fun _ => ?_) (fun h => tf h)
          replace hr := Option.some.inj hr
          subst hr
          exact AtRet.pureG [] [] rfl rfl ⟨rfl, rfl⟩
      · replace hr := cond_f h42 hr
        refine AtGuard.mk (fun _ => ?_) (fun h => ff h)
        refine AtGuard.mk (fun h102 => ?_) (fun h102 => ?_)
        · replace hr := cond_t h102 hr
          obtain ⟨v103, h104, hr⟩ := bind_some hr
          refine Meets.nilRep 3 ?_
          refine Meets.nilRep 8 ?_
          refine (R02_SameItem_spec n v18.1 (It.mk ByteArray.empty ByteArray.empty (Rw.mk 0 ByteArray.empty ([])) ([])) a20 c20 a21 c21 none 0 none 0 _ h104).atR [6, 7, 1, 0] rfl rfl rfl ?_
          rintro _ _ ⟨rfl, rfl⟩
          refine AtIf.mk (fun h105 => ?_) (fun h105 => ?_)
          · replace hr := cond_t h105 hr
            replace hr := Option.some.inj hr
            subst hr
            exact AtRet.pureG [] [] rfl rfl ⟨rfl, rfl⟩
          · replace hr := cond_f h105 hr
            obtain ⟨v106, h107, hr⟩ := bind_some hr
            refine (R14_Modes_spec n v1 (v3.take (if 50 < ((Md.encL v3).length : Int) then 50 else ((Md.encL v3).length : Int)).toNat) a2 c2 a7 c7 _ h107).atR [2, 4] rfl rfl rfl ?_
            rintro _ _ ⟨rfl, rfl⟩
            refine AtIf.mk (fun h108 => ?_) (fun h108 => ?_)
            · replace hr := cond_t h108 hr
              obtain ⟨v109, h110, hr⟩ := bind_some hr
              refine Meets.nilRep 1 ?_
              refine (W14_same_spec n v22.1 (Md.mk 0 ([])) a24 c24 none 0 _ h110).atR [9, 0] rfl rfl rfl ?_
              rintro _ _ ⟨rfl, rfl⟩
              refine AtGuard.mk (fun h111 => ?_) (fun h111 => ?_)
              · replace hr := cond_t h111 hr
                obtain ⟨v112, h113, hr⟩ := bind_some hr
                refine (W14_awake_spec n  _ h113).atR [] rfl rfl rfl ?_
                rintro _ _ ⟨rfl, rfl⟩
                replace hr := Option.some.inj hr
                subst hr
                exact AtRet.pureG [] [] rfl rfl ⟨rfl, rfl⟩
              · replace hr := cond_f h111 hr
                replace hr := Option.some.inj hr
                subst hr
                exact AtRet.pureG [] [] rfl rfl ⟨rfl, rfl⟩
            · replace hr := cond_f h108 hr
              obtain ⟨v114, h115, hr⟩ := bind_some hr
              refine (R14_Find_spec n (v3.take (if 50 < ((Md.encL v3).length : Int) then 50 else ((Md.encL v3).length : Int)).toNat) v5 a7 c7 _ h115).atR [4] rfl rfl rfl ?_
              rintro _ _ ⟨rfl, rfl⟩
              refine AtIf.mk (fun h116 => ?_) (fun h116 => ?_)
              · replace hr := cond_t h116 hr
                obtain ⟨v117, h118, hr⟩ := bind_some hr
                refine Meets.nilRep 1 ?_
                refine (W14_same_spec n v22.1 (Md.mk 0 ([])) a24 c24 none 0 _ h118).atR [9, 0] rfl rfl rfl ?_
                rintro _ _ ⟨rfl, rfl⟩
                refine AtGuard.mk (fun h119 => ?_) (fun h119 => ?_)
                · replace hr := cond_t h119 hr
                  obtain ⟨v120, h121, hr⟩ := bind_some hr
                  refine (W14_awake_spec n  _ h121).atR [] rfl rfl rfl ?_
                  rintro _ _ ⟨rfl, rfl⟩
                  replace hr := Option.some.inj hr
                  subst hr
                  exact AtRet.pureG [] [] rfl rfl ⟨rfl, rfl⟩
                · replace hr := cond_f h119 hr
                  replace hr := Option.some.inj hr
                  subst hr
                  exact AtRet.pureG [] [] rfl rfl ⟨rfl, rfl⟩
              · replace hr := cond_f h116 hr
                obtain ⟨v122, h123, hr⟩ := bind_some hr
                obtain ⟨h124, h125⟩ := idx_some h123
                refine at_index ttOK 4 rfl rfl rfl rfl h124 (Md.encL_get h125) ?_
                intro a126 c126 _ _
                obtain ⟨v127, h128, hr⟩ := bind_some hr
                refine (W14_same_spec n v22.1 v122 a24 c24 a126 c126 _ h128).atR [8, 13] rfl rfl rfl ?_
                rintro _ _ ⟨rfl, rfl⟩
                refine AtGuard.mk (fun h129 => ?_) (fun h129 => ?_)
                · replace hr := cond_t h129 hr
                  obtain ⟨v130, h131, hr⟩ := bind_some hr
                  refine (W14_awake_spec n  _ h131).atR [] rfl rfl rfl ?_
                  rintro _ _ ⟨rfl, rfl⟩
                  replace hr := Option.some.inj hr
                  subst hr
                  exact AtRet.pureG [] [] rfl rfl ⟨rfl, rfl⟩
                · replace hr := cond_f h129 hr
                  replace hr := Option.some.inj hr
                  subst hr
                  exact AtRet.pureG [] [] rfl rfl ⟨rfl, rfl⟩
        · replace hr := cond_f h102 hr
          refine AtIf.mk (fun h => ff h) (fun _ => ?_)
          obtain ⟨v132, h133, hr⟩ := bind_some hr
          refine (R14_Modes_spec n v1 (v3.take (if 50 < ((Md.encL v3).length : Int) then 50 else ((Md.encL v3).length : Int)).toNat) a2 c2 a7 c7 _ h133).atR [0, 2] rfl rfl rfl ?_
          rintro _ _ ⟨rfl, rfl⟩
          refine AtIf.mk (fun h134 => ?_) (fun h134 => ?_)
          · replace hr := cond_t h134 hr
            obtain ⟨v135, h136, hr⟩ := bind_some hr
            refine Meets.nilRep 1 ?_
            refine (W14_same_spec n v22.1 (Md.mk 0 ([])) a24 c24 none 0 _ h136).atR [7, 0] rfl rfl rfl ?_
            rintro _ _ ⟨rfl, rfl⟩
            refine AtGuard.mk (fun h137 => ?_) (fun h137 => ?_)
            · replace hr := cond_t h137 hr
              obtain ⟨v138, h139, hr⟩ := bind_some hr
              refine (W14_awake_spec n  _ h139).atR [] rfl rfl rfl ?_
              rintro _ _ ⟨rfl, rfl⟩
              replace hr := Option.some.inj hr
              subst hr
              exact AtRet.pureG [] [] rfl rfl ⟨rfl, rfl⟩
            · replace hr := cond_f h137 hr
              replace hr := Option.some.inj hr
              subst hr
              exact AtRet.pureG [] [] rfl rfl ⟨rfl, rfl⟩
          · replace hr := cond_f h134 hr
            obtain ⟨v140, h141, hr⟩ := bind_some hr
            refine (R14_Find_spec n (v3.take (if 50 < ((Md.encL v3).length : Int) then 50 else ((Md.encL v3).length : Int)).toNat) v5 a7 c7 _ h141).atR [2] rfl rfl rfl ?_
            rintro _ _ ⟨rfl, rfl⟩
            refine AtIf.mk (fun h142 => ?_) (fun h142 => ?_)
            · replace hr := cond_t h142 hr
              obtain ⟨v143, h144, hr⟩ := bind_some hr
              refine Meets.nilRep 1 ?_
              refine (W14_same_spec n v22.1 (Md.mk 0 ([])) a24 c24 none 0 _ h144).atR [7, 0] rfl rfl rfl ?_
              rintro _ _ ⟨rfl, rfl⟩
              refine AtGuard.mk (fun h145 => ?_) (fun h145 => ?_)
              · replace hr := cond_t h145 hr
                obtain ⟨v146, h147, hr⟩ := bind_some hr
                refine (W14_awake_spec n  _ h147).atR [] rfl rfl rfl ?_
                rintro _ _ ⟨rfl, rfl⟩
                replace hr := Option.some.inj hr
                subst hr
                exact AtRet.pureG [] [] rfl rfl ⟨rfl, rfl⟩
              · replace hr := cond_f h145 hr
                replace hr := Option.some.inj hr
                subst hr
                exact AtRet.pureG [] [] rfl rfl ⟨rfl, rfl⟩
            · replace hr := cond_f h142 hr
              obtain ⟨v148, h149, hr⟩ := bind_some hr
              obtain ⟨h150, h151⟩ := idx_some h149
              refine at_index ttOK 2 rfl rfl rfl rfl h150 (Md.encL_get h151) ?_
              intro a152 c152 _ _
              obtain ⟨v153, h154, hr⟩ := bind_some hr
              refine (W14_same_spec n v22.1 v148 a24 c24 a152 c152 _ h154).atR [6, 11] rfl rfl rfl ?_
              rintro _ _ ⟨rfl, rfl⟩
              refine AtGuard.mk (fun h155 => ?_) (fun h155 => ?_)
              · replace hr := cond_t h155 hr
                obtain ⟨v156, h157, hr⟩ := bind_some hr
                refine (W14_awake_spec n  _ h157).atR [] rfl rfl rfl ?_
                rintro _ _ ⟨rfl, rfl⟩
                replace hr := Option.some.inj hr
                subst hr
                exact AtRet.pureG [] [] rfl rfl ⟨rfl, rfl⟩
              · replace hr := cond_f h155 hr
                replace hr := Option.some.inj hr
                subst hr
                exact AtRet.pureG [] [] rfl rfl ⟨rfl, rfl⟩
    · replace hr := cond_f h32 hr
      refine AtGuard.mk (fun h158 => ?_) (fun h158 => ?_)
      · replace hr := cond_t h158 hr
        obtain ⟨v159, h160, hr⟩ := bind_some hr
        refine Meets.nilRep 3 ?_
        refine Meets.nilRep 8 ?_
        refine (R02_SameItem_spec n v18.1 (It.mk ByteArray.empty ByteArray.empty (Rw.mk 0 ByteArray.empty ([])) ([])) a20 c20 a21 c21 none 0 none 0 _ h160).atR [6, 7, 1, 0] rfl rfl rfl ?_
        rintro _ _ ⟨rfl, rfl⟩
        refine AtGuard.mk (fun h161 => ?_) (fun h161 => ?_)
        · replace hr := cond_f h161 hr
          refine AtGuard.mk (fun h162 => ?_) (fun h162 => ?_)
          · replace hr := cond_t h162 hr
            obtain ⟨v163, h164, hr⟩ := bind_some hr
            refine (R02_SameItem_spec n v18.1 (It.mk ByteArray.empty ByteArray.empty (Rw.mk 0 ByteArray.empty ([])) ([])) a20 c20 a21 c21 none 0 none 0 _ h164).atR [6, 7, 1, 0] rfl rfl rfl ?_
            rintro _ _ ⟨rfl, rfl⟩
            refine AtIf.mk (fun h165 => ?_) (fun h165 => ?_)
            · replace hr := cond_t h165 hr
              replace hr := Option.some.inj hr
              subst hr
              exact AtRet.pureG [] [] rfl rfl ⟨rfl, rfl⟩
            · replace hr := cond_f h165 hr
              obtain ⟨v166, h167, hr⟩ := bind_some hr
              refine (R14_Modes_spec n v1 (v3.take (if 50 < ((Md.encL v3).length : Int) then 50 else ((Md.encL v3).length : Int)).toNat) a2 c2 a7 c7 _ h167).atR [2, 4] rfl rfl rfl ?_
              rintro _ _ ⟨rfl, rfl⟩
              refine AtIf.mk (fun h168 => ?_) (fun h168 => ?_)
              · replace hr := cond_t h168 hr
                obtain ⟨v169, h170, hr⟩ := bind_some hr
                refine Meets.nilRep 1 ?_
                refine (W14_same_spec n v22.1 (Md.mk 0 ([])) a24 c24 none 0 _ h170).atR [9, 0] rfl rfl rfl ?_
                rintro _ _ ⟨rfl, rfl⟩
                refine AtGuard.mk (fun h171 => ?_) (fun h171 => ?_)
                · replace hr := cond_t h171 hr
                  obtain ⟨v172, h173, hr⟩ := bind_some hr
                  refine (W14_awake_spec n  _ h173).atR [] rfl rfl rfl ?_
                  rintro _ _ ⟨rfl, rfl⟩
                  replace hr := Option.some.inj hr
                  subst hr
                  exact AtRet.pureG [] [] rfl rfl ⟨rfl, rfl⟩
                · replace hr := cond_f h171 hr
                  replace hr := Option.some.inj hr
                  subst hr
                  exact AtRet.pureG [] [] rfl rfl ⟨rfl, rfl⟩
              · replace hr := cond_f h168 hr
                obtain ⟨v174, h175, hr⟩ := bind_some hr
                refine (R14_Find_spec n (v3.take (if 50 < ((Md.encL v3).length : Int) then 50 else ((Md.encL v3).length : Int)).toNat) v5 a7 c7 _ h175).atR [4] rfl rfl rfl ?_
                rintro _ _ ⟨rfl, rfl⟩
                refine AtIf.mk (fun h176 => ?_) (fun h176 => ?_)
                · replace hr := cond_t h176 hr
                  obtain ⟨v177, h178, hr⟩ := bind_some hr
                  refine Meets.nilRep 1 ?_
                  refine (W14_same_spec n v22.1 (Md.mk 0 ([])) a24 c24 none 0 _ h178).atR [9, 0] rfl rfl rfl ?_
                  rintro _ _ ⟨rfl, rfl⟩
                  refine AtGuard.mk (fun h179 => ?_) (fun h179 => ?_)
                  · replace hr := cond_t h179 hr
                    obtain ⟨v180, h181, hr⟩ := bind_some hr
                    refine (W14_awake_spec n  _ h181).atR [] rfl rfl rfl ?_
                    rintro _ _ ⟨rfl, rfl⟩
                    replace hr := Option.some.inj hr
                    subst hr
                    exact AtRet.pureG [] [] rfl rfl ⟨rfl, rfl⟩
                  · replace hr := cond_f h179 hr
                    replace hr := Option.some.inj hr
                    subst hr
                    exact AtRet.pureG [] [] rfl rfl ⟨rfl, rfl⟩
                · replace hr := cond_f h176 hr
                  obtain ⟨v182, h183, hr⟩ := bind_some hr
                  obtain ⟨h184, h185⟩ := idx_some h183
                  refine at_index ttOK 4 rfl rfl rfl rfl h184 (Md.encL_get h185) ?_
                  intro a186 c186 _ _
                  obtain ⟨v187, h188, hr⟩ := bind_some hr
                  refine (W14_same_spec n v22.1 v182 a24 c24 a186 c186 _ h188).atR [8, 10] rfl rfl rfl ?_
                  rintro _ _ ⟨rfl, rfl⟩
                  refine AtGuard.mk (fun h189 => ?_) (fun h189 => ?_)
                  · replace hr := cond_t h189 hr
                    obtain ⟨v190, h191, hr⟩ := bind_some hr
                    refine (W14_awake_spec n  _ h191).atR [] rfl rfl rfl ?_
                    rintro _ _ ⟨rfl, rfl⟩
                    replace hr := Option.some.inj hr
                    subst hr
                    exact AtRet.pureG [] [] rfl rfl ⟨rfl, rfl⟩
                  · replace hr := cond_f h189 hr
                    replace hr := Option.some.inj hr
                    subst hr
                    exact AtRet.pureG [] [] rfl rfl ⟨rfl, rfl⟩
          · replace hr := cond_f h162 hr
            refine AtIf.mk (fun h => ff h) (fun _ => ?_)
            obtain ⟨v192, h193, hr⟩ := bind_some hr
            refine (R14_Modes_spec n v1 (v3.take (if 50 < ((Md.encL v3).length : Int) then 50 else ((Md.encL v3).length : Int)).toNat) a2 c2 a7 c7 _ h193).atR [2, 4] rfl rfl rfl ?_
            rintro _ _ ⟨rfl, rfl⟩
            refine AtIf.mk (fun h194 => ?_) (fun h194 => ?_)
            · replace hr := cond_t h194 hr
              obtain ⟨v195, h196, hr⟩ := bind_some hr
              refine Meets.nilRep 1 ?_
              refine (W14_same_spec n v22.1 (Md.mk 0 ([])) a24 c24 none 0 _ h196).atR [9, 0] rfl rfl rfl ?_
              rintro _ _ ⟨rfl, rfl⟩
              refine AtGuard.mk (fun h197 => ?_) (fun h197 => ?_)
              · replace hr := cond_t h197 hr
                obtain ⟨v198, h199, hr⟩ := bind_some hr
                refine (W14_awake_spec n  _ h199).atR [] rfl rfl rfl ?_
                rintro _ _ ⟨rfl, rfl⟩
                replace hr := Option.some.inj hr
                subst hr
                exact AtRet.pureG [] [] rfl rfl ⟨rfl, rfl⟩
              · replace hr := cond_f h197 hr
                replace hr := Option.some.inj hr
                subst hr
                exact AtRet.pureG [] [] rfl rfl ⟨rfl, rfl⟩
            · replace hr := cond_f h194 hr
              obtain ⟨v200, h201, hr⟩ := bind_some hr
              refine (R14_Find_spec n (v3.take (if 50 < ((Md.encL v3).length : Int) then 50 else ((Md.encL v3).length : Int)).toNat) v5 a7 c7 _ h201).atR [4] rfl rfl rfl ?_
              rintro _ _ ⟨rfl, rfl⟩
              refine AtIf.mk (fun h202 => ?_) (fun h202 => ?_)
              · replace hr := cond_t h202 hr
                obtain ⟨v203, h204, hr⟩ := bind_some hr
                refine Meets.nilRep 1 ?_
                refine (W14_same_spec n v22.1 (Md.mk 0 ([])) a24 c24 none 0 _ h204).atR [9, 0] rfl rfl rfl ?_
                rintro _ _ ⟨rfl, rfl⟩
                refine AtGuard.mk (fun h205 => ?_) (fun h205 => ?_)
                · replace hr := cond_t h205 hr
                  obtain ⟨v206, h207, hr⟩ := bind_some hr
                  refine (W14_awake_spec n  _ h207).atR [] rfl rfl rfl ?_
                  rintro _ _ ⟨rfl, rfl⟩
                  replace hr := Option.some.inj hr
                  subst hr
                  exact AtRet.pureG [] [] rfl rfl ⟨rfl, rfl⟩
                · replace hr := cond_f h205 hr
                  replace hr := Option.some.inj hr
                  subst hr
                  exact AtRet.pureG [] [] rfl rfl ⟨rfl, rfl⟩
              · replace hr := cond_f h202 hr
                obtain ⟨v208, h209, hr⟩ := bind_some hr
                obtain ⟨h210, h211⟩ := idx_some h209
                refine at_index ttOK 4 rfl rfl rfl rfl h210 (Md.encL_get h211) ?_
                intro a212 c212 _ _
                obtain ⟨v213, h214, hr⟩ := bind_some hr
                refine (W14_same_spec n v22.1 v208 a24 c24 a212 c212 _ h214).atR [8, 10] rfl rfl rfl ?_
                rintro _ _ ⟨rfl, rfl⟩
                refine AtGuard.mk (fun h215 => ?_) (fun h215 => ?_)
                · replace hr := cond_t h215 hr
                  obtain ⟨v216, h217, hr⟩ := bind_some hr
                  refine (W14_awake_spec n  _ h217).atR [] rfl rfl rfl ?_
                  rintro _ _ ⟨rfl, rfl⟩
                  replace hr := Option.some.inj hr
                  subst hr
                  exact AtRet.pureG [] [] rfl rfl ⟨rfl, rfl⟩
                · replace hr := cond_f h215 hr
                  replace hr := Option.some.inj hr
                  subst hr
                  exact AtRet.pureG [] [] rfl rfl ⟨rfl, rfl⟩
        · replace hr := cond_t h161 hr
          refine AtIf.mk (fun _ => ?_) (fun h => tf h)
          replace hr := Option.some.inj hr
          subst hr
          exact AtRet.pureG [] [] rfl rfl ⟨rfl, rfl⟩
      · replace hr := cond_f h158 hr
        refine AtGuard.mk (fun _ => ?_) (fun h => ff h)
        refine AtGuard.mk (fun h218 => ?_) (fun h218 => ?_)
        · replace hr := cond_t h218 hr
          obtain ⟨v219, h220, hr⟩ := bind_some hr
          refine Meets.nilRep 3 ?_
          refine Meets.nilRep 8 ?_
          refine (R02_SameItem_spec n v18.1 (It.mk ByteArray.empty ByteArray.empty (Rw.mk 0 ByteArray.empty ([])) ([])) a20 c20 a21 c21 none 0 none 0 _ h220).atR [6, 7, 1, 0] rfl rfl rfl ?_
          rintro _ _ ⟨rfl, rfl⟩
          refine AtIf.mk (fun h221 => ?_) (fun h221 => ?_)
          · replace hr := cond_t h221 hr
            replace hr := Option.some.inj hr
            subst hr
            exact AtRet.pureG [] [] rfl rfl ⟨rfl, rfl⟩
          · replace hr := cond_f h221 hr
            obtain ⟨v222, h223, hr⟩ := bind_some hr
            refine (R14_Modes_spec n v1 (v3.take (if 50 < ((Md.encL v3).length : Int) then 50 else ((Md.encL v3).length : Int)).toNat) a2 c2 a7 c7 _ h223).atR [2, 4] rfl rfl rfl ?_
            rintro _ _ ⟨rfl, rfl⟩
            refine AtIf.mk (fun h224 => ?_) (fun h224 => ?_)
            · replace hr := cond_t h224 hr
              obtain ⟨v225, h226, hr⟩ := bind_some hr
              refine Meets.nilRep 1 ?_
              refine (W14_same_spec n v22.1 (Md.mk 0 ([])) a24 c24 none 0 _ h226).atR [9, 0] rfl rfl rfl ?_
              rintro _ _ ⟨rfl, rfl⟩
              refine AtGuard.mk (fun h227 => ?_) (fun h227 => ?_)
              · replace hr := cond_t h227 hr
                obtain ⟨v228, h229, hr⟩ := bind_some hr
                refine (W14_awake_spec n  _ h229).atR [] rfl rfl rfl ?_
                rintro _ _ ⟨rfl, rfl⟩
                replace hr := Option.some.inj hr
                subst hr
                exact AtRet.pureG [] [] rfl rfl ⟨rfl, rfl⟩
              · replace hr := cond_f h227 hr
                replace hr := Option.some.inj hr
                subst hr
                exact AtRet.pureG [] [] rfl rfl ⟨rfl, rfl⟩
            · replace hr := cond_f h224 hr
              obtain ⟨v230, h231, hr⟩ := bind_some hr
              refine (R14_Find_spec n (v3.take (if 50 < ((Md.encL v3).length : Int) then 50 else ((Md.encL v3).length : Int)).toNat) v5 a7 c7 _ h231).atR [4] rfl rfl rfl ?_
              rintro _ _ ⟨rfl, rfl⟩
              refine AtIf.mk (fun h232 => ?_) (fun h232 => ?_)
              · replace hr := cond_t h232 hr
                obtain ⟨v233, h234, hr⟩ := bind_some hr
                refine Meets.nilRep 1 ?_
                refine (W14_same_spec n v22.1 (Md.mk 0 ([])) a24 c24 none 0 _ h234).atR [9, 0] rfl rfl rfl ?_
                rintro _ _ ⟨rfl, rfl⟩
                refine AtGuard.mk (fun h235 => ?_) (fun h235 => ?_)
                · replace hr := cond_t h235 hr
                  obtain ⟨v236, h237, hr⟩ := bind_some hr
                  refine (W14_awake_spec n  _ h237).atR [] rfl rfl rfl ?_
                  rintro _ _ ⟨rfl, rfl⟩
                  replace hr := Option.some.inj hr
                  subst hr
                  exact AtRet.pureG [] [] rfl rfl ⟨rfl, rfl⟩
                · replace hr := cond_f h235 hr
                  replace hr := Option.some.inj hr
                  subst hr
                  exact AtRet.pureG [] [] rfl rfl ⟨rfl, rfl⟩
              · replace hr := cond_f h232 hr
                obtain ⟨v238, h239, hr⟩ := bind_some hr
                obtain ⟨h240, h241⟩ := idx_some h239
                refine at_index ttOK 4 rfl rfl rfl rfl h240 (Md.encL_get h241) ?_
                intro a242 c242 _ _
                obtain ⟨v243, h244, hr⟩ := bind_some hr
                refine (W14_same_spec n v22.1 v238 a24 c24 a242 c242 _ h244).atR [8, 10] rfl rfl rfl ?_
                rintro _ _ ⟨rfl, rfl⟩
                refine AtGuard.mk (fun h245 => ?_) (fun h245 => ?_)
                · replace hr := cond_t h245 hr
                  obtain ⟨v246, h247, hr⟩ := bind_some hr
                  refine (W14_awake_spec n  _ h247).atR [] rfl rfl rfl ?_
                  rintro _ _ ⟨rfl, rfl⟩
                  replace hr := Option.some.inj hr
                  subst hr
                  exact AtRet.pureG [] [] rfl rfl ⟨rfl, rfl⟩
                · replace hr := cond_f h245 hr
                  replace hr := Option.some.inj hr
                  subst hr
                  exact AtRet.pureG [] [] rfl rfl ⟨rfl, rfl⟩
        · replace hr := cond_f h218 hr
          refine AtIf.mk (fun h => ff h) (fun _ => ?_)
          obtain ⟨v248, h249, hr⟩ := bind_some hr
          refine (R14_Modes_spec n v1 (v3.take (if 50 < ((Md.encL v3).length : Int) then 50 else ((Md.encL v3).length : Int)).toNat) a2 c2 a7 c7 _ h249).atR [0, 2] rfl rfl rfl ?_
          rintro _ _ ⟨rfl, rfl⟩
          refine AtIf.mk (fun h250 => ?_) (fun h250 => ?_)
          · replace hr := cond_t h250 hr
            obtain ⟨v251, h252, hr⟩ := bind_some hr
            refine Meets.nilRep 1 ?_
            refine (W14_same_spec n v22.1 (Md.mk 0 ([])) a24 c24 none 0 _ h252).atR [7, 0] rfl rfl rfl ?_
            rintro _ _ ⟨rfl, rfl⟩
            refine AtGuard.mk (fun h253 => ?_) (fun h253 => ?_)
            · replace hr := cond_t h253 hr
              obtain ⟨v254, h255, hr⟩ := bind_some hr
              refine (W14_awake_spec n  _ h255).atR [] rfl rfl rfl ?_
              rintro _ _ ⟨rfl, rfl⟩
              replace hr := Option.some.inj hr
              subst hr
              exact AtRet.pureG [] [] rfl rfl ⟨rfl, rfl⟩
            · replace hr := cond_f h253 hr
              replace hr := Option.some.inj hr
              subst hr
              exact AtRet.pureG [] [] rfl rfl ⟨rfl, rfl⟩
          · replace hr := cond_f h250 hr
            obtain ⟨v256, h257, hr⟩ := bind_some hr
            refine (R14_Find_spec n (v3.take (if 50 < ((Md.encL v3).length : Int) then 50 else ((Md.encL v3).length : Int)).toNat) v5 a7 c7 _ h257).atR [2] rfl rfl rfl ?_
            rintro _ _ ⟨rfl, rfl⟩
            refine AtIf.mk (fun h258 => ?_) (fun h258 => ?_)
            · replace hr := cond_t h258 hr
              obtain ⟨v259, h260, hr⟩ := bind_some hr
              refine Meets.nilRep 1 ?_
              refine (W14_same_spec n v22.1 (Md.mk 0 ([])) a24 c24 none 0 _ h260).atR [7, 0] rfl rfl rfl ?_
              rintro _ _ ⟨rfl, rfl⟩
              refine AtGuard.mk (fun h261 => ?_) (fun h261 => ?_)
              · replace hr := cond_t h261 hr
                obtain ⟨v262, h263, hr⟩ := bind_some hr
                refine (W14_awake_spec n  _ h263).atR [] rfl rfl rfl ?_
                rintro _ _ ⟨rfl, rfl⟩
                replace hr := Option.some.inj hr
                subst hr
                exact AtRet.pureG [] [] rfl rfl ⟨rfl, rfl⟩
              · replace hr := cond_f h261 hr
                replace hr := Option.some.inj hr
                subst hr
                exact AtRet.pureG [] [] rfl rfl ⟨rfl, rfl⟩
            · replace hr := cond_f h258 hr
              obtain ⟨v264, h265, hr⟩ := bind_some hr
              obtain ⟨h266, h267⟩ := idx_some h265
              refine at_index ttOK 2 rfl rfl rfl rfl h266 (Md.encL_get h267) ?_
              intro a268 c268 _ _
              obtain ⟨v269, h270, hr⟩ := bind_some hr
              refine (W14_same_spec n v22.1 v264 a24 c24 a268 c268 _ h270).atR [6, 8] rfl rfl rfl ?_
              rintro _ _ ⟨rfl, rfl⟩
              refine AtGuard.mk (fun h271 => ?_) (fun h271 => ?_)
              · replace hr := cond_t h271 hr
                obtain ⟨v272, h273, hr⟩ := bind_some hr
                refine (W14_awake_spec n  _ h273).atR [] rfl rfl rfl ?_
                rintro _ _ ⟨rfl, rfl⟩
                replace hr := Option.some.inj hr
                subst hr
                exact AtRet.pureG [] [] rfl rfl ⟨rfl, rfl⟩
              · replace hr := cond_f h271 hr
                replace hr := Option.some.inj hr
                subst hr
                exact AtRet.pureG [] [] rfl rfl ⟨rfl, rfl⟩
end Go.Proofs.YtogicnodmgdnbaaGreatDoor
end
