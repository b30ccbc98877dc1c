/- Merged texts: G4. ModeBack with fuel, and its contract. Conditions stand in each. -/
import Derived.Test.YtogicnodmgdnbaaGreatDoorQJ
/-! G4 -/
section
namespace Go.Proofs.YtogicnodmgdnbaaGreatDoor
open Go.Tr Go
set_option maxRecDepth 10000
set_option linter.unusedVariables false
set_option linter.unusedSimpArgs false

def R03_App : Nat → Int → Int → (List Tm) → Option (Tm)
  | 0, _, _, _ => none
  | n + 1, v1, v2, v3 =>
    some ((Tm.mk 4 v1 v2 v3))
theorem R03_App_spec (n : Nat) (v1 : Int) (v2 : Int) (v3 : (List Tm)) (a4 : Option Addr) (c4 : Nat) (r : Tm) (hr : R03_App n v1 v2 v3 = some r) : Pure Tryz.prog (.val (.fn (.func 45) [] [])) [(.v (.int .i64 v1)), (.v (.int .i64 v2)), (.v (.slice a4 ((Tm.encL v3).length) c4))] [(.slice a4 ((Tm.encL v3).length) c4, .sl 4 (Tm.encL v3))] (fun r' out => ∃ (b1 : Option Addr) (d1 : Nat), r' = (.agg [(.v (.int .i64 r.op)), (.v (.int .i64 r.hd)), (.v (.int .i64 r.n)), (.v (.slice b1 ((Tm.encL r.args).length) d1))]) ∧ out = [(.slice b1 ((Tm.encL r.args).length) d1, .sl 4 (Tm.encL r.args))]) := by
  rcases n with _ | n
  · exact no_some hr
  rw [R03_App.eq_2] at hr
  refine spec_of_body (N := 11) (m := 0) (dt := fun _ => none) [] ttOK Tryz.func45 rfl Tryz.call45 Tryz.ntmps45 rfl rfl rfl mixed (by kernel_rfl) ?_
  replace hr := Option.some.inj hr
  subst hr
  exact AtRet.pureG [.old 0] [(.slice a4 ((Tm.encL v3).length) c4, .sl 4 (Tm.encL v3))] rfl rfl ⟨a4, c4, rfl, rfl⟩
def R03_Pi : Nat → Tm → Tm → Option (Tm)
  | 0, _, _ => none
  | n + 1, v1, v3 =>
    some ((Tm.mk 2 0 0 ([v1, v3])))
theorem R03_Pi_spec (n : Nat) (v1 : Tm) (v3 : Tm) (a2 : Option Addr) (c2 : Nat) (a4 : Option Addr) (c4 : Nat) (r : Tm) (hr : R03_Pi n v1 v3 = some r) : Pure Tryz.prog (.val (.fn (.func 46) [] [])) [(.agg [(.v (.int .i64 v1.op)), (.v (.int .i64 v1.hd)), (.v (.int .i64 v1.n)), (.v (.slice a2 ((Tm.encL v1.args).length) c2))]), (.agg [(.v (.int .i64 v3.op)), (.v (.int .i64 v3.hd)), (.v (.int .i64 v3.n)), (.v (.slice a4 ((Tm.encL v3.args).length) c4))])] [(.slice a2 ((Tm.encL v1.args).length) c2, .sl 4 (Tm.encL v1.args)), (.slice a4 ((Tm.encL v3.args).length) c4, .sl 4 (Tm.encL v3.args))] (fun r' out => ∃ (b1 : Option Addr) (d1 : Nat), r' = (.agg [(.v (.int .i64 r.op)), (.v (.int .i64 r.hd)), (.v (.int .i64 r.n)), (.v (.slice b1 ((Tm.encL r.args).length) d1))]) ∧ out = [(.slice b1 ((Tm.encL r.args).length) d1, .sl 4 (Tm.encL r.args))]) := by
  rcases n with _ | n
  · exact no_some hr
  rw [R03_Pi.eq_2] at hr
  refine spec_of_body (N := 9) (m := 0) (dt := fun _ => none) [] ttOK Tryz.func46 rfl Tryz.call46 Tryz.ntmps46 rfl rfl rfl mixed (by kernel_rfl) ?_
  refine at_buildG (n := 2) ttOK 48 [.agg [.int .i64 v1.op, .int .i64 v1.hd, .int .i64 v1.n, .sl 4 (Tm.encL v1.args)], .agg [.int .i64 v3.op, .int .i64 v3.hd, .int .i64 v3.n, .sl 4 (Tm.encL v3.args)]] (ds' := (Tm.encL ([v1, v3]))) rfl (by kernel_rfl) ⟨⟨rfl, rfl, rfl, ⟨[(.v (.int .i64 v1.op))], _, rfl, rfl, ⟨[(.v (.int .i64 v1.hd))], _, rfl, rfl, ⟨[(.v (.int .i64 v1.n))], _, rfl, rfl, ⟨[(.v (.slice a2 ((Tm.encL v1.args).length) c2))], _, rfl, (.inl ⟨_, rfl, nth_mem (j := 0) rfl⟩), rfl⟩⟩⟩⟩⟩, ⟨⟨rfl, rfl, rfl, ⟨[(.v (.int .i64 v3.op))], _, rfl, rfl, ⟨[(.v (.int .i64 v3.hd))], _, rfl, rfl, ⟨[(.v (.int .i64 v3.n))], _, rfl, rfl, ⟨[(.v (.slice a4 ((Tm.encL v3.args).length) c4))], _, rfl, (.inl ⟨_, rfl, nth_mem (j := 1) rfl⟩), rfl⟩⟩⟩⟩⟩, trivial⟩⟩ rfl (by simp only [Tm.encL_eq, List.map_cons, List.map_nil, Tm.enc_eq] <;> rfl) (by decide) (by decide) ?_
  intro a5
  replace hr := Option.some.inj hr
  subst hr
  exact AtRet.pureG [.old 2] [(.slice a5 ((Tm.encL ([v1, v3])).length) 2, .sl 4 (Tm.encL ([v1, v3])))] rfl rfl ⟨a5, 2, rfl, rfl⟩
def W14_sample : Nat → Option ((List Dc))
  | 0 => none
  | n + 1 =>
    (R03_App n 2 0 ([])).bind (fun v1 =>
    (R03_App n 2 1 ([])).bind (fun v4 =>
    (R03_Pi n v1 v1).bind (fun v7 =>
    (R03_Pi n v1 (Tm.mk 1 0 0 ([]))).bind (fun v10 =>
    (R03_Pi n v1 v10).bind (fun v13 =>
    (R03_App n 2 3 ([v4, v4])).bind (fun v17 =>
    some ([(Dc.mk (⟨#[110, 97, 116]⟩) (Tm.mk 1 0 0 ([])) 0), (Dc.mk (⟨#[122]⟩) v1 0), (Dc.mk (⟨#[115]⟩) v7 0), (Dc.mk (⟨#[100, 111, 117, 98, 108, 101]⟩) v13 0), (Dc.mk (⟨#[100, 122]⟩) v17 0)])))))))
theorem W14_sample_spec (n : Nat)  (r : (List Dc)) (hr : W14_sample n  = some r) : Pure Tryz.prog (.val (.fn (.func 19) [] [])) [] [] (fun r' out => ∃ (b1 : Option Addr) (d1 : Nat), r' = (.v (.slice b1 ((Dc.encL r).length) d1)) ∧ out = [(.slice b1 ((Dc.encL r).length) d1, .sl 6 (Dc.encL r))]) := by
  rcases n with _ | n
  · exact no_some hr
  rw [W14_sample.eq_2] at hr
  refine spec_of_body (N := 25) (m := 0) (dt := drawsOf [(3, .node [0, 1, 2, 3, 4, 5, 8, 9, 10, 14, 15] [(6, .node [7] [(11, .node [] [(12, .node [13] [(16, .node [] [(17, .node [18] [(19, .leaf [20])])])]), (16, .node [] [(12, .node [13] [(17, .node [18] [(19, .leaf [20])])])])]), (16, .node [] [(11, .node [] [(12, .node [13] [(17, .node [18] [(19, .leaf [20])])])])])]), (16, .node [] [(6, .node [7] [(11, .node [] [(12, .node [13] [(17, .node [18] [(19, .leaf [20])])])])])])], [19], [])]) [] ttOK Tryz.func19 rfl Tryz.call19 Tryz.ntmps19 rfl rfl rfl mixed (by kernel_rfl) ?_
  obtain ⟨v1, h2, hr⟩ := bind_some hr
  refine Meets.nilRep 4 ?_
  refine (R03_App_spec n 2 0 ([]) none 0 _ h2).atR [0] rfl rfl rfl ?_
  rintro _ _ ⟨a3, c3, rfl, rfl⟩
  obtain ⟨v4, h5, hr⟩ := bind_some hr
  refine (R03_App_spec n 2 1 ([]) none 0 _ h5).atR [0] rfl rfl rfl ?_
  rintro _ _ ⟨a6, c6, rfl, rfl⟩
  obtain ⟨v7, h8, hr⟩ := bind_some hr
  obtain ⟨v10, h11, hr⟩ := bind_some hr
  obtain ⟨v13, h14, hr⟩ := bind_some hr
  obtain ⟨v17, h18, hr⟩ := bind_some hr
  refine ⟨?_, ?_⟩
  ·
    refine (R03_Pi_spec n v1 v1 a3 c3 a3 c3 _ h8).atR [1, 1] rfl rfl rfl ?_
    rintro _ _ ⟨a21, c21, rfl, rfl⟩
    refine ⟨fun _ _ h => h, ?_⟩
    refine ⟨?_, ?_⟩
    ·
      refine (R03_Pi_spec n v1 (Tm.mk 1 0 0 ([])) a3 c3 none 0 _ h11).atR [1, 0] rfl rfl rfl ?_
      rintro _ _ ⟨a22, c22, rfl, rfl⟩
      refine ⟨fun _ _ h => h, ?_⟩
      refine ⟨?_, ?_⟩
      ·
        refine (R03_Pi_spec n v1 v10 a3 c3 a22 c22 _ h14).atR [1, 4] rfl rfl rfl ?_
        rintro _ _ ⟨a23, c23, rfl, rfl⟩
        refine ⟨fun _ _ h => h, ?_⟩
        refine at_buildG (n := 2) ttOK 48 [.agg [.int .i64 v4.op, .int .i64 v4.hd, .int .i64 v4.n, .sl 4 (Tm.encL v4.args)], .agg [.int .i64 v4.op, .int .i64 v4.hd, .int .i64 v4.n, .sl 4 (Tm.encL v4.args)]] (ds' := (Tm.encL ([v4, v4]))) rfl (by kernel_rfl) ⟨⟨rfl, rfl, rfl, ⟨[(.v (.int .i64 v4.op))], _, rfl, rfl, ⟨[(.v (.int .i64 v4.hd))], _, rfl, rfl, ⟨[(.v (.int .i64 v4.n))], _, rfl, rfl, ⟨[(.v (.slice a6 ((Tm.encL v4.args).length) c6))], _, rfl, (.inl ⟨_, rfl, nth_mem (j := 2) rfl⟩), rfl⟩⟩⟩⟩⟩, ⟨⟨rfl, rfl, rfl, ⟨[(.v (.int .i64 v4.op))], _, rfl, rfl, ⟨[(.v (.int .i64 v4.hd))], _, rfl, rfl, ⟨[(.v (.int .i64 v4.n))], _, rfl, rfl, ⟨[(.v (.slice a6 ((Tm.encL v4.args).length) c6))], _, rfl, (.inl ⟨_, rfl, nth_mem (j := 2) rfl⟩), rfl⟩⟩⟩⟩⟩, trivial⟩⟩ rfl (by simp only [Tm.encL_eq, List.map_cons, List.map_nil, Tm.enc_eq] <;> rfl) (by decide) (by decide) ?_
        intro a24
        refine ⟨fun _ _ h => h, ?_⟩
        refine (R03_App_spec n 2 3 ([v4, v4]) a24 2 _ h18).atR [6] rfl rfl rfl ?_
        rintro _ _ ⟨a25, c25, rfl, rfl⟩
        refine ⟨fun _ _ h => h, ?_⟩
        refine at_buildG (n := 5) ttOK 72 [.agg [.str (⟨#[110, 97, 116]⟩), .agg [.int .i64 1, .int .i64 0, .int .i64 0, .sl 4 []], .int .i64 0], .agg [.str (⟨#[122]⟩), .agg [.int .i64 v1.op, .int .i64 v1.hd, .int .i64 v1.n, .sl 4 (Tm.encL v1.args)], .int .i64 0], .agg [.str (⟨#[115]⟩), .agg [.int .i64 v7.op, .int .i64 v7.hd, .int .i64 v7.n, .sl 4 (Tm.encL v7.args)], .int .i64 0], .agg [.str (⟨#[100, 111, 117, 98, 108, 101]⟩), .agg [.int .i64 v13.op, .int .i64 v13.hd, .int .i64 v13.n, .sl 4 (Tm.encL v13.args)], .int .i64 0], .agg [.str (⟨#[100, 122]⟩), .agg [.int .i64 v17.op, .int .i64 v17.hd, .int .i64 v17.n, .sl 4 (Tm.encL v17.args)], .int .i64 0]] (ds' := (Dc.encL ([(Dc.mk (⟨#[110, 97, 116]⟩) (Tm.mk 1 0 0 ([])) 0), (Dc.mk (⟨#[122]⟩) v1 0), (Dc.mk (⟨#[115]⟩) v7 0), (Dc.mk (⟨#[100, 111, 117, 98, 108, 101]⟩) v13 0), (Dc.mk (⟨#[100, 122]⟩) v17 0)]))) rfl (by kernel_rfl) ⟨⟨rfl, rfl, rfl, ⟨[(.v (.string (⟨#[110, 97, 116]⟩)))], _, rfl, rfl, ⟨[(.v (.int .i64 1)), (.v (.int .i64 0)), (.v (.int .i64 0)), (.v (.slice none 0 0))], _, rfl, ⟨[(.v (.int .i64 1))], _, rfl, rfl, ⟨[(.v (.int .i64 0))], _, rfl, rfl, ⟨[(.v (.int .i64 0))], _, rfl, rfl, ⟨[(.v (.slice none 0 0))], _, rfl, (.inr ⟨rfl, rfl⟩), rfl⟩⟩⟩⟩, ⟨[(.v (.int .i64 0))], _, rfl, rfl, rfl⟩⟩⟩⟩, ⟨⟨rfl, rfl, rfl, ⟨[(.v (.string (⟨#[122]⟩)))], _, rfl, rfl, ⟨[(.v (.int .i64 v1.op)), (.v (.int .i64 v1.hd)), (.v (.int .i64 v1.n)), (.v (.slice a3 ((Tm.encL v1.args).length) c3))], _, rfl, ⟨[(.v (.int .i64 v1.op))], _, rfl, rfl, ⟨[(.v (.int .i64 v1.hd))], _, rfl, rfl, ⟨[(.v (.int .i64 v1.n))], _, rfl, rfl, ⟨[(.v (.slice a3 ((Tm.encL v1.args).length) c3))], _, rfl, (.inl ⟨_, rfl, nth_mem (j := 1) rfl⟩), rfl⟩⟩⟩⟩, ⟨[(.v (.int .i64 0))], _, rfl, rfl, rfl⟩⟩⟩⟩, ⟨⟨rfl, rfl, rfl, ⟨[(.v (.string (⟨#[115]⟩)))], _, rfl, rfl, ⟨[(.v (.int .i64 v7.op)), (.v (.int .i64 v7.hd)), (.v (.int .i64 v7.n)), (.v (.slice a21 ((Tm.encL v7.args).length) c21))], _, rfl, ⟨[(.v (.int .i64 v7.op))], _, rfl, rfl, ⟨[(.v (.int .i64 v7.hd))], _, rfl, rfl, ⟨[(.v (.int .i64 v7.n))], _, rfl, rfl, ⟨[(.v (.slice a21 ((Tm.encL v7.args).length) c21))], _, rfl, (.inl ⟨_, rfl, nth_mem (j := 3) rfl⟩), rfl⟩⟩⟩⟩, ⟨[(.v (.int .i64 0))], _, rfl, rfl, rfl⟩⟩⟩⟩, ⟨⟨rfl, rfl, rfl, ⟨[(.v (.string (⟨#[100, 111, 117, 98, 108, 101]⟩)))], _, rfl, rfl, ⟨[(.v (.int .i64 v13.op)), (.v (.int .i64 v13.hd)), (.v (.int .i64 v13.n)), (.v (.slice a23 ((Tm.encL v13.args).length) c23))], _, rfl, ⟨[(.v (.int .i64 v13.op))], _, rfl, rfl, ⟨[(.v (.int .i64 v13.hd))], _, rfl, rfl, ⟨[(.v (.int .i64 v13.n))], _, rfl, rfl, ⟨[(.v (.slice a23 ((Tm.encL v13.args).length) c23))], _, rfl, (.inl ⟨_, rfl, nth_mem (j := 5) rfl⟩), rfl⟩⟩⟩⟩, ⟨[(.v (.int .i64 0))], _, rfl, rfl, rfl⟩⟩⟩⟩, ⟨⟨rfl, rfl, rfl, ⟨[(.v (.string (⟨#[100, 122]⟩)))], _, rfl, rfl, ⟨[(.v (.int .i64 v17.op)), (.v (.int .i64 v17.hd)), (.v (.int .i64 v17.n)), (.v (.slice a25 ((Tm.encL v17.args).length) c25))], _, rfl, ⟨[(.v (.int .i64 v17.op))], _, rfl, rfl, ⟨[(.v (.int .i64 v17.hd))], _, rfl, rfl, ⟨[(.v (.int .i64 v17.n))], _, rfl, rfl, ⟨[(.v (.slice a25 ((Tm.encL v17.args).length) c25))], _, rfl, (.inl ⟨_, rfl, nth_mem (j := 7) rfl⟩), rfl⟩⟩⟩⟩, ⟨[(.v (.int .i64 0))], _, rfl, rfl, rfl⟩⟩⟩⟩, trivial⟩⟩⟩⟩⟩ rfl (by simp only [Dc.encL_eq, List.map_cons, List.map_nil, Dc.enc_eq] <;> rfl) (by decide) (by decide) ?_
        intro a26
        replace hr := Option.some.inj hr
        subst hr
        exact AtRet.pureG [.old 8] [(.slice a26 ((Dc.encL ([(Dc.mk (⟨#[110, 97, 116]⟩) (Tm.mk 1 0 0 ([])) 0), (Dc.mk (⟨#[122]⟩) v1 0), (Dc.mk (⟨#[115]⟩) v7 0), (Dc.mk (⟨#[100, 111, 117, 98, 108, 101]⟩) v13 0), (Dc.mk (⟨#[100, 122]⟩) v17 0)])).length) 5, .sl 6 (Dc.encL ([(Dc.mk (⟨#[110, 97, 116]⟩) (Tm.mk 1 0 0 ([])) 0), (Dc.mk (⟨#[122]⟩) v1 0), (Dc.mk (⟨#[115]⟩) v7 0), (Dc.mk (⟨#[100, 111, 117, 98, 108, 101]⟩) v13 0), (Dc.mk (⟨#[100, 122]⟩) v17 0)])))] rfl rfl ⟨a26, 5, rfl, rfl⟩
      ·
        refine at_buildG (n := 2) ttOK 48 [.agg [.int .i64 v4.op, .int .i64 v4.hd, .int .i64 v4.n, .sl 4 (Tm.encL v4.args)], .agg [.int .i64 v4.op, .int .i64 v4.hd, .int .i64 v4.n, .sl 4 (Tm.encL v4.args)]] (ds' := (Tm.encL ([v4, v4]))) rfl (by kernel_rfl) ⟨⟨rfl, rfl, rfl, ⟨[(.v (.int .i64 v4.op))], _, rfl, rfl, ⟨[(.v (.int .i64 v4.hd))], _, rfl, rfl, ⟨[(.v (.int .i64 v4.n))], _, rfl, rfl, ⟨[(.v (.slice a6 ((Tm.encL v4.args).length) c6))], _, rfl, (.inl ⟨_, rfl, nth_mem (j := 2) rfl⟩), rfl⟩⟩⟩⟩⟩, ⟨⟨rfl, rfl, rfl, ⟨[(.v (.int .i64 v4.op))], _, rfl, rfl, ⟨[(.v (.int .i64 v4.hd))], _, rfl, rfl, ⟨[(.v (.int .i64 v4.n))], _, rfl, rfl, ⟨[(.v (.slice a6 ((Tm.encL v4.args).length) c6))], _, rfl, (.inl ⟨_, rfl, nth_mem (j := 2) rfl⟩), rfl⟩⟩⟩⟩⟩, trivial⟩⟩ rfl (by simp only [Tm.encL_eq, List.map_cons, List.map_nil, Tm.enc_eq] <;> rfl) (by decide) (by decide) ?_
        intro a27
        refine ⟨fun _ _ h => h, ?_⟩
        refine (R03_Pi_spec n v1 v10 a3 c3 a22 c22 _ h14).atR [1, 4] rfl rfl rfl ?_
        rintro _ _ ⟨a28, c28, rfl, rfl⟩
        refine ⟨fun _ _ h => h, ?_⟩
        refine (R03_App_spec n 2 3 ([v4, v4]) a27 2 _ h18).atR [5] rfl rfl rfl ?_
        rintro _ _ ⟨a29, c29, rfl, rfl⟩
        refine ⟨fun _ _ h => h, ?_⟩
        refine at_buildG (n := 5) ttOK 72 [.agg [.str (⟨#[110, 97, 116]⟩), .agg [.int .i64 1, .int .i64 0, .int .i64 0, .sl 4 []], .int .i64 0], .agg [.str (⟨#[122]⟩), .agg [.int .i64 v1.op, .int .i64 v1.hd, .int .i64 v1.n, .sl 4 (Tm.encL v1.args)], .int .i64 0], .agg [.str (⟨#[115]⟩), .agg [.int .i64 v7.op, .int .i64 v7.hd, .int .i64 v7.n, .sl 4 (Tm.encL v7.args)], .int .i64 0], .agg [.str (⟨#[100, 111, 117, 98, 108, 101]⟩), .agg [.int .i64 v13.op, .int .i64 v13.hd, .int .i64 v13.n, .sl 4 (Tm.encL v13.args)], .int .i64 0], .agg [.str (⟨#[100, 122]⟩), .agg [.int .i64 v17.op, .int .i64 v17.hd, .int .i64 v17.n, .sl 4 (Tm.encL v17.args)], .int .i64 0]] (ds' := (Dc.encL ([(Dc.mk (⟨#[110, 97, 116]⟩) (Tm.mk 1 0 0 ([])) 0), (Dc.mk (⟨#[122]⟩) v1 0), (Dc.mk (⟨#[115]⟩) v7 0), (Dc.mk (⟨#[100, 111, 117, 98, 108, 101]⟩) v13 0), (Dc.mk (⟨#[100, 122]⟩) v17 0)]))) rfl (by kernel_rfl) ⟨⟨rfl, rfl, rfl, ⟨[(.v (.string (⟨#[110, 97, 116]⟩)))], _, rfl, rfl, ⟨[(.v (.int .i64 1)), (.v (.int .i64 0)), (.v (.int .i64 0)), (.v (.slice none 0 0))], _, rfl, ⟨[(.v (.int .i64 1))], _, rfl, rfl, ⟨[(.v (.int .i64 0))], _, rfl, rfl, ⟨[(.v (.int .i64 0))], _, rfl, rfl, ⟨[(.v (.slice none 0 0))], _, rfl, (.inr ⟨rfl, rfl⟩), rfl⟩⟩⟩⟩, ⟨[(.v (.int .i64 0))], _, rfl, rfl, rfl⟩⟩⟩⟩, ⟨⟨rfl, rfl, rfl, ⟨[(.v (.string (⟨#[122]⟩)))], _, rfl, rfl, ⟨[(.v (.int .i64 v1.op)), (.v (.int .i64 v1.hd)), (.v (.int .i64 v1.n)), (.v (.slice a3 ((Tm.encL v1.args).length) c3))], _, rfl, ⟨[(.v (.int .i64 v1.op))], _, rfl, rfl, ⟨[(.v (.int .i64 v1.hd))], _, rfl, rfl, ⟨[(.v (.int .i64 v1.n))], _, rfl, rfl, ⟨[(.v (.slice a3 ((Tm.encL v1.args).length) c3))], _, rfl, (.inl ⟨_, rfl, nth_mem (j := 1) rfl⟩), rfl⟩⟩⟩⟩, ⟨[(.v (.int .i64 0))], _, rfl, rfl, rfl⟩⟩⟩⟩, ⟨⟨rfl, rfl, rfl, ⟨[(.v (.string (⟨#[115]⟩)))], _, rfl, rfl, ⟨[(.v (.int .i64 v7.op)), (.v (.int .i64 v7.hd)), (.v (.int .i64 v7.n)), (.v (.slice a21 ((Tm.encL v7.args).length) c21))], _, rfl, ⟨[(.v (.int .i64 v7.op))], _, rfl, rfl, ⟨[(.v (.int .i64 v7.hd))], _, rfl, rfl, ⟨[(.v (.int .i64 v7.n))], _, rfl, rfl, ⟨[(.v (.slice a21 ((Tm.encL v7.args).length) c21))], _, rfl, (.inl ⟨_, rfl, nth_mem (j := 3) rfl⟩), rfl⟩⟩⟩⟩, ⟨[(.v (.int .i64 0))], _, rfl, rfl, rfl⟩⟩⟩⟩, ⟨⟨rfl, rfl, rfl, ⟨[(.v (.string (⟨#[100, 111, 117, 98, 108, 101]⟩)))], _, rfl, rfl, ⟨[(.v (.int .i64 v13.op)), (.v (.int .i64 v13.hd)), (.v (.int .i64 v13.n)), (.v (.slice a28 ((Tm.encL v13.args).length) c28))], _, rfl, ⟨[(.v (.int .i64 v13.op))], _, rfl, rfl, ⟨[(.v (.int .i64 v13.hd))], _, rfl, rfl, ⟨[(.v (.int .i64 v13.n))], _, rfl, rfl, ⟨[(.v (.slice a28 ((Tm.encL v13.args).length) c28))], _, rfl, (.inl ⟨_, rfl, nth_mem (j := 6) rfl⟩), rfl⟩⟩⟩⟩, ⟨[(.v (.int .i64 0))], _, rfl, rfl, rfl⟩⟩⟩⟩, ⟨⟨rfl, rfl, rfl, ⟨[(.v (.string (⟨#[100, 122]⟩)))], _, rfl, rfl, ⟨[(.v (.int .i64 v17.op)), (.v (.int .i64 v17.hd)), (.v (.int .i64 v17.n)), (.v (.slice a29 ((Tm.encL v17.args).length) c29))], _, rfl, ⟨[(.v (.int .i64 v17.op))], _, rfl, rfl, ⟨[(.v (.int .i64 v17.hd))], _, rfl, rfl, ⟨[(.v (.int .i64 v17.n))], _, rfl, rfl, ⟨[(.v (.slice a29 ((Tm.encL v17.args).length) c29))], _, rfl, (.inl ⟨_, rfl, nth_mem (j := 7) rfl⟩), rfl⟩⟩⟩⟩, ⟨[(.v (.int .i64 0))], _, rfl, rfl, rfl⟩⟩⟩⟩, trivial⟩⟩⟩⟩⟩ rfl (by simp only [Dc.encL_eq, List.map_cons, List.map_nil, Dc.enc_eq] <;> rfl) (by decide) (by decide) ?_
        intro a30
        replace hr := Option.some.inj hr
        subst hr
        exact AtRet.pureG [.old 8] [(.slice a30 ((Dc.encL ([(Dc.mk (⟨#[110, 97, 116]⟩) (Tm.mk 1 0 0 ([])) 0), (Dc.mk (⟨#[122]⟩) v1 0), (Dc.mk (⟨#[115]⟩) v7 0), (Dc.mk (⟨#[100, 111, 117, 98, 108, 101]⟩) v13 0), (Dc.mk (⟨#[100, 122]⟩) v17 0)])).length) 5, .sl 6 (Dc.encL ([(Dc.mk (⟨#[110, 97, 116]⟩) (Tm.mk 1 0 0 ([])) 0), (Dc.mk (⟨#[122]⟩) v1 0), (Dc.mk (⟨#[115]⟩) v7 0), (Dc.mk (⟨#[100, 111, 117, 98, 108, 101]⟩) v13 0), (Dc.mk (⟨#[100, 122]⟩) v17 0)])))] rfl rfl ⟨a30, 5, rfl, rfl⟩
    ·
      refine at_buildG (n := 2) ttOK 48 [.agg [.int .i64 v4.op, .int .i64 v4.hd, .int .i64 v4.n, .sl 4 (Tm.encL v4.args)], .agg [.int .i64 v4.op, .int .i64 v4.hd, .int .i64 v4.n, .sl 4 (Tm.encL v4.args)]] (ds' := (Tm.encL ([v4, v4]))) rfl (by kernel_rfl) ⟨⟨rfl, rfl, rfl, ⟨[(.v (.int .i64 v4.op))], _, rfl, rfl, ⟨[(.v (.int .i64 v4.hd))], _, rfl, rfl, ⟨[(.v (.int .i64 v4.n))], _, rfl, rfl, ⟨[(.v (.slice a6 ((Tm.encL v4.args).length) c6))], _, rfl, (.inl ⟨_, rfl, nth_mem (j := 2) rfl⟩), rfl⟩⟩⟩⟩⟩, ⟨⟨rfl, rfl, rfl, ⟨[(.v (.int .i64 v4.op))], _, rfl, rfl, ⟨[(.v (.int .i64 v4.hd))], _, rfl, rfl, ⟨[(.v (.int .i64 v4.n))], _, rfl, rfl, ⟨[(.v (.slice a6 ((Tm.encL v4.args).length) c6))], _, rfl, (.inl ⟨_, rfl, nth_mem (j := 2) rfl⟩), rfl⟩⟩⟩⟩⟩, trivial⟩⟩ rfl (by simp only [Tm.encL_eq, List.map_cons, List.map_nil, Tm.enc_eq] <;> rfl) (by decide) (by decide) ?_
      intro a31
      refine ⟨fun _ _ h => h, ?_⟩
      refine (R03_Pi_spec n v1 (Tm.mk 1 0 0 ([])) a3 c3 none 0 _ h11).atR [1, 0] rfl rfl rfl ?_
      rintro _ _ ⟨a32, c32, rfl, rfl⟩
      refine ⟨fun _ _ h => h, ?_⟩
      refine (R03_Pi_spec n v1 v10 a3 c3 a32 c32 _ h14).atR [1, 5] rfl rfl rfl ?_
      rintro _ _ ⟨a33, c33, rfl, rfl⟩
      refine ⟨fun _ _ h => h, ?_⟩
      refine (R03_App_spec n 2 3 ([v4, v4]) a31 2 _ h18).atR [4] rfl rfl rfl ?_
      rintro _ _ ⟨a34, c34, rfl, rfl⟩
      refine ⟨fun _ _ h => h, ?_⟩
      refine at_buildG (n := 5) ttOK 72 [.agg [.str (⟨#[110, 97, 116]⟩), .agg [.int .i64 1, .int .i64 0, .int .i64 0, .sl 4 []], .int .i64 0], .agg [.str (⟨#[122]⟩), .agg [.int .i64 v1.op, .int .i64 v1.hd, .int .i64 v1.n, .sl 4 (Tm.encL v1.args)], .int .i64 0], .agg [.str (⟨#[115]⟩), .agg [.int .i64 v7.op, .int .i64 v7.hd, .int .i64 v7.n, .sl 4 (Tm.encL v7.args)], .int .i64 0], .agg [.str (⟨#[100, 111, 117, 98, 108, 101]⟩), .agg [.int .i64 v13.op, .int .i64 v13.hd, .int .i64 v13.n, .sl 4 (Tm.encL v13.args)], .int .i64 0], .agg [.str (⟨#[100, 122]⟩), .agg [.int .i64 v17.op, .int .i64 v17.hd, .int .i64 v17.n, .sl 4 (Tm.encL v17.args)], .int .i64 0]] (ds' := (Dc.encL ([(Dc.mk (⟨#[110, 97, 116]⟩) (Tm.mk 1 0 0 ([])) 0), (Dc.mk (⟨#[122]⟩) v1 0), (Dc.mk (⟨#[115]⟩) v7 0), (Dc.mk (⟨#[100, 111, 117, 98, 108, 101]⟩) v13 0), (Dc.mk (⟨#[100, 122]⟩) v17 0)]))) rfl (by kernel_rfl) ⟨⟨rfl, rfl, rfl, ⟨[(.v (.string (⟨#[110, 97, 116]⟩)))], _, rfl, rfl, ⟨[(.v (.int .i64 1)), (.v (.int .i64 0)), (.v (.int .i64 0)), (.v (.slice none 0 0))], _, rfl, ⟨[(.v (.int .i64 1))], _, rfl, rfl, ⟨[(.v (.int .i64 0))], _, rfl, rfl, ⟨[(.v (.int .i64 0))], _, rfl, rfl, ⟨[(.v (.slice none 0 0))], _, rfl, (.inr ⟨rfl, rfl⟩), rfl⟩⟩⟩⟩, ⟨[(.v (.int .i64 0))], _, rfl, rfl, rfl⟩⟩⟩⟩, ⟨⟨rfl, rfl, rfl, ⟨[(.v (.string (⟨#[122]⟩)))], _, rfl, rfl, ⟨[(.v (.int .i64 v1.op)), (.v (.int .i64 v1.hd)), (.v (.int .i64 v1.n)), (.v (.slice a3 ((Tm.encL v1.args).length) c3))], _, rfl, ⟨[(.v (.int .i64 v1.op))], _, rfl, rfl, ⟨[(.v (.int .i64 v1.hd))], _, rfl, rfl, ⟨[(.v (.int .i64 v1.n))], _, rfl, rfl, ⟨[(.v (.slice a3 ((Tm.encL v1.args).length) c3))], _, rfl, (.inl ⟨_, rfl, nth_mem (j := 1) rfl⟩), rfl⟩⟩⟩⟩, ⟨[(.v (.int .i64 0))], _, rfl, rfl, rfl⟩⟩⟩⟩, ⟨⟨rfl, rfl, rfl, ⟨[(.v (.string (⟨#[115]⟩)))], _, rfl, rfl, ⟨[(.v (.int .i64 v7.op)), (.v (.int .i64 v7.hd)), (.v (.int .i64 v7.n)), (.v (.slice a21 ((Tm.encL v7.args).length) c21))], _, rfl, ⟨[(.v (.int .i64 v7.op))], _, rfl, rfl, ⟨[(.v (.int .i64 v7.hd))], _, rfl, rfl, ⟨[(.v (.int .i64 v7.n))], _, rfl, rfl, ⟨[(.v (.slice a21 ((Tm.encL v7.args).length) c21))], _, rfl, (.inl ⟨_, rfl, nth_mem (j := 3) rfl⟩), rfl⟩⟩⟩⟩, ⟨[(.v (.int .i64 0))], _, rfl, rfl, rfl⟩⟩⟩⟩, ⟨⟨rfl, rfl, rfl, ⟨[(.v (.string (⟨#[100, 111, 117, 98, 108, 101]⟩)))], _, rfl, rfl, ⟨[(.v (.int .i64 v13.op)), (.v (.int .i64 v13.hd)), (.v (.int .i64 v13.n)), (.v (.slice a33 ((Tm.encL v13.args).length) c33))], _, rfl, ⟨[(.v (.int .i64 v13.op))], _, rfl, rfl, ⟨[(.v (.int .i64 v13.hd))], _, rfl, rfl, ⟨[(.v (.int .i64 v13.n))], _, rfl, rfl, ⟨[(.v (.slice a33 ((Tm.encL v13.args).length) c33))], _, rfl, (.inl ⟨_, rfl, nth_mem (j := 6) rfl⟩), rfl⟩⟩⟩⟩, ⟨[(.v (.int .i64 0))], _, rfl, rfl, rfl⟩⟩⟩⟩, ⟨⟨rfl, rfl, rfl, ⟨[(.v (.string (⟨#[100, 122]⟩)))], _, rfl, rfl, ⟨[(.v (.int .i64 v17.op)), (.v (.int .i64 v17.hd)), (.v (.int .i64 v17.n)), (.v (.slice a34 ((Tm.encL v17.args).length) c34))], _, rfl, ⟨[(.v (.int .i64 v17.op))], _, rfl, rfl, ⟨[(.v (.int .i64 v17.hd))], _, rfl, rfl, ⟨[(.v (.int .i64 v17.n))], _, rfl, rfl, ⟨[(.v (.slice a34 ((Tm.encL v17.args).length) c34))], _, rfl, (.inl ⟨_, rfl, nth_mem (j := 7) rfl⟩), rfl⟩⟩⟩⟩, ⟨[(.v (.int .i64 0))], _, rfl, rfl, rfl⟩⟩⟩⟩, trivial⟩⟩⟩⟩⟩ rfl (by simp only [Dc.encL_eq, List.map_cons, List.map_nil, Dc.enc_eq] <;> rfl) (by decide) (by decide) ?_
      intro a35
      replace hr := Option.some.inj hr
      subst hr
      exact AtRet.pureG [.old 8] [(.slice a35 ((Dc.encL ([(Dc.mk (⟨#[110, 97, 116]⟩) (Tm.mk 1 0 0 ([])) 0), (Dc.mk (⟨#[122]⟩) v1 0), (Dc.mk (⟨#[115]⟩) v7 0), (Dc.mk (⟨#[100, 111, 117, 98, 108, 101]⟩) v13 0), (Dc.mk (⟨#[100, 122]⟩) v17 0)])).length) 5, .sl 6 (Dc.encL ([(Dc.mk (⟨#[110, 97, 116]⟩) (Tm.mk 1 0 0 ([])) 0), (Dc.mk (⟨#[122]⟩) v1 0), (Dc.mk (⟨#[115]⟩) v7 0), (Dc.mk (⟨#[100, 111, 117, 98, 108, 101]⟩) v13 0), (Dc.mk (⟨#[100, 122]⟩) v17 0)])))] rfl rfl ⟨a35, 5, rfl, rfl⟩
  ·
    refine at_buildG (n := 2) ttOK 48 [.agg [.int .i64 v4.op, .int .i64 v4.hd, .int .i64 v4.n, .sl 4 (Tm.encL v4.args)], .agg [.int .i64 v4.op, .int .i64 v4.hd, .int .i64 v4.n, .sl 4 (Tm.encL v4.args)]] (ds' := (Tm.encL ([v4, v4]))) rfl (by kernel_rfl) ⟨⟨rfl, rfl, rfl, ⟨[(.v (.int .i64 v4.op))], _, rfl, rfl, ⟨[(.v (.int .i64 v4.hd))], _, rfl, rfl, ⟨[(.v (.int .i64 v4.n))], _, rfl, rfl, ⟨[(.v (.slice a6 ((Tm.encL v4.args).length) c6))], _, rfl, (.inl ⟨_, rfl, nth_mem (j := 2) rfl⟩), rfl⟩⟩⟩⟩⟩, ⟨⟨rfl, rfl, rfl, ⟨[(.v (.int .i64 v4.op))], _, rfl, rfl, ⟨[(.v (.int .i64 v4.hd))], _, rfl, rfl, ⟨[(.v (.int .i64 v4.n))], _, rfl, rfl, ⟨[(.v (.slice a6 ((Tm.encL v4.args).length) c6))], _, rfl, (.inl ⟨_, rfl, nth_mem (j := 2) rfl⟩), rfl⟩⟩⟩⟩⟩, trivial⟩⟩ rfl (by simp only [Tm.encL_eq, List.map_cons, List.map_nil, Tm.enc_eq] <;> rfl) (by decide) (by decide) ?_
    intro a36
    refine ⟨fun _ _ h => h, ?_⟩
    refine (R03_Pi_spec n v1 v1 a3 c3 a3 c3 _ h8).atR [1, 1] rfl rfl rfl ?_
    rintro _ _ ⟨a37, c37, rfl, rfl⟩
    refine ⟨fun _ _ h => h, ?_⟩
    refine (R03_Pi_spec n v1 (Tm.mk 1 0 0 ([])) a3 c3 none 0 _ h11).atR [1, 0] rfl rfl rfl ?_
    rintro _ _ ⟨a38, c38, rfl, rfl⟩
    refine ⟨fun _ _ h => h, ?_⟩
    refine (R03_Pi_spec n v1 v10 a3 c3 a38 c38 _ h14).atR [1, 5] rfl rfl rfl ?_
    rintro _ _ ⟨a39, c39, rfl, rfl⟩
    refine ⟨fun _ _ h => h, ?_⟩
    refine (R03_App_spec n 2 3 ([v4, v4]) a36 2 _ h18).atR [3] rfl rfl rfl ?_
    rintro _ _ ⟨a40, c40, rfl, rfl⟩
    refine ⟨fun _ _ h => h, ?_⟩
    refine at_buildG (n := 5) ttOK 72 [.agg [.str (⟨#[110, 97, 116]⟩), .agg [.int .i64 1, .int .i64 0, .int .i64 0, .sl 4 []], .int .i64 0], .agg [.str (⟨#[122]⟩), .agg [.int .i64 v1.op, .int .i64 v1.hd, .int .i64 v1.n, .sl 4 (Tm.encL v1.args)], .int .i64 0], .agg [.str (⟨#[115]⟩), .agg [.int .i64 v7.op, .int .i64 v7.hd, .int .i64 v7.n, .sl 4 (Tm.encL v7.args)], .int .i64 0], .agg [.str (⟨#[100, 111, 117, 98, 108, 101]⟩), .agg [.int .i64 v13.op, .int .i64 v13.hd, .int .i64 v13.n, .sl 4 (Tm.encL v13.args)], .int .i64 0], .agg [.str (⟨#[100, 122]⟩), .agg [.int .i64 v17.op, .int .i64 v17.hd, .int .i64 v17.n, .sl 4 (Tm.encL v17.args)], .int .i64 0]] (ds' := (Dc.encL ([(Dc.mk (⟨#[110, 97, 116]⟩) (Tm.mk 1 0 0 ([])) 0), (Dc.mk (⟨#[122]⟩) v1 0), (Dc.mk (⟨#[115]⟩) v7 0), (Dc.mk (⟨#[100, 111, 117, 98, 108, 101]⟩) v13 0), (Dc.mk (⟨#[100, 122]⟩) v17 0)]))) rfl (by kernel_rfl) ⟨⟨rfl, rfl, rfl, ⟨[(.v (.string (⟨#[110, 97, 116]⟩)))], _, rfl, rfl, ⟨[(.v (.int .i64 1)), (.v (.int .i64 0)), (.v (.int .i64 0)), (.v (.slice none 0 0))], _, rfl, ⟨[(.v (.int .i64 1))], _, rfl, rfl, ⟨[(.v (.int .i64 0))], _, rfl, rfl, ⟨[(.v (.int .i64 0))], _, rfl, rfl, ⟨[(.v (.slice none 0 0))], _, rfl, (.inr ⟨rfl, rfl⟩), rfl⟩⟩⟩⟩, ⟨[(.v (.int .i64 0))], _, rfl, rfl, rfl⟩⟩⟩⟩, ⟨⟨rfl, rfl, rfl, ⟨[(.v (.string (⟨#[122]⟩)))], _, rfl, rfl, ⟨[(.v (.int .i64 v1.op)), (.v (.int .i64 v1.hd)), (.v (.int .i64 v1.n)), (.v (.slice a3 ((Tm.encL v1.args).length) c3))], _, rfl, ⟨[(.v (.int .i64 v1.op))], _, rfl, rfl, ⟨[(.v (.int .i64 v1.hd))], _, rfl, rfl, ⟨[(.v (.int .i64 v1.n))], _, rfl, rfl, ⟨[(.v (.slice a3 ((Tm.encL v1.args).length) c3))], _, rfl, (.inl ⟨_, rfl, nth_mem (j := 1) rfl⟩), rfl⟩⟩⟩⟩, ⟨[(.v (.int .i64 0))], _, rfl, rfl, rfl⟩⟩⟩⟩, ⟨⟨rfl, rfl, rfl, ⟨[(.v (.string (⟨#[115]⟩)))], _, rfl, rfl, ⟨[(.v (.int .i64 v7.op)), (.v (.int .i64 v7.hd)), (.v (.int .i64 v7.n)), (.v (.slice a37 ((Tm.encL v7.args).length) c37))], _, rfl, ⟨[(.v (.int .i64 v7.op))], _, rfl, rfl, ⟨[(.v (.int .i64 v7.hd))], _, rfl, rfl, ⟨[(.v (.int .i64 v7.n))], _, rfl, rfl, ⟨[(.v (.slice a37 ((Tm.encL v7.args).length) c37))], _, rfl, (.inl ⟨_, rfl, nth_mem (j := 4) rfl⟩), rfl⟩⟩⟩⟩, ⟨[(.v (.int .i64 0))], _, rfl, rfl, rfl⟩⟩⟩⟩, ⟨⟨rfl, rfl, rfl, ⟨[(.v (.string (⟨#[100, 111, 117, 98, 108, 101]⟩)))], _, rfl, rfl, ⟨[(.v (.int .i64 v13.op)), (.v (.int .i64 v13.hd)), (.v (.int .i64 v13.n)), (.v (.slice a39 ((Tm.encL v13.args).length) c39))], _, rfl, ⟨[(.v (.int .i64 v13.op))], _, rfl, rfl, ⟨[(.v (.int .i64 v13.hd))], _, rfl, rfl, ⟨[(.v (.int .i64 v13.n))], _, rfl, rfl, ⟨[(.v (.slice a39 ((Tm.encL v13.args).length) c39))], _, rfl, (.inl ⟨_, rfl, nth_mem (j := 6) rfl⟩), rfl⟩⟩⟩⟩, ⟨[(.v (.int .i64 0))], _, rfl, rfl, rfl⟩⟩⟩⟩, ⟨⟨rfl, rfl, rfl, ⟨[(.v (.string (⟨#[100, 122]⟩)))], _, rfl, rfl, ⟨[(.v (.int .i64 v17.op)), (.v (.int .i64 v17.hd)), (.v (.int .i64 v17.n)), (.v (.slice a40 ((Tm.encL v17.args).length) c40))], _, rfl, ⟨[(.v (.int .i64 v17.op))], _, rfl, rfl, ⟨[(.v (.int .i64 v17.hd))], _, rfl, rfl, ⟨[(.v (.int .i64 v17.n))], _, rfl, rfl, ⟨[(.v (.slice a40 ((Tm.encL v17.args).length) c40))], _, rfl, (.inl ⟨_, rfl, nth_mem (j := 7) rfl⟩), rfl⟩⟩⟩⟩, ⟨[(.v (.int .i64 0))], _, rfl, rfl, rfl⟩⟩⟩⟩, trivial⟩⟩⟩⟩⟩ rfl (by simp only [Dc.encL_eq, List.map_cons, List.map_nil, Dc.enc_eq] <;> rfl) (by decide) (by decide) ?_
    intro a41
    replace hr := Option.some.inj hr
    subst hr
    exact AtRet.pureG [.old 8] [(.slice a41 ((Dc.encL ([(Dc.mk (⟨#[110, 97, 116]⟩) (Tm.mk 1 0 0 ([])) 0), (Dc.mk (⟨#[122]⟩) v1 0), (Dc.mk (⟨#[115]⟩) v7 0), (Dc.mk (⟨#[100, 111, 117, 98, 108, 101]⟩) v13 0), (Dc.mk (⟨#[100, 122]⟩) v17 0)])).length) 5, .sl 6 (Dc.encL ([(Dc.mk (⟨#[110, 97, 116]⟩) (Tm.mk 1 0 0 ([])) 0), (Dc.mk (⟨#[122]⟩) v1 0), (Dc.mk (⟨#[115]⟩) v7 0), (Dc.mk (⟨#[100, 111, 117, 98, 108, 101]⟩) v13 0), (Dc.mk (⟨#[100, 122]⟩) v17 0)])))] rfl rfl ⟨a41, 5, rfl, rfl⟩
mutual
def mode_Check : Nat → (List Dc) → (List Md) → Int → Option (Int × Int × Int)
  | 0, _, _, _ => none
  | n + 1, v1, v3, v5 =>
    (sign_Check n v1).bind (fun v6 =>
    cond (v6 != 0) (
    some (0, 0, 2)) (
    mode_Check_L1 n v3 v1 v5 ([]) 0))
def mode_Check_L1 : Nat → (List Md) → (List Dc) → Int → (List (Int × Md)) → Int → Option (Int × Int × Int)
  | 0, _, _, _, _, _ => none
  | n + 1, v3, v1, v5, v20, v22 =>
    cond (decide (v22 < ((Md.encL v3).length : Int))) (
    (idx v3 v22).bind (fun v24 =>
    cond ((mget v20 v24.family).isSome) (
    some (0, 0, 2)) (
    (mode_isMode n v1 v24).bind (fun v31 =>
    cond ((!v31) || (decide (((Md.encL v3).length : Int) > 40))) (
    some (0, 0, 2)) (
    mode_Check_L1 n v3 v1 v5 (mput v24.family v24 v20) (IntKind.i64.wrap (v22 + 1))))))) (
    cond ((decide (v5 < 0)) || (decide (v5 ≥ ((Dc.encL v1).length : Int)))) (
    some (0, 0, 6)) (
    (sign_Family n v1 v5).bind (fun v35 =>
    cond v35 (
    some (0, 0, 22)) (
    (mode_check n v1 v5 v20).bind (fun v38 =>
    some (v38.1, v38.2.1, v38.2.2))))))
 end
theorem mode_Check_spec (n : Nat) (v1 : (List Dc)) (v3 : (List Md)) (v5 : Int) (a2 : Option Addr) (c2 : Nat) (a4 : Option Addr) (c4 : Nat) (r : Int × Int × Int) (hr : mode_Check n v1 v3 v5 = some r) : Pure Tryz.prog (.val (.fn (.func 20) [] [])) [(.v (.slice a2 ((Dc.encL v1).length) c2)), (.v (.slice a4 ((Md.encL v3).length) c4)), (.v (.int .i64 v5))] [(.slice a2 ((Dc.encL v1).length) c2, .sl 6 (Dc.encL v1)), (.slice a4 ((Md.encL v3).length) c4, .sl 2 (Md.encL v3))] (fun r' out => r' = (.tup [(.v (.int .i64 r.1)), (.v (.int .i64 r.2.1)), (.v (.int .i64 r.2.2))]) ∧ out = []) := by
  rcases n with _ | n
  · exact no_some hr
  rw [mode_Check.eq_2] at hr
  refine spec_of_body (N := 36) (m := 0) (dt := fun _ => none) [] ttOK Tryz.func20 rfl Tryz.call20 Tryz.ntmps20 rfl rfl rfl mixed (by kernel_rfl) ?_
  obtain ⟨v6, h7, hr⟩ := bind_some hr
  refine (sign_Check_spec n v1 a2 c2 _ h7).atR [0] rfl rfl rfl ?_
  rintro _ _ ⟨rfl, rfl⟩
  refine AtIf.mk (fun h8 => ?_) (fun h8 => ?_)
  · replace hr := cond_t h8 hr
    replace hr := Option.some.inj hr
    subst hr
    exact AtRet.pureG [] [] rfl rfl ⟨rfl, rfl⟩
  · replace hr := cond_f h8 hr
    refine spec_of_body (N := 43) (m := 0) (dt := fun _ => none) [] ttOK Tryz.func32 rfl Tryz.call32 Tryz.ntmps32 rfl rfl rfl mixed (by kernel_rfl) ?_
    refine at_makeMapG .i64 Md.gv 1 Md.gp ?_
    refine AtLoop.mk ⟨Nat × (List (Int × GE Md)) × Int, fun x => [(0, (.v (.slice a2 ((Dc.encL v1).length) c2))), (1, (.v (.slice a4 ((Md.encL v3).length) c4))), (6, (.mp 0)), (12, (.v (.slice a4 ((Md.encL v3).length) c4))), (13, (.v (.int .i64 ((Md.encL v3).length : Int)))), (14, (.v (.int .i64 x.2.2)))], fun x => ⟨[.obj (mapO .i64 (encM Md.gv x.2.1))], [], [(.slice a2 ((Dc.encL v1).length) c2, .sl 6 (Dc.encL v1)), (.slice a4 ((Md.encL v3).length) c4, .sl 2 (Md.encL v3)), (agV 1 Md.gp x.2.1, agD 1 Md.gp x.2.1)]⟩, fun x => mode_Check_L1 x.1 v3 v1 v5 (er x.2.1) x.2.2 = some r, fun x => x.1, (n, ([] : List (Int × GE Md)), 0), hr, ⟨rfl, rfl, rfl, rfl, rfl, rfl, trivial⟩, (StLe.gen 1 [] [.old 0, .old 1, .old 2] rfl rfl rfl rfl rfl rfl rfl), fun x _ => ⟨rfl, rfl⟩, ?_⟩
    rintro ⟨n, g21, v22⟩ HH
    have hr : mode_Check_L1 n v3 v1 v5 (er g21) v22 = some r := HH
    rcases n with _ | n
    · exact no_some hr
    rw [mode_Check_L1.eq_2] at hr
    refine AtIf.mk (fun h23 => ?_) (fun h23 => ?_)
    · replace hr := cond_t h23 hr
      obtain ⟨v24, h25, hr⟩ := bind_some hr
      obtain ⟨h26, h27⟩ := idx_some h25
      refine at_index ttOK 1 rfl rfl rfl rfl h26 (Md.encL_get h27) ?_
      intro a28 c28 _ _
      refine at_lookupGE ttOK Md.gv Md.gk 1 Md.gp (Md.mk 0 ([])) _ 2 rfl Tryz.underlying3 Tryz.zeroValue25 rfl rfl (fun _ _ _ _ => rfl) (fun _ _ _ _ => rfl) rfl rfl rfl rfl ?_
      intro a29 c29
      refine AtGuard.mk (fun h30 => ?_) (fun h30 => ?_)
      · replace hr := cond_f h30 hr
        obtain ⟨v31, h32, hr⟩ := bind_some hr
        refine (mode_isMode_spec n v1 v24 a2 c2 a28 c28 _ h32).atR [0, 3] rfl rfl rfl ?_
        rintro _ _ ⟨rfl, rfl⟩
        refine AtIf.mk (fun h33 => ?_) (fun h33 => ?_)
        · replace hr := cond_t h33 hr
          refine AtRet.gen _ (StLe.refl _) rfl rfl ?_
          refine AtIf.mk (fun _ => ?_) (fun h => tf h)
          replace hr := Option.some.inj hr
          subst hr
          exact AtRet.pureG [] [] rfl rfl ⟨rfl, rfl⟩
        · replace hr := cond_f h33 hr
          refine at_mapPutGE ttOK Md.gv 1 Md.gp v24 a28 c28 2 3 rfl Tryz.underlying3 rfl rfl rfl (fun _ => rfl) rfl rfl rfl ?_
          exact ⟨(n, (mput v24.family (v24, a28, c28) g21), (IntKind.i64.wrap (v22 + 1))), (by simpa only [er_mput] using hr), Nat.lt_succ_self _, ⟨rfl, rfl, rfl, rfl, rfl, rfl, trivial⟩, (StLe.gen 1 [] [.old 0, .old 1, .old 2] rfl rfl rfl rfl rfl rfl rfl)⟩
      · replace hr := cond_t h30 hr
        refine AtIf.mk (fun _ => ?_) (fun h => tf h)
        refine AtRet.gen _ (StLe.refl _) rfl rfl ?_
        refine AtIf.mk (fun _ => ?_) (fun h => tf h)
        replace hr := Option.some.inj hr
        subst hr
        exact AtRet.pureG [] [] rfl rfl ⟨rfl, rfl⟩
    · replace hr := cond_f h23 hr
      refine AtRet.gen _ (StLe.refl _) rfl rfl ?_
      refine AtIf.mk (fun h => ff h) (fun _ => ?_)
      refine spec_of_body (N := 18) (m := 1) (dt := fun _ => none) [] ttOK Tryz.func47 rfl Tryz.call47 Tryz.ntmps47 rfl rfl rfl mixed (by kernel_rfl) ?_
      refine AtIf.mk (fun h34 => ?_) (fun h34 => ?_)
      · replace hr := cond_t h34 hr
        refine AtRet.gen _ (StLe.refl _) rfl rfl ?_
        refine AtIf.mk (fun _ => ?_) (fun h => tf h)
        replace hr := Option.some.inj hr
        subst hr
        exact AtRet.pureG [] [] rfl rfl ⟨rfl, rfl⟩
      · replace hr := cond_f h34 hr
        obtain ⟨v35, h36, hr⟩ := bind_some hr
        refine (sign_Family_spec n v1 v5 a2 c2 _ h36).atR [0] rfl rfl rfl ?_
        rintro _ _ ⟨rfl, rfl⟩
        refine AtIf.mk (fun h37 => ?_) (fun h37 => ?_)
        · replace hr := cond_t h37 hr
          refine AtRet.gen _ (StLe.refl _) rfl rfl ?_
          refine AtIf.mk (fun _ => ?_) (fun h => tf h)
          replace hr := Option.some.inj hr
          subst hr
          exact AtRet.pureG [] [] rfl rfl ⟨rfl, rfl⟩
        · replace hr := cond_f h37 hr
          refine AtRet.gen _ (StLe.refl _) rfl rfl ?_
          refine AtIf.mk (fun h => ff h) (fun _ => ?_)
          obtain ⟨v38, h39, hr⟩ := bind_some hr
          refine (mode_check_spec n v1 v5 g21 a2 c2 _ h39).frameR [0] [0, 2] rfl rfl rfl rfl rfl rfl rfl rfl ?_
          rintro _ _ ⟨rfl, rfl⟩
          refine ⟨rfl, rfl, [.obj (mapO .i64 (encM Md.gv g21))], rfl, ?_⟩
          replace hr := Option.some.inj hr
          subst hr
          exact AtRet.pureG [] [] rfl rfl ⟨rfl, rfl⟩
mutual
def mode_Read_2 : Nat → (List Dc) → It → Option (Md × Int)
  | 0, _, _ => none
  | n + 1, v1, v3 =>
    (sign_Check n v1).bind (fun v6 =>
    cond (v6 != 0) (
    some ((Md.mk 0 ([])), 2)) (
    cond ((((if itemOK v3 then (0 : Int) else 2) != 0) || (!(v3.word.toList == (⟨#[109, 111, 100, 101]⟩ : ByteArray).toList))) || (((Pt.encL v3.parts).length : Int) == 0)) (
    some ((Md.mk 0 ([])), 2)) (
    (idx v3.parts 0).bind (fun v10 =>
    cond (v10.op != 1) (
    some ((Md.mk 0 ([])), 2)) (
    cond (decide ((0 : Int) ≤ 1 ∧ 1 ≤ ((Pt.encL v3.parts).length : Int) ∧ ((Pt.encL v3.parts).length : Int) ≤ ((Pt.encL v3.parts).length : Int))) (
    mode_Read_2_L1 n v3 v1 ([]) 0) none)))))
def mode_Read_2_L3 : Nat → ((List Tm) × Tm) → Int → Dc → Md → Int → Option (Md × Int)
  | 0, _, _, _, _, _ => none
  | n + 1, v61, v116, v65, v139, v141 =>
    cond (decide (v141 < ((List.map (D.int .i64) ([2, 1])).length : Int))) (
    (idx ([2, 1]) v141).bind (fun v144 =>
    (mode_stands n v61.1 v139.signs v116 v65.implicit v144).bind (fun v148 =>
    cond v148 (
    cond (decide (0 ≤ v116 ∧ (v116).toNat < (List.map (D.int .i64) v139.signs).length)) (
    mode_Read_2_L3 n v61 v116 v65 (Md.mk v139.family (v139.signs.set ((v116).toNat) v144)) (IntKind.i64.wrap (v141 + 1))) none) (
    mode_Read_2_L3 n v61 v116 v65 v139 (IntKind.i64.wrap (v141 + 1)))))) (
    mode_Read_2_L2 n v65 v61 v139 (IntKind.i64.wrap (v116 + 1)))
def mode_Read_2_L2 : Nat → Dc → ((List Tm) × Tm) → Md → Int → Option (Md × Int)
  | 0, _, _, _, _ => none
  | n + 1, v65, v61, v114, v116 =>
    cond (decide (v116 < v65.implicit)) (
    cond (decide (0 ≤ v116 ∧ (v116).toNat < (List.map (D.int .i64) v114.signs).length)) (
    mode_Read_2_L3 n v61 v116 v65 (Md.mk v114.family (v114.signs.set ((v116).toNat) 3)) 0) none) (
    some (v114, 0))
def mode_Read_2_L1 : Nat → It → (List Dc) → (List Int) → Int → Option (Md × Int)
  | 0, _, _, _, _ => none
  | n + 1, v3, v1, v30, v32 =>
    cond (decide (v32 < ((Pt.encL (v3.parts.drop (1 : Int).toNat)).length : Int))) (
    (idx (v3.parts.drop (1 : Int).toNat) v32).bind (fun v34 =>
    cond (v34.op != 2) (
    some ((Md.mk 0 ([])), 2)) (
    cond (decide ((List.map (D.int .i64) (v30 ++ [((mget (mput (⟨#[42]⟩ : ByteArray) 3 (mput (⟨#[45]⟩ : ByteArray) 2 (mput (⟨#[43]⟩ : ByteArray) 1 ([])))) v34.sign).getD 0)])).length ≤ 1000000)) (
    mode_Read_2_L1 n v3 v1 (v30 ++ [((mget (mput (⟨#[42]⟩ : ByteArray) 3 (mput (⟨#[45]⟩ : ByteArray) 2 (mput (⟨#[43]⟩ : ByteArray) 1 ([])))) v34.sign).getD 0)]) (IntKind.i64.wrap (v32 + 1))) none))) (
    (idx v3.parts 0).bind (fun v44 =>
    (sign_Find n v1 v44.name).bind (fun v50 =>
    cond (v50.2 != 0) (
    some ((Md.mk 0 ([])), 20)) (
    (sign_Family n v1 v50.1).bind (fun v53 =>
    cond (!v53) (
    some ((Md.mk 0 ([])), 22)) (
    (idx v1 v50.1).bind (fun v56 =>
    (term_Domains n v56.cls).bind (fun v61 =>
    (idx v1 v50.1).bind (fun v65 =>
    cond (((Tm.encL v61.1).length : Int) != (IntKind.i64.wrap (v65.implicit + ((List.map (D.int .i64) v30).length : Int)))) (
    some ((Md.mk 0 ([])), 23)) (
    cond (decide ((0 : Int) ≤ v65.implicit ∧ (v65.implicit : Int) ≤ 1000000)) (
    cond (decide ((List.map (D.int .i64) ((List.replicate (v65.implicit).toNat (0 : Int)) ++ v30)).length ≤ 1000000)) (
    mode_Read_2_L2 n v65 v61 (Md.mk v50.1 ((List.replicate (v65.implicit).toNat (0 : Int)) ++ v30)) 0) none) none))))))))))
 end
theorem mode_Read_2_spec (n : Nat) (v1 : (List Dc)) (v3 : It) (a2 : Option Addr) (c2 : Nat) (a4 : Option Addr) (c4 : Nat) (a5 : Option Addr) (c5 : Nat) (r : Md × Int) (hr : mode_Read_2 n v1 v3 = some r) : Meets Tryz.prog (.val (.fn (.func 8) [] [])) [(.v (.slice a2 ((Dc.encL v1).length) c2)), (.agg [(.v (.string v3.word)), (.v (.string v3.name)), (.v (.int .i64 v3.raw.op)), (.v (.string v3.raw.name)), (.v (.slice a4 ((Rw.encL v3.raw.args).length) c4)), (.v (.slice a5 ((Pt.encL v3.parts).length) c5))])] ⟨[], [], [(.slice a2 ((Dc.encL v1).length) c2, .sl 6 (Dc.encL v1)), (.slice a4 ((Rw.encL v3.raw.args).length) c4, .sl 3 (Rw.encL v3.raw.args)), (.slice a5 ((Pt.encL v3.parts).length) c5, .sl 8 (Pt.encL v3.parts))]⟩ (fun o S' => ∃ (b1 : Option Addr) (d1 : Nat), o = .ret (.tup [(.agg [(.v (.int .i64 r.1.family)), (.v (.slice b1 ((List.map (D.int .i64) r.1.signs).length) d1))]), (.v (.int .i64 r.2))]) ∧ S' = ⟨[], [⟨.slice b1 ((List.map (D.int .i64) r.1.signs).length) d1, 1, 3, (List.map (D.int .i64) r.1.signs)⟩], []⟩) := by
  rcases n with _ | n
  · exact no_some hr
  rw [mode_Read_2.eq_2] at hr
  refine spec_of_body (N := 146) (m := 0) (dt := drawsOf [(9, .node [0, 2, 3] [(1, .node [] [(4, .node [] [(5, .node [] [(6, .leaf [7])])])])], [6], [])]) [] ttOK Tryz.func8 rfl Tryz.call8 Tryz.ntmps8 rfl rfl rfl mixed (by kernel_rfl) ?_
  obtain ⟨v6, h7, hr⟩ := bind_some hr
  refine (sign_Check_spec n v1 a2 c2 _ h7).atR [0] rfl rfl rfl ?_
  rintro _ _ ⟨rfl, rfl⟩
  refine AtGuard.mk (fun h8 => ?_) (fun h8 => ?_)
  · replace hr := cond_f h8 hr
    refine (checkItem_spec v3 a4 c4 a5 c5).atR [1, 2] rfl rfl rfl ?_
    rintro _ _ ⟨rfl, rfl⟩
    refine AtGuard.mk (fun h9 => ?_) (fun h9 => ?_)
    · replace hr := cond_f h9 hr
      obtain ⟨v10, h11, hr⟩ := bind_some hr
      obtain ⟨h12, h13⟩ := idx_some h11
      refine at_index ttOK 2 rfl rfl rfl rfl h12 (Pt.encL_get h13) ?_
      intro a14 c14 _ _ a15 c15 _ _
      refine AtIf.mk (fun h16 => ?_) (fun h16 => ?_)
      · replace hr := cond_t h16 hr
        replace hr := Option.some.inj hr
        subst hr
        exact AtRet.gen ⟨[], [⟨.slice none 0 0, 1, 3, []⟩], []⟩ (StLe.gen 0 [.nil 1 3] [] rfl rfl rfl rfl rfl rfl rfl) rfl rfl ⟨none, 0, rfl, rfl⟩
      · replace hr := cond_f h16 hr
        obtain ⟨h17, hr⟩ := cond_need hr
        refine at_sliceG ttOK 2 1 ((Pt.encL v3.parts).length : Int) (ds' := (Pt.encL (v3.parts.drop (1 : Int).toNat))) rfl rfl rfl (.inl ⟨_, rfl⟩) (.inr ⟨rfl, rfl⟩) h17 (by simp only [Pt.encL_eq]; exact sl_l ..) ?_
        intro a18 c18
        refine AtLoop.mk ⟨Nat × (List Int) × Option Addr × Nat × Int, fun x => [(0, (.v (.slice a2 ((Dc.encL v1).length) c2))), (3, (.loc 0 0)), (4, (.loc 1 0)), (6, (.v (.slice x.2.2.1 ((List.map (D.int .i64) x.2.1).length) x.2.2.2.1))), (48, (.v (.slice a18 ((Pt.encL (v3.parts.drop (1 : Int).toNat)).length) c18))), (49, (.v (.int .i64 ((Pt.encL (v3.parts.drop (1 : Int).toNat)).length : Int)))), (50, (.v (.int .i64 x.2.2.2.2)))], fun x => ⟨[.cells 33 [(.v (.string v3.word)), (.v (.string v3.name)), (.v (.int .i64 v3.raw.op)), (.v (.string v3.raw.name)), (.v (.slice a4 ((Rw.encL v3.raw.args).length) c4)), (.v (.slice a5 ((Pt.encL v3.parts).length) c5))], .cells 25 [(.v (.int .i64 0)), (.v (.slice none 0 0))], .imm [(.v (.int .i64 v10.op)), (.v (.string v10.sign)), (.v (.string v10.name)), (.v (.int .i64 v10.n)), (.v (.int .i64 v10.raw.op)), (.v (.string v10.raw.name)), (.v (.slice a14 ((Rw.encL v10.raw.args).length) c14)), (.v (.slice a15 ((Pt.encL v10.parts).length) c15))]], [⟨.slice x.2.2.1 ((List.map (D.int .i64) x.2.1).length) x.2.2.2.1, 1, 3, (List.map (D.int .i64) x.2.1)⟩], [(.slice a2 ((Dc.encL v1).length) c2, .sl 6 (Dc.encL v1)), (.slice a4 ((Rw.encL v3.raw.args).length) c4, .sl 3 (Rw.encL v3.raw.args)), (.slice a5 ((Pt.encL v3.parts).length) c5, .sl 8 (Pt.encL v3.parts)), (.slice a14 ((Rw.encL v10.raw.args).length) c14, .sl 3 (Rw.encL v10.raw.args)), (.slice a15 ((Pt.encL v10.parts).length) c15, .sl 8 (Pt.encL v10.parts)), (.slice a18 ((Pt.encL (v3.parts.drop (1 : Int).toNat)).length) c18, .sl 8 (Pt.encL (v3.parts.drop (1 : Int).toNat)))]⟩, fun x => mode_Read_2_L1 x.1 v3 v1 x.2.1 x.2.2.2.2 = some r, fun x => x.1, (n, [], none, 0, 0), hr, ⟨rfl, rfl, rfl, rfl, rfl, rfl, rfl, trivial⟩, (StLe.gen 3 [.nil 1 3] [.old 0, .old 1, .old 2, .old 3, .old 4, .old 5] rfl rfl rfl rfl rfl rfl rfl), fun x _ => ⟨rfl, rfl⟩, ?_⟩
        rintro ⟨n, v30, a31, c31, v32⟩ HH
        have hr : mode_Read_2_L1 n v3 v1 v30 v32 = some r := HH
        rcases n with _ | n
        · exact no_some hr
        rw [mode_Read_2_L1.eq_2] at hr
        refine AtIf.mk (fun h33 => ?_) (fun h33 => ?_)
        · replace hr := cond_t h33 hr
          obtain ⟨v34, h35, hr⟩ := bind_some hr
          obtain ⟨h36, h37⟩ := idx_some h35
          refine at_index ttOK 5 rfl rfl rfl rfl h36 (Pt.encL_get h37) ?_
          intro a38 c38 _ _ a39 c39 _ _
          refine AtIf.mk (fun h40 => ?_) (fun h40 => ?_)
          · replace hr := cond_t h40 hr
            replace hr := Option.some.inj hr
            subst hr
            exact AtRet.gen ⟨[], [⟨.slice none 0 0, 1, 3, []⟩], []⟩ (StLe.gen 0 [.nil 1 3] [] rfl rfl rfl rfl rfl rfl rfl) rfl rfl ⟨none, 0, rfl, rfl⟩
          · replace hr := cond_f h40 hr
            refine spec_of_body (N := 3) (m := 5) (dt := fun _ => none) [] ttOK Tryz.func26 rfl Tryz.call26 Tryz.ntmps26 rfl rfl rfl mixed (by kernel_rfl) ?_
            refine at_makeMapS ?_
            refine at_mapPutS (l := encM (Value.int .i64) ([])) ttOK (.int .i64 1) rfl Tryz.underlying9 rfl rfl rfl (fun _ => rfl) ?_
            rw [putS_enc (Value.int .i64) (⟨#[43]⟩ : ByteArray) 1 ([])]
            refine at_mapPutS (l := encM (Value.int .i64) (mput (⟨#[43]⟩ : ByteArray) 1 ([]))) ttOK (.int .i64 2) rfl Tryz.underlying9 rfl rfl rfl (fun _ => rfl) ?_
            rw [putS_enc (Value.int .i64) (⟨#[45]⟩ : ByteArray) 2 (mput (⟨#[43]⟩ : ByteArray) 1 ([]))]
            refine at_mapPutS (l := encM (Value.int .i64) (mput (⟨#[45]⟩ : ByteArray) 2 (mput (⟨#[43]⟩ : ByteArray) 1 ([])))) ttOK (.int .i64 3) rfl Tryz.underlying9 rfl rfl rfl (fun _ => rfl) ?_
            rw [putS_enc (Value.int .i64) (⟨#[42]⟩ : ByteArray) 3 (mput (⟨#[45]⟩ : ByteArray) 2 (mput (⟨#[43]⟩ : ByteArray) 1 ([])))]
            refine AtRet.gen _ (StLe.refl _) rfl rfl ?_
            refine ⟨OwnKeptBut.append, ?_⟩
            refine at_lookupSG ttOK (Value.int .i64) 0 rfl Tryz.underlying9 rfl rfl rfl rfl ?_
            refine ⟨fun _ _ h => h, ?_⟩
            refine at_buildG (n := 1) ttOK 8 [.int .i64 ((mget (mput (⟨#[42]⟩ : ByteArray) 3 (mput (⟨#[45]⟩ : ByteArray) 2 (mput (⟨#[43]⟩ : ByteArray) 1 ([])))) v34.sign).getD 0)] (ds' := (List.map (D.int .i64) ([((mget (mput (⟨#[42]⟩ : ByteArray) 3 (mput (⟨#[45]⟩ : ByteArray) 2 (mput (⟨#[43]⟩ : ByteArray) 1 ([])))) v34.sign).getD 0)]))) rfl (by kernel_rfl) ⟨⟨rfl, rfl, rfl, rfl⟩, trivial⟩ rfl rfl (by decide) (by decide) ?_
            intro a41
            refine ⟨fun _ _ h => h, ?_⟩
            obtain ⟨h42, hr⟩ := cond_need hr
            refine at_appendG (ds' := (List.map (D.int .i64) (v30 ++ [((mget (mput (⟨#[42]⟩ : ByteArray) 3 (mput (⟨#[45]⟩ : ByteArray) 2 (mput (⟨#[43]⟩ : ByteArray) 1 ([])))) v34.sign).getD 0)]))) ttOK 8 0 8 rfl (by kernel_rfl) rfl rfl rfl rfl (by simp only [List.map_append]) h42 (by decide) ?_
            intro a43 c43
            exact ⟨(n, (v30 ++ [((mget (mput (⟨#[42]⟩ : ByteArray) 3 (mput (⟨#[45]⟩ : ByteArray) 2 (mput (⟨#[43]⟩ : ByteArray) 1 ([])))) v34.sign).getD 0)]), a43, c43, (IntKind.i64.wrap (v32 + 1))), hr, Nat.lt_succ_self _, ⟨rfl, rfl, rfl, rfl, rfl, rfl, rfl, trivial⟩, (StLe.gen 3 [.old 0] [.old 0, .old 1, .old 2, .old 3, .old 4, .old 5] rfl rfl rfl rfl rfl rfl rfl)⟩
        · replace hr := cond_f h33 hr
          obtain ⟨v44, h45, hr⟩ := bind_some hr
          obtain ⟨h46, h47⟩ := idx_some h45
          refine at_index ttOK 2 rfl rfl rfl rfl h46 (Pt.encL_get h47) ?_
          intro a48 c48 _ _ a49 c49 _ _
          obtain ⟨v50, h51, hr⟩ := bind_some hr
          refine (sign_Find_spec n v1 v44.name a2 c2 _ h51).atR [0] rfl rfl rfl ?_
          rintro _ _ ⟨rfl, rfl⟩
          refine AtIf.mk (fun h52 => ?_) (fun h52 => ?_)
          · replace hr := cond_t h52 hr
            replace hr := Option.some.inj hr
            subst hr
            exact AtRet.gen ⟨[], [⟨.slice none 0 0, 1, 3, []⟩], []⟩ (StLe.gen 0 [.nil 1 3] [] rfl rfl rfl rfl rfl rfl rfl) rfl rfl ⟨none, 0, rfl, rfl⟩
          · replace hr := cond_f h52 hr
            obtain ⟨v53, h54, hr⟩ := bind_some hr
            refine (sign_Family_spec n v1 v50.1 a2 c2 _ h54).atR [0] rfl rfl rfl ?_
            rintro _ _ ⟨rfl, rfl⟩
            refine AtIf.mk (fun h55 => ?_) (fun h55 => ?_)
            · replace hr := cond_t h55 hr
              replace hr := Option.some.inj hr
              subst hr
              exact AtRet.gen ⟨[], [⟨.slice none 0 0, 1, 3, []⟩], []⟩ (StLe.gen 0 [.nil 1 3] [] rfl rfl rfl rfl rfl rfl rfl) rfl rfl ⟨none, 0, rfl, rfl⟩
            · replace hr := cond_f h55 hr
              obtain ⟨v56, h57, hr⟩ := bind_some hr
              obtain ⟨h58, h59⟩ := idx_some h57
              refine at_index ttOK 0 rfl rfl rfl rfl h58 (Dc.encL_get h59) ?_
              intro a60 c60 _ _
              obtain ⟨v61, h62, hr⟩ := bind_some hr
              refine (term_Domains_spec n v56.cls a60 c60 _ h62).atR [8] rfl rfl rfl ?_
              rintro _ _ ⟨a63, c63, a64, c64, rfl, rfl⟩
              obtain ⟨v65, h66, hr⟩ := bind_some hr
              obtain ⟨h67, h68⟩ := idx_some h66
              refine at_index ttOK 0 rfl rfl rfl rfl h67 (Dc.encL_get h68) ?_
              intro a69 c69 _ _
              refine AtIf.mk (fun h70 => ?_) (fun h70 => ?_)
              · replace hr := cond_t h70 hr
                replace hr := Option.some.inj hr
                subst hr
                exact AtRet.gen ⟨[], [⟨.slice none 0 0, 1, 3, []⟩], []⟩ (StLe.gen 0 [.nil 1 3] [] rfl rfl rfl rfl rfl rfl rfl) rfl rfl ⟨none, 0, rfl, rfl⟩
              · replace hr := cond_f h70 hr
                obtain ⟨h71, hr⟩ := cond_need hr
                refine at_makeSliceG (ds' := (List.map (D.int .i64) (List.replicate (v65.implicit).toNat (0 : Int)))) (d := .int .i64 0) ttOK rfl ⟨_, rfl, rfl, rfl, by decide⟩ rfl rfl rfl (of_decide_eq_true h71) (List.map_replicate ..) ?_
                intro a72
                obtain ⟨h73, hr⟩ := cond_need hr
                refine AtSem.le (S' := ⟨[.cells 33 [(.v (.string v3.word)), (.v (.string v3.name)), (.v (.int .i64 v3.raw.op)), (.v (.string v3.raw.name)), (.v (.slice a4 ((Rw.encL v3.raw.args).length) c4)), (.v (.slice a5 ((Pt.encL v3.parts).length) c5))], .cells 25 [(.v (.int .i64 0)), (.v (.slice none 0 0))], .imm [(.v (.int .i64 v10.op)), (.v (.string v10.sign)), (.v (.string v10.name)), (.v (.int .i64 v10.n)), (.v (.int .i64 v10.raw.op)), (.v (.string v10.raw.name)), (.v (.slice a14 ((Rw.encL v10.raw.args).length) c14)), (.v (.slice a15 ((Pt.encL v10.parts).length) c15))], .imm [(.v (.int .i64 v44.op)), (.v (.string v44.sign)), (.v (.string v44.name)), (.v (.int .i64 v44.n)), (.v (.int .i64 v44.raw.op)), (.v (.string v44.raw.name)), (.v (.slice a48 ((Rw.encL v44.raw.args).length) c48)), (.v (.slice a49 ((Pt.encL v44.parts).length) c49))], .imm [(.v (.string v56.name)), (.v (.int .i64 v56.cls.op)), (.v (.int .i64 v56.cls.hd)), (.v (.int .i64 v56.cls.n)), (.v (.slice a60 ((Tm.encL v56.cls.args).length) c60)), (.v (.int .i64 v56.implicit))], .cells 55 [(.v (.int .i64 v61.2.op)), (.v (.int .i64 v61.2.hd)), (.v (.int .i64 v61.2.n)), (.v (.slice a64 ((Tm.encL v61.2.args).length) c64))], .imm [(.v (.string v65.name)), (.v (.int .i64 v65.cls.op)), (.v (.int .i64 v65.cls.hd)), (.v (.int .i64 v65.cls.n)), (.v (.slice a69 ((Tm.encL v65.cls.args).length) c69)), (.v (.int .i64 v65.implicit))], .cells 25 [(.v (.int .i64 v50.1)), (.v (.slice a72 ((List.map (D.int .i64) (List.replicate (v65.implicit).toNat (0 : Int))).length) ((v65.implicit).toNat)))]], [⟨.slice a72 ((List.map (D.int .i64) (List.replicate (v65.implicit).toNat (0 : Int))).length) ((v65.implicit).toNat), 1, 3, (List.map (D.int .i64) (List.replicate (v65.implicit).toNat (0 : Int)))⟩], [(.slice a31 ((List.map (D.int .i64) v30).length) c31, .sl 1 (List.map (D.int .i64) v30)), (.slice a2 ((Dc.encL v1).length) c2, .sl 6 (Dc.encL v1)), (.slice a4 ((Rw.encL v3.raw.args).length) c4, .sl 3 (Rw.encL v3.raw.args)), (.slice a5 ((Pt.encL v3.parts).length) c5, .sl 8 (Pt.encL v3.parts)), (.slice a14 ((Rw.encL v10.raw.args).length) c14, .sl 3 (Rw.encL v10.raw.args)), (.slice a15 ((Pt.encL v10.parts).length) c15, .sl 8 (Pt.encL v10.parts)), (.slice a18 ((Pt.encL (v3.parts.drop (1 : Int).toNat)).length) c18, .sl 8 (Pt.encL (v3.parts.drop (1 : Int).toNat))), (.slice a48 ((Rw.encL v44.raw.args).length) c48, .sl 3 (Rw.encL v44.raw.args)), (.slice a49 ((Pt.encL v44.parts).length) c49, .sl 8 (Pt.encL v44.parts)), (.slice a60 ((Tm.encL v56.cls.args).length) c60, .sl 4 (Tm.encL v56.cls.args)), (.slice a63 ((Tm.encL v61.1).length) c63, .sl 4 (Tm.encL v61.1)), (.slice a64 ((Tm.encL v61.2.args).length) c64, .sl 4 (Tm.encL v61.2.args)), (.slice a69 ((Tm.encL v65.cls.args).length) c69, .sl 4 (Tm.encL v65.cls.args))]⟩) (StLe.gen 8 [.old 0] [.froz 1, .old 0, .old 1, .old 2, .old 3, .old 4, .old 5, .old 6, .old 7, .old 8, .old 9, .old 10, .old 11] rfl rfl rfl rfl rfl rfl rfl) rfl ?_
                refine at_appendG (ds' := (List.map (D.int .i64) ((List.replicate (v65.implicit).toNat (0 : Int)) ++ v30))) ttOK 8 0 0 rfl (by kernel_rfl) rfl rfl rfl rfl (by simp only [List.map_append]) h73 (by decide) ?_
                intro a74 c74
                obtain ⟨q117, hq117⟩ : ∃ q, q = n := ⟨_, rfl⟩
                refine AtLoop.mk ⟨Nat × Md × Option Addr × Nat × Int, fun x => [(4, (.loc 1 0)), (11, (.v (.slice a63 ((Tm.encL v61.1).length) c63))), (13, (.v (.int .i64 v65.implicit))), (14, (.loc 7 0)), (117, (.v (.int .i64 v65.implicit))), (118, (.v (.int .i64 x.2.2.2.2)))], fun x => ⟨[.cells 33 [(.v (.string v3.word)), (.v (.string v3.name)), (.v (.int .i64 v3.raw.op)), (.v (.string v3.raw.name)), (.v (.slice a4 ((Rw.encL v3.raw.args).length) c4)), (.v (.slice a5 ((Pt.encL v3.parts).length) c5))], .cells 25 [(.v (.int .i64 0)), (.v (.slice none 0 0))], .imm [(.v (.int .i64 v10.op)), (.v (.string v10.sign)), (.v (.string v10.name)), (.v (.int .i64 v10.n)), (.v (.int .i64 v10.raw.op)), (.v (.string v10.raw.name)), (.v (.slice a14 ((Rw.encL v10.raw.args).length) c14)), (.v (.slice a15 ((Pt.encL v10.parts).length) c15))], .imm [(.v (.int .i64 v44.op)), (.v (.string v44.sign)), (.v (.string v44.name)), (.v (.int .i64 v44.n)), (.v (.int .i64 v44.raw.op)), (.v (.string v44.raw.name)), (.v (.slice a48 ((Rw.encL v44.raw.args).length) c48)), (.v (.slice a49 ((Pt.encL v44.parts).length) c49))], .imm [(.v (.string v56.name)), (.v (.int .i64 v56.cls.op)), (.v (.int .i64 v56.cls.hd)), (.v (.int .i64 v56.cls.n)), (.v (.slice a60 ((Tm.encL v56.cls.args).length) c60)), (.v (.int .i64 v56.implicit))], .cells 55 [(.v (.int .i64 v61.2.op)), (.v (.int .i64 v61.2.hd)), (.v (.int .i64 v61.2.n)), (.v (.slice a64 ((Tm.encL v61.2.args).length) c64))], .imm [(.v (.string v65.name)), (.v (.int .i64 v65.cls.op)), (.v (.int .i64 v65.cls.hd)), (.v (.int .i64 v65.cls.n)), (.v (.slice a69 ((Tm.encL v65.cls.args).length) c69)), (.v (.int .i64 v65.implicit))], .cells 25 [(.v (.int .i64 x.2.1.family)), (.v (.slice x.2.2.1 ((List.map (D.int .i64) x.2.1.signs).length) x.2.2.2.1))]], [⟨.slice x.2.2.1 ((List.map (D.int .i64) x.2.1.signs).length) x.2.2.2.1, 1, 3, (List.map (D.int .i64) x.2.1.signs)⟩], [(.slice a31 ((List.map (D.int .i64) v30).length) c31, .sl 1 (List.map (D.int .i64) v30)), (.slice a2 ((Dc.encL v1).length) c2, .sl 6 (Dc.encL v1)), (.slice a4 ((Rw.encL v3.raw.args).length) c4, .sl 3 (Rw.encL v3.raw.args)), (.slice a5 ((Pt.encL v3.parts).length) c5, .sl 8 (Pt.encL v3.parts)), (.slice a14 ((Rw.encL v10.raw.args).length) c14, .sl 3 (Rw.encL v10.raw.args)), (.slice a15 ((Pt.encL v10.parts).length) c15, .sl 8 (Pt.encL v10.parts)), (.slice a18 ((Pt.encL (v3.parts.drop (1 : Int).toNat)).length) c18, .sl 8 (Pt.encL (v3.parts.drop (1 : Int).toNat))), (.slice a48 ((Rw.encL v44.raw.args).length) c48, .sl 3 (Rw.encL v44.raw.args)), (.slice a49 ((Pt.encL v44.parts).length) c49, .sl 8 (Pt.encL v44.parts)), (.slice a60 ((Tm.encL v56.cls.args).length) c60, .sl 4 (Tm.encL v56.cls.args)), (.slice a63 ((Tm.encL v61.1).length) c63, .sl 4 (Tm.encL v61.1)), (.slice a64 ((Tm.encL v61.2.args).length) c64, .sl 4 (Tm.encL v61.2.args)), (.slice a69 ((Tm.encL v65.cls.args).length) c69, .sl 4 (Tm.encL v65.cls.args))]⟩, fun x => x.1 ≤ q117 ∧ mode_Read_2_L2 x.1 v65 v61 x.2.1 x.2.2.2.2 = some r, fun x => x.1, (n, (Md.mk v50.1 ((List.replicate (v65.implicit).toNat (0 : Int)) ++ v30)), a74, c74, 0), ⟨by omega, hr⟩, ⟨rfl, rfl, rfl, rfl, rfl, rfl, trivial⟩, (StLe.gen 8 [.old 0] [.old 0, .old 1, .old 2, .old 3, .old 4, .old 5, .old 6, .old 7, .old 8, .old 9, .old 10, .old 11, .old 12] rfl rfl rfl rfl rfl rfl rfl), fun x _ => ⟨rfl, rfl⟩, ?_⟩
                rintro ⟨n, v114, a115, c115, v116⟩ HH
                obtain ⟨hbq117, hr⟩ : n ≤ q117 ∧ mode_Read_2_L2 n v65 v61 v114 v116 = some r := HH
                rcases n with _ | n
                · exact no_some hr
                rw [mode_Read_2_L2.eq_2] at hr
                refine AtIf.mk (fun h118 => ?_) (fun h118 => ?_)
                · replace hr := cond_t h118 hr
                  obtain ⟨h119, hr⟩ := cond_need hr
                  refine at_index_accG ttOK 0 rfl rfl rfl rfl h119 ?_
                  intro b120 h121
                  subst h121
                  obtain ⟨m122, h123⟩ : ∃ m122, m122 = (List.map (D.int .i64) v114.signs).length := ⟨_, rfl⟩
                  try dsimp only
                  rw [← h123]
                  refine at_store_accG (ds' := List.map (D.int .i64) (v114.signs.set ((v116).toNat) 3)) ttOK 0 rfl (by simpa using (of_decide_eq_true h119).2) rfl (.inl ⟨_, rfl⟩) rfl rfl (map_set' ..) ?_
                  refine at_buildG (n := 2) ttOK 8 [.int .i64 2, .int .i64 1] (ds' := (List.map (D.int .i64) ([2, 1]))) rfl (by kernel_rfl) ⟨⟨rfl, rfl, rfl, rfl⟩, ⟨⟨rfl, rfl, rfl, rfl⟩, trivial⟩⟩ rfl rfl (by decide) (by decide) ?_
                  intro a124
                  obtain rfl : m122 = (List.map (D.int .i64) (v114.signs.set ((v116).toNat) 3)).length := by rw [h123]; simp
                  obtain ⟨q142, hq142⟩ : ∃ q, q = n := ⟨_, rfl⟩
                  refine AtLoop.mk ⟨Nat × Md × Option Addr × Nat × Int, fun x => [(4, (.loc 1 0)), (11, (.v (.slice a63 ((Tm.encL v61.1).length) c63))), (13, (.v (.int .i64 v65.implicit))), (14, (.loc 7 0)), (15, (.v (.int .i64 v116))), (117, (.v (.int .i64 v65.implicit))), (118, (.v (.int .i64 v116))), (125, (.v (.slice a124 ((List.map (D.int .i64) ([2, 1])).length) 2))), (126, (.v (.int .i64 ((List.map (D.int .i64) ([2, 1])).length : Int)))), (127, (.v (.int .i64 x.2.2.2.2)))], fun x => ⟨[.cells 33 [(.v (.string v3.word)), (.v (.string v3.name)), (.v (.int .i64 v3.raw.op)), (.v (.string v3.raw.name)), (.v (.slice a4 ((Rw.encL v3.raw.args).length) c4)), (.v (.slice a5 ((Pt.encL v3.parts).length) c5))], .cells 25 [(.v (.int .i64 0)), (.v (.slice none 0 0))], .imm [(.v (.int .i64 v10.op)), (.v (.string v10.sign)), (.v (.string v10.name)), (.v (.int .i64 v10.n)), (.v (.int .i64 v10.raw.op)), (.v (.string v10.raw.name)), (.v (.slice a14 ((Rw.encL v10.raw.args).length) c14)), (.v (.slice a15 ((Pt.encL v10.parts).length) c15))], .imm [(.v (.int .i64 v44.op)), (.v (.string v44.sign)), (.v (.string v44.name)), (.v (.int .i64 v44.n)), (.v (.int .i64 v44.raw.op)), (.v (.string v44.raw.name)), (.v (.slice a48 ((Rw.encL v44.raw.args).length) c48)), (.v (.slice a49 ((Pt.encL v44.parts).length) c49))], .imm [(.v (.string v56.name)), (.v (.int .i64 v56.cls.op)), (.v (.int .i64 v56.cls.hd)), (.v (.int .i64 v56.cls.n)), (.v (.slice a60 ((Tm.encL v56.cls.args).length) c60)), (.v (.int .i64 v56.implicit))], .cells 55 [(.v (.int .i64 v61.2.op)), (.v (.int .i64 v61.2.hd)), (.v (.int .i64 v61.2.n)), (.v (.slice a64 ((Tm.encL v61.2.args).length) c64))], .imm [(.v (.string v65.name)), (.v (.int .i64 v65.cls.op)), (.v (.int .i64 v65.cls.hd)), (.v (.int .i64 v65.cls.n)), (.v (.slice a69 ((Tm.encL v65.cls.args).length) c69)), (.v (.int .i64 v65.implicit))], .cells 25 [(.v (.int .i64 x.2.1.family)), (.v (.slice x.2.2.1 ((List.map (D.int .i64) x.2.1.signs).length) x.2.2.2.1))]], [⟨.slice x.2.2.1 ((List.map (D.int .i64) x.2.1.signs).length) x.2.2.2.1, 1, 3, (List.map (D.int .i64) x.2.1.signs)⟩], [(.slice a31 ((List.map (D.int .i64) v30).length) c31, .sl 1 (List.map (D.int .i64) v30)), (.slice a2 ((Dc.encL v1).length) c2, .sl 6 (Dc.encL v1)), (.slice a4 ((Rw.encL v3.raw.args).length) c4, .sl 3 (Rw.encL v3.raw.args)), (.slice a5 ((Pt.encL v3.parts).length) c5, .sl 8 (Pt.encL v3.parts)), (.slice a14 ((Rw.encL v10.raw.args).length) c14, .sl 3 (Rw.encL v10.raw.args)), (.slice a15 ((Pt.encL v10.parts).length) c15, .sl 8 (Pt.encL v10.parts)), (.slice a18 ((Pt.encL (v3.parts.drop (1 : Int).toNat)).length) c18, .sl 8 (Pt.encL (v3.parts.drop (1 : Int).toNat))), (.slice a48 ((Rw.encL v44.raw.args).length) c48, .sl 3 (Rw.encL v44.raw.args)), (.slice a49 ((Pt.encL v44.parts).length) c49, .sl 8 (Pt.encL v44.parts)), (.slice a60 ((Tm.encL v56.cls.args).length) c60, .sl 4 (Tm.encL v56.cls.args)), (.slice a63 ((Tm.encL v61.1).length) c63, .sl 4 (Tm.encL v61.1)), (.slice a64 ((Tm.encL v61.2.args).length) c64, .sl 4 (Tm.encL v61.2.args)), (.slice a69 ((Tm.encL v65.cls.args).length) c69, .sl 4 (Tm.encL v65.cls.args)), (.slice a124 ((List.map (D.int .i64) ([2, 1])).length) 2, .sl 1 (List.map (D.int .i64) ([2, 1])))]⟩, fun x => x.1 ≤ q142 ∧ mode_Read_2_L3 x.1 v61 v116 v65 x.2.1 x.2.2.2.2 = some r, fun x => x.1, (n, (Md.mk v114.family (v114.signs.set ((v116).toNat) 3)), (some ⟨b120, 0, none⟩), c115, 0), ⟨by omega, hr⟩, ⟨rfl, rfl, rfl, rfl, rfl, rfl, rfl, rfl, rfl, rfl, trivial⟩, (StLe.gen 8 [.old 0] [.old 0, .old 1, .old 2, .old 3, .old 4, .old 5, .old 6, .old 7, .old 8, .old 9, .old 10, .old 11, .old 12, .old 13] rfl rfl rfl rfl rfl rfl rfl), fun x _ => ⟨rfl, rfl⟩, ?_⟩
                  rintro ⟨n, v139, a140, c140, v141⟩ HH
                  obtain ⟨hbq142, hr⟩ : n ≤ q142 ∧ mode_Read_2_L3 n v61 v116 v65 v139 v141 = some r := HH
                  rcases n with _ | n
                  · exact no_some hr
                  rw [mode_Read_2_L3.eq_2] at hr
                  refine AtIf.mk (fun h143 => ?_) (fun h143 => ?_)
                  · replace hr := cond_t h143 hr
                    obtain ⟨v144, h145, hr⟩ := bind_some hr
                    obtain ⟨h146, h147⟩ := idx_some h145
                    refine at_index ttOK 13 rfl rfl rfl rfl h146 (map_get (D.int .i64) h147) ?_
                    obtain ⟨v148, h149, hr⟩ := bind_some hr
                    refine (mode_stands_spec n v61.1 v139.signs v116 v65.implicit v144 a63 c63 a140 c140 _ h149).atB [.old 10, .froz 0] rfl rfl rfl ?_
                    rintro _ _ ⟨rfl, rfl⟩
                    refine ⟨rfl, ?_⟩
                    refine AtIf.mk (fun h150 => ?_) (fun h150 => ?_)
                    · replace hr := cond_t h150 hr
                      obtain ⟨h151, hr⟩ := cond_need hr
                      refine at_index_accG ttOK 0 rfl rfl rfl rfl h151 ?_
                      intro b152 h153
                      subst h153
                      obtain ⟨m154, h155⟩ : ∃ m154, m154 = (List.map (D.int .i64) v139.signs).length := ⟨_, rfl⟩
                      try dsimp only
                      rw [← h155]
                      refine at_store_accG (ds' := List.map (D.int .i64) (v139.signs.set ((v116).toNat) v144)) ttOK 0 rfl (by simpa using (of_decide_eq_true h151).2) rfl (.inl ⟨_, rfl⟩) rfl rfl (map_set' ..) ?_
                      obtain rfl : m154 = (List.map (D.int .i64) (v139.signs.set ((v116).toNat) v144)).length := by rw [h155]; simp
                      exact ⟨(n, (Md.mk v139.family (v139.signs.set ((v116).toNat) v144)), (some ⟨b152, 0, none⟩), c140, (IntKind.i64.wrap (v141 + 1))), ⟨by omega, hr⟩, Nat.lt_succ_self _, ⟨rfl, rfl, rfl, rfl, rfl, rfl, rfl, rfl, rfl, rfl, trivial⟩, (StLe.gen 8 [.old 0] [.old 0, .old 1, .old 2, .old 3, .old 4, .old 5, .old 6, .old 7, .old 8, .old 9, .old 10, .old 11, .old 12, .old 13] rfl rfl rfl rfl rfl rfl rfl)⟩
                    · replace hr := cond_f h150 hr
                      exact ⟨(n, v139, a140, c140, (IntKind.i64.wrap (v141 + 1))), ⟨by omega, hr⟩, Nat.lt_succ_self _, ⟨rfl, rfl, rfl, rfl, rfl, rfl, rfl, rfl, rfl, rfl, trivial⟩, (StLe.gen 8 [.old 0] [.old 0, .old 1, .old 2, .old 3, .old 4, .old 5, .old 6, .old 7, .old 8, .old 9, .old 10, .old 11, .old 12, .old 13] rfl rfl rfl rfl rfl rfl rfl)⟩
                  · replace hr := cond_f h143 hr
                    exact ⟨(n, v139, a140, c140, (IntKind.i64.wrap (v116 + 1))), ⟨by omega, hr⟩, (by simp only; omega), ⟨rfl, rfl, rfl, rfl, rfl, rfl, trivial⟩, (StLe.gen 8 [.old 0] [.old 0, .old 1, .old 2, .old 3, .old 4, .old 5, .old 6, .old 7, .old 8, .old 9, .old 10, .old 11, .old 12] rfl rfl rfl rfl rfl rfl rfl)⟩
                · replace hr := cond_f h118 hr
                  replace hr := Option.some.inj hr
                  subst hr
                  exact AtRet.gen ⟨[], [⟨.slice a115 ((List.map (D.int .i64) v114.signs).length) c115, 1, 3, (List.map (D.int .i64) v114.signs)⟩], []⟩ (StLe.gen 0 [.old 0] [] rfl rfl rfl rfl rfl rfl rfl) rfl rfl ⟨a115, c115, rfl, rfl⟩
    · replace hr := cond_t h9 hr
      refine AtIf.mk (fun _ => ?_) (fun h => tf h)
      replace hr := Option.some.inj hr
      subst hr
      exact AtRet.gen ⟨[], [⟨.slice none 0 0, 1, 3, []⟩], []⟩ (StLe.gen 0 [.nil 1 3] [] rfl rfl rfl rfl rfl rfl rfl) rfl rfl ⟨none, 0, rfl, rfl⟩
  · replace hr := cond_t h8 hr
    refine AtGuard.mk (fun h => tf h) (fun _ => ?_)
    refine AtIf.mk (fun _ => ?_) (fun h => tf h)
    replace hr := Option.some.inj hr
    subst hr
    exact AtRet.gen ⟨[], [⟨.slice none 0 0, 1, 3, []⟩], []⟩ (StLe.gen 0 [.nil 1 3] [] rfl rfl rfl rfl rfl rfl rfl) rfl rfl ⟨none, 0, rfl, rfl⟩
def W14_awake : Nat → Option (Bool)
  | 0 => none
  | n + 1 =>
    (W14_sample n ).bind (fun v1 =>
    (mode_Read_2 n v1 (It.mk (⟨#[109, 111, 100, 101]⟩) ByteArray.empty (Rw.mk 0 ByteArray.empty ([])) ([(Pt.mk 1 ByteArray.empty (⟨#[100, 111, 117, 98, 108, 101]⟩) 0 (Rw.mk 0 ByteArray.empty ([])) ([])), (Pt.mk 2 (⟨#[43]⟩) (⟨#[88]⟩) 0 (Rw.mk 0 ByteArray.empty ([])) ([])), (Pt.mk 2 (⟨#[45]⟩) (⟨#[89]⟩) 0 (Rw.mk 0 ByteArray.empty ([])) ([]))]))).bind (fun v5 =>
    cond (((v5.2 != 0) || (v5.1.family != 3)) || (((List.map (D.int .i64) v5.1.signs).length : Int) != 2)) (
    some (false)) (
    cond (decide (0 ≤ (0 : Int) ∧ (0 : Int).toNat < (List.map (D.int .i64) v5.1.signs).length)) (
    (v5.1.signs[(0 : Int).toNat]?).bind (fun v15 =>
    cond (v15 != 1) (
    some (false)) (
    cond (decide (0 ≤ (1 : Int) ∧ (1 : Int).toNat < (List.map (D.int .i64) v5.1.signs).length)) (
    (v5.1.signs[(1 : Int).toNat]?).bind (fun v21 =>
    cond (v21 != 2) (
    some (false)) (
    (W14_sample n ).bind (fun v24 =>
    (mode_Check n v24 ([v5.1]) 4).bind (fun v28 =>
    cond (((((v28.2.2 != 0) || false) || false) || false) || false) (
    some (false)) (
    some (true))))))) none))) none)))
theorem W14_awake_spec (n : Nat)  (r : Bool) (hr : W14_awake n  = some r) : Pure Tryz.prog (.val (.fn (.func 6) [] [])) [] [] (fun r' out => r' = (.v (.bool r)) ∧ out = []) := by
  rcases n with _ | n
  · exact no_some hr
  rw [W14_awake.eq_2] at hr
  refine spec_of_body (N := 63) (m := 0) (dt := drawsOf [(2, .node [1, 2, 3] [(0, .node [] [(4, .node [5] [(6, .node [7, 8, 9] [(10, .node [] [(11, .leaf [12])])]), (10, .node [] [(6, .node [7, 8, 9] [(11, .leaf [12])])])]), (10, .node [] [(4, .node [5] [(6, .node [7, 8, 9] [(11, .leaf [12])])])])]), (4, .node [5] [(0, .node [] [(6, .node [7, 8, 9] [(10, .node [] [(11, .leaf [12])])]), (10, .node [] [(6, .node [7, 8, 9] [(11, .leaf [12])])])]), (10, .node [] [(0, .node [] [(6, .node [7, 8, 9] [(11, .leaf [12])])])])]), (10, .node [] [(0, .node [] [(4, .node [5] [(6, .node [7, 8, 9] [(11, .leaf [12])])])]), (4, .node [5] [(0, .node [] [(6, .node [7, 8, 9] [(11, .leaf [12])])])])])], [4, 6], [1]), (5, .node [1] [(0, .node [] [(2, .node [] [(3, .leaf [4, 5, 6, 7, 8, 9, 10])])]), (2, .node [] [(0, .node [] [(3, .leaf [4, 5, 6, 7, 8, 9, 10])])])], [2, 3], [])]) [] ttOK Tryz.func6 rfl Tryz.call6 Tryz.ntmps6 rfl rfl rfl mixed (by kernel_rfl) ?_
  obtain ⟨v1, h2, hr⟩ := bind_some hr
  obtain ⟨v5, h6, hr⟩ := bind_some hr
  refine ⟨?_, ?_⟩
  ·
    refine (W14_sample_spec n  _ h2).atR [] rfl rfl rfl ?_
    rintro _ _ ⟨a8, c8, rfl, rfl⟩
    refine ⟨fun _ _ h => h, ?_⟩
    refine ⟨?_, ?_⟩
    ·
      refine at_buildG (n := 3) ttOK 120 [.agg [.int .i64 1, .str ByteArray.empty, .str (⟨#[100, 111, 117, 98, 108, 101]⟩), .int .i64 0, .agg [.int .i64 0, .str ByteArray.empty, .sl 3 []], .sl 8 []], .agg [.int .i64 2, .str (⟨#[43]⟩), .str (⟨#[88]⟩), .int .i64 0, .agg [.int .i64 0, .str ByteArray.empty, .sl 3 []], .sl 8 []], .agg [.int .i64 2, .str (⟨#[45]⟩), .str (⟨#[89]⟩), .int .i64 0, .agg [.int .i64 0, .str ByteArray.empty, .sl 3 []], .sl 8 []]] (ds' := (Pt.encL ([(Pt.mk 1 ByteArray.empty (⟨#[100, 111, 117, 98, 108, 101]⟩) 0 (Rw.mk 0 ByteArray.empty ([])) ([])), (Pt.mk 2 (⟨#[43]⟩) (⟨#[88]⟩) 0 (Rw.mk 0 ByteArray.empty ([])) ([])), (Pt.mk 2 (⟨#[45]⟩) (⟨#[89]⟩) 0 (Rw.mk 0 ByteArray.empty ([])) ([]))]))) rfl (by kernel_rfl) ⟨⟨rfl, rfl, rfl, ⟨[(.v (.int .i64 1))], _, rfl, rfl, ⟨[(.v (.string ByteArray.empty))], _, rfl, rfl, ⟨[(.v (.string (⟨#[100, 111, 117, 98, 108, 101]⟩)))], _, rfl, rfl, ⟨[(.v (.int .i64 0))], _, rfl, rfl, ⟨[(.v (.int .i64 0)), (.v (.string ByteArray.empty)), (.v (.slice none 0 0))], _, rfl, ⟨[(.v (.int .i64 0))], _, rfl, rfl, ⟨[(.v (.string ByteArray.empty))], _, rfl, rfl, ⟨[(.v (.slice none 0 0))], _, rfl, (.inr ⟨rfl, rfl⟩), rfl⟩⟩⟩, ⟨[(.v (.slice none 0 0))], _, rfl, (.inr ⟨rfl, rfl⟩), rfl⟩⟩⟩⟩⟩⟩⟩, ⟨⟨rfl, rfl, rfl, ⟨[(.v (.int .i64 2))], _, rfl, rfl, ⟨[(.v (.string (⟨#[43]⟩)))], _, rfl, rfl, ⟨[(.v (.string (⟨#[88]⟩)))], _, rfl, rfl, ⟨[(.v (.int .i64 0))], _, rfl, rfl, ⟨[(.v (.int .i64 0)), (.v (.string ByteArray.empty)), (.v (.slice none 0 0))], _, rfl, ⟨[(.v (.int .i64 0))], _, rfl, rfl, ⟨[(.v (.string ByteArray.empty))], _, rfl, rfl, ⟨[(.v (.slice none 0 0))], _, rfl, (.inr ⟨rfl, rfl⟩), rfl⟩⟩⟩, ⟨[(.v (.slice none 0 0))], _, rfl, (.inr ⟨rfl, rfl⟩), rfl⟩⟩⟩⟩⟩⟩⟩, ⟨⟨rfl, rfl, rfl, ⟨[(.v (.int .i64 2))], _, rfl, rfl, ⟨[(.v (.string (⟨#[45]⟩)))], _, rfl, rfl, ⟨[(.v (.string (⟨#[89]⟩)))], _, rfl, rfl, ⟨[(.v (.int .i64 0))], _, rfl, rfl, ⟨[(.v (.int .i64 0)), (.v (.string ByteArray.empty)), (.v (.slice none 0 0))], _, rfl, ⟨[(.v (.int .i64 0))], _, rfl, rfl, ⟨[(.v (.string ByteArray.empty))], _, rfl, rfl, ⟨[(.v (.slice none 0 0))], _, rfl, (.inr ⟨rfl, rfl⟩), rfl⟩⟩⟩, ⟨[(.v (.slice none 0 0))], _, rfl, (.inr ⟨rfl, rfl⟩), rfl⟩⟩⟩⟩⟩⟩⟩, trivial⟩⟩⟩ rfl (by simp only [Pt.encL_eq, List.map_cons, List.map_nil, Pt.enc_eq] <;> rfl) (by decide) (by decide) ?_
      intro a9
      refine ⟨?_, ?_⟩
      ·
        refine Meets.nilRep 3 ?_
        refine (mode_Read_2_spec n v1 (It.mk (⟨#[109, 111, 100, 101]⟩) ByteArray.empty (Rw.mk 0 ByteArray.empty ([])) ([(Pt.mk 1 ByteArray.empty (⟨#[100, 111, 117, 98, 108, 101]⟩) 0 (Rw.mk 0 ByteArray.empty ([])) ([])), (Pt.mk 2 (⟨#[43]⟩) (⟨#[88]⟩) 0 (Rw.mk 0 ByteArray.empty ([])) ([])), (Pt.mk 2 (⟨#[45]⟩) (⟨#[89]⟩) 0 (Rw.mk 0 ByteArray.empty ([])) ([]))])) a8 c8 none 0 a9 3 _ h6).frameRA [] [] [1, 0, 2] rfl rfl rfl rfl rfl rfl rfl rfl rfl ?_
        rintro _ _ ⟨a10, c10, rfl, rfl⟩
        refine ⟨rfl, [], rfl, ?_⟩
        refine ⟨OwnKeptBut.append, ?_⟩
        refine ⟨fun _ _ h => h, ?_⟩
        refine AtGuard.mk (fun h11 => ?_) (fun h11 => ?_)
        · replace hr := cond_f h11 hr
          obtain ⟨h12, hr⟩ := cond_need hr
          refine at_index_accG ttOK 0 rfl rfl rfl rfl h12 ?_
          intro b13 h14
          subst h14
          obtain ⟨v15, h16, hr⟩ := bind_some hr
          refine at_load_accG ttOK 0 rfl (map_get (D.int .i64) h16) rfl (.inl ⟨_, rfl⟩) rfl ?_
          refine AtGuard.mk (fun h17 => ?_) (fun h17 => ?_)
          · replace hr := cond_f h17 hr
            obtain ⟨h18, hr⟩ := cond_need hr
            refine at_index_accG ttOK 0 rfl rfl rfl rfl h18 ?_
            intro b19 h20
            obtain rfl : b13 = b19 := by injection h20 with h20; injection h20
            obtain ⟨v21, h22, hr⟩ := bind_some hr
            refine at_load_accG ttOK 0 rfl (map_get (D.int .i64) h22) rfl (.inl ⟨_, rfl⟩) rfl ?_
            refine AtIf.mk (fun h23 => ?_) (fun h23 => ?_)
            · replace hr := cond_t h23 hr
              replace hr := Option.some.inj hr
              subst hr
              exact AtRet.pureG [] [] rfl rfl ⟨rfl, rfl⟩
            · replace hr := cond_f h23 hr
              obtain ⟨v24, h25, hr⟩ := bind_some hr
              obtain ⟨v28, h29, hr⟩ := bind_some hr
              refine ⟨?_, ?_⟩
              ·
                refine (W14_sample_spec n  _ h25).atR [] rfl rfl rfl ?_
                rintro _ _ ⟨a30, c30, rfl, rfl⟩
                refine ⟨fun _ _ h => h, ?_⟩
                refine AtSem.le (S' := ⟨[.cells 41 [(.v (.int .i64 2)), (.v (.string (⟨#[43]⟩))), (.v (.string (⟨#[88]⟩))), (.v (.int .i64 0)), (.v (.int .i64 0)), (.v (.string ByteArray.empty)), (.v (.slice none 0 0)), (.v (.slice none 0 0))], .cells 25 [(.v (.int .i64 v5.1.family)), (.v (.slice (some ⟨b13, 0, none⟩) ((List.map (D.int .i64) v5.1.signs).length) c10))]], [], [(.slice (some ⟨b13, 0, none⟩) ((List.map (D.int .i64) v5.1.signs).length) c10, .sl 1 (List.map (D.int .i64) v5.1.signs)), (.slice none 0 0, .sl 3 []), (.slice a8 ((Dc.encL v1).length) c8, .sl 6 (Dc.encL v1)), (.slice a9 ((Pt.encL ([(Pt.mk 1 ByteArray.empty (⟨#[100, 111, 117, 98, 108, 101]⟩) 0 (Rw.mk 0 ByteArray.empty ([])) ([])), (Pt.mk 2 (⟨#[43]⟩) (⟨#[88]⟩) 0 (Rw.mk 0 ByteArray.empty ([])) ([])), (Pt.mk 2 (⟨#[45]⟩) (⟨#[89]⟩) 0 (Rw.mk 0 ByteArray.empty ([])) ([]))])).length) 3, .sl 8 (Pt.encL ([(Pt.mk 1 ByteArray.empty (⟨#[100, 111, 117, 98, 108, 101]⟩) 0 (Rw.mk 0 ByteArray.empty ([])) ([])), (Pt.mk 2 (⟨#[43]⟩) (⟨#[88]⟩) 0 (Rw.mk 0 ByteArray.empty ([])) ([])), (Pt.mk 2 (⟨#[45]⟩) (⟨#[89]⟩) 0 (Rw.mk 0 ByteArray.empty ([])) ([]))]))), (.slice a30 ((Dc.encL v24).length) c30, .sl 6 (Dc.encL v24))]⟩) (StLe.gen 2 [] [.froz 0, .old 0, .old 1, .old 2, .old 3] rfl rfl rfl rfl rfl rfl rfl) rfl ?_
                refine at_buildG (n := 1) ttOK 32 [.agg [.int .i64 v5.1.family, .sl 1 (List.map (D.int .i64) v5.1.signs)]] (ds' := (Md.encL ([v5.1]))) rfl (by kernel_rfl) ⟨⟨rfl, rfl, rfl, ⟨[(.v (.int .i64 v5.1.family))], _, rfl, rfl, ⟨[(.v (.slice (some ⟨b13, 0, none⟩) ((List.map (D.int .i64) v5.1.signs).length) c10))], _, rfl, (.inl ⟨_, rfl, nth_mem (j := 0) rfl⟩), rfl⟩⟩⟩, trivial⟩ rfl (by simp only [Md.encL_eq, List.map_cons, List.map_nil, Md.enc_eq] <;> rfl) (by decide) (by decide) ?_
                intro a31
                refine (mode_Check_spec n v24 ([v5.1]) 4 a30 c30 a31 1 _ h29).atR [4, 5] rfl rfl rfl ?_
                rintro _ _ ⟨rfl, rfl⟩
                refine AtIf.mk (fun h32 => ?_) (fun h32 => ?_)
                · replace hr := cond_t h32 hr
                  replace hr := Option.some.inj hr
                  subst hr
                  exact AtRet.pureG [] [] rfl rfl ⟨rfl, rfl⟩
                · replace hr := cond_f h32 hr
                  replace hr := Option.some.inj hr
                  subst hr
                  exact AtRet.pureG [] [] rfl rfl ⟨rfl, rfl⟩
              ·
                refine AtSem.le (S' := ⟨[.cells 41 [(.v (.int .i64 2)), (.v (.string (⟨#[43]⟩))), (.v (.string (⟨#[88]⟩))), (.v (.int .i64 0)), (.v (.int .i64 0)), (.v (.string ByteArray.empty)), (.v (.slice none 0 0)), (.v (.slice none 0 0))], .cells 25 [(.v (.int .i64 v5.1.family)), (.v (.slice (some ⟨b13, 0, none⟩) ((List.map (D.int .i64) v5.1.signs).length) c10))]], [], [(.slice (some ⟨b13, 0, none⟩) ((List.map (D.int .i64) v5.1.signs).length) c10, .sl 1 (List.map (D.int .i64) v5.1.signs)), (.slice none 0 0, .sl 3 []), (.slice a8 ((Dc.encL v1).length) c8, .sl 6 (Dc.encL v1)), (.slice a9 ((Pt.encL ([(Pt.mk 1 ByteArray.empty (⟨#[100, 111, 117, 98, 108, 101]⟩) 0 (Rw.mk 0 ByteArray.empty ([])) ([])), (Pt.mk 2 (⟨#[43]⟩) (⟨#[88]⟩) 0 (Rw.mk 0 ByteArray.empty ([])) ([])), (Pt.mk 2 (⟨#[45]⟩) (⟨#[89]⟩) 0 (Rw.mk 0 ByteArray.empty ([])) ([]))])).length) 3, .sl 8 (Pt.encL ([(Pt.mk 1 ByteArray.empty (⟨#[100, 111, 117, 98, 108, 101]⟩) 0 (Rw.mk 0 ByteArray.empty ([])) ([])), (Pt.mk 2 (⟨#[43]⟩) (⟨#[88]⟩) 0 (Rw.mk 0 ByteArray.empty ([])) ([])), (Pt.mk 2 (⟨#[45]⟩) (⟨#[89]⟩) 0 (Rw.mk 0 ByteArray.empty ([])) ([]))])))]⟩) (StLe.gen 2 [] [.froz 0, .old 0, .old 1, .old 2] rfl rfl rfl rfl rfl rfl rfl) rfl ?_
                refine at_buildG (n := 1) ttOK 32 [.agg [.int .i64 v5.1.family, .sl 1 (List.map (D.int .i64) v5.1.signs)]] (ds' := (Md.encL ([v5.1]))) rfl (by kernel_rfl) ⟨⟨rfl, rfl, rfl, ⟨[(.v (.int .i64 v5.1.family))], _, rfl, rfl, ⟨[(.v (.slice (some ⟨b13, 0, none⟩) ((List.map (D.int .i64) v5.1.signs).length) c10))], _, rfl, (.inl ⟨_, rfl, nth_mem (j := 0) rfl⟩), rfl⟩⟩⟩, trivial⟩ rfl (by simp only [Md.encL_eq, List.map_cons, List.map_nil, Md.enc_eq] <;> rfl) (by decide) (by decide) ?_
                intro a33
                refine (W14_sample_spec n  _ h25).atR [] rfl rfl rfl ?_
                rintro _ _ ⟨a34, c34, rfl, rfl⟩
                refine ⟨fun _ _ h => h, ?_⟩
                refine (mode_Check_spec n v24 ([v5.1]) 4 a34 c34 a33 1 _ h29).atR [5, 4] rfl rfl rfl ?_
                rintro _ _ ⟨rfl, rfl⟩
                refine AtIf.mk (fun h32 => ?_) (fun h32 => ?_)
                · replace hr := cond_t h32 hr
                  replace hr := Option.some.inj hr
                  subst hr
                  exact AtRet.pureG [] [] rfl rfl ⟨rfl, rfl⟩
                · replace hr := cond_f h32 hr
                  replace hr := Option.some.inj hr
                  subst hr
                  exact AtRet.pureG [] [] rfl rfl ⟨rfl, rfl⟩
          · replace hr := cond_t h17 hr
            refine AtIf.mk (fun _ => ?_) (fun h => tf h)
            replace hr := Option.some.inj hr
            subst hr
            exact AtRet.pureG [] [] rfl rfl ⟨rfl, rfl⟩
        · replace hr := cond_t h11 hr
          refine AtGuard.mk (fun h => tf h) (fun _ => ?_)
          refine AtIf.mk (fun _ => ?_) (fun h => tf h)
          replace hr := Option.some.inj hr
          subst hr
          exact AtRet.pureG [] [] rfl rfl ⟨rfl, rfl⟩
      ·
        refine ⟨OwnKeptBut.append, ?_⟩
        refine Meets.nilRep 3 ?_
        refine (mode_Read_2_spec n v1 (It.mk (⟨#[109, 111, 100, 101]⟩) ByteArray.empty (Rw.mk 0 ByteArray.empty ([])) ([(Pt.mk 1 ByteArray.empty (⟨#[100, 111, 117, 98, 108, 101]⟩) 0 (Rw.mk 0 ByteArray.empty ([])) ([])), (Pt.mk 2 (⟨#[43]⟩) (⟨#[88]⟩) 0 (Rw.mk 0 ByteArray.empty ([])) ([])), (Pt.mk 2 (⟨#[45]⟩) (⟨#[89]⟩) 0 (Rw.mk 0 ByteArray.empty ([])) ([]))])) a8 c8 none 0 a9 3 _ h6).frameRA [] [] [1, 0, 2] rfl rfl rfl rfl rfl rfl rfl rfl rfl ?_
        rintro _ _ ⟨a35, c35, rfl, rfl⟩
        refine ⟨rfl, [], rfl, ?_⟩
        refine ⟨fun _ _ h => h, ?_⟩
        refine AtGuard.mk (fun h11 => ?_) (fun h11 => ?_)
        · replace hr := cond_f h11 hr
          obtain ⟨h12, hr⟩ := cond_need hr
          refine at_index_accG ttOK 0 rfl rfl rfl rfl h12 ?_
          intro b13 h14
          subst h14
          obtain ⟨v15, h16, hr⟩ := bind_some hr
          refine at_load_accG ttOK 0 rfl (map_get (D.int .i64) h16) rfl (.inl ⟨_, rfl⟩) rfl ?_
          refine AtGuard.mk (fun h17 => ?_) (fun h17 => ?_)
          · replace hr := cond_f h17 hr
            obtain ⟨h18, hr⟩ := cond_need hr
            refine at_index_accG ttOK 0 rfl rfl rfl rfl h18 ?_
            intro b19 h20
            obtain rfl : b13 = b19 := by injection h20 with h20; injection h20
            obtain ⟨v21, h22, hr⟩ := bind_some hr
            refine at_load_accG ttOK 0 rfl (map_get (D.int .i64) h22) rfl (.inl ⟨_, rfl⟩) rfl ?_
            refine AtIf.mk (fun h23 => ?_) (fun h23 => ?_)
            · replace hr := cond_t h23 hr
              replace hr := Option.some.inj hr
              subst hr
              exact AtRet.pureG [] [] rfl rfl ⟨rfl, rfl⟩
            · replace hr := cond_f h23 hr
              obtain ⟨v24, h25, hr⟩ := bind_some hr
              obtain ⟨v28, h29, hr⟩ := bind_some hr
              refine ⟨?_, ?_⟩
              ·
                refine (W14_sample_spec n  _ h25).atR [] rfl rfl rfl ?_
                rintro _ _ ⟨a30, c30, rfl, rfl⟩
                refine ⟨fun _ _ h => h, ?_⟩
                refine AtSem.le (S' := ⟨[.cells 41 [(.v (.int .i64 2)), (.v (.string (⟨#[43]⟩))), (.v (.string (⟨#[88]⟩))), (.v (.int .i64 0)), (.v (.int .i64 0)), (.v (.string ByteArray.empty)), (.v (.slice none 0 0)), (.v (.slice none 0 0))], .cells 25 [(.v (.int .i64 v5.1.family)), (.v (.slice (some ⟨b13, 0, none⟩) ((List.map (D.int .i64) v5.1.signs).length) c35))]], [], [(.slice (some ⟨b13, 0, none⟩) ((List.map (D.int .i64) v5.1.signs).length) c35, .sl 1 (List.map (D.int .i64) v5.1.signs)), (.slice none 0 0, .sl 3 []), (.slice a8 ((Dc.encL v1).length) c8, .sl 6 (Dc.encL v1)), (.slice a9 ((Pt.encL ([(Pt.mk 1 ByteArray.empty (⟨#[100, 111, 117, 98, 108, 101]⟩) 0 (Rw.mk 0 ByteArray.empty ([])) ([])), (Pt.mk 2 (⟨#[43]⟩) (⟨#[88]⟩) 0 (Rw.mk 0 ByteArray.empty ([])) ([])), (Pt.mk 2 (⟨#[45]⟩) (⟨#[89]⟩) 0 (Rw.mk 0 ByteArray.empty ([])) ([]))])).length) 3, .sl 8 (Pt.encL ([(Pt.mk 1 ByteArray.empty (⟨#[100, 111, 117, 98, 108, 101]⟩) 0 (Rw.mk 0 ByteArray.empty ([])) ([])), (Pt.mk 2 (⟨#[43]⟩) (⟨#[88]⟩) 0 (Rw.mk 0 ByteArray.empty ([])) ([])), (Pt.mk 2 (⟨#[45]⟩) (⟨#[89]⟩) 0 (Rw.mk 0 ByteArray.empty ([])) ([]))]))), (.slice a30 ((Dc.encL v24).length) c30, .sl 6 (Dc.encL v24))]⟩) (StLe.gen 2 [] [.froz 0, .old 0, .old 1, .old 2, .old 3] rfl rfl rfl rfl rfl rfl rfl) rfl ?_
                refine at_buildG (n := 1) ttOK 32 [.agg [.int .i64 v5.1.family, .sl 1 (List.map (D.int .i64) v5.1.signs)]] (ds' := (Md.encL ([v5.1]))) rfl (by kernel_rfl) ⟨⟨rfl, rfl, rfl, ⟨[(.v (.int .i64 v5.1.family))], _, rfl, rfl, ⟨[(.v (.slice (some ⟨b13, 0, none⟩) ((List.map (D.int .i64) v5.1.signs).length) c35))], _, rfl, (.inl ⟨_, rfl, nth_mem (j := 0) rfl⟩), rfl⟩⟩⟩, trivial⟩ rfl (by simp only [Md.encL_eq, List.map_cons, List.map_nil, Md.enc_eq] <;> rfl) (by decide) (by decide) ?_
                intro a31
                refine (mode_Check_spec n v24 ([v5.1]) 4 a30 c30 a31 1 _ h29).atR [4, 5] rfl rfl rfl ?_
                rintro _ _ ⟨rfl, rfl⟩
                refine AtIf.mk (fun h32 => ?_) (fun h32 => ?_)
                · replace hr := cond_t h32 hr
                  replace hr := Option.some.inj hr
                  subst hr
                  exact AtRet.pureG [] [] rfl rfl ⟨rfl, rfl⟩
                · replace hr := cond_f h32 hr
                  replace hr := Option.some.inj hr
                  subst hr
                  exact AtRet.pureG [] [] rfl rfl ⟨rfl, rfl⟩
              ·
                refine AtSem.le (S' := ⟨[.cells 41 [(.v (.int .i64 2)), (.v (.string (⟨#[43]⟩))), (.v (.string (⟨#[88]⟩))), (.v (.int .i64 0)), (.v (.int .i64 0)), (.v (.string ByteArray.empty)), (.v (.slice none 0 0)), (.v (.slice none 0 0))], .cells 25 [(.v (.int .i64 v5.1.family)), (.v (.slice (some ⟨b13, 0, none⟩) ((List.map (D.int .i64) v5.1.signs).length) c35))]], [], [(.slice (some ⟨b13, 0, none⟩) ((List.map (D.int .i64) v5.1.signs).length) c35, .sl 1 (List.map (D.int .i64) v5.1.signs)), (.slice none 0 0, .sl 3 []), (.slice a8 ((Dc.encL v1).length) c8, .sl 6 (Dc.encL v1)), (.slice a9 ((Pt.encL ([(Pt.mk 1 ByteArray.empty (⟨#[100, 111, 117, 98, 108, 101]⟩) 0 (Rw.mk 0 ByteArray.empty ([])) ([])), (Pt.mk 2 (⟨#[43]⟩) (⟨#[88]⟩) 0 (Rw.mk 0 ByteArray.empty ([])) ([])), (Pt.mk 2 (⟨#[45]⟩) (⟨#[89]⟩) 0 (Rw.mk 0 ByteArray.empty ([])) ([]))])).length) 3, .sl 8 (Pt.encL ([(Pt.mk 1 ByteArray.empty (⟨#[100, 111, 117, 98, 108, 101]⟩) 0 (Rw.mk 0 ByteArray.empty ([])) ([])), (Pt.mk 2 (⟨#[43]⟩) (⟨#[88]⟩) 0 (Rw.mk 0 ByteArray.empty ([])) ([])), (Pt.mk 2 (⟨#[45]⟩) (⟨#[89]⟩) 0 (Rw.mk 0 ByteArray.empty ([])) ([]))])))]⟩) (StLe.gen 2 [] [.froz 0, .old 0, .old 1, .old 2] rfl rfl rfl rfl rfl rfl rfl) rfl ?_
                refine at_buildG (n := 1) ttOK 32 [.agg [.int .i64 v5.1.family, .sl 1 (List.map (D.int .i64) v5.1.signs)]] (ds' := (Md.encL ([v5.1]))) rfl (by kernel_rfl) ⟨⟨rfl, rfl, rfl, ⟨[(.v (.int .i64 v5.1.family))], _, rfl, rfl, ⟨[(.v (.slice (some ⟨b13, 0, none⟩) ((List.map (D.int .i64) v5.1.signs).length) c35))], _, rfl, (.inl ⟨_, rfl, nth_mem (j := 0) rfl⟩), rfl⟩⟩⟩, trivial⟩ rfl (by simp only [Md.encL_eq, List.map_cons, List.map_nil, Md.enc_eq] <;> rfl) (by decide) (by decide) ?_
                intro a33
                refine (W14_sample_spec n  _ h25).atR [] rfl rfl rfl ?_
                rintro _ _ ⟨a34, c34, rfl, rfl⟩
                refine ⟨fun _ _ h => h, ?_⟩
                refine (mode_Check_spec n v24 ([v5.1]) 4 a34 c34 a33 1 _ h29).atR [5, 4] rfl rfl rfl ?_
                rintro _ _ ⟨rfl, rfl⟩
                refine AtIf.mk (fun h32 => ?_) (fun h32 => ?_)
                · replace hr := cond_t h32 hr
                  replace hr := Option.some.inj hr
                  subst hr
                  exact AtRet.pureG [] [] rfl rfl ⟨rfl, rfl⟩
                · replace hr := cond_f h32 hr
                  replace hr := Option.some.inj hr
                  subst hr
                  exact AtRet.pureG [] [] rfl rfl ⟨rfl, rfl⟩
          · replace hr := cond_t h17 hr
            refine AtIf.mk (fun _ => ?_) (fun h => tf h)
            replace hr := Option.some.inj hr
            subst hr
            exact AtRet.pureG [] [] rfl rfl ⟨rfl, rfl⟩
        · replace hr := cond_t h11 hr
          refine AtGuard.mk (fun h => tf h) (fun _ => ?_)
          refine AtIf.mk (fun _ => ?_) (fun h => tf h)
          replace hr := Option.some.inj hr
          subst hr
          exact AtRet.pureG [] [] rfl rfl ⟨rfl, rfl⟩
    ·
      refine ⟨OwnKeptBut.append, ?_⟩
      refine at_buildG (n := 3) ttOK 120 [.agg [.int .i64 1, .str ByteArray.empty, .str (⟨#[100, 111, 117, 98, 108, 101]⟩), .int .i64 0, .agg [.int .i64 0, .str ByteArray.empty, .sl 3 []], .sl 8 []], .agg [.int .i64 2, .str (⟨#[43]⟩), .str (⟨#[88]⟩), .int .i64 0, .agg [.int .i64 0, .str ByteArray.empty, .sl 3 []], .sl 8 []], .agg [.int .i64 2, .str (⟨#[45]⟩), .str (⟨#[89]⟩), .int .i64 0, .agg [.int .i64 0, .str ByteArray.empty, .sl 3 []], .sl 8 []]] (ds' := (Pt.encL ([(Pt.mk 1 ByteArray.empty (⟨#[100, 111, 117, 98, 108, 101]⟩) 0 (Rw.mk 0 ByteArray.empty ([])) ([])), (Pt.mk 2 (⟨#[43]⟩) (⟨#[88]⟩) 0 (Rw.mk 0 ByteArray.empty ([])) ([])), (Pt.mk 2 (⟨#[45]⟩) (⟨#[89]⟩) 0 (Rw.mk 0 ByteArray.empty ([])) ([]))]))) rfl (by kernel_rfl) ⟨⟨rfl, rfl, rfl, ⟨[(.v (.int .i64 1))], _, rfl, rfl, ⟨[(.v (.string ByteArray.empty))], _, rfl, rfl, ⟨[(.v (.string (⟨#[100, 111, 117, 98, 108, 101]⟩)))], _, rfl, rfl, ⟨[(.v (.int .i64 0))], _, rfl, rfl, ⟨[(.v (.int .i64 0)), (.v (.string ByteArray.empty)), (.v (.slice none 0 0))], _, rfl, ⟨[(.v (.int .i64 0))], _, rfl, rfl, ⟨[(.v (.string ByteArray.empty))], _, rfl, rfl, ⟨[(.v (.slice none 0 0))], _, rfl, (.inr ⟨rfl, rfl⟩), rfl⟩⟩⟩, ⟨[(.v (.slice none 0 0))], _, rfl, (.inr ⟨rfl, rfl⟩), rfl⟩⟩⟩⟩⟩⟩⟩, ⟨⟨rfl, rfl, rfl, ⟨[(.v (.int .i64 2))], _, rfl, rfl, ⟨[(.v (.string (⟨#[43]⟩)))], _, rfl, rfl, ⟨[(.v (.string (⟨#[88]⟩)))], _, rfl, rfl, ⟨[(.v (.int .i64 0))], _, rfl, rfl, ⟨[(.v (.int .i64 0)), (.v (.string ByteArray.empty)), (.v (.slice none 0 0))], _, rfl, ⟨[(.v (.int .i64 0))], _, rfl, rfl, ⟨[(.v (.string ByteArray.empty))], _, rfl, rfl, ⟨[(.v (.slice none 0 0))], _, rfl, (.inr ⟨rfl, rfl⟩), rfl⟩⟩⟩, ⟨[(.v (.slice none 0 0))], _, rfl, (.inr ⟨rfl, rfl⟩), rfl⟩⟩⟩⟩⟩⟩⟩, ⟨⟨rfl, rfl, rfl, ⟨[(.v (.int .i64 2))], _, rfl, rfl, ⟨[(.v (.string (⟨#[45]⟩)))], _, rfl, rfl, ⟨[(.v (.string (⟨#[89]⟩)))], _, rfl, rfl, ⟨[(.v (.int .i64 0))], _, rfl, rfl, ⟨[(.v (.int .i64 0)), (.v (.string ByteArray.empty)), (.v (.slice none 0 0))], _, rfl, ⟨[(.v (.int .i64 0))], _, rfl, rfl, ⟨[(.v (.string ByteArray.empty))], _, rfl, rfl, ⟨[(.v (.slice none 0 0))], _, rfl, (.inr ⟨rfl, rfl⟩), rfl⟩⟩⟩, ⟨[(.v (.slice none 0 0))], _, rfl, (.inr ⟨rfl, rfl⟩), rfl⟩⟩⟩⟩⟩⟩⟩, trivial⟩⟩⟩ rfl (by simp only [Pt.encL_eq, List.map_cons, List.map_nil, Pt.enc_eq] <;> rfl) (by decide) (by decide) ?_
      intro a36
      refine Meets.nilRep 3 ?_
      refine (mode_Read_2_spec n v1 (It.mk (⟨#[109, 111, 100, 101]⟩) ByteArray.empty (Rw.mk 0 ByteArray.empty ([])) ([(Pt.mk 1 ByteArray.empty (⟨#[100, 111, 117, 98, 108, 101]⟩) 0 (Rw.mk 0 ByteArray.empty ([])) ([])), (Pt.mk 2 (⟨#[43]⟩) (⟨#[88]⟩) 0 (Rw.mk 0 ByteArray.empty ([])) ([])), (Pt.mk 2 (⟨#[45]⟩) (⟨#[89]⟩) 0 (Rw.mk 0 ByteArray.empty ([])) ([]))])) a8 c8 none 0 a36 3 _ h6).frameRA [] [] [1, 0, 2] rfl rfl rfl rfl rfl rfl rfl rfl rfl ?_
      rintro _ _ ⟨a37, c37, rfl, rfl⟩
      refine ⟨rfl, [], rfl, ?_⟩
      refine ⟨fun _ _ h => h, ?_⟩
      refine AtGuard.mk (fun h11 => ?_) (fun h11 => ?_)
      · replace hr := cond_f h11 hr
        obtain ⟨h12, hr⟩ := cond_need hr
        refine at_index_accG ttOK 0 rfl rfl rfl rfl h12 ?_
        intro b13 h14
        subst h14
        obtain ⟨v15, h16, hr⟩ := bind_some hr
        refine at_load_accG ttOK 0 rfl (map_get (D.int .i64) h16) rfl (.inl ⟨_, rfl⟩) rfl ?_
        refine AtGuard.mk (fun h17 => ?_) (fun h17 => ?_)
        · replace hr := cond_f h17 hr
          obtain ⟨h18, hr⟩ := cond_need hr
          refine at_index_accG ttOK 0 rfl rfl rfl rfl h18 ?_
          intro b19 h20
          obtain rfl : b13 = b19 := by injection h20 with h20; injection h20
          obtain ⟨v21, h22, hr⟩ := bind_some hr
          refine at_load_accG ttOK 0 rfl (map_get (D.int .i64) h22) rfl (.inl ⟨_, rfl⟩) rfl ?_
          refine AtIf.mk (fun h23 => ?_) (fun h23 => ?_)
          · replace hr := cond_t h23 hr
            replace hr := Option.some.inj hr
            subst hr
            exact AtRet.pureG [] [] rfl rfl ⟨rfl, rfl⟩
          · replace hr := cond_f h23 hr
            obtain ⟨v24, h25, hr⟩ := bind_some hr
            obtain ⟨v28, h29, hr⟩ := bind_some hr
            refine ⟨?_, ?_⟩
            ·
              refine (W14_sample_spec n  _ h25).atR [] rfl rfl rfl ?_
              rintro _ _ ⟨a30, c30, rfl, rfl⟩
              refine ⟨fun _ _ h => h, ?_⟩
              refine AtSem.le (S' := ⟨[.cells 41 [(.v (.int .i64 2)), (.v (.string (⟨#[43]⟩))), (.v (.string (⟨#[88]⟩))), (.v (.int .i64 0)), (.v (.int .i64 0)), (.v (.string ByteArray.empty)), (.v (.slice none 0 0)), (.v (.slice none 0 0))], .cells 25 [(.v (.int .i64 v5.1.family)), (.v (.slice (some ⟨b13, 0, none⟩) ((List.map (D.int .i64) v5.1.signs).length) c37))]], [], [(.slice (some ⟨b13, 0, none⟩) ((List.map (D.int .i64) v5.1.signs).length) c37, .sl 1 (List.map (D.int .i64) v5.1.signs)), (.slice none 0 0, .sl 3 []), (.slice a8 ((Dc.encL v1).length) c8, .sl 6 (Dc.encL v1)), (.slice a36 ((Pt.encL ([(Pt.mk 1 ByteArray.empty (⟨#[100, 111, 117, 98, 108, 101]⟩) 0 (Rw.mk 0 ByteArray.empty ([])) ([])), (Pt.mk 2 (⟨#[43]⟩) (⟨#[88]⟩) 0 (Rw.mk 0 ByteArray.empty ([])) ([])), (Pt.mk 2 (⟨#[45]⟩) (⟨#[89]⟩) 0 (Rw.mk 0 ByteArray.empty ([])) ([]))])).length) 3, .sl 8 (Pt.encL ([(Pt.mk 1 ByteArray.empty (⟨#[100, 111, 117, 98, 108, 101]⟩) 0 (Rw.mk 0 ByteArray.empty ([])) ([])), (Pt.mk 2 (⟨#[43]⟩) (⟨#[88]⟩) 0 (Rw.mk 0 ByteArray.empty ([])) ([])), (Pt.mk 2 (⟨#[45]⟩) (⟨#[89]⟩) 0 (Rw.mk 0 ByteArray.empty ([])) ([]))]))), (.slice a30 ((Dc.encL v24).length) c30, .sl 6 (Dc.encL v24))]⟩) (StLe.gen 2 [] [.froz 0, .old 0, .old 1, .old 2, .old 3] rfl rfl rfl rfl rfl rfl rfl) rfl ?_
              refine at_buildG (n := 1) ttOK 32 [.agg [.int .i64 v5.1.family, .sl 1 (List.map (D.int .i64) v5.1.signs)]] (ds' := (Md.encL ([v5.1]))) rfl (by kernel_rfl) ⟨⟨rfl, rfl, rfl, ⟨[(.v (.int .i64 v5.1.family))], _, rfl, rfl, ⟨[(.v (.slice (some ⟨b13, 0, none⟩) ((List.map (D.int .i64) v5.1.signs).length) c37))], _, rfl, (.inl ⟨_, rfl, nth_mem (j := 0) rfl⟩), rfl⟩⟩⟩, trivial⟩ rfl (by simp only [Md.encL_eq, List.map_cons, List.map_nil, Md.enc_eq] <;> rfl) (by decide) (by decide) ?_
              intro a31
              refine (mode_Check_spec n v24 ([v5.1]) 4 a30 c30 a31 1 _ h29).atR [4, 5] rfl rfl rfl ?_
              rintro _ _ ⟨rfl, rfl⟩
              refine AtIf.mk (fun h32 => ?_) (fun h32 => ?_)
              · replace hr := cond_t h32 hr
                replace hr := Option.some.inj hr
                subst hr
                exact AtRet.pureG [] [] rfl rfl ⟨rfl, rfl⟩
              · replace hr := cond_f h32 hr
                replace hr := Option.some.inj hr
                subst hr
                exact AtRet.pureG [] [] rfl rfl ⟨rfl, rfl⟩
            ·
              refine AtSem.le (S' := ⟨[.cells 41 [(.v (.int .i64 2)), (.v (.string (⟨#[43]⟩))), (.v (.string (⟨#[88]⟩))), (.v (.int .i64 0)), (.v (.int .i64 0)), (.v (.string ByteArray.empty)), (.v (.slice none 0 0)), (.v (.slice none 0 0))], .cells 25 [(.v (.int .i64 v5.1.family)), (.v (.slice (some ⟨b13, 0, none⟩) ((List.map (D.int .i64) v5.1.signs).length) c37))]], [], [(.slice (some ⟨b13, 0, none⟩) ((List.map (D.int .i64) v5.1.signs).length) c37, .sl 1 (List.map (D.int .i64) v5.1.signs)), (.slice none 0 0, .sl 3 []), (.slice a8 ((Dc.encL v1).length) c8, .sl 6 (Dc.encL v1)), (.slice a36 ((Pt.encL ([(Pt.mk 1 ByteArray.empty (⟨#[100, 111, 117, 98, 108, 101]⟩) 0 (Rw.mk 0 ByteArray.empty ([])) ([])), (Pt.mk 2 (⟨#[43]⟩) (⟨#[88]⟩) 0 (Rw.mk 0 ByteArray.empty ([])) ([])), (Pt.mk 2 (⟨#[45]⟩) (⟨#[89]⟩) 0 (Rw.mk 0 ByteArray.empty ([])) ([]))])).length) 3, .sl 8 (Pt.encL ([(Pt.mk 1 ByteArray.empty (⟨#[100, 111, 117, 98, 108, 101]⟩) 0 (Rw.mk 0 ByteArray.empty ([])) ([])), (Pt.mk 2 (⟨#[43]⟩) (⟨#[88]⟩) 0 (Rw.mk 0 ByteArray.empty ([])) ([])), (Pt.mk 2 (⟨#[45]⟩) (⟨#[89]⟩) 0 (Rw.mk 0 ByteArray.empty ([])) ([]))])))]⟩) (StLe.gen 2 [] [.froz 0, .old 0, .old 1, .old 2] rfl rfl rfl rfl rfl rfl rfl) rfl ?_
              refine at_buildG (n := 1) ttOK 32 [.agg [.int .i64 v5.1.family, .sl 1 (List.map (D.int .i64) v5.1.signs)]] (ds' := (Md.encL ([v5.1]))) rfl (by kernel_rfl) ⟨⟨rfl, rfl, rfl, ⟨[(.v (.int .i64 v5.1.family))], _, rfl, rfl, ⟨[(.v (.slice (some ⟨b13, 0, none⟩) ((List.map (D.int .i64) v5.1.signs).length) c37))], _, rfl, (.inl ⟨_, rfl, nth_mem (j := 0) rfl⟩), rfl⟩⟩⟩, trivial⟩ rfl (by simp only [Md.encL_eq, List.map_cons, List.map_nil, Md.enc_eq] <;> rfl) (by decide) (by decide) ?_
              intro a33
              refine (W14_sample_spec n  _ h25).atR [] rfl rfl rfl ?_
              rintro _ _ ⟨a34, c34, rfl, rfl⟩
              refine ⟨fun _ _ h => h, ?_⟩
              refine (mode_Check_spec n v24 ([v5.1]) 4 a34 c34 a33 1 _ h29).atR [5, 4] rfl rfl rfl ?_
              rintro _ _ ⟨rfl, rfl⟩
              refine AtIf.mk (fun h32 => ?_) (fun h32 => ?_)
              · replace hr := cond_t h32 hr
                replace hr := Option.some.inj hr
                subst hr
                exact AtRet.pureG [] [] rfl rfl ⟨rfl, rfl⟩
              · replace hr := cond_f h32 hr
                replace hr := Option.some.inj hr
                subst hr
                exact AtRet.pureG [] [] rfl rfl ⟨rfl, rfl⟩
        · replace hr := cond_t h17 hr
          refine AtIf.mk (fun _ => ?_) (fun h => tf h)
          replace hr := Option.some.inj hr
          subst hr
          exact AtRet.pureG [] [] rfl rfl ⟨rfl, rfl⟩
      · replace hr := cond_t h11 hr
        refine AtGuard.mk (fun h => tf h) (fun _ => ?_)
        refine AtIf.mk (fun _ => ?_) (fun h => tf h)
        replace hr := Option.some.inj hr
        subst hr
        exact AtRet.pureG [] [] rfl rfl ⟨rfl, rfl⟩
  refine ⟨?_, ?_⟩
  ·
    refine at_buildG (n := 3) ttOK 120 [.agg [.int .i64 1, .str ByteArray.empty, .str (⟨#[100, 111, 117, 98, 108, 101]⟩), .int .i64 0, .agg [.int .i64 0, .str ByteArray.empty, .sl 3 []], .sl 8 []], .agg [.int .i64 2, .str (⟨#[43]⟩), .str (⟨#[88]⟩), .int .i64 0, .agg [.int .i64 0, .str ByteArray.empty, .sl 3 []], .sl 8 []], .agg [.int .i64 2, .str (⟨#[45]⟩), .str (⟨#[89]⟩), .int .i64 0, .agg [.int .i64 0, .str ByteArray.empty, .sl 3 []], .sl 8 []]] (ds' := (Pt.encL ([(Pt.mk 1 ByteArray.empty (⟨#[100, 111, 117, 98, 108, 101]⟩) 0 (Rw.mk 0 ByteArray.empty ([])) ([])), (Pt.mk 2 (⟨#[43]⟩) (⟨#[88]⟩) 0 (Rw.mk 0 ByteArray.empty ([])) ([])), (Pt.mk 2 (⟨#[45]⟩) (⟨#[89]⟩) 0 (Rw.mk 0 ByteArray.empty ([])) ([]))]))) rfl (by kernel_rfl) ⟨⟨rfl, rfl, rfl, ⟨[(.v (.int .i64 1))], _, rfl, rfl, ⟨[(.v (.string ByteArray.empty))], _, rfl, rfl, ⟨[(.v (.string (⟨#[100, 111, 117, 98, 108, 101]⟩)))], _, rfl, rfl, ⟨[(.v (.int .i64 0))], _, rfl, rfl, ⟨[(.v (.int .i64 0)), (.v (.string ByteArray.empty)), (.v (.slice none 0 0))], _, rfl, ⟨[(.v (.int .i64 0))], _, rfl, rfl, ⟨[(.v (.string ByteArray.empty))], _, rfl, rfl, ⟨[(.v (.slice none 0 0))], _, rfl, (.inr ⟨rfl, rfl⟩), rfl⟩⟩⟩, ⟨[(.v (.slice none 0 0))], _, rfl, (.inr ⟨rfl, rfl⟩), rfl⟩⟩⟩⟩⟩⟩⟩, ⟨⟨rfl, rfl, rfl, ⟨[(.v (.int .i64 2))], _, rfl, rfl, ⟨[(.v (.string (⟨#[43]⟩)))], _, rfl, rfl, ⟨[(.v (.string (⟨#[88]⟩)))], _, rfl, rfl, ⟨[(.v (.int .i64 0))], _, rfl, rfl, ⟨[(.v (.int .i64 0)), (.v (.string ByteArray.empty)), (.v (.slice none 0 0))], _, rfl, ⟨[(.v (.int .i64 0))], _, rfl, rfl, ⟨[(.v (.string ByteArray.empty))], _, rfl, rfl, ⟨[(.v (.slice none 0 0))], _, rfl, (.inr ⟨rfl, rfl⟩), rfl⟩⟩⟩, ⟨[(.v (.slice none 0 0))], _, rfl, (.inr ⟨rfl, rfl⟩), rfl⟩⟩⟩⟩⟩⟩⟩, ⟨⟨rfl, rfl, rfl, ⟨[(.v (.int .i64 2))], _, rfl, rfl, ⟨[(.v (.string (⟨#[45]⟩)))], _, rfl, rfl, ⟨[(.v (.string (⟨#[89]⟩)))], _, rfl, rfl, ⟨[(.v (.int .i64 0))], _, rfl, rfl, ⟨[(.v (.int .i64 0)), (.v (.string ByteArray.empty)), (.v (.slice none 0 0))], _, rfl, ⟨[(.v (.int .i64 0))], _, rfl, rfl, ⟨[(.v (.string ByteArray.empty))], _, rfl, rfl, ⟨[(.v (.slice none 0 0))], _, rfl, (.inr ⟨rfl, rfl⟩), rfl⟩⟩⟩, ⟨[(.v (.slice none 0 0))], _, rfl, (.inr ⟨rfl, rfl⟩), rfl⟩⟩⟩⟩⟩⟩⟩, trivial⟩⟩⟩ rfl (by simp only [Pt.encL_eq, List.map_cons, List.map_nil, Pt.enc_eq] <;> rfl) (by decide) (by decide) ?_
    intro a38
    refine ⟨?_, ?_⟩
    ·
      refine (W14_sample_spec n  _ h2).atR [] rfl rfl rfl ?_
      rintro _ _ ⟨a39, c39, rfl, rfl⟩
      refine ⟨fun _ _ h => h, ?_⟩
      refine ⟨?_, ?_⟩
      ·
        refine Meets.nilRep 3 ?_
        refine (mode_Read_2_spec n v1 (It.mk (⟨#[109, 111, 100, 101]⟩) ByteArray.empty (Rw.mk 0 ByteArray.empty ([])) ([(Pt.mk 1 ByteArray.empty (⟨#[100, 111, 117, 98, 108, 101]⟩) 0 (Rw.mk 0 ByteArray.empty ([])) ([])), (Pt.mk 2 (⟨#[43]⟩) (⟨#[88]⟩) 0 (Rw.mk 0 ByteArray.empty ([])) ([])), (Pt.mk 2 (⟨#[45]⟩) (⟨#[89]⟩) 0 (Rw.mk 0 ByteArray.empty ([])) ([]))])) a39 c39 none 0 a38 3 _ h6).frameRA [] [] [2, 0, 1] rfl rfl rfl rfl rfl rfl rfl rfl rfl ?_
        rintro _ _ ⟨a40, c40, rfl, rfl⟩
        refine ⟨rfl, [], rfl, ?_⟩
        refine ⟨OwnKeptBut.append, ?_⟩
        refine ⟨fun _ _ h => h, ?_⟩
        refine AtGuard.mk (fun h11 => ?_) (fun h11 => ?_)
        · replace hr := cond_f h11 hr
          obtain ⟨h12, hr⟩ := cond_need hr
          refine at_index_accG ttOK 0 rfl rfl rfl rfl h12 ?_
          intro b13 h14
          subst h14
          obtain ⟨v15, h16, hr⟩ := bind_some hr
          refine at_load_accG ttOK 0 rfl (map_get (D.int .i64) h16) rfl (.inl ⟨_, rfl⟩) rfl ?_
          refine AtGuard.mk (fun h17 => ?_) (fun h17 => ?_)
          · replace hr := cond_f h17 hr
            obtain ⟨h18, hr⟩ := cond_need hr
            refine at_index_accG ttOK 0 rfl rfl rfl rfl h18 ?_
            intro b19 h20
            obtain rfl : b13 = b19 := by injection h20 with h20; injection h20
            obtain ⟨v21, h22, hr⟩ := bind_some hr
            refine at_load_accG ttOK 0 rfl (map_get (D.int .i64) h22) rfl (.inl ⟨_, rfl⟩) rfl ?_
            refine AtIf.mk (fun h23 => ?_) (fun h23 => ?_)
            · replace hr := cond_t h23 hr
              replace hr := Option.some.inj hr
              subst hr
              exact AtRet.pureG [] [] rfl rfl ⟨rfl, rfl⟩
            · replace hr := cond_f h23 hr
              obtain ⟨v24, h25, hr⟩ := bind_some hr
              obtain ⟨v28, h29, hr⟩ := bind_some hr
              refine ⟨?_, ?_⟩
              ·
                refine (W14_sample_spec n  _ h25).atR [] rfl rfl rfl ?_
                rintro _ _ ⟨a30, c30, rfl, rfl⟩
                refine ⟨fun _ _ h => h, ?_⟩
                refine AtSem.le (S' := ⟨[.cells 41 [(.v (.int .i64 2)), (.v (.string (⟨#[43]⟩))), (.v (.string (⟨#[88]⟩))), (.v (.int .i64 0)), (.v (.int .i64 0)), (.v (.string ByteArray.empty)), (.v (.slice none 0 0)), (.v (.slice none 0 0))], .cells 25 [(.v (.int .i64 v5.1.family)), (.v (.slice (some ⟨b13, 0, none⟩) ((List.map (D.int .i64) v5.1.signs).length) c40))]], [], [(.slice (some ⟨b13, 0, none⟩) ((List.map (D.int .i64) v5.1.signs).length) c40, .sl 1 (List.map (D.int .i64) v5.1.signs)), (.slice none 0 0, .sl 3 []), (.slice a38 ((Pt.encL ([(Pt.mk 1 ByteArray.empty (⟨#[100, 111, 117, 98, 108, 101]⟩) 0 (Rw.mk 0 ByteArray.empty ([])) ([])), (Pt.mk 2 (⟨#[43]⟩) (⟨#[88]⟩) 0 (Rw.mk 0 ByteArray.empty ([])) ([])), (Pt.mk 2 (⟨#[45]⟩) (⟨#[89]⟩) 0 (Rw.mk 0 ByteArray.empty ([])) ([]))])).length) 3, .sl 8 (Pt.encL ([(Pt.mk 1 ByteArray.empty (⟨#[100, 111, 117, 98, 108, 101]⟩) 0 (Rw.mk 0 ByteArray.empty ([])) ([])), (Pt.mk 2 (⟨#[43]⟩) (⟨#[88]⟩) 0 (Rw.mk 0 ByteArray.empty ([])) ([])), (Pt.mk 2 (⟨#[45]⟩) (⟨#[89]⟩) 0 (Rw.mk 0 ByteArray.empty ([])) ([]))]))), (.slice a39 ((Dc.encL v1).length) c39, .sl 6 (Dc.encL v1)), (.slice a30 ((Dc.encL v24).length) c30, .sl 6 (Dc.encL v24))]⟩) (StLe.gen 2 [] [.froz 0, .old 0, .old 1, .old 2, .old 3] rfl rfl rfl rfl rfl rfl rfl) rfl ?_
                refine at_buildG (n := 1) ttOK 32 [.agg [.int .i64 v5.1.family, .sl 1 (List.map (D.int .i64) v5.1.signs)]] (ds' := (Md.encL ([v5.1]))) rfl (by kernel_rfl) ⟨⟨rfl, rfl, rfl, ⟨[(.v (.int .i64 v5.1.family))], _, rfl, rfl, ⟨[(.v (.slice (some ⟨b13, 0, none⟩) ((List.map (D.int .i64) v5.1.signs).length) c40))], _, rfl, (.inl ⟨_, rfl, nth_mem (j := 0) rfl⟩), rfl⟩⟩⟩, trivial⟩ rfl (by simp only [Md.encL_eq, List.map_cons, List.map_nil, Md.enc_eq] <;> rfl) (by decide) (by decide) ?_
                intro a31
                refine (mode_Check_spec n v24 ([v5.1]) 4 a30 c30 a31 1 _ h29).atR [4, 5] rfl rfl rfl ?_
                rintro _ _ ⟨rfl, rfl⟩
                refine AtIf.mk (fun h32 => ?_) (fun h32 => ?_)
                · replace hr := cond_t h32 hr
                  replace hr := Option.some.inj hr
                  subst hr
                  exact AtRet.pureG [] [] rfl rfl ⟨rfl, rfl⟩
                · replace hr := cond_f h32 hr
                  replace hr := Option.some.inj hr
                  subst hr
                  exact AtRet.pureG [] [] rfl rfl ⟨rfl, rfl⟩
              ·
                refine AtSem.le (S' := ⟨[.cells 41 [(.v (.int .i64 2)), (.v (.string (⟨#[43]⟩))), (.v (.string (⟨#[88]⟩))), (.v (.int .i64 0)), (.v (.int .i64 0)), (.v (.string ByteArray.empty)), (.v (.slice none 0 0)), (.v (.slice none 0 0))], .cells 25 [(.v (.int .i64 v5.1.family)), (.v (.slice (some ⟨b13, 0, none⟩) ((List.map (D.int .i64) v5.1.signs).length) c40))]], [], [(.slice (some ⟨b13, 0, none⟩) ((List.map (D.int .i64) v5.1.signs).length) c40, .sl 1 (List.map (D.int .i64) v5.1.signs)), (.slice none 0 0, .sl 3 []), (.slice a38 ((Pt.encL ([(Pt.mk 1 ByteArray.empty (⟨#[100, 111, 117, 98, 108, 101]⟩) 0 (Rw.mk 0 ByteArray.empty ([])) ([])), (Pt.mk 2 (⟨#[43]⟩) (⟨#[88]⟩) 0 (Rw.mk 0 ByteArray.empty ([])) ([])), (Pt.mk 2 (⟨#[45]⟩) (⟨#[89]⟩) 0 (Rw.mk 0 ByteArray.empty ([])) ([]))])).length) 3, .sl 8 (Pt.encL ([(Pt.mk 1 ByteArray.empty (⟨#[100, 111, 117, 98, 108, 101]⟩) 0 (Rw.mk 0 ByteArray.empty ([])) ([])), (Pt.mk 2 (⟨#[43]⟩) (⟨#[88]⟩) 0 (Rw.mk 0 ByteArray.empty ([])) ([])), (Pt.mk 2 (⟨#[45]⟩) (⟨#[89]⟩) 0 (Rw.mk 0 ByteArray.empty ([])) ([]))]))), (.slice a39 ((Dc.encL v1).length) c39, .sl 6 (Dc.encL v1))]⟩) (StLe.gen 2 [] [.froz 0, .old 0, .old 1, .old 2] rfl rfl rfl rfl rfl rfl rfl) rfl ?_
                refine at_buildG (n := 1) ttOK 32 [.agg [.int .i64 v5.1.family, .sl 1 (List.map (D.int .i64) v5.1.signs)]] (ds' := (Md.encL ([v5.1]))) rfl (by kernel_rfl) ⟨⟨rfl, rfl, rfl, ⟨[(.v (.int .i64 v5.1.family))], _, rfl, rfl, ⟨[(.v (.slice (some ⟨b13, 0, none⟩) ((List.map (D.int .i64) v5.1.signs).length) c40))], _, rfl, (.inl ⟨_, rfl, nth_mem (j := 0) rfl⟩), rfl⟩⟩⟩, trivial⟩ rfl (by simp only [Md.encL_eq, List.map_cons, List.map_nil, Md.enc_eq] <;> rfl) (by decide) (by decide) ?_
                intro a33
                refine (W14_sample_spec n  _ h25).atR [] rfl rfl rfl ?_
                rintro _ _ ⟨a34, c34, rfl, rfl⟩
                refine ⟨fun _ _ h => h, ?_⟩
                refine (mode_Check_spec n v24 ([v5.1]) 4 a34 c34 a33 1 _ h29).atR [5, 4] rfl rfl rfl ?_
                rintro _ _ ⟨rfl, rfl⟩
                refine AtIf.mk (fun h32 => ?_) (fun h32 => ?_)
                · replace hr := cond_t h32 hr
                  replace hr := Option.some.inj hr
                  subst hr
                  exact AtRet.pureG [] [] rfl rfl ⟨rfl, rfl⟩
                · replace hr := cond_f h32 hr
                  replace hr := Option.some.inj hr
                  subst hr
                  exact AtRet.pureG [] [] rfl rfl ⟨rfl, rfl⟩
          · replace hr := cond_t h17 hr
            refine AtIf.mk (fun _ => ?_) (fun h => tf h)
            replace hr := Option.some.inj hr
            subst hr
            exact AtRet.pureG [] [] rfl rfl ⟨rfl, rfl⟩
        · replace hr := cond_t h11 hr
          refine AtGuard.mk (fun h => tf h) (fun _ => ?_)
          refine AtIf.mk (fun _ => ?_) (fun h => tf h)
          replace hr := Option.some.inj hr
          subst hr
          exact AtRet.pureG [] [] rfl rfl ⟨rfl, rfl⟩
      ·
        refine ⟨OwnKeptBut.append, ?_⟩
        refine Meets.nilRep 3 ?_
        refine (mode_Read_2_spec n v1 (It.mk (⟨#[109, 111, 100, 101]⟩) ByteArray.empty (Rw.mk 0 ByteArray.empty ([])) ([(Pt.mk 1 ByteArray.empty (⟨#[100, 111, 117, 98, 108, 101]⟩) 0 (Rw.mk 0 ByteArray.empty ([])) ([])), (Pt.mk 2 (⟨#[43]⟩) (⟨#[88]⟩) 0 (Rw.mk 0 ByteArray.empty ([])) ([])), (Pt.mk 2 (⟨#[45]⟩) (⟨#[89]⟩) 0 (Rw.mk 0 ByteArray.empty ([])) ([]))])) a39 c39 none 0 a38 3 _ h6).frameRA [] [] [2, 0, 1] rfl rfl rfl rfl rfl rfl rfl rfl rfl ?_
        rintro _ _ ⟨a41, c41, rfl, rfl⟩
        refine ⟨rfl, [], rfl, ?_⟩
        refine ⟨fun _ _ h => h, ?_⟩
        refine AtGuard.mk (fun h11 => ?_) (fun h11 => ?_)
        · replace hr := cond_f h11 hr
          obtain ⟨h12, hr⟩ := cond_need hr
          refine at_index_accG ttOK 0 rfl rfl rfl rfl h12 ?_
          intro b13 h14
          subst h14
          obtain ⟨v15, h16, hr⟩ := bind_some hr
          refine at_load_accG ttOK 0 rfl (map_get (D.int .i64) h16) rfl (.inl ⟨_, rfl⟩) rfl ?_
          refine AtGuard.mk (fun h17 => ?_) (fun h17 => ?_)
          · replace hr := cond_f h17 hr
            obtain ⟨h18, hr⟩ := cond_need hr
            refine at_index_accG ttOK 0 rfl rfl rfl rfl h18 ?_
            intro b19 h20
            obtain rfl : b13 = b19 := by injection h20 with h20; injection h20
            obtain ⟨v21, h22, hr⟩ := bind_some hr
            refine at_load_accG ttOK 0 rfl (map_get (D.int .i64) h22) rfl (.inl ⟨_, rfl⟩) rfl ?_
            refine AtIf.mk (fun h23 => ?_) (fun h23 => ?_)
            · replace hr := cond_t h23 hr
              replace hr := Option.some.inj hr
              subst hr
              exact AtRet.pureG [] [] rfl rfl ⟨rfl, rfl⟩
            · replace hr := cond_f h23 hr
              obtain ⟨v24, h25, hr⟩ := bind_some hr
              obtain ⟨v28, h29, hr⟩ := bind_some hr
              refine ⟨?_, ?_⟩
              ·
                refine (W14_sample_spec n  _ h25).atR [] rfl rfl rfl ?_
                rintro _ _ ⟨a30, c30, rfl, rfl⟩
                refine ⟨fun _ _ h => h, ?_⟩
                refine AtSem.le (S' := ⟨[.cells 41 [(.v (.int .i64 2)), (.v (.string (⟨#[43]⟩))), (.v (.string (⟨#[88]⟩))), (.v (.int .i64 0)), (.v (.int .i64 0)), (.v (.string ByteArray.empty)), (.v (.slice none 0 0)), (.v (.slice none 0 0))], .cells 25 [(.v (.int .i64 v5.1.family)), (.v (.slice (some ⟨b13, 0, none⟩) ((List.map (D.int .i64) v5.1.signs).length) c41))]], [], [(.slice (some ⟨b13, 0, none⟩) ((List.map (D.int .i64) v5.1.signs).length) c41, .sl 1 (List.map (D.int .i64) v5.1.signs)), (.slice none 0 0, .sl 3 []), (.slice a38 ((Pt.encL ([(Pt.mk 1 ByteArray.empty (⟨#[100, 111, 117, 98, 108, 101]⟩) 0 (Rw.mk 0 ByteArray.empty ([])) ([])), (Pt.mk 2 (⟨#[43]⟩) (⟨#[88]⟩) 0 (Rw.mk 0 ByteArray.empty ([])) ([])), (Pt.mk 2 (⟨#[45]⟩) (⟨#[89]⟩) 0 (Rw.mk 0 ByteArray.empty ([])) ([]))])).length) 3, .sl 8 (Pt.encL ([(Pt.mk 1 ByteArray.empty (⟨#[100, 111, 117, 98, 108, 101]⟩) 0 (Rw.mk 0 ByteArray.empty ([])) ([])), (Pt.mk 2 (⟨#[43]⟩) (⟨#[88]⟩) 0 (Rw.mk 0 ByteArray.empty ([])) ([])), (Pt.mk 2 (⟨#[45]⟩) (⟨#[89]⟩) 0 (Rw.mk 0 ByteArray.empty ([])) ([]))]))), (.slice a39 ((Dc.encL v1).length) c39, .sl 6 (Dc.encL v1)), (.slice a30 ((Dc.encL v24).length) c30, .sl 6 (Dc.encL v24))]⟩) (StLe.gen 2 [] [.froz 0, .old 0, .old 1, .old 2, .old 3] rfl rfl rfl rfl rfl rfl rfl) rfl ?_
                refine at_buildG (n := 1) ttOK 32 [.agg [.int .i64 v5.1.family, .sl 1 (List.map (D.int .i64) v5.1.signs)]] (ds' := (Md.encL ([v5.1]))) rfl (by kernel_rfl) ⟨⟨rfl, rfl, rfl, ⟨[(.v (.int .i64 v5.1.family))], _, rfl, rfl, ⟨[(.v (.slice (some ⟨b13, 0, none⟩) ((List.map (D.int .i64) v5.1.signs).length) c41))], _, rfl, (.inl ⟨_, rfl, nth_mem (j := 0) rfl⟩), rfl⟩⟩⟩, trivial⟩ rfl (by simp only [Md.encL_eq, List.map_cons, List.map_nil, Md.enc_eq] <;> rfl) (by decide) (by decide) ?_
                intro a31
                refine (mode_Check_spec n v24 ([v5.1]) 4 a30 c30 a31 1 _ h29).atR [4, 5] rfl rfl rfl ?_
                rintro _ _ ⟨rfl, rfl⟩
                refine AtIf.mk (fun h32 => ?_) (fun h32 => ?_)
                · replace hr := cond_t h32 hr
                  replace hr := Option.some.inj hr
                  subst hr
                  exact AtRet.pureG [] [] rfl rfl ⟨rfl, rfl⟩
                · replace hr := cond_f h32 hr
                  replace hr := Option.some.inj hr
                  subst hr
                  exact AtRet.pureG [] [] rfl rfl ⟨rfl, rfl⟩
              ·
                refine AtSem.le (S' := ⟨[.cells 41 [(.v (.int .i64 2)), (.v (.string (⟨#[43]⟩))), (.v (.string (⟨#[88]⟩))), (.v (.int .i64 0)), (.v (.int .i64 0)), (.v (.string ByteArray.empty)), (.v (.slice none 0 0)), (.v (.slice none 0 0))], .cells 25 [(.v (.int .i64 v5.1.family)), (.v (.slice (some ⟨b13, 0, none⟩) ((List.map (D.int .i64) v5.1.signs).length) c41))]], [], [(.slice (some ⟨b13, 0, none⟩) ((List.map (D.int .i64) v5.1.signs).length) c41, .sl 1 (List.map (D.int .i64) v5.1.signs)), (.slice none 0 0, .sl 3 []), (.slice a38 ((Pt.encL ([(Pt.mk 1 ByteArray.empty (⟨#[100, 111, 117, 98, 108, 101]⟩) 0 (Rw.mk 0 ByteArray.empty ([])) ([])), (Pt.mk 2 (⟨#[43]⟩) (⟨#[88]⟩) 0 (Rw.mk 0 ByteArray.empty ([])) ([])), (Pt.mk 2 (⟨#[45]⟩) (⟨#[89]⟩) 0 (Rw.mk 0 ByteArray.empty ([])) ([]))])).length) 3, .sl 8 (Pt.encL ([(Pt.mk 1 ByteArray.empty (⟨#[100, 111, 117, 98, 108, 101]⟩) 0 (Rw.mk 0 ByteArray.empty ([])) ([])), (Pt.mk 2 (⟨#[43]⟩) (⟨#[88]⟩) 0 (Rw.mk 0 ByteArray.empty ([])) ([])), (Pt.mk 2 (⟨#[45]⟩) (⟨#[89]⟩) 0 (Rw.mk 0 ByteArray.empty ([])) ([]))]))), (.slice a39 ((Dc.encL v1).length) c39, .sl 6 (Dc.encL v1))]⟩) (StLe.gen 2 [] [.froz 0, .old 0, .old 1, .old 2] rfl rfl rfl rfl rfl rfl rfl) rfl ?_
                refine at_buildG (n := 1) ttOK 32 [.agg [.int .i64 v5.1.family, .sl 1 (List.map (D.int .i64) v5.1.signs)]] (ds' := (Md.encL ([v5.1]))) rfl (by kernel_rfl) ⟨⟨rfl, rfl, rfl, ⟨[(.v (.int .i64 v5.1.family))], _, rfl, rfl, ⟨[(.v (.slice (some ⟨b13, 0, none⟩) ((List.map (D.int .i64) v5.1.signs).length) c41))], _, rfl, (.inl ⟨_, rfl, nth_mem (j := 0) rfl⟩), rfl⟩⟩⟩, trivial⟩ rfl (by simp only [Md.encL_eq, List.map_cons, List.map_nil, Md.enc_eq] <;> rfl) (by decide) (by decide) ?_
                intro a33
                refine (W14_sample_spec n  _ h25).atR [] rfl rfl rfl ?_
                rintro _ _ ⟨a34, c34, rfl, rfl⟩
                refine ⟨fun _ _ h => h, ?_⟩
                refine (mode_Check_spec n v24 ([v5.1]) 4 a34 c34 a33 1 _ h29).atR [5, 4] rfl rfl rfl ?_
                rintro _ _ ⟨rfl, rfl⟩
                refine AtIf.mk (fun h32 => ?_) (fun h32 => ?_)
                · replace hr := cond_t h32 hr
                  replace hr := Option.some.inj hr
                  subst hr
                  exact AtRet.pureG [] [] rfl rfl ⟨rfl, rfl⟩
                · replace hr := cond_f h32 hr
                  replace hr := Option.some.inj hr
                  subst hr
                  exact AtRet.pureG [] [] rfl rfl ⟨rfl, rfl⟩
          · replace hr := cond_t h17 hr
            refine AtIf.mk (fun _ => ?_) (fun h => tf h)
            replace hr := Option.some.inj hr
            subst hr
            exact AtRet.pureG [] [] rfl rfl ⟨rfl, rfl⟩
        · replace hr := cond_t h11 hr
          refine AtGuard.mk (fun h => tf h) (fun _ => ?_)
          refine AtIf.mk (fun _ => ?_) (fun h => tf h)
          replace hr := Option.some.inj hr
          subst hr
          exact AtRet.pureG [] [] rfl rfl ⟨rfl, rfl⟩
    ·
      refine ⟨OwnKeptBut.append, ?_⟩
      refine (W14_sample_spec n  _ h2).atR [] rfl rfl rfl ?_
      rintro _ _ ⟨a42, c42, rfl, rfl⟩
      refine ⟨fun _ _ h => h, ?_⟩
      refine Meets.nilRep 3 ?_
      refine (mode_Read_2_spec n v1 (It.mk (⟨#[109, 111, 100, 101]⟩) ByteArray.empty (Rw.mk 0 ByteArray.empty ([])) ([(Pt.mk 1 ByteArray.empty (⟨#[100, 111, 117, 98, 108, 101]⟩) 0 (Rw.mk 0 ByteArray.empty ([])) ([])), (Pt.mk 2 (⟨#[43]⟩) (⟨#[88]⟩) 0 (Rw.mk 0 ByteArray.empty ([])) ([])), (Pt.mk 2 (⟨#[45]⟩) (⟨#[89]⟩) 0 (Rw.mk 0 ByteArray.empty ([])) ([]))])) a42 c42 none 0 a38 3 _ h6).frameRA [] [] [2, 0, 1] rfl rfl rfl rfl rfl rfl rfl rfl rfl ?_
      rintro _ _ ⟨a43, c43, rfl, rfl⟩
      refine ⟨rfl, [], rfl, ?_⟩
      refine ⟨fun _ _ h => h, ?_⟩
      refine AtGuard.mk (fun h11 => ?_) (fun h11 => ?_)
      · replace hr := cond_f h11 hr
        obtain ⟨h12, hr⟩ := cond_need hr
        refine at_index_accG ttOK 0 rfl rfl rfl rfl h12 ?_
        intro b13 h14
        subst h14
        obtain ⟨v15, h16, hr⟩ := bind_some hr
        refine at_load_accG ttOK 0 rfl (map_get (D.int .i64) h16) rfl (.inl ⟨_, rfl⟩) rfl ?_
        refine AtGuard.mk (fun h17 => ?_) (fun h17 => ?_)
        · replace hr := cond_f h17 hr
          obtain ⟨h18, hr⟩ := cond_need hr
          refine at_index_accG ttOK 0 rfl rfl rfl rfl h18 ?_
          intro b19 h20
          obtain rfl : b13 = b19 := by injection h20 with h20; injection h20
          obtain ⟨v21, h22, hr⟩ := bind_some hr
          refine at_load_accG ttOK 0 rfl (map_get (D.int .i64) h22) rfl (.inl ⟨_, rfl⟩) rfl ?_
          refine AtIf.mk (fun h23 => ?_) (fun h23 => ?_)
          · replace hr := cond_t h23 hr
            replace hr := Option.some.inj hr
            subst hr
            exact AtRet.pureG [] [] rfl rfl ⟨rfl, rfl⟩
          · replace hr := cond_f h23 hr
            obtain ⟨v24, h25, hr⟩ := bind_some hr
            obtain ⟨v28, h29, hr⟩ := bind_some hr
            refine ⟨?_, ?_⟩
            ·
              refine (W14_sample_spec n  _ h25).atR [] rfl rfl rfl ?_
              rintro _ _ ⟨a30, c30, rfl, rfl⟩
              refine ⟨fun _ _ h => h, ?_⟩
              refine AtSem.le (S' := ⟨[.cells 41 [(.v (.int .i64 2)), (.v (.string (⟨#[43]⟩))), (.v (.string (⟨#[88]⟩))), (.v (.int .i64 0)), (.v (.int .i64 0)), (.v (.string ByteArray.empty)), (.v (.slice none 0 0)), (.v (.slice none 0 0))], .cells 25 [(.v (.int .i64 v5.1.family)), (.v (.slice (some ⟨b13, 0, none⟩) ((List.map (D.int .i64) v5.1.signs).length) c43))]], [], [(.slice (some ⟨b13, 0, none⟩) ((List.map (D.int .i64) v5.1.signs).length) c43, .sl 1 (List.map (D.int .i64) v5.1.signs)), (.slice none 0 0, .sl 3 []), (.slice a38 ((Pt.encL ([(Pt.mk 1 ByteArray.empty (⟨#[100, 111, 117, 98, 108, 101]⟩) 0 (Rw.mk 0 ByteArray.empty ([])) ([])), (Pt.mk 2 (⟨#[43]⟩) (⟨#[88]⟩) 0 (Rw.mk 0 ByteArray.empty ([])) ([])), (Pt.mk 2 (⟨#[45]⟩) (⟨#[89]⟩) 0 (Rw.mk 0 ByteArray.empty ([])) ([]))])).length) 3, .sl 8 (Pt.encL ([(Pt.mk 1 ByteArray.empty (⟨#[100, 111, 117, 98, 108, 101]⟩) 0 (Rw.mk 0 ByteArray.empty ([])) ([])), (Pt.mk 2 (⟨#[43]⟩) (⟨#[88]⟩) 0 (Rw.mk 0 ByteArray.empty ([])) ([])), (Pt.mk 2 (⟨#[45]⟩) (⟨#[89]⟩) 0 (Rw.mk 0 ByteArray.empty ([])) ([]))]))), (.slice a42 ((Dc.encL v1).length) c42, .sl 6 (Dc.encL v1)), (.slice a30 ((Dc.encL v24).length) c30, .sl 6 (Dc.encL v24))]⟩) (StLe.gen 2 [] [.froz 0, .old 0, .old 1, .old 2, .old 3] rfl rfl rfl rfl rfl rfl rfl) rfl ?_
              refine at_buildG (n := 1) ttOK 32 [.agg [.int .i64 v5.1.family, .sl 1 (List.map (D.int .i64) v5.1.signs)]] (ds' := (Md.encL ([v5.1]))) rfl (by kernel_rfl) ⟨⟨rfl, rfl, rfl, ⟨[(.v (.int .i64 v5.1.family))], _, rfl, rfl, ⟨[(.v (.slice (some ⟨b13, 0, none⟩) ((List.map (D.int .i64) v5.1.signs).length) c43))], _, rfl, (.inl ⟨_, rfl, nth_mem (j := 0) rfl⟩), rfl⟩⟩⟩, trivial⟩ rfl (by simp only [Md.encL_eq, List.map_cons, List.map_nil, Md.enc_eq] <;> rfl) (by decide) (by decide) ?_
              intro a31
              refine (mode_Check_spec n v24 ([v5.1]) 4 a30 c30 a31 1 _ h29).atR [4, 5] rfl rfl rfl ?_
              rintro _ _ ⟨rfl, rfl⟩
              refine AtIf.mk (fun h32 => ?_) (fun h32 => ?_)
              · replace hr := cond_t h32 hr
                replace hr := Option.some.inj hr
                subst hr
                exact AtRet.pureG [] [] rfl rfl ⟨rfl, rfl⟩
              · replace hr := cond_f h32 hr
                replace hr := Option.some.inj hr
                subst hr
                exact AtRet.pureG [] [] rfl rfl ⟨rfl, rfl⟩
            ·
              refine AtSem.le (S' := ⟨[.cells 41 [(.v (.int .i64 2)), (.v (.string (⟨#[43]⟩))), (.v (.string (⟨#[88]⟩))), (.v (.int .i64 0)), (.v (.int .i64 0)), (.v (.string ByteArray.empty)), (.v (.slice none 0 0)), (.v (.slice none 0 0))], .cells 25 [(.v (.int .i64 v5.1.family)), (.v (.slice (some ⟨b13, 0, none⟩) ((List.map (D.int .i64) v5.1.signs).length) c43))]], [], [(.slice (some ⟨b13, 0, none⟩) ((List.map (D.int .i64) v5.1.signs).length) c43, .sl 1 (List.map (D.int .i64) v5.1.signs)), (.slice none 0 0, .sl 3 []), (.slice a38 ((Pt.encL ([(Pt.mk 1 ByteArray.empty (⟨#[100, 111, 117, 98, 108, 101]⟩) 0 (Rw.mk 0 ByteArray.empty ([])) ([])), (Pt.mk 2 (⟨#[43]⟩) (⟨#[88]⟩) 0 (Rw.mk 0 ByteArray.empty ([])) ([])), (Pt.mk 2 (⟨#[45]⟩) (⟨#[89]⟩) 0 (Rw.mk 0 ByteArray.empty ([])) ([]))])).length) 3, .sl 8 (Pt.encL ([(Pt.mk 1 ByteArray.empty (⟨#[100, 111, 117, 98, 108, 101]⟩) 0 (Rw.mk 0 ByteArray.empty ([])) ([])), (Pt.mk 2 (⟨#[43]⟩) (⟨#[88]⟩) 0 (Rw.mk 0 ByteArray.empty ([])) ([])), (Pt.mk 2 (⟨#[45]⟩) (⟨#[89]⟩) 0 (Rw.mk 0 ByteArray.empty ([])) ([]))]))), (.slice a42 ((Dc.encL v1).length) c42, .sl 6 (Dc.encL v1))]⟩) (StLe.gen 2 [] [.froz 0, .old 0, .old 1, .old 2] rfl rfl rfl rfl rfl rfl rfl) rfl ?_
              refine at_buildG (n := 1) ttOK 32 [.agg [.int .i64 v5.1.family, .sl 1 (List.map (D.int .i64) v5.1.signs)]] (ds' := (Md.encL ([v5.1]))) rfl (by kernel_rfl) ⟨⟨rfl, rfl, rfl, ⟨[(.v (.int .i64 v5.1.family))], _, rfl, rfl, ⟨[(.v (.slice (some ⟨b13, 0, none⟩) ((List.map (D.int .i64) v5.1.signs).length) c43))], _, rfl, (.inl ⟨_, rfl, nth_mem (j := 0) rfl⟩), rfl⟩⟩⟩, trivial⟩ rfl (by simp only [Md.encL_eq, List.map_cons, List.map_nil, Md.enc_eq] <;> rfl) (by decide) (by decide) ?_
              intro a33
              refine (W14_sample_spec n  _ h25).atR [] rfl rfl rfl ?_
              rintro _ _ ⟨a34, c34, rfl, rfl⟩
              refine ⟨fun _ _ h => h, ?_⟩
              refine (mode_Check_spec n v24 ([v5.1]) 4 a34 c34 a33 1 _ h29).atR [5, 4] rfl rfl rfl ?_
              rintro _ _ ⟨rfl, rfl⟩
              refine AtIf.mk (fun h32 => ?_) (fun h32 => ?_)
              · replace hr := cond_t h32 hr
                replace hr := Option.some.inj hr
                subst hr
                exact AtRet.pureG [] [] rfl rfl ⟨rfl, rfl⟩
              · replace hr := cond_f h32 hr
                replace hr := Option.some.inj hr
                subst hr
                exact AtRet.pureG [] [] rfl rfl ⟨rfl, rfl⟩
        · replace hr := cond_t h17 hr
          refine AtIf.mk (fun _ => ?_) (fun h => tf h)
          replace hr := Option.some.inj hr
          subst hr
          exact AtRet.pureG [] [] rfl rfl ⟨rfl, rfl⟩
      · replace hr := cond_t h11 hr
        refine AtGuard.mk (fun h => tf h) (fun _ => ?_)
        refine AtIf.mk (fun _ => ?_) (fun h => tf h)
        replace hr := Option.some.inj hr
        subst hr
        exact AtRet.pureG [] [] rfl rfl ⟨rfl, rfl⟩
  ·
    refine ⟨OwnKeptBut.append, ?_⟩
    refine ⟨?_, ?_⟩
    ·
      refine (W14_sample_spec n  _ h2).atR [] rfl rfl rfl ?_
      rintro _ _ ⟨a44, c44, rfl, rfl⟩
      refine ⟨fun _ _ h => h, ?_⟩
      refine at_buildG (n := 3) ttOK 120 [.agg [.int .i64 1, .str ByteArray.empty, .str (⟨#[100, 111, 117, 98, 108, 101]⟩), .int .i64 0, .agg [.int .i64 0, .str ByteArray.empty, .sl 3 []], .sl 8 []], .agg [.int .i64 2, .str (⟨#[43]⟩), .str (⟨#[88]⟩), .int .i64 0, .agg [.int .i64 0, .str ByteArray.empty, .sl 3 []], .sl 8 []], .agg [.int .i64 2, .str (⟨#[45]⟩), .str (⟨#[89]⟩), .int .i64 0, .agg [.int .i64 0, .str ByteArray.empty, .sl 3 []], .sl 8 []]] (ds' := (Pt.encL ([(Pt.mk 1 ByteArray.empty (⟨#[100, 111, 117, 98, 108, 101]⟩) 0 (Rw.mk 0 ByteArray.empty ([])) ([])), (Pt.mk 2 (⟨#[43]⟩) (⟨#[88]⟩) 0 (Rw.mk 0 ByteArray.empty ([])) ([])), (Pt.mk 2 (⟨#[45]⟩) (⟨#[89]⟩) 0 (Rw.mk 0 ByteArray.empty ([])) ([]))]))) rfl (by kernel_rfl) ⟨⟨rfl, rfl, rfl, ⟨[(.v (.int .i64 1))], _, rfl, rfl, ⟨[(.v (.string ByteArray.empty))], _, rfl, rfl, ⟨[(.v (.string (⟨#[100, 111, 117, 98, 108, 101]⟩)))], _, rfl, rfl, ⟨[(.v (.int .i64 0))], _, rfl, rfl, ⟨[(.v (.int .i64 0)), (.v (.string ByteArray.empty)), (.v (.slice none 0 0))], _, rfl, ⟨[(.v (.int .i64 0))], _, rfl, rfl, ⟨[(.v (.string ByteArray.empty))], _, rfl, rfl, ⟨[(.v (.slice none 0 0))], _, rfl, (.inr ⟨rfl, rfl⟩), rfl⟩⟩⟩, ⟨[(.v (.slice none 0 0))], _, rfl, (.inr ⟨rfl, rfl⟩), rfl⟩⟩⟩⟩⟩⟩⟩, ⟨⟨rfl, rfl, rfl, ⟨[(.v (.int .i64 2))], _, rfl, rfl, ⟨[(.v (.string (⟨#[43]⟩)))], _, rfl, rfl, ⟨[(.v (.string (⟨#[88]⟩)))], _, rfl, rfl, ⟨[(.v (.int .i64 0))], _, rfl, rfl, ⟨[(.v (.int .i64 0)), (.v (.string ByteArray.empty)), (.v (.slice none 0 0))], _, rfl, ⟨[(.v (.int .i64 0))], _, rfl, rfl, ⟨[(.v (.string ByteArray.empty))], _, rfl, rfl, ⟨[(.v (.slice none 0 0))], _, rfl, (.inr ⟨rfl, rfl⟩), rfl⟩⟩⟩, ⟨[(.v (.slice none 0 0))], _, rfl, (.inr ⟨rfl, rfl⟩), rfl⟩⟩⟩⟩⟩⟩⟩, ⟨⟨rfl, rfl, rfl, ⟨[(.v (.int .i64 2))], _, rfl, rfl, ⟨[(.v (.string (⟨#[45]⟩)))], _, rfl, rfl, ⟨[(.v (.string (⟨#[89]⟩)))], _, rfl, rfl, ⟨[(.v (.int .i64 0))], _, rfl, rfl, ⟨[(.v (.int .i64 0)), (.v (.string ByteArray.empty)), (.v (.slice none 0 0))], _, rfl, ⟨[(.v (.int .i64 0))], _, rfl, rfl, ⟨[(.v (.string ByteArray.empty))], _, rfl, rfl, ⟨[(.v (.slice none 0 0))], _, rfl, (.inr ⟨rfl, rfl⟩), rfl⟩⟩⟩, ⟨[(.v (.slice none 0 0))], _, rfl, (.inr ⟨rfl, rfl⟩), rfl⟩⟩⟩⟩⟩⟩⟩, trivial⟩⟩⟩ rfl (by simp only [Pt.encL_eq, List.map_cons, List.map_nil, Pt.enc_eq] <;> rfl) (by decide) (by decide) ?_
      intro a45
      refine Meets.nilRep 3 ?_
      refine (mode_Read_2_spec n v1 (It.mk (⟨#[109, 111, 100, 101]⟩) ByteArray.empty (Rw.mk 0 ByteArray.empty ([])) ([(Pt.mk 1 ByteArray.empty (⟨#[100, 111, 117, 98, 108, 101]⟩) 0 (Rw.mk 0 ByteArray.empty ([])) ([])), (Pt.mk 2 (⟨#[43]⟩) (⟨#[88]⟩) 0 (Rw.mk 0 ByteArray.empty ([])) ([])), (Pt.mk 2 (⟨#[45]⟩) (⟨#[89]⟩) 0 (Rw.mk 0 ByteArray.empty ([])) ([]))])) a44 c44 none 0 a45 3 _ h6).frameRA [] [] [1, 0, 2] rfl rfl rfl rfl rfl rfl rfl rfl rfl ?_
      rintro _ _ ⟨a46, c46, rfl, rfl⟩
      refine ⟨rfl, [], rfl, ?_⟩
      refine ⟨fun _ _ h => h, ?_⟩
      refine AtGuard.mk (fun h11 => ?_) (fun h11 => ?_)
      · replace hr := cond_f h11 hr
        obtain ⟨h12, hr⟩ := cond_need hr
        refine at_index_accG ttOK 0 rfl rfl rfl rfl h12 ?_
        intro b13 h14
        subst h14
        obtain ⟨v15, h16, hr⟩ := bind_some hr
        refine at_load_accG ttOK 0 rfl (map_get (D.int .i64) h16) rfl (.inl ⟨_, rfl⟩) rfl ?_
        refine AtGuard.mk (fun h17 => ?_) (fun h17 => ?_)
        · replace hr := cond_f h17 hr
          obtain ⟨h18, hr⟩ := cond_need hr
          refine at_index_accG ttOK 0 rfl rfl rfl rfl h18 ?_
          intro b19 h20
          obtain rfl : b13 = b19 := by injection h20 with h20; injection h20
          obtain ⟨v21, h22, hr⟩ := bind_some hr
          refine at_load_accG ttOK 0 rfl (map_get (D.int .i64) h22) rfl (.inl ⟨_, rfl⟩) rfl ?_
          refine AtIf.mk (fun h23 => ?_) (fun h23 => ?_)
          · replace hr := cond_t h23 hr
            replace hr := Option.some.inj hr
            subst hr
            exact AtRet.pureG [] [] rfl rfl ⟨rfl, rfl⟩
          · replace hr := cond_f h23 hr
            obtain ⟨v24, h25, hr⟩ := bind_some hr
            obtain ⟨v28, h29, hr⟩ := bind_some hr
            refine ⟨?_, ?_⟩
            ·
              refine (W14_sample_spec n  _ h25).atR [] rfl rfl rfl ?_
              rintro _ _ ⟨a30, c30, rfl, rfl⟩
              refine ⟨fun _ _ h => h, ?_⟩
              refine AtSem.le (S' := ⟨[.cells 41 [(.v (.int .i64 2)), (.v (.string (⟨#[43]⟩))), (.v (.string (⟨#[88]⟩))), (.v (.int .i64 0)), (.v (.int .i64 0)), (.v (.string ByteArray.empty)), (.v (.slice none 0 0)), (.v (.slice none 0 0))], .cells 25 [(.v (.int .i64 v5.1.family)), (.v (.slice (some ⟨b13, 0, none⟩) ((List.map (D.int .i64) v5.1.signs).length) c46))]], [], [(.slice (some ⟨b13, 0, none⟩) ((List.map (D.int .i64) v5.1.signs).length) c46, .sl 1 (List.map (D.int .i64) v5.1.signs)), (.slice none 0 0, .sl 3 []), (.slice a44 ((Dc.encL v1).length) c44, .sl 6 (Dc.encL v1)), (.slice a45 ((Pt.encL ([(Pt.mk 1 ByteArray.empty (⟨#[100, 111, 117, 98, 108, 101]⟩) 0 (Rw.mk 0 ByteArray.empty ([])) ([])), (Pt.mk 2 (⟨#[43]⟩) (⟨#[88]⟩) 0 (Rw.mk 0 ByteArray.empty ([])) ([])), (Pt.mk 2 (⟨#[45]⟩) (⟨#[89]⟩) 0 (Rw.mk 0 ByteArray.empty ([])) ([]))])).length) 3, .sl 8 (Pt.encL ([(Pt.mk 1 ByteArray.empty (⟨#[100, 111, 117, 98, 108, 101]⟩) 0 (Rw.mk 0 ByteArray.empty ([])) ([])), (Pt.mk 2 (⟨#[43]⟩) (⟨#[88]⟩) 0 (Rw.mk 0 ByteArray.empty ([])) ([])), (Pt.mk 2 (⟨#[45]⟩) (⟨#[89]⟩) 0 (Rw.mk 0 ByteArray.empty ([])) ([]))]))), (.slice a30 ((Dc.encL v24).length) c30, .sl 6 (Dc.encL v24))]⟩) (StLe.gen 2 [] [.froz 0, .old 0, .old 1, .old 2, .old 3] rfl rfl rfl rfl rfl rfl rfl) rfl ?_
              refine at_buildG (n := 1) ttOK 32 [.agg [.int .i64 v5.1.family, .sl 1 (List.map (D.int .i64) v5.1.signs)]] (ds' := (Md.encL ([v5.1]))) rfl (by kernel_rfl) ⟨⟨rfl, rfl, rfl, ⟨[(.v (.int .i64 v5.1.family))], _, rfl, rfl, ⟨[(.v (.slice (some ⟨b13, 0, none⟩) ((List.map (D.int .i64) v5.1.signs).length) c46))], _, rfl, (.inl ⟨_, rfl, nth_mem (j := 0) rfl⟩), rfl⟩⟩⟩, trivial⟩ rfl (by simp only [Md.encL_eq, List.map_cons, List.map_nil, Md.enc_eq] <;> rfl) (by decide) (by decide) ?_
              intro a31
              refine (mode_Check_spec n v24 ([v5.1]) 4 a30 c30 a31 1 _ h29).atR [4, 5] rfl rfl rfl ?_
              rintro _ _ ⟨rfl, rfl⟩
              refine AtIf.mk (fun h32 => ?_) (fun h32 => ?_)
              · replace hr := cond_t h32 hr
                replace hr := Option.some.inj hr
                subst hr
                exact AtRet.pureG [] [] rfl rfl ⟨rfl, rfl⟩
              · replace hr := cond_f h32 hr
                replace hr := Option.some.inj hr
                subst hr
                exact AtRet.pureG [] [] rfl rfl ⟨rfl, rfl⟩
            ·
              refine AtSem.le (S' := ⟨[.cells 41 [(.v (.int .i64 2)), (.v (.string (⟨#[43]⟩))), (.v (.string (⟨#[88]⟩))), (.v (.int .i64 0)), (.v (.int .i64 0)), (.v (.string ByteArray.empty)), (.v (.slice none 0 0)), (.v (.slice none 0 0))], .cells 25 [(.v (.int .i64 v5.1.family)), (.v (.slice (some ⟨b13, 0, none⟩) ((List.map (D.int .i64) v5.1.signs).length) c46))]], [], [(.slice (some ⟨b13, 0, none⟩) ((List.map (D.int .i64) v5.1.signs).length) c46, .sl 1 (List.map (D.int .i64) v5.1.signs)), (.slice none 0 0, .sl 3 []), (.slice a44 ((Dc.encL v1).length) c44, .sl 6 (Dc.encL v1)), (.slice a45 ((Pt.encL ([(Pt.mk 1 ByteArray.empty (⟨#[100, 111, 117, 98, 108, 101]⟩) 0 (Rw.mk 0 ByteArray.empty ([])) ([])), (Pt.mk 2 (⟨#[43]⟩) (⟨#[88]⟩) 0 (Rw.mk 0 ByteArray.empty ([])) ([])), (Pt.mk 2 (⟨#[45]⟩) (⟨#[89]⟩) 0 (Rw.mk 0 ByteArray.empty ([])) ([]))])).length) 3, .sl 8 (Pt.encL ([(Pt.mk 1 ByteArray.empty (⟨#[100, 111, 117, 98, 108, 101]⟩) 0 (Rw.mk 0 ByteArray.empty ([])) ([])), (Pt.mk 2 (⟨#[43]⟩) (⟨#[88]⟩) 0 (Rw.mk 0 ByteArray.empty ([])) ([])), (Pt.mk 2 (⟨#[45]⟩) (⟨#[89]⟩) 0 (Rw.mk 0 ByteArray.empty ([])) ([]))])))]⟩) (StLe.gen 2 [] [.froz 0, .old 0, .old 1, .old 2] rfl rfl rfl rfl rfl rfl rfl) rfl ?_
              refine at_buildG (n := 1) ttOK 32 [.agg [.int .i64 v5.1.family, .sl 1 (List.map (D.int .i64) v5.1.signs)]] (ds' := (Md.encL ([v5.1]))) rfl (by kernel_rfl) ⟨⟨rfl, rfl, rfl, ⟨[(.v (.int .i64 v5.1.family))], _, rfl, rfl, ⟨[(.v (.slice (some ⟨b13, 0, none⟩) ((List.map (D.int .i64) v5.1.signs).length) c46))], _, rfl, (.inl ⟨_, rfl, nth_mem (j := 0) rfl⟩), rfl⟩⟩⟩, trivial⟩ rfl (by simp only [Md.encL_eq, List.map_cons, List.map_nil, Md.enc_eq] <;> rfl) (by decide) (by decide) ?_
              intro a33
              refine (W14_sample_spec n  _ h25).atR [] rfl rfl rfl ?_
              rintro _ _ ⟨a34, c34, rfl, rfl⟩
              refine ⟨fun _ _ h => h, ?_⟩
              refine (mode_Check_spec n v24 ([v5.1]) 4 a34 c34 a33 1 _ h29).atR [5, 4] rfl rfl rfl ?_
              rintro _ _ ⟨rfl, rfl⟩
              refine AtIf.mk (fun h32 => ?_) (fun h32 => ?_)
              · replace hr := cond_t h32 hr
                replace hr := Option.some.inj hr
                subst hr
                exact AtRet.pureG [] [] rfl rfl ⟨rfl, rfl⟩
              · replace hr := cond_f h32 hr
                replace hr := Option.some.inj hr
                subst hr
                exact AtRet.pureG [] [] rfl rfl ⟨rfl, rfl⟩
        · replace hr := cond_t h17 hr
          refine AtIf.mk (fun _ => ?_) (fun h => tf h)
          replace hr := Option.some.inj hr
          subst hr
          exact AtRet.pureG [] [] rfl rfl ⟨rfl, rfl⟩
      · replace hr := cond_t h11 hr
        refine AtGuard.mk (fun h => tf h) (fun _ => ?_)
        refine AtIf.mk (fun _ => ?_) (fun h => tf h)
        replace hr := Option.some.inj hr
        subst hr
        exact AtRet.pureG [] [] rfl rfl ⟨rfl, rfl⟩
    ·
      refine at_buildG (n := 3) ttOK 120 [.agg [.int .i64 1, .str ByteArray.empty, .str (⟨#[100, 111, 117, 98, 108, 101]⟩), .int .i64 0, .agg [.int .i64 0, .str ByteArray.empty, .sl 3 []], .sl 8 []], .agg [.int .i64 2, .str (⟨#[43]⟩), .str (⟨#[88]⟩), .int .i64 0, .agg [.int .i64 0, .str ByteArray.empty, .sl 3 []], .sl 8 []], .agg [.int .i64 2, .str (⟨#[45]⟩), .str (⟨#[89]⟩), .int .i64 0, .agg [.int .i64 0, .str ByteArray.empty, .sl 3 []], .sl 8 []]] (ds' := (Pt.encL ([(Pt.mk 1 ByteArray.empty (⟨#[100, 111, 117, 98, 108, 101]⟩) 0 (Rw.mk 0 ByteArray.empty ([])) ([])), (Pt.mk 2 (⟨#[43]⟩) (⟨#[88]⟩) 0 (Rw.mk 0 ByteArray.empty ([])) ([])), (Pt.mk 2 (⟨#[45]⟩) (⟨#[89]⟩) 0 (Rw.mk 0 ByteArray.empty ([])) ([]))]))) rfl (by kernel_rfl) ⟨⟨rfl, rfl, rfl, ⟨[(.v (.int .i64 1))], _, rfl, rfl, ⟨[(.v (.string ByteArray.empty))], _, rfl, rfl, ⟨[(.v (.string (⟨#[100, 111, 117, 98, 108, 101]⟩)))], _, rfl, rfl, ⟨[(.v (.int .i64 0))], _, rfl, rfl, ⟨[(.v (.int .i64 0)), (.v (.string ByteArray.empty)), (.v (.slice none 0 0))], _, rfl, ⟨[(.v (.int .i64 0))], _, rfl, rfl, ⟨[(.v (.string ByteArray.empty))], _, rfl, rfl, ⟨[(.v (.slice none 0 0))], _, rfl, (.inr ⟨rfl, rfl⟩), rfl⟩⟩⟩, ⟨[(.v (.slice none 0 0))], _, rfl, (.inr ⟨rfl, rfl⟩), rfl⟩⟩⟩⟩⟩⟩⟩, ⟨⟨rfl, rfl, rfl, ⟨[(.v (.int .i64 2))], _, rfl, rfl, ⟨[(.v (.string (⟨#[43]⟩)))], _, rfl, rfl, ⟨[(.v (.string (⟨#[88]⟩)))], _, rfl, rfl, ⟨[(.v (.int .i64 0))], _, rfl, rfl, ⟨[(.v (.int .i64 0)), (.v (.string ByteArray.empty)), (.v (.slice none 0 0))], _, rfl, ⟨[(.v (.int .i64 0))], _, rfl, rfl, ⟨[(.v (.string ByteArray.empty))], _, rfl, rfl, ⟨[(.v (.slice none 0 0))], _, rfl, (.inr ⟨rfl, rfl⟩), rfl⟩⟩⟩, ⟨[(.v (.slice none 0 0))], _, rfl, (.inr ⟨rfl, rfl⟩), rfl⟩⟩⟩⟩⟩⟩⟩, ⟨⟨rfl, rfl, rfl, ⟨[(.v (.int .i64 2))], _, rfl, rfl, ⟨[(.v (.string (⟨#[45]⟩)))], _, rfl, rfl, ⟨[(.v (.string (⟨#[89]⟩)))], _, rfl, rfl, ⟨[(.v (.int .i64 0))], _, rfl, rfl, ⟨[(.v (.int .i64 0)), (.v (.string ByteArray.empty)), (.v (.slice none 0 0))], _, rfl, ⟨[(.v (.int .i64 0))], _, rfl, rfl, ⟨[(.v (.string ByteArray.empty))], _, rfl, rfl, ⟨[(.v (.slice none 0 0))], _, rfl, (.inr ⟨rfl, rfl⟩), rfl⟩⟩⟩, ⟨[(.v (.slice none 0 0))], _, rfl, (.inr ⟨rfl, rfl⟩), rfl⟩⟩⟩⟩⟩⟩⟩, trivial⟩⟩⟩ rfl (by simp only [Pt.encL_eq, List.map_cons, List.map_nil, Pt.enc_eq] <;> rfl) (by decide) (by decide) ?_
      intro a47
      refine (W14_sample_spec n  _ h2).atR [] rfl rfl rfl ?_
      rintro _ _ ⟨a48, c48, rfl, rfl⟩
      refine ⟨fun _ _ h => h, ?_⟩
      refine Meets.nilRep 3 ?_
      refine (mode_Read_2_spec n v1 (It.mk (⟨#[109, 111, 100, 101]⟩) ByteArray.empty (Rw.mk 0 ByteArray.empty ([])) ([(Pt.mk 1 ByteArray.empty (⟨#[100, 111, 117, 98, 108, 101]⟩) 0 (Rw.mk 0 ByteArray.empty ([])) ([])), (Pt.mk 2 (⟨#[43]⟩) (⟨#[88]⟩) 0 (Rw.mk 0 ByteArray.empty ([])) ([])), (Pt.mk 2 (⟨#[45]⟩) (⟨#[89]⟩) 0 (Rw.mk 0 ByteArray.empty ([])) ([]))])) a48 c48 none 0 a47 3 _ h6).frameRA [] [] [2, 0, 1] rfl rfl rfl rfl rfl rfl rfl rfl rfl ?_
      rintro _ _ ⟨a49, c49, rfl, rfl⟩
      refine ⟨rfl, [], rfl, ?_⟩
      refine ⟨fun _ _ h => h, ?_⟩
      refine AtGuard.mk (fun h11 => ?_) (fun h11 => ?_)
      · replace hr := cond_f h11 hr
        obtain ⟨h12, hr⟩ := cond_need hr
        refine at_index_accG ttOK 0 rfl rfl rfl rfl h12 ?_
        intro b13 h14
        subst h14
        obtain ⟨v15, h16, hr⟩ := bind_some hr
        refine at_load_accG ttOK 0 rfl (map_get (D.int .i64) h16) rfl (.inl ⟨_, rfl⟩) rfl ?_
        refine AtGuard.mk (fun h17 => ?_) (fun h17 => ?_)
        · replace hr := cond_f h17 hr
          obtain ⟨h18, hr⟩ := cond_need hr
          refine at_index_accG ttOK 0 rfl rfl rfl rfl h18 ?_
          intro b19 h20
          obtain rfl : b13 = b19 := by injection h20 with h20; injection h20
          obtain ⟨v21, h22, hr⟩ := bind_some hr
          refine at_load_accG ttOK 0 rfl (map_get (D.int .i64) h22) rfl (.inl ⟨_, rfl⟩) rfl ?_
          refine AtIf.mk (fun h23 => ?_) (fun h23 => ?_)
          · replace hr := cond_t h23 hr
            replace hr := Option.some.inj hr
            subst hr
            exact AtRet.pureG [] [] rfl rfl ⟨rfl, rfl⟩
          · replace hr := cond_f h23 hr
            obtain ⟨v24, h25, hr⟩ := bind_some hr
            obtain ⟨v28, h29, hr⟩ := bind_some hr
            refine ⟨?_, ?_⟩
            ·
              refine (W14_sample_spec n  _ h25).atR [] rfl rfl rfl ?_
              rintro _ _ ⟨a30, c30, rfl, rfl⟩
              refine ⟨fun _ _ h => h, ?_⟩
              refine AtSem.le (S' := ⟨[.cells 41 [(.v (.int .i64 2)), (.v (.string (⟨#[43]⟩))), (.v (.string (⟨#[88]⟩))), (.v (.int .i64 0)), (.v (.int .i64 0)), (.v (.string ByteArray.empty)), (.v (.slice none 0 0)), (.v (.slice none 0 0))], .cells 25 [(.v (.int .i64 v5.1.family)), (.v (.slice (some ⟨b13, 0, none⟩) ((List.map (D.int .i64) v5.1.signs).length) c49))]], [], [(.slice (some ⟨b13, 0, none⟩) ((List.map (D.int .i64) v5.1.signs).length) c49, .sl 1 (List.map (D.int .i64) v5.1.signs)), (.slice none 0 0, .sl 3 []), (.slice a47 ((Pt.encL ([(Pt.mk 1 ByteArray.empty (⟨#[100, 111, 117, 98, 108, 101]⟩) 0 (Rw.mk 0 ByteArray.empty ([])) ([])), (Pt.mk 2 (⟨#[43]⟩) (⟨#[88]⟩) 0 (Rw.mk 0 ByteArray.empty ([])) ([])), (Pt.mk 2 (⟨#[45]⟩) (⟨#[89]⟩) 0 (Rw.mk 0 ByteArray.empty ([])) ([]))])).length) 3, .sl 8 (Pt.encL ([(Pt.mk 1 ByteArray.empty (⟨#[100, 111, 117, 98, 108, 101]⟩) 0 (Rw.mk 0 ByteArray.empty ([])) ([])), (Pt.mk 2 (⟨#[43]⟩) (⟨#[88]⟩) 0 (Rw.mk 0 ByteArray.empty ([])) ([])), (Pt.mk 2 (⟨#[45]⟩) (⟨#[89]⟩) 0 (Rw.mk 0 ByteArray.empty ([])) ([]))]))), (.slice a48 ((Dc.encL v1).length) c48, .sl 6 (Dc.encL v1)), (.slice a30 ((Dc.encL v24).length) c30, .sl 6 (Dc.encL v24))]⟩) (StLe.gen 2 [] [.froz 0, .old 0, .old 1, .old 2, .old 3] rfl rfl rfl rfl rfl rfl rfl) rfl ?_
              refine at_buildG (n := 1) ttOK 32 [.agg [.int .i64 v5.1.family, .sl 1 (List.map (D.int .i64) v5.1.signs)]] (ds' := (Md.encL ([v5.1]))) rfl (by kernel_rfl) ⟨⟨rfl, rfl, rfl, ⟨[(.v (.int .i64 v5.1.family))], _, rfl, rfl, ⟨[(.v (.slice (some ⟨b13, 0, none⟩) ((List.map (D.int .i64) v5.1.signs).length) c49))], _, rfl, (.inl ⟨_, rfl, nth_mem (j := 0) rfl⟩), rfl⟩⟩⟩, trivial⟩ rfl (by simp only [Md.encL_eq, List.map_cons, List.map_nil, Md.enc_eq] <;> rfl) (by decide) (by decide) ?_
              intro a31
              refine (mode_Check_spec n v24 ([v5.1]) 4 a30 c30 a31 1 _ h29).atR [4, 5] rfl rfl rfl ?_
              rintro _ _ ⟨rfl, rfl⟩
              refine AtIf.mk (fun h32 => ?_) (fun h32 => ?_)
              · replace hr := cond_t h32 hr
                replace hr := Option.some.inj hr
                subst hr
                exact AtRet.pureG [] [] rfl rfl ⟨rfl, rfl⟩
              · replace hr := cond_f h32 hr
                replace hr := Option.some.inj hr
                subst hr
                exact AtRet.pureG [] [] rfl rfl ⟨rfl, rfl⟩
            ·
              refine AtSem.le (S' := ⟨[.cells 41 [(.v (.int .i64 2)), (.v (.string (⟨#[43]⟩))), (.v (.string (⟨#[88]⟩))), (.v (.int .i64 0)), (.v (.int .i64 0)), (.v (.string ByteArray.empty)), (.v (.slice none 0 0)), (.v (.slice none 0 0))], .cells 25 [(.v (.int .i64 v5.1.family)), (.v (.slice (some ⟨b13, 0, none⟩) ((List.map (D.int .i64) v5.1.signs).length) c49))]], [], [(.slice (some ⟨b13, 0, none⟩) ((List.map (D.int .i64) v5.1.signs).length) c49, .sl 1 (List.map (D.int .i64) v5.1.signs)), (.slice none 0 0, .sl 3 []), (.slice a47 ((Pt.encL ([(Pt.mk 1 ByteArray.empty (⟨#[100, 111, 117, 98, 108, 101]⟩) 0 (Rw.mk 0 ByteArray.empty ([])) ([])), (Pt.mk 2 (⟨#[43]⟩) (⟨#[88]⟩) 0 (Rw.mk 0 ByteArray.empty ([])) ([])), (Pt.mk 2 (⟨#[45]⟩) (⟨#[89]⟩) 0 (Rw.mk 0 ByteArray.empty ([])) ([]))])).length) 3, .sl 8 (Pt.encL ([(Pt.mk 1 ByteArray.empty (⟨#[100, 111, 117, 98, 108, 101]⟩) 0 (Rw.mk 0 ByteArray.empty ([])) ([])), (Pt.mk 2 (⟨#[43]⟩) (⟨#[88]⟩) 0 (Rw.mk 0 ByteArray.empty ([])) ([])), (Pt.mk 2 (⟨#[45]⟩) (⟨#[89]⟩) 0 (Rw.mk 0 ByteArray.empty ([])) ([]))]))), (.slice a48 ((Dc.encL v1).length) c48, .sl 6 (Dc.encL v1))]⟩) (StLe.gen 2 [] [.froz 0, .old 0, .old 1, .old 2] rfl rfl rfl rfl rfl rfl rfl) rfl ?_
              refine at_buildG (n := 1) ttOK 32 [.agg [.int .i64 v5.1.family, .sl 1 (List.map (D.int .i64) v5.1.signs)]] (ds' := (Md.encL ([v5.1]))) rfl (by kernel_rfl) ⟨⟨rfl, rfl, rfl, ⟨[(.v (.int .i64 v5.1.family))], _, rfl, rfl, ⟨[(.v (.slice (some ⟨b13, 0, none⟩) ((List.map (D.int .i64) v5.1.signs).length) c49))], _, rfl, (.inl ⟨_, rfl, nth_mem (j := 0) rfl⟩), rfl⟩⟩⟩, trivial⟩ rfl (by simp only [Md.encL_eq, List.map_cons, List.map_nil, Md.enc_eq] <;> rfl) (by decide) (by decide) ?_
              intro a33
              refine (W14_sample_spec n  _ h25).atR [] rfl rfl rfl ?_
              rintro _ _ ⟨a34, c34, rfl, rfl⟩
              refine ⟨fun _ _ h => h, ?_⟩
              refine (mode_Check_spec n v24 ([v5.1]) 4 a34 c34 a33 1 _ h29).atR [5, 4] rfl rfl rfl ?_
              rintro _ _ ⟨rfl, rfl⟩
              refine AtIf.mk (fun h32 => ?_) (fun h32 => ?_)
              · replace hr := cond_t h32 hr
                replace hr := Option.some.inj hr
                subst hr
                exact AtRet.pureG [] [] rfl rfl ⟨rfl, rfl⟩
              · replace hr := cond_f h32 hr
                replace hr := Option.some.inj hr
                subst hr
                exact AtRet.pureG [] [] rfl rfl ⟨rfl, rfl⟩
        · replace hr := cond_t h17 hr
          refine AtIf.mk (fun _ => ?_) (fun h => tf h)
          replace hr := Option.some.inj hr
          subst hr
          exact AtRet.pureG [] [] rfl rfl ⟨rfl, rfl⟩
      · replace hr := cond_t h11 hr
        refine AtGuard.mk (fun h => tf h) (fun _ => ?_)
        refine AtIf.mk (fun _ => ?_) (fun h => tf h)
        replace hr := Option.some.inj hr
        subst hr
        exact AtRet.pureG [] [] rfl rfl ⟨rfl, rfl⟩
mutual
def mode_Item_2 : Nat → (List Dc) → Md → Option (It × Int)
  | 0, _, _ => none
  | n + 1, v1, v3 =>
    (sign_Check n v1).bind (fun v5 =>
    cond (v5 != 0) (
    some ((It.mk ByteArray.empty ByteArray.empty (Rw.mk 0 ByteArray.empty ([])) ([])), 2)) (
    (mode_isMode n v1 v3).bind (fun v8 =>
    cond (!v8) (
    some ((It.mk ByteArray.empty ByteArray.empty (Rw.mk 0 ByteArray.empty ([])) ([])), 2)) (
    (idx v1 v3.family).bind (fun v11 =>
    (idx v1 v3.family).bind (fun v17 =>
    cond (decide ((0 : Int) ≤ v17.implicit ∧ v17.implicit ≤ ((List.map (D.int .i64) v3.signs).length : Int) ∧ ((List.map (D.int .i64) v3.signs).length : Int) ≤ ((List.map (D.int .i64) v3.signs).length : Int))) (
    mode_Item_2_L1 n v3 v17 v1 (It.mk (⟨#[109, 111, 100, 101]⟩) ByteArray.empty (Rw.mk 0 ByteArray.empty ([])) ([(Pt.mk 1 ByteArray.empty v11.name 0 (Rw.mk 0 ByteArray.empty ([])) ([]))])) 0) none))))))
def mode_Item_2_L1 : Nat → Md → Dc → (List Dc) → It → Int → Option (It × Int)
  | 0, _, _, _, _, _ => none
  | n + 1, v3, v17, v1, v36, v39 =>
    cond (decide (v39 < ((List.map (D.int .i64) (v3.signs.drop v17.implicit.toNat)).length : Int))) (
    (idx (v3.signs.drop v17.implicit.toNat) v39).bind (fun v41 =>
    cond (v41 == 0) (
    cond (decide ((0 : Int) ≤ (IntKind.i64.wrap (v39 + 1)) ∧ ((IntKind.i64.wrap (v39 + 1)) : Int) ≤ 99)) (
    cond (decide ((⟨#[88]⟩ : ByteArray).size + (itoaF (IntKind.i64.wrap (v39 + 1))).size ≤ 1000000)) (
    cond (decide ((Pt.encL (v36.parts ++ [(Pt.mk 2 ByteArray.empty ((⟨#[88]⟩ : ByteArray) ++ (itoaF (IntKind.i64.wrap (v39 + 1)))) 0 (Rw.mk 0 ByteArray.empty ([])) ([]))])).length ≤ 1000000)) (
    mode_Item_2_L1 n v3 v17 v1 (It.mk v36.word v36.name v36.raw (v36.parts ++ [(Pt.mk 2 ByteArray.empty ((⟨#[88]⟩ : ByteArray) ++ (itoaF (IntKind.i64.wrap (v39 + 1)))) 0 (Rw.mk 0 ByteArray.empty ([])) ([]))])) (IntKind.i64.wrap (v39 + 1))) none) none) none) (
    cond (v41 == 1) (
    cond (decide ((0 : Int) ≤ (IntKind.i64.wrap (v39 + 1)) ∧ ((IntKind.i64.wrap (v39 + 1)) : Int) ≤ 99)) (
    cond (decide ((⟨#[88]⟩ : ByteArray).size + (itoaF (IntKind.i64.wrap (v39 + 1))).size ≤ 1000000)) (
    cond (decide ((Pt.encL (v36.parts ++ [(Pt.mk 2 (⟨#[43]⟩) ((⟨#[88]⟩ : ByteArray) ++ (itoaF (IntKind.i64.wrap (v39 + 1)))) 0 (Rw.mk 0 ByteArray.empty ([])) ([]))])).length ≤ 1000000)) (
    mode_Item_2_L1 n v3 v17 v1 (It.mk v36.word v36.name v36.raw (v36.parts ++ [(Pt.mk 2 (⟨#[43]⟩) ((⟨#[88]⟩ : ByteArray) ++ (itoaF (IntKind.i64.wrap (v39 + 1)))) 0 (Rw.mk 0 ByteArray.empty ([])) ([]))])) (IntKind.i64.wrap (v39 + 1))) none) none) none) (
    cond (v41 == 2) (
    cond (decide ((0 : Int) ≤ (IntKind.i64.wrap (v39 + 1)) ∧ ((IntKind.i64.wrap (v39 + 1)) : Int) ≤ 99)) (
    cond (decide ((⟨#[88]⟩ : ByteArray).size + (itoaF (IntKind.i64.wrap (v39 + 1))).size ≤ 1000000)) (
    cond (decide ((Pt.encL (v36.parts ++ [(Pt.mk 2 (⟨#[45]⟩) ((⟨#[88]⟩ : ByteArray) ++ (itoaF (IntKind.i64.wrap (v39 + 1)))) 0 (Rw.mk 0 ByteArray.empty ([])) ([]))])).length ≤ 1000000)) (
    mode_Item_2_L1 n v3 v17 v1 (It.mk v36.word v36.name v36.raw (v36.parts ++ [(Pt.mk 2 (⟨#[45]⟩) ((⟨#[88]⟩ : ByteArray) ++ (itoaF (IntKind.i64.wrap (v39 + 1)))) 0 (Rw.mk 0 ByteArray.empty ([])) ([]))])) (IntKind.i64.wrap (v39 + 1))) none) none) none) (
    cond (v41 == 3) (
    cond (decide ((0 : Int) ≤ (IntKind.i64.wrap (v39 + 1)) ∧ ((IntKind.i64.wrap (v39 + 1)) : Int) ≤ 99)) (
    cond (decide ((⟨#[88]⟩ : ByteArray).size + (itoaF (IntKind.i64.wrap (v39 + 1))).size ≤ 1000000)) (
    cond (decide ((Pt.encL (v36.parts ++ [(Pt.mk 2 (⟨#[42]⟩) ((⟨#[88]⟩ : ByteArray) ++ (itoaF (IntKind.i64.wrap (v39 + 1)))) 0 (Rw.mk 0 ByteArray.empty ([])) ([]))])).length ≤ 1000000)) (
    mode_Item_2_L1 n v3 v17 v1 (It.mk v36.word v36.name v36.raw (v36.parts ++ [(Pt.mk 2 (⟨#[42]⟩) ((⟨#[88]⟩ : ByteArray) ++ (itoaF (IntKind.i64.wrap (v39 + 1)))) 0 (Rw.mk 0 ByteArray.empty ([])) ([]))])) (IntKind.i64.wrap (v39 + 1))) none) none) none) (none)))))) (
    (mode_Read_2 n v1 v36).bind (fun v73 =>
    cond (v73.2 != 0) (
    some ((It.mk ByteArray.empty ByteArray.empty (Rw.mk 0 ByteArray.empty ([])) ([])), 2)) (
    (slices_Equal n v73.1.signs v3.signs).bind (fun v77 =>
    cond (!v77) (
    some ((It.mk ByteArray.empty ByteArray.empty (Rw.mk 0 ByteArray.empty ([])) ([])), 2)) (
    some (v36, 0))))))
 end
theorem mode_Item_2_spec (n : Nat) (v1 : (List Dc)) (v3 : Md) (a2 : Option Addr) (c2 : Nat) (a4 : Option Addr) (c4 : Nat) (r : It × Int) (hr : mode_Item_2 n v1 v3 = some r) : Meets Tryz.prog (.val (.fn (.func 7) [] [])) [(.v (.slice a2 ((Dc.encL v1).length) c2)), (.agg [(.v (.int .i64 v3.family)), (.v (.slice a4 ((List.map (D.int .i64) v3.signs).length) c4))])] ⟨[], [], [(.slice a2 ((Dc.encL v1).length) c2, .sl 6 (Dc.encL v1)), (.slice a4 ((List.map (D.int .i64) v3.signs).length) c4, .sl 1 (List.map (D.int .i64) v3.signs))]⟩ (fun o S' => ∃ (b1 : Option Addr) (d1 : Nat), ∃ (b2 : Option Addr) (d2 : Nat), o = .ret (.tup [(.agg [(.v (.string r.1.word)), (.v (.string r.1.name)), (.v (.int .i64 r.1.raw.op)), (.v (.string r.1.raw.name)), (.v (.slice b1 ((Rw.encL r.1.raw.args).length) d1)), (.v (.slice b2 ((Pt.encL r.1.parts).length) d2))]), (.v (.int .i64 r.2))]) ∧ S' = ⟨[], [⟨.slice b2 ((Pt.encL r.1.parts).length) d2, 8, 41, (Pt.encL r.1.parts)⟩], [(.slice b1 ((Rw.encL r.1.raw.args).length) d1, .sl 3 (Rw.encL r.1.raw.args))]⟩) := by
  rcases n with _ | n
  · exact no_some hr
  rw [mode_Item_2.eq_2] at hr
  refine spec_of_body (N := 79) (m := 0) (dt := drawsOf [(5, .leaf [0, 1, 2, 3, 4, 5, 6, 7, 8, 9, 10], [], []), (8, .node [0, 1, 2, 3, 4, 5, 6] [(7, .node [8, 9] [(10, .node [] [(11, .node [12] [(13, .leaf [])])])])], [11, 13], [])]) [] ttOK Tryz.func7 rfl Tryz.call7 Tryz.ntmps7 rfl rfl rfl mixed (by kernel_rfl) ?_
  obtain ⟨v5, h6, hr⟩ := bind_some hr
  refine (sign_Check_spec n v1 a2 c2 _ h6).atR [0] rfl rfl rfl ?_
  rintro _ _ ⟨rfl, rfl⟩
  refine AtGuard.mk (fun h7 => ?_) (fun h7 => ?_)
  · replace hr := cond_f h7 hr
    obtain ⟨v8, h9, hr⟩ := bind_some hr
    refine (mode_isMode_spec n v1 v3 a2 c2 a4 c4 _ h9).atR [0, 1] rfl rfl rfl ?_
    rintro _ _ ⟨rfl, rfl⟩
    refine AtIf.mk (fun h10 => ?_) (fun h10 => ?_)
    · replace hr := cond_t h10 hr
      replace hr := Option.some.inj hr
      subst hr
      exact AtRet.gen ⟨[], [⟨.slice none 0 0, 8, 41, []⟩], [(.slice none 0 0, .sl 3 [])]⟩ (StLe.gen 0 [.nil 8 41] [.nil 3] rfl rfl rfl rfl rfl rfl rfl) rfl rfl ⟨none, 0, none, 0, rfl, rfl⟩
    · replace hr := cond_f h10 hr
      obtain ⟨v11, h12, hr⟩ := bind_some hr
      obtain ⟨h13, h14⟩ := idx_some h12
      refine at_index ttOK 0 rfl rfl rfl rfl h13 (Dc.encL_get h14) ?_
      intro a15 c15 _ _
      refine at_buildAcc (n := 1) ttOK 120 [.agg [.int .i64 1, .str ByteArray.empty, .str v11.name, .int .i64 0, .agg [.int .i64 0, .str ByteArray.empty, .sl 3 []], .sl 8 []]] (ds' := (Pt.encL ([(Pt.mk 1 ByteArray.empty v11.name 0 (Rw.mk 0 ByteArray.empty ([])) ([]))]))) rfl (by kernel_rfl) ⟨⟨rfl, rfl, rfl, ⟨[(.v (.int .i64 1))], _, rfl, rfl, ⟨[(.v (.string ByteArray.empty))], _, rfl, rfl, ⟨[(.v (.string v11.name))], _, rfl, rfl, ⟨[(.v (.int .i64 0))], _, rfl, rfl, ⟨[(.v (.int .i64 0)), (.v (.string ByteArray.empty)), (.v (.slice none 0 0))], _, rfl, ⟨[(.v (.int .i64 0))], _, rfl, rfl, ⟨[(.v (.string ByteArray.empty))], _, rfl, rfl, ⟨[(.v (.slice none 0 0))], _, rfl, (.inr ⟨rfl, rfl⟩), rfl⟩⟩⟩, ⟨[(.v (.slice none 0 0))], _, rfl, (.inr ⟨rfl, rfl⟩), rfl⟩⟩⟩⟩⟩⟩⟩, trivial⟩ rfl (by simp only [Pt.encL_eq, List.map_cons, List.map_nil, Pt.enc_eq] <;> rfl) (by decide) (by decide) ?_
      intro a16
      refine AtPure.val (.agg [(.v (.string ByteArray.empty)), (.v (.string (⟨#[43]⟩))), (.v (.string (⟨#[45]⟩))), (.v (.string (⟨#[42]⟩)))]) rfl (fun ℓ w => by kernel_rfl) ?_
      obtain ⟨v17, h18, hr⟩ := bind_some hr
      obtain ⟨h19, h20⟩ := idx_some h18
      refine at_index ttOK 0 rfl rfl rfl rfl h19 (Dc.encL_get h20) ?_
      intro a21 c21 _ _
      obtain ⟨h22, hr⟩ := cond_need hr
      refine at_sliceG ttOK 1 v17.implicit ((List.map (D.int .i64) v3.signs).length : Int) (ds' := (List.map (D.int .i64) (v3.signs.drop v17.implicit.toNat))) rfl rfl rfl (.inl ⟨_, rfl⟩) (.inr ⟨rfl, rfl⟩) h22 (sl_l ..) ?_
      intro a23 c23
      refine AtLoop.mk ⟨Nat × It × Option Addr × Nat × Option Addr × Nat × Int, fun x => [(0, (.v (.slice a2 ((Dc.encL v1).length) c2))), (3, (.loc 0 0)), (4, (.loc 1 0)), (6, (.loc 3 0)), (7, (.loc 4 0)), (40, (.v (.slice a23 ((List.map (D.int .i64) (v3.signs.drop v17.implicit.toNat)).length) c23))), (41, (.v (.int .i64 ((List.map (D.int .i64) (v3.signs.drop v17.implicit.toNat)).length : Int)))), (42, (.v (.int .i64 x.2.2.2.2.2.2)))], fun x => ⟨[.cells 25 [(.v (.int .i64 v3.family)), (.v (.slice a4 ((List.map (D.int .i64) v3.signs).length) c4))], .cells 33 [(.v (.string ByteArray.empty)), (.v (.string ByteArray.empty)), (.v (.int .i64 0)), (.v (.string ByteArray.empty)), (.v (.slice none 0 0)), (.v (.slice none 0 0))], .imm [(.v (.string v11.name)), (.v (.int .i64 v11.cls.op)), (.v (.int .i64 v11.cls.hd)), (.v (.int .i64 v11.cls.n)), (.v (.slice a15 ((Tm.encL v11.cls.args).length) c15)), (.v (.int .i64 v11.implicit))], .cells 33 [(.v (.string x.2.1.word)), (.v (.string x.2.1.name)), (.v (.int .i64 x.2.1.raw.op)), (.v (.string x.2.1.raw.name)), (.v (.slice x.2.2.1 ((Rw.encL x.2.1.raw.args).length) x.2.2.2.1)), (.v (.slice x.2.2.2.2.1 ((Pt.encL x.2.1.parts).length) x.2.2.2.2.2.1))], .cells 63 [(.v (.string ByteArray.empty)), (.v (.string (⟨#[43]⟩))), (.v (.string (⟨#[45]⟩))), (.v (.string (⟨#[42]⟩)))], .imm [(.v (.string v17.name)), (.v (.int .i64 v17.cls.op)), (.v (.int .i64 v17.cls.hd)), (.v (.int .i64 v17.cls.n)), (.v (.slice a21 ((Tm.encL v17.cls.args).length) c21)), (.v (.int .i64 v17.implicit))]], [⟨.slice x.2.2.2.2.1 ((Pt.encL x.2.1.parts).length) x.2.2.2.2.2.1, 8, 41, (Pt.encL x.2.1.parts)⟩], [(.slice x.2.2.1 ((Rw.encL x.2.1.raw.args).length) x.2.2.2.1, .sl 3 (Rw.encL x.2.1.raw.args)), (.slice a2 ((Dc.encL v1).length) c2, .sl 6 (Dc.encL v1)), (.slice a4 ((List.map (D.int .i64) v3.signs).length) c4, .sl 1 (List.map (D.int .i64) v3.signs)), (.slice a15 ((Tm.encL v11.cls.args).length) c15, .sl 4 (Tm.encL v11.cls.args)), (.slice a21 ((Tm.encL v17.cls.args).length) c21, .sl 4 (Tm.encL v17.cls.args)), (.slice a23 ((List.map (D.int .i64) (v3.signs.drop v17.implicit.toNat)).length) c23, .sl 1 (List.map (D.int .i64) (v3.signs.drop v17.implicit.toNat)))]⟩, fun x => mode_Item_2_L1 x.1 v3 v17 v1 x.2.1 x.2.2.2.2.2.2 = some r, fun x => x.1, (n, (It.mk (⟨#[109, 111, 100, 101]⟩) ByteArray.empty (Rw.mk 0 ByteArray.empty ([])) ([(Pt.mk 1 ByteArray.empty v11.name 0 (Rw.mk 0 ByteArray.empty ([])) ([]))])), none, 0, a16, 1, 0), hr, ⟨rfl, rfl, rfl, rfl, rfl, rfl, rfl, rfl, trivial⟩, (StLe.gen 6 [.old 0] [.nil 3, .old 0, .old 1, .old 2, .old 3, .old 4] rfl rfl rfl rfl rfl rfl rfl), fun x _ => ⟨rfl, rfl⟩, ?_⟩
      rintro ⟨n, v36, a37, c37, a38, c38, v39⟩ HH
      have hr : mode_Item_2_L1 n v3 v17 v1 v36 v39 = some r := HH
      rcases n with _ | n
      · exact no_some hr
      rw [mode_Item_2_L1.eq_2] at hr
      refine AtIf.mk (fun h40 => ?_) (fun h40 => ?_)
      · replace hr := cond_t h40 hr
        obtain ⟨v41, h42, hr⟩ := bind_some hr
        obtain ⟨h43, h44⟩ := idx_some h42
        refine at_index ttOK 5 rfl rfl rfl rfl h43 (map_get (D.int .i64) h44) ?_
        by_cases h45 : (v41 == 0) = true
        · replace hr := cond_t h45 hr
          have h46 : v41 = 0 := by simpa using h45
          rw [h46]
          refine at_index_arrG ttOK rfl rfl rfl (by decide) (by decide) rfl ?_
          obtain ⟨h47, hr⟩ := cond_need hr
          refine (itoa_spec (IntKind.i64.wrap (v39 + 1)) (of_decide_eq_true h47).1 (of_decide_eq_true h47).2).atR [] rfl rfl rfl ?_
          rintro _ _ ⟨rfl, rfl⟩
          refine ⟨fun _ _ h => h, ?_⟩
          obtain ⟨h48, hr⟩ := cond_need hr
          refine at_concat (of_decide_eq_true h48) ?_
          refine at_buildG (n := 1) ttOK 120 [.agg [.int .i64 2, .str ByteArray.empty, .str ((⟨#[88]⟩ : ByteArray) ++ (itoaF (IntKind.i64.wrap (v39 + 1)))), .int .i64 0, .agg [.int .i64 0, .str ByteArray.empty, .sl 3 []], .sl 8 []]] (ds' := (Pt.encL ([(Pt.mk 2 ByteArray.empty ((⟨#[88]⟩ : ByteArray) ++ (itoaF (IntKind.i64.wrap (v39 + 1)))) 0 (Rw.mk 0 ByteArray.empty ([])) ([]))]))) rfl (by kernel_rfl) ⟨⟨rfl, rfl, rfl, ⟨[(.v (.int .i64 2))], _, rfl, rfl, ⟨[(.v (.string ByteArray.empty))], _, rfl, rfl, ⟨[(.v (.string ((⟨#[88]⟩ : ByteArray) ++ (itoaF (IntKind.i64.wrap (v39 + 1))))))], _, rfl, rfl, ⟨[(.v (.int .i64 0))], _, rfl, rfl, ⟨[(.v (.int .i64 0)), (.v (.string ByteArray.empty)), (.v (.slice none 0 0))], _, rfl, ⟨[(.v (.int .i64 0))], _, rfl, rfl, ⟨[(.v (.string ByteArray.empty))], _, rfl, rfl, ⟨[(.v (.slice none 0 0))], _, rfl, (.inr ⟨rfl, rfl⟩), rfl⟩⟩⟩, ⟨[(.v (.slice none 0 0))], _, rfl, (.inr ⟨rfl, rfl⟩), rfl⟩⟩⟩⟩⟩⟩⟩, trivial⟩ rfl (by simp only [Pt.encL_eq, List.map_cons, List.map_nil, Pt.enc_eq] <;> rfl) (by decide) (by decide) ?_
          intro a49
          refine ⟨fun _ _ h => h, ?_⟩
          obtain ⟨h50, hr⟩ := cond_need hr
          refine at_appendG (ds' := (Pt.encL (v36.parts ++ [(Pt.mk 2 ByteArray.empty ((⟨#[88]⟩ : ByteArray) ++ (itoaF (IntKind.i64.wrap (v39 + 1)))) 0 (Rw.mk 0 ByteArray.empty ([])) ([]))]))) ttOK 120 0 6 rfl (by kernel_rfl) rfl rfl rfl rfl (by simp only [Pt.encL_eq, List.map_append]) h50 (by decide) ?_
          intro a51 c51
          exact ⟨(n, (It.mk v36.word v36.name v36.raw (v36.parts ++ [(Pt.mk 2 ByteArray.empty ((⟨#[88]⟩ : ByteArray) ++ (itoaF (IntKind.i64.wrap (v39 + 1)))) 0 (Rw.mk 0 ByteArray.empty ([])) ([]))])), a37, c37, a51, c51, (IntKind.i64.wrap (v39 + 1))), hr, Nat.lt_succ_self _, ⟨rfl, rfl, rfl, rfl, rfl, rfl, rfl, rfl, trivial⟩, (StLe.gen 6 [.old 0] [.old 0, .old 1, .old 2, .old 3, .old 4, .old 5] rfl rfl rfl rfl rfl rfl rfl)⟩
        replace hr := cond_f (by simpa using h45) hr
        by_cases h52 : (v41 == 1) = true
        · replace hr := cond_t h52 hr
          have h53 : v41 = 1 := by simpa using h52
          rw [h53]
          refine at_index_arrG ttOK rfl rfl rfl (by decide) (by decide) rfl ?_
          obtain ⟨h54, hr⟩ := cond_need hr
          refine (itoa_spec (IntKind.i64.wrap (v39 + 1)) (of_decide_eq_true h54).1 (of_decide_eq_true h54).2).atR [] rfl rfl rfl ?_
          rintro _ _ ⟨rfl, rfl⟩
          refine ⟨fun _ _ h => h, ?_⟩
          obtain ⟨h55, hr⟩ := cond_need hr
          refine at_concat (of_decide_eq_true h55) ?_
          refine at_buildG (n := 1) ttOK 120 [.agg [.int .i64 2, .str (⟨#[43]⟩), .str ((⟨#[88]⟩ : ByteArray) ++ (itoaF (IntKind.i64.wrap (v39 + 1)))), .int .i64 0, .agg [.int .i64 0, .str ByteArray.empty, .sl 3 []], .sl 8 []]] (ds' := (Pt.encL ([(Pt.mk 2 (⟨#[43]⟩) ((⟨#[88]⟩ : ByteArray) ++ (itoaF (IntKind.i64.wrap (v39 + 1)))) 0 (Rw.mk 0 ByteArray.empty ([])) ([]))]))) rfl (by kernel_rfl) ⟨⟨rfl, rfl, rfl, ⟨[(.v (.int .i64 2))], _, rfl, rfl, ⟨[(.v (.string (⟨#[43]⟩)))], _, rfl, rfl, ⟨[(.v (.string ((⟨#[88]⟩ : ByteArray) ++ (itoaF (IntKind.i64.wrap (v39 + 1))))))], _, rfl, rfl, ⟨[(.v (.int .i64 0))], _, rfl, rfl, ⟨[(.v (.int .i64 0)), (.v (.string ByteArray.empty)), (.v (.slice none 0 0))], _, rfl, ⟨[(.v (.int .i64 0))], _, rfl, rfl, ⟨[(.v (.string ByteArray.empty))], _, rfl, rfl, ⟨[(.v (.slice none 0 0))], _, rfl, (.inr ⟨rfl, rfl⟩), rfl⟩⟩⟩, ⟨[(.v (.slice none 0 0))], _, rfl, (.inr ⟨rfl, rfl⟩), rfl⟩⟩⟩⟩⟩⟩⟩, trivial⟩ rfl (by simp only [Pt.encL_eq, List.map_cons, List.map_nil, Pt.enc_eq] <;> rfl) (by decide) (by decide) ?_
          intro a56
          refine ⟨fun _ _ h => h, ?_⟩
          obtain ⟨h57, hr⟩ := cond_need hr
          refine at_appendG (ds' := (Pt.encL (v36.parts ++ [(Pt.mk 2 (⟨#[43]⟩) ((⟨#[88]⟩ : ByteArray) ++ (itoaF (IntKind.i64.wrap (v39 + 1)))) 0 (Rw.mk 0 ByteArray.empty ([])) ([]))]))) ttOK 120 0 6 rfl (by kernel_rfl) rfl rfl rfl rfl (by simp only [Pt.encL_eq, List.map_append]) h57 (by decide) ?_
          intro a58 c58
          exact ⟨(n, (It.mk v36.word v36.name v36.raw (v36.parts ++ [(Pt.mk 2 (⟨#[43]⟩) ((⟨#[88]⟩ : ByteArray) ++ (itoaF (IntKind.i64.wrap (v39 + 1)))) 0 (Rw.mk 0 ByteArray.empty ([])) ([]))])), a37, c37, a58, c58, (IntKind.i64.wrap (v39 + 1))), hr, Nat.lt_succ_self _, ⟨rfl, rfl, rfl, rfl, rfl, rfl, rfl, rfl, trivial⟩, (StLe.gen 6 [.old 0] [.old 0, .old 1, .old 2, .old 3, .old 4, .old 5] rfl rfl rfl rfl rfl rfl rfl)⟩
        replace hr := cond_f (by simpa using h52) hr
        by_cases h59 : (v41 == 2) = true
        · replace hr := cond_t h59 hr
          have h60 : v41 = 2 := by simpa using h59
          rw [h60]
          refine at_index_arrG ttOK rfl rfl rfl (by decide) (by decide) rfl ?_
          obtain ⟨h61, hr⟩ := cond_need hr
          refine (itoa_spec (IntKind.i64.wrap (v39 + 1)) (of_decide_eq_true h61).1 (of_decide_eq_true h61).2).atR [] rfl rfl rfl ?_
          rintro _ _ ⟨rfl, rfl⟩
          refine ⟨fun _ _ h => h, ?_⟩
          obtain ⟨h62, hr⟩ := cond_need hr
          refine at_concat (of_decide_eq_true h62) ?_
          refine at_buildG (n := 1) ttOK 120 [.agg [.int .i64 2, .str (⟨#[45]⟩), .str ((⟨#[88]⟩ : ByteArray) ++ (itoaF (IntKind.i64.wrap (v39 + 1)))), .int .i64 0, .agg [.int .i64 0, .str ByteArray.empty, .sl 3 []], .sl 8 []]] (ds' := (Pt.encL ([(Pt.mk 2 (⟨#[45]⟩) ((⟨#[88]⟩ : ByteArray) ++ (itoaF (IntKind.i64.wrap (v39 + 1)))) 0 (Rw.mk 0 ByteArray.empty ([])) ([]))]))) rfl (by kernel_rfl) ⟨⟨rfl, rfl, rfl, ⟨[(.v (.int .i64 2))], _, rfl, rfl, ⟨[(.v (.string (⟨#[45]⟩)))], _, rfl, rfl, ⟨[(.v (.string ((⟨#[88]⟩ : ByteArray) ++ (itoaF (IntKind.i64.wrap (v39 + 1))))))], _, rfl, rfl, ⟨[(.v (.int .i64 0))], _, rfl, rfl, ⟨[(.v (.int .i64 0)), (.v (.string ByteArray.empty)), (.v (.slice none 0 0))], _, rfl, ⟨[(.v (.int .i64 0))], _, rfl, rfl, ⟨[(.v (.string ByteArray.empty))], _, rfl, rfl, ⟨[(.v (.slice none 0 0))], _, rfl, (.inr ⟨rfl, rfl⟩), rfl⟩⟩⟩, ⟨[(.v (.slice none 0 0))], _, rfl, (.inr ⟨rfl, rfl⟩), rfl⟩⟩⟩⟩⟩⟩⟩, trivial⟩ rfl (by simp only [Pt.encL_eq, List.map_cons, List.map_nil, Pt.enc_eq] <;> rfl) (by decide) (by decide) ?_
          intro a63
          refine ⟨fun _ _ h => h, ?_⟩
          obtain ⟨h64, hr⟩ := cond_need hr
          refine at_appendG (ds' := (Pt.encL (v36.parts ++ [(Pt.mk 2 (⟨#[45]⟩) ((⟨#[88]⟩ : ByteArray) ++ (itoaF (IntKind.i64.wrap (v39 + 1)))) 0 (Rw.mk 0 ByteArray.empty ([])) ([]))]))) ttOK 120 0 6 rfl (by kernel_rfl) rfl rfl rfl rfl (by simp only [Pt.encL_eq, List.map_append]) h64 (by decide) ?_
          intro a65 c65
          exact ⟨(n, (It.mk v36.word v36.name v36.raw (v36.parts ++ [(Pt.mk 2 (⟨#[45]⟩) ((⟨#[88]⟩ : ByteArray) ++ (itoaF (IntKind.i64.wrap (v39 + 1)))) 0 (Rw.mk 0 ByteArray.empty ([])) ([]))])), a37, c37, a65, c65, (IntKind.i64.wrap (v39 + 1))), hr, Nat.lt_succ_self _, ⟨rfl, rfl, rfl, rfl, rfl, rfl, rfl, rfl, trivial⟩, (StLe.gen 6 [.old 0] [.old 0, .old 1, .old 2, .old 3, .old 4, .old 5] rfl rfl rfl rfl rfl rfl rfl)⟩
        replace hr := cond_f (by simpa using h59) hr
        by_cases h66 : (v41 == 3) = true
        · replace hr := cond_t h66 hr
          have h67 : v41 = 3 := by simpa using h66
          rw [h67]
          refine at_index_arrG ttOK rfl rfl rfl (by decide) (by decide) rfl ?_
          obtain ⟨h68, hr⟩ := cond_need hr
          refine (itoa_spec (IntKind.i64.wrap (v39 + 1)) (of_decide_eq_true h68).1 (of_decide_eq_true h68).2).atR [] rfl rfl rfl ?_
          rintro _ _ ⟨rfl, rfl⟩
          refine ⟨fun _ _ h => h, ?_⟩
          obtain ⟨h69, hr⟩ := cond_need hr
          refine at_concat (of_decide_eq_true h69) ?_
          refine at_buildG (n := 1) ttOK 120 [.agg [.int .i64 2, .str (⟨#[42]⟩), .str ((⟨#[88]⟩ : ByteArray) ++ (itoaF (IntKind.i64.wrap (v39 + 1)))), .int .i64 0, .agg [.int .i64 0, .str ByteArray.empty, .sl 3 []], .sl 8 []]] (ds' := (Pt.encL ([(Pt.mk 2 (⟨#[42]⟩) ((⟨#[88]⟩ : ByteArray) ++ (itoaF (IntKind.i64.wrap (v39 + 1)))) 0 (Rw.mk 0 ByteArray.empty ([])) ([]))]))) rfl (by kernel_rfl) ⟨⟨rfl, rfl, rfl, ⟨[(.v (.int .i64 2))], _, rfl, rfl, ⟨[(.v (.string (⟨#[42]⟩)))], _, rfl, rfl, ⟨[(.v (.string ((⟨#[88]⟩ : ByteArray) ++ (itoaF (IntKind.i64.wrap (v39 + 1))))))], _, rfl, rfl, ⟨[(.v (.int .i64 0))], _, rfl, rfl, ⟨[(.v (.int .i64 0)), (.v (.string ByteArray.empty)), (.v (.slice none 0 0))], _, rfl, ⟨[(.v (.int .i64 0))], _, rfl, rfl, ⟨[(.v (.string ByteArray.empty))], _, rfl, rfl, ⟨[(.v (.slice none 0 0))], _, rfl, (.inr ⟨rfl, rfl⟩), rfl⟩⟩⟩, ⟨[(.v (.slice none 0 0))], _, rfl, (.inr ⟨rfl, rfl⟩), rfl⟩⟩⟩⟩⟩⟩⟩, trivial⟩ rfl (by simp only [Pt.encL_eq, List.map_cons, List.map_nil, Pt.enc_eq] <;> rfl) (by decide) (by decide) ?_
          intro a70
          refine ⟨fun _ _ h => h, ?_⟩
          obtain ⟨h71, hr⟩ := cond_need hr
          refine at_appendG (ds' := (Pt.encL (v36.parts ++ [(Pt.mk 2 (⟨#[42]⟩) ((⟨#[88]⟩ : ByteArray) ++ (itoaF (IntKind.i64.wrap (v39 + 1)))) 0 (Rw.mk 0 ByteArray.empty ([])) ([]))]))) ttOK 120 0 6 rfl (by kernel_rfl) rfl rfl rfl rfl (by simp only [Pt.encL_eq, List.map_append]) h71 (by decide) ?_
          intro a72 c72
          exact ⟨(n, (It.mk v36.word v36.name v36.raw (v36.parts ++ [(Pt.mk 2 (⟨#[42]⟩) ((⟨#[88]⟩ : ByteArray) ++ (itoaF (IntKind.i64.wrap (v39 + 1)))) 0 (Rw.mk 0 ByteArray.empty ([])) ([]))])), a37, c37, a72, c72, (IntKind.i64.wrap (v39 + 1))), hr, Nat.lt_succ_self _, ⟨rfl, rfl, rfl, rfl, rfl, rfl, rfl, rfl, trivial⟩, (StLe.gen 6 [.old 0] [.old 0, .old 1, .old 2, .old 3, .old 4, .old 5] rfl rfl rfl rfl rfl rfl rfl)⟩
        replace hr := cond_f (by simpa using h66) hr
        exact no_some hr
      · replace hr := cond_f h40 hr
        obtain ⟨v73, h74, hr⟩ := bind_some hr
        refine (mode_Read_2_spec n v1 v36 a2 c2 a37 c37 a38 c38 _ h74).atBI [.old 1, .old 0, .froz 0] rfl rfl rfl ?_
        rintro _ _ ⟨a75, c75, rfl, rfl⟩
        refine ⟨_, _, _, _, rfl, rfl, rfl, ?_⟩
        refine AtGuard.mk (fun h76 => ?_) (fun h76 => ?_)
        · replace hr := cond_f h76 hr
          obtain ⟨v77, h78, hr⟩ := bind_some hr
          refine (slices_Equal_spec n v73.1.signs v3.signs a75 c75 a4 c4 _ h78).atB [.froz 0, .old 2] rfl rfl rfl ?_
          rintro _ _ ⟨rfl, rfl⟩
          refine ⟨rfl, ?_⟩
          refine AtIf.mk (fun h79 => ?_) (fun h79 => ?_)
          · replace hr := cond_t h79 hr
            replace hr := Option.some.inj hr
            subst hr
            exact AtRet.gen ⟨[], [⟨.slice none 0 0, 8, 41, []⟩], [(.slice none 0 0, .sl 3 [])]⟩ (StLe.gen 0 [.nil 8 41] [.nil 3] rfl rfl rfl rfl rfl rfl rfl) rfl rfl ⟨none, 0, none, 0, rfl, rfl⟩
          · replace hr := cond_f h79 hr
            replace hr := Option.some.inj hr
            subst hr
            exact AtRet.gen ⟨[], [⟨.slice a38 ((Pt.encL v36.parts).length) c38, 8, 41, (Pt.encL v36.parts)⟩], [(.slice a37 ((Rw.encL v36.raw.args).length) c37, .sl 3 (Rw.encL v36.raw.args))]⟩ (StLe.gen 0 [.old 1] [.old 0] rfl rfl rfl rfl rfl rfl rfl) rfl rfl ⟨a37, c37, a38, c38, rfl, rfl⟩
        · replace hr := cond_t h76 hr
          refine AtIf.mk (fun _ => ?_) (fun h => tf h)
          replace hr := Option.some.inj hr
          subst hr
          exact AtRet.gen ⟨[], [⟨.slice none 0 0, 8, 41, []⟩], [(.slice none 0 0, .sl 3 [])]⟩ (StLe.gen 0 [.nil 8 41] [.nil 3] rfl rfl rfl rfl rfl rfl rfl) rfl rfl ⟨none, 0, none, 0, rfl, rfl⟩
  · replace hr := cond_t h7 hr
    refine AtIf.mk (fun _ => ?_) (fun h => tf h)
    replace hr := Option.some.inj hr
    subst hr
    exact AtRet.gen ⟨[], [⟨.slice none 0 0, 8, 41, []⟩], [(.slice none 0 0, .sl 3 [])]⟩ (StLe.gen 0 [.nil 8 41] [.nil 3] rfl rfl rfl rfl rfl rfl rfl) rfl rfl ⟨none, 0, none, 0, rfl, rfl⟩
mutual
def W14_ModeBack : Nat → (List Dc) → Md → Option (Bool)
  | 0, _, _ => none
  | n + 1, v1, v3 =>
    (W14_valid n v1).bind (fun v5 =>
    cond (!v5) (
    (W14_awake n ).bind (fun v8 =>
    some (v8))) (
    (mode_Item_2 n v1 v3).bind (fun v10 =>
    cond (v10.2 != 0) (
    cond (v10.2 == 2) (
    (W14_awake n ).bind (fun v16 =>
    some (v16))) (
    some (false))) (
    (mode_Read_2 n v1 v10.1).bind (fun v18 =>
    cond (v18.2 != 0) (
    some (false)) (
    (W14_same n v18.1 v3).bind (fun v22 =>
    cond ((!v22) || (decide (((Pt.encL v10.1.parts).length : Int) < 1))) (
    some (false)) (
    W14_ModeBack_L1 n v1 v3 v10.1 1))))))))
def W14_ModeBack_L1 : Nat → (List Dc) → Md → It → Int → Option (Bool)
  | 0, _, _, _, _ => none
  | n + 1, v1, v3, v34, v37 =>
    cond (decide (v37 < ((Pt.encL v34.parts).length : Int))) (
    (idx v34.parts v37).bind (fun v39 =>
    W14_ModeBack_L1 n v1 v3 (It.mk v34.word v34.name v34.raw (v34.parts.set ((v37).toNat) (Pt.mk v39.op v39.sign (⟨#[78]⟩ : ByteArray) v39.n v39.raw v39.parts))) (IntKind.i64.wrap (v37 + 1)))) (
    (mode_Read_2 n v1 v34).bind (fun v47 =>
    cond (decide ((0 : Int) ≤ (0 : Int) ∧ (0 : Int) ≤ (IntKind.i64.wrap (((Pt.encL v34.parts).length : Int) - 1)) ∧ (IntKind.i64.wrap (((Pt.encL v34.parts).length : Int) - 1)) ≤ ((Pt.encL v34.parts).length : Int))) (
    (mode_Read_2 n v1 (It.mk v34.word v34.name v34.raw (v34.parts.take (IntKind.i64.wrap (((Pt.encL v34.parts).length : Int) - 1)).toNat))).bind (fun v52 =>
    cond (v47.2 == 0) (
    (W14_same n v47.1 v3).bind (fun v56 =>
    cond (v56 && ((((Pt.encL (v34.parts.take (IntKind.i64.wrap (((Pt.encL v34.parts).length : Int) - 1)).toNat)).length : Int) == 0) || (v52.2 == 23))) (
    (W14_awake n ).bind (fun v59 =>
    some (v59))) (
    some (false)))) (
    some (false)))) none))
 end
theorem W14_ModeBack_spec (n : Nat) (v1 : (List Dc)) (v3 : Md) (a2 : Option Addr) (c2 : Nat) (a4 : Option Addr) (c4 : Nat) (r : Bool) (hr : W14_ModeBack n v1 v3 = some r) : Pure Tryz.prog (.val (.fn (.func 3) [] [])) [(.v (.slice a2 ((Dc.encL v1).length) c2)), (.agg [(.v (.int .i64 v3.family)), (.v (.slice a4 ((List.map (D.int .i64) v3.signs).length) c4))])] [(.slice a2 ((Dc.encL v1).length) c2, .sl 6 (Dc.encL v1)), (.slice a4 ((List.map (D.int .i64) v3.signs).length) c4, .sl 1 (List.map (D.int .i64) v3.signs))] (fun r' out => r' = (.v (.bool r)) ∧ out = []) := by
  rcases n with _ | n
  · exact no_some hr
  rw [W14_ModeBack.eq_2] at hr
  refine spec_of_body (N := 103) (m := 0) (dt := fun _ => none) [] ttOK Tryz.func3 rfl Tryz.call3 Tryz.ntmps3 rfl rfl rfl mixed (by kernel_rfl) ?_
  obtain ⟨v5, h6, hr⟩ := bind_some hr
  refine (W14_valid_spec n v1 a2 c2 _ h6).atR [0] rfl rfl rfl ?_
  rintro _ _ ⟨rfl, rfl⟩
  refine AtIf.mk (fun h7 => ?_) (fun h7 => ?_)
  · replace hr := cond_t h7 hr
    obtain ⟨v8, h9, hr⟩ := bind_some hr
    refine (W14_awake_spec n  _ h9).atR [] rfl rfl rfl ?_
    rintro _ _ ⟨rfl, rfl⟩
    replace hr := Option.some.inj hr
    subst hr
    exact AtRet.pureG [] [] rfl rfl ⟨rfl, rfl⟩
  · replace hr := cond_f h7 hr
    obtain ⟨v10, h11, hr⟩ := bind_some hr
    refine (mode_Item_2_spec n v1 v3 a2 c2 a4 c4 _ h11).frameRA [] [] [0, 1] rfl rfl rfl rfl rfl rfl rfl rfl rfl ?_
    rintro _ _ ⟨a12, c12, a13, c13, rfl, rfl⟩
    refine ⟨rfl, [], rfl, ?_⟩
    refine AtIf.mk (fun h14 => ?_) (fun h14 => ?_)
    · replace hr := cond_t h14 hr
      refine AtGuard.mk (fun h15 => ?_) (fun h15 => ?_)
      · replace hr := cond_t h15 hr
        obtain ⟨v16, h17, hr⟩ := bind_some hr
        refine (W14_awake_spec n  _ h17).atR [] rfl rfl rfl ?_
        rintro _ _ ⟨rfl, rfl⟩
        replace hr := Option.some.inj hr
        subst hr
        exact AtRet.pureG [] [] rfl rfl ⟨rfl, rfl⟩
      · replace hr := cond_f h15 hr
        replace hr := Option.some.inj hr
        subst hr
        exact AtRet.pureG [] [] rfl rfl ⟨rfl, rfl⟩
    · replace hr := cond_f h14 hr
      obtain ⟨v18, h19, hr⟩ := bind_some hr
      refine (mode_Read_2_spec n v1 v10.1 a2 c2 a12 c12 a13 c13 _ h19).atBI [.old 0, .old 2, .froz 0] rfl rfl rfl ?_
      rintro _ _ ⟨a20, c20, rfl, rfl⟩
      refine ⟨_, _, _, _, rfl, rfl, rfl, ?_⟩
      refine AtGuard.mk (fun h21 => ?_) (fun h21 => ?_)
      · replace hr := cond_f h21 hr
        obtain ⟨v22, h23, hr⟩ := bind_some hr
        refine (W14_same_spec n v18.1 v3 a20 c20 a4 c4 _ h23).atB [.froz 0, .old 1] rfl rfl rfl ?_
        rintro _ _ ⟨rfl, rfl⟩
        refine ⟨rfl, ?_⟩
        refine AtIf.mk (fun h24 => ?_) (fun h24 => ?_)
        · replace hr := cond_t h24 hr
          replace hr := Option.some.inj hr
          subst hr
          exact AtRet.pureG [] [] rfl rfl ⟨rfl, rfl⟩
        · replace hr := cond_f h24 hr
          refine AtLoop.mk ⟨Nat × It × Option Addr × Nat × Option Addr × Nat × Int, fun x => [(0, (.v (.slice a2 ((Dc.encL v1).length) c2))), (3, (.loc 0 0)), (5, (.loc 1 0)), (9, (.v (.int .i64 x.2.2.2.2.2.2)))], fun x => ⟨[.cells 25 [(.v (.int .i64 v3.family)), (.v (.slice a4 ((List.map (D.int .i64) v3.signs).length) c4))], .cells 33 [(.v (.string x.2.1.word)), (.v (.string x.2.1.name)), (.v (.int .i64 x.2.1.raw.op)), (.v (.string x.2.1.raw.name)), (.v (.slice x.2.2.1 ((Rw.encL x.2.1.raw.args).length) x.2.2.2.1)), (.v (.slice x.2.2.2.2.1 ((Pt.encL x.2.1.parts).length) x.2.2.2.2.2.1))], .cells 25 [(.v (.int .i64 v18.1.family)), (.v (.slice a20 ((List.map (D.int .i64) v18.1.signs).length) c20))]], [⟨.slice x.2.2.2.2.1 ((Pt.encL x.2.1.parts).length) x.2.2.2.2.2.1, 8, 41, (Pt.encL x.2.1.parts)⟩, ⟨.slice a20 ((List.map (D.int .i64) v18.1.signs).length) c20, 1, 3, (List.map (D.int .i64) v18.1.signs)⟩], [(.slice x.2.2.1 ((Rw.encL x.2.1.raw.args).length) x.2.2.2.1, .sl 3 (Rw.encL x.2.1.raw.args)), (.slice a2 ((Dc.encL v1).length) c2, .sl 6 (Dc.encL v1)), (.slice a4 ((List.map (D.int .i64) v3.signs).length) c4, .sl 1 (List.map (D.int .i64) v3.signs)), (.slice a12 ((Rw.encL v10.1.raw.args).length) c12, .sl 3 (Rw.encL v10.1.raw.args))]⟩, fun x => W14_ModeBack_L1 x.1 v1 v3 x.2.1 x.2.2.2.2.2.2 = some r, fun x => x.1, (n, v10.1, a12, c12, a13, c13, 1), hr, ⟨rfl, rfl, rfl, rfl, trivial⟩, (StLe.gen 3 [.old 1, .old 0] [.old 2, .old 0, .old 1, .old 2] rfl rfl rfl rfl rfl rfl rfl), fun x _ => ⟨rfl, rfl⟩, ?_⟩
          rintro ⟨n, v34, a35, c35, a36, c36, v37⟩ HH
          have hr : W14_ModeBack_L1 n v1 v3 v34 v37 = some r := HH
          rcases n with _ | n
          · exact no_some hr
          rw [W14_ModeBack_L1.eq_2] at hr
          refine AtIf.mk (fun h38 => ?_) (fun h38 => ?_)
          · replace hr := cond_t h38 hr
            obtain ⟨v39, h40, hr⟩ := bind_some hr
            obtain ⟨h41, h42⟩ := idx_some h40
            refine at_index_accK ttOK 0 rfl rfl rfl rfl h41 (Pt.encL_get h42) ?_
            intro b43 h44
            subst h44
            refine at_fieldPtr ttOK rfl rfl rfl rfl ?_
            obtain ⟨m45, h46⟩ : ∃ m45, m45 = (Pt.encL v34.parts).length := ⟨_, rfl⟩
            try dsimp only
            rw [← h46]
            refine at_store_accF (hT := ttOK) (ds' := Pt.encL (v34.parts.set ((v37).toNat) (Pt.mk v39.op v39.sign (⟨#[78]⟩ : ByteArray) v39.n v39.raw v39.parts))) (i := (v37).toNat) [.int .i64 v39.op, .str v39.sign] _ 0 rfl (Pt.encL_get h42) rfl rfl rfl (.inr rfl) rfl rfl rfl (by simp only [Pt.encL_eq, List.map_set, Pt.enc_eq] <;> rfl) ?_
            obtain rfl : m45 = (Pt.encL (v34.parts.set ((v37).toNat) (Pt.mk v39.op v39.sign (⟨#[78]⟩ : ByteArray) v39.n v39.raw v39.parts))).length := by rw [h46]; simp [Pt.encL_length]
            exact ⟨(n, (It.mk v34.word v34.name v34.raw (v34.parts.set ((v37).toNat) (Pt.mk v39.op v39.sign (⟨#[78]⟩ : ByteArray) v39.n v39.raw v39.parts))), a35, c35, (some ⟨b43, 0, none⟩), c36, (IntKind.i64.wrap (v37 + 1))), hr, Nat.lt_succ_self _, ⟨rfl, rfl, rfl, rfl, trivial⟩, (StLe.gen 3 [.old 0, .old 1] [.old 0, .old 1, .old 2, .old 3] rfl rfl rfl rfl rfl rfl rfl)⟩
          · replace hr := cond_f h38 hr
            obtain ⟨v47, h48, hr⟩ := bind_some hr
            refine (mode_Read_2_spec n v1 v34 a2 c2 a35 c35 a36 c36 _ h48).atBI [.old 1, .old 0, .froz 0] rfl rfl rfl ?_
            rintro _ _ ⟨a49, c49, rfl, rfl⟩
            refine ⟨_, _, _, _, rfl, rfl, rfl, ?_⟩
            obtain ⟨h50, hr⟩ := cond_need hr
            refine AtPure.le (S' := ⟨[.cells 25 [(.v (.int .i64 v3.family)), (.v (.slice a4 ((List.map (D.int .i64) v3.signs).length) c4))], .cells 33 [(.v (.string v34.word)), (.v (.string v34.name)), (.v (.int .i64 v34.raw.op)), (.v (.string v34.raw.name)), (.v (.slice a35 ((Rw.encL v34.raw.args).length) c35)), (.v (.slice a36 ((Pt.encL v34.parts).length) c36))], .cells 25 [(.v (.int .i64 v18.1.family)), (.v (.slice a20 ((List.map (D.int .i64) v18.1.signs).length) c20))], .cells 25 [(.v (.int .i64 v47.1.family)), (.v (.slice a49 ((List.map (D.int .i64) v47.1.signs).length) c49))]], [⟨.slice a49 ((List.map (D.int .i64) v47.1.signs).length) c49, 1, 3, (List.map (D.int .i64) v47.1.signs)⟩, ⟨.slice a20 ((List.map (D.int .i64) v18.1.signs).length) c20, 1, 3, (List.map (D.int .i64) v18.1.signs)⟩], [(.slice a36 ((Pt.encL v34.parts).length) c36, .sl 8 (Pt.encL v34.parts)), (.slice a35 ((Rw.encL v34.raw.args).length) c35, .sl 3 (Rw.encL v34.raw.args)), (.slice a2 ((Dc.encL v1).length) c2, .sl 6 (Dc.encL v1)), (.slice a4 ((List.map (D.int .i64) v3.signs).length) c4, .sl 1 (List.map (D.int .i64) v3.signs)), (.slice a12 ((Rw.encL v10.1.raw.args).length) c12, .sl 3 (Rw.encL v10.1.raw.args))]⟩) (StLe.gen 4 [.old 0, .old 2] [.froz 1, .old 0, .old 1, .old 2, .old 3] rfl rfl rfl rfl rfl rfl rfl) rfl ?_
            refine at_sliceG ttOK 0 0 (IntKind.i64.wrap (((Pt.encL v34.parts).length : Int) - 1)) (ds' := (Pt.encL (v34.parts.take (IntKind.i64.wrap (((Pt.encL v34.parts).length : Int) - 1)).toNat))) rfl rfl rfl (.inr ⟨rfl, rfl⟩) (.inl ⟨_, rfl⟩) h50 (by simp only [Pt.encL_eq]; exact sl_h ..) ?_
            intro a51 c51
            obtain ⟨v52, h53, hr⟩ := bind_some hr
            refine (mode_Read_2_spec n v1 (It.mk v34.word v34.name v34.raw (v34.parts.take (IntKind.i64.wrap (((Pt.encL v34.parts).length : Int) - 1)).toNat)) a2 c2 a35 c35 a51 c51 _ h53).frameRA [] [] [2, 1, 5] rfl rfl rfl rfl rfl rfl rfl rfl rfl ?_
            rintro _ _ ⟨a54, c54, rfl, rfl⟩
            refine ⟨rfl, [], rfl, ?_⟩
            refine AtGuard.mk (fun h55 => ?_) (fun h55 => ?_)
            · replace hr := cond_t h55 hr
              obtain ⟨v56, h57, hr⟩ := bind_some hr
              refine (W14_same_spec n v47.1 v3 a49 c49 a4 c4 _ h57).atB [.froz 1, .old 3] rfl rfl rfl ?_
              rintro _ _ ⟨rfl, rfl⟩
              refine ⟨rfl, ?_⟩
              refine AtGuard.mk (fun h58 => ?_) (fun h58 => ?_)
              · replace hr := cond_t h58 hr
                obtain ⟨v59, h60, hr⟩ := bind_some hr
                refine (W14_awake_spec n  _ h60).atR [] rfl rfl rfl ?_
                rintro _ _ ⟨rfl, rfl⟩
                replace hr := Option.some.inj hr
                subst hr
                exact AtRet.pureG [] [] rfl rfl ⟨rfl, rfl⟩
              · replace hr := cond_f h58 hr
                replace hr := Option.some.inj hr
                subst hr
                exact AtRet.pureG [] [] rfl rfl ⟨rfl, rfl⟩
            · replace hr := cond_f h55 hr
              refine AtGuard.mk (fun h => ff h) (fun _ => ?_)
              replace hr := Option.some.inj hr
              subst hr
              exact AtRet.pureG [] [] rfl rfl ⟨rfl, rfl⟩
      · replace hr := cond_t h21 hr
        refine AtIf.mk (fun _ => ?_) (fun h => tf h)
        replace hr := Option.some.inj hr
        subst hr
        exact AtRet.pureG [] [] rfl rfl ⟨rfl, rfl⟩
end Go.Proofs.YtogicnodmgdnbaaGreatDoor
end
