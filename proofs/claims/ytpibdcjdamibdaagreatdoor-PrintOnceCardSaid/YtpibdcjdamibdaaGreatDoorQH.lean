/- Merged texts: G2 EvB. Functions that print contexts, with fuel, and their contracts. Conditions stand in each. Plain law: sign.Check and trussref05.Formed say the same of a signature. No program in sight. -/
import Derived.Test.YtpibdcjdamibdaaGreatDoorQG
/-! G2 -/
section
namespace Go.Proofs.YtpibdcjdamibdaaGreatDoor
open Go.Tr Go
set_option maxRecDepth 10000
set_option linter.unusedVariables false
set_option linter.unusedSimpArgs false

mutual
def print_good : Nat → (List Dc) → (List Mt) → (List Tm) → Option (Bool)
  | 0, _, _, _ => none
  | n + 1, v1, v3, v5 =>
    (sign_Check n v1).bind (fun v7 =>
    cond ((v7 != 0) || (decide (((Mt.encL v3).length : Int) > 80))) (
    some (false)) (
    print_good_L1 n v3 v5 0))
def print_good_L2 : Nat → (List Tm) → Int → Option (Bool)
  | 0, _, _ => none
  | n + 1, v5, v36 =>
    cond (decide (v36 < ((Tm.encL v5).length : Int))) (
    (idx v5 v36).bind (fun v38 =>
    cond ((if isProper v38 then (0 : Int) else 2) != 0) (
    some (false)) (
    print_good_L2 n v5 (IntKind.i64.wrap (v36 + 1))))) (
    some (true))
def print_good_L1 : Nat → (List Mt) → (List Tm) → Int → Option (Bool)
  | 0, _, _, _ => none
  | n + 1, v3, v5, v19 =>
    cond (decide (v19 < ((Mt.encL v3).length : Int))) (
    (idx v3 v19).bind (fun v21 =>
    cond (!(v21.name.toList == (⟨#[]⟩ : ByteArray).toList)) (
    cond (!(isCapitalF v21.name)) (
    some (false)) (
    print_good_L1 n v3 v5 (IntKind.i64.wrap (v19 + 1)))) (
    print_good_L1 n v3 v5 (IntKind.i64.wrap (v19 + 1))))) (
    print_good_L2 n v5 0)
 end
theorem print_good_spec (n : Nat) (v1 : (List Dc)) (v3 : (List Mt)) (v5 : (List Tm)) (a2 : Option Addr) (c2 : Nat) (a4 : Option Addr) (c4 : Nat) (a6 : Option Addr) (c6 : Nat) (r : Bool) (hr : print_good n v1 v3 v5 = some r) : Pure Tryz.prog (.val (.fn (.func 23) [] [])) [(.v (.slice a2 ((Dc.encL v1).length) c2)), (.v (.slice a4 ((Mt.encL v3).length) c4)), (.v (.slice a6 ((Tm.encL v5).length) c6))] [(.slice a2 ((Dc.encL v1).length) c2, .sl 6 (Dc.encL v1)), (.slice a4 ((Mt.encL v3).length) c4, .sl 10 (Mt.encL v3)), (.slice a6 ((Tm.encL v5).length) c6, .sl 4 (Tm.encL v5))] (fun r' out => r' = (.v (.bool r)) ∧ out = []) := by
  rcases n with _ | n
  · exact no_some hr
  rw [print_good.eq_2] at hr
  refine spec_of_body (N := 45) (m := 0) (dt := fun _ => none) [] ttOK Tryz.func23 rfl Tryz.call23 Tryz.ntmps23 rfl rfl rfl mixed (by kernel_rfl) ?_
  obtain ⟨v7, h8, hr⟩ := bind_some hr
  refine (sign_Check_spec n v1 a2 c2 _ h8).atR [0] rfl rfl rfl ?_
  rintro _ _ ⟨rfl, rfl⟩
  refine AtIf.mk (fun h9 => ?_) (fun h9 => ?_)
  · replace hr := cond_t h9 hr
    replace hr := Option.some.inj hr
    subst hr
    exact AtRet.pureG [] [] rfl rfl ⟨rfl, rfl⟩
  · replace hr := cond_f h9 hr
    refine AtLoop.mk ⟨Nat × Int, fun x => [(2, (.v (.slice a6 ((Tm.encL v5).length) c6))), (19, (.v (.slice a4 ((Mt.encL v3).length) c4))), (20, (.v (.int .i64 ((Mt.encL v3).length : Int)))), (21, (.v (.int .i64 x.2)))], fun x => ⟨[], [], [(.slice a2 ((Dc.encL v1).length) c2, .sl 6 (Dc.encL v1)), (.slice a4 ((Mt.encL v3).length) c4, .sl 10 (Mt.encL v3)), (.slice a6 ((Tm.encL v5).length) c6, .sl 4 (Tm.encL v5))]⟩, fun x => print_good_L1 x.1 v3 v5 x.2 = some r, fun x => x.1, (n, 0), hr, ⟨rfl, rfl, rfl, rfl, trivial⟩, (StLe.gen 0 [] [.old 0, .old 1, .old 2] rfl rfl rfl rfl rfl rfl rfl), fun x _ => ⟨rfl, rfl⟩, ?_⟩
    rintro ⟨n, v19⟩ HH
    have hr : print_good_L1 n v3 v5 v19 = some r := HH
    rcases n with _ | n
    · exact no_some hr
    rw [print_good_L1.eq_2] at hr
    refine AtIf.mk (fun h20 => ?_) (fun h20 => ?_)
    · replace hr := cond_t h20 hr
      obtain ⟨v21, h22, hr⟩ := bind_some hr
      obtain ⟨h23, h24⟩ := idx_some h22
      refine at_index ttOK 1 rfl rfl rfl rfl h23 (Mt.encL_get h24) ?_
      intro a25 c25 _ _ a26 c26 _ _
      refine AtGuard.mk (fun h27 => ?_) (fun h27 => ?_)
      · replace hr := cond_t h27 hr
        refine (isCapital_spec v21.name).atR [] rfl rfl rfl ?_
        rintro _ _ ⟨rfl, rfl⟩
        refine AtIf.mk (fun h28 => ?_) (fun h28 => ?_)
        · replace hr := cond_t h28 hr
          replace hr := Option.some.inj hr
          subst hr
          exact AtRet.pureG [] [] rfl rfl ⟨rfl, rfl⟩
        · replace hr := cond_f h28 hr
          exact ⟨(n, (IntKind.i64.wrap (v19 + 1))), hr, Nat.lt_succ_self _, ⟨rfl, rfl, rfl, rfl, trivial⟩, (StLe.gen 0 [] [.old 0, .old 1, .old 2] rfl rfl rfl rfl rfl rfl rfl)⟩
      · replace hr := cond_f h27 hr
        refine AtIf.mk (fun h => ff h) (fun _ => ?_)
        exact ⟨(n, (IntKind.i64.wrap (v19 + 1))), hr, Nat.lt_succ_self _, ⟨rfl, rfl, rfl, rfl, trivial⟩, (StLe.gen 0 [] [.old 0, .old 1, .old 2] rfl rfl rfl rfl rfl rfl rfl)⟩
    · replace hr := cond_f h20 hr
      refine AtLoop.mk ⟨Nat × Int, fun x => [(35, (.v (.slice a6 ((Tm.encL v5).length) c6))), (36, (.v (.int .i64 ((Tm.encL v5).length : Int)))), (37, (.v (.int .i64 x.2)))], fun x => ⟨[], [], [(.slice a2 ((Dc.encL v1).length) c2, .sl 6 (Dc.encL v1)), (.slice a4 ((Mt.encL v3).length) c4, .sl 10 (Mt.encL v3)), (.slice a6 ((Tm.encL v5).length) c6, .sl 4 (Tm.encL v5))]⟩, fun x => print_good_L2 x.1 v5 x.2 = some r, fun x => x.1, (n, 0), hr, ⟨rfl, rfl, rfl, trivial⟩, (StLe.gen 0 [] [.old 0, .old 1, .old 2] rfl rfl rfl rfl rfl rfl rfl), fun x _ => ⟨rfl, rfl⟩, ?_⟩
      rintro ⟨n, v36⟩ HH
      have hr : print_good_L2 n v5 v36 = some r := HH
      rcases n with _ | n
      · exact no_some hr
      rw [print_good_L2.eq_2] at hr
      refine AtIf.mk (fun h37 => ?_) (fun h37 => ?_)
      · replace hr := cond_t h37 hr
        obtain ⟨v38, h39, hr⟩ := bind_some hr
        obtain ⟨h40, h41⟩ := idx_some h39
        refine at_index ttOK 2 rfl rfl rfl rfl h40 (Tm.encL_get h41) ?_
        intro a42 c42 _ _
        refine (check_spec v38 a42 c42).atR [3] rfl rfl rfl ?_
        rintro _ _ ⟨rfl, rfl⟩
        refine AtIf.mk (fun h43 => ?_) (fun h43 => ?_)
        · replace hr := cond_t h43 hr
          replace hr := Option.some.inj hr
          subst hr
          exact AtRet.pureG [] [] rfl rfl ⟨rfl, rfl⟩
        · replace hr := cond_f h43 hr
          exact ⟨(n, (IntKind.i64.wrap (v36 + 1))), hr, Nat.lt_succ_self _, ⟨rfl, rfl, rfl, trivial⟩, (StLe.gen 0 [] [.old 0, .old 1, .old 2] rfl rfl rfl rfl rfl rfl rfl)⟩
      · replace hr := cond_f h37 hr
        replace hr := Option.some.inj hr
        subst hr
        exact AtRet.pureG [] [] rfl rfl ⟨rfl, rfl⟩
mutual
def print_printer_name : Nat → Int → Prt → Option (ByteArray)
  | 0, _, _ => none
  | n + 1, v1, v2 =>
    cond (decide (v1 < v2.first)) (
    cond (decide ((0 : Int) ≤ (IntKind.i64.wrap (v1 + 1)) ∧ ((IntKind.i64.wrap (v1 + 1)) : Int) ≤ 99)) (
    cond (decide ((⟨#[88]⟩ : ByteArray).size + (itoaF (IntKind.i64.wrap (v1 + 1))).size ≤ 1000000)) (
    some (((⟨#[88]⟩ : ByteArray) ++ (itoaF (IntKind.i64.wrap (v1 + 1)))))) none) none) (
    cond (decide ((0 : Int) ≤ (IntKind.i64.wrap (v1 + 1)) ∧ ((IntKind.i64.wrap (v1 + 1)) : Int) ≤ 99)) (
    cond (decide ((⟨#[120]⟩ : ByteArray).size + (itoaF (IntKind.i64.wrap (v1 + 1))).size ≤ 1000000)) (
    print_printer_name_L1 n v2 ((⟨#[120]⟩ : ByteArray) ++ (itoaF (IntKind.i64.wrap (v1 + 1))))) none) none)
def print_printer_name_L1 : Nat → Prt → ByteArray → Option (ByteArray)
  | 0, _, _ => none
  | n + 1, v2, v14 =>
    (sign_Find n v2.sig v14).bind (fun v15 =>
    cond (v15.2 == 6) (
    some (v14)) (
    cond (decide (v14.size + (⟨#[39]⟩ : ByteArray).size ≤ 1000000)) (
    print_printer_name_L1 n v2 (v14 ++ (⟨#[39]⟩ : ByteArray))) none))
 end
theorem print_printer_name_spec (n : Nat) (v1 : Int) (v2 : Prt) (a3 : Option Addr) (c3 : Nat) (a4 : Option Addr) (c4 : Nat) (r : ByteArray) (hr : print_printer_name n v1 v2 = some r) : Meets Tryz.prog (.val (.fn (.func 37) [] [])) [(.loc 0 0), (.v (.int .i64 v1))] ⟨[.cells 63 [(.v (.slice a3 ((Dc.encL v2.sig).length) c3)), (.v (.slice a4 ((Mt.encL v2.metas).length) c4)), (.v (.int .i64 v2.first))]], [], [(.slice a3 ((Dc.encL v2.sig).length) c3, .sl 6 (Dc.encL v2.sig)), (.slice a4 ((Mt.encL v2.metas).length) c4, .sl 10 (Mt.encL v2.metas))]⟩ (fun o S' => o = .ret (.v (.string r)) ∧ S' = ⟨[.cells 63 [(.v (.slice a3 ((Dc.encL v2.sig).length) c3)), (.v (.slice a4 ((Mt.encL v2.metas).length) c4)), (.v (.int .i64 v2.first))]], [], []⟩) := by
  rcases n with _ | n
  · exact no_some hr
  rw [print_printer_name.eq_2] at hr
  refine spec_of_body (N := 36) (m := 1) (dt := fun _ => none) [] ttOK Tryz.func37 rfl Tryz.call37 Tryz.ntmps37 rfl rfl rfl mixed (by kernel_rfl) ?_
  refine AtIf.mk (fun h5 => ?_) (fun h5 => ?_)
  · replace hr := cond_t h5 hr
    obtain ⟨h6, hr⟩ := cond_need hr
    refine (itoa_spec (IntKind.i64.wrap (v1 + 1)) (of_decide_eq_true h6).1 (of_decide_eq_true h6).2).atR [] rfl rfl rfl ?_
    rintro _ _ ⟨rfl, rfl⟩
    obtain ⟨h7, hr⟩ := cond_need hr
    refine at_concat (of_decide_eq_true h7) ?_
    replace hr := Option.some.inj hr
    subst hr
    exact AtRet.gen ⟨[.cells 63 [(.v (.slice a3 ((Dc.encL v2.sig).length) c3)), (.v (.slice a4 ((Mt.encL v2.metas).length) c4)), (.v (.int .i64 v2.first))]], [], []⟩ (StLe.gen 1 [] [] rfl rfl rfl rfl rfl rfl rfl) rfl rfl ⟨rfl, rfl⟩
  · replace hr := cond_f h5 hr
    obtain ⟨h8, hr⟩ := cond_need hr
    refine (itoa_spec (IntKind.i64.wrap (v1 + 1)) (of_decide_eq_true h8).1 (of_decide_eq_true h8).2).atR [] rfl rfl rfl ?_
    rintro _ _ ⟨rfl, rfl⟩
    obtain ⟨h9, hr⟩ := cond_need hr
    refine at_concat (of_decide_eq_true h9) ?_
    refine AtLoop.mk ⟨Nat × ByteArray, fun x => [(0, (.loc 0 0)), (5, (.v (.string x.2)))], fun x => ⟨[.cells 63 [(.v (.slice a3 ((Dc.encL v2.sig).length) c3)), (.v (.slice a4 ((Mt.encL v2.metas).length) c4)), (.v (.int .i64 v2.first))]], [], [(.slice a3 ((Dc.encL v2.sig).length) c3, .sl 6 (Dc.encL v2.sig)), (.slice a4 ((Mt.encL v2.metas).length) c4, .sl 10 (Mt.encL v2.metas))]⟩, fun x => print_printer_name_L1 x.1 v2 x.2 = some r, fun x => x.1, (n, ((⟨#[120]⟩ : ByteArray) ++ (itoaF (IntKind.i64.wrap (v1 + 1))))), hr, ⟨rfl, rfl, trivial⟩, (StLe.gen 1 [] [.old 0, .old 1] rfl rfl rfl rfl rfl rfl rfl), fun x _ => ⟨rfl, rfl⟩, ?_⟩
    rintro ⟨n, v14⟩ HH
    have hr : print_printer_name_L1 n v2 v14 = some r := HH
    rcases n with _ | n
    · exact no_some hr
    rw [print_printer_name_L1.eq_2] at hr
    obtain ⟨v15, h16, hr⟩ := bind_some hr
    refine (sign_Find_spec n v2.sig v14 a3 c3 _ h16).atR [0] rfl rfl rfl ?_
    rintro _ _ ⟨rfl, rfl⟩
    refine AtIf.mk (fun h17 => ?_) (fun h17 => ?_)
    · replace hr := cond_t h17 hr
      replace hr := Option.some.inj hr
      subst hr
      exact AtRet.gen ⟨[.cells 63 [(.v (.slice a3 ((Dc.encL v2.sig).length) c3)), (.v (.slice a4 ((Mt.encL v2.metas).length) c4)), (.v (.int .i64 v2.first))]], [], []⟩ (StLe.gen 1 [] [] rfl rfl rfl rfl rfl rfl rfl) rfl rfl ⟨rfl, rfl⟩
    · replace hr := cond_f h17 hr
      obtain ⟨h18, hr⟩ := cond_need hr
      refine at_concat (of_decide_eq_true h18) ?_
      exact ⟨(n, (v14 ++ (⟨#[39]⟩ : ByteArray))), hr, Nat.lt_succ_self _, ⟨rfl, rfl, trivial⟩, (StLe.gen 1 [] [.old 0, .old 1] rfl rfl rfl rfl rfl rfl rfl)⟩
def print_printer_head : Nat → Tm → Int → Prt → Option (ByteArray × Int × Int)
  | 0, _, _, _ => none
  | n + 1, v1, v3, v4 =>
    cond ((v1.hd == 1) && (decide (v1.n < v3))) (
    (print_printer_name n (IntKind.i64.wrap ((IntKind.i64.wrap (v3 - 1)) - v1.n)) v4).bind (fun v8 =>
    some (v8, 0, 0))) (
    cond ((v1.hd == 2) && (decide (v1.n < ((Dc.encL v4.sig).length : Int)))) (
    (idx v4.sig v1.n).bind (fun v11 =>
    cond (decide (((Tm.encL v1.args).length : Int) < v11.implicit)) (
    some (⟨#[]⟩, 0, 23)) (
    some (v11.name, v11.implicit, 0)))) (
    cond ((v1.hd == 3) && (decide (v1.n < ((Mt.encL v4.metas).length : Int)))) (
    (idx v4.metas v1.n).bind (fun v18 =>
    cond (!(v18.name.toList == (⟨#[]⟩ : ByteArray).toList)) (
    some (v18.name, 0, 0)) (
    cond (decide ((0 : Int) ≤ v1.n ∧ (v1.n : Int) ≤ 99)) (
    cond (decide ((⟨#[77]⟩ : ByteArray).size + (itoaF v1.n).size ≤ 1000000)) (
    some (((⟨#[77]⟩ : ByteArray) ++ (itoaF v1.n)), 0, 0)) none) none))) (
    some (⟨#[]⟩, 0, 27))))
theorem print_printer_head_spec (n : Nat) (v1 : Tm) (v3 : Int) (v4 : Prt) (a2 : Option Addr) (c2 : Nat) (a5 : Option Addr) (c5 : Nat) (a6 : Option Addr) (c6 : Nat) (r : ByteArray × Int × Int) (hr : print_printer_head n v1 v3 v4 = some r) : Meets Tryz.prog (.val (.fn (.func 50) [] [])) [(.loc 0 0), (.agg [(.v (.int .i64 v1.op)), (.v (.int .i64 v1.hd)), (.v (.int .i64 v1.n)), (.v (.slice a2 ((Tm.encL v1.args).length) c2))]), (.v (.int .i64 v3))] ⟨[.cells 63 [(.v (.slice a5 ((Dc.encL v4.sig).length) c5)), (.v (.slice a6 ((Mt.encL v4.metas).length) c6)), (.v (.int .i64 v4.first))]], [], [(.slice a2 ((Tm.encL v1.args).length) c2, .sl 4 (Tm.encL v1.args)), (.slice a5 ((Dc.encL v4.sig).length) c5, .sl 6 (Dc.encL v4.sig)), (.slice a6 ((Mt.encL v4.metas).length) c6, .sl 10 (Mt.encL v4.metas))]⟩ (fun o S' => o = .ret (.tup [(.v (.string r.1)), (.v (.int .i64 r.2.1)), (.v (.int .i64 r.2.2))]) ∧ S' = ⟨[.cells 63 [(.v (.slice a5 ((Dc.encL v4.sig).length) c5)), (.v (.slice a6 ((Mt.encL v4.metas).length) c6)), (.v (.int .i64 v4.first))]], [], []⟩) := by
  rcases n with _ | n
  · exact no_some hr
  rw [print_printer_head.eq_2] at hr
  refine spec_of_body (N := 90) (m := 1) (dt := drawsOf [(3, .leaf [0, 1, 2, 3, 4, 5, 6, 7, 8, 9, 10, 11, 12, 13], [], []), (4, .node [0, 1, 2, 3, 4, 5, 6, 7] [(8, .node [] [(9, .leaf [])])], [9], []), (7, .leaf [0, 1, 2, 3, 4, 5, 6], [], []), (8, .leaf [0, 1, 2, 3, 4, 5, 6, 7, 8, 9, 10, 11, 12, 13], [], []), (9, .leaf [0, 1, 2, 3, 4, 5, 6, 7, 8, 9], [], [])]) [] ttOK Tryz.func50 rfl Tryz.call50 Tryz.ntmps50 rfl rfl rfl mixed (by kernel_rfl) ?_
  refine AtIf.mk (fun h7 => ?_) (fun h7 => ?_)
  · replace hr := cond_t h7 hr
    obtain ⟨v8, h9, hr⟩ := bind_some hr
    refine (print_printer_name_spec n (IntKind.i64.wrap ((IntKind.i64.wrap (v3 - 1)) - v1.n)) v4 a5 c5 a6 c6 _ h9).frameR [0] [1, 2] rfl rfl rfl rfl rfl rfl rfl rfl ?_
    rintro _ _ ⟨rfl, rfl⟩
    refine ⟨rfl, rfl, [.cells 63 [(.v (.slice a5 ((Dc.encL v4.sig).length) c5)), (.v (.slice a6 ((Mt.encL v4.metas).length) c6)), (.v (.int .i64 v4.first))]], rfl, ?_⟩
    replace hr := Option.some.inj hr
    subst hr
    exact AtRet.gen ⟨[.cells 63 [(.v (.slice a5 ((Dc.encL v4.sig).length) c5)), (.v (.slice a6 ((Mt.encL v4.metas).length) c6)), (.v (.int .i64 v4.first))]], [], []⟩ (StLe.gen 1 [] [] rfl rfl rfl rfl rfl rfl rfl) rfl rfl ⟨rfl, rfl⟩
  · replace hr := cond_f h7 hr
    refine AtIf.mk (fun h10 => ?_) (fun h10 => ?_)
    · replace hr := cond_t h10 hr
      obtain ⟨v11, h12, hr⟩ := bind_some hr
      obtain ⟨h13, h14⟩ := idx_some h12
      refine at_index ttOK 1 rfl rfl rfl rfl h13 (Dc.encL_get h14) ?_
      intro a15 c15 _ _
      refine ⟨OwnKeptBut.append, ?_⟩
      refine AtIf.mk (fun h16 => ?_) (fun h16 => ?_)
      · replace hr := cond_t h16 hr
        replace hr := Option.some.inj hr
        subst hr
        exact AtRet.gen ⟨[.cells 63 [(.v (.slice a5 ((Dc.encL v4.sig).length) c5)), (.v (.slice a6 ((Mt.encL v4.metas).length) c6)), (.v (.int .i64 v4.first))]], [], []⟩ (StLe.gen 1 [] [] rfl rfl rfl rfl rfl rfl rfl) rfl rfl ⟨rfl, rfl⟩
      · replace hr := cond_f h16 hr
        replace hr := Option.some.inj hr
        subst hr
        exact AtRet.gen ⟨[.cells 63 [(.v (.slice a5 ((Dc.encL v4.sig).length) c5)), (.v (.slice a6 ((Mt.encL v4.metas).length) c6)), (.v (.int .i64 v4.first))]], [], []⟩ (StLe.gen 1 [] [] rfl rfl rfl rfl rfl rfl rfl) rfl rfl ⟨rfl, rfl⟩
    · replace hr := cond_f h10 hr
      refine AtIf.mk (fun h17 => ?_) (fun h17 => ?_)
      · replace hr := cond_t h17 hr
        obtain ⟨v18, h19, hr⟩ := bind_some hr
        obtain ⟨h20, h21⟩ := idx_some h19
        refine at_index ttOK 2 rfl rfl rfl rfl h20 (Mt.encL_get h21) ?_
        intro a22 c22 _ _ a23 c23 _ _
        refine AtIf.mk (fun h24 => ?_) (fun h24 => ?_)
        · replace hr := cond_t h24 hr
          replace hr := Option.some.inj hr
          subst hr
          exact AtRet.gen ⟨[.cells 63 [(.v (.slice a5 ((Dc.encL v4.sig).length) c5)), (.v (.slice a6 ((Mt.encL v4.metas).length) c6)), (.v (.int .i64 v4.first))]], [], []⟩ (StLe.gen 1 [] [] rfl rfl rfl rfl rfl rfl rfl) rfl rfl ⟨rfl, rfl⟩
        · replace hr := cond_f h24 hr
          obtain ⟨h25, hr⟩ := cond_need hr
          refine (itoa_spec v1.n (of_decide_eq_true h25).1 (of_decide_eq_true h25).2).atR [] rfl rfl rfl ?_
          rintro _ _ ⟨rfl, rfl⟩
          obtain ⟨h26, hr⟩ := cond_need hr
          refine at_concat (of_decide_eq_true h26) ?_
          replace hr := Option.some.inj hr
          subst hr
          exact AtRet.gen ⟨[.cells 63 [(.v (.slice a5 ((Dc.encL v4.sig).length) c5)), (.v (.slice a6 ((Mt.encL v4.metas).length) c6)), (.v (.int .i64 v4.first))]], [], []⟩ (StLe.gen 1 [] [] rfl rfl rfl rfl rfl rfl rfl) rfl rfl ⟨rfl, rfl⟩
      · replace hr := cond_f h17 hr
        replace hr := Option.some.inj hr
        subst hr
        exact AtRet.gen ⟨[.cells 63 [(.v (.slice a5 ((Dc.encL v4.sig).length) c5)), (.v (.slice a6 ((Mt.encL v4.metas).length) c6)), (.v (.int .i64 v4.first))]], [], []⟩ (StLe.gen 1 [] [] rfl rfl rfl rfl rfl rfl rfl) rfl rfl ⟨rfl, rfl⟩
def print_printer_scoped_1 : Nat → Tm → Int → Int → Int → Prt → Option (Int)
  | 0, _, _, _, _, _ => none
  | n + 1, v1, v3, v4, v5, v6 =>
    cond ((v1.op != 4) || (v4 == 27)) (
    some (v4)) (
    (print_printer_head n v1 (IntKind.i64.wrap (v5 + v3)) v6).bind (fun v10 =>
    cond (v10.2.2 != 0) (
    some (v10.2.2)) (
    some (v4))))
theorem print_printer_scoped_1_spec (n : Nat) (v1 : Tm) (v3 : Int) (v4 : Int) (v5 : Int) (v6 : Prt) (a2 : Option Addr) (c2 : Nat) (a7 : Option Addr) (c7 : Nat) (a8 : Option Addr) (c8 : Nat) (r : Int) (hr : print_printer_scoped_1 n v1 v3 v4 v5 v6 = some r) : Meets Tryz.prog (.val (.fn (.func 49) [] [(.loc 0 0), (.loc 1 0), (.loc 2 0)])) [(.agg [(.v (.int .i64 v1.op)), (.v (.int .i64 v1.hd)), (.v (.int .i64 v1.n)), (.v (.slice a2 ((Tm.encL v1.args).length) c2))]), (.v (.int .i64 v3))] ⟨[.cells 32 [(.v (.int .i64 v4))], .cells 61 [(.loc 3 0)], .cells 3 [(.v (.int .i64 v5))], .cells 63 [(.v (.slice a7 ((Dc.encL v6.sig).length) c7)), (.v (.slice a8 ((Mt.encL v6.metas).length) c8)), (.v (.int .i64 v6.first))]], [], [(.slice a2 ((Tm.encL v1.args).length) c2, .sl 4 (Tm.encL v1.args)), (.slice a7 ((Dc.encL v6.sig).length) c7, .sl 6 (Dc.encL v6.sig)), (.slice a8 ((Mt.encL v6.metas).length) c8, .sl 10 (Mt.encL v6.metas))]⟩ (fun o S' => o = .ret (.tup []) ∧ S' = ⟨[.cells 32 [(.v (.int .i64 r))], .cells 61 [(.loc 3 0)], .cells 3 [(.v (.int .i64 v5))], .cells 63 [(.v (.slice a7 ((Dc.encL v6.sig).length) c7)), (.v (.slice a8 ((Mt.encL v6.metas).length) c8)), (.v (.int .i64 v6.first))]], [], []⟩) := by
  rcases n with _ | n
  · exact no_some hr
  rw [print_printer_scoped_1.eq_2] at hr
  refine spec_of_body (N := 30) (m := 4) (dt := fun _ => none) [] ttOK Tryz.func49 rfl Tryz.call49 Tryz.ntmps49 rfl rfl rfl mixed (by kernel_rfl) ?_
  refine AtIf.mk (fun h9 => ?_) (fun h9 => ?_)
  · replace hr := cond_t h9 hr
    replace hr := Option.some.inj hr
    subst hr
    exact AtRet.gen ⟨[.cells 32 [(.v (.int .i64 v4))], .cells 61 [(.loc 3 0)], .cells 3 [(.v (.int .i64 v5))], .cells 63 [(.v (.slice a7 ((Dc.encL v6.sig).length) c7)), (.v (.slice a8 ((Mt.encL v6.metas).length) c8)), (.v (.int .i64 v6.first))]], [], []⟩ (StLe.gen 4 [] [] rfl rfl rfl rfl rfl rfl rfl) rfl rfl ⟨rfl, rfl⟩
  · replace hr := cond_f h9 hr
    obtain ⟨v10, h11, hr⟩ := bind_some hr
    refine (print_printer_head_spec n v1 (IntKind.i64.wrap (v5 + v3)) v6 a2 c2 a7 c7 a8 c8 _ h11).frameR [3] [0, 1, 2] rfl rfl rfl rfl rfl rfl rfl rfl ?_
    rintro _ _ ⟨rfl, rfl⟩
    refine ⟨rfl, rfl, [.cells 63 [(.v (.slice a7 ((Dc.encL v6.sig).length) c7)), (.v (.slice a8 ((Mt.encL v6.metas).length) c8)), (.v (.int .i64 v6.first))]], rfl, ?_⟩
    refine AtIf.mk (fun h12 => ?_) (fun h12 => ?_)
    · replace hr := cond_t h12 hr
      replace hr := Option.some.inj hr
      subst hr
      exact AtRet.gen ⟨[.cells 32 [(.v (.int .i64 v10.2.2))], .cells 61 [(.loc 3 0)], .cells 3 [(.v (.int .i64 v5))], .cells 63 [(.v (.slice a7 ((Dc.encL v6.sig).length) c7)), (.v (.slice a8 ((Mt.encL v6.metas).length) c8)), (.v (.int .i64 v6.first))]], [], []⟩ (StLe.gen 4 [] [] rfl rfl rfl rfl rfl rfl rfl) rfl rfl ⟨rfl, rfl⟩
    · replace hr := cond_f h12 hr
      replace hr := Option.some.inj hr
      subst hr
      exact AtRet.gen ⟨[.cells 32 [(.v (.int .i64 v4))], .cells 61 [(.loc 3 0)], .cells 3 [(.v (.int .i64 v5))], .cells 63 [(.v (.slice a7 ((Dc.encL v6.sig).length) c7)), (.v (.slice a8 ((Mt.encL v6.metas).length) c8)), (.v (.int .i64 v6.first))]], [], []⟩ (StLe.gen 4 [] [] rfl rfl rfl rfl rfl rfl rfl) rfl rfl ⟨rfl, rfl⟩
mutual
def term_Each_print_printer_scoped_1 : Nat → Tm → Int → Int → Int → Prt → Option (Int)
  | 0, _, _, _, _, _ => none
  | n + 1, v1, v3, v4, v5, v6 =>
    (print_printer_scoped_1 n v1 v3 v4 v5 v6).bind (fun v9 =>
    term_Each_print_printer_scoped_1_L1 n v1 v3 v5 v6 v9 0)
def term_Each_print_printer_scoped_1_L1 : Nat → Tm → Int → Int → Prt → Int → Int → Option (Int)
  | 0, _, _, _, _, _, _ => none
  | n + 1, v1, v3, v5, v6, v21, v22 =>
    cond (decide (v22 < ((Tm.encL v1.args).length : Int))) (
    (idx v1.args v22).bind (fun v24 =>
    (term_Under n v1 v22).bind (fun v29 =>
    (term_Each_print_printer_scoped_1 n v24 (IntKind.i64.wrap (v3 + v29)) v21 v5 v6).bind (fun v31 =>
    term_Each_print_printer_scoped_1_L1 n v1 v3 v5 v6 v31 (IntKind.i64.wrap (v22 + 1)))))) (
    some (v21))
 end
theorem term_Each_print_printer_scoped_1_specN : ∀ (N : Nat), (∀ (n : Nat), n ≤ N → ∀ (v1 : Tm) (v3 : Int) (v4 : Int) (v5 : Int) (v6 : Prt) (a2 : Option Addr) (c2 : Nat) (a7 : Option Addr) (c7 : Nat) (a8 : Option Addr) (c8 : Nat) (r : Int), term_Each_print_printer_scoped_1 n v1 v3 v4 v5 v6 = some r → Meets Tryz.prog (.val (.fn (.func 48) [] [])) [(.agg [(.v (.int .i64 v1.op)), (.v (.int .i64 v1.hd)), (.v (.int .i64 v1.n)), (.v (.slice a2 ((Tm.encL v1.args).length) c2))]), (.v (.int .i64 v3)), (.fn (.func 49) [] [(.loc 0 0), (.loc 1 0), (.loc 2 0)])] ⟨[.cells 32 [(.v (.int .i64 v4))], .cells 61 [(.loc 3 0)], .cells 3 [(.v (.int .i64 v5))], .cells 63 [(.v (.slice a7 ((Dc.encL v6.sig).length) c7)), (.v (.slice a8 ((Mt.encL v6.metas).length) c8)), (.v (.int .i64 v6.first))]], [], [(.slice a2 ((Tm.encL v1.args).length) c2, .sl 4 (Tm.encL v1.args)), (.slice a7 ((Dc.encL v6.sig).length) c7, .sl 6 (Dc.encL v6.sig)), (.slice a8 ((Mt.encL v6.metas).length) c8, .sl 10 (Mt.encL v6.metas))]⟩ (fun o S' => o = .ret (.tup []) ∧ S' = ⟨[.cells 32 [(.v (.int .i64 r))], .cells 61 [(.loc 3 0)], .cells 3 [(.v (.int .i64 v5))], .cells 63 [(.v (.slice a7 ((Dc.encL v6.sig).length) c7)), (.v (.slice a8 ((Mt.encL v6.metas).length) c8)), (.v (.int .i64 v6.first))]], [], []⟩)) := by
  intro N
  induction N with
  | zero =>
    intro n hn v1 v3 v4 v5 v6 a2 c2 a7 c7 a8 c8 r hr; obtain rfl : n = 0 := (by omega); exact no_some hr
  | succ N ih =>
    intro n hn v1 v3 v4 v5 v6 a2 c2 a7 c7 a8 c8 r hr
    rcases n with _ | n
    · exact no_some hr
    replace hn : n ≤ N := by omega
    rw [term_Each_print_printer_scoped_1.eq_2] at hr
    refine spec_of_body (N := 29) (m := 4) (dt := drawsOf [(5, .node [0, 1, 2, 3, 6] [(4, .node [5] [(7, .leaf [])])], [7], [])]) [] ttOK Tryz.func48 rfl Tryz.call48 Tryz.ntmps48 rfl rfl rfl mixed (by kernel_rfl) ?_
    obtain ⟨v9, h10, hr⟩ := bind_some hr
    refine (print_printer_scoped_1_spec n v1 v3 v4 v5 v6 a2 c2 a7 c7 a8 c8 _ h10).frameR [0, 1, 2, 3] [0, 1, 2] rfl rfl rfl rfl rfl rfl rfl rfl ?_
    rintro _ _ ⟨rfl, rfl⟩
    refine ⟨rfl, rfl, [.cells 32 [(.v (.int .i64 v9))], .cells 61 [(.loc 3 0)], .cells 3 [(.v (.int .i64 v5))], .cells 63 [(.v (.slice a7 ((Dc.encL v6.sig).length) c7)), (.v (.slice a8 ((Mt.encL v6.metas).length) c8)), (.v (.int .i64 v6.first))]], rfl, ?_⟩
    refine AtLoop.mk ⟨Nat × Int × Int, fun x => [(1, (.v (.int .i64 v3))), (2, (.fn (.func 49) [] [(.loc 0 0), (.loc 1 0), (.loc 2 0)])), (3, (.loc 4 0)), (13, (.v (.slice a2 ((Tm.encL v1.args).length) c2))), (14, (.v (.int .i64 ((Tm.encL v1.args).length : Int)))), (15, (.v (.int .i64 x.2.2)))], fun x => ⟨[.cells 32 [(.v (.int .i64 x.2.1))], .cells 61 [(.loc 3 0)], .cells 3 [(.v (.int .i64 v5))], .cells 63 [(.v (.slice a7 ((Dc.encL v6.sig).length) c7)), (.v (.slice a8 ((Mt.encL v6.metas).length) c8)), (.v (.int .i64 v6.first))], .cells 26 [(.v (.int .i64 v1.op)), (.v (.int .i64 v1.hd)), (.v (.int .i64 v1.n)), (.v (.slice a2 ((Tm.encL v1.args).length) c2))]], [], [(.slice a2 ((Tm.encL v1.args).length) c2, .sl 4 (Tm.encL v1.args)), (.slice a7 ((Dc.encL v6.sig).length) c7, .sl 6 (Dc.encL v6.sig)), (.slice a8 ((Mt.encL v6.metas).length) c8, .sl 10 (Mt.encL v6.metas))]⟩, fun x => x.1 ≤ N ∧ term_Each_print_printer_scoped_1_L1 x.1 v1 v3 v5 v6 x.2.1 x.2.2 = some r, fun x => x.1, (n, v9, 0), ⟨by omega, hr⟩, ⟨rfl, rfl, rfl, rfl, rfl, rfl, trivial⟩, (StLe.gen 5 [] [.old 0, .old 1, .old 2] rfl rfl rfl rfl rfl rfl rfl), fun x _ => ⟨rfl, rfl⟩, ?_⟩
    rintro ⟨n, v21, v22⟩ HH
    obtain ⟨hn, hr⟩ : n ≤ N ∧ term_Each_print_printer_scoped_1_L1 n v1 v3 v5 v6 v21 v22 = some r := HH
    rcases n with _ | n
    · exact no_some hr
    rw [term_Each_print_printer_scoped_1_L1.eq_2] at hr
    refine AtIf.mk (fun h23 => ?_) (fun h23 => ?_)
    · replace hr := cond_t h23 hr
      obtain ⟨v24, h25, hr⟩ := bind_some hr
      obtain ⟨h26, h27⟩ := idx_some h25
      refine at_index ttOK 0 rfl rfl rfl rfl h26 (Tm.encL_get h27) ?_
      intro a28 c28 _ _
      obtain ⟨v29, h30, hr⟩ := bind_some hr
      refine (term_Under_spec n v1 v22 a2 c2 _ h30).atR [0] rfl rfl rfl ?_
      rintro _ _ ⟨rfl, rfl⟩
      refine ⟨fun _ _ h => h, ?_⟩
      obtain ⟨v31, h32, hr⟩ := bind_some hr
      refine (ih n (by omega) v24 (IntKind.i64.wrap (v3 + v29)) v21 v5 v6 a28 c28 a7 c7 a8 c8 _ h32).frameR [0, 1, 2, 3] [3, 1, 2] rfl rfl rfl rfl rfl rfl rfl rfl ?_
      rintro _ _ ⟨rfl, rfl⟩
      refine ⟨rfl, rfl, [.cells 32 [(.v (.int .i64 v31))], .cells 61 [(.loc 3 0)], .cells 3 [(.v (.int .i64 v5))], .cells 63 [(.v (.slice a7 ((Dc.encL v6.sig).length) c7)), (.v (.slice a8 ((Mt.encL v6.metas).length) c8)), (.v (.int .i64 v6.first))]], rfl, ?_⟩
      exact ⟨(n, v31, (IntKind.i64.wrap (v22 + 1))), ⟨by omega, hr⟩, Nat.lt_succ_self _, ⟨rfl, rfl, rfl, rfl, rfl, rfl, trivial⟩, (StLe.gen 5 [] [.old 0, .old 1, .old 2] rfl rfl rfl rfl rfl rfl rfl)⟩
    · replace hr := cond_f h23 hr
      replace hr := Option.some.inj hr
      subst hr
      exact AtRet.gen ⟨[.cells 32 [(.v (.int .i64 v21))], .cells 61 [(.loc 3 0)], .cells 3 [(.v (.int .i64 v5))], .cells 63 [(.v (.slice a7 ((Dc.encL v6.sig).length) c7)), (.v (.slice a8 ((Mt.encL v6.metas).length) c8)), (.v (.int .i64 v6.first))]], [], []⟩ (StLe.gen 4 [] [] rfl rfl rfl rfl rfl rfl rfl) rfl rfl ⟨rfl, rfl⟩
theorem term_Each_print_printer_scoped_1_spec (n : Nat) (v1 : Tm) (v3 : Int) (v4 : Int) (v5 : Int) (v6 : Prt) (a2 : Option Addr) (c2 : Nat) (a7 : Option Addr) (c7 : Nat) (a8 : Option Addr) (c8 : Nat) (r : Int) (hr : term_Each_print_printer_scoped_1 n v1 v3 v4 v5 v6 = some r) : Meets Tryz.prog (.val (.fn (.func 48) [] [])) [(.agg [(.v (.int .i64 v1.op)), (.v (.int .i64 v1.hd)), (.v (.int .i64 v1.n)), (.v (.slice a2 ((Tm.encL v1.args).length) c2))]), (.v (.int .i64 v3)), (.fn (.func 49) [] [(.loc 0 0), (.loc 1 0), (.loc 2 0)])] ⟨[.cells 32 [(.v (.int .i64 v4))], .cells 61 [(.loc 3 0)], .cells 3 [(.v (.int .i64 v5))], .cells 63 [(.v (.slice a7 ((Dc.encL v6.sig).length) c7)), (.v (.slice a8 ((Mt.encL v6.metas).length) c8)), (.v (.int .i64 v6.first))]], [], [(.slice a2 ((Tm.encL v1.args).length) c2, .sl 4 (Tm.encL v1.args)), (.slice a7 ((Dc.encL v6.sig).length) c7, .sl 6 (Dc.encL v6.sig)), (.slice a8 ((Mt.encL v6.metas).length) c8, .sl 10 (Mt.encL v6.metas))]⟩ (fun o S' => o = .ret (.tup []) ∧ S' = ⟨[.cells 32 [(.v (.int .i64 r))], .cells 61 [(.loc 3 0)], .cells 3 [(.v (.int .i64 v5))], .cells 63 [(.v (.slice a7 ((Dc.encL v6.sig).length) c7)), (.v (.slice a8 ((Mt.encL v6.metas).length) c8)), (.v (.int .i64 v6.first))]], [], []⟩) := (term_Each_print_printer_scoped_1_specN n) n (Nat.le_refl _) v1 v3 v4 v5 v6 a2 c2 a7 c7 a8 c8 r hr
def print_printer_scoped : Nat → Tm → Int → Prt → Option (Int)
  | 0, _, _, _ => none
  | n + 1, v1, v3, v4 =>
    (term_Each_print_printer_scoped_1 n v1 0 0 v3 v4).bind (fun v7 =>
    some (v7))
theorem print_printer_scoped_spec (n : Nat) (v1 : Tm) (v3 : Int) (v4 : Prt) (a2 : Option Addr) (c2 : Nat) (a5 : Option Addr) (c5 : Nat) (a6 : Option Addr) (c6 : Nat) (r : Int) (hr : print_printer_scoped n v1 v3 v4 = some r) : Meets Tryz.prog (.val (.fn (.func 24) [] [])) [(.loc 0 0), (.agg [(.v (.int .i64 v1.op)), (.v (.int .i64 v1.hd)), (.v (.int .i64 v1.n)), (.v (.slice a2 ((Tm.encL v1.args).length) c2))]), (.v (.int .i64 v3))] ⟨[.cells 63 [(.v (.slice a5 ((Dc.encL v4.sig).length) c5)), (.v (.slice a6 ((Mt.encL v4.metas).length) c6)), (.v (.int .i64 v4.first))]], [], [(.slice a2 ((Tm.encL v1.args).length) c2, .sl 4 (Tm.encL v1.args)), (.slice a5 ((Dc.encL v4.sig).length) c5, .sl 6 (Dc.encL v4.sig)), (.slice a6 ((Mt.encL v4.metas).length) c6, .sl 10 (Mt.encL v4.metas))]⟩ (fun o S' => o = .ret (.v (.int .i64 r)) ∧ S' = ⟨[.cells 63 [(.v (.slice a5 ((Dc.encL v4.sig).length) c5)), (.v (.slice a6 ((Mt.encL v4.metas).length) c6)), (.v (.int .i64 v4.first))]], [], []⟩) := by
  rcases n with _ | n
  · exact no_some hr
  rw [print_printer_scoped.eq_2] at hr
  refine spec_of_body (N := 12) (m := 1) (dt := fun _ => none) [] ttOK Tryz.func24 rfl Tryz.call24 Tryz.ntmps24 rfl rfl rfl mixed (by kernel_rfl) ?_
  obtain ⟨v7, h8, hr⟩ := bind_some hr
  refine (term_Each_print_printer_scoped_1_spec n v1 0 0 v3 v4 a2 c2 a5 c5 a6 c6 _ h8).frameR [4, 1, 3, 0] [0, 1, 2] rfl rfl rfl rfl rfl rfl rfl rfl ?_
  rintro _ _ ⟨rfl, rfl⟩
  refine ⟨rfl, rfl, [.cells 32 [(.v (.int .i64 v7))], .cells 61 [(.loc 0 0)], .cells 3 [(.v (.int .i64 v3))], .cells 63 [(.v (.slice a5 ((Dc.encL v4.sig).length) c5)), (.v (.slice a6 ((Mt.encL v4.metas).length) c6)), (.v (.int .i64 v4.first))]], rfl, ?_⟩
  replace hr := Option.some.inj hr
  subst hr
  exact AtRet.gen ⟨[.cells 63 [(.v (.slice a5 ((Dc.encL v4.sig).length) c5)), (.v (.slice a6 ((Mt.encL v4.metas).length) c6)), (.v (.int .i64 v4.first))]], [], []⟩ (StLe.gen 1 [] [] rfl rfl rfl rfl rfl rfl rfl) rfl rfl ⟨rfl, rfl⟩
def print_kept : Nat → Rw → Int → Option (Rw × Int)
  | 0, _, _ => none
  | n + 1, v1, v3 =>
    cond (v3 != 0) (
    some ((Rw.mk 0 ByteArray.empty ([])), v3)) (
    cond ((if rawOK v1 then (0 : Int) else 2) != 0) (
    some ((Rw.mk 0 ByteArray.empty ([])), 5)) (
    some (v1, 0)))
theorem print_kept_spec (n : Nat) (v1 : Rw) (v3 : Int) (a2 : Option Addr) (c2 : Nat) (r : Rw × Int) (hr : print_kept n v1 v3 = some r) : Pure Tryz.prog (.val (.fn (.func 25) [] [])) [(.agg [(.v (.int .i64 v1.op)), (.v (.string v1.name)), (.v (.slice a2 ((Rw.encL v1.args).length) c2))]), (.v (.int .i64 v3))] [(.slice a2 ((Rw.encL v1.args).length) c2, .sl 3 (Rw.encL v1.args))] (fun r' out => ∃ (b1 : Option Addr) (d1 : Nat), r' = (.tup [(.agg [(.v (.int .i64 r.1.op)), (.v (.string r.1.name)), (.v (.slice b1 ((Rw.encL r.1.args).length) d1))]), (.v (.int .i64 r.2))]) ∧ out = [(.slice b1 ((Rw.encL r.1.args).length) d1, .sl 3 (Rw.encL r.1.args))]) := by
  rcases n with _ | n
  · exact no_some hr
  rw [print_kept.eq_2] at hr
  refine spec_of_body (N := 17) (m := 0) (dt := fun _ => none) [] ttOK Tryz.func25 rfl Tryz.call25 Tryz.ntmps25 rfl rfl rfl mixed (by kernel_rfl) ?_
  refine AtIf.mk (fun h4 => ?_) (fun h4 => ?_)
  · replace hr := cond_t h4 hr
    replace hr := Option.some.inj hr
    subst hr
    exact AtRet.pureG [.nil 3] [(.slice none 0 0, .sl 3 [])] rfl rfl ⟨none, 0, rfl, rfl⟩
  · replace hr := cond_f h4 hr
    refine (checkRaw_spec v1 a2 c2).atR [0] rfl rfl rfl ?_
    rintro _ _ ⟨rfl, rfl⟩
    refine AtIf.mk (fun h5 => ?_) (fun h5 => ?_)
    · replace hr := cond_t h5 hr
      replace hr := Option.some.inj hr
      subst hr
      exact AtRet.pureG [.nil 3] [(.slice none 0 0, .sl 3 [])] rfl rfl ⟨none, 0, rfl, rfl⟩
    · replace hr := cond_f h5 hr
      replace hr := Option.some.inj hr
      subst hr
      exact AtRet.pureG [.old 0] [(.slice a2 ((Rw.encL v1.args).length) c2, .sl 3 (Rw.encL v1.args))] rfl rfl ⟨a2, c2, rfl, rfl⟩
def print_node : Nat → Int → ByteArray → (List Rw) → Option (Rw)
  | 0, _, _, _ => none
  | n + 1, v1, v2, v3 =>
    some ((Rw.mk v1 v2 v3))
theorem print_node_spec (n : Nat) (v1 : Int) (v2 : ByteArray) (v3 : (List Rw)) (a4 : Option Addr) (c4 : Nat) (r : Rw) (hr : print_node n v1 v2 v3 = some r) : Pure Tryz.prog (.val (.fn (.func 52) [] [])) [(.v (.int .i64 v1)), (.v (.string v2)), (.v (.slice a4 ((Rw.encL v3).length) c4))] [(.slice a4 ((Rw.encL v3).length) c4, .sl 3 (Rw.encL v3))] (fun r' out => ∃ (b1 : Option Addr) (d1 : Nat), r' = (.agg [(.v (.int .i64 r.op)), (.v (.string r.name)), (.v (.slice b1 ((Rw.encL r.args).length) d1))]) ∧ out = [(.slice b1 ((Rw.encL r.args).length) d1, .sl 3 (Rw.encL r.args))]) := by
  rcases n with _ | n
  · exact no_some hr
  rw [print_node.eq_2] at hr
  refine spec_of_body (N := 11) (m := 0) (dt := fun _ => none) [] ttOK Tryz.func52 rfl Tryz.call52 Tryz.ntmps52 rfl rfl rfl mixed (by kernel_rfl) ?_
  replace hr := Option.some.inj hr
  subst hr
  exact AtRet.pureG [.old 0] [(.slice a4 ((Rw.encL v3).length) c4, .sl 3 (Rw.encL v3))] rfl rfl ⟨a4, c4, rfl, rfl⟩
mutual
def print_printer_raw : Nat → Tm → Int → Prt → Option (Rw × Int)
  | 0, _, _, _ => none
  | n + 1, v1, v3, v4 =>
    cond (v1.op == 1) (
    (print_node n 1 (⟨#[]⟩) ([])).bind (fun v8 =>
    some (v8, 0))) (
    cond (v1.op == 2) (
    (print_printer_pi n v1 v3 v4).bind (fun v12 =>
    some (v12.1, v12.2))) (
    cond (v1.op == 3) (
    (idx v1.args 0).bind (fun v16 =>
    (print_printer_raw n v16 (IntKind.i64.wrap (v3 + 1)) v4).bind (fun v21 =>
    (print_printer_name n v3 v4).bind (fun v26 =>
    (print_node n 3 (⟨#[]⟩) ([])).bind (fun v28 =>
    (print_node n 7 v26 ([v28, v21.1])).bind (fun v32 =>
    some (v32, v21.2))))))) (
    (print_printer_head n v1 v3 v4).bind (fun v35 =>
    cond (v35.2.2 != 0) (
    some ((Rw.mk 0 ByteArray.empty ([])), v35.2.2)) (
    cond (decide ((0 : Int) ≤ v35.2.1 ∧ v35.2.1 ≤ ((Tm.encL v1.args).length : Int) ∧ ((Tm.encL v1.args).length : Int) ≤ ((Tm.encL v1.args).length : Int))) (
    (print_node n 2 v35.1 ([])).bind (fun v40 =>
    (print_fold_print_printer_raw_1 n v40 (v1.args.drop v35.2.1.toNat) v3 v4).bind (fun v43 =>
    some (v43.1, v43.2)))) none)))))
def print_printer_pi : Nat → Tm → Int → Prt → Option (Rw × Int)
  | 0, _, _, _ => none
  | n + 1, v1, v3, v4 =>
    (idx v1.args 0).bind (fun v7 =>
    (print_printer_raw n v7 v3 v4).bind (fun v12 =>
    cond (v12.2 != 0) (
    some ((Rw.mk 0 ByteArray.empty ([])), v12.2)) (
    (idx v1.args 1).bind (fun v16 =>
    (term_Occurs n v16 0).bind (fun v21 =>
    cond v21.1 (
    (idx v1.args 1).bind (fun v24 =>
    (print_printer_raw n v24 (IntKind.i64.wrap (v3 + 1)) v4).bind (fun v29 =>
    (print_printer_name n v3 v4).bind (fun v32 =>
    (print_node n 5 v32 ([v12.1, v29.1])).bind (fun v35 =>
    some (v35, v29.2)))))) (
    (idx v1.args 1).bind (fun v40 =>
    (term_Moved n v40 (-1) 0).bind (fun v45 =>
    (print_printer_raw n v45 v3 v4).bind (fun v48 =>
    (print_node n 6 (⟨#[]⟩) ([v12.1, v48.1])).bind (fun v52 =>
    some (v52, v48.2)))))))))))
def print_fold_print_printer_raw_1 : Nat → Rw → (List Tm) → Int → Prt → Option (Rw × Int)
  | 0, _, _, _, _ => none
  | n + 1, v1, v3, v5, v6 =>
    print_fold_print_printer_raw_1_L1 n v3 v5 v6 v1 0
def print_fold_print_printer_raw_1_L1 : Nat → (List Tm) → Int → Prt → Rw → Int → Option (Rw × Int)
  | 0, _, _, _, _, _ => none
  | n + 1, v3, v5, v6, v19, v21 =>
    cond (decide (v21 < ((Tm.encL v3).length : Int))) (
    (idx v3 v21).bind (fun v23 =>
    (print_printer_raw_1 n v19 v23 v5 v6).bind (fun v28 =>
    cond (v28.2 != 0) (
    some (v19, v28.2)) (
    print_fold_print_printer_raw_1_L1 n v3 v5 v6 v28.1 (IntKind.i64.wrap (v21 + 1)))))) (
    some (v19, 0))
def print_printer_raw_1 : Nat → Rw → Tm → Int → Prt → Option (Rw × Int)
  | 0, _, _, _, _ => none
  | n + 1, v1, v3, v5, v6 =>
    (print_printer_raw n v3 v5 v6).bind (fun v9 =>
    (print_node n 4 (⟨#[]⟩) ([v1, v9.1])).bind (fun v13 =>
    some (v13, v9.2)))
 end
theorem print_printer_raw_specN : ∀ (N : Nat), (∀ (n : Nat), n ≤ N → ∀ (v1 : Tm) (v3 : Int) (v4 : Prt) (a2 : Option Addr) (c2 : Nat) (a5 : Option Addr) (c5 : Nat) (a6 : Option Addr) (c6 : Nat) (r : Rw × Int), print_printer_raw n v1 v3 v4 = some r → Meets Tryz.prog (.val (.fn (.func 26) [] [])) [(.loc 0 0), (.agg [(.v (.int .i64 v1.op)), (.v (.int .i64 v1.hd)), (.v (.int .i64 v1.n)), (.v (.slice a2 ((Tm.encL v1.args).length) c2))]), (.v (.int .i64 v3))] ⟨[.cells 63 [(.v (.slice a5 ((Dc.encL v4.sig).length) c5)), (.v (.slice a6 ((Mt.encL v4.metas).length) c6)), (.v (.int .i64 v4.first))]], [], [(.slice a2 ((Tm.encL v1.args).length) c2, .sl 4 (Tm.encL v1.args)), (.slice a5 ((Dc.encL v4.sig).length) c5, .sl 6 (Dc.encL v4.sig)), (.slice a6 ((Mt.encL v4.metas).length) c6, .sl 10 (Mt.encL v4.metas))]⟩ (fun o S' => ∃ (b1 : Option Addr) (d1 : Nat), o = .ret (.tup [(.agg [(.v (.int .i64 r.1.op)), (.v (.string r.1.name)), (.v (.slice b1 ((Rw.encL r.1.args).length) d1))]), (.v (.int .i64 r.2))]) ∧ S' = ⟨[.cells 63 [(.v (.slice a5 ((Dc.encL v4.sig).length) c5)), (.v (.slice a6 ((Mt.encL v4.metas).length) c6)), (.v (.int .i64 v4.first))]], [], [(.slice b1 ((Rw.encL r.1.args).length) d1, .sl 3 (Rw.encL r.1.args))]⟩)) ∧ (∀ (n : Nat), n ≤ N → ∀ (v1 : Tm) (v3 : Int) (v4 : Prt) (a2 : Option Addr) (c2 : Nat) (a5 : Option Addr) (c5 : Nat) (a6 : Option Addr) (c6 : Nat) (r : Rw × Int), print_printer_pi n v1 v3 v4 = some r → Meets Tryz.prog (.val (.fn (.func 53) [] [])) [(.loc 0 0), (.agg [(.v (.int .i64 v1.op)), (.v (.int .i64 v1.hd)), (.v (.int .i64 v1.n)), (.v (.slice a2 ((Tm.encL v1.args).length) c2))]), (.v (.int .i64 v3))] ⟨[.cells 63 [(.v (.slice a5 ((Dc.encL v4.sig).length) c5)), (.v (.slice a6 ((Mt.encL v4.metas).length) c6)), (.v (.int .i64 v4.first))]], [], [(.slice a2 ((Tm.encL v1.args).length) c2, .sl 4 (Tm.encL v1.args)), (.slice a5 ((Dc.encL v4.sig).length) c5, .sl 6 (Dc.encL v4.sig)), (.slice a6 ((Mt.encL v4.metas).length) c6, .sl 10 (Mt.encL v4.metas))]⟩ (fun o S' => ∃ (b1 : Option Addr) (d1 : Nat), o = .ret (.tup [(.agg [(.v (.int .i64 r.1.op)), (.v (.string r.1.name)), (.v (.slice b1 ((Rw.encL r.1.args).length) d1))]), (.v (.int .i64 r.2))]) ∧ S' = ⟨[.cells 63 [(.v (.slice a5 ((Dc.encL v4.sig).length) c5)), (.v (.slice a6 ((Mt.encL v4.metas).length) c6)), (.v (.int .i64 v4.first))]], [], [(.slice b1 ((Rw.encL r.1.args).length) d1, .sl 3 (Rw.encL r.1.args))]⟩)) ∧ (∀ (n : Nat), n ≤ N → ∀ (v1 : Rw) (v3 : (List Tm)) (v5 : Int) (v6 : Prt) (a2 : Option Addr) (c2 : Nat) (a4 : Option Addr) (c4 : Nat) (a7 : Option Addr) (c7 : Nat) (a8 : Option Addr) (c8 : Nat) (r : Rw × Int), print_fold_print_printer_raw_1 n v1 v3 v5 v6 = some r → Meets Tryz.prog (.val (.fn (.func 54) [] [])) [(.agg [(.v (.int .i64 v1.op)), (.v (.string v1.name)), (.v (.slice a2 ((Rw.encL v1.args).length) c2))]), (.v (.slice a4 ((Tm.encL v3).length) c4)), (.fn (.func 55) [] [(.loc 0 0), (.loc 1 0)])] ⟨[.cells 61 [(.loc 2 0)], .cells 3 [(.v (.int .i64 v5))], .cells 63 [(.v (.slice a7 ((Dc.encL v6.sig).length) c7)), (.v (.slice a8 ((Mt.encL v6.metas).length) c8)), (.v (.int .i64 v6.first))]], [], [(.slice a2 ((Rw.encL v1.args).length) c2, .sl 3 (Rw.encL v1.args)), (.slice a4 ((Tm.encL v3).length) c4, .sl 4 (Tm.encL v3)), (.slice a7 ((Dc.encL v6.sig).length) c7, .sl 6 (Dc.encL v6.sig)), (.slice a8 ((Mt.encL v6.metas).length) c8, .sl 10 (Mt.encL v6.metas))]⟩ (fun o S' => ∃ (b1 : Option Addr) (d1 : Nat), o = .ret (.tup [(.agg [(.v (.int .i64 r.1.op)), (.v (.string r.1.name)), (.v (.slice b1 ((Rw.encL r.1.args).length) d1))]), (.v (.int .i64 r.2))]) ∧ S' = ⟨[.cells 61 [(.loc 2 0)], .cells 3 [(.v (.int .i64 v5))], .cells 63 [(.v (.slice a7 ((Dc.encL v6.sig).length) c7)), (.v (.slice a8 ((Mt.encL v6.metas).length) c8)), (.v (.int .i64 v6.first))]], [], [(.slice b1 ((Rw.encL r.1.args).length) d1, .sl 3 (Rw.encL r.1.args))]⟩)) ∧ (∀ (n : Nat), n ≤ N → ∀ (v1 : Rw) (v3 : Tm) (v5 : Int) (v6 : Prt) (a2 : Option Addr) (c2 : Nat) (a4 : Option Addr) (c4 : Nat) (a7 : Option Addr) (c7 : Nat) (a8 : Option Addr) (c8 : Nat) (r : Rw × Int), print_printer_raw_1 n v1 v3 v5 v6 = some r → Meets Tryz.prog (.val (.fn (.func 55) [] [(.loc 0 0), (.loc 1 0)])) [(.agg [(.v (.int .i64 v1.op)), (.v (.string v1.name)), (.v (.slice a2 ((Rw.encL v1.args).length) c2))]), (.agg [(.v (.int .i64 v3.op)), (.v (.int .i64 v3.hd)), (.v (.int .i64 v3.n)), (.v (.slice a4 ((Tm.encL v3.args).length) c4))])] ⟨[.cells 61 [(.loc 2 0)], .cells 3 [(.v (.int .i64 v5))], .cells 63 [(.v (.slice a7 ((Dc.encL v6.sig).length) c7)), (.v (.slice a8 ((Mt.encL v6.metas).length) c8)), (.v (.int .i64 v6.first))]], [], [(.slice a2 ((Rw.encL v1.args).length) c2, .sl 3 (Rw.encL v1.args)), (.slice a4 ((Tm.encL v3.args).length) c4, .sl 4 (Tm.encL v3.args)), (.slice a7 ((Dc.encL v6.sig).length) c7, .sl 6 (Dc.encL v6.sig)), (.slice a8 ((Mt.encL v6.metas).length) c8, .sl 10 (Mt.encL v6.metas))]⟩ (fun o S' => ∃ (b1 : Option Addr) (d1 : Nat), o = .ret (.tup [(.agg [(.v (.int .i64 r.1.op)), (.v (.string r.1.name)), (.v (.slice b1 ((Rw.encL r.1.args).length) d1))]), (.v (.int .i64 r.2))]) ∧ S' = ⟨[.cells 61 [(.loc 2 0)], .cells 3 [(.v (.int .i64 v5))], .cells 63 [(.v (.slice a7 ((Dc.encL v6.sig).length) c7)), (.v (.slice a8 ((Mt.encL v6.metas).length) c8)), (.v (.int .i64 v6.first))]], [], [(.slice b1 ((Rw.encL r.1.args).length) d1, .sl 3 (Rw.encL r.1.args))]⟩)) := by
  intro N
  induction N with
  | zero =>
    refine ⟨?_, ?_, ?_, ?_⟩
    · intro n hn v1 v3 v4 a2 c2 a5 c5 a6 c6 r hr; obtain rfl : n = 0 := (by omega); exact no_some hr
    · intro n hn v1 v3 v4 a2 c2 a5 c5 a6 c6 r hr; obtain rfl : n = 0 := (by omega); exact no_some hr
    · intro n hn v1 v3 v5 v6 a2 c2 a4 c4 a7 c7 a8 c8 r hr; obtain rfl : n = 0 := (by omega); exact no_some hr
    · intro n hn v1 v3 v5 v6 a2 c2 a4 c4 a7 c7 a8 c8 r hr; obtain rfl : n = 0 := (by omega); exact no_some hr
  | succ N ih =>
    obtain ⟨ih1, ih2, ih3, ih4⟩ := ih
    refine ⟨?_, ?_, ?_, ?_⟩
    ·
      intro n hn v1 v3 v4 a2 c2 a5 c5 a6 c6 r hr
      rcases n with _ | n
      · exact no_some hr
      replace hn : n ≤ N := by omega
      rw [print_printer_raw.eq_2] at hr
      refine spec_of_body (N := 69) (m := 1) (dt := drawsOf [(7, .node [0, 1, 2, 3, 4, 5, 6] [(7, .node [8, 9, 10] [(11, .node [] [(12, .leaf [13])])]), (11, .node [] [(7, .node [8, 9, 10] [(12, .leaf [13])])])], [7], [6]), (8, .node [0, 1, 4, 7] [(2, .node [] [(3, .node [] [(5, .node [] [(6, .node [] [(8, .leaf [9])])])])])], [], [4]), (12, .node [0, 2, 3, 4, 5, 6] [(1, .node [] [(7, .node [8, 9] [(10, .leaf [11])])])], [7, 10], [])]) [] ttOK Tryz.func26 rfl Tryz.call26 Tryz.ntmps26 rfl rfl rfl mixed (by kernel_rfl) ?_
      refine AtIf.mk (fun h7 => ?_) (fun h7 => ?_)
      · replace hr := cond_t h7 hr
        obtain ⟨v8, h9, hr⟩ := bind_some hr
        refine Meets.nilRep 3 ?_
        refine (print_node_spec n 1 (⟨#[]⟩) ([]) none 0 _ h9).atR [0] rfl rfl rfl ?_
        rintro _ _ ⟨a10, c10, rfl, rfl⟩
        replace hr := Option.some.inj hr
        subst hr
        exact AtRet.gen ⟨[.cells 63 [(.v (.slice a5 ((Dc.encL v4.sig).length) c5)), (.v (.slice a6 ((Mt.encL v4.metas).length) c6)), (.v (.int .i64 v4.first))]], [], [(.slice a10 ((Rw.encL v8.args).length) c10, .sl 3 (Rw.encL v8.args))]⟩ (StLe.gen 1 [] [.old 4] rfl rfl rfl rfl rfl rfl rfl) rfl rfl ⟨a10, c10, rfl, rfl⟩
      · replace hr := cond_f h7 hr
        refine AtIf.mk (fun h11 => ?_) (fun h11 => ?_)
        · replace hr := cond_t h11 hr
          obtain ⟨v12, h13, hr⟩ := bind_some hr
          refine (ih2 n (by omega) v1 v3 v4 a2 c2 a5 c5 a6 c6 _ h13).frameR [0] [0, 1, 2] rfl rfl rfl rfl rfl rfl rfl rfl ?_
          rintro _ _ ⟨a14, c14, rfl, rfl⟩
          refine ⟨rfl, rfl, [.cells 63 [(.v (.slice a5 ((Dc.encL v4.sig).length) c5)), (.v (.slice a6 ((Mt.encL v4.metas).length) c6)), (.v (.int .i64 v4.first))]], rfl, ?_⟩
          replace hr := Option.some.inj hr
          subst hr
          exact AtRet.gen ⟨[.cells 63 [(.v (.slice a5 ((Dc.encL v4.sig).length) c5)), (.v (.slice a6 ((Mt.encL v4.metas).length) c6)), (.v (.int .i64 v4.first))]], [], [(.slice a14 ((Rw.encL v12.1.args).length) c14, .sl 3 (Rw.encL v12.1.args))]⟩ (StLe.gen 1 [] [.old 3] rfl rfl rfl rfl rfl rfl rfl) rfl rfl ⟨a14, c14, rfl, rfl⟩
        · replace hr := cond_f h11 hr
          refine AtIf.mk (fun h15 => ?_) (fun h15 => ?_)
          · replace hr := cond_t h15 hr
            obtain ⟨v16, h17, hr⟩ := bind_some hr
            obtain ⟨h18, h19⟩ := idx_some h17
            obtain ⟨v21, h22, hr⟩ := bind_some hr
            refine at_index ttOK 0 rfl rfl rfl rfl h18 (Tm.encL_get h19) ?_
            intro a24 c24 _ _
            refine ⟨?_, ?_⟩
            ·
              refine (ih1 n (by omega) v16 (IntKind.i64.wrap (v3 + 1)) v4 a24 c24 a5 c5 a6 c6 _ h22).frameR [0] [3, 1, 2] rfl rfl rfl rfl rfl rfl rfl rfl ?_
              rintro _ _ ⟨a25, c25, rfl, rfl⟩
              refine ⟨rfl, rfl, [.cells 63 [(.v (.slice a5 ((Dc.encL v4.sig).length) c5)), (.v (.slice a6 ((Mt.encL v4.metas).length) c6)), (.v (.int .i64 v4.first))]], rfl, ?_⟩
              refine ⟨OwnKeptBut.append, ?_⟩
              refine ⟨fun _ _ h => h, ?_⟩
              obtain ⟨v26, h27, hr⟩ := bind_some hr
              refine (print_printer_name_spec n v3 v4 a5 c5 a6 c6 _ h27).frameR [0] [1, 2] rfl rfl rfl rfl rfl rfl rfl rfl ?_
              rintro _ _ ⟨rfl, rfl⟩
              refine ⟨rfl, rfl, [.cells 63 [(.v (.slice a5 ((Dc.encL v4.sig).length) c5)), (.v (.slice a6 ((Mt.encL v4.metas).length) c6)), (.v (.int .i64 v4.first))]], rfl, ?_⟩
              refine ⟨fun _ _ h => h, ?_⟩
              obtain ⟨v28, h29, hr⟩ := bind_some hr
              refine Meets.nilRep 3 ?_
              refine (print_node_spec n 3 (⟨#[]⟩) ([]) none 0 _ h29).atR [0] rfl rfl rfl ?_
              rintro _ _ ⟨a30, c30, rfl, rfl⟩
              refine ⟨fun _ _ h => h, ?_⟩
              refine at_buildG (n := 2) ttOK 48 [.agg [.int .i64 v28.op, .str v28.name, .sl 3 (Rw.encL v28.args)], .agg [.int .i64 v21.1.op, .str v21.1.name, .sl 3 (Rw.encL v21.1.args)]] (ds' := (Rw.encL ([v28, v21.1]))) rfl (by kernel_rfl) ⟨⟨rfl, rfl, rfl, ⟨[(.v (.int .i64 v28.op))], _, rfl, rfl, ⟨[(.v (.string v28.name))], _, rfl, rfl, ⟨[(.v (.slice a30 ((Rw.encL v28.args).length) c30))], _, rfl, (.inl ⟨_, rfl, nth_mem (j := 6) rfl⟩), rfl⟩⟩⟩⟩, ⟨⟨rfl, rfl, rfl, ⟨[(.v (.int .i64 v21.1.op))], _, rfl, rfl, ⟨[(.v (.string v21.1.name))], _, rfl, rfl, ⟨[(.v (.slice a25 ((Rw.encL v21.1.args).length) c25))], _, rfl, (.inl ⟨_, rfl, nth_mem (j := 5) rfl⟩), rfl⟩⟩⟩⟩, trivial⟩⟩ rfl (by simp only [Rw.encL_eq, List.map_cons, List.map_nil, Rw.enc_eq] <;> rfl) (by decide) (by decide) ?_
              intro a31
              refine ⟨fun _ _ h => h, ?_⟩
              obtain ⟨v32, h33, hr⟩ := bind_some hr
              refine (print_node_spec n 7 v26 ([v28, v21.1]) a31 2 _ h33).atR [7] rfl rfl rfl ?_
              rintro _ _ ⟨a34, c34, rfl, rfl⟩
              refine ⟨fun _ _ h => h, ?_⟩
              refine ⟨fun _ _ h => h, ?_⟩
              replace hr := Option.some.inj hr
              subst hr
              exact AtRet.gen ⟨[.cells 63 [(.v (.slice a5 ((Dc.encL v4.sig).length) c5)), (.v (.slice a6 ((Mt.encL v4.metas).length) c6)), (.v (.int .i64 v4.first))]], [], [(.slice a34 ((Rw.encL v32.args).length) c34, .sl 3 (Rw.encL v32.args))]⟩ (StLe.gen 1 [] [.old 8] rfl rfl rfl rfl rfl rfl rfl) rfl rfl ⟨a34, c34, rfl, rfl⟩
            ·
              refine ⟨OwnKeptBut.append, ?_⟩
              refine (ih1 n (by omega) v16 (IntKind.i64.wrap (v3 + 1)) v4 a24 c24 a5 c5 a6 c6 _ h22).frameR [0] [3, 1, 2] rfl rfl rfl rfl rfl rfl rfl rfl ?_
              rintro _ _ ⟨a35, c35, rfl, rfl⟩
              refine ⟨rfl, rfl, [.cells 63 [(.v (.slice a5 ((Dc.encL v4.sig).length) c5)), (.v (.slice a6 ((Mt.encL v4.metas).length) c6)), (.v (.int .i64 v4.first))]], rfl, ?_⟩
              refine ⟨fun _ _ h => h, ?_⟩
              obtain ⟨v26, h27, hr⟩ := bind_some hr
              refine (print_printer_name_spec n v3 v4 a5 c5 a6 c6 _ h27).frameR [0] [1, 2] rfl rfl rfl rfl rfl rfl rfl rfl ?_
              rintro _ _ ⟨rfl, rfl⟩
              refine ⟨rfl, rfl, [.cells 63 [(.v (.slice a5 ((Dc.encL v4.sig).length) c5)), (.v (.slice a6 ((Mt.encL v4.metas).length) c6)), (.v (.int .i64 v4.first))]], rfl, ?_⟩
              refine ⟨fun _ _ h => h, ?_⟩
              obtain ⟨v28, h29, hr⟩ := bind_some hr
              refine Meets.nilRep 3 ?_
              refine (print_node_spec n 3 (⟨#[]⟩) ([]) none 0 _ h29).atR [0] rfl rfl rfl ?_
              rintro _ _ ⟨a30, c30, rfl, rfl⟩
              refine ⟨fun _ _ h => h, ?_⟩
              refine at_buildG (n := 2) ttOK 48 [.agg [.int .i64 v28.op, .str v28.name, .sl 3 (Rw.encL v28.args)], .agg [.int .i64 v21.1.op, .str v21.1.name, .sl 3 (Rw.encL v21.1.args)]] (ds' := (Rw.encL ([v28, v21.1]))) rfl (by kernel_rfl) ⟨⟨rfl, rfl, rfl, ⟨[(.v (.int .i64 v28.op))], _, rfl, rfl, ⟨[(.v (.string v28.name))], _, rfl, rfl, ⟨[(.v (.slice a30 ((Rw.encL v28.args).length) c30))], _, rfl, (.inl ⟨_, rfl, nth_mem (j := 6) rfl⟩), rfl⟩⟩⟩⟩, ⟨⟨rfl, rfl, rfl, ⟨[(.v (.int .i64 v21.1.op))], _, rfl, rfl, ⟨[(.v (.string v21.1.name))], _, rfl, rfl, ⟨[(.v (.slice a35 ((Rw.encL v21.1.args).length) c35))], _, rfl, (.inl ⟨_, rfl, nth_mem (j := 5) rfl⟩), rfl⟩⟩⟩⟩, trivial⟩⟩ rfl (by simp only [Rw.encL_eq, List.map_cons, List.map_nil, Rw.enc_eq] <;> rfl) (by decide) (by decide) ?_
              intro a31
              refine ⟨fun _ _ h => h, ?_⟩
              obtain ⟨v32, h33, hr⟩ := bind_some hr
              refine (print_node_spec n 7 v26 ([v28, v21.1]) a31 2 _ h33).atR [7] rfl rfl rfl ?_
              rintro _ _ ⟨a34, c34, rfl, rfl⟩
              refine ⟨fun _ _ h => h, ?_⟩
              refine ⟨fun _ _ h => h, ?_⟩
              replace hr := Option.some.inj hr
              subst hr
              exact AtRet.gen ⟨[.cells 63 [(.v (.slice a5 ((Dc.encL v4.sig).length) c5)), (.v (.slice a6 ((Mt.encL v4.metas).length) c6)), (.v (.int .i64 v4.first))]], [], [(.slice a34 ((Rw.encL v32.args).length) c34, .sl 3 (Rw.encL v32.args))]⟩ (StLe.gen 1 [] [.old 8] rfl rfl rfl rfl rfl rfl rfl) rfl rfl ⟨a34, c34, rfl, rfl⟩
          · replace hr := cond_f h15 hr
            obtain ⟨v35, h36, hr⟩ := bind_some hr
            refine (print_printer_head_spec n v1 v3 v4 a2 c2 a5 c5 a6 c6 _ h36).frameR [0] [0, 1, 2] rfl rfl rfl rfl rfl rfl rfl rfl ?_
            rintro _ _ ⟨rfl, rfl⟩
            refine ⟨rfl, rfl, [.cells 63 [(.v (.slice a5 ((Dc.encL v4.sig).length) c5)), (.v (.slice a6 ((Mt.encL v4.metas).length) c6)), (.v (.int .i64 v4.first))]], rfl, ?_⟩
            refine AtIf.mk (fun h37 => ?_) (fun h37 => ?_)
            · replace hr := cond_t h37 hr
              replace hr := Option.some.inj hr
              subst hr
              exact AtRet.gen ⟨[.cells 63 [(.v (.slice a5 ((Dc.encL v4.sig).length) c5)), (.v (.slice a6 ((Mt.encL v4.metas).length) c6)), (.v (.int .i64 v4.first))]], [], [(.slice none 0 0, .sl 3 [])]⟩ (StLe.gen 1 [] [.nil 3] rfl rfl rfl rfl rfl rfl rfl) rfl rfl ⟨none, 0, rfl, rfl⟩
            · replace hr := cond_f h37 hr
              obtain ⟨h38, hr⟩ := cond_need hr
              refine at_sliceG ttOK 0 v35.2.1 ((Tm.encL v1.args).length : Int) (ds' := (Tm.encL (v1.args.drop v35.2.1.toNat))) rfl rfl rfl (.inl ⟨_, rfl⟩) (.inr ⟨rfl, rfl⟩) h38 (by simp only [Tm.encL_eq]; exact sl_l ..) ?_
              intro a39 c39
              obtain ⟨v40, h41, hr⟩ := bind_some hr
              refine Meets.nilRep 3 ?_
              refine (print_node_spec n 2 v35.1 ([]) none 0 _ h41).atR [0] rfl rfl rfl ?_
              rintro _ _ ⟨a42, c42, rfl, rfl⟩
              refine ⟨fun _ _ h => h, ?_⟩
              obtain ⟨v43, h44, hr⟩ := bind_some hr
              refine (ih3 n (by omega) v40 (v1.args.drop v35.2.1.toNat) v3 v4 a42 c42 a39 c39 a5 c5 a6 c6 _ h44).frameR [1, 3, 0] [5, 4, 2, 3] rfl rfl rfl rfl rfl rfl rfl rfl ?_
              rintro _ _ ⟨a45, c45, rfl, rfl⟩
              refine ⟨rfl, rfl, [.cells 61 [(.loc 0 0)], .cells 3 [(.v (.int .i64 v3))], .cells 63 [(.v (.slice a5 ((Dc.encL v4.sig).length) c5)), (.v (.slice a6 ((Mt.encL v4.metas).length) c6)), (.v (.int .i64 v4.first))]], rfl, ?_⟩
              replace hr := Option.some.inj hr
              subst hr
              exact AtRet.gen ⟨[.cells 63 [(.v (.slice a5 ((Dc.encL v4.sig).length) c5)), (.v (.slice a6 ((Mt.encL v4.metas).length) c6)), (.v (.int .i64 v4.first))]], [], [(.slice a45 ((Rw.encL v43.1.args).length) c45, .sl 3 (Rw.encL v43.1.args))]⟩ (StLe.gen 1 [] [.old 6] rfl rfl rfl rfl rfl rfl rfl) rfl rfl ⟨a45, c45, rfl, rfl⟩
    ·
      intro n hn v1 v3 v4 a2 c2 a5 c5 a6 c6 r hr
      rcases n with _ | n
      · exact no_some hr
      replace hn : n ≤ N := by omega
      rw [print_printer_pi.eq_2] at hr
      refine spec_of_body (N := 73) (m := 1) (dt := drawsOf [(7, .node [0, 1, 3, 4, 7] [(2, .node [] [(5, .node [] [(6, .node [] [(8, .leaf [9])])])]), (5, .node [] [(2, .node [] [(6, .node [] [(8, .leaf [9])])])])], [], [2])]) [] ttOK Tryz.func53 rfl Tryz.call53 Tryz.ntmps53 rfl rfl rfl mixed (by kernel_rfl) ?_
      obtain ⟨v7, h8, hr⟩ := bind_some hr
      obtain ⟨h9, h10⟩ := idx_some h8
      refine at_index ttOK 0 rfl rfl rfl rfl h9 (Tm.encL_get h10) ?_
      intro a11 c11 _ _
      obtain ⟨v12, h13, hr⟩ := bind_some hr
      refine (ih1 n (by omega) v7 v3 v4 a11 c11 a5 c5 a6 c6 _ h13).frameR [0] [3, 1, 2] rfl rfl rfl rfl rfl rfl rfl rfl ?_
      rintro _ _ ⟨a14, c14, rfl, rfl⟩
      refine ⟨rfl, rfl, [.cells 63 [(.v (.slice a5 ((Dc.encL v4.sig).length) c5)), (.v (.slice a6 ((Mt.encL v4.metas).length) c6)), (.v (.int .i64 v4.first))]], rfl, ?_⟩
      refine AtIf.mk (fun h15 => ?_) (fun h15 => ?_)
      · replace hr := cond_t h15 hr
        replace hr := Option.some.inj hr
        subst hr
        exact AtRet.gen ⟨[.cells 63 [(.v (.slice a5 ((Dc.encL v4.sig).length) c5)), (.v (.slice a6 ((Mt.encL v4.metas).length) c6)), (.v (.int .i64 v4.first))]], [], [(.slice none 0 0, .sl 3 [])]⟩ (StLe.gen 1 [] [.nil 3] rfl rfl rfl rfl rfl rfl rfl) rfl rfl ⟨none, 0, rfl, rfl⟩
      · replace hr := cond_f h15 hr
        obtain ⟨v16, h17, hr⟩ := bind_some hr
        obtain ⟨h18, h19⟩ := idx_some h17
        refine at_index ttOK 0 rfl rfl rfl rfl h18 (Tm.encL_get h19) ?_
        intro a20 c20 _ _
        obtain ⟨v21, h22, hr⟩ := bind_some hr
        refine (term_Occurs_spec n v16 0 a20 c20 _ h22).atR [5] rfl rfl rfl ?_
        rintro _ _ ⟨rfl, rfl⟩
        refine AtIf.mk (fun h23 => ?_) (fun h23 => ?_)
        · replace hr := cond_t h23 hr
          obtain ⟨v24, h25, hr⟩ := bind_some hr
          obtain ⟨h26, h27⟩ := idx_some h25
          refine at_index ttOK 0 rfl rfl rfl rfl h26 (Tm.encL_get h27) ?_
          intro a28 c28 _ _
          obtain ⟨v29, h30, hr⟩ := bind_some hr
          refine (ih1 n (by omega) v24 (IntKind.i64.wrap (v3 + 1)) v4 a28 c28 a5 c5 a6 c6 _ h30).frameR [0] [6, 1, 2] rfl rfl rfl rfl rfl rfl rfl rfl ?_
          rintro _ _ ⟨a31, c31, rfl, rfl⟩
          refine ⟨rfl, rfl, [.cells 63 [(.v (.slice a5 ((Dc.encL v4.sig).length) c5)), (.v (.slice a6 ((Mt.encL v4.metas).length) c6)), (.v (.int .i64 v4.first))]], rfl, ?_⟩
          obtain ⟨v32, h33, hr⟩ := bind_some hr
          obtain ⟨v35, h36, hr⟩ := bind_some hr
          refine ⟨?_, ?_⟩
          ·
            refine (print_printer_name_spec n v3 v4 a5 c5 a6 c6 _ h33).frameR [0] [1, 2] rfl rfl rfl rfl rfl rfl rfl rfl ?_
            rintro _ _ ⟨rfl, rfl⟩
            refine ⟨rfl, rfl, [.cells 63 [(.v (.slice a5 ((Dc.encL v4.sig).length) c5)), (.v (.slice a6 ((Mt.encL v4.metas).length) c6)), (.v (.int .i64 v4.first))]], rfl, ?_⟩
            refine ⟨fun _ _ h => h, ?_⟩
            refine at_buildG (n := 2) ttOK 48 [.agg [.int .i64 v12.1.op, .str v12.1.name, .sl 3 (Rw.encL v12.1.args)], .agg [.int .i64 v29.1.op, .str v29.1.name, .sl 3 (Rw.encL v29.1.args)]] (ds' := (Rw.encL ([v12.1, v29.1]))) rfl (by kernel_rfl) ⟨⟨rfl, rfl, rfl, ⟨[(.v (.int .i64 v12.1.op))], _, rfl, rfl, ⟨[(.v (.string v12.1.name))], _, rfl, rfl, ⟨[(.v (.slice a14 ((Rw.encL v12.1.args).length) c14))], _, rfl, (.inl ⟨_, rfl, nth_mem (j := 4) rfl⟩), rfl⟩⟩⟩⟩, ⟨⟨rfl, rfl, rfl, ⟨[(.v (.int .i64 v29.1.op))], _, rfl, rfl, ⟨[(.v (.string v29.1.name))], _, rfl, rfl, ⟨[(.v (.slice a31 ((Rw.encL v29.1.args).length) c31))], _, rfl, (.inl ⟨_, rfl, nth_mem (j := 7) rfl⟩), rfl⟩⟩⟩⟩, trivial⟩⟩ rfl (by simp only [Rw.encL_eq, List.map_cons, List.map_nil, Rw.enc_eq] <;> rfl) (by decide) (by decide) ?_
            intro a38
            refine ⟨fun _ _ h => h, ?_⟩
            refine (print_node_spec n 5 v32 ([v12.1, v29.1]) a38 2 _ h36).atR [8] rfl rfl rfl ?_
            rintro _ _ ⟨a39, c39, rfl, rfl⟩
            refine ⟨fun _ _ h => h, ?_⟩
            refine ⟨fun _ _ h => h, ?_⟩
            replace hr := Option.some.inj hr
            subst hr
            exact AtRet.gen ⟨[.cells 63 [(.v (.slice a5 ((Dc.encL v4.sig).length) c5)), (.v (.slice a6 ((Mt.encL v4.metas).length) c6)), (.v (.int .i64 v4.first))]], [], [(.slice a39 ((Rw.encL v35.args).length) c39, .sl 3 (Rw.encL v35.args))]⟩ (StLe.gen 1 [] [.old 9] rfl rfl rfl rfl rfl rfl rfl) rfl rfl ⟨a39, c39, rfl, rfl⟩
          ·
            refine at_buildG (n := 2) ttOK 48 [.agg [.int .i64 v12.1.op, .str v12.1.name, .sl 3 (Rw.encL v12.1.args)], .agg [.int .i64 v29.1.op, .str v29.1.name, .sl 3 (Rw.encL v29.1.args)]] (ds' := (Rw.encL ([v12.1, v29.1]))) rfl (by kernel_rfl) ⟨⟨rfl, rfl, rfl, ⟨[(.v (.int .i64 v12.1.op))], _, rfl, rfl, ⟨[(.v (.string v12.1.name))], _, rfl, rfl, ⟨[(.v (.slice a14 ((Rw.encL v12.1.args).length) c14))], _, rfl, (.inl ⟨_, rfl, nth_mem (j := 4) rfl⟩), rfl⟩⟩⟩⟩, ⟨⟨rfl, rfl, rfl, ⟨[(.v (.int .i64 v29.1.op))], _, rfl, rfl, ⟨[(.v (.string v29.1.name))], _, rfl, rfl, ⟨[(.v (.slice a31 ((Rw.encL v29.1.args).length) c31))], _, rfl, (.inl ⟨_, rfl, nth_mem (j := 7) rfl⟩), rfl⟩⟩⟩⟩, trivial⟩⟩ rfl (by simp only [Rw.encL_eq, List.map_cons, List.map_nil, Rw.enc_eq] <;> rfl) (by decide) (by decide) ?_
            intro a40
            refine ⟨fun _ _ h => h, ?_⟩
            refine (print_printer_name_spec n v3 v4 a5 c5 a6 c6 _ h33).frameR [0] [1, 2] rfl rfl rfl rfl rfl rfl rfl rfl ?_
            rintro _ _ ⟨rfl, rfl⟩
            refine ⟨rfl, rfl, [.cells 63 [(.v (.slice a5 ((Dc.encL v4.sig).length) c5)), (.v (.slice a6 ((Mt.encL v4.metas).length) c6)), (.v (.int .i64 v4.first))]], rfl, ?_⟩
            refine ⟨fun _ _ h => h, ?_⟩
            refine (print_node_spec n 5 v32 ([v12.1, v29.1]) a40 2 _ h36).atR [8] rfl rfl rfl ?_
            rintro _ _ ⟨a41, c41, rfl, rfl⟩
            refine ⟨fun _ _ h => h, ?_⟩
            refine ⟨fun _ _ h => h, ?_⟩
            replace hr := Option.some.inj hr
            subst hr
            exact AtRet.gen ⟨[.cells 63 [(.v (.slice a5 ((Dc.encL v4.sig).length) c5)), (.v (.slice a6 ((Mt.encL v4.metas).length) c6)), (.v (.int .i64 v4.first))]], [], [(.slice a41 ((Rw.encL v35.args).length) c41, .sl 3 (Rw.encL v35.args))]⟩ (StLe.gen 1 [] [.old 9] rfl rfl rfl rfl rfl rfl rfl) rfl rfl ⟨a41, c41, rfl, rfl⟩
        · replace hr := cond_f h23 hr
          obtain ⟨v40, h41, hr⟩ := bind_some hr
          obtain ⟨h42, h43⟩ := idx_some h41
          refine at_index ttOK 0 rfl rfl rfl rfl h42 (Tm.encL_get h43) ?_
          intro a44 c44 _ _
          obtain ⟨v45, h46, hr⟩ := bind_some hr
          refine (term_Moved_spec n v40 (-1) 0 a44 c44 _ h46).atR [6] rfl rfl rfl ?_
          rintro _ _ ⟨a47, c47, rfl, rfl⟩
          obtain ⟨v48, h49, hr⟩ := bind_some hr
          refine (ih1 n (by omega) v45 v3 v4 a47 c47 a5 c5 a6 c6 _ h49).frameR [0] [7, 1, 2] rfl rfl rfl rfl rfl rfl rfl rfl ?_
          rintro _ _ ⟨a50, c50, rfl, rfl⟩
          refine ⟨rfl, rfl, [.cells 63 [(.v (.slice a5 ((Dc.encL v4.sig).length) c5)), (.v (.slice a6 ((Mt.encL v4.metas).length) c6)), (.v (.int .i64 v4.first))]], rfl, ?_⟩
          refine at_buildG (n := 2) ttOK 48 [.agg [.int .i64 v12.1.op, .str v12.1.name, .sl 3 (Rw.encL v12.1.args)], .agg [.int .i64 v48.1.op, .str v48.1.name, .sl 3 (Rw.encL v48.1.args)]] (ds' := (Rw.encL ([v12.1, v48.1]))) rfl (by kernel_rfl) ⟨⟨rfl, rfl, rfl, ⟨[(.v (.int .i64 v12.1.op))], _, rfl, rfl, ⟨[(.v (.string v12.1.name))], _, rfl, rfl, ⟨[(.v (.slice a14 ((Rw.encL v12.1.args).length) c14))], _, rfl, (.inl ⟨_, rfl, nth_mem (j := 4) rfl⟩), rfl⟩⟩⟩⟩, ⟨⟨rfl, rfl, rfl, ⟨[(.v (.int .i64 v48.1.op))], _, rfl, rfl, ⟨[(.v (.string v48.1.name))], _, rfl, rfl, ⟨[(.v (.slice a50 ((Rw.encL v48.1.args).length) c50))], _, rfl, (.inl ⟨_, rfl, nth_mem (j := 8) rfl⟩), rfl⟩⟩⟩⟩, trivial⟩⟩ rfl (by simp only [Rw.encL_eq, List.map_cons, List.map_nil, Rw.enc_eq] <;> rfl) (by decide) (by decide) ?_
          intro a51
          obtain ⟨v52, h53, hr⟩ := bind_some hr
          refine (print_node_spec n 6 (⟨#[]⟩) ([v12.1, v48.1]) a51 2 _ h53).atR [9] rfl rfl rfl ?_
          rintro _ _ ⟨a54, c54, rfl, rfl⟩
          replace hr := Option.some.inj hr
          subst hr
          exact AtRet.gen ⟨[.cells 63 [(.v (.slice a5 ((Dc.encL v4.sig).length) c5)), (.v (.slice a6 ((Mt.encL v4.metas).length) c6)), (.v (.int .i64 v4.first))]], [], [(.slice a54 ((Rw.encL v52.args).length) c54, .sl 3 (Rw.encL v52.args))]⟩ (StLe.gen 1 [] [.old 10] rfl rfl rfl rfl rfl rfl rfl) rfl rfl ⟨a54, c54, rfl, rfl⟩
    ·
      intro n hn v1 v3 v5 v6 a2 c2 a4 c4 a7 c7 a8 c8 r hr
      rcases n with _ | n
      · exact no_some hr
      replace hn : n ≤ N := by omega
      rw [print_fold_print_printer_raw_1.eq_2] at hr
      refine spec_of_body (N := 32) (m := 3) (dt := fun _ => none) [] ttOK Tryz.func54 rfl Tryz.call54 Tryz.ntmps54 rfl rfl rfl mixed (by kernel_rfl) ?_
      refine AtLoop.mk ⟨Nat × Rw × Option Addr × Nat × Int, fun x => [(2, (.fn (.func 55) [] [(.loc 0 0), (.loc 1 0)])), (3, (.loc 3 0)), (6, (.loc 4 0)), (12, (.v (.slice a4 ((Tm.encL v3).length) c4))), (13, (.v (.int .i64 ((Tm.encL v3).length : Int)))), (14, (.v (.int .i64 x.2.2.2.2)))], fun x => ⟨[.cells 61 [(.loc 2 0)], .cells 3 [(.v (.int .i64 v5))], .cells 63 [(.v (.slice a7 ((Dc.encL v6.sig).length) c7)), (.v (.slice a8 ((Mt.encL v6.metas).length) c8)), (.v (.int .i64 v6.first))], .cells 31 [(.v (.int .i64 x.2.1.op)), (.v (.string x.2.1.name)), (.v (.slice x.2.2.1 ((Rw.encL x.2.1.args).length) x.2.2.2.1))], .cells 31 [(.v (.int .i64 0)), (.v (.string ByteArray.empty)), (.v (.slice none 0 0))]], [], [(.slice x.2.2.1 ((Rw.encL x.2.1.args).length) x.2.2.2.1, .sl 3 (Rw.encL x.2.1.args)), (.slice a2 ((Rw.encL v1.args).length) c2, .sl 3 (Rw.encL v1.args)), (.slice a4 ((Tm.encL v3).length) c4, .sl 4 (Tm.encL v3)), (.slice a7 ((Dc.encL v6.sig).length) c7, .sl 6 (Dc.encL v6.sig)), (.slice a8 ((Mt.encL v6.metas).length) c8, .sl 10 (Mt.encL v6.metas))]⟩, fun x => x.1 ≤ N ∧ print_fold_print_printer_raw_1_L1 x.1 v3 v5 v6 x.2.1 x.2.2.2.2 = some r, fun x => x.1, (n, v1, a2, c2, 0), ⟨by omega, hr⟩, ⟨rfl, rfl, rfl, rfl, rfl, rfl, trivial⟩, (StLe.gen 5 [] [.old 0, .old 0, .old 1, .old 2, .old 3] rfl rfl rfl rfl rfl rfl rfl), fun x _ => ⟨rfl, rfl⟩, ?_⟩
      rintro ⟨n, v19, a20, c20, v21⟩ HH
      obtain ⟨hn, hr⟩ : n ≤ N ∧ print_fold_print_printer_raw_1_L1 n v3 v5 v6 v19 v21 = some r := HH
      rcases n with _ | n
      · exact no_some hr
      rw [print_fold_print_printer_raw_1_L1.eq_2] at hr
      refine AtIf.mk (fun h22 => ?_) (fun h22 => ?_)
      · replace hr := cond_t h22 hr
        obtain ⟨v23, h24, hr⟩ := bind_some hr
        obtain ⟨h25, h26⟩ := idx_some h24
        refine at_index ttOK 2 rfl rfl rfl rfl h25 (Tm.encL_get h26) ?_
        intro a27 c27 _ _
        obtain ⟨v28, h29, hr⟩ := bind_some hr
        refine (ih4 n (by omega) v19 v23 v5 v6 a20 c20 a27 c27 a7 c7 a8 c8 _ h29).frameR [0, 1, 2] [0, 5, 3, 4] rfl rfl rfl rfl rfl rfl rfl rfl ?_
        rintro _ _ ⟨a30, c30, rfl, rfl⟩
        refine ⟨rfl, rfl, [.cells 61 [(.loc 2 0)], .cells 3 [(.v (.int .i64 v5))], .cells 63 [(.v (.slice a7 ((Dc.encL v6.sig).length) c7)), (.v (.slice a8 ((Mt.encL v6.metas).length) c8)), (.v (.int .i64 v6.first))]], rfl, ?_⟩
        refine AtIf.mk (fun h31 => ?_) (fun h31 => ?_)
        · replace hr := cond_t h31 hr
          replace hr := Option.some.inj hr
          subst hr
          exact AtRet.gen ⟨[.cells 61 [(.loc 2 0)], .cells 3 [(.v (.int .i64 v5))], .cells 63 [(.v (.slice a7 ((Dc.encL v6.sig).length) c7)), (.v (.slice a8 ((Mt.encL v6.metas).length) c8)), (.v (.int .i64 v6.first))]], [], [(.slice a20 ((Rw.encL v19.args).length) c20, .sl 3 (Rw.encL v19.args))]⟩ (StLe.gen 3 [] [.old 0] rfl rfl rfl rfl rfl rfl rfl) rfl rfl ⟨a20, c20, rfl, rfl⟩
        · replace hr := cond_f h31 hr
          exact ⟨(n, v28.1, a30, c30, (IntKind.i64.wrap (v21 + 1))), ⟨by omega, hr⟩, Nat.lt_succ_self _, ⟨rfl, rfl, rfl, rfl, rfl, rfl, trivial⟩, (StLe.gen 5 [] [.old 6, .old 1, .old 2, .old 3, .old 4] rfl rfl rfl rfl rfl rfl rfl)⟩
      · replace hr := cond_f h22 hr
        replace hr := Option.some.inj hr
        subst hr
        exact AtRet.gen ⟨[.cells 61 [(.loc 2 0)], .cells 3 [(.v (.int .i64 v5))], .cells 63 [(.v (.slice a7 ((Dc.encL v6.sig).length) c7)), (.v (.slice a8 ((Mt.encL v6.metas).length) c8)), (.v (.int .i64 v6.first))]], [], [(.slice a20 ((Rw.encL v19.args).length) c20, .sl 3 (Rw.encL v19.args))]⟩ (StLe.gen 3 [] [.old 0] rfl rfl rfl rfl rfl rfl rfl) rfl rfl ⟨a20, c20, rfl, rfl⟩
    ·
      intro n hn v1 v3 v5 v6 a2 c2 a4 c4 a7 c7 a8 c8 r hr
      rcases n with _ | n
      · exact no_some hr
      replace hn : n ≤ N := by omega
      rw [print_printer_raw_1.eq_2] at hr
      refine spec_of_body (N := 22) (m := 3) (dt := fun _ => none) [] ttOK Tryz.func55 rfl Tryz.call55 Tryz.ntmps55 rfl rfl rfl mixed (by kernel_rfl) ?_
      obtain ⟨v9, h10, hr⟩ := bind_some hr
      refine (ih1 n (by omega) v3 v5 v6 a4 c4 a7 c7 a8 c8 _ h10).frameR [2] [1, 2, 3] rfl rfl rfl rfl rfl rfl rfl rfl ?_
      rintro _ _ ⟨a11, c11, rfl, rfl⟩
      refine ⟨rfl, rfl, [.cells 63 [(.v (.slice a7 ((Dc.encL v6.sig).length) c7)), (.v (.slice a8 ((Mt.encL v6.metas).length) c8)), (.v (.int .i64 v6.first))]], rfl, ?_⟩
      refine at_buildG (n := 2) ttOK 48 [.agg [.int .i64 v1.op, .str v1.name, .sl 3 (Rw.encL v1.args)], .agg [.int .i64 v9.1.op, .str v9.1.name, .sl 3 (Rw.encL v9.1.args)]] (ds' := (Rw.encL ([v1, v9.1]))) rfl (by kernel_rfl) ⟨⟨rfl, rfl, rfl, ⟨[(.v (.int .i64 v1.op))], _, rfl, rfl, ⟨[(.v (.string v1.name))], _, rfl, rfl, ⟨[(.v (.slice a2 ((Rw.encL v1.args).length) c2))], _, rfl, (.inl ⟨_, rfl, nth_mem (j := 0) rfl⟩), rfl⟩⟩⟩⟩, ⟨⟨rfl, rfl, rfl, ⟨[(.v (.int .i64 v9.1.op))], _, rfl, rfl, ⟨[(.v (.string v9.1.name))], _, rfl, rfl, ⟨[(.v (.slice a11 ((Rw.encL v9.1.args).length) c11))], _, rfl, (.inl ⟨_, rfl, nth_mem (j := 4) rfl⟩), rfl⟩⟩⟩⟩, trivial⟩⟩ rfl (by simp only [Rw.encL_eq, List.map_cons, List.map_nil, Rw.enc_eq] <;> rfl) (by decide) (by decide) ?_
      intro a12
      obtain ⟨v13, h14, hr⟩ := bind_some hr
      refine (print_node_spec n 4 (⟨#[]⟩) ([v1, v9.1]) a12 2 _ h14).atR [5] rfl rfl rfl ?_
      rintro _ _ ⟨a15, c15, rfl, rfl⟩
      replace hr := Option.some.inj hr
      subst hr
      exact AtRet.gen ⟨[.cells 61 [(.loc 2 0)], .cells 3 [(.v (.int .i64 v5))], .cells 63 [(.v (.slice a7 ((Dc.encL v6.sig).length) c7)), (.v (.slice a8 ((Mt.encL v6.metas).length) c8)), (.v (.int .i64 v6.first))]], [], [(.slice a15 ((Rw.encL v13.args).length) c15, .sl 3 (Rw.encL v13.args))]⟩ (StLe.gen 3 [] [.old 6] rfl rfl rfl rfl rfl rfl rfl) rfl rfl ⟨a15, c15, rfl, rfl⟩
theorem print_printer_raw_spec (n : Nat) (v1 : Tm) (v3 : Int) (v4 : Prt) (a2 : Option Addr) (c2 : Nat) (a5 : Option Addr) (c5 : Nat) (a6 : Option Addr) (c6 : Nat) (r : Rw × Int) (hr : print_printer_raw n v1 v3 v4 = some r) : Meets Tryz.prog (.val (.fn (.func 26) [] [])) [(.loc 0 0), (.agg [(.v (.int .i64 v1.op)), (.v (.int .i64 v1.hd)), (.v (.int .i64 v1.n)), (.v (.slice a2 ((Tm.encL v1.args).length) c2))]), (.v (.int .i64 v3))] ⟨[.cells 63 [(.v (.slice a5 ((Dc.encL v4.sig).length) c5)), (.v (.slice a6 ((Mt.encL v4.metas).length) c6)), (.v (.int .i64 v4.first))]], [], [(.slice a2 ((Tm.encL v1.args).length) c2, .sl 4 (Tm.encL v1.args)), (.slice a5 ((Dc.encL v4.sig).length) c5, .sl 6 (Dc.encL v4.sig)), (.slice a6 ((Mt.encL v4.metas).length) c6, .sl 10 (Mt.encL v4.metas))]⟩ (fun o S' => ∃ (b1 : Option Addr) (d1 : Nat), o = .ret (.tup [(.agg [(.v (.int .i64 r.1.op)), (.v (.string r.1.name)), (.v (.slice b1 ((Rw.encL r.1.args).length) d1))]), (.v (.int .i64 r.2))]) ∧ S' = ⟨[.cells 63 [(.v (.slice a5 ((Dc.encL v4.sig).length) c5)), (.v (.slice a6 ((Mt.encL v4.metas).length) c6)), (.v (.int .i64 v4.first))]], [], [(.slice b1 ((Rw.encL r.1.args).length) d1, .sl 3 (Rw.encL r.1.args))]⟩) := (print_printer_raw_specN n).1 n (Nat.le_refl _) v1 v3 v4 a2 c2 a5 c5 a6 c6 r hr
def print_Raw : Nat → (List Dc) → (List Mt) → Int → Tm → Option (Rw × Int)
  | 0, _, _, _, _ => none
  | n + 1, v1, v3, v5, v6 =>
    (print_good n v1 v3 ([v6])).bind (fun v9 =>
    cond (((!v9) || (decide (v5 < 0))) || (decide (v5 > 30))) (
    some ((Rw.mk 0 ByteArray.empty ([])), 2)) (
    (print_printer_scoped n v6 v5 (Prt.mk v1 v3 0)).bind (fun v12 =>
    cond (v12 != 0) (
    some ((Rw.mk 0 ByteArray.empty ([])), v12)) (
    (print_printer_raw n v6 v5 (Prt.mk v1 v3 0)).bind (fun v15 =>
    (print_kept n v15.1 v15.2).bind (fun v18 =>
    some (v18.1, v18.2)))))))
theorem print_Raw_spec (n : Nat) (v1 : (List Dc)) (v3 : (List Mt)) (v5 : Int) (v6 : Tm) (a2 : Option Addr) (c2 : Nat) (a4 : Option Addr) (c4 : Nat) (a7 : Option Addr) (c7 : Nat) (r : Rw × Int) (hr : print_Raw n v1 v3 v5 v6 = some r) : Pure Tryz.prog (.val (.fn (.func 6) [] [])) [(.v (.slice a2 ((Dc.encL v1).length) c2)), (.v (.slice a4 ((Mt.encL v3).length) c4)), (.v (.int .i64 v5)), (.agg [(.v (.int .i64 v6.op)), (.v (.int .i64 v6.hd)), (.v (.int .i64 v6.n)), (.v (.slice a7 ((Tm.encL v6.args).length) c7))])] [(.slice a2 ((Dc.encL v1).length) c2, .sl 6 (Dc.encL v1)), (.slice a4 ((Mt.encL v3).length) c4, .sl 10 (Mt.encL v3)), (.slice a7 ((Tm.encL v6.args).length) c7, .sl 4 (Tm.encL v6.args))] (fun r' out => ∃ (b1 : Option Addr) (d1 : Nat), r' = (.tup [(.agg [(.v (.int .i64 r.1.op)), (.v (.string r.1.name)), (.v (.slice b1 ((Rw.encL r.1.args).length) d1))]), (.v (.int .i64 r.2))]) ∧ out = [(.slice b1 ((Rw.encL r.1.args).length) d1, .sl 3 (Rw.encL r.1.args))]) := by
  rcases n with _ | n
  · exact no_some hr
  rw [print_Raw.eq_2] at hr
  refine spec_of_body (N := 48) (m := 0) (dt := fun _ => none) [] ttOK Tryz.func6 rfl Tryz.call6 Tryz.ntmps6 rfl rfl rfl mixed (by kernel_rfl) ?_
  refine at_buildG (n := 1) ttOK 48 [.agg [.int .i64 v6.op, .int .i64 v6.hd, .int .i64 v6.n, .sl 4 (Tm.encL v6.args)]] (ds' := (Tm.encL ([v6]))) rfl (by kernel_rfl) ⟨⟨rfl, rfl, rfl, ⟨[(.v (.int .i64 v6.op))], _, rfl, rfl, ⟨[(.v (.int .i64 v6.hd))], _, rfl, rfl, ⟨[(.v (.int .i64 v6.n))], _, rfl, rfl, ⟨[(.v (.slice a7 ((Tm.encL v6.args).length) c7))], _, rfl, (.inl ⟨_, rfl, nth_mem (j := 2) rfl⟩), rfl⟩⟩⟩⟩⟩, trivial⟩ rfl (by simp only [Tm.encL_eq, List.map_cons, List.map_nil, Tm.enc_eq] <;> rfl) (by decide) (by decide) ?_
  intro a8
  obtain ⟨v9, h10, hr⟩ := bind_some hr
  refine (print_good_spec n v1 v3 ([v6]) a2 c2 a4 c4 a8 1 _ h10).atR [0, 1, 3] rfl rfl rfl ?_
  rintro _ _ ⟨rfl, rfl⟩
  refine AtIf.mk (fun h11 => ?_) (fun h11 => ?_)
  · replace hr := cond_t h11 hr
    replace hr := Option.some.inj hr
    subst hr
    exact AtRet.pureG [.nil 3] [(.slice none 0 0, .sl 3 [])] rfl rfl ⟨none, 0, rfl, rfl⟩
  · replace hr := cond_f h11 hr
    obtain ⟨v12, h13, hr⟩ := bind_some hr
    refine (print_printer_scoped_spec n v6 v5 (Prt.mk v1 v3 0) a7 c7 a2 c2 a4 c4 _ h13).frameR [2] [2, 0, 1] rfl rfl rfl rfl rfl rfl rfl rfl ?_
    rintro _ _ ⟨rfl, rfl⟩
    refine ⟨rfl, rfl, [.cells 63 [(.v (.slice a2 ((Dc.encL v1).length) c2)), (.v (.slice a4 ((Mt.encL v3).length) c4)), (.v (.int .i64 0))]], rfl, ?_⟩
    refine AtIf.mk (fun h14 => ?_) (fun h14 => ?_)
    · replace hr := cond_t h14 hr
      replace hr := Option.some.inj hr
      subst hr
      exact AtRet.pureG [.nil 3] [(.slice none 0 0, .sl 3 [])] rfl rfl ⟨none, 0, rfl, rfl⟩
    · replace hr := cond_f h14 hr
      obtain ⟨v15, h16, hr⟩ := bind_some hr
      refine (print_printer_raw_spec n v6 v5 (Prt.mk v1 v3 0) a7 c7 a2 c2 a4 c4 _ h16).frameR [2] [2, 0, 1] rfl rfl rfl rfl rfl rfl rfl rfl ?_
      rintro _ _ ⟨a17, c17, rfl, rfl⟩
      refine ⟨rfl, rfl, [.cells 63 [(.v (.slice a2 ((Dc.encL v1).length) c2)), (.v (.slice a4 ((Mt.encL v3).length) c4)), (.v (.int .i64 0))]], rfl, ?_⟩
      obtain ⟨v18, h19, hr⟩ := bind_some hr
      refine (print_kept_spec n v15.1 v15.2 a17 c17 _ h19).atR [4] rfl rfl rfl ?_
      rintro _ _ ⟨a20, c20, rfl, rfl⟩
      replace hr := Option.some.inj hr
      subst hr
      exact AtRet.pureG [.old 5] [(.slice a20 ((Rw.encL v18.1.args).length) c20, .sl 3 (Rw.encL v18.1.args))] rfl rfl ⟨a20, c20, rfl, rfl⟩
def print_Text : Nat → (List Dc) → (List Mt) → Int → Tm → Option (ByteArray × Int)
  | 0, _, _, _, _ => none
  | n + 1, v1, v3, v5, v6 =>
    (print_Raw n v1 v3 v5 v6).bind (fun v8 =>
    cond (v8.2 != 0) (
    some (⟨#[]⟩, v8.2)) (
    (syntax_Text n v8.1).bind (fun v12 =>
    some (v12.1, v12.2))))
theorem print_Text_spec (n : Nat) (v1 : (List Dc)) (v3 : (List Mt)) (v5 : Int) (v6 : Tm) (a2 : Option Addr) (c2 : Nat) (a4 : Option Addr) (c4 : Nat) (a7 : Option Addr) (c7 : Nat) (r : ByteArray × Int) (hr : print_Text n v1 v3 v5 v6 = some r) : Pure Tryz.prog (.val (.fn (.func 7) [] [])) [(.v (.slice a2 ((Dc.encL v1).length) c2)), (.v (.slice a4 ((Mt.encL v3).length) c4)), (.v (.int .i64 v5)), (.agg [(.v (.int .i64 v6.op)), (.v (.int .i64 v6.hd)), (.v (.int .i64 v6.n)), (.v (.slice a7 ((Tm.encL v6.args).length) c7))])] [(.slice a2 ((Dc.encL v1).length) c2, .sl 6 (Dc.encL v1)), (.slice a4 ((Mt.encL v3).length) c4, .sl 10 (Mt.encL v3)), (.slice a7 ((Tm.encL v6.args).length) c7, .sl 4 (Tm.encL v6.args))] (fun r' out => r' = (.tup [(.v (.string r.1)), (.v (.int .i64 r.2))]) ∧ out = []) := by
  rcases n with _ | n
  · exact no_some hr
  rw [print_Text.eq_2] at hr
  refine spec_of_body (N := 27) (m := 0) (dt := fun _ => none) [] ttOK Tryz.func7 rfl Tryz.call7 Tryz.ntmps7 rfl rfl rfl mixed (by kernel_rfl) ?_
  obtain ⟨v8, h9, hr⟩ := bind_some hr
  refine (print_Raw_spec n v1 v3 v5 v6 a2 c2 a4 c4 a7 c7 _ h9).atR [0, 1, 2] rfl rfl rfl ?_
  rintro _ _ ⟨a10, c10, rfl, rfl⟩
  refine AtIf.mk (fun h11 => ?_) (fun h11 => ?_)
  · replace hr := cond_t h11 hr
    replace hr := Option.some.inj hr
    subst hr
    exact AtRet.pureG [] [] rfl rfl ⟨rfl, rfl⟩
  · replace hr := cond_f h11 hr
    obtain ⟨v12, h13, hr⟩ := bind_some hr
    refine (syntax_Text_spec n v8.1 a10 c10 _ h13).atR [3] rfl rfl rfl ?_
    rintro _ _ ⟨rfl, rfl⟩
    replace hr := Option.some.inj hr
    subst hr
    exact AtRet.pureG [] [] rfl rfl ⟨rfl, rfl⟩
def R07_Printer_scoped : Nat → Rpr → Int → Tm → Option (Bool)
  | 0, _, _, _ => none
  | n + 1, v1, v5, v6 =>
    (R03_Constants n v6).bind (fun v8 =>
    (R03_Metas n v6).bind (fun v11 =>
    (R03_Free n v6).bind (fun v14 =>
    cond (((List.map (D.int .i64) v8).length : Int) == 0) (
    cond (((List.map (D.int .i64) v11).length : Int) == 0) (
    cond (((List.map (D.int .i64) v14).length : Int) == 0) (
    some (true)) (
    (idx v14 (IntKind.i64.wrap (((List.map (D.int .i64) v14).length : Int) - 1))).bind (fun v51 =>
    some ((decide (v51 < v5)))))) (
    (idx v11 (IntKind.i64.wrap (((List.map (D.int .i64) v11).length : Int) - 1))).bind (fun v40 =>
    cond (decide (v40 < ((Mt.encL v1.metas).length : Int))) (
    cond (((List.map (D.int .i64) v14).length : Int) == 0) (
    some (true)) (
    (idx v14 (IntKind.i64.wrap (((List.map (D.int .i64) v14).length : Int) - 1))).bind (fun v46 =>
    some ((decide (v46 < v5)))))) (
    some (false))))) (
    (idx v8 (IntKind.i64.wrap (((List.map (D.int .i64) v8).length : Int) - 1))).bind (fun v18 =>
    cond (decide (v18 < ((Dc.encL v1.sig).length : Int))) (
    cond (((List.map (D.int .i64) v11).length : Int) == 0) (
    cond (((List.map (D.int .i64) v14).length : Int) == 0) (
    some (true)) (
    (idx v14 (IntKind.i64.wrap (((List.map (D.int .i64) v14).length : Int) - 1))).bind (fun v35 =>
    some ((decide (v35 < v5)))))) (
    (idx v11 (IntKind.i64.wrap (((List.map (D.int .i64) v11).length : Int) - 1))).bind (fun v24 =>
    cond (decide (v24 < ((Mt.encL v1.metas).length : Int))) (
    cond (((List.map (D.int .i64) v14).length : Int) == 0) (
    some (true)) (
    (idx v14 (IntKind.i64.wrap (((List.map (D.int .i64) v14).length : Int) - 1))).bind (fun v30 =>
    some ((decide (v30 < v5)))))) (
    some (false))))) (
    some (false)))))))
mutual
def R07_Printer_full : Nat → Rpr → Tm → Option (Bool)
  | 0, _, _ => none
  | n + 1, v1, v5 =>
    cond ((v5.op == 4) && (v5.hd == 2)) (
    (idx v1.sig v5.n).bind (fun v8 =>
    cond (decide (((Tm.encL v5.args).length : Int) < v8.implicit)) (
    some (false)) (
    R07_Printer_full_L1 n v5 v1 0))) (
    R07_Printer_full_L1 n v5 v1 0)
def R07_Printer_full_L1 : Nat → Tm → Rpr → Int → Option (Bool)
  | 0, _, _, _ => none
  | n + 1, v5, v1, v23 =>
    cond (decide (v23 < ((Tm.encL v5.args).length : Int))) (
    (idx v5.args v23).bind (fun v25 =>
    (R07_Printer_full n v1 v25).bind (fun v30 =>
    cond (!v30) (
    some (false)) (
    R07_Printer_full_L1 n v5 v1 (IntKind.i64.wrap (v23 + 1)))))) (
    some (true))
 end
def R07_lowered : Nat → Tm → Option (Tm)
  | 0, _ => none
  | n + 1, v1 =>
    some (((shiftF v1 (-1) 0).1))
mutual
def R07_Printer_variable : Nat → Rpr → Int → Option (ByteArray)
  | 0, _, _ => none
  | n + 1, v1, v5 =>
    cond (decide (v5 < ((List.map D.str v1.names).length : Int))) (
    (idx v1.names v5).bind (fun v7 =>
    some (v7))) (
    cond (decide ((0 : Int) ≤ (IntKind.i64.wrap (v5 + 1)) ∧ ((IntKind.i64.wrap (v5 + 1)) : Int) ≤ 99)) (
    cond (decide ((⟨#[120]⟩ : ByteArray).size + (itoaF (IntKind.i64.wrap (v5 + 1))).size ≤ 1000000)) (
    R07_Printer_variable_L1 n v1 ((⟨#[120]⟩ : ByteArray) ++ (itoaF (IntKind.i64.wrap (v5 + 1))))) none) none)
def R07_Printer_variable_L1 : Nat → Rpr → ByteArray → Option (ByteArray)
  | 0, _, _ => none
  | n + 1, v1, v17 =>
    (R05_Find n v1.sig v17).bind (fun v18 =>
    cond (decide (v18 ≥ 0)) (
    cond (decide (v17.size + (⟨#[39]⟩ : ByteArray).size ≤ 1000000)) (
    R07_Printer_variable_L1 n v1 (v17 ++ (⟨#[39]⟩ : ByteArray))) none) (
    some (v17)))
 end
def R07_Printer_head : Nat → Rpr → Int → Tm → Option (ByteArray)
  | 0, _, _, _ => none
  | n + 1, v1, v5, v6 =>
    cond (v6.hd == 1) (
    (R07_Printer_variable n v1 (IntKind.i64.wrap ((IntKind.i64.wrap (v5 - 1)) - v6.n))).bind (fun v9 =>
    some (v9))) (
    cond (v6.hd == 2) (
    (idx v1.sig v6.n).bind (fun v12 =>
    some (v12.name))) (
    (idx v1.metas v6.n).bind (fun v17 =>
    cond (!(v17.name.toList == (⟨#[]⟩ : ByteArray).toList)) (
    (idx v1.metas v6.n).bind (fun v24 =>
    some (v24.name))) (
    cond (decide ((0 : Int) ≤ v6.n ∧ (v6.n : Int) ≤ 99)) (
    cond (decide ((⟨#[77]⟩ : ByteArray).size + (itoaF v6.n).size ≤ 1000000)) (
    some (((⟨#[77]⟩ : ByteArray) ++ (itoaF v6.n)))) none) none))))
mutual
def R07_Printer_raw : Nat → Rpr → Int → Tm → Option (Rw)
  | 0, _, _, _ => none
  | n + 1, v1, v5, v6 =>
    cond (v6.op == 1) (
    some ((Rw.mk 1 ByteArray.empty ([])))) (
    cond (v6.op == 2) (
    (idx v6.args 0).bind (fun v10 =>
    (R07_Printer_raw n v1 v5 v10).bind (fun v15 =>
    (idx v6.args 1).bind (fun v20 =>
    (R03_Occurs n v20 0).bind (fun v25 =>
    cond (!v25) (
    (idx v6.args 1).bind (fun v28 =>
    (R07_lowered n v28).bind (fun v33 =>
    (R07_Printer_raw n v1 v5 v33).bind (fun v36 =>
    some ((Rw.mk 6 ByteArray.empty ([v15, v36]))))))) (
    (idx v6.args 1).bind (fun v40 =>
    (R07_Printer_variable n v1 v5).bind (fun v45 =>
    (R07_Printer_raw n v1 (IntKind.i64.wrap (v5 + 1)) v40).bind (fun v47 =>
    some ((Rw.mk 5 v45 ([v15, v47])))))))))))) (
    cond (v6.op == 3) (
    (idx v6.args 0).bind (fun v52 =>
    (R07_Printer_variable n v1 v5).bind (fun v57 =>
    (R07_Printer_raw n v1 (IntKind.i64.wrap (v5 + 1)) v52).bind (fun v59 =>
    some ((Rw.mk 7 v57 ([(Rw.mk 3 ByteArray.empty ([])), v59]))))))) (
    (R07_Printer_head n v1 v5 v6).bind (fun v63 =>
    cond (v6.hd == 2) (
    (idx v1.sig v6.n).bind (fun v66 =>
    R07_Printer_raw_L1 n v6 v1 v5 (Rw.mk 2 v63 ([])) v66.implicit)) (
    R07_Printer_raw_L1 n v6 v1 v5 (Rw.mk 2 v63 ([])) 0)))))
def R07_Printer_raw_L1 : Nat → Tm → Rpr → Int → Rw → Int → Option (Rw)
  | 0, _, _, _, _, _ => none
  | n + 1, v6, v1, v5, v81, v83 =>
    cond (decide (v83 < ((Tm.encL v6.args).length : Int))) (
    (idx v6.args v83).bind (fun v85 =>
    (R07_Printer_raw n v1 v5 v85).bind (fun v90 =>
    R07_Printer_raw_L1 n v6 v1 v5 (Rw.mk 4 ByteArray.empty ([v81, v90])) (IntKind.i64.wrap (v83 + 1))))) (
    some (v81))
 end
def R07_Printer_Raw : Nat → Rpr → Int → Tm → Option (Rw × Int)
  | 0, _, _, _ => none
  | n + 1, v1, v5, v6 =>
    (R07_Printer_scoped n v1 v5 v6).bind (fun v8 =>
    cond (!v8) (
    some ((Rw.mk 0 ByteArray.empty ([])), 27)) (
    (R07_Printer_full n v1 v6).bind (fun v11 =>
    cond (!v11) (
    some ((Rw.mk 0 ByteArray.empty ([])), 23)) (
    (R07_Printer_raw n v1 v5 v6).bind (fun v14 =>
    cond (!(rawOK v14)) (
    some ((Rw.mk 0 ByteArray.empty ([])), 5)) (
    some (v14, 0)))))))
def W07_vr : Nat → Int → (List Tm) → Option (Tm)
  | 0, _, _ => none
  | n + 1, v1, v2 =>
    some ((Tm.mk 4 1 v1 v2))
theorem W07_vr_spec (n : Nat) (v1 : Int) (v2 : (List Tm)) (a3 : Option Addr) (c3 : Nat) (r : Tm) (hr : W07_vr n v1 v2 = some r) : Pure Tryz.prog (.val (.fn (.func 12) [] [])) [(.v (.int .i64 v1)), (.v (.slice a3 ((Tm.encL v2).length) c3))] [(.slice a3 ((Tm.encL v2).length) c3, .sl 4 (Tm.encL v2))] (fun r' out => ∃ (b1 : Option Addr) (d1 : Nat), r' = (.agg [(.v (.int .i64 r.op)), (.v (.int .i64 r.hd)), (.v (.int .i64 r.n)), (.v (.slice b1 ((Tm.encL r.args).length) d1))]) ∧ out = [(.slice b1 ((Tm.encL r.args).length) d1, .sl 4 (Tm.encL r.args))]) := by
  rcases n with _ | n
  · exact no_some hr
  rw [W07_vr.eq_2] at hr
  refine spec_of_body (N := 8) (m := 0) (dt := fun _ => none) [] ttOK Tryz.func12 rfl Tryz.call12 Tryz.ntmps12 rfl rfl rfl mixed (by kernel_rfl) ?_
  replace hr := Option.some.inj hr
  subst hr
  exact AtRet.pureG [.old 0] [(.slice a3 ((Tm.encL v2).length) c3, .sl 4 (Tm.encL v2))] rfl rfl ⟨a3, c3, rfl, rfl⟩
def W07_pi : Nat → Tm → Tm → Option (Tm)
  | 0, _, _ => none
  | n + 1, v1, v3 =>
    some ((Tm.mk 2 0 0 ([v1, v3])))
theorem W07_pi_spec (n : Nat) (v1 : Tm) (v3 : Tm) (a2 : Option Addr) (c2 : Nat) (a4 : Option Addr) (c4 : Nat) (r : Tm) (hr : W07_pi n v1 v3 = some r) : Pure Tryz.prog (.val (.fn (.func 28) [] [])) [(.agg [(.v (.int .i64 v1.op)), (.v (.int .i64 v1.hd)), (.v (.int .i64 v1.n)), (.v (.slice a2 ((Tm.encL v1.args).length) c2))]), (.agg [(.v (.int .i64 v3.op)), (.v (.int .i64 v3.hd)), (.v (.int .i64 v3.n)), (.v (.slice a4 ((Tm.encL v3.args).length) c4))])] [(.slice a2 ((Tm.encL v1.args).length) c2, .sl 4 (Tm.encL v1.args)), (.slice a4 ((Tm.encL v3.args).length) c4, .sl 4 (Tm.encL v3.args))] (fun r' out => ∃ (b1 : Option Addr) (d1 : Nat), r' = (.agg [(.v (.int .i64 r.op)), (.v (.int .i64 r.hd)), (.v (.int .i64 r.n)), (.v (.slice b1 ((Tm.encL r.args).length) d1))]) ∧ out = [(.slice b1 ((Tm.encL r.args).length) d1, .sl 4 (Tm.encL r.args))]) := by
  rcases n with _ | n
  · exact no_some hr
  rw [W07_pi.eq_2] at hr
  refine spec_of_body (N := 9) (m := 0) (dt := fun _ => none) [] ttOK Tryz.func28 rfl Tryz.call28 Tryz.ntmps28 rfl rfl rfl mixed (by kernel_rfl) ?_
  refine at_buildG (n := 2) ttOK 48 [.agg [.int .i64 v1.op, .int .i64 v1.hd, .int .i64 v1.n, .sl 4 (Tm.encL v1.args)], .agg [.int .i64 v3.op, .int .i64 v3.hd, .int .i64 v3.n, .sl 4 (Tm.encL v3.args)]] (ds' := (Tm.encL ([v1, v3]))) rfl (by kernel_rfl) ⟨⟨rfl, rfl, rfl, ⟨[(.v (.int .i64 v1.op))], _, rfl, rfl, ⟨[(.v (.int .i64 v1.hd))], _, rfl, rfl, ⟨[(.v (.int .i64 v1.n))], _, rfl, rfl, ⟨[(.v (.slice a2 ((Tm.encL v1.args).length) c2))], _, rfl, (.inl ⟨_, rfl, nth_mem (j := 0) rfl⟩), rfl⟩⟩⟩⟩⟩, ⟨⟨rfl, rfl, rfl, ⟨[(.v (.int .i64 v3.op))], _, rfl, rfl, ⟨[(.v (.int .i64 v3.hd))], _, rfl, rfl, ⟨[(.v (.int .i64 v3.n))], _, rfl, rfl, ⟨[(.v (.slice a4 ((Tm.encL v3.args).length) c4))], _, rfl, (.inl ⟨_, rfl, nth_mem (j := 1) rfl⟩), rfl⟩⟩⟩⟩⟩, trivial⟩⟩ rfl (by simp only [Tm.encL_eq, List.map_cons, List.map_nil, Tm.enc_eq] <;> rfl) (by decide) (by decide) ?_
  intro a5
  replace hr := Option.some.inj hr
  subst hr
  exact AtRet.pureG [.old 2] [(.slice a5 ((Tm.encL ([v1, v3])).length) 2, .sl 4 (Tm.encL ([v1, v3])))] rfl rfl ⟨a5, 2, rfl, rfl⟩
def W07_con : Nat → Int → (List Tm) → Option (Tm)
  | 0, _, _ => none
  | n + 1, v1, v2 =>
    some ((Tm.mk 4 2 v1 v2))
theorem W07_con_spec (n : Nat) (v1 : Int) (v2 : (List Tm)) (a3 : Option Addr) (c3 : Nat) (r : Tm) (hr : W07_con n v1 v2 = some r) : Pure Tryz.prog (.val (.fn (.func 29) [] [])) [(.v (.int .i64 v1)), (.v (.slice a3 ((Tm.encL v2).length) c3))] [(.slice a3 ((Tm.encL v2).length) c3, .sl 4 (Tm.encL v2))] (fun r' out => ∃ (b1 : Option Addr) (d1 : Nat), r' = (.agg [(.v (.int .i64 r.op)), (.v (.int .i64 r.hd)), (.v (.int .i64 r.n)), (.v (.slice b1 ((Tm.encL r.args).length) d1))]) ∧ out = [(.slice b1 ((Tm.encL r.args).length) d1, .sl 4 (Tm.encL r.args))]) := by
  rcases n with _ | n
  · exact no_some hr
  rw [W07_con.eq_2] at hr
  refine spec_of_body (N := 8) (m := 0) (dt := fun _ => none) [] ttOK Tryz.func29 rfl Tryz.call29 Tryz.ntmps29 rfl rfl rfl mixed (by kernel_rfl) ?_
  replace hr := Option.some.inj hr
  subst hr
  exact AtRet.pureG [.old 0] [(.slice a3 ((Tm.encL v2).length) c3, .sl 4 (Tm.encL v2))] rfl rfl ⟨a3, c3, rfl, rfl⟩
mutual
def print_Decl : Nat → (List Dc) → Int → Option (It × Int)
  | 0, _, _ => none
  | n + 1, v1, v3 =>
    (sign_Check n v1).bind (fun v4 =>
    cond (v4 != 0) (
    some ((It.mk ByteArray.empty ByteArray.empty (Rw.mk 0 ByteArray.empty ([])) ([])), 2)) (
    cond ((decide (v3 < 0)) || (decide (v3 ≥ ((Dc.encL v1).length : Int)))) (
    some ((It.mk ByteArray.empty ByteArray.empty (Rw.mk 0 ByteArray.empty ([])) ([])), 6)) (
    (idx v1 v3).bind (fun v8 =>
    print_Decl_L1 n v8 v1 v8.cls 0))))
def print_Decl_L1 : Nat → Dc → (List Dc) → Tm → Int → Option (It × Int)
  | 0, _, _, _, _ => none
  | n + 1, v8, v1, v19, v21 =>
    cond (decide (v21 < v8.implicit)) (
    (idx v19.args 1).bind (fun v23 =>
    print_Decl_L1 n v8 v1 v23 (IntKind.i64.wrap (v21 + 1)))) (
    (print_printer_scoped n v8.cls 0 (Prt.mk v1 ([]) v8.implicit)).bind (fun v28 =>
    cond (v28 != 0) (
    some ((It.mk ByteArray.empty ByteArray.empty (Rw.mk 0 ByteArray.empty ([])) ([])), v28)) (
    (print_printer_raw n v19 v8.implicit (Prt.mk v1 ([]) v8.implicit)).bind (fun v31 =>
    (print_kept n v31.1 v31.2).bind (fun v34 =>
    cond (v34.2 != 0) (
    some ((It.mk ByteArray.empty ByteArray.empty (Rw.mk 0 ByteArray.empty ([])) ([])), v34.2)) (
    some ((It.mk ByteArray.empty v8.name v34.1 ([])), 0)))))))
 end
theorem print_Decl_spec (n : Nat) (v1 : (List Dc)) (v3 : Int) (a2 : Option Addr) (c2 : Nat) (r : It × Int) (hr : print_Decl n v1 v3 = some r) : Pure Tryz.prog (.val (.fn (.func 57) [] [])) [(.v (.slice a2 ((Dc.encL v1).length) c2)), (.v (.int .i64 v3))] [(.slice a2 ((Dc.encL v1).length) c2, .sl 6 (Dc.encL v1))] (fun r' out => ∃ (b1 : Option Addr) (d1 : Nat), ∃ (b2 : Option Addr) (d2 : Nat), r' = (.tup [(.agg [(.v (.string r.1.word)), (.v (.string r.1.name)), (.v (.int .i64 r.1.raw.op)), (.v (.string r.1.raw.name)), (.v (.slice b1 ((Rw.encL r.1.raw.args).length) d1)), (.v (.slice b2 ((Pt.encL r.1.parts).length) d2))]), (.v (.int .i64 r.2))]) ∧ out = [(.slice b1 ((Rw.encL r.1.raw.args).length) d1, .sl 3 (Rw.encL r.1.raw.args)), (.slice b2 ((Pt.encL r.1.parts).length) d2, .sl 8 (Pt.encL r.1.parts))]) := by
  rcases n with _ | n
  · exact no_some hr
  rw [print_Decl.eq_2] at hr
  refine spec_of_body (N := 72) (m := 0) (dt := fun _ => none) [] ttOK Tryz.func57 rfl Tryz.call57 Tryz.ntmps57 rfl rfl rfl mixed (by kernel_rfl) ?_
  obtain ⟨v4, h5, hr⟩ := bind_some hr
  refine (sign_Check_spec n v1 a2 c2 _ h5).atR [0] rfl rfl rfl ?_
  rintro _ _ ⟨rfl, rfl⟩
  refine AtIf.mk (fun h6 => ?_) (fun h6 => ?_)
  · replace hr := cond_t h6 hr
    replace hr := Option.some.inj hr
    subst hr
    exact AtRet.pureG [.nil 3, .nil 8] [(.slice none 0 0, .sl 3 []), (.slice none 0 0, .sl 8 [])] rfl rfl ⟨none, 0, none, 0, rfl, rfl⟩
  · replace hr := cond_f h6 hr
    refine AtIf.mk (fun h7 => ?_) (fun h7 => ?_)
    · replace hr := cond_t h7 hr
      replace hr := Option.some.inj hr
      subst hr
      exact AtRet.pureG [.nil 3, .nil 8] [(.slice none 0 0, .sl 3 []), (.slice none 0 0, .sl 8 [])] rfl rfl ⟨none, 0, none, 0, rfl, rfl⟩
    · replace hr := cond_f h7 hr
      obtain ⟨v8, h9, hr⟩ := bind_some hr
      obtain ⟨h10, h11⟩ := idx_some h9
      refine at_index ttOK 0 rfl rfl rfl rfl h10 (Dc.encL_get h11) ?_
      intro a12 c12 _ _
      refine AtLoop.mk ⟨Nat × Tm × Option Addr × Nat × Int, fun x => [(0, (.v (.slice a2 ((Dc.encL v1).length) c2))), (4, (.loc 0 0)), (6, (.loc 2 0)), (7, (.loc 3 0)), (32, (.v (.int .i64 v8.implicit))), (33, (.v (.int .i64 x.2.2.2.2)))], fun x => ⟨[.cells 107 [(.v (.string ByteArray.empty)), (.v (.string ByteArray.empty)), (.v (.int .i64 0)), (.v (.string ByteArray.empty)), (.v (.slice none 0 0)), (.v (.slice none 0 0))], .imm [(.v (.string v8.name)), (.v (.int .i64 v8.cls.op)), (.v (.int .i64 v8.cls.hd)), (.v (.int .i64 v8.cls.n)), (.v (.slice a12 ((Tm.encL v8.cls.args).length) c12)), (.v (.int .i64 v8.implicit))], .cells 42 [(.v (.string v8.name)), (.v (.int .i64 v8.cls.op)), (.v (.int .i64 v8.cls.hd)), (.v (.int .i64 v8.cls.n)), (.v (.slice a12 ((Tm.encL v8.cls.args).length) c12)), (.v (.int .i64 v8.implicit))], .cells 26 [(.v (.int .i64 x.2.1.op)), (.v (.int .i64 x.2.1.hd)), (.v (.int .i64 x.2.1.n)), (.v (.slice x.2.2.1 ((Tm.encL x.2.1.args).length) x.2.2.2.1))]], [], [(.slice x.2.2.1 ((Tm.encL x.2.1.args).length) x.2.2.2.1, .sl 4 (Tm.encL x.2.1.args)), (.slice a2 ((Dc.encL v1).length) c2, .sl 6 (Dc.encL v1)), (.slice a12 ((Tm.encL v8.cls.args).length) c12, .sl 4 (Tm.encL v8.cls.args))]⟩, fun x => print_Decl_L1 x.1 v8 v1 x.2.1 x.2.2.2.2 = some r, fun x => x.1, (n, v8.cls, a12, c12, 0), hr, ⟨rfl, rfl, rfl, rfl, rfl, rfl, trivial⟩, (StLe.gen 4 [] [.old 1, .old 0, .old 1] rfl rfl rfl rfl rfl rfl rfl), fun x _ => ⟨rfl, rfl⟩, ?_⟩
      rintro ⟨n, v19, a20, c20, v21⟩ HH
      have hr : print_Decl_L1 n v8 v1 v19 v21 = some r := HH
      rcases n with _ | n
      · exact no_some hr
      rw [print_Decl_L1.eq_2] at hr
      refine AtIf.mk (fun h22 => ?_) (fun h22 => ?_)
      · replace hr := cond_t h22 hr
        obtain ⟨v23, h24, hr⟩ := bind_some hr
        obtain ⟨h25, h26⟩ := idx_some h24
        refine at_index ttOK 0 rfl rfl rfl rfl h25 (Tm.encL_get h26) ?_
        intro a27 c27 _ _
        exact ⟨(n, v23, a27, c27, (IntKind.i64.wrap (v21 + 1))), hr, Nat.lt_succ_self _, ⟨rfl, rfl, rfl, rfl, rfl, rfl, trivial⟩, (StLe.gen 4 [] [.old 3, .old 1, .old 2] rfl rfl rfl rfl rfl rfl rfl)⟩
      · replace hr := cond_f h22 hr
        obtain ⟨v28, h29, hr⟩ := bind_some hr
        refine Meets.nilRep 10 ?_
        refine (print_printer_scoped_spec n v8.cls 0 (Prt.mk v1 ([]) v8.implicit) a12 c12 a2 c2 none 0 _ h29).frameR [4] [3, 2, 0] rfl rfl rfl rfl rfl rfl rfl rfl ?_
        rintro _ _ ⟨rfl, rfl⟩
        refine ⟨rfl, rfl, [.cells 63 [(.v (.slice a2 ((Dc.encL v1).length) c2)), (.v (.slice none 0 0)), (.v (.int .i64 v8.implicit))]], rfl, ?_⟩
        refine AtIf.mk (fun h30 => ?_) (fun h30 => ?_)
        · replace hr := cond_t h30 hr
          replace hr := Option.some.inj hr
          subst hr
          exact AtRet.pureG [.nil 3, .nil 8] [(.slice none 0 0, .sl 3 []), (.slice none 0 0, .sl 8 [])] rfl rfl ⟨none, 0, none, 0, rfl, rfl⟩
        · replace hr := cond_f h30 hr
          obtain ⟨v31, h32, hr⟩ := bind_some hr
          refine (print_printer_raw_spec n v19 v8.implicit (Prt.mk v1 ([]) v8.implicit) a20 c20 a2 c2 none 0 _ h32).frameR [4] [1, 2, 0] rfl rfl rfl rfl rfl rfl rfl rfl ?_
          rintro _ _ ⟨a33, c33, rfl, rfl⟩
          refine ⟨rfl, rfl, [.cells 63 [(.v (.slice a2 ((Dc.encL v1).length) c2)), (.v (.slice none 0 0)), (.v (.int .i64 v8.implicit))]], rfl, ?_⟩
          obtain ⟨v34, h35, hr⟩ := bind_some hr
          refine (print_kept_spec n v31.1 v31.2 a33 c33 _ h35).atR [4] rfl rfl rfl ?_
          rintro _ _ ⟨a36, c36, rfl, rfl⟩
          refine AtIf.mk (fun h37 => ?_) (fun h37 => ?_)
          · replace hr := cond_t h37 hr
            replace hr := Option.some.inj hr
            subst hr
            exact AtRet.pureG [.nil 3, .nil 8] [(.slice none 0 0, .sl 3 []), (.slice none 0 0, .sl 8 [])] rfl rfl ⟨none, 0, none, 0, rfl, rfl⟩
          · replace hr := cond_f h37 hr
            replace hr := Option.some.inj hr
            subst hr
            exact AtRet.pureG [.old 5, .nil 8] [(.slice a36 ((Rw.encL v34.1.args).length) c36, .sl 3 (Rw.encL v34.1.args)), (.slice none 0 0, .sl 8 [])] rfl rfl ⟨a36, c36, none, 0, rfl, rfl⟩
def print_Line : Nat → (List Dc) → Int → Option (ByteArray × Int)
  | 0, _, _ => none
  | n + 1, v1, v3 =>
    (print_Decl n v1 v3).bind (fun v4 =>
    cond (v4.2 != 0) (
    some (⟨#[]⟩, v4.2)) (
    (syntax_TextItem n v4.1).bind (fun v9 =>
    some (v9.1, v9.2))))
theorem print_Line_spec (n : Nat) (v1 : (List Dc)) (v3 : Int) (a2 : Option Addr) (c2 : Nat) (r : ByteArray × Int) (hr : print_Line n v1 v3 = some r) : Pure Tryz.prog (.val (.fn (.func 30) [] [])) [(.v (.slice a2 ((Dc.encL v1).length) c2)), (.v (.int .i64 v3))] [(.slice a2 ((Dc.encL v1).length) c2, .sl 6 (Dc.encL v1))] (fun r' out => r' = (.tup [(.v (.string r.1)), (.v (.int .i64 r.2))]) ∧ out = []) := by
  rcases n with _ | n
  · exact no_some hr
  rw [print_Line.eq_2] at hr
  refine spec_of_body (N := 21) (m := 0) (dt := fun _ => none) [] ttOK Tryz.func30 rfl Tryz.call30 Tryz.ntmps30 rfl rfl rfl mixed (by kernel_rfl) ?_
  obtain ⟨v4, h5, hr⟩ := bind_some hr
  refine (print_Decl_spec n v1 v3 a2 c2 _ h5).atR [0] rfl rfl rfl ?_
  rintro _ _ ⟨a6, c6, a7, c7, rfl, rfl⟩
  refine AtIf.mk (fun h8 => ?_) (fun h8 => ?_)
  · replace hr := cond_t h8 hr
    replace hr := Option.some.inj hr
    subst hr
    exact AtRet.pureG [] [] rfl rfl ⟨rfl, rfl⟩
  · replace hr := cond_f h8 hr
    obtain ⟨v9, h10, hr⟩ := bind_some hr
    refine (syntax_TextItem_spec n v4.1 a6 c6 a7 c7 _ h10).atR [1, 2] rfl rfl rfl ?_
    rintro _ _ ⟨rfl, rfl⟩
    replace hr := Option.some.inj hr
    subst hr
    exact AtRet.pureG [] [] rfl rfl ⟨rfl, rfl⟩
def W07_awake : Nat → Option (Bool)
  | 0 => none
  | n + 1 =>
    (W07_con n 0 ([])).bind (fun v1 =>
    (W07_con n 0 ([])).bind (fun v4 =>
    (W07_con n 0 ([])).bind (fun v7 =>
    (W07_pi n v7 (Tm.mk 1 0 0 ([]))).bind (fun v10 =>
    (W07_pi n v4 v10).bind (fun v13 =>
    (W07_pi n v1 v13).bind (fun v16 =>
    (W07_con n 0 ([])).bind (fun v19 =>
    (W07_con n 0 ([])).bind (fun v22 =>
    (W07_con n 0 ([])).bind (fun v25 =>
    (W07_pi n v22 v25).bind (fun v28 =>
    (W07_con n 0 ([])).bind (fun v31 =>
    (W07_con n 1 ([])).bind (fun v34 =>
    (W07_vr n 0 ([])).bind (fun v37 =>
    (W07_vr n 0 ([])).bind (fun v40 =>
    (W07_con n 3 ([v34, v37, v40])).bind (fun v44 =>
    (W07_pi n v31 v44).bind (fun v47 =>
    (print_Line n ([(Dc.mk (⟨#[110, 97, 116]⟩) (Tm.mk 1 0 0 ([])) 0), (Dc.mk (⟨#[122]⟩) v19 0), (Dc.mk (⟨#[115]⟩) v28 0), (Dc.mk (⟨#[112, 108, 117, 115]⟩) v16 0), (Dc.mk (⟨#[112, 122]⟩) v47 1)]) 4).bind (fun v51 =>
    (W07_con n 0 ([])).bind (fun v53 =>
    (W07_con n 1 ([])).bind (fun v56 =>
    (W07_vr n 0 ([])).bind (fun v59 =>
    (W07_vr n 0 ([])).bind (fun v62 =>
    (W07_con n 3 ([v56, v59, v62])).bind (fun v66 =>
    (W07_pi n v53 v66).bind (fun v69 =>
    (print_Text n ([(Dc.mk (⟨#[110, 97, 116]⟩) (Tm.mk 1 0 0 ([])) 0), (Dc.mk (⟨#[122]⟩) v19 0), (Dc.mk (⟨#[115]⟩) v28 0), (Dc.mk (⟨#[112, 108, 117, 115]⟩) v16 0), (Dc.mk (⟨#[112, 122]⟩) v47 1)]) ([]) 0 v69).bind (fun v72 =>
    some (((((v51.2 == 0) && (v51.1.toList == (⟨#[112, 122, 32, 58, 32, 112, 108, 117, 115, 32, 122, 32, 88, 49, 32, 88, 49, 46]⟩ : ByteArray).toList)) && (v72.2 == 0)) && (v72.1.toList == (⟨#[123, 120, 49, 58, 110, 97, 116, 125, 32, 112, 108, 117, 115, 32, 122, 32, 120, 49, 32, 120, 49]⟩ : ByteArray).toList)))))))))))))))))))))))))))
theorem W07_awake_spec (n : Nat)  (r : Bool) (hr : W07_awake n  = some r) : Pure Tryz.prog (.val (.fn (.func 8) [] [])) [] [] (fun r' out => r' = (.v (.bool r)) ∧ out = []) := by
  rcases n with _ | n
  · exact no_some hr
  rw [W07_awake.eq_2] at hr
  refine spec_of_body (N := 64) (m := 0) (dt := drawsOf [(2, .node [0, 1, 8, 9] [(2, .node [3] [(4, .node [] [(5, .node [] [(6, .node [7] [(10, .node [] [(11, .node [] [(12, .node [] [(13, .node [] [(14, .node [] [(15, .node [] [(16, .node [17] [(18, .leaf [19])])])])])])])])])])])])], [18], [])]) [] ttOK Tryz.func8 rfl Tryz.call8 Tryz.ntmps8 rfl rfl rfl mixed (by kernel_rfl) ?_
  obtain ⟨v1, h2, hr⟩ := bind_some hr
  refine Meets.nilRep 4 ?_
  refine (W07_con_spec n 0 ([]) none 0 _ h2).atR [0] rfl rfl rfl ?_
  rintro _ _ ⟨a3, c3, rfl, rfl⟩
  obtain ⟨v4, h5, hr⟩ := bind_some hr
  refine (W07_con_spec n 0 ([]) none 0 _ h5).atR [0] rfl rfl rfl ?_
  rintro _ _ ⟨a6, c6, rfl, rfl⟩
  obtain ⟨v7, h8, hr⟩ := bind_some hr
  refine (W07_con_spec n 0 ([]) none 0 _ h8).atR [0] rfl rfl rfl ?_
  rintro _ _ ⟨a9, c9, rfl, rfl⟩
  obtain ⟨v10, h11, hr⟩ := bind_some hr
  refine (W07_pi_spec n v7 (Tm.mk 1 0 0 ([])) a9 c9 none 0 _ h11).atR [3, 0] rfl rfl rfl ?_
  rintro _ _ ⟨a12, c12, rfl, rfl⟩
  obtain ⟨v13, h14, hr⟩ := bind_some hr
  refine (W07_pi_spec n v4 v10 a6 c6 a12 c12 _ h14).atR [2, 4] rfl rfl rfl ?_
  rintro _ _ ⟨a15, c15, rfl, rfl⟩
  obtain ⟨v16, h17, hr⟩ := bind_some hr
  refine (W07_pi_spec n v1 v13 a3 c3 a15 c15 _ h17).atR [1, 5] rfl rfl rfl ?_
  rintro _ _ ⟨a18, c18, rfl, rfl⟩
  obtain ⟨v19, h20, hr⟩ := bind_some hr
  refine (W07_con_spec n 0 ([]) none 0 _ h20).atR [0] rfl rfl rfl ?_
  rintro _ _ ⟨a21, c21, rfl, rfl⟩
  refine ⟨fun _ _ h => h, ?_⟩
  obtain ⟨v22, h23, hr⟩ := bind_some hr
  refine (W07_con_spec n 0 ([]) none 0 _ h23).atR [0] rfl rfl rfl ?_
  rintro _ _ ⟨a24, c24, rfl, rfl⟩
  refine ⟨fun _ _ h => h, ?_⟩
  obtain ⟨v25, h26, hr⟩ := bind_some hr
  refine (W07_con_spec n 0 ([]) none 0 _ h26).atR [0] rfl rfl rfl ?_
  rintro _ _ ⟨a27, c27, rfl, rfl⟩
  refine ⟨fun _ _ h => h, ?_⟩
  obtain ⟨v28, h29, hr⟩ := bind_some hr
  refine (W07_pi_spec n v22 v25 a24 c24 a27 c27 _ h29).atR [8, 9] rfl rfl rfl ?_
  rintro _ _ ⟨a30, c30, rfl, rfl⟩
  refine ⟨fun _ _ h => h, ?_⟩
  obtain ⟨v31, h32, hr⟩ := bind_some hr
  refine (W07_con_spec n 0 ([]) none 0 _ h32).atR [0] rfl rfl rfl ?_
  rintro _ _ ⟨a33, c33, rfl, rfl⟩
  refine ⟨fun _ _ h => h, ?_⟩
  obtain ⟨v34, h35, hr⟩ := bind_some hr
  refine (W07_con_spec n 1 ([]) none 0 _ h35).atR [0] rfl rfl rfl ?_
  rintro _ _ ⟨a36, c36, rfl, rfl⟩
  refine ⟨fun _ _ h => h, ?_⟩
  obtain ⟨v37, h38, hr⟩ := bind_some hr
  refine (W07_vr_spec n 0 ([]) none 0 _ h38).atR [0] rfl rfl rfl ?_
  rintro _ _ ⟨a39, c39, rfl, rfl⟩
  refine ⟨fun _ _ h => h, ?_⟩
  obtain ⟨v40, h41, hr⟩ := bind_some hr
  refine (W07_vr_spec n 0 ([]) none 0 _ h41).atR [0] rfl rfl rfl ?_
  rintro _ _ ⟨a42, c42, rfl, rfl⟩
  refine ⟨fun _ _ h => h, ?_⟩
  refine at_buildG (n := 3) ttOK 48 [.agg [.int .i64 v34.op, .int .i64 v34.hd, .int .i64 v34.n, .sl 4 (Tm.encL v34.args)], .agg [.int .i64 v37.op, .int .i64 v37.hd, .int .i64 v37.n, .sl 4 (Tm.encL v37.args)], .agg [.int .i64 v40.op, .int .i64 v40.hd, .int .i64 v40.n, .sl 4 (Tm.encL v40.args)]] (ds' := (Tm.encL ([v34, v37, v40]))) rfl (by kernel_rfl) ⟨⟨rfl, rfl, rfl, ⟨[(.v (.int .i64 v34.op))], _, rfl, rfl, ⟨[(.v (.int .i64 v34.hd))], _, rfl, rfl, ⟨[(.v (.int .i64 v34.n))], _, rfl, rfl, ⟨[(.v (.slice a36 ((Tm.encL v34.args).length) c36))], _, rfl, (.inl ⟨_, rfl, nth_mem (j := 12) rfl⟩), rfl⟩⟩⟩⟩⟩, ⟨⟨rfl, rfl, rfl, ⟨[(.v (.int .i64 v37.op))], _, rfl, rfl, ⟨[(.v (.int .i64 v37.hd))], _, rfl, rfl, ⟨[(.v (.int .i64 v37.n))], _, rfl, rfl, ⟨[(.v (.slice a39 ((Tm.encL v37.args).length) c39))], _, rfl, (.inl ⟨_, rfl, nth_mem (j := 13) rfl⟩), rfl⟩⟩⟩⟩⟩, ⟨⟨rfl, rfl, rfl, ⟨[(.v (.int .i64 v40.op))], _, rfl, rfl, ⟨[(.v (.int .i64 v40.hd))], _, rfl, rfl, ⟨[(.v (.int .i64 v40.n))], _, rfl, rfl, ⟨[(.v (.slice a42 ((Tm.encL v40.args).length) c42))], _, rfl, (.inl ⟨_, rfl, nth_mem (j := 14) rfl⟩), rfl⟩⟩⟩⟩⟩, trivial⟩⟩⟩ rfl (by simp only [Tm.encL_eq, List.map_cons, List.map_nil, Tm.enc_eq] <;> rfl) (by decide) (by decide) ?_
  intro a43
  refine ⟨fun _ _ h => h, ?_⟩
  obtain ⟨v44, h45, hr⟩ := bind_some hr
  refine (W07_con_spec n 3 ([v34, v37, v40]) a43 3 _ h45).atR [15] rfl rfl rfl ?_
  rintro _ _ ⟨a46, c46, rfl, rfl⟩
  refine ⟨fun _ _ h => h, ?_⟩
  obtain ⟨v47, h48, hr⟩ := bind_some hr
  refine (W07_pi_spec n v31 v44 a33 c33 a46 c46 _ h48).atR [11, 16] rfl rfl rfl ?_
  rintro _ _ ⟨a49, c49, rfl, rfl⟩
  refine ⟨fun _ _ h => h, ?_⟩
  refine at_buildG (n := 5) ttOK 72 [.agg [.str (⟨#[110, 97, 116]⟩), .agg [.int .i64 1, .int .i64 0, .int .i64 0, .sl 4 []], .int .i64 0], .agg [.str (⟨#[122]⟩), .agg [.int .i64 v19.op, .int .i64 v19.hd, .int .i64 v19.n, .sl 4 (Tm.encL v19.args)], .int .i64 0], .agg [.str (⟨#[115]⟩), .agg [.int .i64 v28.op, .int .i64 v28.hd, .int .i64 v28.n, .sl 4 (Tm.encL v28.args)], .int .i64 0], .agg [.str (⟨#[112, 108, 117, 115]⟩), .agg [.int .i64 v16.op, .int .i64 v16.hd, .int .i64 v16.n, .sl 4 (Tm.encL v16.args)], .int .i64 0], .agg [.str (⟨#[112, 122]⟩), .agg [.int .i64 v47.op, .int .i64 v47.hd, .int .i64 v47.n, .sl 4 (Tm.encL v47.args)], .int .i64 1]] (ds' := (Dc.encL ([(Dc.mk (⟨#[110, 97, 116]⟩) (Tm.mk 1 0 0 ([])) 0), (Dc.mk (⟨#[122]⟩) v19 0), (Dc.mk (⟨#[115]⟩) v28 0), (Dc.mk (⟨#[112, 108, 117, 115]⟩) v16 0), (Dc.mk (⟨#[112, 122]⟩) v47 1)]))) rfl (by kernel_rfl) ⟨⟨rfl, rfl, rfl, ⟨[(.v (.string (⟨#[110, 97, 116]⟩)))], _, rfl, rfl, ⟨[(.v (.int .i64 1)), (.v (.int .i64 0)), (.v (.int .i64 0)), (.v (.slice none 0 0))], _, rfl, ⟨[(.v (.int .i64 1))], _, rfl, rfl, ⟨[(.v (.int .i64 0))], _, rfl, rfl, ⟨[(.v (.int .i64 0))], _, rfl, rfl, ⟨[(.v (.slice none 0 0))], _, rfl, (.inr ⟨rfl, rfl⟩), rfl⟩⟩⟩⟩, ⟨[(.v (.int .i64 0))], _, rfl, rfl, rfl⟩⟩⟩⟩, ⟨⟨rfl, rfl, rfl, ⟨[(.v (.string (⟨#[122]⟩)))], _, rfl, rfl, ⟨[(.v (.int .i64 v19.op)), (.v (.int .i64 v19.hd)), (.v (.int .i64 v19.n)), (.v (.slice a21 ((Tm.encL v19.args).length) c21))], _, rfl, ⟨[(.v (.int .i64 v19.op))], _, rfl, rfl, ⟨[(.v (.int .i64 v19.hd))], _, rfl, rfl, ⟨[(.v (.int .i64 v19.n))], _, rfl, rfl, ⟨[(.v (.slice a21 ((Tm.encL v19.args).length) c21))], _, rfl, (.inl ⟨_, rfl, nth_mem (j := 7) rfl⟩), rfl⟩⟩⟩⟩, ⟨[(.v (.int .i64 0))], _, rfl, rfl, rfl⟩⟩⟩⟩, ⟨⟨rfl, rfl, rfl, ⟨[(.v (.string (⟨#[115]⟩)))], _, rfl, rfl, ⟨[(.v (.int .i64 v28.op)), (.v (.int .i64 v28.hd)), (.v (.int .i64 v28.n)), (.v (.slice a30 ((Tm.encL v28.args).length) c30))], _, rfl, ⟨[(.v (.int .i64 v28.op))], _, rfl, rfl, ⟨[(.v (.int .i64 v28.hd))], _, rfl, rfl, ⟨[(.v (.int .i64 v28.n))], _, rfl, rfl, ⟨[(.v (.slice a30 ((Tm.encL v28.args).length) c30))], _, rfl, (.inl ⟨_, rfl, nth_mem (j := 10) rfl⟩), rfl⟩⟩⟩⟩, ⟨[(.v (.int .i64 0))], _, rfl, rfl, rfl⟩⟩⟩⟩, ⟨⟨rfl, rfl, rfl, ⟨[(.v (.string (⟨#[112, 108, 117, 115]⟩)))], _, rfl, rfl, ⟨[(.v (.int .i64 v16.op)), (.v (.int .i64 v16.hd)), (.v (.int .i64 v16.n)), (.v (.slice a18 ((Tm.encL v16.args).length) c18))], _, rfl, ⟨[(.v (.int .i64 v16.op))], _, rfl, rfl, ⟨[(.v (.int .i64 v16.hd))], _, rfl, rfl, ⟨[(.v (.int .i64 v16.n))], _, rfl, rfl, ⟨[(.v (.slice a18 ((Tm.encL v16.args).length) c18))], _, rfl, (.inl ⟨_, rfl, nth_mem (j := 6) rfl⟩), rfl⟩⟩⟩⟩, ⟨[(.v (.int .i64 0))], _, rfl, rfl, rfl⟩⟩⟩⟩, ⟨⟨rfl, rfl, rfl, ⟨[(.v (.string (⟨#[112, 122]⟩)))], _, rfl, rfl, ⟨[(.v (.int .i64 v47.op)), (.v (.int .i64 v47.hd)), (.v (.int .i64 v47.n)), (.v (.slice a49 ((Tm.encL v47.args).length) c49))], _, rfl, ⟨[(.v (.int .i64 v47.op))], _, rfl, rfl, ⟨[(.v (.int .i64 v47.hd))], _, rfl, rfl, ⟨[(.v (.int .i64 v47.n))], _, rfl, rfl, ⟨[(.v (.slice a49 ((Tm.encL v47.args).length) c49))], _, rfl, (.inl ⟨_, rfl, nth_mem (j := 17) rfl⟩), rfl⟩⟩⟩⟩, ⟨[(.v (.int .i64 1))], _, rfl, rfl, rfl⟩⟩⟩⟩, trivial⟩⟩⟩⟩⟩ rfl (by simp only [Dc.encL_eq, List.map_cons, List.map_nil, Dc.enc_eq] <;> rfl) (by decide) (by decide) ?_
  intro a50
  obtain ⟨v51, h52, hr⟩ := bind_some hr
  refine (print_Line_spec n ([(Dc.mk (⟨#[110, 97, 116]⟩) (Tm.mk 1 0 0 ([])) 0), (Dc.mk (⟨#[122]⟩) v19 0), (Dc.mk (⟨#[115]⟩) v28 0), (Dc.mk (⟨#[112, 108, 117, 115]⟩) v16 0), (Dc.mk (⟨#[112, 122]⟩) v47 1)]) 4 a50 5 _ h52).atR [18] rfl rfl rfl ?_
  rintro _ _ ⟨rfl, rfl⟩
  obtain ⟨v53, h54, hr⟩ := bind_some hr
  refine (W07_con_spec n 0 ([]) none 0 _ h54).atR [0] rfl rfl rfl ?_
  rintro _ _ ⟨a55, c55, rfl, rfl⟩
  obtain ⟨v56, h57, hr⟩ := bind_some hr
  refine (W07_con_spec n 1 ([]) none 0 _ h57).atR [0] rfl rfl rfl ?_
  rintro _ _ ⟨a58, c58, rfl, rfl⟩
  obtain ⟨v59, h60, hr⟩ := bind_some hr
  refine (W07_vr_spec n 0 ([]) none 0 _ h60).atR [0] rfl rfl rfl ?_
  rintro _ _ ⟨a61, c61, rfl, rfl⟩
  obtain ⟨v62, h63, hr⟩ := bind_some hr
  refine (W07_vr_spec n 0 ([]) none 0 _ h63).atR [0] rfl rfl rfl ?_
  rintro _ _ ⟨a64, c64, rfl, rfl⟩
  refine at_buildG (n := 3) ttOK 48 [.agg [.int .i64 v56.op, .int .i64 v56.hd, .int .i64 v56.n, .sl 4 (Tm.encL v56.args)], .agg [.int .i64 v59.op, .int .i64 v59.hd, .int .i64 v59.n, .sl 4 (Tm.encL v59.args)], .agg [.int .i64 v62.op, .int .i64 v62.hd, .int .i64 v62.n, .sl 4 (Tm.encL v62.args)]] (ds' := (Tm.encL ([v56, v59, v62]))) rfl (by kernel_rfl) ⟨⟨rfl, rfl, rfl, ⟨[(.v (.int .i64 v56.op))], _, rfl, rfl, ⟨[(.v (.int .i64 v56.hd))], _, rfl, rfl, ⟨[(.v (.int .i64 v56.n))], _, rfl, rfl, ⟨[(.v (.slice a58 ((Tm.encL v56.args).length) c58))], _, rfl, (.inl ⟨_, rfl, nth_mem (j := 20) rfl⟩), rfl⟩⟩⟩⟩⟩, ⟨⟨rfl, rfl, rfl, ⟨[(.v (.int .i64 v59.op))], _, rfl, rfl, ⟨[(.v (.int .i64 v59.hd))], _, rfl, rfl, ⟨[(.v (.int .i64 v59.n))], _, rfl, rfl, ⟨[(.v (.slice a61 ((Tm.encL v59.args).length) c61))], _, rfl, (.inl ⟨_, rfl, nth_mem (j := 21) rfl⟩), rfl⟩⟩⟩⟩⟩, ⟨⟨rfl, rfl, rfl, ⟨[(.v (.int .i64 v62.op))], _, rfl, rfl, ⟨[(.v (.int .i64 v62.hd))], _, rfl, rfl, ⟨[(.v (.int .i64 v62.n))], _, rfl, rfl, ⟨[(.v (.slice a64 ((Tm.encL v62.args).length) c64))], _, rfl, (.inl ⟨_, rfl, nth_mem (j := 22) rfl⟩), rfl⟩⟩⟩⟩⟩, trivial⟩⟩⟩ rfl (by simp only [Tm.encL_eq, List.map_cons, List.map_nil, Tm.enc_eq] <;> rfl) (by decide) (by decide) ?_
  intro a65
  obtain ⟨v66, h67, hr⟩ := bind_some hr
  refine (W07_con_spec n 3 ([v56, v59, v62]) a65 3 _ h67).atR [23] rfl rfl rfl ?_
  rintro _ _ ⟨a68, c68, rfl, rfl⟩
  obtain ⟨v69, h70, hr⟩ := bind_some hr
  refine (W07_pi_spec n v53 v66 a55 c55 a68 c68 _ h70).atR [19, 24] rfl rfl rfl ?_
  rintro _ _ ⟨a71, c71, rfl, rfl⟩
  obtain ⟨v72, h73, hr⟩ := bind_some hr
  refine Meets.nilRep 10 ?_
  refine (print_Text_spec n ([(Dc.mk (⟨#[110, 97, 116]⟩) (Tm.mk 1 0 0 ([])) 0), (Dc.mk (⟨#[122]⟩) v19 0), (Dc.mk (⟨#[115]⟩) v28 0), (Dc.mk (⟨#[112, 108, 117, 115]⟩) v16 0), (Dc.mk (⟨#[112, 122]⟩) v47 1)]) ([]) 0 v69 a50 5 none 0 a71 c71 _ h73).atR [19, 0, 26] rfl rfl rfl ?_
  rintro _ _ ⟨rfl, rfl⟩
  replace hr := Option.some.inj hr
  subst hr
  exact AtRet.pureG [] [] rfl rfl ⟨rfl, rfl⟩
end Go.Proofs.YtpibdcjdamibdaaGreatDoor
end

/-! EvB -/
section
namespace Go.Proofs.YtpibdcjdamibdaaGreatDoor
open Go.Tr Go
set_option linter.unusedVariables false
set_option maxRecDepth 10000

theorem okAll_two {t : Tm} (h : okAll t = true) (ho : t.op = 2) : ∃ a b, t.args = [a, b] ∧ okAll a = true ∧ okAll b = true ∧ a.height + 1 ≤ t.height ∧ b.height + 1 ≤ t.height ∧ a.count + b.count + 1 = t.count := by
  cases t with
  | mk o hd n us =>
    simp only [Tm.op] at ho
    subst ho
    simp only [okAll, okNode, Bool.and_eq_true] at h
    have h1 : us.length = 2 := by have := h.1; simp at this; exact this.2
    match us, h1 with
    | [a, b], _ =>
      simp only [okAllL, Bool.and_eq_true] at h
      refine ⟨a, b, rfl, h.2.1, h.2.2.1, ?_, ?_, ?_⟩
      · simp only [Tm.height, Tm.heightL]; omega
      · simp only [Tm.height, Tm.heightL]; omega
      · simp only [Tm.count, Tm.countL]; omega

theorem okAll_one {t : Tm} (h : okAll t = true) (ho : t.op = 3) : ∃ a, t.args = [a] ∧ okAll a = true ∧ a.height + 1 ≤ t.height ∧ a.count + 1 = t.count := by
  cases t with
  | mk o hd n us =>
    simp only [Tm.op] at ho
    subst ho
    simp only [okAll, okNode, Bool.and_eq_true] at h
    have h1 : us.length = 1 := by have := h.1; simp at this; exact this.2
    match us, h1 with
    | [a], _ =>
      simp only [okAllL, Bool.and_eq_true] at h
      refine ⟨a, rfl, h.2.1, ?_, ?_⟩
      · simp only [Tm.height, Tm.heightL]; omega
      · simp only [Tm.count, Tm.countL]

theorem okAll_op {t : Tm} (h : okAll t = true) : t.op = 1 ∨ t.op = 2 ∨ t.op = 3 ∨ t.op = 4 := by
  cases t with
  | mk o hd n us =>
    simp only [okAll, okNode, Bool.and_eq_true] at h
    simp only [Tm.op]
    have h1 := h.1
    by_cases h2 : o = 1
    · exact .inl h2
    by_cases h3 : o = 2
    · exact .inr (.inl h3)
    by_cases h4 : o = 3
    · exact .inr (.inr (.inl h4))
    by_cases h5 : o = 4
    · exact .inr (.inr (.inr h5))
    · simp [h2, h3, h4, h5] at h1

/-- The domains of the outermost TPis, behind some that were there, and what is within. -/
def spl : Nat → Tm → List Tm → List Tm × Tm
  | 0, t, l => (l, t)
  | n + 1, t, l => if t.op = 2 then match t.args with
    | a :: b :: _ => spl n b (l ++ [a])
    | _ => (l, t)
    else (l, t)
def split (t : Tm) : List Tm × Tm := spl t.height t []

theorem spl_rest : ∀ (n : Nat) (t : Tm) (l : List Tm), okAll t = true → t.height ≤ n → (spl n t l).2.op ≠ 2 ∧ okAll (spl n t l).2 = true ∧ (spl n t l).2.count ≤ t.count ∧ (spl n t l).2.height ≤ t.height ∧ (spl n t l).1.length + (spl n t l).2.height ≤ l.length + t.height
  | 0, t, l, hok, hn => by have := Tm.height_pos t; omega
  | n + 1, t, l, hok, hn => by
    simp only [spl]
    by_cases h : t.op = 2
    · rw [if_pos h]
      obtain ⟨a, b, e, _, hb, _, hh, hc⟩ := okAll_two hok h
      simp only [e]
      have := spl_rest n b (l ++ [a]) hb (by omega)
      simp only [List.length_append, List.length_cons, List.length_nil] at this
      exact ⟨this.1, this.2.1, by omega, by omega, by omega⟩
    · rw [if_neg h]
      exact ⟨h, hok, Nat.le_refl _, Nat.le_refl _, Nat.le_refl _⟩

theorem Tm.length_le_countL : ∀ (us : List Tm), us.length ≤ Tm.countL us
  | [] => Nat.le_refl _
  | u :: us => by have := Tm.length_le_countL us; have := Tm.count_pos u; simp only [List.length_cons, Tm.countL]; omega

theorem beqI {a b : Int} (h : a = b) : (a == b) = true := by simp [h]
theorem beqI' {a b : Int} (h : a ≠ b) : (a == b) = false := by simp [h]
theorem bneI {a b : Int} (h : a ≠ b) : (a != b) = true := by simp [h]
theorem bneI' {a b : Int} (h : a = b) : (a != b) = false := by simp [h]

theorem domains_evL : ∀ (n : Nat) (t : Tm) (l : List Tm), okAll t = true → t.height ≤ n → l.length + t.height ≤ 1000000 → Ev (fun k => term_Domains_L1 k t l) (spl n t l)
  | 0, t, l, hok, hn, _ => by have := Tm.height_pos t; omega
  | n + 1, t, l, hok, hn, hl => by
    refine Ev.succ (fun k => term_Domains_L1.eq_2 ..) ?_
    simp only [spl]
    by_cases h : t.op = 2
    · obtain ⟨a, b, e, _, hb, _, hh, _⟩ := okAll_two hok h
      rw [if_pos h, e]
      refine Ev.t (beqI h) ?_
      refine Ev.some idx_get0 ?_
      refine Ev.need (by simp [Tm.encL_length]; omega) ?_
      refine Ev.some idx_get1 ?_
      exact domains_evL n b _ hb (by omega) (by simp; omega)
    · rw [if_neg h]
      refine Ev.f (beqI' h) ?_
      exact Ev.pure _

theorem domains_ev {t : Tm} (hok : okAll t = true) (hh : t.height ≤ 1000000) : Ev (fun k => term_Domains k t) (split t) := by
  refine Ev.succ (fun k => term_Domains.eq_2 ..) ?_
  exact domains_evL t.height t [] hok (Nat.le_refl _) (by simpa using hh)

def kindT (t : Tm) : Bool := (split t).2.op == 1

theorem kind_ev {t : Tm} (hok : okAll t = true) (hh : t.height ≤ 1000000) : Ev (fun k => sign_kind k t) (kindT t) := by
  refine Ev.succ (fun k => sign_kind.eq_2 ..) ?_
  exact (domains_ev hok hh).bind (Ev.pure _)

theorem target_ev {t : Tm} (hok : okAll t = true) (hh : t.height ≤ 1000000) : Ev (fun k => sign_target k t) ((split t).2.n, ((split t).2.op == 4) && ((split t).2.hd == 2)) := by
  refine Ev.succ (fun k => sign_target.eq_2 ..) ?_
  exact (domains_ev hok hh).bind (Ev.pure _)

/-! what stands at the nodes -/
def nodeB (o h n k : Int) (m : Nat) : Bool := (o != 4) || (((h != 3) && ((h != 1) || decide (n < k))) && ((h != 2) || decide (n < (m : Int))))
mutual
def nodesB (m : Nat) : Tm → Int → Bool
  | .mk o h n us, k => nodeB o h n k m && nodesBL m o us 0 k
def nodesBL (m : Nat) : Int → List Tm → Nat → Int → Bool
  | _, [], _, _ => true
  | o, u :: us, i, k => nodesB m u (k + under o i) && nodesBL m o us (i + 1) k
 end

theorem under_ev (t : Tm) (i : Int) : Ev (fun k => term_Under k t i) (under t.op i) := by
  refine Ev.succ (fun k => term_Under.eq_2 ..) ?_
  by_cases h : t.op = 3 ∨ t.op = 2 ∧ i = 1
  · rw [under, if_pos h]
    exact Ev.t (by simpa using h) (Ev.pure _)
  · rw [under, if_neg h]
    exact Ev.f (by simpa using h) (Ev.pure _)

mutual
theorem each_ev (sig : List Dc) : ∀ (t : Tm) (k : Int) (b : Bool), 0 ≤ k → k + t.height ≤ 1000000 → t.count ≤ 1000000 → Ev (fun n => term_Each_sign_formed_1 n t k b sig) (b && nodesB sig.length t k)
  | .mk o h n us, k, b, hk0, hk1, hc => by
    refine Ev.succ (fun n => term_Each_sign_formed_1.eq_2 ..) ?_
    have h1 : Ev (fun q => sign_formed_1 q (.mk o h n us) k b sig) (b && nodeB o h n k sig.length) := by
      refine Ev.succ (fun n => sign_formed_1.eq_2 ..) ?_
      refine Ev.ite (fun h1 => ?_) (fun h1 => ?_)
      · have h1 : o ≠ 4 := by simpa [Tm.op] using h1
        refine (Ev.pure b).eq ?_
        simp [nodeB, h1]
      · have h1 : o = 4 := by simpa [Tm.op] using h1
        refine (Ev.pure _).eq ?_
        simp only [nodeB, h1, Tm.hd, Tm.n, Dc.encL_length]
        cases b with
        | false => simp
        | true => simp; rfl
    refine h1.bind ?_
    have hl := each_evL sig o h n us (by have := Tm.length_le_countL us; rw [Tm.count_eq] at hc; simp only [Tm.args] at hc; omega) us k (b && nodeB o h n k sig.length) 0 rfl hk0 (by rw [Tm.height_eq] at hk1; simp only [Tm.args] at hk1; omega) (by rw [Tm.count_eq] at hc; simp only [Tm.args] at hc; omega) (by simp)
    refine hl.eq ?_
    simp only [nodesB, Bool.and_assoc]
theorem each_evL (sig : List Dc) (o h n : Int) (us : List Tm) (hus : us.length ≤ 1000000) : ∀ (ts : List Tm) (k : Int) (b : Bool) (i : Nat), us.drop i = ts → 0 ≤ k → k + 1 + Tm.heightL ts ≤ 1000000 → Tm.countL ts ≤ 1000000 → i + ts.length = us.length → Ev (fun q => term_Each_sign_formed_1_L1 q (.mk o h n us) k sig b (i : Int)) (b && nodesBL sig.length o ts i k)
  | [], k, b, i, hd, hk0, hk1, hc, hi => by
    refine Ev.succ (fun n => term_Each_sign_formed_1_L1.eq_2 ..) ?_
    simp only [List.length_nil, Nat.add_zero] at hi
    refine Ev.f (by simp [Tm.encL_length, Tm.args, hi]) ?_
    refine (Ev.pure b).eq ?_
    simp [nodesBL]
  | u :: ts, k, b, i, hd, hk0, hk1, hc, hi => by
    refine Ev.succ (fun n => term_Each_sign_formed_1_L1.eq_2 ..) ?_
    simp only [List.length_cons] at hi
    have hu : us[i]? = some u := by
      have := congrArg (fun l => l[0]?) hd
      simpa using this
    have hul := under_le o i
    simp only [Tm.heightL, Tm.countL] at hk1 hc
    refine Ev.t (by simp [Tm.encL_length, Tm.args]; omega) ?_
    refine Ev.some (idx_get hu) ?_
    refine (under_ev _ _).bind ?_
    have hw : IntKind.i64.wrap (k + under o i) = k + under o i := wrap_i64 (by omega) (by omega)
    simp only [Tm.op, hw]
    refine (each_ev sig u (k + under o i) b (by omega) (by omega) (by omega)).bind ?_
    simp only [wrapS (show i < 2000000000000000000 by omega)]
    refine (each_evL sig o h n us hus ts k _ (i + 1) (by rw [← List.drop_drop, hd]; rfl) hk0 (by omega) (by omega) (by omega)).eq ?_
    simp only [nodesBL, Bool.and_assoc]
 end
end Go.Proofs.YtpibdcjdamibdaaGreatDoor
end
