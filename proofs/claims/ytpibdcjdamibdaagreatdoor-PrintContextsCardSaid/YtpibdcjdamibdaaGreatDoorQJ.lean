/- Merged texts: G2. Functions that print contexts, with fuel, and their contracts. Conditions stand in each. -/
import Derived.Test.YtpibdcjdamibdaaGreatDoorQI
/-! G2 -/
section
namespace Go.Proofs.YtpibdcjdamibdaaGreatDoor
open Go.Tr Go
set_option maxRecDepth 10000
set_option linter.unusedVariables false
set_option linter.unusedSimpArgs false

mutual
def print_good : Nat → (List Dc) → (List Mt) → (List Tm) → Option (Bool)
  | 0, _, _, _ => none
  | n + 1, v1, v3, v5 =>
    (sign_Check n v1).bind (fun v7 =>
    cond ((v7 != 0) || (decide (((Mt.encL v3).length : Int) > 80))) (
    some (false)) (
    print_good_L1 n v3 v5 0))
def print_good_L2 : Nat → (List Tm) → Int → Option (Bool)
  | 0, _, _ => none
  | n + 1, v5, v36 =>
    cond (decide (v36 < ((Tm.encL v5).length : Int))) (
    (idx v5 v36).bind (fun v38 =>
    cond ((if isProper v38 then (0 : Int) else 2) != 0) (
    some (false)) (
    print_good_L2 n v5 (IntKind.i64.wrap (v36 + 1))))) (
    some (true))
def print_good_L1 : Nat → (List Mt) → (List Tm) → Int → Option (Bool)
  | 0, _, _, _ => none
  | n + 1, v3, v5, v19 =>
    cond (decide (v19 < ((Mt.encL v3).length : Int))) (
    (idx v3 v19).bind (fun v21 =>
    cond (!(v21.name.toList == (⟨#[]⟩ : ByteArray).toList)) (
    cond (!(isCapitalF v21.name)) (
    some (false)) (
    print_good_L1 n v3 v5 (IntKind.i64.wrap (v19 + 1)))) (
    print_good_L1 n v3 v5 (IntKind.i64.wrap (v19 + 1))))) (
    print_good_L2 n v5 0)
 end
theorem print_good_spec (n : Nat) (v1 : (List Dc)) (v3 : (List Mt)) (v5 : (List Tm)) (a2 : Option Addr) (c2 : Nat) (a4 : Option Addr) (c4 : Nat) (a6 : Option Addr) (c6 : Nat) (r : Bool) (hr : print_good n v1 v3 v5 = some r) : Pure Tryz.prog (.val (.fn (.func 23) [] [])) [(.v (.slice a2 ((Dc.encL v1).length) c2)), (.v (.slice a4 ((Mt.encL v3).length) c4)), (.v (.slice a6 ((Tm.encL v5).length) c6))] [(.slice a2 ((Dc.encL v1).length) c2, .sl 6 (Dc.encL v1)), (.slice a4 ((Mt.encL v3).length) c4, .sl 10 (Mt.encL v3)), (.slice a6 ((Tm.encL v5).length) c6, .sl 4 (Tm.encL v5))] (fun r' out => r' = (.v (.bool r)) ∧ out = []) := by
  rcases n with _ | n
  · exact no_some hr
  rw [print_good.eq_2] at hr
  refine spec_of_body (N := 45) (m := 0) (dt := fun _ => none) [] ttOK Tryz.func23 rfl Tryz.call23 Tryz.ntmps23 rfl rfl rfl mixed (by kernel_rfl) ?_
  obtain ⟨v7, h8, hr⟩ := bind_some hr
  refine (sign_Check_spec n v1 a2 c2 _ h8).atR [0] rfl rfl rfl ?_
  rintro _ _ ⟨rfl, rfl⟩
  refine AtIf.mk (fun h9 => ?_) (fun h9 => ?_)
  · replace hr := cond_t h9 hr
    replace hr := Option.some.inj hr
    subst hr
    exact AtRet.pureG [] [] rfl rfl ⟨rfl, rfl⟩
  · replace hr := cond_f h9 hr
    refine AtLoop.mk ⟨Nat × Int, fun x => [(2, (.v (.slice a6 ((Tm.encL v5).length) c6))), (19, (.v (.slice a4 ((Mt.encL v3).length) c4))), (20, (.v (.int .i64 ((Mt.encL v3).length : Int)))), (21, (.v (.int .i64 x.2)))], fun x => ⟨[], [], [(.slice a2 ((Dc.encL v1).length) c2, .sl 6 (Dc.encL v1)), (.slice a4 ((Mt.encL v3).length) c4, .sl 10 (Mt.encL v3)), (.slice a6 ((Tm.encL v5).length) c6, .sl 4 (Tm.encL v5))]⟩, fun x => print_good_L1 x.1 v3 v5 x.2 = some r, fun x => x.1, (n, 0), hr, ⟨rfl, rfl, rfl, rfl, trivial⟩, (StLe.gen 0 [] [.old 0, .old 1, .old 2] rfl rfl rfl rfl rfl rfl rfl), fun x _ => ⟨rfl, rfl⟩, ?_⟩
    rintro ⟨n, v19⟩ HH
    have hr : print_good_L1 n v3 v5 v19 = some r := HH
    rcases n with _ | n
    · exact no_some hr
    rw [print_good_L1.eq_2] at hr
    refine AtIf.mk (fun h20 => ?_) (fun h20 => ?_)
    · replace hr := cond_t h20 hr
      obtain ⟨v21, h22, hr⟩ := bind_some hr
      obtain ⟨h23, h24⟩ := idx_some h22
      refine at_index ttOK 1 rfl rfl rfl rfl h23 (Mt.encL_get h24) ?_
      intro a25 c25 _ _ a26 c26 _ _
      refine AtGuard.mk (fun h27 => ?_) (fun h27 => ?_)
      · replace hr := cond_t h27 hr
        refine (isCapital_spec v21.name).atR [] rfl rfl rfl ?_
        rintro _ _ ⟨rfl, rfl⟩
        refine AtIf.mk (fun h28 => ?_) (fun h28 => ?_)
        · replace hr := cond_t h28 hr
          replace hr := Option.some.inj hr
          subst hr
          exact AtRet.pureG [] [] rfl rfl ⟨rfl, rfl⟩
        · replace hr := cond_f h28 hr
          exact ⟨(n, (IntKind.i64.wrap (v19 + 1))), hr, Nat.lt_succ_self _, ⟨rfl, rfl, rfl, rfl, trivial⟩, (StLe.gen 0 [] [.old 0, .old 1, .old 2] rfl rfl rfl rfl rfl rfl rfl)⟩
      · replace hr := cond_f h27 hr
        refine AtIf.mk (fun h => ff h) (fun _ => ?_)
        exact ⟨(n, (IntKind.i64.wrap (v19 + 1))), hr, Nat.lt_succ_self _, ⟨rfl, rfl, rfl, rfl, trivial⟩, (StLe.gen 0 [] [.old 0, .old 1, .old 2] rfl rfl rfl rfl rfl rfl rfl)⟩
    · replace hr := cond_f h20 hr
      refine AtLoop.mk ⟨Nat × Int, fun x => [(35, (.v (.slice a6 ((Tm.encL v5).length) c6))), (36, (.v (.int .i64 ((Tm.encL v5).length : Int)))), (37, (.v (.int .i64 x.2)))], fun x => ⟨[], [], [(.slice a2 ((Dc.encL v1).length) c2, .sl 6 (Dc.encL v1)), (.slice a4 ((Mt.encL v3).length) c4, .sl 10 (Mt.encL v3)), (.slice a6 ((Tm.encL v5).length) c6, .sl 4 (Tm.encL v5))]⟩, fun x => print_good_L2 x.1 v5 x.2 = some r, fun x => x.1, (n, 0), hr, ⟨rfl, rfl, rfl, trivial⟩, (StLe.gen 0 [] [.old 0, .old 1, .old 2] rfl rfl rfl rfl rfl rfl rfl), fun x _ => ⟨rfl, rfl⟩, ?_⟩
      rintro ⟨n, v36⟩ HH
      have hr : print_good_L2 n v5 v36 = some r := HH
      rcases n with _ | n
      · exact no_some hr
      rw [print_good_L2.eq_2] at hr
      refine AtIf.mk (fun h37 => ?_) (fun h37 => ?_)
      · replace hr := cond_t h37 hr
        obtain ⟨v38, h39, hr⟩ := bind_some hr
        obtain ⟨h40, h41⟩ := idx_some h39
        refine at_index ttOK 2 rfl rfl rfl rfl h40 (Tm.encL_get h41) ?_
        intro a42 c42 _ _
        refine (check_spec v38 a42 c42).atR [3] rfl rfl rfl ?_
        rintro _ _ ⟨rfl, rfl⟩
        refine AtIf.mk (fun h43 => ?_) (fun h43 => ?_)
        · replace hr := cond_t h43 hr
          replace hr := Option.some.inj hr
          subst hr
          exact AtRet.pureG [] [] rfl rfl ⟨rfl, rfl⟩
        · replace hr := cond_f h43 hr
          exact ⟨(n, (IntKind.i64.wrap (v36 + 1))), hr, Nat.lt_succ_self _, ⟨rfl, rfl, rfl, trivial⟩, (StLe.gen 0 [] [.old 0, .old 1, .old 2] rfl rfl rfl rfl rfl rfl rfl)⟩
      · replace hr := cond_f h37 hr
        replace hr := Option.some.inj hr
        subst hr
        exact AtRet.pureG [] [] rfl rfl ⟨rfl, rfl⟩
mutual
def print_printer_name : Nat → Int → Prt → Option (ByteArray)
  | 0, _, _ => none
  | n + 1, v1, v2 =>
    cond (decide (v1 < v2.first)) (
    cond (decide ((0 : Int) ≤ (IntKind.i64.wrap (v1 + 1)) ∧ ((IntKind.i64.wrap (v1 + 1)) : Int) ≤ 99)) (
    cond (decide ((⟨#[88]⟩ : ByteArray).size + (itoaF (IntKind.i64.wrap (v1 + 1))).size ≤ 1000000)) (
    some (((⟨#[88]⟩ : ByteArray) ++ (itoaF (IntKind.i64.wrap (v1 + 1)))))) none) none) (
    cond (decide ((0 : Int) ≤ (IntKind.i64.wrap (v1 + 1)) ∧ ((IntKind.i64.wrap (v1 + 1)) : Int) ≤ 99)) (
    cond (decide ((⟨#[120]⟩ : ByteArray).size + (itoaF (IntKind.i64.wrap (v1 + 1))).size ≤ 1000000)) (
    print_printer_name_L1 n v2 ((⟨#[120]⟩ : ByteArray) ++ (itoaF (IntKind.i64.wrap (v1 + 1))))) none) none)
def print_printer_name_L1 : Nat → Prt → ByteArray → Option (ByteArray)
  | 0, _, _ => none
  | n + 1, v2, v14 =>
    (sign_Find n v2.sig v14).bind (fun v15 =>
    cond (v15.2 == 6) (
    some (v14)) (
    cond (decide (v14.size + (⟨#[39]⟩ : ByteArray).size ≤ 1000000)) (
    print_printer_name_L1 n v2 (v14 ++ (⟨#[39]⟩ : ByteArray))) none))
 end
theorem print_printer_name_spec (n : Nat) (v1 : Int) (v2 : Prt) (a3 : Option Addr) (c3 : Nat) (a4 : Option Addr) (c4 : Nat) (r : ByteArray) (hr : print_printer_name n v1 v2 = some r) : Meets Tryz.prog (.val (.fn (.func 37) [] [])) [(.loc 0 0), (.v (.int .i64 v1))] ⟨[.cells 63 [(.v (.slice a3 ((Dc.encL v2.sig).length) c3)), (.v (.slice a4 ((Mt.encL v2.metas).length) c4)), (.v (.int .i64 v2.first))]], [], [(.slice a3 ((Dc.encL v2.sig).length) c3, .sl 6 (Dc.encL v2.sig)), (.slice a4 ((Mt.encL v2.metas).length) c4, .sl 10 (Mt.encL v2.metas))]⟩ (fun o S' => o = .ret (.v (.string r)) ∧ S' = ⟨[.cells 63 [(.v (.slice a3 ((Dc.encL v2.sig).length) c3)), (.v (.slice a4 ((Mt.encL v2.metas).length) c4)), (.v (.int .i64 v2.first))]], [], []⟩) := by
  rcases n with _ | n
  · exact no_some hr
  rw [print_printer_name.eq_2] at hr
  refine spec_of_body (N := 36) (m := 1) (dt := fun _ => none) [] ttOK Tryz.func37 rfl Tryz.call37 Tryz.ntmps37 rfl rfl rfl mixed (by kernel_rfl) ?_
  refine AtIf.mk (fun h5 => ?_) (fun h5 => ?_)
  · replace hr := cond_t h5 hr
    obtain ⟨h6, hr⟩ := cond_need hr
    refine (itoa_spec (IntKind.i64.wrap (v1 + 1)) (of_decide_eq_true h6).1 (of_decide_eq_true h6).2).atR [] rfl rfl rfl ?_
    rintro _ _ ⟨rfl, rfl⟩
    obtain ⟨h7, hr⟩ := cond_need hr
    refine at_concat (of_decide_eq_true h7) ?_
    replace hr := Option.some.inj hr
    subst hr
    exact AtRet.gen ⟨[.cells 63 [(.v (.slice a3 ((Dc.encL v2.sig).length) c3)), (.v (.slice a4 ((Mt.encL v2.metas).length) c4)), (.v (.int .i64 v2.first))]], [], []⟩ (StLe.gen 1 [] [] rfl rfl rfl rfl rfl rfl rfl) rfl rfl ⟨rfl, rfl⟩
  · replace hr := cond_f h5 hr
    obtain ⟨h8, hr⟩ := cond_need hr
    refine (itoa_spec (IntKind.i64.wrap (v1 + 1)) (of_decide_eq_true h8).1 (of_decide_eq_true h8).2).atR [] rfl rfl rfl ?_
    rintro _ _ ⟨rfl, rfl⟩
    obtain ⟨h9, hr⟩ := cond_need hr
    refine at_concat (of_decide_eq_true h9) ?_
    refine AtLoop.mk ⟨Nat × ByteArray, fun x => [(0, (.loc 0 0)), (5, (.v (.string x.2)))], fun x => ⟨[.cells 63 [(.v (.slice a3 ((Dc.encL v2.sig).length) c3)), (.v (.slice a4 ((Mt.encL v2.metas).length) c4)), (.v (.int .i64 v2.first))]], [], [(.slice a3 ((Dc.encL v2.sig).length) c3, .sl 6 (Dc.encL v2.sig)), (.slice a4 ((Mt.encL v2.metas).length) c4, .sl 10 (Mt.encL v2.metas))]⟩, fun x => print_printer_name_L1 x.1 v2 x.2 = some r, fun x => x.1, (n, ((⟨#[120]⟩ : ByteArray) ++ (itoaF (IntKind.i64.wrap (v1 + 1))))), hr, ⟨rfl, rfl, trivial⟩, (StLe.gen 1 [] [.old 0, .old 1] rfl rfl rfl rfl rfl rfl rfl), fun x _ => ⟨rfl, rfl⟩, ?_⟩
    rintro ⟨n, v14⟩ HH
    have hr : print_printer_name_L1 n v2 v14 = some r := HH
    rcases n with _ | n
    · exact no_some hr
    rw [print_printer_name_L1.eq_2] at hr
    obtain ⟨v15, h16, hr⟩ := bind_some hr
    refine (sign_Find_spec n v2.sig v14 a3 c3 _ h16).atR [0] rfl rfl rfl ?_
    rintro _ _ ⟨rfl, rfl⟩
    refine AtIf.mk (fun h17 => ?_) (fun h17 => ?_)
    · replace hr := cond_t h17 hr
      replace hr := Option.some.inj hr
      subst hr
      exact AtRet.gen ⟨[.cells 63 [(.v (.slice a3 ((Dc.encL v2.sig).length) c3)), (.v (.slice a4 ((Mt.encL v2.metas).length) c4)), (.v (.int .i64 v2.first))]], [], []⟩ (StLe.gen 1 [] [] rfl rfl rfl rfl rfl rfl rfl) rfl rfl ⟨rfl, rfl⟩
    · replace hr := cond_f h17 hr
      obtain ⟨h18, hr⟩ := cond_need hr
      refine at_concat (of_decide_eq_true h18) ?_
      exact ⟨(n, (v14 ++ (⟨#[39]⟩ : ByteArray))), hr, Nat.lt_succ_self _, ⟨rfl, rfl, trivial⟩, (StLe.gen 1 [] [.old 0, .old 1] rfl rfl rfl rfl rfl rfl rfl)⟩
def print_printer_head : Nat → Tm → Int → Prt → Option (ByteArray × Int × Int)
  | 0, _, _, _ => none
  | n + 1, v1, v3, v4 =>
    cond ((v1.hd == 1) && (decide (v1.n < v3))) (
    (print_printer_name n (IntKind.i64.wrap ((IntKind.i64.wrap (v3 - 1)) - v1.n)) v4).bind (fun v8 =>
    some (v8, 0, 0))) (
    cond ((v1.hd == 2) && (decide (v1.n < ((Dc.encL v4.sig).length : Int)))) (
    (idx v4.sig v1.n).bind (fun v11 =>
    cond (decide (((Tm.encL v1.args).length : Int) < v11.implicit)) (
    some (⟨#[]⟩, 0, 23)) (
    some (v11.name, v11.implicit, 0)))) (
    cond ((v1.hd == 3) && (decide (v1.n < ((Mt.encL v4.metas).length : Int)))) (
    (idx v4.metas v1.n).bind (fun v18 =>
    cond (!(v18.name.toList == (⟨#[]⟩ : ByteArray).toList)) (
    some (v18.name, 0, 0)) (
    cond (decide ((0 : Int) ≤ v1.n ∧ (v1.n : Int) ≤ 99)) (
    cond (decide ((⟨#[77]⟩ : ByteArray).size + (itoaF v1.n).size ≤ 1000000)) (
    some (((⟨#[77]⟩ : ByteArray) ++ (itoaF v1.n)), 0, 0)) none) none))) (
    some (⟨#[]⟩, 0, 27))))
theorem print_printer_head_spec (n : Nat) (v1 : Tm) (v3 : Int) (v4 : Prt) (a2 : Option Addr) (c2 : Nat) (a5 : Option Addr) (c5 : Nat) (a6 : Option Addr) (c6 : Nat) (r : ByteArray × Int × Int) (hr : print_printer_head n v1 v3 v4 = some r) : Meets Tryz.prog (.val (.fn (.func 50) [] [])) [(.loc 0 0), (.agg [(.v (.int .i64 v1.op)), (.v (.int .i64 v1.hd)), (.v (.int .i64 v1.n)), (.v (.slice a2 ((Tm.encL v1.args).length) c2))]), (.v (.int .i64 v3))] ⟨[.cells 63 [(.v (.slice a5 ((Dc.encL v4.sig).length) c5)), (.v (.slice a6 ((Mt.encL v4.metas).length) c6)), (.v (.int .i64 v4.first))]], [], [(.slice a2 ((Tm.encL v1.args).length) c2, .sl 4 (Tm.encL v1.args)), (.slice a5 ((Dc.encL v4.sig).length) c5, .sl 6 (Dc.encL v4.sig)), (.slice a6 ((Mt.encL v4.metas).length) c6, .sl 10 (Mt.encL v4.metas))]⟩ (fun o S' => o = .ret (.tup [(.v (.string r.1)), (.v (.int .i64 r.2.1)), (.v (.int .i64 r.2.2))]) ∧ S' = ⟨[.cells 63 [(.v (.slice a5 ((Dc.encL v4.sig).length) c5)), (.v (.slice a6 ((Mt.encL v4.metas).length) c6)), (.v (.int .i64 v4.first))]], [], []⟩) := by
  rcases n with _ | n
  · exact no_some hr
  rw [print_printer_head.eq_2] at hr
  refine spec_of_body (N := 90) (m := 1) (dt := drawsOf [(3, .leaf [0, 1, 2, 3, 4, 5, 6, 7, 8, 9, 10, 11, 12, 13], [], []), (4, .node [0, 1, 2, 3, 4, 5, 6, 7] [(8, .node [] [(9, .leaf [])])], [9], []), (7, .leaf [0, 1, 2, 3, 4, 5, 6], [], []), (8, .leaf [0, 1, 2, 3, 4, 5, 6, 7, 8, 9, 10, 11, 12, 13], [], []), (9, .leaf [0, 1, 2, 3, 4, 5, 6, 7, 8, 9], [], [])]) [] ttOK Tryz.func50 rfl Tryz.call50 Tryz.ntmps50 rfl rfl rfl mixed (by kernel_rfl) ?_
  refine AtIf.mk (fun h7 => ?_) (fun h7 => ?_)
  · replace hr := cond_t h7 hr
    obtain ⟨v8, h9, hr⟩ := bind_some hr
    refine (print_printer_name_spec n (IntKind.i64.wrap ((IntKind.i64.wrap (v3 - 1)) - v1.n)) v4 a5 c5 a6 c6 _ h9).frameR [0] [1, 2] rfl rfl rfl rfl rfl rfl rfl rfl ?_
    rintro _ _ ⟨rfl, rfl⟩
    refine ⟨rfl, rfl, [.cells 63 [(.v (.slice a5 ((Dc.encL v4.sig).length) c5)), (.v (.slice a6 ((Mt.encL v4.metas).length) c6)), (.v (.int .i64 v4.first))]], rfl, ?_⟩
    replace hr := Option.some.inj hr
    subst hr
    exact AtRet.gen ⟨[.cells 63 [(.v (.slice a5 ((Dc.encL v4.sig).length) c5)), (.v (.slice a6 ((Mt.encL v4.metas).length) c6)), (.v (.int .i64 v4.first))]], [], []⟩ (StLe.gen 1 [] [] rfl rfl rfl rfl rfl rfl rfl) rfl rfl ⟨rfl, rfl⟩
  · replace hr := cond_f h7 hr
    refine AtIf.mk (fun h10 => ?_) (fun h10 => ?_)
    · replace hr := cond_t h10 hr
      obtain ⟨v11, h12, hr⟩ := bind_some hr
      obtain ⟨h13, h14⟩ := idx_some h12
      refine at_index ttOK 1 rfl rfl rfl rfl h13 (Dc.encL_get h14) ?_
      intro a15 c15 _ _
      refine ⟨OwnKeptBut.append, ?_⟩
      refine AtIf.mk (fun h16 => ?_) (fun h16 => ?_)
      · replace hr := cond_t h16 hr
        replace hr := Option.some.inj hr
        subst hr
        exact AtRet.gen ⟨[.cells 63 [(.v (.slice a5 ((Dc.encL v4.sig).length) c5)), (.v (.slice a6 ((Mt.encL v4.metas).length) c6)), (.v (.int .i64 v4.first))]], [], []⟩ (StLe.gen 1 [] [] rfl rfl rfl rfl rfl rfl rfl) rfl rfl ⟨rfl, rfl⟩
      · replace hr := cond_f h16 hr
        replace hr := Option.some.inj hr
        subst hr
        exact AtRet.gen ⟨[.cells 63 [(.v (.slice a5 ((Dc.encL v4.sig).length) c5)), (.v (.slice a6 ((Mt.encL v4.metas).length) c6)), (.v (.int .i64 v4.first))]], [], []⟩ (StLe.gen 1 [] [] rfl rfl rfl rfl rfl rfl rfl) rfl rfl ⟨rfl, rfl⟩
    · replace hr := cond_f h10 hr
      refine AtIf.mk (fun h17 => ?_) (fun h17 => ?_)
      · replace hr := cond_t h17 hr
        obtain ⟨v18, h19, hr⟩ := bind_some hr
        obtain ⟨h20, h21⟩ := idx_some h19
        refine at_index ttOK 2 rfl rfl rfl rfl h20 (Mt.encL_get h21) ?_
        intro a22 c22 _ _ a23 c23 _ _
        refine AtIf.mk (fun h24 => ?_) (fun h24 => ?_)
        · replace hr := cond_t h24 hr
          replace hr := Option.some.inj hr
          subst hr
          exact AtRet.gen ⟨[.cells 63 [(.v (.slice a5 ((Dc.encL v4.sig).length) c5)), (.v (.slice a6 ((Mt.encL v4.metas).length) c6)), (.v (.int .i64 v4.first))]], [], []⟩ (StLe.gen 1 [] [] rfl rfl rfl rfl rfl rfl rfl) rfl rfl ⟨rfl, rfl⟩
        · replace hr := cond_f h24 hr
          obtain ⟨h25, hr⟩ := cond_need hr
          refine (itoa_spec v1.n (of_decide_eq_true h25).1 (of_decide_eq_true h25).2).atR [] rfl rfl rfl ?_
          rintro _ _ ⟨rfl, rfl⟩
          obtain ⟨h26, hr⟩ := cond_need hr
          refine at_concat (of_decide_eq_true h26) ?_
          replace hr := Option.some.inj hr
          subst hr
          exact AtRet.gen ⟨[.cells 63 [(.v (.slice a5 ((Dc.encL v4.sig).length) c5)), (.v (.slice a6 ((Mt.encL v4.metas).length) c6)), (.v (.int .i64 v4.first))]], [], []⟩ (StLe.gen 1 [] [] rfl rfl rfl rfl rfl rfl rfl) rfl rfl ⟨rfl, rfl⟩
      · replace hr := cond_f h17 hr
        replace hr := Option.some.inj hr
        subst hr
        exact AtRet.gen ⟨[.cells 63 [(.v (.slice a5 ((Dc.encL v4.sig).length) c5)), (.v (.slice a6 ((Mt.encL v4.metas).length) c6)), (.v (.int .i64 v4.first))]], [], []⟩ (StLe.gen 1 [] [] rfl rfl rfl rfl rfl rfl rfl) rfl rfl ⟨rfl, rfl⟩
def print_printer_scoped_1 : Nat → Tm → Int → Int → Int → Prt → Option (Int)
  | 0, _, _, _, _, _ => none
  | n + 1, v1, v3, v4, v5, v6 =>
    cond ((v1.op != 4) || (v4 == 27)) (
    some (v4)) (
    (print_printer_head n v1 (IntKind.i64.wrap (v5 + v3)) v6).bind (fun v10 =>
    cond (v10.2.2 != 0) (
    some (v10.2.2)) (
    some (v4))))
theorem print_printer_scoped_1_spec (n : Nat) (v1 : Tm) (v3 : Int) (v4 : Int) (v5 : Int) (v6 : Prt) (a2 : Option Addr) (c2 : Nat) (a7 : Option Addr) (c7 : Nat) (a8 : Option Addr) (c8 : Nat) (r : Int) (hr : print_printer_scoped_1 n v1 v3 v4 v5 v6 = some r) : Meets Tryz.prog (.val (.fn (.func 49) [] [(.loc 0 0), (.loc 1 0), (.loc 2 0)])) [(.agg [(.v (.int .i64 v1.op)), (.v (.int .i64 v1.hd)), (.v (.int .i64 v1.n)), (.v (.slice a2 ((Tm.encL v1.args).length) c2))]), (.v (.int .i64 v3))] ⟨[.cells 32 [(.v (.int .i64 v4))], .cells 61 [(.loc 3 0)], .cells 3 [(.v (.int .i64 v5))], .cells 63 [(.v (.slice a7 ((Dc.encL v6.sig).length) c7)), (.v (.slice a8 ((Mt.encL v6.metas).length) c8)), (.v (.int .i64 v6.first))]], [], [(.slice a2 ((Tm.encL v1.args).length) c2, .sl 4 (Tm.encL v1.args)), (.slice a7 ((Dc.encL v6.sig).length) c7, .sl 6 (Dc.encL v6.sig)), (.slice a8 ((Mt.encL v6.metas).length) c8, .sl 10 (Mt.encL v6.metas))]⟩ (fun o S' => o = .ret (.tup []) ∧ S' = ⟨[.cells 32 [(.v (.int .i64 r))], .cells 61 [(.loc 3 0)], .cells 3 [(.v (.int .i64 v5))], .cells 63 [(.v (.slice a7 ((Dc.encL v6.sig).length) c7)), (.v (.slice a8 ((Mt.encL v6.metas).length) c8)), (.v (.int .i64 v6.first))]], [], []⟩) := by
  rcases n with _ | n
  · exact no_some hr
  rw [print_printer_scoped_1.eq_2] at hr
  refine spec_of_body (N := 30) (m := 4) (dt := fun _ => none) [] ttOK Tryz.func49 rfl Tryz.call49 Tryz.ntmps49 rfl rfl rfl mixed (by kernel_rfl) ?_
  refine AtIf.mk (fun h9 => ?_) (fun h9 => ?_)
  · replace hr := cond_t h9 hr
    replace hr := Option.some.inj hr
    subst hr
    exact AtRet.gen ⟨[.cells 32 [(.v (.int .i64 v4))], .cells 61 [(.loc 3 0)], .cells 3 [(.v (.int .i64 v5))], .cells 63 [(.v (.slice a7 ((Dc.encL v6.sig).length) c7)), (.v (.slice a8 ((Mt.encL v6.metas).length) c8)), (.v (.int .i64 v6.first))]], [], []⟩ (StLe.gen 4 [] [] rfl rfl rfl rfl rfl rfl rfl) rfl rfl ⟨rfl, rfl⟩
  · replace hr := cond_f h9 hr
    obtain ⟨v10, h11, hr⟩ := bind_some hr
    refine (print_printer_head_spec n v1 (IntKind.i64.wrap (v5 + v3)) v6 a2 c2 a7 c7 a8 c8 _ h11).frameR [3] [0, 1, 2] rfl rfl rfl rfl rfl rfl rfl rfl ?_
    rintro _ _ ⟨rfl, rfl⟩
    refine ⟨rfl, rfl, [.cells 63 [(.v (.slice a7 ((Dc.encL v6.sig).length) c7)), (.v (.slice a8 ((Mt.encL v6.metas).length) c8)), (.v (.int .i64 v6.first))]], rfl, ?_⟩
    refine AtIf.mk (fun h12 => ?_) (fun h12 => ?_)
    · replace hr := cond_t h12 hr
      replace hr := Option.some.inj hr
      subst hr
      exact AtRet.gen ⟨[.cells 32 [(.v (.int .i64 v10.2.2))], .cells 61 [(.loc 3 0)], .cells 3 [(.v (.int .i64 v5))], .cells 63 [(.v (.slice a7 ((Dc.encL v6.sig).length) c7)), (.v (.slice a8 ((Mt.encL v6.metas).length) c8)), (.v (.int .i64 v6.first))]], [], []⟩ (StLe.gen 4 [] [] rfl rfl rfl rfl rfl rfl rfl) rfl rfl ⟨rfl, rfl⟩
    · replace hr := cond_f h12 hr
      replace hr := Option.some.inj hr
      subst hr
      exact AtRet.gen ⟨[.cells 32 [(.v (.int .i64 v4))], .cells 61 [(.loc 3 0)], .cells 3 [(.v (.int .i64 v5))], .cells 63 [(.v (.slice a7 ((Dc.encL v6.sig).length) c7)), (.v (.slice a8 ((Mt.encL v6.metas).length) c8)), (.v (.int .i64 v6.first))]], [], []⟩ (StLe.gen 4 [] [] rfl rfl rfl rfl rfl rfl rfl) rfl rfl ⟨rfl, rfl⟩
mutual
def term_Each_print_printer_scoped_1 : Nat → Tm → Int → Int → Int → Prt → Option (Int)
  | 0, _, _, _, _, _ => none
  | n + 1, v1, v3, v4, v5, v6 =>
    (print_printer_scoped_1 n v1 v3 v4 v5 v6).bind (fun v9 =>
    term_Each_print_printer_scoped_1_L1 n v1 v3 v5 v6 v9 0)
def term_Each_print_printer_scoped_1_L1 : Nat → Tm → Int → Int → Prt → Int → Int → Option (Int)
  | 0, _, _, _, _, _, _ => none
  | n + 1, v1, v3, v5, v6, v21, v22 =>
    cond (decide (v22 < ((Tm.encL v1.args).length : Int))) (
    (idx v1.args v22).bind (fun v24 =>
    (term_Under n v1 v22).bind (fun v29 =>
    (term_Each_print_printer_scoped_1 n v24 (IntKind.i64.wrap (v3 + v29)) v21 v5 v6).bind (fun v31 =>
    term_Each_print_printer_scoped_1_L1 n v1 v3 v5 v6 v31 (IntKind.i64.wrap (v22 + 1)))))) (
    some (v21))
 end
theorem term_Each_print_printer_scoped_1_specN : ∀ (N : Nat), (∀ (n : Nat), n ≤ N → ∀ (v1 : Tm) (v3 : Int) (v4 : Int) (v5 : Int) (v6 : Prt) (a2 : Option Addr) (c2 : Nat) (a7 : Option Addr) (c7 : Nat) (a8 : Option Addr) (c8 : Nat) (r : Int), term_Each_print_printer_scoped_1 n v1 v3 v4 v5 v6 = some r → Meets Tryz.prog (.val (.fn (.func 48) [] [])) [(.agg [(.v (.int .i64 v1.op)), (.v (.int .i64 v1.hd)), (.v (.int .i64 v1.n)), (.v (.slice a2 ((Tm.encL v1.args).length) c2))]), (.v (.int .i64 v3)), (.fn (.func 49) [] [(.loc 0 0), (.loc 1 0), (.loc 2 0)])] ⟨[.cells 32 [(.v (.int .i64 v4))], .cells 61 [(.loc 3 0)], .cells 3 [(.v (.int .i64 v5))], .cells 63 [(.v (.slice a7 ((Dc.encL v6.sig).length) c7)), (.v (.slice a8 ((Mt.encL v6.metas).length) c8)), (.v (.int .i64 v6.first))]], [], [(.slice a2 ((Tm.encL v1.args).length) c2, .sl 4 (Tm.encL v1.args)), (.slice a7 ((Dc.encL v6.sig).length) c7, .sl 6 (Dc.encL v6.sig)), (.slice a8 ((Mt.encL v6.metas).length) c8, .sl 10 (Mt.encL v6.metas))]⟩ (fun o S' => o = .ret (.tup []) ∧ S' = ⟨[.cells 32 [(.v (.int .i64 r))], .cells 61 [(.loc 3 0)], .cells 3 [(.v (.int .i64 v5))], .cells 63 [(.v (.slice a7 ((Dc.encL v6.sig).length) c7)), (.v (.slice a8 ((Mt.encL v6.metas).length) c8)), (.v (.int .i64 v6.first))]], [], []⟩)) := by
  intro N
  induction N with
  | zero =>
    intro n hn v1 v3 v4 v5 v6 a2 c2 a7 c7 a8 c8 r hr; obtain rfl : n = 0 := (by omega); exact no_some hr
  | succ N ih =>
    intro n hn v1 v3 v4 v5 v6 a2 c2 a7 c7 a8 c8 r hr
    rcases n with _ | n
    · exact no_some hr
    replace hn : n ≤ N := by omega
    rw [term_Each_print_printer_scoped_1.eq_2] at hr
    refine spec_of_body (N := 29) (m := 4) (dt := drawsOf [(5, .node [0, 1, 2, 3, 6] [(4, .node [5] [(7, .leaf [])])], [7], [])]) [] ttOK Tryz.func48 rfl Tryz.call48 Tryz.ntmps48 rfl rfl rfl mixed (by kernel_rfl) ?_
    obtain ⟨v9, h10, hr⟩ := bind_some hr
    refine (print_printer_scoped_1_spec n v1 v3 v4 v5 v6 a2 c2 a7 c7 a8 c8 _ h10).frameR [0, 1, 2, 3] [0, 1, 2] rfl rfl rfl rfl rfl rfl rfl rfl ?_
    rintro _ _ ⟨rfl, rfl⟩
    refine ⟨rfl, rfl, [.cells 32 [(.v (.int .i64 v9))], .cells 61 [(.loc 3 0)], .cells 3 [(.v (.int .i64 v5))], .cells 63 [(.v (.slice a7 ((Dc.encL v6.sig).length) c7)), (.v (.slice a8 ((Mt.encL v6.metas).length) c8)), (.v (.int .i64 v6.first))]], rfl, ?_⟩
    refine AtLoop.mk ⟨Nat × Int × Int, fun x => [(1, (.v (.int .i64 v3))), (2, (.fn (.func 49) [] [(.loc 0 0), (.loc 1 0), (.loc 2 0)])), (3, (.loc 4 0)), (13, (.v (.slice a2 ((Tm.encL v1.args).length) c2))), (14, (.v (.int .i64 ((Tm.encL v1.args).length : Int)))), (15, (.v (.int .i64 x.2.2)))], fun x => ⟨[.cells 32 [(.v (.int .i64 x.2.1))], .cells 61 [(.loc 3 0)], .cells 3 [(.v (.int .i64 v5))], .cells 63 [(.v (.slice a7 ((Dc.encL v6.sig).length) c7)), (.v (.slice a8 ((Mt.encL v6.metas).length) c8)), (.v (.int .i64 v6.first))], .cells 26 [(.v (.int .i64 v1.op)), (.v (.int .i64 v1.hd)), (.v (.int .i64 v1.n)), (.v (.slice a2 ((Tm.encL v1.args).length) c2))]], [], [(.slice a2 ((Tm.encL v1.args).length) c2, .sl 4 (Tm.encL v1.args)), (.slice a7 ((Dc.encL v6.sig).length) c7, .sl 6 (Dc.encL v6.sig)), (.slice a8 ((Mt.encL v6.metas).length) c8, .sl 10 (Mt.encL v6.metas))]⟩, fun x => x.1 ≤ N ∧ term_Each_print_printer_scoped_1_L1 x.1 v1 v3 v5 v6 x.2.1 x.2.2 = some r, fun x => x.1, (n, v9, 0), ⟨by omega, hr⟩, ⟨rfl, rfl, rfl, rfl, rfl, rfl, trivial⟩, (StLe.gen 5 [] [.old 0, .old 1, .old 2] rfl rfl rfl rfl rfl rfl rfl), fun x _ => ⟨rfl, rfl⟩, ?_⟩
    rintro ⟨n, v21, v22⟩ HH
    obtain ⟨hn, hr⟩ : n ≤ N ∧ term_Each_print_printer_scoped_1_L1 n v1 v3 v5 v6 v21 v22 = some r := HH
    rcases n with _ | n
    · exact no_some hr
    rw [term_Each_print_printer_scoped_1_L1.eq_2] at hr
    refine AtIf.mk (fun h23 => ?_) (fun h23 => ?_)
    · replace hr := cond_t h23 hr
      obtain ⟨v24, h25, hr⟩ := bind_some hr
      obtain ⟨h26, h27⟩ := idx_some h25
      refine at_index ttOK 0 rfl rfl rfl rfl h26 (Tm.encL_get h27) ?_
      intro a28 c28 _ _
      obtain ⟨v29, h30, hr⟩ := bind_some hr
      refine (term_Under_spec n v1 v22 a2 c2 _ h30).atR [0] rfl rfl rfl ?_
      rintro _ _ ⟨rfl, rfl⟩
      refine ⟨fun _ _ h => h, ?_⟩
      obtain ⟨v31, h32, hr⟩ := bind_some hr
      refine (ih n (by omega) v24 (IntKind.i64.wrap (v3 + v29)) v21 v5 v6 a28 c28 a7 c7 a8 c8 _ h32).frameR [0, 1, 2, 3] [3, 1, 2] rfl rfl rfl rfl rfl rfl rfl rfl ?_
      rintro _ _ ⟨rfl, rfl⟩
      refine ⟨rfl, rfl, [.cells 32 [(.v (.int .i64 v31))], .cells 61 [(.loc 3 0)], .cells 3 [(.v (.int .i64 v5))], .cells 63 [(.v (.slice a7 ((Dc.encL v6.sig).length) c7)), (.v (.slice a8 ((Mt.encL v6.metas).length) c8)), (.v (.int .i64 v6.first))]], rfl, ?_⟩
      exact ⟨(n, v31, (IntKind.i64.wrap (v22 + 1))), ⟨by omega, hr⟩, Nat.lt_succ_self _, ⟨rfl, rfl, rfl, rfl, rfl, rfl, trivial⟩, (StLe.gen 5 [] [.old 0, .old 1, .old 2] rfl rfl rfl rfl rfl rfl rfl)⟩
    · replace hr := cond_f h23 hr
      replace hr := Option.some.inj hr
      subst hr
      exact AtRet.gen ⟨[.cells 32 [(.v (.int .i64 v21))], .cells 61 [(.loc 3 0)], .cells 3 [(.v (.int .i64 v5))], .cells 63 [(.v (.slice a7 ((Dc.encL v6.sig).length) c7)), (.v (.slice a8 ((Mt.encL v6.metas).length) c8)), (.v (.int .i64 v6.first))]], [], []⟩ (StLe.gen 4 [] [] rfl rfl rfl rfl rfl rfl rfl) rfl rfl ⟨rfl, rfl⟩
theorem term_Each_print_printer_scoped_1_spec (n : Nat) (v1 : Tm) (v3 : Int) (v4 : Int) (v5 : Int) (v6 : Prt) (a2 : Option Addr) (c2 : Nat) (a7 : Option Addr) (c7 : Nat) (a8 : Option Addr) (c8 : Nat) (r : Int) (hr : term_Each_print_printer_scoped_1 n v1 v3 v4 v5 v6 = some r) : Meets Tryz.prog (.val (.fn (.func 48) [] [])) [(.agg [(.v (.int .i64 v1.op)), (.v (.int .i64 v1.hd)), (.v (.int .i64 v1.n)), (.v (.slice a2 ((Tm.encL v1.args).length) c2))]), (.v (.int .i64 v3)), (.fn (.func 49) [] [(.loc 0 0), (.loc 1 0), (.loc 2 0)])] ⟨[.cells 32 [(.v (.int .i64 v4))], .cells 61 [(.loc 3 0)], .cells 3 [(.v (.int .i64 v5))], .cells 63 [(.v (.slice a7 ((Dc.encL v6.sig).length) c7)), (.v (.slice a8 ((Mt.encL v6.metas).length) c8)), (.v (.int .i64 v6.first))]], [], [(.slice a2 ((Tm.encL v1.args).length) c2, .sl 4 (Tm.encL v1.args)), (.slice a7 ((Dc.encL v6.sig).length) c7, .sl 6 (Dc.encL v6.sig)), (.slice a8 ((Mt.encL v6.metas).length) c8, .sl 10 (Mt.encL v6.metas))]⟩ (fun o S' => o = .ret (.tup []) ∧ S' = ⟨[.cells 32 [(.v (.int .i64 r))], .cells 61 [(.loc 3 0)], .cells 3 [(.v (.int .i64 v5))], .cells 63 [(.v (.slice a7 ((Dc.encL v6.sig).length) c7)), (.v (.slice a8 ((Mt.encL v6.metas).length) c8)), (.v (.int .i64 v6.first))]], [], []⟩) := (term_Each_print_printer_scoped_1_specN n) n (Nat.le_refl _) v1 v3 v4 v5 v6 a2 c2 a7 c7 a8 c8 r hr
def print_printer_scoped : Nat → Tm → Int → Prt → Option (Int)
  | 0, _, _, _ => none
  | n + 1, v1, v3, v4 =>
    (term_Each_print_printer_scoped_1 n v1 0 0 v3 v4).bind (fun v7 =>
    some (v7))
theorem print_printer_scoped_spec (n : Nat) (v1 : Tm) (v3 : Int) (v4 : Prt) (a2 : Option Addr) (c2 : Nat) (a5 : Option Addr) (c5 : Nat) (a6 : Option Addr) (c6 : Nat) (r : Int) (hr : print_printer_scoped n v1 v3 v4 = some r) : Meets Tryz.prog (.val (.fn (.func 24) [] [])) [(.loc 0 0), (.agg [(.v (.int .i64 v1.op)), (.v (.int .i64 v1.hd)), (.v (.int .i64 v1.n)), (.v (.slice a2 ((Tm.encL v1.args).length) c2))]), (.v (.int .i64 v3))] ⟨[.cells 63 [(.v (.slice a5 ((Dc.encL v4.sig).length) c5)), (.v (.slice a6 ((Mt.encL v4.metas).length) c6)), (.v (.int .i64 v4.first))]], [], [(.slice a2 ((Tm.encL v1.args).length) c2, .sl 4 (Tm.encL v1.args)), (.slice a5 ((Dc.encL v4.sig).length) c5, .sl 6 (Dc.encL v4.sig)), (.slice a6 ((Mt.encL v4.metas).length) c6, .sl 10 (Mt.encL v4.metas))]⟩ (fun o S' => o = .ret (.v (.int .i64 r)) ∧ S' = ⟨[.cells 63 [(.v (.slice a5 ((Dc.encL v4.sig).length) c5)), (.v (.slice a6 ((Mt.encL v4.metas).length) c6)), (.v (.int .i64 v4.first))]], [], []⟩) := by
  rcases n with _ | n
  · exact no_some hr
  rw [print_printer_scoped.eq_2] at hr
  refine spec_of_body (N := 12) (m := 1) (dt := fun _ => none) [] ttOK Tryz.func24 rfl Tryz.call24 Tryz.ntmps24 rfl rfl rfl mixed (by kernel_rfl) ?_
  obtain ⟨v7, h8, hr⟩ := bind_some hr
  refine (term_Each_print_printer_scoped_1_spec n v1 0 0 v3 v4 a2 c2 a5 c5 a6 c6 _ h8).frameR [4, 1, 3, 0] [0, 1, 2] rfl rfl rfl rfl rfl rfl rfl rfl ?_
  rintro _ _ ⟨rfl, rfl⟩
  refine ⟨rfl, rfl, [.cells 32 [(.v (.int .i64 v7))], .cells 61 [(.loc 0 0)], .cells 3 [(.v (.int .i64 v3))], .cells 63 [(.v (.slice a5 ((Dc.encL v4.sig).length) c5)), (.v (.slice a6 ((Mt.encL v4.metas).length) c6)), (.v (.int .i64 v4.first))]], rfl, ?_⟩
  replace hr := Option.some.inj hr
  subst hr
  exact AtRet.gen ⟨[.cells 63 [(.v (.slice a5 ((Dc.encL v4.sig).length) c5)), (.v (.slice a6 ((Mt.encL v4.metas).length) c6)), (.v (.int .i64 v4.first))]], [], []⟩ (StLe.gen 1 [] [] rfl rfl rfl rfl rfl rfl rfl) rfl rfl ⟨rfl, rfl⟩
def print_kept : Nat → Rw → Int → Option (Rw × Int)
  | 0, _, _ => none
  | n + 1, v1, v3 =>
    cond (v3 != 0) (
    some ((Rw.mk 0 ByteArray.empty ([])), v3)) (
    cond ((if rawOK v1 then (0 : Int) else 2) != 0) (
    some ((Rw.mk 0 ByteArray.empty ([])), 5)) (
    some (v1, 0)))
theorem print_kept_spec (n : Nat) (v1 : Rw) (v3 : Int) (a2 : Option Addr) (c2 : Nat) (r : Rw × Int) (hr : print_kept n v1 v3 = some r) : Pure Tryz.prog (.val (.fn (.func 25) [] [])) [(.agg [(.v (.int .i64 v1.op)), (.v (.string v1.name)), (.v (.slice a2 ((Rw.encL v1.args).length) c2))]), (.v (.int .i64 v3))] [(.slice a2 ((Rw.encL v1.args).length) c2, .sl 3 (Rw.encL v1.args))] (fun r' out => ∃ (b1 : Option Addr) (d1 : Nat), r' = (.tup [(.agg [(.v (.int .i64 r.1.op)), (.v (.string r.1.name)), (.v (.slice b1 ((Rw.encL r.1.args).length) d1))]), (.v (.int .i64 r.2))]) ∧ out = [(.slice b1 ((Rw.encL r.1.args).length) d1, .sl 3 (Rw.encL r.1.args))]) := by
  rcases n with _ | n
  · exact no_some hr
  rw [print_kept.eq_2] at hr
  refine spec_of_body (N := 17) (m := 0) (dt := fun _ => none) [] ttOK Tryz.func25 rfl Tryz.call25 Tryz.ntmps25 rfl rfl rfl mixed (by kernel_rfl) ?_
  refine AtIf.mk (fun h4 => ?_) (fun h4 => ?_)
  · replace hr := cond_t h4 hr
    replace hr := Option.some.inj hr
    subst hr
    exact AtRet.pureG [.nil 3] [(.slice none 0 0, .sl 3 [])] rfl rfl ⟨none, 0, rfl, rfl⟩
  · replace hr := cond_f h4 hr
    refine (checkRaw_spec v1 a2 c2).atR [0] rfl rfl rfl ?_
    rintro _ _ ⟨rfl, rfl⟩
    refine AtIf.mk (fun h5 => ?_) (fun h5 => ?_)
    · replace hr := cond_t h5 hr
      replace hr := Option.some.inj hr
      subst hr
      exact AtRet.pureG [.nil 3] [(.slice none 0 0, .sl 3 [])] rfl rfl ⟨none, 0, rfl, rfl⟩
    · replace hr := cond_f h5 hr
      replace hr := Option.some.inj hr
      subst hr
      exact AtRet.pureG [.old 0] [(.slice a2 ((Rw.encL v1.args).length) c2, .sl 3 (Rw.encL v1.args))] rfl rfl ⟨a2, c2, rfl, rfl⟩
def print_node : Nat → Int → ByteArray → (List Rw) → Option (Rw)
  | 0, _, _, _ => none
  | n + 1, v1, v2, v3 =>
    some ((Rw.mk v1 v2 v3))
theorem print_node_spec (n : Nat) (v1 : Int) (v2 : ByteArray) (v3 : (List Rw)) (a4 : Option Addr) (c4 : Nat) (r : Rw) (hr : print_node n v1 v2 v3 = some r) : Pure Tryz.prog (.val (.fn (.func 52) [] [])) [(.v (.int .i64 v1)), (.v (.string v2)), (.v (.slice a4 ((Rw.encL v3).length) c4))] [(.slice a4 ((Rw.encL v3).length) c4, .sl 3 (Rw.encL v3))] (fun r' out => ∃ (b1 : Option Addr) (d1 : Nat), r' = (.agg [(.v (.int .i64 r.op)), (.v (.string r.name)), (.v (.slice b1 ((Rw.encL r.args).length) d1))]) ∧ out = [(.slice b1 ((Rw.encL r.args).length) d1, .sl 3 (Rw.encL r.args))]) := by
  rcases n with _ | n
  · exact no_some hr
  rw [print_node.eq_2] at hr
  refine spec_of_body (N := 11) (m := 0) (dt := fun _ => none) [] ttOK Tryz.func52 rfl Tryz.call52 Tryz.ntmps52 rfl rfl rfl mixed (by kernel_rfl) ?_
  replace hr := Option.some.inj hr
  subst hr
  exact AtRet.pureG [.old 0] [(.slice a4 ((Rw.encL v3).length) c4, .sl 3 (Rw.encL v3))] rfl rfl ⟨a4, c4, rfl, rfl⟩
mutual
def print_printer_raw : Nat → Tm → Int → Prt → Option (Rw × Int)
  | 0, _, _, _ => none
  | n + 1, v1, v3, v4 =>
    cond (v1.op == 1) (
    (print_node n 1 (⟨#[]⟩) ([])).bind (fun v8 =>
    some (v8, 0))) (
    cond (v1.op == 2) (
    (print_printer_pi n v1 v3 v4).bind (fun v12 =>
    some (v12.1, v12.2))) (
    cond (v1.op == 3) (
    (idx v1.args 0).bind (fun v16 =>
    (print_printer_raw n v16 (IntKind.i64.wrap (v3 + 1)) v4).bind (fun v21 =>
    (print_printer_name n v3 v4).bind (fun v26 =>
    (print_node n 3 (⟨#[]⟩) ([])).bind (fun v28 =>
    (print_node n 7 v26 ([v28, v21.1])).bind (fun v32 =>
    some (v32, v21.2))))))) (
    (print_printer_head n v1 v3 v4).bind (fun v35 =>
    cond (v35.2.2 != 0) (
    some ((Rw.mk 0 ByteArray.empty ([])), v35.2.2)) (
    cond (decide ((0 : Int) ≤ v35.2.1 ∧ v35.2.1 ≤ ((Tm.encL v1.args).length : Int) ∧ ((Tm.encL v1.args).length : Int) ≤ ((Tm.encL v1.args).length : Int))) (
    (print_node n 2 v35.1 ([])).bind (fun v40 =>
    (print_fold_print_printer_raw_1 n v40 (v1.args.drop v35.2.1.toNat) v3 v4).bind (fun v43 =>
    some (v43.1, v43.2)))) none)))))
def print_printer_pi : Nat → Tm → Int → Prt → Option (Rw × Int)
  | 0, _, _, _ => none
  | n + 1, v1, v3, v4 =>
    (idx v1.args 0).bind (fun v7 =>
    (print_printer_raw n v7 v3 v4).bind (fun v12 =>
    cond (v12.2 != 0) (
    some ((Rw.mk 0 ByteArray.empty ([])), v12.2)) (
    (idx v1.args 1).bind (fun v16 =>
    (term_Occurs n v16 0).bind (fun v21 =>
    cond v21.1 (
    (idx v1.args 1).bind (fun v24 =>
    (print_printer_raw n v24 (IntKind.i64.wrap (v3 + 1)) v4).bind (fun v29 =>
    (print_printer_name n v3 v4).bind (fun v32 =>
    (print_node n 5 v32 ([v12.1, v29.1])).bind (fun v35 =>
    some (v35, v29.2)))))) (
    (idx v1.args 1).bind (fun v40 =>
    (term_Moved n v40 (-1) 0).bind (fun v45 =>
    (print_printer_raw n v45 v3 v4).bind (fun v48 =>
    (print_node n 6 (⟨#[]⟩) ([v12.1, v48.1])).bind (fun v52 =>
    some (v52, v48.2)))))))))))
def print_fold_print_printer_raw_1 : Nat → Rw → (List Tm) → Int → Prt → Option (Rw × Int)
  | 0, _, _, _, _ => none
  | n + 1, v1, v3, v5, v6 =>
    print_fold_print_printer_raw_1_L1 n v3 v5 v6 v1 0
def print_fold_print_printer_raw_1_L1 : Nat → (List Tm) → Int → Prt → Rw → Int → Option (Rw × Int)
  | 0, _, _, _, _, _ => none
  | n + 1, v3, v5, v6, v19, v21 =>
    cond (decide (v21 < ((Tm.encL v3).length : Int))) (
    (idx v3 v21).bind (fun v23 =>
    (print_printer_raw_1 n v19 v23 v5 v6).bind (fun v28 =>
    cond (v28.2 != 0) (
    some (v19, v28.2)) (
    print_fold_print_printer_raw_1_L1 n v3 v5 v6 v28.1 (IntKind.i64.wrap (v21 + 1)))))) (
    some (v19, 0))
def print_printer_raw_1 : Nat → Rw → Tm → Int → Prt → Option (Rw × Int)
  | 0, _, _, _, _ => none
  | n + 1, v1, v3, v5, v6 =>
    (print_printer_raw n v3 v5 v6).bind (fun v9 =>
    (print_node n 4 (⟨#[]⟩) ([v1, v9.1])).bind (fun v13 =>
    some (v13, v9.2)))
 end
theorem print_printer_raw_specN : ∀ (N : Nat), (∀ (n : Nat), n ≤ N → ∀ (v1 : Tm) (v3 : Int) (v4 : Prt) (a2 : Option Addr) (c2 : Nat) (a5 : Option Addr) (c5 : Nat) (a6 : Option Addr) (c6 : Nat) (r : Rw × Int), print_printer_raw n v1 v3 v4 = some r → Meets Tryz.prog (.val (.fn (.func 26) [] [])) [(.loc 0 0), (.agg [(.v (.int .i64 v1.op)), (.v (.int .i64 v1.hd)), (.v (.int .i64 v1.n)), (.v (.slice a2 ((Tm.encL v1.args).length) c2))]), (.v (.int .i64 v3))] ⟨[.cells 63 [(.v (.slice a5 ((Dc.encL v4.sig).length) c5)), (.v (.slice a6 ((Mt.encL v4.metas).length) c6)), (.v (.int .i64 v4.first))]], [], [(.slice a2 ((Tm.encL v1.args).length) c2, .sl 4 (Tm.encL v1.args)), (.slice a5 ((Dc.encL v4.sig).length) c5, .sl 6 (Dc.encL v4.sig)), (.slice a6 ((Mt.encL v4.metas).length) c6, .sl 10 (Mt.encL v4.metas))]⟩ (fun o S' => ∃ (b1 : Option Addr) (d1 : Nat), o = .ret (.tup [(.agg [(.v (.int .i64 r.1.op)), (.v (.string r.1.name)), (.v (.slice b1 ((Rw.encL r.1.args).length) d1))]), (.v (.int .i64 r.2))]) ∧ S' = ⟨[.cells 63 [(.v (.slice a5 ((Dc.encL v4.sig).length) c5)), (.v (.slice a6 ((Mt.encL v4.metas).length) c6)), (.v (.int .i64 v4.first))]], [], [(.slice b1 ((Rw.encL r.1.args).length) d1, .sl 3 (Rw.encL r.1.args))]⟩)) ∧ (∀ (n : Nat), n ≤ N → ∀ (v1 : Tm) (v3 : Int) (v4 : Prt) (a2 : Option Addr) (c2 : Nat) (a5 : Option Addr) (c5 : Nat) (a6 : Option Addr) (c6 : Nat) (r : Rw × Int), print_printer_pi n v1 v3 v4 = some r → Meets Tryz.prog (.val (.fn (.func 53) [] [])) [(.loc 0 0), (.agg [(.v (.int .i64 v1.op)), (.v (.int .i64 v1.hd)), (.v (.int .i64 v1.n)), (.v (.slice a2 ((Tm.encL v1.args).length) c2))]), (.v (.int .i64 v3))] ⟨[.cells 63 [(.v (.slice a5 ((Dc.encL v4.sig).length) c5)), (.v (.slice a6 ((Mt.encL v4.metas).length) c6)), (.v (.int .i64 v4.first))]], [], [(.slice a2 ((Tm.encL v1.args).length) c2, .sl 4 (Tm.encL v1.args)), (.slice a5 ((Dc.encL v4.sig).length) c5, .sl 6 (Dc.encL v4.sig)), (.slice a6 ((Mt.encL v4.metas).length) c6, .sl 10 (Mt.encL v4.metas))]⟩ (fun o S' => ∃ (b1 : Option Addr) (d1 : Nat), o = .ret (.tup [(.agg [(.v (.int .i64 r.1.op)), (.v (.string r.1.name)), (.v (.slice b1 ((Rw.encL r.1.args).length) d1))]), (.v (.int .i64 r.2))]) ∧ S' = ⟨[.cells 63 [(.v (.slice a5 ((Dc.encL v4.sig).length) c5)), (.v (.slice a6 ((Mt.encL v4.metas).length) c6)), (.v (.int .i64 v4.first))]], [], [(.slice b1 ((Rw.encL r.1.args).length) d1, .sl 3 (Rw.encL r.1.args))]⟩)) ∧ (∀ (n : Nat), n ≤ N → ∀ (v1 : Rw) (v3 : (List Tm)) (v5 : Int) (v6 : Prt) (a2 : Option Addr) (c2 : Nat) (a4 : Option Addr) (c4 : Nat) (a7 : Option Addr) (c7 : Nat) (a8 : Option Addr) (c8 : Nat) (r : Rw × Int), print_fold_print_printer_raw_1 n v1 v3 v5 v6 = some r → Meets Tryz.prog (.val (.fn (.func 54) [] [])) [(.agg [(.v (.int .i64 v1.op)), (.v (.string v1.name)), (.v (.slice a2 ((Rw.encL v1.args).length) c2))]), (.v (.slice a4 ((Tm.encL v3).length) c4)), (.fn (.func 55) [] [(.loc 0 0), (.loc 1 0)])] ⟨[.cells 61 [(.loc 2 0)], .cells 3 [(.v (.int .i64 v5))], .cells 63 [(.v (.slice a7 ((Dc.encL v6.sig).length) c7)), (.v (.slice a8 ((Mt.encL v6.metas).length) c8)), (.v (.int .i64 v6.first))]], [], [(.slice a2 ((Rw.encL v1.args).length) c2, .sl 3 (Rw.encL v1.args)), (.slice a4 ((Tm.encL v3).length) c4, .sl 4 (Tm.encL v3)), (.slice a7 ((Dc.encL v6.sig).length) c7, .sl 6 (Dc.encL v6.sig)), (.slice a8 ((Mt.encL v6.metas).length) c8, .sl 10 (Mt.encL v6.metas))]⟩ (fun o S' => ∃ (b1 : Option Addr) (d1 : Nat), o = .ret (.tup [(.agg [(.v (.int .i64 r.1.op)), (.v (.string r.1.name)), (.v (.slice b1 ((Rw.encL r.1.args).length) d1))]), (.v (.int .i64 r.2))]) ∧ S' = ⟨[.cells 61 [(.loc 2 0)], .cells 3 [(.v (.int .i64 v5))], .cells 63 [(.v (.slice a7 ((Dc.encL v6.sig).length) c7)), (.v (.slice a8 ((Mt.encL v6.metas).length) c8)), (.v (.int .i64 v6.first))]], [], [(.slice b1 ((Rw.encL r.1.args).length) d1, .sl 3 (Rw.encL r.1.args))]⟩)) ∧ (∀ (n : Nat), n ≤ N → ∀ (v1 : Rw) (v3 : Tm) (v5 : Int) (v6 : Prt) (a2 : Option Addr) (c2 : Nat) (a4 : Option Addr) (c4 : Nat) (a7 : Option Addr) (c7 : Nat) (a8 : Option Addr) (c8 : Nat) (r : Rw × Int), print_printer_raw_1 n v1 v3 v5 v6 = some r → Meets Tryz.prog (.val (.fn (.func 55) [] [(.loc 0 0), (.loc 1 0)])) [(.agg [(.v (.int .i64 v1.op)), (.v (.string v1.name)), (.v (.slice a2 ((Rw.encL v1.args).length) c2))]), (.agg [(.v (.int .i64 v3.op)), (.v (.int .i64 v3.hd)), (.v (.int .i64 v3.n)), (.v (.slice a4 ((Tm.encL v3.args).length) c4))])] ⟨[.cells 61 [(.loc 2 0)], .cells 3 [(.v (.int .i64 v5))], .cells 63 [(.v (.slice a7 ((Dc.encL v6.sig).length) c7)), (.v (.slice a8 ((Mt.encL v6.metas).length) c8)), (.v (.int .i64 v6.first))]], [], [(.slice a2 ((Rw.encL v1.args).length) c2, .sl 3 (Rw.encL v1.args)), (.slice a4 ((Tm.encL v3.args).length) c4, .sl 4 (Tm.encL v3.args)), (.slice a7 ((Dc.encL v6.sig).length) c7, .sl 6 (Dc.encL v6.sig)), (.slice a8 ((Mt.encL v6.metas).length) c8, .sl 10 (Mt.encL v6.metas))]⟩ (fun o S' => ∃ (b1 : Option Addr) (d1 : Nat), o = .ret (.tup [(.agg [(.v (.int .i64 r.1.op)), (.v (.string r.1.name)), (.v (.slice b1 ((Rw.encL r.1.args).length) d1))]), (.v (.int .i64 r.2))]) ∧ S' = ⟨[.cells 61 [(.loc 2 0)], .cells 3 [(.v (.int .i64 v5))], .cells 63 [(.v (.slice a7 ((Dc.encL v6.sig).length) c7)), (.v (.slice a8 ((Mt.encL v6.metas).length) c8)), (.v (.int .i64 v6.first))]], [], [(.slice b1 ((Rw.encL r.1.args).length) d1, .sl 3 (Rw.encL r.1.args))]⟩)) := by
  intro N
  induction N with
  | zero =>
    refine ⟨?_, ?_, ?_, ?_⟩
    · intro n hn v1 v3 v4 a2 c2 a5 c5 a6 c6 r hr; obtain rfl : n = 0 := (by omega); exact no_some hr
    · intro n hn v1 v3 v4 a2 c2 a5 c5 a6 c6 r hr; obtain rfl : n = 0 := (by omega); exact no_some hr
    · intro n hn v1 v3 v5 v6 a2 c2 a4 c4 a7 c7 a8 c8 r hr; obtain rfl : n = 0 := (by omega); exact no_some hr
    · intro n hn v1 v3 v5 v6 a2 c2 a4 c4 a7 c7 a8 c8 r hr; obtain rfl : n = 0 := (by omega); exact no_some hr
  | succ N ih =>
    obtain ⟨ih1, ih2, ih3, ih4⟩ := ih
    refine ⟨?_, ?_, ?_, ?_⟩
    ·
      intro n hn v1 v3 v4 a2 c2 a5 c5 a6 c6 r hr
      rcases n with _ | n
      · exact no_some hr
      replace hn : n ≤ N := by omega
      rw [print_printer_raw.eq_2] at hr
      refine spec_of_body (N := 69) (m := 1) (dt := drawsOf [(7, .node [0, 1, 2, 3, 4, 5, 6] [(7, .node [8, 9, 10] [(11, .node [] [(12, .leaf [13])])]), (11, .node [] [(7, .node [8, 9, 10] [(12, .leaf [13])])])], [7], [6]), (8, .node [0, 1, 4, 7] [(2, .node [] [(3, .node [] [(5, .node [] [(6, .node [] [(8, .leaf [9])])])])])], [], [4]), (12, .node [0, 2, 3, 4, 5, 6] [(1, .node [] [(7, .node [8, 9] [(10, .leaf [11])])])], [7, 10], [])]) [] ttOK Tryz.func26 rfl Tryz.call26 Tryz.ntmps26 rfl rfl rfl mixed (by kernel_rfl) ?_
      refine AtIf.mk (fun h7 => ?_) (fun h7 => ?_)
      · replace hr := cond_t h7 hr
        obtain ⟨v8, h9, hr⟩ := bind_some hr
        refine Meets.nilRep 3 ?_
        refine (print_node_spec n 1 (⟨#[]⟩) ([]) none 0 _ h9).atR [0] rfl rfl rfl ?_
        rintro _ _ ⟨a10, c10, rfl, rfl⟩
        replace hr := Option.some.inj hr
        subst hr
        exact AtRet.gen ⟨[.cells 63 [(.v (.slice a5 ((Dc.encL v4.sig).length) c5)), (.v (.slice a6 ((Mt.encL v4.metas).length) c6)), (.v (.int .i64 v4.first))]], [], [(.slice a10 ((Rw.encL v8.args).length) c10, .sl 3 (Rw.encL v8.args))]⟩ (StLe.gen 1 [] [.old 4] rfl rfl rfl rfl rfl rfl rfl) rfl rfl ⟨a10, c10, rfl, rfl⟩
      · replace hr := cond_f h7 hr
        refine AtIf.mk (fun h11 => ?_) (fun h11 => ?_)
        · replace hr := cond_t h11 hr
          obtain ⟨v12, h13, hr⟩ := bind_some hr
          refine (ih2 n (by omega) v1 v3 v4 a2 c2 a5 c5 a6 c6 _ h13).frameR [0] [0, 1, 2] rfl rfl rfl rfl rfl rfl rfl rfl ?_
          rintro _ _ ⟨a14, c14, rfl, rfl⟩
          refine ⟨rfl, rfl, [.cells 63 [(.v (.slice a5 ((Dc.encL v4.sig).length) c5)), (.v (.slice a6 ((Mt.encL v4.metas).length) c6)), (.v (.int .i64 v4.first))]], rfl, ?_⟩
          replace hr := Option.some.inj hr
          subst hr
          exact AtRet.gen ⟨[.cells 63 [(.v (.slice a5 ((Dc.encL v4.sig).length) c5)), (.v (.slice a6 ((Mt.encL v4.metas).length) c6)), (.v (.int .i64 v4.first))]], [], [(.slice a14 ((Rw.encL v12.1.args).length) c14, .sl 3 (Rw.encL v12.1.args))]⟩ (StLe.gen 1 [] [.old 3] rfl rfl rfl rfl rfl rfl rfl) rfl rfl ⟨a14, c14, rfl, rfl⟩
        · replace hr := cond_f h11 hr
          refine AtIf.mk (fun h15 => ?_) (fun h15 => ?_)
          · replace hr := cond_t h15 hr
            obtain ⟨v16, h17, hr⟩ := bind_some hr
            obtain ⟨h18, h19⟩ := idx_some h17
            obtain ⟨v21, h22, hr⟩ := bind_some hr
            refine at_index ttOK 0 rfl rfl rfl rfl h18 (Tm.encL_get h19) ?_
            intro a24 c24 _ _
            refine ⟨?_, ?_⟩
            ·
              refine (ih1 n (by omega) v16 (IntKind.i64.wrap (v3 + 1)) v4 a24 c24 a5 c5 a6 c6 _ h22).frameR [0] [3, 1, 2] rfl rfl rfl rfl rfl rfl rfl rfl ?_
              rintro _ _ ⟨a25, c25, rfl, rfl⟩
              refine ⟨rfl, rfl, [.cells 63 [(.v (.slice a5 ((Dc.encL v4.sig).length) c5)), (.v (.slice a6 ((Mt.encL v4.metas).length) c6)), (.v (.int .i64 v4.first))]], rfl, ?_⟩
              refine ⟨OwnKeptBut.append, ?_⟩
              refine ⟨fun _ _ h => h, ?_⟩
              obtain ⟨v26, h27, hr⟩ := bind_some hr
              refine (print_printer_name_spec n v3 v4 a5 c5 a6 c6 _ h27).frameR [0] [1, 2] rfl rfl rfl rfl rfl rfl rfl rfl ?_
              rintro _ _ ⟨rfl, rfl⟩
              refine ⟨rfl, rfl, [.cells 63 [(.v (.slice a5 ((Dc.encL v4.sig).length) c5)), (.v (.slice a6 ((Mt.encL v4.metas).length) c6)), (.v (.int .i64 v4.first))]], rfl, ?_⟩
              refine ⟨fun _ _ h => h, ?_⟩
              obtain ⟨v28, h29, hr⟩ := bind_some hr
              refine Meets.nilRep 3 ?_
              refine (print_node_spec n 3 (⟨#[]⟩) ([]) none 0 _ h29).atR [0] rfl rfl rfl ?_
              rintro _ _ ⟨a30, c30, rfl, rfl⟩
              refine ⟨fun _ _ h => h, ?_⟩
              refine at_buildG (n := 2) ttOK 48 [.agg [.int .i64 v28.op, .str v28.name, .sl 3 (Rw.encL v28.args)], .agg [.int .i64 v21.1.op, .str v21.1.name, .sl 3 (Rw.encL v21.1.args)]] (ds' := (Rw.encL ([v28, v21.1]))) rfl (by kernel_rfl) ⟨⟨rfl, rfl, rfl, ⟨[(.v (.int .i64 v28.op))], _, rfl, rfl, ⟨[(.v (.string v28.name))], _, rfl, rfl, ⟨[(.v (.slice a30 ((Rw.encL v28.args).length) c30))], _, rfl, (.inl ⟨_, rfl, nth_mem (j := 6) rfl⟩), rfl⟩⟩⟩⟩, ⟨⟨rfl, rfl, rfl, ⟨[(.v (.int .i64 v21.1.op))], _, rfl, rfl, ⟨[(.v (.string v21.1.name))], _, rfl, rfl, ⟨[(.v (.slice a25 ((Rw.encL v21.1.args).length) c25))], _, rfl, (.inl ⟨_, rfl, nth_mem (j := 5) rfl⟩), rfl⟩⟩⟩⟩, trivial⟩⟩ rfl (by simp only [Rw.encL_eq, List.map_cons, List.map_nil, Rw.enc_eq] <;> rfl) (by decide) (by decide) ?_
              intro a31
              refine ⟨fun _ _ h => h, ?_⟩
              obtain ⟨v32, h33, hr⟩ := bind_some hr
              refine (print_node_spec n 7 v26 ([v28, v21.1]) a31 2 _ h33).atR [7] rfl rfl rfl ?_
              rintro _ _ ⟨a34, c34, rfl, rfl⟩
              refine ⟨fun _ _ h => h, ?_⟩
              refine ⟨fun _ _ h => h, ?_⟩
              replace hr := Option.some.inj hr
              subst hr
              exact AtRet.gen ⟨[.cells 63 [(.v (.slice a5 ((Dc.encL v4.sig).length) c5)), (.v (.slice a6 ((Mt.encL v4.metas).length) c6)), (.v (.int .i64 v4.first))]], [], [(.slice a34 ((Rw.encL v32.args).length) c34, .sl 3 (Rw.encL v32.args))]⟩ (StLe.gen 1 [] [.old 8] rfl rfl rfl rfl rfl rfl rfl) rfl rfl ⟨a34, c34, rfl, rfl⟩
            ·
              refine ⟨OwnKeptBut.append, ?_⟩
              refine (ih1 n (by omega) v16 (IntKind.i64.wrap (v3 + 1)) v4 a24 c24 a5 c5 a6 c6 _ h22).frameR [0] [3, 1, 2] rfl rfl rfl rfl rfl rfl rfl rfl ?_
              rintro _ _ ⟨a35, c35, rfl, rfl⟩
              refine ⟨rfl, rfl, [.cells 63 [(.v (.slice a5 ((Dc.encL v4.sig).length) c5)), (.v (.slice a6 ((Mt.encL v4.metas).length) c6)), (.v (.int .i64 v4.first))]], rfl, ?_⟩
              refine ⟨fun _ _ h => h, ?_⟩
              obtain ⟨v26, h27, hr⟩ := bind_some hr
              refine (print_printer_name_spec n v3 v4 a5 c5 a6 c6 _ h27).frameR [0] [1, 2] rfl rfl rfl rfl rfl rfl rfl rfl ?_
              rintro _ _ ⟨rfl, rfl⟩
              refine ⟨rfl, rfl, [.cells 63 [(.v (.slice a5 ((Dc.encL v4.sig).length) c5)), (.v (.slice a6 ((Mt.encL v4.metas).length) c6)), (.v (.int .i64 v4.first))]], rfl, ?_⟩
              refine ⟨fun _ _ h => h, ?_⟩
              obtain ⟨v28, h29, hr⟩ := bind_some hr
              refine Meets.nilRep 3 ?_
              refine (print_node_spec n 3 (⟨#[]⟩) ([]) none 0 _ h29).atR [0] rfl rfl rfl ?_
              rintro _ _ ⟨a30, c30, rfl, rfl⟩
              refine ⟨fun _ _ h => h, ?_⟩
              refine at_buildG (n := 2) ttOK 48 [.agg [.int .i64 v28.op, .str v28.name, .sl 3 (Rw.encL v28.args)], .agg [.int .i64 v21.1.op, .str v21.1.name, .sl 3 (Rw.encL v21.1.args)]] (ds' := (Rw.encL ([v28, v21.1]))) rfl (by kernel_rfl) ⟨⟨rfl, rfl, rfl, ⟨[(.v (.int .i64 v28.op))], _, rfl, rfl, ⟨[(.v (.string v28.name))], _, rfl, rfl, ⟨[(.v (.slice a30 ((Rw.encL v28.args).length) c30))], _, rfl, (.inl ⟨_, rfl, nth_mem (j := 6) rfl⟩), rfl⟩⟩⟩⟩, ⟨⟨rfl, rfl, rfl, ⟨[(.v (.int .i64 v21.1.op))], _, rfl, rfl, ⟨[(.v (.string v21.1.name))], _, rfl, rfl, ⟨[(.v (.slice a35 ((Rw.encL v21.1.args).length) c35))], _, rfl, (.inl ⟨_, rfl, nth_mem (j := 5) rfl⟩), rfl⟩⟩⟩⟩, trivial⟩⟩ rfl (by simp only [Rw.encL_eq, List.map_cons, List.map_nil, Rw.enc_eq] <;> rfl) (by decide) (by decide) ?_
              intro a31
              refine ⟨fun _ _ h => h, ?_⟩
              obtain ⟨v32, h33, hr⟩ := bind_some hr
              refine (print_node_spec n 7 v26 ([v28, v21.1]) a31 2 _ h33).atR [7] rfl rfl rfl ?_
              rintro _ _ ⟨a34, c34, rfl, rfl⟩
              refine ⟨fun _ _ h => h, ?_⟩
              refine ⟨fun _ _ h => h, ?_⟩
              replace hr := Option.some.inj hr
              subst hr
              exact AtRet.gen ⟨[.cells 63 [(.v (.slice a5 ((Dc.encL v4.sig).length) c5)), (.v (.slice a6 ((Mt.encL v4.metas).length) c6)), (.v (.int .i64 v4.first))]], [], [(.slice a34 ((Rw.encL v32.args).length) c34, .sl 3 (Rw.encL v32.args))]⟩ (StLe.gen 1 [] [.old 8] rfl rfl rfl rfl rfl rfl rfl) rfl rfl ⟨a34, c34, rfl, rfl⟩
          · replace hr := cond_f h15 hr
            obtain ⟨v35, h36, hr⟩ := bind_some hr
            refine (print_printer_head_spec n v1 v3 v4 a2 c2 a5 c5 a6 c6 _ h36).frameR [0] [0, 1, 2] rfl rfl rfl rfl rfl rfl rfl rfl ?_
            rintro _ _ ⟨rfl, rfl⟩
            refine ⟨rfl, rfl, [.cells 63 [(.v (.slice a5 ((Dc.encL v4.sig).length) c5)), (.v (.slice a6 ((Mt.encL v4.metas).length) c6)), (.v (.int .i64 v4.first))]], rfl, ?_⟩
            refine AtIf.mk (fun h37 => ?_) (fun h37 => ?_)
            · replace hr := cond_t h37 hr
              replace hr := Option.some.inj hr
              subst hr
              exact AtRet.gen ⟨[.cells 63 [(.v (.slice a5 ((Dc.encL v4.sig).length) c5)), (.v (.slice a6 ((Mt.encL v4.metas).length) c6)), (.v (.int .i64 v4.first))]], [], [(.slice none 0 0, .sl 3 [])]⟩ (StLe.gen 1 [] [.nil 3] rfl rfl rfl rfl rfl rfl rfl) rfl rfl ⟨none, 0, rfl, rfl⟩
            · replace hr := cond_f h37 hr
              obtain ⟨h38, hr⟩ := cond_need hr
              refine at_sliceG ttOK 0 v35.2.1 ((Tm.encL v1.args).length : Int) (ds' := (Tm.encL (v1.args.drop v35.2.1.toNat))) rfl rfl rfl (.inl ⟨_, rfl⟩) (.inr ⟨rfl, rfl⟩) h38 (by simp only [Tm.encL_eq]; exact sl_l ..) ?_
              intro a39 c39
              obtain ⟨v40, h41, hr⟩ := bind_some hr
              refine Meets.nilRep 3 ?_
              refine (print_node_spec n 2 v35.1 ([]) none 0 _ h41).atR [0] rfl rfl rfl ?_
              rintro _ _ ⟨a42, c42, rfl, rfl⟩
              refine ⟨fun _ _ h => h, ?_⟩
              obtain ⟨v43, h44, hr⟩ := bind_some hr
              refine (ih3 n (by omega) v40 (v1.args.drop v35.2.1.toNat) v3 v4 a42 c42 a39 c39 a5 c5 a6 c6 _ h44).frameR [1, 3, 0] [5, 4, 2, 3] rfl rfl rfl rfl rfl rfl rfl rfl ?_
              rintro _ _ ⟨a45, c45, rfl, rfl⟩
              refine ⟨rfl, rfl, [.cells 61 [(.loc 0 0)], .cells 3 [(.v (.int .i64 v3))], .cells 63 [(.v (.slice a5 ((Dc.encL v4.sig).length) c5)), (.v (.slice a6 ((Mt.encL v4.metas).length) c6)), (.v (.int .i64 v4.first))]], rfl, ?_⟩
              replace hr := Option.some.inj hr
              subst hr
              exact AtRet.gen ⟨[.cells 63 [(.v (.slice a5 ((Dc.encL v4.sig).length) c5)), (.v (.slice a6 ((Mt.encL v4.metas).length) c6)), (.v (.int .i64 v4.first))]], [], [(.slice a45 ((Rw.encL v43.1.args).length) c45, .sl 3 (Rw.encL v43.1.args))]⟩ (StLe.gen 1 [] [.old 6] rfl rfl rfl rfl rfl rfl rfl) rfl rfl ⟨a45, c45, rfl, rfl⟩
    ·
      intro n hn v1 v3 v4 a2 c2 a5 c5 a6 c6 r hr
      rcases n with _ | n
      · exact no_some hr
      replace hn : n ≤ N := by omega
      rw [print_printer_pi.eq_2] at hr
      refine spec_of_body (N := 73) (m := 1) (dt := drawsOf [(7, .node [0, 1, 3, 4, 7] [(2, .node [] [(5, .node [] [(6, .node [] [(8, .leaf [9])])])]), (5, .node [] [(2, .node [] [(6, .node [] [(8, .leaf [9])])])])], [], [2])]) [] ttOK Tryz.func53 rfl Tryz.call53 Tryz.ntmps53 rfl rfl rfl mixed (by kernel_rfl) ?_
      obtain ⟨v7, h8, hr⟩ := bind_some hr
      obtain ⟨h9, h10⟩ := idx_some h8
      refine at_index ttOK 0 rfl rfl rfl rfl h9 (Tm.encL_get h10) ?_
      intro a11 c11 _ _
      obtain ⟨v12, h13, hr⟩ := bind_some hr
      refine (ih1 n (by omega) v7 v3 v4 a11 c11 a5 c5 a6 c6 _ h13).frameR [0] [3, 1, 2] rfl rfl rfl rfl rfl rfl rfl rfl ?_
      rintro _ _ ⟨a14, c14, rfl, rfl⟩
      refine ⟨rfl, rfl, [.cells 63 [(.v (.slice a5 ((Dc.encL v4.sig).length) c5)), (.v (.slice a6 ((Mt.encL v4.metas).length) c6)), (.v (.int .i64 v4.first))]], rfl, ?_⟩
      refine AtIf.mk (fun h15 => ?_) (fun h15 => ?_)
      · replace hr := cond_t h15 hr
        replace hr := Option.some.inj hr
        subst hr
        exact AtRet.gen ⟨[.cells 63 [(.v (.slice a5 ((Dc.encL v4.sig).length) c5)), (.v (.slice a6 ((Mt.encL v4.metas).length) c6)), (.v (.int .i64 v4.first))]], [], [(.slice none 0 0, .sl 3 [])]⟩ (StLe.gen 1 [] [.nil 3] rfl rfl rfl rfl rfl rfl rfl) rfl rfl ⟨none, 0, rfl, rfl⟩
      · replace hr := cond_f h15 hr
        obtain ⟨v16, h17, hr⟩ := bind_some hr
        obtain ⟨h18, h19⟩ := idx_some h17
        refine at_index ttOK 0 rfl rfl rfl rfl h18 (Tm.encL_get h19) ?_
        intro a20 c20 _ _
        obtain ⟨v21, h22, hr⟩ := bind_some hr
        refine (term_Occurs_spec n v16 0 a20 c20 _ h22).atR [5] rfl rfl rfl ?_
        rintro _ _ ⟨rfl, rfl⟩
        refine AtIf.mk (fun h23 => ?_) (fun h23 => ?_)
        · replace hr := cond_t h23 hr
          obtain ⟨v24, h25, hr⟩ := bind_some hr
          obtain ⟨h26, h27⟩ := idx_some h25
          refine at_index ttOK 0 rfl rfl rfl rfl h26 (Tm.encL_get h27) ?_
          intro a28 c28 _ _
          obtain ⟨v29, h30, hr⟩ := bind_some hr
          refine (ih1 n (by omega) v24 (IntKind.i64.wrap (v3 + 1)) v4 a28 c28 a5 c5 a6 c6 _ h30).frameR [0] [6, 1, 2] rfl rfl rfl rfl rfl rfl rfl rfl ?_
          rintro _ _ ⟨a31, c31, rfl, rfl⟩
          refine ⟨rfl, rfl, [.cells 63 [(.v (.slice a5 ((Dc.encL v4.sig).length) c5)), (.v (.slice a6 ((Mt.encL v4.metas).length) c6)), (.v (.int .i64 v4.first))]], rfl, ?_⟩
          obtain ⟨v32, h33, hr⟩ := bind_some hr
          obtain ⟨v35, h36, hr⟩ := bind_some hr
          refine ⟨?_, ?_⟩
          ·
            refine (print_printer_name_spec n v3 v4 a5 c5 a6 c6 _ h33).frameR [0] [1, 2] rfl rfl rfl rfl rfl rfl rfl rfl ?_
            rintro _ _ ⟨rfl, rfl⟩
            refine ⟨rfl, rfl, [.cells 63 [(.v (.slice a5 ((Dc.encL v4.sig).length) c5)), (.v (.slice a6 ((Mt.encL v4.metas).length) c6)), (.v (.int .i64 v4.first))]], rfl, ?_⟩
            refine ⟨fun _ _ h => h, ?_⟩
            refine at_buildG (n := 2) ttOK 48 [.agg [.int .i64 v12.1.op, .str v12.1.name, .sl 3 (Rw.encL v12.1.args)], .agg [.int .i64 v29.1.op, .str v29.1.name, .sl 3 (Rw.encL v29.1.args)]] (ds' := (Rw.encL ([v12.1, v29.1]))) rfl (by kernel_rfl) ⟨⟨rfl, rfl, rfl, ⟨[(.v (.int .i64 v12.1.op))], _, rfl, rfl, ⟨[(.v (.string v12.1.name))], _, rfl, rfl, ⟨[(.v (.slice a14 ((Rw.encL v12.1.args).length) c14))], _, rfl, (.inl ⟨_, rfl, nth_mem (j := 4) rfl⟩), rfl⟩⟩⟩⟩, ⟨⟨rfl, rfl, rfl, ⟨[(.v (.int .i64 v29.1.op))], _, rfl, rfl, ⟨[(.v (.string v29.1.name))], _, rfl, rfl, ⟨[(.v (.slice a31 ((Rw.encL v29.1.args).length) c31))], _, rfl, (.inl ⟨_, rfl, nth_mem (j := 7) rfl⟩), rfl⟩⟩⟩⟩, trivial⟩⟩ rfl (by simp only [Rw.encL_eq, List.map_cons, List.map_nil, Rw.enc_eq] <;> rfl) (by decide) (by decide) ?_
            intro a38
            refine ⟨fun _ _ h => h, ?_⟩
            refine (print_node_spec n 5 v32 ([v12.1, v29.1]) a38 2 _ h36).atR [8] rfl rfl rfl ?_
            rintro _ _ ⟨a39, c39, rfl, rfl⟩
            refine ⟨fun _ _ h => h, ?_⟩
            refine ⟨fun _ _ h => h, ?_⟩
            replace hr := Option.some.inj hr
            subst hr
            exact AtRet.gen ⟨[.cells 63 [(.v (.slice a5 ((Dc.encL v4.sig).length) c5)), (.v (.slice a6 ((Mt.encL v4.metas).length) c6)), (.v (.int .i64 v4.first))]], [], [(.slice a39 ((Rw.encL v35.args).length) c39, .sl 3 (Rw.encL v35.args))]⟩ (StLe.gen 1 [] [.old 9] rfl rfl rfl rfl rfl rfl rfl) rfl rfl ⟨a39, c39, rfl, rfl⟩
          ·
            refine at_buildG (n := 2) ttOK 48 [.agg [.int .i64 v12.1.op, .str v12.1.name, .sl 3 (Rw.encL v12.1.args)], .agg [.int .i64 v29.1.op, .str v29.1.name, .sl 3 (Rw.encL v29.1.args)]] (ds' := (Rw.encL ([v12.1, v29.1]))) rfl (by kernel_rfl) ⟨⟨rfl, rfl, rfl, ⟨[(.v (.int .i64 v12.1.op))], _, rfl, rfl, ⟨[(.v (.string v12.1.name))], _, rfl, rfl, ⟨[(.v (.slice a14 ((Rw.encL v12.1.args).length) c14))], _, rfl, (.inl ⟨_, rfl, nth_mem (j := 4) rfl⟩), rfl⟩⟩⟩⟩, ⟨⟨rfl, rfl, rfl, ⟨[(.v (.int .i64 v29.1.op))], _, rfl, rfl, ⟨[(.v (.string v29.1.name))], _, rfl, rfl, ⟨[(.v (.slice a31 ((Rw.encL v29.1.args).length) c31))], _, rfl, (.inl ⟨_, rfl, nth_mem (j := 7) rfl⟩), rfl⟩⟩⟩⟩, trivial⟩⟩ rfl (by simp only [Rw.encL_eq, List.map_cons, List.map_nil, Rw.enc_eq] <;> rfl) (by decide) (by decide) ?_
            intro a40
            refine ⟨fun _ _ h => h, ?_⟩
            refine (print_printer_name_spec n v3 v4 a5 c5 a6 c6 _ h33).frameR [0] [1, 2] rfl rfl rfl rfl rfl rfl rfl rfl ?_
            rintro _ _ ⟨rfl, rfl⟩
            refine ⟨rfl, rfl, [.cells 63 [(.v (.slice a5 ((Dc.encL v4.sig).length) c5)), (.v (.slice a6 ((Mt.encL v4.metas).length) c6)), (.v (.int .i64 v4.first))]], rfl, ?_⟩
            refine ⟨fun _ _ h => h, ?_⟩
            refine (print_node_spec n 5 v32 ([v12.1, v29.1]) a40 2 _ h36).atR [8] rfl rfl rfl ?_
            rintro _ _ ⟨a41, c41, rfl, rfl⟩
            refine ⟨fun _ _ h => h, ?_⟩
            refine ⟨fun _ _ h => h, ?_⟩
            replace hr := Option.some.inj hr
            subst hr
            exact AtRet.gen ⟨[.cells 63 [(.v (.slice a5 ((Dc.encL v4.sig).length) c5)), (.v (.slice a6 ((Mt.encL v4.metas).length) c6)), (.v (.int .i64 v4.first))]], [], [(.slice a41 ((Rw.encL v35.args).length) c41, .sl 3 (Rw.encL v35.args))]⟩ (StLe.gen 1 [] [.old 9] rfl rfl rfl rfl rfl rfl rfl) rfl rfl ⟨a41, c41, rfl, rfl⟩
        · replace hr := cond_f h23 hr
          obtain ⟨v40, h41, hr⟩ := bind_some hr
          obtain ⟨h42, h43⟩ := idx_some h41
          refine at_index ttOK 0 rfl rfl rfl rfl h42 (Tm.encL_get h43) ?_
          intro a44 c44 _ _
          obtain ⟨v45, h46, hr⟩ := bind_some hr
          refine (term_Moved_spec n v40 (-1) 0 a44 c44 _ h46).atR [6] rfl rfl rfl ?_
          rintro _ _ ⟨a47, c47, rfl, rfl⟩
          obtain ⟨v48, h49, hr⟩ := bind_some hr
          refine (ih1 n (by omega) v45 v3 v4 a47 c47 a5 c5 a6 c6 _ h49).frameR [0] [7, 1, 2] rfl rfl rfl rfl rfl rfl rfl rfl ?_
          rintro _ _ ⟨a50, c50, rfl, rfl⟩
          refine ⟨rfl, rfl, [.cells 63 [(.v (.slice a5 ((Dc.encL v4.sig).length) c5)), (.v (.slice a6 ((Mt.encL v4.metas).length) c6)), (.v (.int .i64 v4.first))]], rfl, ?_⟩
          refine at_buildG (n := 2) ttOK 48 [.agg [.int .i64 v12.1.op, .str v12.1.name, .sl 3 (Rw.encL v12.1.args)], .agg [.int .i64 v48.1.op, .str v48.1.name, .sl 3 (Rw.encL v48.1.args)]] (ds' := (Rw.encL ([v12.1, v48.1]))) rfl (by kernel_rfl) ⟨⟨rfl, rfl, rfl, ⟨[(.v (.int .i64 v12.1.op))], _, rfl, rfl, ⟨[(.v (.string v12.1.name))], _, rfl, rfl, ⟨[(.v (.slice a14 ((Rw.encL v12.1.args).length) c14))], _, rfl, (.inl ⟨_, rfl, nth_mem (j := 4) rfl⟩), rfl⟩⟩⟩⟩, ⟨⟨rfl, rfl, rfl, ⟨[(.v (.int .i64 v48.1.op))], _, rfl, rfl, ⟨[(.v (.string v48.1.name))], _, rfl, rfl, ⟨[(.v (.slice a50 ((Rw.encL v48.1.args).length) c50))], _, rfl, (.inl ⟨_, rfl, nth_mem (j := 8) rfl⟩), rfl⟩⟩⟩⟩, trivial⟩⟩ rfl (by simp only [Rw.encL_eq, List.map_cons, List.map_nil, Rw.enc_eq] <;> rfl) (by decide) (by decide) ?_
          intro a51
          obtain ⟨v52, h53, hr⟩ := bind_some hr
          refine (print_node_spec n 6 (⟨#[]⟩) ([v12.1, v48.1]) a51 2 _ h53).atR [9] rfl rfl rfl ?_
          rintro _ _ ⟨a54, c54, rfl, rfl⟩
          replace hr := Option.some.inj hr
          subst hr
          exact AtRet.gen ⟨[.cells 63 [(.v (.slice a5 ((Dc.encL v4.sig).length) c5)), (.v (.slice a6 ((Mt.encL v4.metas).length) c6)), (.v (.int .i64 v4.first))]], [], [(.slice a54 ((Rw.encL v52.args).length) c54, .sl 3 (Rw.encL v52.args))]⟩ (StLe.gen 1 [] [.old 10] rfl rfl rfl rfl rfl rfl rfl) rfl rfl ⟨a54, c54, rfl, rfl⟩
    ·
      intro n hn v1 v3 v5 v6 a2 c2 a4 c4 a7 c7 a8 c8 r hr
      rcases n with _ | n
      · exact no_some hr
      replace hn : n ≤ N := by omega
      rw [print_fold_print_printer_raw_1.eq_2] at hr
      refine spec_of_body (N := 32) (m := 3) (dt := fun _ => none) [] ttOK Tryz.func54 rfl Tryz.call54 Tryz.ntmps54 rfl rfl rfl mixed (by kernel_rfl) ?_
      refine AtLoop.mk ⟨Nat × Rw × Option Addr × Nat × Int, fun x => [(2, (.fn (.func 55) [] [(.loc 0 0), (.loc 1 0)])), (3, (.loc 3 0)), (6, (.loc 4 0)), (12, (.v (.slice a4 ((Tm.encL v3).length) c4))), (13, (.v (.int .i64 ((Tm.encL v3).length : Int)))), (14, (.v (.int .i64 x.2.2.2.2)))], fun x => ⟨[.cells 61 [(.loc 2 0)], .cells 3 [(.v (.int .i64 v5))], .cells 63 [(.v (.slice a7 ((Dc.encL v6.sig).length) c7)), (.v (.slice a8 ((Mt.encL v6.metas).length) c8)), (.v (.int .i64 v6.first))], .cells 31 [(.v (.int .i64 x.2.1.op)), (.v (.string x.2.1.name)), (.v (.slice x.2.2.1 ((Rw.encL x.2.1.args).length) x.2.2.2.1))], .cells 31 [(.v (.int .i64 0)), (.v (.string ByteArray.empty)), (.v (.slice none 0 0))]], [], [(.slice x.2.2.1 ((Rw.encL x.2.1.args).length) x.2.2.2.1, .sl 3 (Rw.encL x.2.1.args)), (.slice a2 ((Rw.encL v1.args).length) c2, .sl 3 (Rw.encL v1.args)), (.slice a4 ((Tm.encL v3).length) c4, .sl 4 (Tm.encL v3)), (.slice a7 ((Dc.encL v6.sig).length) c7, .sl 6 (Dc.encL v6.sig)), (.slice a8 ((Mt.encL v6.metas).length) c8, .sl 10 (Mt.encL v6.metas))]⟩, fun x => x.1 ≤ N ∧ print_fold_print_printer_raw_1_L1 x.1 v3 v5 v6 x.2.1 x.2.2.2.2 = some r, fun x => x.1, (n, v1, a2, c2, 0), ⟨by omega, hr⟩, ⟨rfl, rfl, rfl, rfl, rfl, rfl, trivial⟩, (StLe.gen 5 [] [.old 0, .old 0, .old 1, .old 2, .old 3] rfl rfl rfl rfl rfl rfl rfl), fun x _ => ⟨rfl, rfl⟩, ?_⟩
      rintro ⟨n, v19, a20, c20, v21⟩ HH
      obtain ⟨hn, hr⟩ : n ≤ N ∧ print_fold_print_printer_raw_1_L1 n v3 v5 v6 v19 v21 = some r := HH
      rcases n with _ | n
      · exact no_some hr
      rw [print_fold_print_printer_raw_1_L1.eq_2] at hr
      refine AtIf.mk (fun h22 => ?_) (fun h22 => ?_)
      · replace hr := cond_t h22 hr
        obtain ⟨v23, h24, hr⟩ := bind_some hr
        obtain ⟨h25, h26⟩ := idx_some h24
        refine at_index ttOK 2 rfl rfl rfl rfl h25 (Tm.encL_get h26) ?_
        intro a27 c27 _ _
        obtain ⟨v28, h29, hr⟩ := bind_some hr
        refine (ih4 n (by omega) v19 v23 v5 v6 a20 c20 a27 c27 a7 c7 a8 c8 _ h29).frameR [0, 1, 2] [0, 5, 3, 4] rfl rfl rfl rfl rfl rfl rfl rfl ?_
        rintro _ _ ⟨a30, c30, rfl, rfl⟩
        refine ⟨rfl, rfl, [.cells 61 [(.loc 2 0)], .cells 3 [(.v (.int .i64 v5))], .cells 63 [(.v (.slice a7 ((Dc.encL v6.sig).length) c7)), (.v (.slice a8 ((Mt.encL v6.metas).length) c8)), (.v (.int .i64 v6.first))]], rfl, ?_⟩
        refine AtIf.mk (fun h31 => ?_) (fun h31 => ?_)
        · replace hr := cond_t h31 hr
          replace hr := Option.some.inj hr
          subst hr
          exact AtRet.gen ⟨[.cells 61 [(.loc 2 0)], .cells 3 [(.v (.int .i64 v5))], .cells 63 [(.v (.slice a7 ((Dc.encL v6.sig).length) c7)), (.v (.slice a8 ((Mt.encL v6.metas).length) c8)), (.v (.int .i64 v6.first))]], [], [(.slice a20 ((Rw.encL v19.args).length) c20, .sl 3 (Rw.encL v19.args))]⟩ (StLe.gen 3 [] [.old 0] rfl rfl rfl rfl rfl rfl rfl) rfl rfl ⟨a20, c20, rfl, rfl⟩
        · replace hr := cond_f h31 hr
          exact ⟨(n, v28.1, a30, c30, (IntKind.i64.wrap (v21 + 1))), ⟨by omega, hr⟩, Nat.lt_succ_self _, ⟨rfl, rfl, rfl, rfl, rfl, rfl, trivial⟩, (StLe.gen 5 [] [.old 6, .old 1, .old 2, .old 3, .old 4] rfl rfl rfl rfl rfl rfl rfl)⟩
      · replace hr := cond_f h22 hr
        replace hr := Option.some.inj hr
        subst hr
        exact AtRet.gen ⟨[.cells 61 [(.loc 2 0)], .cells 3 [(.v (.int .i64 v5))], .cells 63 [(.v (.slice a7 ((Dc.encL v6.sig).length) c7)), (.v (.slice a8 ((Mt.encL v6.metas).length) c8)), (.v (.int .i64 v6.first))]], [], [(.slice a20 ((Rw.encL v19.args).length) c20, .sl 3 (Rw.encL v19.args))]⟩ (StLe.gen 3 [] [.old 0] rfl rfl rfl rfl rfl rfl rfl) rfl rfl ⟨a20, c20, rfl, rfl⟩
    ·
      intro n hn v1 v3 v5 v6 a2 c2 a4 c4 a7 c7 a8 c8 r hr
      rcases n with _ | n
      · exact no_some hr
      replace hn : n ≤ N := by omega
      rw [print_printer_raw_1.eq_2] at hr
      refine spec_of_body (N := 22) (m := 3) (dt := fun _ => none) [] ttOK Tryz.func55 rfl Tryz.call55 Tryz.ntmps55 rfl rfl rfl mixed (by kernel_rfl) ?_
      obtain ⟨v9, h10, hr⟩ := bind_some hr
      refine (ih1 n (by omega) v3 v5 v6 a4 c4 a7 c7 a8 c8 _ h10).frameR [2] [1, 2, 3] rfl rfl rfl rfl rfl rfl rfl rfl ?_
      rintro _ _ ⟨a11, c11, rfl, rfl⟩
      refine ⟨rfl, rfl, [.cells 63 [(.v (.slice a7 ((Dc.encL v6.sig).length) c7)), (.v (.slice a8 ((Mt.encL v6.metas).length) c8)), (.v (.int .i64 v6.first))]], rfl, ?_⟩
      refine at_buildG (n := 2) ttOK 48 [.agg [.int .i64 v1.op, .str v1.name, .sl 3 (Rw.encL v1.args)], .agg [.int .i64 v9.1.op, .str v9.1.name, .sl 3 (Rw.encL v9.1.args)]] (ds' := (Rw.encL ([v1, v9.1]))) rfl (by kernel_rfl) ⟨⟨rfl, rfl, rfl, ⟨[(.v (.int .i64 v1.op))], _, rfl, rfl, ⟨[(.v (.string v1.name))], _, rfl, rfl, ⟨[(.v (.slice a2 ((Rw.encL v1.args).length) c2))], _, rfl, (.inl ⟨_, rfl, nth_mem (j := 0) rfl⟩), rfl⟩⟩⟩⟩, ⟨⟨rfl, rfl, rfl, ⟨[(.v (.int .i64 v9.1.op))], _, rfl, rfl, ⟨[(.v (.string v9.1.name))], _, rfl, rfl, ⟨[(.v (.slice a11 ((Rw.encL v9.1.args).length) c11))], _, rfl, (.inl ⟨_, rfl, nth_mem (j := 4) rfl⟩), rfl⟩⟩⟩⟩, trivial⟩⟩ rfl (by simp only [Rw.encL_eq, List.map_cons, List.map_nil, Rw.enc_eq] <;> rfl) (by decide) (by decide) ?_
      intro a12
      obtain ⟨v13, h14, hr⟩ := bind_some hr
      refine (print_node_spec n 4 (⟨#[]⟩) ([v1, v9.1]) a12 2 _ h14).atR [5] rfl rfl rfl ?_
      rintro _ _ ⟨a15, c15, rfl, rfl⟩
      replace hr := Option.some.inj hr
      subst hr
      exact AtRet.gen ⟨[.cells 61 [(.loc 2 0)], .cells 3 [(.v (.int .i64 v5))], .cells 63 [(.v (.slice a7 ((Dc.encL v6.sig).length) c7)), (.v (.slice a8 ((Mt.encL v6.metas).length) c8)), (.v (.int .i64 v6.first))]], [], [(.slice a15 ((Rw.encL v13.args).length) c15, .sl 3 (Rw.encL v13.args))]⟩ (StLe.gen 3 [] [.old 6] rfl rfl rfl rfl rfl rfl rfl) rfl rfl ⟨a15, c15, rfl, rfl⟩
theorem print_printer_raw_spec (n : Nat) (v1 : Tm) (v3 : Int) (v4 : Prt) (a2 : Option Addr) (c2 : Nat) (a5 : Option Addr) (c5 : Nat) (a6 : Option Addr) (c6 : Nat) (r : Rw × Int) (hr : print_printer_raw n v1 v3 v4 = some r) : Meets Tryz.prog (.val (.fn (.func 26) [] [])) [(.loc 0 0), (.agg [(.v (.int .i64 v1.op)), (.v (.int .i64 v1.hd)), (.v (.int .i64 v1.n)), (.v (.slice a2 ((Tm.encL v1.args).length) c2))]), (.v (.int .i64 v3))] ⟨[.cells 63 [(.v (.slice a5 ((Dc.encL v4.sig).length) c5)), (.v (.slice a6 ((Mt.encL v4.metas).length) c6)), (.v (.int .i64 v4.first))]], [], [(.slice a2 ((Tm.encL v1.args).length) c2, .sl 4 (Tm.encL v1.args)), (.slice a5 ((Dc.encL v4.sig).length) c5, .sl 6 (Dc.encL v4.sig)), (.slice a6 ((Mt.encL v4.metas).length) c6, .sl 10 (Mt.encL v4.metas))]⟩ (fun o S' => ∃ (b1 : Option Addr) (d1 : Nat), o = .ret (.tup [(.agg [(.v (.int .i64 r.1.op)), (.v (.string r.1.name)), (.v (.slice b1 ((Rw.encL r.1.args).length) d1))]), (.v (.int .i64 r.2))]) ∧ S' = ⟨[.cells 63 [(.v (.slice a5 ((Dc.encL v4.sig).length) c5)), (.v (.slice a6 ((Mt.encL v4.metas).length) c6)), (.v (.int .i64 v4.first))]], [], [(.slice b1 ((Rw.encL r.1.args).length) d1, .sl 3 (Rw.encL r.1.args))]⟩) := (print_printer_raw_specN n).1 n (Nat.le_refl _) v1 v3 v4 a2 c2 a5 c5 a6 c6 r hr
theorem print_printer_pi_spec (n : Nat) (v1 : Tm) (v3 : Int) (v4 : Prt) (a2 : Option Addr) (c2 : Nat) (a5 : Option Addr) (c5 : Nat) (a6 : Option Addr) (c6 : Nat) (r : Rw × Int) (hr : print_printer_pi n v1 v3 v4 = some r) : Meets Tryz.prog (.val (.fn (.func 53) [] [])) [(.loc 0 0), (.agg [(.v (.int .i64 v1.op)), (.v (.int .i64 v1.hd)), (.v (.int .i64 v1.n)), (.v (.slice a2 ((Tm.encL v1.args).length) c2))]), (.v (.int .i64 v3))] ⟨[.cells 63 [(.v (.slice a5 ((Dc.encL v4.sig).length) c5)), (.v (.slice a6 ((Mt.encL v4.metas).length) c6)), (.v (.int .i64 v4.first))]], [], [(.slice a2 ((Tm.encL v1.args).length) c2, .sl 4 (Tm.encL v1.args)), (.slice a5 ((Dc.encL v4.sig).length) c5, .sl 6 (Dc.encL v4.sig)), (.slice a6 ((Mt.encL v4.metas).length) c6, .sl 10 (Mt.encL v4.metas))]⟩ (fun o S' => ∃ (b1 : Option Addr) (d1 : Nat), o = .ret (.tup [(.agg [(.v (.int .i64 r.1.op)), (.v (.string r.1.name)), (.v (.slice b1 ((Rw.encL r.1.args).length) d1))]), (.v (.int .i64 r.2))]) ∧ S' = ⟨[.cells 63 [(.v (.slice a5 ((Dc.encL v4.sig).length) c5)), (.v (.slice a6 ((Mt.encL v4.metas).length) c6)), (.v (.int .i64 v4.first))]], [], [(.slice b1 ((Rw.encL r.1.args).length) d1, .sl 3 (Rw.encL r.1.args))]⟩) := (print_printer_raw_specN n).2.1 n (Nat.le_refl _) v1 v3 v4 a2 c2 a5 c5 a6 c6 r hr
theorem print_fold_print_printer_raw_1_spec (n : Nat) (v1 : Rw) (v3 : (List Tm)) (v5 : Int) (v6 : Prt) (a2 : Option Addr) (c2 : Nat) (a4 : Option Addr) (c4 : Nat) (a7 : Option Addr) (c7 : Nat) (a8 : Option Addr) (c8 : Nat) (r : Rw × Int) (hr : print_fold_print_printer_raw_1 n v1 v3 v5 v6 = some r) : Meets Tryz.prog (.val (.fn (.func 54) [] [])) [(.agg [(.v (.int .i64 v1.op)), (.v (.string v1.name)), (.v (.slice a2 ((Rw.encL v1.args).length) c2))]), (.v (.slice a4 ((Tm.encL v3).length) c4)), (.fn (.func 55) [] [(.loc 0 0), (.loc 1 0)])] ⟨[.cells 61 [(.loc 2 0)], .cells 3 [(.v (.int .i64 v5))], .cells 63 [(.v (.slice a7 ((Dc.encL v6.sig).length) c7)), (.v (.slice a8 ((Mt.encL v6.metas).length) c8)), (.v (.int .i64 v6.first))]], [], [(.slice a2 ((Rw.encL v1.args).length) c2, .sl 3 (Rw.encL v1.args)), (.slice a4 ((Tm.encL v3).length) c4, .sl 4 (Tm.encL v3)), (.slice a7 ((Dc.encL v6.sig).length) c7, .sl 6 (Dc.encL v6.sig)), (.slice a8 ((Mt.encL v6.metas).length) c8, .sl 10 (Mt.encL v6.metas))]⟩ (fun o S' => ∃ (b1 : Option Addr) (d1 : Nat), o = .ret (.tup [(.agg [(.v (.int .i64 r.1.op)), (.v (.string r.1.name)), (.v (.slice b1 ((Rw.encL r.1.args).length) d1))]), (.v (.int .i64 r.2))]) ∧ S' = ⟨[.cells 61 [(.loc 2 0)], .cells 3 [(.v (.int .i64 v5))], .cells 63 [(.v (.slice a7 ((Dc.encL v6.sig).length) c7)), (.v (.slice a8 ((Mt.encL v6.metas).length) c8)), (.v (.int .i64 v6.first))]], [], [(.slice b1 ((Rw.encL r.1.args).length) d1, .sl 3 (Rw.encL r.1.args))]⟩) := (print_printer_raw_specN n).2.2.1 n (Nat.le_refl _) v1 v3 v5 v6 a2 c2 a4 c4 a7 c7 a8 c8 r hr
theorem print_printer_raw_1_spec (n : Nat) (v1 : Rw) (v3 : Tm) (v5 : Int) (v6 : Prt) (a2 : Option Addr) (c2 : Nat) (a4 : Option Addr) (c4 : Nat) (a7 : Option Addr) (c7 : Nat) (a8 : Option Addr) (c8 : Nat) (r : Rw × Int) (hr : print_printer_raw_1 n v1 v3 v5 v6 = some r) : Meets Tryz.prog (.val (.fn (.func 55) [] [(.loc 0 0), (.loc 1 0)])) [(.agg [(.v (.int .i64 v1.op)), (.v (.string v1.name)), (.v (.slice a2 ((Rw.encL v1.args).length) c2))]), (.agg [(.v (.int .i64 v3.op)), (.v (.int .i64 v3.hd)), (.v (.int .i64 v3.n)), (.v (.slice a4 ((Tm.encL v3.args).length) c4))])] ⟨[.cells 61 [(.loc 2 0)], .cells 3 [(.v (.int .i64 v5))], .cells 63 [(.v (.slice a7 ((Dc.encL v6.sig).length) c7)), (.v (.slice a8 ((Mt.encL v6.metas).length) c8)), (.v (.int .i64 v6.first))]], [], [(.slice a2 ((Rw.encL v1.args).length) c2, .sl 3 (Rw.encL v1.args)), (.slice a4 ((Tm.encL v3.args).length) c4, .sl 4 (Tm.encL v3.args)), (.slice a7 ((Dc.encL v6.sig).length) c7, .sl 6 (Dc.encL v6.sig)), (.slice a8 ((Mt.encL v6.metas).length) c8, .sl 10 (Mt.encL v6.metas))]⟩ (fun o S' => ∃ (b1 : Option Addr) (d1 : Nat), o = .ret (.tup [(.agg [(.v (.int .i64 r.1.op)), (.v (.string r.1.name)), (.v (.slice b1 ((Rw.encL r.1.args).length) d1))]), (.v (.int .i64 r.2))]) ∧ S' = ⟨[.cells 61 [(.loc 2 0)], .cells 3 [(.v (.int .i64 v5))], .cells 63 [(.v (.slice a7 ((Dc.encL v6.sig).length) c7)), (.v (.slice a8 ((Mt.encL v6.metas).length) c8)), (.v (.int .i64 v6.first))]], [], [(.slice b1 ((Rw.encL r.1.args).length) d1, .sl 3 (Rw.encL r.1.args))]⟩) := (print_printer_raw_specN n).2.2.2 n (Nat.le_refl _) v1 v3 v5 v6 a2 c2 a4 c4 a7 c7 a8 c8 r hr
def print_Raw : Nat → (List Dc) → (List Mt) → Int → Tm → Option (Rw × Int)
  | 0, _, _, _, _ => none
  | n + 1, v1, v3, v5, v6 =>
    (print_good n v1 v3 ([v6])).bind (fun v9 =>
    cond (((!v9) || (decide (v5 < 0))) || (decide (v5 > 30))) (
    some ((Rw.mk 0 ByteArray.empty ([])), 2)) (
    (print_printer_scoped n v6 v5 (Prt.mk v1 v3 0)).bind (fun v12 =>
    cond (v12 != 0) (
    some ((Rw.mk 0 ByteArray.empty ([])), v12)) (
    (print_printer_raw n v6 v5 (Prt.mk v1 v3 0)).bind (fun v15 =>
    (print_kept n v15.1 v15.2).bind (fun v18 =>
    some (v18.1, v18.2)))))))
theorem print_Raw_spec (n : Nat) (v1 : (List Dc)) (v3 : (List Mt)) (v5 : Int) (v6 : Tm) (a2 : Option Addr) (c2 : Nat) (a4 : Option Addr) (c4 : Nat) (a7 : Option Addr) (c7 : Nat) (r : Rw × Int) (hr : print_Raw n v1 v3 v5 v6 = some r) : Pure Tryz.prog (.val (.fn (.func 6) [] [])) [(.v (.slice a2 ((Dc.encL v1).length) c2)), (.v (.slice a4 ((Mt.encL v3).length) c4)), (.v (.int .i64 v5)), (.agg [(.v (.int .i64 v6.op)), (.v (.int .i64 v6.hd)), (.v (.int .i64 v6.n)), (.v (.slice a7 ((Tm.encL v6.args).length) c7))])] [(.slice a2 ((Dc.encL v1).length) c2, .sl 6 (Dc.encL v1)), (.slice a4 ((Mt.encL v3).length) c4, .sl 10 (Mt.encL v3)), (.slice a7 ((Tm.encL v6.args).length) c7, .sl 4 (Tm.encL v6.args))] (fun r' out => ∃ (b1 : Option Addr) (d1 : Nat), r' = (.tup [(.agg [(.v (.int .i64 r.1.op)), (.v (.string r.1.name)), (.v (.slice b1 ((Rw.encL r.1.args).length) d1))]), (.v (.int .i64 r.2))]) ∧ out = [(.slice b1 ((Rw.encL r.1.args).length) d1, .sl 3 (Rw.encL r.1.args))]) := by
  rcases n with _ | n
  · exact no_some hr
  rw [print_Raw.eq_2] at hr
  refine spec_of_body (N := 48) (m := 0) (dt := fun _ => none) [] ttOK Tryz.func6 rfl Tryz.call6 Tryz.ntmps6 rfl rfl rfl mixed (by kernel_rfl) ?_
  refine at_buildG (n := 1) ttOK 48 [.agg [.int .i64 v6.op, .int .i64 v6.hd, .int .i64 v6.n, .sl 4 (Tm.encL v6.args)]] (ds' := (Tm.encL ([v6]))) rfl (by kernel_rfl) ⟨⟨rfl, rfl, rfl, ⟨[(.v (.int .i64 v6.op))], _, rfl, rfl, ⟨[(.v (.int .i64 v6.hd))], _, rfl, rfl, ⟨[(.v (.int .i64 v6.n))], _, rfl, rfl, ⟨[(.v (.slice a7 ((Tm.encL v6.args).length) c7))], _, rfl, (.inl ⟨_, rfl, nth_mem (j := 2) rfl⟩), rfl⟩⟩⟩⟩⟩, trivial⟩ rfl (by simp only [Tm.encL_eq, List.map_cons, List.map_nil, Tm.enc_eq] <;> rfl) (by decide) (by decide) ?_
  intro a8
  obtain ⟨v9, h10, hr⟩ := bind_some hr
  refine (print_good_spec n v1 v3 ([v6]) a2 c2 a4 c4 a8 1 _ h10).atR [0, 1, 3] rfl rfl rfl ?_
  rintro _ _ ⟨rfl, rfl⟩
  refine AtIf.mk (fun h11 => ?_) (fun h11 => ?_)
  · replace hr := cond_t h11 hr
    replace hr := Option.some.inj hr
    subst hr
    exact AtRet.pureG [.nil 3] [(.slice none 0 0, .sl 3 [])] rfl rfl ⟨none, 0, rfl, rfl⟩
  · replace hr := cond_f h11 hr
    obtain ⟨v12, h13, hr⟩ := bind_some hr
    refine (print_printer_scoped_spec n v6 v5 (Prt.mk v1 v3 0) a7 c7 a2 c2 a4 c4 _ h13).frameR [2] [2, 0, 1] rfl rfl rfl rfl rfl rfl rfl rfl ?_
    rintro _ _ ⟨rfl, rfl⟩
    refine ⟨rfl, rfl, [.cells 63 [(.v (.slice a2 ((Dc.encL v1).length) c2)), (.v (.slice a4 ((Mt.encL v3).length) c4)), (.v (.int .i64 0))]], rfl, ?_⟩
    refine AtIf.mk (fun h14 => ?_) (fun h14 => ?_)
    · replace hr := cond_t h14 hr
      replace hr := Option.some.inj hr
      subst hr
      exact AtRet.pureG [.nil 3] [(.slice none 0 0, .sl 3 [])] rfl rfl ⟨none, 0, rfl, rfl⟩
    · replace hr := cond_f h14 hr
      obtain ⟨v15, h16, hr⟩ := bind_some hr
      refine (print_printer_raw_spec n v6 v5 (Prt.mk v1 v3 0) a7 c7 a2 c2 a4 c4 _ h16).frameR [2] [2, 0, 1] rfl rfl rfl rfl rfl rfl rfl rfl ?_
      rintro _ _ ⟨a17, c17, rfl, rfl⟩
      refine ⟨rfl, rfl, [.cells 63 [(.v (.slice a2 ((Dc.encL v1).length) c2)), (.v (.slice a4 ((Mt.encL v3).length) c4)), (.v (.int .i64 0))]], rfl, ?_⟩
      obtain ⟨v18, h19, hr⟩ := bind_some hr
      refine (print_kept_spec n v15.1 v15.2 a17 c17 _ h19).atR [4] rfl rfl rfl ?_
      rintro _ _ ⟨a20, c20, rfl, rfl⟩
      replace hr := Option.some.inj hr
      subst hr
      exact AtRet.pureG [.old 5] [(.slice a20 ((Rw.encL v18.1.args).length) c20, .sl 3 (Rw.encL v18.1.args))] rfl rfl ⟨a20, c20, rfl, rfl⟩
def print_Text : Nat → (List Dc) → (List Mt) → Int → Tm → Option (ByteArray × Int)
  | 0, _, _, _, _ => none
  | n + 1, v1, v3, v5, v6 =>
    (print_Raw n v1 v3 v5 v6).bind (fun v8 =>
    cond (v8.2 != 0) (
    some (⟨#[]⟩, v8.2)) (
    (syntax_Text n v8.1).bind (fun v12 =>
    some (v12.1, v12.2))))
theorem print_Text_spec (n : Nat) (v1 : (List Dc)) (v3 : (List Mt)) (v5 : Int) (v6 : Tm) (a2 : Option Addr) (c2 : Nat) (a4 : Option Addr) (c4 : Nat) (a7 : Option Addr) (c7 : Nat) (r : ByteArray × Int) (hr : print_Text n v1 v3 v5 v6 = some r) : Pure Tryz.prog (.val (.fn (.func 7) [] [])) [(.v (.slice a2 ((Dc.encL v1).length) c2)), (.v (.slice a4 ((Mt.encL v3).length) c4)), (.v (.int .i64 v5)), (.agg [(.v (.int .i64 v6.op)), (.v (.int .i64 v6.hd)), (.v (.int .i64 v6.n)), (.v (.slice a7 ((Tm.encL v6.args).length) c7))])] [(.slice a2 ((Dc.encL v1).length) c2, .sl 6 (Dc.encL v1)), (.slice a4 ((Mt.encL v3).length) c4, .sl 10 (Mt.encL v3)), (.slice a7 ((Tm.encL v6.args).length) c7, .sl 4 (Tm.encL v6.args))] (fun r' out => r' = (.tup [(.v (.string r.1)), (.v (.int .i64 r.2))]) ∧ out = []) := by
  rcases n with _ | n
  · exact no_some hr
  rw [print_Text.eq_2] at hr
  refine spec_of_body (N := 27) (m := 0) (dt := fun _ => none) [] ttOK Tryz.func7 rfl Tryz.call7 Tryz.ntmps7 rfl rfl rfl mixed (by kernel_rfl) ?_
  obtain ⟨v8, h9, hr⟩ := bind_some hr
  refine (print_Raw_spec n v1 v3 v5 v6 a2 c2 a4 c4 a7 c7 _ h9).atR [0, 1, 2] rfl rfl rfl ?_
  rintro _ _ ⟨a10, c10, rfl, rfl⟩
  refine AtIf.mk (fun h11 => ?_) (fun h11 => ?_)
  · replace hr := cond_t h11 hr
    replace hr := Option.some.inj hr
    subst hr
    exact AtRet.pureG [] [] rfl rfl ⟨rfl, rfl⟩
  · replace hr := cond_f h11 hr
    obtain ⟨v12, h13, hr⟩ := bind_some hr
    refine (syntax_Text_spec n v8.1 a10 c10 _ h13).atR [3] rfl rfl rfl ?_
    rintro _ _ ⟨rfl, rfl⟩
    replace hr := Option.some.inj hr
    subst hr
    exact AtRet.pureG [] [] rfl rfl ⟨rfl, rfl⟩
mutual
def print_Context : Nat → (List Dc) → (List Tm) → Option (ByteArray × Int)
  | 0, _, _ => none
  | n + 1, v1, v3 =>
    (print_good n v1 ([]) v3).bind (fun v5 =>
    cond ((!v5) || (decide (((Tm.encL v3).length : Int) > 30))) (
    some (⟨#[]⟩, 2)) (
    print_Context_L1 n v3 v1 ([]) 0))
def print_Context_L1 : Nat → (List Tm) → (List Dc) → (List ByteArray) → Int → Option (ByteArray × Int)
  | 0, _, _, _, _ => none
  | n + 1, v3, v1, v27, v29 =>
    cond (decide (v29 < ((Tm.encL v3).length : Int))) (
    (idx v3 v29).bind (fun v31 =>
    (print_Text n v1 ([]) v29 v31).bind (fun v36 =>
    cond (v36.2 != 0) (
    some (⟨#[]⟩, v36.2)) (
    (print_printer_name n v29 (Prt.mk v1 ([]) 0)).bind (fun v39 =>
    cond (decide ((v39.size : Int) > 16)) (
    some (⟨#[]⟩, 5)) (
    (print_printer_name n v29 (Prt.mk v1 ([]) 0)).bind (fun v42 =>
    cond (decide (v42.size + (⟨#[58]⟩ : ByteArray).size ≤ 1000000)) (
    cond (decide ((v42 ++ (⟨#[58]⟩ : ByteArray)).size + v36.1.size ≤ 1000000)) (
    cond (decide ((List.map D.str (v27 ++ [((v42 ++ (⟨#[58]⟩ : ByteArray)) ++ v36.1)])).length ≤ 1000000)) (
    print_Context_L1 n v3 v1 (v27 ++ [((v42 ++ (⟨#[58]⟩ : ByteArray)) ++ v36.1)]) (IntKind.i64.wrap (v29 + 1))) none) none) none))))))) (
    cond (decide ((v27 : List ByteArray).length ≤ 1000000 ∧ (joinF v27 (⟨#[44, 32]⟩)).size ≤ 1000000)) (
    some ((joinF v27 (⟨#[44, 32]⟩)), 0)) none)
 end
theorem print_Context_spec (n : Nat) (v1 : (List Dc)) (v3 : (List Tm)) (a2 : Option Addr) (c2 : Nat) (a4 : Option Addr) (c4 : Nat) (r : ByteArray × Int) (hr : print_Context n v1 v3 = some r) : Pure Tryz.prog (.val (.fn (.func 19) [] [])) [(.v (.slice a2 ((Dc.encL v1).length) c2)), (.v (.slice a4 ((Tm.encL v3).length) c4))] [(.slice a2 ((Dc.encL v1).length) c2, .sl 6 (Dc.encL v1)), (.slice a4 ((Tm.encL v3).length) c4, .sl 4 (Tm.encL v3))] (fun r' out => r' = (.tup [(.v (.string r.1)), (.v (.int .i64 r.2))]) ∧ out = []) := by
  rcases n with _ | n
  · exact no_some hr
  rw [print_Context.eq_2] at hr
  refine spec_of_body (N := 58) (m := 0) (dt := fun _ => none) [] ttOK Tryz.func19 rfl Tryz.call19 Tryz.ntmps19 rfl rfl rfl mixed (by kernel_rfl) ?_
  obtain ⟨v5, h6, hr⟩ := bind_some hr
  refine Meets.nilRep 10 ?_
  refine (print_good_spec n v1 ([]) v3 a2 c2 none 0 a4 c4 _ h6).atR [1, 0, 2] rfl rfl rfl ?_
  rintro _ _ ⟨rfl, rfl⟩
  refine AtIf.mk (fun h7 => ?_) (fun h7 => ?_)
  · replace hr := cond_t h7 hr
    replace hr := Option.some.inj hr
    subst hr
    exact AtRet.pureG [] [] rfl rfl ⟨rfl, rfl⟩
  · replace hr := cond_f h7 hr
    refine AtLoop.mk ⟨Nat × (List ByteArray) × Option Addr × Nat × Int, fun x => [(0, (.v (.slice a2 ((Dc.encL v1).length) c2))), (6, (.loc 0 0)), (7, (.v (.slice x.2.2.1 ((List.map D.str x.2.1).length) x.2.2.2.1))), (24, (.v (.slice a4 ((Tm.encL v3).length) c4))), (25, (.v (.int .i64 ((Tm.encL v3).length : Int)))), (26, (.v (.int .i64 x.2.2.2.2)))], fun x => ⟨[.cells 63 [(.v (.slice a2 ((Dc.encL v1).length) c2)), (.v (.slice none 0 0)), (.v (.int .i64 0))]], [⟨.slice x.2.2.1 ((List.map D.str x.2.1).length) x.2.2.2.1, 1, 9, (List.map D.str x.2.1)⟩], [(.slice none 0 0, .sl 10 []), (.slice a2 ((Dc.encL v1).length) c2, .sl 6 (Dc.encL v1)), (.slice a4 ((Tm.encL v3).length) c4, .sl 4 (Tm.encL v3))]⟩, fun x => print_Context_L1 x.1 v3 v1 x.2.1 x.2.2.2.2 = some r, fun x => x.1, (n, [], none, 0, 0), hr, ⟨rfl, rfl, rfl, rfl, rfl, rfl, trivial⟩, (StLe.gen 1 [.nil 1 9] [.old 0, .old 1, .old 2] rfl rfl rfl rfl rfl rfl rfl), fun x _ => ⟨rfl, rfl⟩, ?_⟩
    rintro ⟨n, v27, a28, c28, v29⟩ HH
    have hr : print_Context_L1 n v3 v1 v27 v29 = some r := HH
    rcases n with _ | n
    · exact no_some hr
    rw [print_Context_L1.eq_2] at hr
    refine AtIf.mk (fun h30 => ?_) (fun h30 => ?_)
    · replace hr := cond_t h30 hr
      obtain ⟨v31, h32, hr⟩ := bind_some hr
      obtain ⟨h33, h34⟩ := idx_some h32
      refine at_index ttOK 2 rfl rfl rfl rfl h33 (Tm.encL_get h34) ?_
      intro a35 c35 _ _
      obtain ⟨v36, h37, hr⟩ := bind_some hr
      refine (print_Text_spec n v1 ([]) v29 v31 a2 c2 none 0 a35 c35 _ h37).atR [1, 0, 3] rfl rfl rfl ?_
      rintro _ _ ⟨rfl, rfl⟩
      refine AtIf.mk (fun h38 => ?_) (fun h38 => ?_)
      · replace hr := cond_t h38 hr
        replace hr := Option.some.inj hr
        subst hr
        exact AtRet.pureG [] [] rfl rfl ⟨rfl, rfl⟩
      · replace hr := cond_f h38 hr
        obtain ⟨v39, h40, hr⟩ := bind_some hr
        refine (print_printer_name_spec n v29 (Prt.mk v1 ([]) 0) a2 c2 none 0 _ h40).frameR [0] [1, 0] rfl rfl rfl rfl rfl rfl rfl rfl ?_
        rintro _ _ ⟨rfl, rfl⟩
        refine ⟨rfl, rfl, [.cells 63 [(.v (.slice a2 ((Dc.encL v1).length) c2)), (.v (.slice none 0 0)), (.v (.int .i64 0))]], rfl, ?_⟩
        refine AtIf.mk (fun h41 => ?_) (fun h41 => ?_)
        · replace hr := cond_t h41 hr
          replace hr := Option.some.inj hr
          subst hr
          exact AtRet.pureG [] [] rfl rfl ⟨rfl, rfl⟩
        · replace hr := cond_f h41 hr
          obtain ⟨v42, h43, hr⟩ := bind_some hr
          refine (print_printer_name_spec n v29 (Prt.mk v1 ([]) 0) a2 c2 none 0 _ h43).frameR [0] [1, 0] rfl rfl rfl rfl rfl rfl rfl rfl ?_
          rintro _ _ ⟨rfl, rfl⟩
          refine ⟨rfl, rfl, [.cells 63 [(.v (.slice a2 ((Dc.encL v1).length) c2)), (.v (.slice none 0 0)), (.v (.int .i64 0))]], rfl, ?_⟩
          obtain ⟨h44, hr⟩ := cond_need hr
          refine at_concat (of_decide_eq_true h44) ?_
          obtain ⟨h45, hr⟩ := cond_need hr
          refine at_concat (of_decide_eq_true h45) ?_
          refine at_buildG (n := 1) ttOK 16 [.str ((v42 ++ (⟨#[58]⟩ : ByteArray)) ++ v36.1)] (ds' := (List.map D.str ([((v42 ++ (⟨#[58]⟩ : ByteArray)) ++ v36.1)]))) rfl (by kernel_rfl) ⟨⟨rfl, rfl, rfl, rfl⟩, trivial⟩ rfl rfl (by decide) (by decide) ?_
          intro a46
          obtain ⟨h47, hr⟩ := cond_need hr
          refine at_appendG (ds' := (List.map D.str (v27 ++ [((v42 ++ (⟨#[58]⟩ : ByteArray)) ++ v36.1)]))) ttOK 16 0 4 rfl (by kernel_rfl) rfl rfl rfl rfl (by simp only [List.map_append]) h47 (by decide) ?_
          intro a48 c48
          exact ⟨(n, (v27 ++ [((v42 ++ (⟨#[58]⟩ : ByteArray)) ++ v36.1)]), a48, c48, (IntKind.i64.wrap (v29 + 1))), hr, Nat.lt_succ_self _, ⟨rfl, rfl, rfl, rfl, rfl, rfl, trivial⟩, (StLe.gen 1 [.old 0] [.old 0, .old 1, .old 2] rfl rfl rfl rfl rfl rfl rfl)⟩
    · replace hr := cond_f h30 hr
      obtain ⟨h49, hr⟩ := cond_need hr
      refine Meets.le (S' := ⟨[.cells 63 [(.v (.slice a2 ((Dc.encL v1).length) c2)), (.v (.slice none 0 0)), (.v (.int .i64 0))]], [], [(.slice a28 ((List.map D.str v27).length) c28, .sl 1 (List.map D.str v27)), (.slice none 0 0, .sl 10 []), (.slice a2 ((Dc.encL v1).length) c2, .sl 6 (Dc.encL v1)), (.slice a4 ((Tm.encL v3).length) c4, .sl 4 (Tm.encL v3))]⟩) (StLe.gen 1 [] [.froz 0, .old 0, .old 1, .old 2] rfl rfl rfl rfl rfl rfl rfl) rfl ?_
      refine (join_spec v27 (⟨#[44, 32]⟩) a28 c28 (of_decide_eq_true h49).1 (of_decide_eq_true h49).2).atR [0] rfl rfl rfl ?_
      rintro _ _ ⟨rfl, rfl⟩
      replace hr := Option.some.inj hr
      subst hr
      exact AtRet.pureG [] [] rfl rfl ⟨rfl, rfl⟩
def R07_Printer_scoped : Nat → Rpr → Int → Tm → Option (Bool)
  | 0, _, _, _ => none
  | n + 1, v1, v5, v6 =>
    (R03_Constants n v6).bind (fun v8 =>
    (R03_Metas n v6).bind (fun v11 =>
    (R03_Free n v6).bind (fun v14 =>
    cond (((List.map (D.int .i64) v8).length : Int) == 0) (
    cond (((List.map (D.int .i64) v11).length : Int) == 0) (
    cond (((List.map (D.int .i64) v14).length : Int) == 0) (
    some (true)) (
    (idx v14 (IntKind.i64.wrap (((List.map (D.int .i64) v14).length : Int) - 1))).bind (fun v51 =>
    some ((decide (v51 < v5)))))) (
    (idx v11 (IntKind.i64.wrap (((List.map (D.int .i64) v11).length : Int) - 1))).bind (fun v40 =>
    cond (decide (v40 < ((Mt.encL v1.metas).length : Int))) (
    cond (((List.map (D.int .i64) v14).length : Int) == 0) (
    some (true)) (
    (idx v14 (IntKind.i64.wrap (((List.map (D.int .i64) v14).length : Int) - 1))).bind (fun v46 =>
    some ((decide (v46 < v5)))))) (
    some (false))))) (
    (idx v8 (IntKind.i64.wrap (((List.map (D.int .i64) v8).length : Int) - 1))).bind (fun v18 =>
    cond (decide (v18 < ((Dc.encL v1.sig).length : Int))) (
    cond (((List.map (D.int .i64) v11).length : Int) == 0) (
    cond (((List.map (D.int .i64) v14).length : Int) == 0) (
    some (true)) (
    (idx v14 (IntKind.i64.wrap (((List.map (D.int .i64) v14).length : Int) - 1))).bind (fun v35 =>
    some ((decide (v35 < v5)))))) (
    (idx v11 (IntKind.i64.wrap (((List.map (D.int .i64) v11).length : Int) - 1))).bind (fun v24 =>
    cond (decide (v24 < ((Mt.encL v1.metas).length : Int))) (
    cond (((List.map (D.int .i64) v14).length : Int) == 0) (
    some (true)) (
    (idx v14 (IntKind.i64.wrap (((List.map (D.int .i64) v14).length : Int) - 1))).bind (fun v30 =>
    some ((decide (v30 < v5)))))) (
    some (false))))) (
    some (false)))))))
theorem R07_Printer_scoped_spec (n : Nat) (v1 : Rpr) (v5 : Int) (v6 : Tm) (a2 : Option Addr) (c2 : Nat) (a3 : Option Addr) (c3 : Nat) (a4 : Option Addr) (c4 : Nat) (a7 : Option Addr) (c7 : Nat) (r : Bool) (hr : R07_Printer_scoped n v1 v5 v6 = some r) : Pure Tryz.prog (.val (.fn (.func 109) [] [])) [(.agg [(.v (.slice a2 ((Dc.encL v1.sig).length) c2)), (.v (.slice a3 ((Mt.encL v1.metas).length) c3)), (.v (.slice a4 ((List.map D.str v1.names).length) c4))]), (.v (.int .i64 v5)), (.agg [(.v (.int .i64 v6.op)), (.v (.int .i64 v6.hd)), (.v (.int .i64 v6.n)), (.v (.slice a7 ((Tm.encL v6.args).length) c7))])] [(.slice a2 ((Dc.encL v1.sig).length) c2, .sl 6 (Dc.encL v1.sig)), (.slice a3 ((Mt.encL v1.metas).length) c3, .sl 10 (Mt.encL v1.metas)), (.slice a4 ((List.map D.str v1.names).length) c4, .sl 1 (List.map D.str v1.names)), (.slice a7 ((Tm.encL v6.args).length) c7, .sl 4 (Tm.encL v6.args))] (fun r' out => r' = (.v (.bool r)) ∧ out = []) := by
  rcases n with _ | n
  · exact no_some hr
  rw [R07_Printer_scoped.eq_2] at hr
  refine spec_of_body (N := 63) (m := 0) (dt := drawsOf [(4, .leaf [0, 1, 2, 3, 4, 5, 6, 7, 8, 9, 10, 11, 12, 13, 14, 15, 16, 17, 18, 19, 20, 21, 22, 23, 24, 25, 26, 27, 28, 29, 30, 31, 32, 33, 34, 35, 36, 37, 38, 39, 40, 41, 42, 43, 44, 45, 46, 47], [], [])]) [] ttOK Tryz.func109 rfl Tryz.call109 Tryz.ntmps109 rfl rfl rfl mixed (by kernel_rfl) ?_
  obtain ⟨v8, h9, hr⟩ := bind_some hr
  refine (R03_Constants_spec n v6 a7 c7 _ h9).atR [3] rfl rfl rfl ?_
  rintro _ _ ⟨a10, c10, rfl, rfl⟩
  obtain ⟨v11, h12, hr⟩ := bind_some hr
  refine (R03_Metas_spec n v6 a7 c7 _ h12).atR [3] rfl rfl rfl ?_
  rintro _ _ ⟨a13, c13, rfl, rfl⟩
  obtain ⟨v14, h15, hr⟩ := bind_some hr
  refine (R03_Free_spec n v6 a7 c7 _ h15).atR [3] rfl rfl rfl ?_
  rintro _ _ ⟨a16, c16, rfl, rfl⟩
  refine AtGuard.mk (fun h17 => ?_) (fun h17 => ?_)
  · replace hr := cond_f h17 hr
    obtain ⟨v18, h19, hr⟩ := bind_some hr
    obtain ⟨h20, h21⟩ := idx_some h19
    refine at_index ttOK 4 rfl rfl rfl rfl h20 (map_get (D.int .i64) h21) ?_
    refine AtGuard.mk (fun h22 => ?_) (fun h22 => ?_)
    · replace hr := cond_t h22 hr
      refine AtGuard.mk (fun h23 => ?_) (fun h23 => ?_)
      · replace hr := cond_f h23 hr
        obtain ⟨v24, h25, hr⟩ := bind_some hr
        obtain ⟨h26, h27⟩ := idx_some h25
        refine at_index ttOK 5 rfl rfl rfl rfl h26 (map_get (D.int .i64) h27) ?_
        refine AtGuard.mk (fun h28 => ?_) (fun h28 => ?_)
        · replace hr := cond_t h28 hr
          refine AtGuard.mk (fun h29 => ?_) (fun h29 => ?_)
          · replace hr := cond_f h29 hr
            obtain ⟨v30, h31, hr⟩ := bind_some hr
            obtain ⟨h32, h33⟩ := idx_some h31
            refine at_index ttOK 6 rfl rfl rfl rfl h32 (map_get (D.int .i64) h33) ?_
            replace hr := Option.some.inj hr
            subst hr
            exact AtRet.pureG [] [] rfl rfl ⟨rfl, rfl⟩
          · replace hr := cond_t h29 hr
            replace hr := Option.some.inj hr
            subst hr
            exact AtRet.pureG [] [] rfl rfl ⟨rfl, rfl⟩
        · replace hr := cond_f h28 hr
          replace hr := Option.some.inj hr
          subst hr
          exact AtRet.pureG [] [] rfl rfl ⟨rfl, rfl⟩
      · replace hr := cond_t h23 hr
        refine AtGuard.mk (fun _ => ?_) (fun h => tf h)
        refine AtGuard.mk (fun h34 => ?_) (fun h34 => ?_)
        · replace hr := cond_f h34 hr
          obtain ⟨v35, h36, hr⟩ := bind_some hr
          obtain ⟨h37, h38⟩ := idx_some h36
          refine at_index ttOK 6 rfl rfl rfl rfl h37 (map_get (D.int .i64) h38) ?_
          replace hr := Option.some.inj hr
          subst hr
          exact AtRet.pureG [] [] rfl rfl ⟨rfl, rfl⟩
        · replace hr := cond_t h34 hr
          replace hr := Option.some.inj hr
          subst hr
          exact AtRet.pureG [] [] rfl rfl ⟨rfl, rfl⟩
    · replace hr := cond_f h22 hr
      refine AtGuard.mk (fun h => ff h) (fun _ => ?_)
      replace hr := Option.some.inj hr
      subst hr
      exact AtRet.pureG [] [] rfl rfl ⟨rfl, rfl⟩
  · replace hr := cond_t h17 hr
    refine AtGuard.mk (fun _ => ?_) (fun h => tf h)
    refine AtGuard.mk (fun h39 => ?_) (fun h39 => ?_)
    · replace hr := cond_f h39 hr
      obtain ⟨v40, h41, hr⟩ := bind_some hr
      obtain ⟨h42, h43⟩ := idx_some h41
      refine at_index ttOK 5 rfl rfl rfl rfl h42 (map_get (D.int .i64) h43) ?_
      refine AtGuard.mk (fun h44 => ?_) (fun h44 => ?_)
      · replace hr := cond_t h44 hr
        refine AtGuard.mk (fun h45 => ?_) (fun h45 => ?_)
        · replace hr := cond_f h45 hr
          obtain ⟨v46, h47, hr⟩ := bind_some hr
          obtain ⟨h48, h49⟩ := idx_some h47
          refine at_index ttOK 6 rfl rfl rfl rfl h48 (map_get (D.int .i64) h49) ?_
          replace hr := Option.some.inj hr
          subst hr
          exact AtRet.pureG [] [] rfl rfl ⟨rfl, rfl⟩
        · replace hr := cond_t h45 hr
          replace hr := Option.some.inj hr
          subst hr
          exact AtRet.pureG [] [] rfl rfl ⟨rfl, rfl⟩
      · replace hr := cond_f h44 hr
        replace hr := Option.some.inj hr
        subst hr
        exact AtRet.pureG [] [] rfl rfl ⟨rfl, rfl⟩
    · replace hr := cond_t h39 hr
      refine AtGuard.mk (fun _ => ?_) (fun h => tf h)
      refine AtGuard.mk (fun h50 => ?_) (fun h50 => ?_)
      · replace hr := cond_f h50 hr
        obtain ⟨v51, h52, hr⟩ := bind_some hr
        obtain ⟨h53, h54⟩ := idx_some h52
        refine at_index ttOK 6 rfl rfl rfl rfl h53 (map_get (D.int .i64) h54) ?_
        replace hr := Option.some.inj hr
        subst hr
        exact AtRet.pureG [] [] rfl rfl ⟨rfl, rfl⟩
      · replace hr := cond_t h50 hr
        replace hr := Option.some.inj hr
        subst hr
        exact AtRet.pureG [] [] rfl rfl ⟨rfl, rfl⟩
mutual
def R07_Printer_full : Nat → Rpr → Tm → Option (Bool)
  | 0, _, _ => none
  | n + 1, v1, v5 =>
    cond ((v5.op == 4) && (v5.hd == 2)) (
    (idx v1.sig v5.n).bind (fun v8 =>
    cond (decide (((Tm.encL v5.args).length : Int) < v8.implicit)) (
    some (false)) (
    R07_Printer_full_L1 n v5 v1 0))) (
    R07_Printer_full_L1 n v5 v1 0)
def R07_Printer_full_L1 : Nat → Tm → Rpr → Int → Option (Bool)
  | 0, _, _, _ => none
  | n + 1, v5, v1, v23 =>
    cond (decide (v23 < ((Tm.encL v5.args).length : Int))) (
    (idx v5.args v23).bind (fun v25 =>
    (R07_Printer_full n v1 v25).bind (fun v30 =>
    cond (!v30) (
    some (false)) (
    R07_Printer_full_L1 n v5 v1 (IntKind.i64.wrap (v23 + 1)))))) (
    some (true))
 end
theorem R07_Printer_full_specN : ∀ (N : Nat), (∀ (n : Nat), n ≤ N → ∀ (v1 : Rpr) (v5 : Tm) (a2 : Option Addr) (c2 : Nat) (a3 : Option Addr) (c3 : Nat) (a4 : Option Addr) (c4 : Nat) (a6 : Option Addr) (c6 : Nat) (r : Bool), R07_Printer_full n v1 v5 = some r → Pure Tryz.prog (.val (.fn (.func 110) [] [])) [(.agg [(.v (.slice a2 ((Dc.encL v1.sig).length) c2)), (.v (.slice a3 ((Mt.encL v1.metas).length) c3)), (.v (.slice a4 ((List.map D.str v1.names).length) c4))]), (.agg [(.v (.int .i64 v5.op)), (.v (.int .i64 v5.hd)), (.v (.int .i64 v5.n)), (.v (.slice a6 ((Tm.encL v5.args).length) c6))])] [(.slice a2 ((Dc.encL v1.sig).length) c2, .sl 6 (Dc.encL v1.sig)), (.slice a3 ((Mt.encL v1.metas).length) c3, .sl 10 (Mt.encL v1.metas)), (.slice a4 ((List.map D.str v1.names).length) c4, .sl 1 (List.map D.str v1.names)), (.slice a6 ((Tm.encL v5.args).length) c6, .sl 4 (Tm.encL v5.args))] (fun r' out => r' = (.v (.bool r)) ∧ out = [])) := by
  intro N
  induction N with
  | zero =>
    intro n hn v1 v5 a2 c2 a3 c3 a4 c4 a6 c6 r hr; obtain rfl : n = 0 := (by omega); exact no_some hr
  | succ N ih =>
    intro n hn v1 v5 a2 c2 a3 c3 a4 c4 a6 c6 r hr
    rcases n with _ | n
    · exact no_some hr
    replace hn : n ≤ N := by omega
    rw [R07_Printer_full.eq_2] at hr
    refine spec_of_body (N := 42) (m := 0) (dt := drawsOf [(1, .leaf [0, 1, 2, 3, 4, 5, 6, 7, 8, 9, 10, 11, 12, 13, 14, 15, 16, 17, 18, 19, 20], [], []), (6, .node [0, 1, 2, 3, 4, 5] [(6, .leaf [7])], [6], [])]) [] ttOK Tryz.func110 rfl Tryz.call110 Tryz.ntmps110 rfl rfl rfl mixed (by kernel_rfl) ?_
    refine AtGuard.mk (fun h7 => ?_) (fun h7 => ?_)
    · replace hr := cond_t h7 hr
      obtain ⟨v8, h9, hr⟩ := bind_some hr
      obtain ⟨h10, h11⟩ := idx_some h9
      refine at_index ttOK 0 rfl rfl rfl rfl h10 (Dc.encL_get h11) ?_
      intro a12 c12 _ _
      refine AtIf.mk (fun h13 => ?_) (fun h13 => ?_)
      · replace hr := cond_t h13 hr
        replace hr := Option.some.inj hr
        subst hr
        exact AtRet.pureG [] [] rfl rfl ⟨rfl, rfl⟩
      · replace hr := cond_f h13 hr
        refine AtLoop.mk ⟨Nat × Int, fun x => [(2, (.loc 0 0)), (3, (.loc 1 0)), (5, (.v (.int .i64 x.2)))], fun x => ⟨[.cells 89 [(.v (.slice a2 ((Dc.encL v1.sig).length) c2)), (.v (.slice a3 ((Mt.encL v1.metas).length) c3)), (.v (.slice a4 ((List.map D.str v1.names).length) c4))], .cells 26 [(.v (.int .i64 v5.op)), (.v (.int .i64 v5.hd)), (.v (.int .i64 v5.n)), (.v (.slice a6 ((Tm.encL v5.args).length) c6))], .imm [(.v (.string v8.name)), (.v (.int .i64 v8.cls.op)), (.v (.int .i64 v8.cls.hd)), (.v (.int .i64 v8.cls.n)), (.v (.slice a12 ((Tm.encL v8.cls.args).length) c12)), (.v (.int .i64 v8.implicit))]], [], [(.slice a2 ((Dc.encL v1.sig).length) c2, .sl 6 (Dc.encL v1.sig)), (.slice a3 ((Mt.encL v1.metas).length) c3, .sl 10 (Mt.encL v1.metas)), (.slice a4 ((List.map D.str v1.names).length) c4, .sl 1 (List.map D.str v1.names)), (.slice a6 ((Tm.encL v5.args).length) c6, .sl 4 (Tm.encL v5.args)), (.slice a12 ((Tm.encL v8.cls.args).length) c12, .sl 4 (Tm.encL v8.cls.args))]⟩, fun x => x.1 ≤ N ∧ R07_Printer_full_L1 x.1 v5 v1 x.2 = some r, fun x => x.1, (n, 0), ⟨by omega, hr⟩, ⟨rfl, rfl, rfl, trivial⟩, (StLe.gen 3 [] [.old 0, .old 1, .old 2, .old 3, .old 4] rfl rfl rfl rfl rfl rfl rfl), fun x _ => ⟨rfl, rfl⟩, ?_⟩
        rintro ⟨n, v23⟩ HH
        obtain ⟨hn, hr⟩ : n ≤ N ∧ R07_Printer_full_L1 n v5 v1 v23 = some r := HH
        rcases n with _ | n
        · exact no_some hr
        rw [R07_Printer_full_L1.eq_2] at hr
        refine AtIf.mk (fun h24 => ?_) (fun h24 => ?_)
        · replace hr := cond_t h24 hr
          obtain ⟨v25, h26, hr⟩ := bind_some hr
          obtain ⟨h27, h28⟩ := idx_some h26
          refine at_index ttOK 3 rfl rfl rfl rfl h27 (Tm.encL_get h28) ?_
          intro a29 c29 _ _
          obtain ⟨v30, h31, hr⟩ := bind_some hr
          refine (ih n (by omega) v1 v25 a2 c2 a3 c3 a4 c4 a29 c29 _ h31).atR [0, 1, 2, 5] rfl rfl rfl ?_
          rintro _ _ ⟨rfl, rfl⟩
          refine AtIf.mk (fun h32 => ?_) (fun h32 => ?_)
          · replace hr := cond_t h32 hr
            replace hr := Option.some.inj hr
            subst hr
            exact AtRet.pureG [] [] rfl rfl ⟨rfl, rfl⟩
          · replace hr := cond_f h32 hr
            exact ⟨(n, (IntKind.i64.wrap (v23 + 1))), ⟨by omega, hr⟩, Nat.lt_succ_self _, ⟨rfl, rfl, rfl, trivial⟩, (StLe.gen 3 [] [.old 0, .old 1, .old 2, .old 3, .old 4] rfl rfl rfl rfl rfl rfl rfl)⟩
        · replace hr := cond_f h24 hr
          replace hr := Option.some.inj hr
          subst hr
          exact AtRet.pureG [] [] rfl rfl ⟨rfl, rfl⟩
    · replace hr := cond_f h7 hr
      refine AtIf.mk (fun h => ff h) (fun _ => ?_)
      refine AtLoop.mk ⟨Nat × Int, fun x => [(2, (.loc 0 0)), (3, (.loc 1 0)), (5, (.v (.int .i64 x.2)))], fun x => ⟨[.cells 89 [(.v (.slice a2 ((Dc.encL v1.sig).length) c2)), (.v (.slice a3 ((Mt.encL v1.metas).length) c3)), (.v (.slice a4 ((List.map D.str v1.names).length) c4))], .cells 26 [(.v (.int .i64 v5.op)), (.v (.int .i64 v5.hd)), (.v (.int .i64 v5.n)), (.v (.slice a6 ((Tm.encL v5.args).length) c6))]], [], [(.slice a2 ((Dc.encL v1.sig).length) c2, .sl 6 (Dc.encL v1.sig)), (.slice a3 ((Mt.encL v1.metas).length) c3, .sl 10 (Mt.encL v1.metas)), (.slice a4 ((List.map D.str v1.names).length) c4, .sl 1 (List.map D.str v1.names)), (.slice a6 ((Tm.encL v5.args).length) c6, .sl 4 (Tm.encL v5.args))]⟩, fun x => x.1 ≤ N ∧ R07_Printer_full_L1 x.1 v5 v1 x.2 = some r, fun x => x.1, (n, 0), ⟨by omega, hr⟩, ⟨rfl, rfl, rfl, trivial⟩, (StLe.gen 2 [] [.old 0, .old 1, .old 2, .old 3] rfl rfl rfl rfl rfl rfl rfl), fun x _ => ⟨rfl, rfl⟩, ?_⟩
      rintro ⟨n, v42⟩ HH
      obtain ⟨hn, hr⟩ : n ≤ N ∧ R07_Printer_full_L1 n v5 v1 v42 = some r := HH
      rcases n with _ | n
      · exact no_some hr
      rw [R07_Printer_full_L1.eq_2] at hr
      refine AtIf.mk (fun h43 => ?_) (fun h43 => ?_)
      · replace hr := cond_t h43 hr
        obtain ⟨v44, h45, hr⟩ := bind_some hr
        obtain ⟨h46, h47⟩ := idx_some h45
        refine at_index ttOK 3 rfl rfl rfl rfl h46 (Tm.encL_get h47) ?_
        intro a48 c48 _ _
        obtain ⟨v49, h50, hr⟩ := bind_some hr
        refine (ih n (by omega) v1 v44 a2 c2 a3 c3 a4 c4 a48 c48 _ h50).atR [0, 1, 2, 4] rfl rfl rfl ?_
        rintro _ _ ⟨rfl, rfl⟩
        refine AtIf.mk (fun h51 => ?_) (fun h51 => ?_)
        · replace hr := cond_t h51 hr
          replace hr := Option.some.inj hr
          subst hr
          exact AtRet.pureG [] [] rfl rfl ⟨rfl, rfl⟩
        · replace hr := cond_f h51 hr
          exact ⟨(n, (IntKind.i64.wrap (v42 + 1))), ⟨by omega, hr⟩, Nat.lt_succ_self _, ⟨rfl, rfl, rfl, trivial⟩, (StLe.gen 2 [] [.old 0, .old 1, .old 2, .old 3] rfl rfl rfl rfl rfl rfl rfl)⟩
      · replace hr := cond_f h43 hr
        replace hr := Option.some.inj hr
        subst hr
        exact AtRet.pureG [] [] rfl rfl ⟨rfl, rfl⟩
theorem R07_Printer_full_spec (n : Nat) (v1 : Rpr) (v5 : Tm) (a2 : Option Addr) (c2 : Nat) (a3 : Option Addr) (c3 : Nat) (a4 : Option Addr) (c4 : Nat) (a6 : Option Addr) (c6 : Nat) (r : Bool) (hr : R07_Printer_full n v1 v5 = some r) : Pure Tryz.prog (.val (.fn (.func 110) [] [])) [(.agg [(.v (.slice a2 ((Dc.encL v1.sig).length) c2)), (.v (.slice a3 ((Mt.encL v1.metas).length) c3)), (.v (.slice a4 ((List.map D.str v1.names).length) c4))]), (.agg [(.v (.int .i64 v5.op)), (.v (.int .i64 v5.hd)), (.v (.int .i64 v5.n)), (.v (.slice a6 ((Tm.encL v5.args).length) c6))])] [(.slice a2 ((Dc.encL v1.sig).length) c2, .sl 6 (Dc.encL v1.sig)), (.slice a3 ((Mt.encL v1.metas).length) c3, .sl 10 (Mt.encL v1.metas)), (.slice a4 ((List.map D.str v1.names).length) c4, .sl 1 (List.map D.str v1.names)), (.slice a6 ((Tm.encL v5.args).length) c6, .sl 4 (Tm.encL v5.args))] (fun r' out => r' = (.v (.bool r)) ∧ out = []) := (R07_Printer_full_specN n) n (Nat.le_refl _) v1 v5 a2 c2 a3 c3 a4 c4 a6 c6 r hr
def R07_lowered : Nat → Tm → Option (Tm)
  | 0, _ => none
  | n + 1, v1 =>
    some (((shiftF v1 (-1) 0).1))
theorem R07_lowered_spec (n : Nat) (v1 : Tm) (a2 : Option Addr) (c2 : Nat) (r : Tm) (hr : R07_lowered n v1 = some r) : Pure Tryz.prog (.val (.fn (.func 135) [] [])) [(.agg [(.v (.int .i64 v1.op)), (.v (.int .i64 v1.hd)), (.v (.int .i64 v1.n)), (.v (.slice a2 ((Tm.encL v1.args).length) c2))])] [(.slice a2 ((Tm.encL v1.args).length) c2, .sl 4 (Tm.encL v1.args))] (fun r' out => ∃ (b1 : Option Addr) (d1 : Nat), r' = (.agg [(.v (.int .i64 r.op)), (.v (.int .i64 r.hd)), (.v (.int .i64 r.n)), (.v (.slice b1 ((Tm.encL r.args).length) d1))]) ∧ out = [(.slice b1 ((Tm.encL r.args).length) d1, .sl 4 (Tm.encL r.args))]) := by
  rcases n with _ | n
  · exact no_some hr
  rw [R07_lowered.eq_2] at hr
  refine spec_of_body (N := 11) (m := 0) (dt := fun _ => none) [] ttOK Tryz.func135 rfl Tryz.call135 Tryz.ntmps135 rfl rfl rfl mixed (by kernel_rfl) ?_
  refine (shift_spec v1 (-1) 0 a2 c2).atR [0] rfl rfl rfl ?_
  rintro _ _ ⟨a3, c3, rfl, rfl⟩
  replace hr := Option.some.inj hr
  subst hr
  exact AtRet.pureG [.old 1] [(.slice a3 ((Tm.encL (((shiftF v1 (-1) 0).1).args)).length) c3, .sl 4 (Tm.encL (((shiftF v1 (-1) 0).1).args)))] rfl rfl ⟨a3, c3, rfl, rfl⟩
mutual
def R07_Printer_variable : Nat → Rpr → Int → Option (ByteArray)
  | 0, _, _ => none
  | n + 1, v1, v5 =>
    cond (decide (v5 < ((List.map D.str v1.names).length : Int))) (
    (idx v1.names v5).bind (fun v7 =>
    some (v7))) (
    cond (decide ((0 : Int) ≤ (IntKind.i64.wrap (v5 + 1)) ∧ ((IntKind.i64.wrap (v5 + 1)) : Int) ≤ 99)) (
    cond (decide ((⟨#[120]⟩ : ByteArray).size + (itoaF (IntKind.i64.wrap (v5 + 1))).size ≤ 1000000)) (
    R07_Printer_variable_L1 n v1 ((⟨#[120]⟩ : ByteArray) ++ (itoaF (IntKind.i64.wrap (v5 + 1))))) none) none)
def R07_Printer_variable_L1 : Nat → Rpr → ByteArray → Option (ByteArray)
  | 0, _, _ => none
  | n + 1, v1, v17 =>
    (R05_Find n v1.sig v17).bind (fun v18 =>
    cond (decide (v18 ≥ 0)) (
    cond (decide (v17.size + (⟨#[39]⟩ : ByteArray).size ≤ 1000000)) (
    R07_Printer_variable_L1 n v1 (v17 ++ (⟨#[39]⟩ : ByteArray))) none) (
    some (v17)))
 end
theorem R07_Printer_variable_spec (n : Nat) (v1 : Rpr) (v5 : Int) (a2 : Option Addr) (c2 : Nat) (a3 : Option Addr) (c3 : Nat) (a4 : Option Addr) (c4 : Nat) (r : ByteArray) (hr : R07_Printer_variable n v1 v5 = some r) : Pure Tryz.prog (.val (.fn (.func 43) [] [])) [(.agg [(.v (.slice a2 ((Dc.encL v1.sig).length) c2)), (.v (.slice a3 ((Mt.encL v1.metas).length) c3)), (.v (.slice a4 ((List.map D.str v1.names).length) c4))]), (.v (.int .i64 v5))] [(.slice a2 ((Dc.encL v1.sig).length) c2, .sl 6 (Dc.encL v1.sig)), (.slice a3 ((Mt.encL v1.metas).length) c3, .sl 10 (Mt.encL v1.metas)), (.slice a4 ((List.map D.str v1.names).length) c4, .sl 1 (List.map D.str v1.names))] (fun r' out => r' = (.v (.string r)) ∧ out = []) := by
  rcases n with _ | n
  · exact no_some hr
  rw [R07_Printer_variable.eq_2] at hr
  refine spec_of_body (N := 28) (m := 0) (dt := fun _ => none) [] ttOK Tryz.func43 rfl Tryz.call43 Tryz.ntmps43 rfl rfl rfl mixed (by kernel_rfl) ?_
  refine AtIf.mk (fun h6 => ?_) (fun h6 => ?_)
  · replace hr := cond_t h6 hr
    obtain ⟨v7, h8, hr⟩ := bind_some hr
    obtain ⟨h9, h10⟩ := idx_some h8
    refine at_index ttOK 2 rfl rfl rfl rfl h9 (map_get D.str h10) ?_
    replace hr := Option.some.inj hr
    subst hr
    exact AtRet.pureG [] [] rfl rfl ⟨rfl, rfl⟩
  · replace hr := cond_f h6 hr
    obtain ⟨h11, hr⟩ := cond_need hr
    refine (itoa_spec (IntKind.i64.wrap (v5 + 1)) (of_decide_eq_true h11).1 (of_decide_eq_true h11).2).atR [] rfl rfl rfl ?_
    rintro _ _ ⟨rfl, rfl⟩
    obtain ⟨h12, hr⟩ := cond_need hr
    refine at_concat (of_decide_eq_true h12) ?_
    refine AtLoop.mk ⟨Nat × ByteArray, fun x => [(2, (.loc 0 0)), (5, (.v (.string x.2)))], fun x => ⟨[.cells 89 [(.v (.slice a2 ((Dc.encL v1.sig).length) c2)), (.v (.slice a3 ((Mt.encL v1.metas).length) c3)), (.v (.slice a4 ((List.map D.str v1.names).length) c4))]], [], [(.slice a2 ((Dc.encL v1.sig).length) c2, .sl 6 (Dc.encL v1.sig)), (.slice a3 ((Mt.encL v1.metas).length) c3, .sl 10 (Mt.encL v1.metas)), (.slice a4 ((List.map D.str v1.names).length) c4, .sl 1 (List.map D.str v1.names))]⟩, fun x => R07_Printer_variable_L1 x.1 v1 x.2 = some r, fun x => x.1, (n, ((⟨#[120]⟩ : ByteArray) ++ (itoaF (IntKind.i64.wrap (v5 + 1))))), hr, ⟨rfl, rfl, trivial⟩, (StLe.gen 1 [] [.old 0, .old 1, .old 2] rfl rfl rfl rfl rfl rfl rfl), fun x _ => ⟨rfl, rfl⟩, ?_⟩
    rintro ⟨n, v17⟩ HH
    have hr : R07_Printer_variable_L1 n v1 v17 = some r := HH
    rcases n with _ | n
    · exact no_some hr
    rw [R07_Printer_variable_L1.eq_2] at hr
    obtain ⟨v18, h19, hr⟩ := bind_some hr
    refine (R05_Find_spec n v1.sig v17 a2 c2 _ h19).atR [0] rfl rfl rfl ?_
    rintro _ _ ⟨rfl, rfl⟩
    refine AtIf.mk (fun h20 => ?_) (fun h20 => ?_)
    · replace hr := cond_t h20 hr
      obtain ⟨h21, hr⟩ := cond_need hr
      refine at_concat (of_decide_eq_true h21) ?_
      exact ⟨(n, (v17 ++ (⟨#[39]⟩ : ByteArray))), hr, Nat.lt_succ_self _, ⟨rfl, rfl, trivial⟩, (StLe.gen 1 [] [.old 0, .old 1, .old 2] rfl rfl rfl rfl rfl rfl rfl)⟩
    · replace hr := cond_f h20 hr
      replace hr := Option.some.inj hr
      subst hr
      exact AtRet.pureG [] [] rfl rfl ⟨rfl, rfl⟩
def R07_Printer_head : Nat → Rpr → Int → Tm → Option (ByteArray)
  | 0, _, _, _ => none
  | n + 1, v1, v5, v6 =>
    cond (v6.hd == 1) (
    (R07_Printer_variable n v1 (IntKind.i64.wrap ((IntKind.i64.wrap (v5 - 1)) - v6.n))).bind (fun v9 =>
    some (v9))) (
    cond (v6.hd == 2) (
    (idx v1.sig v6.n).bind (fun v12 =>
    some (v12.name))) (
    (idx v1.metas v6.n).bind (fun v17 =>
    cond (!(v17.name.toList == (⟨#[]⟩ : ByteArray).toList)) (
    (idx v1.metas v6.n).bind (fun v24 =>
    some (v24.name))) (
    cond (decide ((0 : Int) ≤ v6.n ∧ (v6.n : Int) ≤ 99)) (
    cond (decide ((⟨#[77]⟩ : ByteArray).size + (itoaF v6.n).size ≤ 1000000)) (
    some (((⟨#[77]⟩ : ByteArray) ++ (itoaF v6.n)))) none) none))))
theorem R07_Printer_head_spec (n : Nat) (v1 : Rpr) (v5 : Int) (v6 : Tm) (a2 : Option Addr) (c2 : Nat) (a3 : Option Addr) (c3 : Nat) (a4 : Option Addr) (c4 : Nat) (a7 : Option Addr) (c7 : Nat) (r : ByteArray) (hr : R07_Printer_head n v1 v5 v6 = some r) : Pure Tryz.prog (.val (.fn (.func 136) [] [])) [(.agg [(.v (.slice a2 ((Dc.encL v1.sig).length) c2)), (.v (.slice a3 ((Mt.encL v1.metas).length) c3)), (.v (.slice a4 ((List.map D.str v1.names).length) c4))]), (.v (.int .i64 v5)), (.agg [(.v (.int .i64 v6.op)), (.v (.int .i64 v6.hd)), (.v (.int .i64 v6.n)), (.v (.slice a7 ((Tm.encL v6.args).length) c7))])] [(.slice a2 ((Dc.encL v1.sig).length) c2, .sl 6 (Dc.encL v1.sig)), (.slice a3 ((Mt.encL v1.metas).length) c3, .sl 10 (Mt.encL v1.metas)), (.slice a4 ((List.map D.str v1.names).length) c4, .sl 1 (List.map D.str v1.names)), (.slice a7 ((Tm.encL v6.args).length) c7, .sl 4 (Tm.encL v6.args))] (fun r' out => r' = (.v (.string r)) ∧ out = []) := by
  rcases n with _ | n
  · exact no_some hr
  rw [R07_Printer_head.eq_2] at hr
  refine spec_of_body (N := 46) (m := 0) (dt := fun _ => none) [] ttOK Tryz.func136 rfl Tryz.call136 Tryz.ntmps136 rfl rfl rfl mixed (by kernel_rfl) ?_
  refine AtIf.mk (fun h8 => ?_) (fun h8 => ?_)
  · replace hr := cond_t h8 hr
    obtain ⟨v9, h10, hr⟩ := bind_some hr
    refine (R07_Printer_variable_spec n v1 (IntKind.i64.wrap ((IntKind.i64.wrap (v5 - 1)) - v6.n)) a2 c2 a3 c3 a4 c4 _ h10).atR [0, 1, 2] rfl rfl rfl ?_
    rintro _ _ ⟨rfl, rfl⟩
    replace hr := Option.some.inj hr
    subst hr
    exact AtRet.pureG [] [] rfl rfl ⟨rfl, rfl⟩
  · replace hr := cond_f h8 hr
    refine AtIf.mk (fun h11 => ?_) (fun h11 => ?_)
    · replace hr := cond_t h11 hr
      obtain ⟨v12, h13, hr⟩ := bind_some hr
      obtain ⟨h14, h15⟩ := idx_some h13
      refine at_index ttOK 0 rfl rfl rfl rfl h14 (Dc.encL_get h15) ?_
      intro a16 c16 _ _
      replace hr := Option.some.inj hr
      subst hr
      exact AtRet.pureG [] [] rfl rfl ⟨rfl, rfl⟩
    · replace hr := cond_f h11 hr
      obtain ⟨v17, h18, hr⟩ := bind_some hr
      obtain ⟨h19, h20⟩ := idx_some h18
      refine at_index ttOK 1 rfl rfl rfl rfl h19 (Mt.encL_get h20) ?_
      intro a21 c21 _ _ a22 c22 _ _
      refine AtIf.mk (fun h23 => ?_) (fun h23 => ?_)
      · replace hr := cond_t h23 hr
        obtain ⟨v24, h25, hr⟩ := bind_some hr
        obtain ⟨h26, h27⟩ := idx_some h25
        refine at_index ttOK 1 rfl rfl rfl rfl h26 (Mt.encL_get h27) ?_
        intro a28 c28 _ _ a29 c29 _ _
        replace hr := Option.some.inj hr
        subst hr
        exact AtRet.pureG [] [] rfl rfl ⟨rfl, rfl⟩
      · replace hr := cond_f h23 hr
        obtain ⟨h30, hr⟩ := cond_need hr
        refine (itoa_spec v6.n (of_decide_eq_true h30).1 (of_decide_eq_true h30).2).atR [] rfl rfl rfl ?_
        rintro _ _ ⟨rfl, rfl⟩
        obtain ⟨h31, hr⟩ := cond_need hr
        refine at_concat (of_decide_eq_true h31) ?_
        replace hr := Option.some.inj hr
        subst hr
        exact AtRet.pureG [] [] rfl rfl ⟨rfl, rfl⟩
mutual
def R07_Printer_raw : Nat → Rpr → Int → Tm → Option (Rw)
  | 0, _, _, _ => none
  | n + 1, v1, v5, v6 =>
    cond (v6.op == 1) (
    some ((Rw.mk 1 ByteArray.empty ([])))) (
    cond (v6.op == 2) (
    (idx v6.args 0).bind (fun v10 =>
    (R07_Printer_raw n v1 v5 v10).bind (fun v15 =>
    (idx v6.args 1).bind (fun v20 =>
    (R03_Occurs n v20 0).bind (fun v25 =>
    cond (!v25) (
    (idx v6.args 1).bind (fun v28 =>
    (R07_lowered n v28).bind (fun v33 =>
    (R07_Printer_raw n v1 v5 v33).bind (fun v36 =>
    some ((Rw.mk 6 ByteArray.empty ([v15, v36]))))))) (
    (idx v6.args 1).bind (fun v40 =>
    (R07_Printer_variable n v1 v5).bind (fun v45 =>
    (R07_Printer_raw n v1 (IntKind.i64.wrap (v5 + 1)) v40).bind (fun v47 =>
    some ((Rw.mk 5 v45 ([v15, v47])))))))))))) (
    cond (v6.op == 3) (
    (idx v6.args 0).bind (fun v52 =>
    (R07_Printer_variable n v1 v5).bind (fun v57 =>
    (R07_Printer_raw n v1 (IntKind.i64.wrap (v5 + 1)) v52).bind (fun v59 =>
    some ((Rw.mk 7 v57 ([(Rw.mk 3 ByteArray.empty ([])), v59]))))))) (
    (R07_Printer_head n v1 v5 v6).bind (fun v63 =>
    cond (v6.hd == 2) (
    (idx v1.sig v6.n).bind (fun v66 =>
    R07_Printer_raw_L1 n v6 v1 v5 (Rw.mk 2 v63 ([])) v66.implicit)) (
    R07_Printer_raw_L1 n v6 v1 v5 (Rw.mk 2 v63 ([])) 0)))))
def R07_Printer_raw_L1 : Nat → Tm → Rpr → Int → Rw → Int → Option (Rw)
  | 0, _, _, _, _, _ => none
  | n + 1, v6, v1, v5, v81, v83 =>
    cond (decide (v83 < ((Tm.encL v6.args).length : Int))) (
    (idx v6.args v83).bind (fun v85 =>
    (R07_Printer_raw n v1 v5 v85).bind (fun v90 =>
    R07_Printer_raw_L1 n v6 v1 v5 (Rw.mk 4 ByteArray.empty ([v81, v90])) (IntKind.i64.wrap (v83 + 1))))) (
    some (v81))
 end
theorem R07_Printer_raw_specN : ∀ (N : Nat), (∀ (n : Nat), n ≤ N → ∀ (v1 : Rpr) (v5 : Int) (v6 : Tm) (a2 : Option Addr) (c2 : Nat) (a3 : Option Addr) (c3 : Nat) (a4 : Option Addr) (c4 : Nat) (a7 : Option Addr) (c7 : Nat) (r : Rw), R07_Printer_raw n v1 v5 v6 = some r → Pure Tryz.prog (.val (.fn (.func 111) [] [])) [(.agg [(.v (.slice a2 ((Dc.encL v1.sig).length) c2)), (.v (.slice a3 ((Mt.encL v1.metas).length) c3)), (.v (.slice a4 ((List.map D.str v1.names).length) c4))]), (.v (.int .i64 v5)), (.agg [(.v (.int .i64 v6.op)), (.v (.int .i64 v6.hd)), (.v (.int .i64 v6.n)), (.v (.slice a7 ((Tm.encL v6.args).length) c7))])] [(.slice a2 ((Dc.encL v1.sig).length) c2, .sl 6 (Dc.encL v1.sig)), (.slice a3 ((Mt.encL v1.metas).length) c3, .sl 10 (Mt.encL v1.metas)), (.slice a4 ((List.map D.str v1.names).length) c4, .sl 1 (List.map D.str v1.names)), (.slice a7 ((Tm.encL v6.args).length) c7, .sl 4 (Tm.encL v6.args))] (fun r' out => ∃ (b1 : Option Addr) (d1 : Nat), r' = (.agg [(.v (.int .i64 r.op)), (.v (.string r.name)), (.v (.slice b1 ((Rw.encL r.args).length) d1))]) ∧ out = [(.slice b1 ((Rw.encL r.args).length) d1, .sl 3 (Rw.encL r.args))])) := by
  intro N
  induction N with
  | zero =>
    intro n hn v1 v5 v6 a2 c2 a3 c3 a4 c4 a7 c7 r hr; obtain rfl : n = 0 := (by omega); exact no_some hr
  | succ N ih =>
    intro n hn v1 v5 v6 a2 c2 a3 c3 a4 c4 a7 c7 r hr
    rcases n with _ | n
    · exact no_some hr
    replace hn : n ≤ N := by omega
    rw [R07_Printer_raw.eq_2] at hr
    refine spec_of_body (N := 107) (m := 0) (dt := drawsOf [(5, .node [0, 1, 2, 3, 4, 5] [(6, .node [] [(7, .node [] [(8, .leaf [])])]), (7, .node [] [(6, .node [] [(8, .leaf [])])])], [6, 8], []), (7, .node [0, 1, 2, 3, 4, 5, 6] [(7, .node [] [(8, .node [] [(9, .node [10] [(11, .leaf [])])])])], [9, 11], []), (8, .node [0, 1, 3, 4, 5, 6, 7, 8, 9, 10] [(2, .node [] [(11, .node [] [(12, .node [13] [(14, .leaf [])])])])], [12, 14], []), (10, .node [0, 1, 3, 4, 5, 6, 7, 8, 9, 10] [(2, .node [] [(11, .node [] [(12, .node [13] [(14, .leaf [])])])])], [12, 14], []), (18, .node [0, 1, 2, 3, 4, 5, 6, 7] [(8, .node [] [(9, .node [10] [(11, .leaf [])])])], [9, 11], [])]) [] ttOK Tryz.func111 rfl Tryz.call111 Tryz.ntmps111 rfl rfl rfl mixed (by kernel_rfl) ?_
    refine AtIf.mk (fun h8 => ?_) (fun h8 => ?_)
    · replace hr := cond_t h8 hr
      replace hr := Option.some.inj hr
      subst hr
      exact AtRet.pureG [.nil 3] [(.slice none 0 0, .sl 3 [])] rfl rfl ⟨none, 0, rfl, rfl⟩
    · replace hr := cond_f h8 hr
      refine AtIf.mk (fun h9 => ?_) (fun h9 => ?_)
      · replace hr := cond_t h9 hr
        obtain ⟨v10, h11, hr⟩ := bind_some hr
        obtain ⟨h12, h13⟩ := idx_some h11
        obtain ⟨v15, h16, hr⟩ := bind_some hr
        refine at_index ttOK 3 rfl rfl rfl rfl h12 (Tm.encL_get h13) ?_
        intro a18 c18 _ _
        refine ⟨?_, ?_⟩
        ·
          refine (ih n (by omega) v1 v5 v10 a2 c2 a3 c3 a4 c4 a18 c18 _ h16).atR [0, 1, 2, 4] rfl rfl rfl ?_
          rintro _ _ ⟨a19, c19, rfl, rfl⟩
          refine ⟨OwnKeptBut.append, ?_⟩
          obtain ⟨v20, h21, hr⟩ := bind_some hr
          obtain ⟨h22, h23⟩ := idx_some h21
          refine at_index ttOK 3 rfl rfl rfl rfl h22 (Tm.encL_get h23) ?_
          intro a24 c24 _ _
          obtain ⟨v25, h26, hr⟩ := bind_some hr
          refine (R03_Occurs_spec n v20 0 a24 c24 _ h26).atR [6] rfl rfl rfl ?_
          rintro _ _ ⟨rfl, rfl⟩
          refine AtIf.mk (fun h27 => ?_) (fun h27 => ?_)
          · replace hr := cond_t h27 hr
            obtain ⟨v28, h29, hr⟩ := bind_some hr
            obtain ⟨h30, h31⟩ := idx_some h29
            refine at_index ttOK 3 rfl rfl rfl rfl h30 (Tm.encL_get h31) ?_
            intro a32 c32 _ _
            obtain ⟨v33, h34, hr⟩ := bind_some hr
            refine (R07_lowered_spec n v28 a32 c32 _ h34).atR [7] rfl rfl rfl ?_
            rintro _ _ ⟨a35, c35, rfl, rfl⟩
            refine ⟨fun _ _ h => h, ?_⟩
            obtain ⟨v36, h37, hr⟩ := bind_some hr
            refine (ih n (by omega) v1 v5 v33 a2 c2 a3 c3 a4 c4 a35 c35 _ h37).atR [0, 1, 2, 8] rfl rfl rfl ?_
            rintro _ _ ⟨a38, c38, rfl, rfl⟩
            refine ⟨fun _ _ h => h, ?_⟩
            refine at_buildG (n := 2) ttOK 48 [.agg [.int .i64 v15.op, .str v15.name, .sl 3 (Rw.encL v15.args)], .agg [.int .i64 v36.op, .str v36.name, .sl 3 (Rw.encL v36.args)]] (ds' := (Rw.encL ([v15, v36]))) rfl (by kernel_rfl) ⟨⟨rfl, rfl, rfl, ⟨[(.v (.int .i64 v15.op))], _, rfl, rfl, ⟨[(.v (.string v15.name))], _, rfl, rfl, ⟨[(.v (.slice a19 ((Rw.encL v15.args).length) c19))], _, rfl, (.inl ⟨_, rfl, nth_mem (j := 5) rfl⟩), rfl⟩⟩⟩⟩, ⟨⟨rfl, rfl, rfl, ⟨[(.v (.int .i64 v36.op))], _, rfl, rfl, ⟨[(.v (.string v36.name))], _, rfl, rfl, ⟨[(.v (.slice a38 ((Rw.encL v36.args).length) c38))], _, rfl, (.inl ⟨_, rfl, nth_mem (j := 9) rfl⟩), rfl⟩⟩⟩⟩, trivial⟩⟩ rfl (by simp only [Rw.encL_eq, List.map_cons, List.map_nil, Rw.enc_eq] <;> rfl) (by decide) (by decide) ?_
            intro a39
            replace hr := Option.some.inj hr
            subst hr
            exact AtRet.pureG [.old 10] [(.slice a39 ((Rw.encL ([v15, v36])).length) 2, .sl 3 (Rw.encL ([v15, v36])))] rfl rfl ⟨a39, 2, rfl, rfl⟩
          · replace hr := cond_f h27 hr
            obtain ⟨v40, h41, hr⟩ := bind_some hr
            obtain ⟨h42, h43⟩ := idx_some h41
            refine at_index ttOK 3 rfl rfl rfl rfl h42 (Tm.encL_get h43) ?_
            intro a44 c44 _ _
            obtain ⟨v45, h46, hr⟩ := bind_some hr
            refine (R07_Printer_variable_spec n v1 v5 a2 c2 a3 c3 a4 c4 _ h46).atR [0, 1, 2] rfl rfl rfl ?_
            rintro _ _ ⟨rfl, rfl⟩
            refine ⟨fun _ _ h => h, ?_⟩
            obtain ⟨v47, h48, hr⟩ := bind_some hr
            refine (ih n (by omega) v1 (IntKind.i64.wrap (v5 + 1)) v40 a2 c2 a3 c3 a4 c4 a44 c44 _ h48).atR [0, 1, 2, 7] rfl rfl rfl ?_
            rintro _ _ ⟨a49, c49, rfl, rfl⟩
            refine ⟨fun _ _ h => h, ?_⟩
            refine at_buildG (n := 2) ttOK 48 [.agg [.int .i64 v15.op, .str v15.name, .sl 3 (Rw.encL v15.args)], .agg [.int .i64 v47.op, .str v47.name, .sl 3 (Rw.encL v47.args)]] (ds' := (Rw.encL ([v15, v47]))) rfl (by kernel_rfl) ⟨⟨rfl, rfl, rfl, ⟨[(.v (.int .i64 v15.op))], _, rfl, rfl, ⟨[(.v (.string v15.name))], _, rfl, rfl, ⟨[(.v (.slice a19 ((Rw.encL v15.args).length) c19))], _, rfl, (.inl ⟨_, rfl, nth_mem (j := 5) rfl⟩), rfl⟩⟩⟩⟩, ⟨⟨rfl, rfl, rfl, ⟨[(.v (.int .i64 v47.op))], _, rfl, rfl, ⟨[(.v (.string v47.name))], _, rfl, rfl, ⟨[(.v (.slice a49 ((Rw.encL v47.args).length) c49))], _, rfl, (.inl ⟨_, rfl, nth_mem (j := 8) rfl⟩), rfl⟩⟩⟩⟩, trivial⟩⟩ rfl (by simp only [Rw.encL_eq, List.map_cons, List.map_nil, Rw.enc_eq] <;> rfl) (by decide) (by decide) ?_
            intro a50
            replace hr := Option.some.inj hr
            subst hr
            exact AtRet.pureG [.old 9] [(.slice a50 ((Rw.encL ([v15, v47])).length) 2, .sl 3 (Rw.encL ([v15, v47])))] rfl rfl ⟨a50, 2, rfl, rfl⟩
        ·
          refine ⟨OwnKeptBut.append, ?_⟩
          refine (ih n (by omega) v1 v5 v10 a2 c2 a3 c3 a4 c4 a18 c18 _ h16).atR [0, 1, 2, 4] rfl rfl rfl ?_
          rintro _ _ ⟨a51, c51, rfl, rfl⟩
          obtain ⟨v20, h21, hr⟩ := bind_some hr
          obtain ⟨h22, h23⟩ := idx_some h21
          refine at_index ttOK 3 rfl rfl rfl rfl h22 (Tm.encL_get h23) ?_
          intro a24 c24 _ _
          obtain ⟨v25, h26, hr⟩ := bind_some hr
          refine (R03_Occurs_spec n v20 0 a24 c24 _ h26).atR [6] rfl rfl rfl ?_
          rintro _ _ ⟨rfl, rfl⟩
          refine AtIf.mk (fun h27 => ?_) (fun h27 => ?_)
          · replace hr := cond_t h27 hr
            obtain ⟨v28, h29, hr⟩ := bind_some hr
            obtain ⟨h30, h31⟩ := idx_some h29
            refine at_index ttOK 3 rfl rfl rfl rfl h30 (Tm.encL_get h31) ?_
            intro a32 c32 _ _
            obtain ⟨v33, h34, hr⟩ := bind_some hr
            refine (R07_lowered_spec n v28 a32 c32 _ h34).atR [7] rfl rfl rfl ?_
            rintro _ _ ⟨a35, c35, rfl, rfl⟩
            refine ⟨fun _ _ h => h, ?_⟩
            obtain ⟨v36, h37, hr⟩ := bind_some hr
            refine (ih n (by omega) v1 v5 v33 a2 c2 a3 c3 a4 c4 a35 c35 _ h37).atR [0, 1, 2, 8] rfl rfl rfl ?_
            rintro _ _ ⟨a38, c38, rfl, rfl⟩
            refine ⟨fun _ _ h => h, ?_⟩
            refine at_buildG (n := 2) ttOK 48 [.agg [.int .i64 v15.op, .str v15.name, .sl 3 (Rw.encL v15.args)], .agg [.int .i64 v36.op, .str v36.name, .sl 3 (Rw.encL v36.args)]] (ds' := (Rw.encL ([v15, v36]))) rfl (by kernel_rfl) ⟨⟨rfl, rfl, rfl, ⟨[(.v (.int .i64 v15.op))], _, rfl, rfl, ⟨[(.v (.string v15.name))], _, rfl, rfl, ⟨[(.v (.slice a51 ((Rw.encL v15.args).length) c51))], _, rfl, (.inl ⟨_, rfl, nth_mem (j := 5) rfl⟩), rfl⟩⟩⟩⟩, ⟨⟨rfl, rfl, rfl, ⟨[(.v (.int .i64 v36.op))], _, rfl, rfl, ⟨[(.v (.string v36.name))], _, rfl, rfl, ⟨[(.v (.slice a38 ((Rw.encL v36.args).length) c38))], _, rfl, (.inl ⟨_, rfl, nth_mem (j := 9) rfl⟩), rfl⟩⟩⟩⟩, trivial⟩⟩ rfl (by simp only [Rw.encL_eq, List.map_cons, List.map_nil, Rw.enc_eq] <;> rfl) (by decide) (by decide) ?_
            intro a39
            replace hr := Option.some.inj hr
            subst hr
            exact AtRet.pureG [.old 10] [(.slice a39 ((Rw.encL ([v15, v36])).length) 2, .sl 3 (Rw.encL ([v15, v36])))] rfl rfl ⟨a39, 2, rfl, rfl⟩
          · replace hr := cond_f h27 hr
            obtain ⟨v40, h41, hr⟩ := bind_some hr
            obtain ⟨h42, h43⟩ := idx_some h41
            refine at_index ttOK 3 rfl rfl rfl rfl h42 (Tm.encL_get h43) ?_
            intro a44 c44 _ _
            obtain ⟨v45, h46, hr⟩ := bind_some hr
            refine (R07_Printer_variable_spec n v1 v5 a2 c2 a3 c3 a4 c4 _ h46).atR [0, 1, 2] rfl rfl rfl ?_
            rintro _ _ ⟨rfl, rfl⟩
            refine ⟨fun _ _ h => h, ?_⟩
            obtain ⟨v47, h48, hr⟩ := bind_some hr
            refine (ih n (by omega) v1 (IntKind.i64.wrap (v5 + 1)) v40 a2 c2 a3 c3 a4 c4 a44 c44 _ h48).atR [0, 1, 2, 7] rfl rfl rfl ?_
            rintro _ _ ⟨a49, c49, rfl, rfl⟩
            refine ⟨fun _ _ h => h, ?_⟩
            refine at_buildG (n := 2) ttOK 48 [.agg [.int .i64 v15.op, .str v15.name, .sl 3 (Rw.encL v15.args)], .agg [.int .i64 v47.op, .str v47.name, .sl 3 (Rw.encL v47.args)]] (ds' := (Rw.encL ([v15, v47]))) rfl (by kernel_rfl) ⟨⟨rfl, rfl, rfl, ⟨[(.v (.int .i64 v15.op))], _, rfl, rfl, ⟨[(.v (.string v15.name))], _, rfl, rfl, ⟨[(.v (.slice a51 ((Rw.encL v15.args).length) c51))], _, rfl, (.inl ⟨_, rfl, nth_mem (j := 5) rfl⟩), rfl⟩⟩⟩⟩, ⟨⟨rfl, rfl, rfl, ⟨[(.v (.int .i64 v47.op))], _, rfl, rfl, ⟨[(.v (.string v47.name))], _, rfl, rfl, ⟨[(.v (.slice a49 ((Rw.encL v47.args).length) c49))], _, rfl, (.inl ⟨_, rfl, nth_mem (j := 8) rfl⟩), rfl⟩⟩⟩⟩, trivial⟩⟩ rfl (by simp only [Rw.encL_eq, List.map_cons, List.map_nil, Rw.enc_eq] <;> rfl) (by decide) (by decide) ?_
            intro a50
            replace hr := Option.some.inj hr
            subst hr
            exact AtRet.pureG [.old 9] [(.slice a50 ((Rw.encL ([v15, v47])).length) 2, .sl 3 (Rw.encL ([v15, v47])))] rfl rfl ⟨a50, 2, rfl, rfl⟩
      · replace hr := cond_f h9 hr
        refine AtIf.mk (fun h51 => ?_) (fun h51 => ?_)
        · replace hr := cond_t h51 hr
          obtain ⟨v52, h53, hr⟩ := bind_some hr
          obtain ⟨h54, h55⟩ := idx_some h53
          refine at_index ttOK 3 rfl rfl rfl rfl h54 (Tm.encL_get h55) ?_
          intro a56 c56 _ _
          obtain ⟨v57, h58, hr⟩ := bind_some hr
          refine (R07_Printer_variable_spec n v1 v5 a2 c2 a3 c3 a4 c4 _ h58).atR [0, 1, 2] rfl rfl rfl ?_
          rintro _ _ ⟨rfl, rfl⟩
          refine ⟨fun _ _ h => h, ?_⟩
          obtain ⟨v59, h60, hr⟩ := bind_some hr
          refine (ih n (by omega) v1 (IntKind.i64.wrap (v5 + 1)) v52 a2 c2 a3 c3 a4 c4 a56 c56 _ h60).atR [0, 1, 2, 4] rfl rfl rfl ?_
          rintro _ _ ⟨a61, c61, rfl, rfl⟩
          refine ⟨fun _ _ h => h, ?_⟩
          refine at_buildG (n := 2) ttOK 48 [.agg [.int .i64 3, .str ByteArray.empty, .sl 3 []], .agg [.int .i64 v59.op, .str v59.name, .sl 3 (Rw.encL v59.args)]] (ds' := (Rw.encL ([(Rw.mk 3 ByteArray.empty ([])), v59]))) rfl (by kernel_rfl) ⟨⟨rfl, rfl, rfl, ⟨[(.v (.int .i64 3))], _, rfl, rfl, ⟨[(.v (.string ByteArray.empty))], _, rfl, rfl, ⟨[(.v (.slice none 0 0))], _, rfl, (.inr ⟨rfl, rfl⟩), rfl⟩⟩⟩⟩, ⟨⟨rfl, rfl, rfl, ⟨[(.v (.int .i64 v59.op))], _, rfl, rfl, ⟨[(.v (.string v59.name))], _, rfl, rfl, ⟨[(.v (.slice a61 ((Rw.encL v59.args).length) c61))], _, rfl, (.inl ⟨_, rfl, nth_mem (j := 5) rfl⟩), rfl⟩⟩⟩⟩, trivial⟩⟩ rfl (by simp only [Rw.encL_eq, List.map_cons, List.map_nil, Rw.enc_eq] <;> rfl) (by decide) (by decide) ?_
          intro a62
          replace hr := Option.some.inj hr
          subst hr
          exact AtRet.pureG [.old 6] [(.slice a62 ((Rw.encL ([(Rw.mk 3 ByteArray.empty ([])), v59])).length) 2, .sl 3 (Rw.encL ([(Rw.mk 3 ByteArray.empty ([])), v59])))] rfl rfl ⟨a62, 2, rfl, rfl⟩
        · replace hr := cond_f h51 hr
          obtain ⟨v63, h64, hr⟩ := bind_some hr
          refine (R07_Printer_head_spec n v1 v5 v6 a2 c2 a3 c3 a4 c4 a7 c7 _ h64).atR [0, 1, 2, 3] rfl rfl rfl ?_
          rintro _ _ ⟨rfl, rfl⟩
          refine AtIf.mk (fun h65 => ?_) (fun h65 => ?_)
          · replace hr := cond_t h65 hr
            obtain ⟨v66, h67, hr⟩ := bind_some hr
            obtain ⟨h68, h69⟩ := idx_some h67
            refine at_index ttOK 0 rfl rfl rfl rfl h68 (Dc.encL_get h69) ?_
            intro a70 c70 _ _
            refine AtLoop.mk ⟨Nat × Rw × Option Addr × Nat × Int, fun x => [(1, (.v (.int .i64 v5))), (3, (.loc 0 0)), (5, (.loc 1 0)), (6, (.loc 2 0)), (8, (.loc 3 0)), (10, (.v (.int .i64 x.2.2.2.2)))], fun x => ⟨[.cells 89 [(.v (.slice a2 ((Dc.encL v1.sig).length) c2)), (.v (.slice a3 ((Mt.encL v1.metas).length) c3)), (.v (.slice a4 ((List.map D.str v1.names).length) c4))], .cells 26 [(.v (.int .i64 v6.op)), (.v (.int .i64 v6.hd)), (.v (.int .i64 v6.n)), (.v (.slice a7 ((Tm.encL v6.args).length) c7))], .cells 31 [(.v (.int .i64 0)), (.v (.string ByteArray.empty)), (.v (.slice none 0 0))], .cells 31 [(.v (.int .i64 x.2.1.op)), (.v (.string x.2.1.name)), (.v (.slice x.2.2.1 ((Rw.encL x.2.1.args).length) x.2.2.2.1))], .imm [(.v (.string v66.name)), (.v (.int .i64 v66.cls.op)), (.v (.int .i64 v66.cls.hd)), (.v (.int .i64 v66.cls.n)), (.v (.slice a70 ((Tm.encL v66.cls.args).length) c70)), (.v (.int .i64 v66.implicit))]], [], [(.slice x.2.2.1 ((Rw.encL x.2.1.args).length) x.2.2.2.1, .sl 3 (Rw.encL x.2.1.args)), (.slice a2 ((Dc.encL v1.sig).length) c2, .sl 6 (Dc.encL v1.sig)), (.slice a3 ((Mt.encL v1.metas).length) c3, .sl 10 (Mt.encL v1.metas)), (.slice a4 ((List.map D.str v1.names).length) c4, .sl 1 (List.map D.str v1.names)), (.slice a7 ((Tm.encL v6.args).length) c7, .sl 4 (Tm.encL v6.args)), (.slice a70 ((Tm.encL v66.cls.args).length) c70, .sl 4 (Tm.encL v66.cls.args))]⟩, fun x => x.1 ≤ N ∧ R07_Printer_raw_L1 x.1 v6 v1 v5 x.2.1 x.2.2.2.2 = some r, fun x => x.1, (n, (Rw.mk 2 v63 ([])), none, 0, v66.implicit), ⟨by omega, hr⟩, ⟨rfl, rfl, rfl, rfl, rfl, rfl, trivial⟩, (StLe.gen 5 [] [.nil 3, .old 0, .old 1, .old 2, .old 3, .old 4] rfl rfl rfl rfl rfl rfl rfl), fun x _ => ⟨rfl, rfl⟩, ?_⟩
            rintro ⟨n, v81, a82, c82, v83⟩ HH
            obtain ⟨hn, hr⟩ : n ≤ N ∧ R07_Printer_raw_L1 n v6 v1 v5 v81 v83 = some r := HH
            rcases n with _ | n
            · exact no_some hr
            rw [R07_Printer_raw_L1.eq_2] at hr
            refine AtIf.mk (fun h84 => ?_) (fun h84 => ?_)
            · replace hr := cond_t h84 hr
              obtain ⟨v85, h86, hr⟩ := bind_some hr
              obtain ⟨h87, h88⟩ := idx_some h86
              refine at_index ttOK 4 rfl rfl rfl rfl h87 (Tm.encL_get h88) ?_
              intro a89 c89 _ _
              obtain ⟨v90, h91, hr⟩ := bind_some hr
              refine (ih n (by omega) v1 v5 v85 a2 c2 a3 c3 a4 c4 a89 c89 _ h91).atR [1, 2, 3, 6] rfl rfl rfl ?_
              rintro _ _ ⟨a92, c92, rfl, rfl⟩
              refine ⟨fun _ _ h => h, ?_⟩
              refine at_buildG (n := 2) ttOK 48 [.agg [.int .i64 v81.op, .str v81.name, .sl 3 (Rw.encL v81.args)], .agg [.int .i64 v90.op, .str v90.name, .sl 3 (Rw.encL v90.args)]] (ds' := (Rw.encL ([v81, v90]))) rfl (by kernel_rfl) ⟨⟨rfl, rfl, rfl, ⟨[(.v (.int .i64 v81.op))], _, rfl, rfl, ⟨[(.v (.string v81.name))], _, rfl, rfl, ⟨[(.v (.slice a82 ((Rw.encL v81.args).length) c82))], _, rfl, (.inl ⟨_, rfl, nth_mem (j := 0) rfl⟩), rfl⟩⟩⟩⟩, ⟨⟨rfl, rfl, rfl, ⟨[(.v (.int .i64 v90.op))], _, rfl, rfl, ⟨[(.v (.string v90.name))], _, rfl, rfl, ⟨[(.v (.slice a92 ((Rw.encL v90.args).length) c92))], _, rfl, (.inl ⟨_, rfl, nth_mem (j := 7) rfl⟩), rfl⟩⟩⟩⟩, trivial⟩⟩ rfl (by simp only [Rw.encL_eq, List.map_cons, List.map_nil, Rw.enc_eq] <;> rfl) (by decide) (by decide) ?_
              intro a93
              exact ⟨(n, (Rw.mk 4 ByteArray.empty ([v81, v90])), a93, 2, (IntKind.i64.wrap (v83 + 1))), ⟨by omega, hr⟩, Nat.lt_succ_self _, ⟨rfl, rfl, rfl, rfl, rfl, rfl, trivial⟩, (StLe.gen 5 [] [.old 8, .old 1, .old 2, .old 3, .old 4, .old 5] rfl rfl rfl rfl rfl rfl rfl)⟩
            · replace hr := cond_f h84 hr
              replace hr := Option.some.inj hr
              subst hr
              exact AtRet.pureG [.old 0] [(.slice a82 ((Rw.encL v81.args).length) c82, .sl 3 (Rw.encL v81.args))] rfl rfl ⟨a82, c82, rfl, rfl⟩
          · replace hr := cond_f h65 hr
            refine AtLoop.mk ⟨Nat × Rw × Option Addr × Nat × Int, fun x => [(1, (.v (.int .i64 v5))), (3, (.loc 0 0)), (5, (.loc 1 0)), (6, (.loc 2 0)), (8, (.loc 3 0)), (10, (.v (.int .i64 x.2.2.2.2)))], fun x => ⟨[.cells 89 [(.v (.slice a2 ((Dc.encL v1.sig).length) c2)), (.v (.slice a3 ((Mt.encL v1.metas).length) c3)), (.v (.slice a4 ((List.map D.str v1.names).length) c4))], .cells 26 [(.v (.int .i64 v6.op)), (.v (.int .i64 v6.hd)), (.v (.int .i64 v6.n)), (.v (.slice a7 ((Tm.encL v6.args).length) c7))], .cells 31 [(.v (.int .i64 0)), (.v (.string ByteArray.empty)), (.v (.slice none 0 0))], .cells 31 [(.v (.int .i64 x.2.1.op)), (.v (.string x.2.1.name)), (.v (.slice x.2.2.1 ((Rw.encL x.2.1.args).length) x.2.2.2.1))]], [], [(.slice x.2.2.1 ((Rw.encL x.2.1.args).length) x.2.2.2.1, .sl 3 (Rw.encL x.2.1.args)), (.slice a2 ((Dc.encL v1.sig).length) c2, .sl 6 (Dc.encL v1.sig)), (.slice a3 ((Mt.encL v1.metas).length) c3, .sl 10 (Mt.encL v1.metas)), (.slice a4 ((List.map D.str v1.names).length) c4, .sl 1 (List.map D.str v1.names)), (.slice a7 ((Tm.encL v6.args).length) c7, .sl 4 (Tm.encL v6.args))]⟩, fun x => x.1 ≤ N ∧ R07_Printer_raw_L1 x.1 v6 v1 v5 x.2.1 x.2.2.2.2 = some r, fun x => x.1, (n, (Rw.mk 2 v63 ([])), none, 0, 0), ⟨by omega, hr⟩, ⟨rfl, rfl, rfl, rfl, rfl, rfl, trivial⟩, (StLe.gen 4 [] [.nil 3, .old 0, .old 1, .old 2, .old 3] rfl rfl rfl rfl rfl rfl rfl), fun x _ => ⟨rfl, rfl⟩, ?_⟩
            rintro ⟨n, v104, a105, c105, v106⟩ HH
            obtain ⟨hn, hr⟩ : n ≤ N ∧ R07_Printer_raw_L1 n v6 v1 v5 v104 v106 = some r := HH
            rcases n with _ | n
            · exact no_some hr
            rw [R07_Printer_raw_L1.eq_2] at hr
            refine AtIf.mk (fun h107 => ?_) (fun h107 => ?_)
            · replace hr := cond_t h107 hr
              obtain ⟨v108, h109, hr⟩ := bind_some hr
              obtain ⟨h110, h111⟩ := idx_some h109
              refine at_index ttOK 4 rfl rfl rfl rfl h110 (Tm.encL_get h111) ?_
              intro a112 c112 _ _
              obtain ⟨v113, h114, hr⟩ := bind_some hr
              refine (ih n (by omega) v1 v5 v108 a2 c2 a3 c3 a4 c4 a112 c112 _ h114).atR [1, 2, 3, 5] rfl rfl rfl ?_
              rintro _ _ ⟨a115, c115, rfl, rfl⟩
              refine ⟨fun _ _ h => h, ?_⟩
              refine at_buildG (n := 2) ttOK 48 [.agg [.int .i64 v104.op, .str v104.name, .sl 3 (Rw.encL v104.args)], .agg [.int .i64 v113.op, .str v113.name, .sl 3 (Rw.encL v113.args)]] (ds' := (Rw.encL ([v104, v113]))) rfl (by kernel_rfl) ⟨⟨rfl, rfl, rfl, ⟨[(.v (.int .i64 v104.op))], _, rfl, rfl, ⟨[(.v (.string v104.name))], _, rfl, rfl, ⟨[(.v (.slice a105 ((Rw.encL v104.args).length) c105))], _, rfl, (.inl ⟨_, rfl, nth_mem (j := 0) rfl⟩), rfl⟩⟩⟩⟩, ⟨⟨rfl, rfl, rfl, ⟨[(.v (.int .i64 v113.op))], _, rfl, rfl, ⟨[(.v (.string v113.name))], _, rfl, rfl, ⟨[(.v (.slice a115 ((Rw.encL v113.args).length) c115))], _, rfl, (.inl ⟨_, rfl, nth_mem (j := 6) rfl⟩), rfl⟩⟩⟩⟩, trivial⟩⟩ rfl (by simp only [Rw.encL_eq, List.map_cons, List.map_nil, Rw.enc_eq] <;> rfl) (by decide) (by decide) ?_
              intro a116
              exact ⟨(n, (Rw.mk 4 ByteArray.empty ([v104, v113])), a116, 2, (IntKind.i64.wrap (v106 + 1))), ⟨by omega, hr⟩, Nat.lt_succ_self _, ⟨rfl, rfl, rfl, rfl, rfl, rfl, trivial⟩, (StLe.gen 4 [] [.old 7, .old 1, .old 2, .old 3, .old 4] rfl rfl rfl rfl rfl rfl rfl)⟩
            · replace hr := cond_f h107 hr
              replace hr := Option.some.inj hr
              subst hr
              exact AtRet.pureG [.old 0] [(.slice a105 ((Rw.encL v104.args).length) c105, .sl 3 (Rw.encL v104.args))] rfl rfl ⟨a105, c105, rfl, rfl⟩
theorem R07_Printer_raw_spec (n : Nat) (v1 : Rpr) (v5 : Int) (v6 : Tm) (a2 : Option Addr) (c2 : Nat) (a3 : Option Addr) (c3 : Nat) (a4 : Option Addr) (c4 : Nat) (a7 : Option Addr) (c7 : Nat) (r : Rw) (hr : R07_Printer_raw n v1 v5 v6 = some r) : Pure Tryz.prog (.val (.fn (.func 111) [] [])) [(.agg [(.v (.slice a2 ((Dc.encL v1.sig).length) c2)), (.v (.slice a3 ((Mt.encL v1.metas).length) c3)), (.v (.slice a4 ((List.map D.str v1.names).length) c4))]), (.v (.int .i64 v5)), (.agg [(.v (.int .i64 v6.op)), (.v (.int .i64 v6.hd)), (.v (.int .i64 v6.n)), (.v (.slice a7 ((Tm.encL v6.args).length) c7))])] [(.slice a2 ((Dc.encL v1.sig).length) c2, .sl 6 (Dc.encL v1.sig)), (.slice a3 ((Mt.encL v1.metas).length) c3, .sl 10 (Mt.encL v1.metas)), (.slice a4 ((List.map D.str v1.names).length) c4, .sl 1 (List.map D.str v1.names)), (.slice a7 ((Tm.encL v6.args).length) c7, .sl 4 (Tm.encL v6.args))] (fun r' out => ∃ (b1 : Option Addr) (d1 : Nat), r' = (.agg [(.v (.int .i64 r.op)), (.v (.string r.name)), (.v (.slice b1 ((Rw.encL r.args).length) d1))]) ∧ out = [(.slice b1 ((Rw.encL r.args).length) d1, .sl 3 (Rw.encL r.args))]) := (R07_Printer_raw_specN n) n (Nat.le_refl _) v1 v5 v6 a2 c2 a3 c3 a4 c4 a7 c7 r hr
def R07_Printer_Raw : Nat → Rpr → Int → Tm → Option (Rw × Int)
  | 0, _, _, _ => none
  | n + 1, v1, v5, v6 =>
    (R07_Printer_scoped n v1 v5 v6).bind (fun v8 =>
    cond (!v8) (
    some ((Rw.mk 0 ByteArray.empty ([])), 27)) (
    (R07_Printer_full n v1 v6).bind (fun v11 =>
    cond (!v11) (
    some ((Rw.mk 0 ByteArray.empty ([])), 23)) (
    (R07_Printer_raw n v1 v5 v6).bind (fun v14 =>
    cond (!(rawOK v14)) (
    some ((Rw.mk 0 ByteArray.empty ([])), 5)) (
    some (v14, 0)))))))
theorem R07_Printer_Raw_spec (n : Nat) (v1 : Rpr) (v5 : Int) (v6 : Tm) (a2 : Option Addr) (c2 : Nat) (a3 : Option Addr) (c3 : Nat) (a4 : Option Addr) (c4 : Nat) (a7 : Option Addr) (c7 : Nat) (r : Rw × Int) (hr : R07_Printer_Raw n v1 v5 v6 = some r) : Pure Tryz.prog (.val (.fn (.func 79) [] [])) [(.agg [(.v (.slice a2 ((Dc.encL v1.sig).length) c2)), (.v (.slice a3 ((Mt.encL v1.metas).length) c3)), (.v (.slice a4 ((List.map D.str v1.names).length) c4))]), (.v (.int .i64 v5)), (.agg [(.v (.int .i64 v6.op)), (.v (.int .i64 v6.hd)), (.v (.int .i64 v6.n)), (.v (.slice a7 ((Tm.encL v6.args).length) c7))])] [(.slice a2 ((Dc.encL v1.sig).length) c2, .sl 6 (Dc.encL v1.sig)), (.slice a3 ((Mt.encL v1.metas).length) c3, .sl 10 (Mt.encL v1.metas)), (.slice a4 ((List.map D.str v1.names).length) c4, .sl 1 (List.map D.str v1.names)), (.slice a7 ((Tm.encL v6.args).length) c7, .sl 4 (Tm.encL v6.args))] (fun r' out => ∃ (b1 : Option Addr) (d1 : Nat), r' = (.tup [(.agg [(.v (.int .i64 r.1.op)), (.v (.string r.1.name)), (.v (.slice b1 ((Rw.encL r.1.args).length) d1))]), (.v (.int .i64 r.2))]) ∧ out = [(.slice b1 ((Rw.encL r.1.args).length) d1, .sl 3 (Rw.encL r.1.args))]) := by
  rcases n with _ | n
  · exact no_some hr
  rw [R07_Printer_Raw.eq_2] at hr
  refine spec_of_body (N := 29) (m := 0) (dt := fun _ => none) [] ttOK Tryz.func79 rfl Tryz.call79 Tryz.ntmps79 rfl rfl rfl mixed (by kernel_rfl) ?_
  obtain ⟨v8, h9, hr⟩ := bind_some hr
  refine (R07_Printer_scoped_spec n v1 v5 v6 a2 c2 a3 c3 a4 c4 a7 c7 _ h9).atR [0, 1, 2, 3] rfl rfl rfl ?_
  rintro _ _ ⟨rfl, rfl⟩
  refine AtIf.mk (fun h10 => ?_) (fun h10 => ?_)
  · replace hr := cond_t h10 hr
    replace hr := Option.some.inj hr
    subst hr
    exact AtRet.pureG [.nil 3] [(.slice none 0 0, .sl 3 [])] rfl rfl ⟨none, 0, rfl, rfl⟩
  · replace hr := cond_f h10 hr
    obtain ⟨v11, h12, hr⟩ := bind_some hr
    refine (R07_Printer_full_spec n v1 v6 a2 c2 a3 c3 a4 c4 a7 c7 _ h12).atR [0, 1, 2, 3] rfl rfl rfl ?_
    rintro _ _ ⟨rfl, rfl⟩
    refine AtIf.mk (fun h13 => ?_) (fun h13 => ?_)
    · replace hr := cond_t h13 hr
      replace hr := Option.some.inj hr
      subst hr
      exact AtRet.pureG [.nil 3] [(.slice none 0 0, .sl 3 [])] rfl rfl ⟨none, 0, rfl, rfl⟩
    · replace hr := cond_f h13 hr
      obtain ⟨v14, h15, hr⟩ := bind_some hr
      refine (R07_Printer_raw_spec n v1 v5 v6 a2 c2 a3 c3 a4 c4 a7 c7 _ h15).atR [0, 1, 2, 3] rfl rfl rfl ?_
      rintro _ _ ⟨a16, c16, rfl, rfl⟩
      refine (well_spec v14 a16 c16).atR [4] rfl rfl rfl ?_
      rintro _ _ ⟨rfl, rfl⟩
      refine AtIf.mk (fun h17 => ?_) (fun h17 => ?_)
      · replace hr := cond_t h17 hr
        replace hr := Option.some.inj hr
        subst hr
        exact AtRet.pureG [.nil 3] [(.slice none 0 0, .sl 3 [])] rfl rfl ⟨none, 0, rfl, rfl⟩
      · replace hr := cond_f h17 hr
        replace hr := Option.some.inj hr
        subst hr
        exact AtRet.pureG [.old 4] [(.slice a16 ((Rw.encL v14.args).length) c16, .sl 3 (Rw.encL v14.args))] rfl rfl ⟨a16, c16, rfl, rfl⟩
def R07_Printer_Text : Nat → Rpr → Int → Tm → Option (ByteArray × Int)
  | 0, _, _, _ => none
  | n + 1, v1, v5, v6 =>
    (R07_Printer_Raw n v1 v5 v6).bind (fun v8 =>
    cond (v8.2 != 0) (
    some (⟨#[]⟩, v8.2)) (
    (R02_Text n v8.1).bind (fun v12 =>
    some (v12, 0))))
theorem R07_Printer_Text_spec (n : Nat) (v1 : Rpr) (v5 : Int) (v6 : Tm) (a2 : Option Addr) (c2 : Nat) (a3 : Option Addr) (c3 : Nat) (a4 : Option Addr) (c4 : Nat) (a7 : Option Addr) (c7 : Nat) (r : ByteArray × Int) (hr : R07_Printer_Text n v1 v5 v6 = some r) : Pure Tryz.prog (.val (.fn (.func 42) [] [])) [(.agg [(.v (.slice a2 ((Dc.encL v1.sig).length) c2)), (.v (.slice a3 ((Mt.encL v1.metas).length) c3)), (.v (.slice a4 ((List.map D.str v1.names).length) c4))]), (.v (.int .i64 v5)), (.agg [(.v (.int .i64 v6.op)), (.v (.int .i64 v6.hd)), (.v (.int .i64 v6.n)), (.v (.slice a7 ((Tm.encL v6.args).length) c7))])] [(.slice a2 ((Dc.encL v1.sig).length) c2, .sl 6 (Dc.encL v1.sig)), (.slice a3 ((Mt.encL v1.metas).length) c3, .sl 10 (Mt.encL v1.metas)), (.slice a4 ((List.map D.str v1.names).length) c4, .sl 1 (List.map D.str v1.names)), (.slice a7 ((Tm.encL v6.args).length) c7, .sl 4 (Tm.encL v6.args))] (fun r' out => r' = (.tup [(.v (.string r.1)), (.v (.int .i64 r.2))]) ∧ out = []) := by
  rcases n with _ | n
  · exact no_some hr
  rw [R07_Printer_Text.eq_2] at hr
  refine spec_of_body (N := 22) (m := 0) (dt := fun _ => none) [] ttOK Tryz.func42 rfl Tryz.call42 Tryz.ntmps42 rfl rfl rfl mixed (by kernel_rfl) ?_
  obtain ⟨v8, h9, hr⟩ := bind_some hr
  refine (R07_Printer_Raw_spec n v1 v5 v6 a2 c2 a3 c3 a4 c4 a7 c7 _ h9).atR [0, 1, 2, 3] rfl rfl rfl ?_
  rintro _ _ ⟨a10, c10, rfl, rfl⟩
  refine AtIf.mk (fun h11 => ?_) (fun h11 => ?_)
  · replace hr := cond_t h11 hr
    replace hr := Option.some.inj hr
    subst hr
    exact AtRet.pureG [] [] rfl rfl ⟨rfl, rfl⟩
  · replace hr := cond_f h11 hr
    obtain ⟨v12, h13, hr⟩ := bind_some hr
    refine (R02_Text_spec n v8.1 a10 c10 _ h13).atR [4] rfl rfl rfl ?_
    rintro _ _ ⟨rfl, rfl⟩
    replace hr := Option.some.inj hr
    subst hr
    exact AtRet.pureG [] [] rfl rfl ⟨rfl, rfl⟩
mutual
def R07_Context : Nat → (List Dc) → (List Tm) → Option (ByteArray × Int)
  | 0, _, _ => none
  | n + 1, v1, v3 =>
    R07_Context_L1 n v3 v1 (⟨#[]⟩) 0
def R07_Context_L1 : Nat → (List Tm) → (List Dc) → ByteArray → Int → Option (ByteArray × Int)
  | 0, _, _, _, _ => none
  | n + 1, v3, v1, v22, v23 =>
    cond (decide (v23 < ((Tm.encL v3).length : Int))) (
    (idx v3 v23).bind (fun v25 =>
    (R07_Printer_Text n (Rpr.mk v1 ([]) ([])) v23 v25).bind (fun v30 =>
    cond (v30.2 != 0) (
    some (⟨#[]⟩, v30.2)) (
    cond (decide (v23 > 0)) (
    cond (decide (v22.size + (⟨#[44, 32]⟩ : ByteArray).size ≤ 1000000)) (
    (R07_Printer_variable n (Rpr.mk v1 ([]) ([])) v23).bind (fun v35 =>
    cond (!(refNameF v35)) (
    some (⟨#[]⟩, 5)) (
    cond (decide ((v22 ++ (⟨#[44, 32]⟩ : ByteArray)).size + v35.size ≤ 1000000)) (
    cond (decide (((v22 ++ (⟨#[44, 32]⟩ : ByteArray)) ++ v35).size + (⟨#[58]⟩ : ByteArray).size ≤ 1000000)) (
    cond (decide ((((v22 ++ (⟨#[44, 32]⟩ : ByteArray)) ++ v35) ++ (⟨#[58]⟩ : ByteArray)).size + v30.1.size ≤ 1000000)) (
    R07_Context_L1 n v3 v1 ((((v22 ++ (⟨#[44, 32]⟩ : ByteArray)) ++ v35) ++ (⟨#[58]⟩ : ByteArray)) ++ v30.1) (IntKind.i64.wrap (v23 + 1))) none) none) none))) none) (
    (R07_Printer_variable n (Rpr.mk v1 ([]) ([])) v23).bind (fun v41 =>
    cond (!(refNameF v41)) (
    some (⟨#[]⟩, 5)) (
    cond (decide (v22.size + v41.size ≤ 1000000)) (
    cond (decide ((v22 ++ v41).size + (⟨#[58]⟩ : ByteArray).size ≤ 1000000)) (
    cond (decide (((v22 ++ v41) ++ (⟨#[58]⟩ : ByteArray)).size + v30.1.size ≤ 1000000)) (
    R07_Context_L1 n v3 v1 (((v22 ++ v41) ++ (⟨#[58]⟩ : ByteArray)) ++ v30.1) (IntKind.i64.wrap (v23 + 1))) none) none) none))))))) (
    some (v22, 0))
 end
theorem R07_Context_spec (n : Nat) (v1 : (List Dc)) (v3 : (List Tm)) (a2 : Option Addr) (c2 : Nat) (a4 : Option Addr) (c4 : Nat) (r : ByteArray × Int) (hr : R07_Context n v1 v3 = some r) : Pure Tryz.prog (.val (.fn (.func 22) [] [])) [(.v (.slice a2 ((Dc.encL v1).length) c2)), (.v (.slice a4 ((Tm.encL v3).length) c4))] [(.slice a2 ((Dc.encL v1).length) c2, .sl 6 (Dc.encL v1)), (.slice a4 ((Tm.encL v3).length) c4, .sl 4 (Tm.encL v3))] (fun r' out => r' = (.tup [(.v (.string r.1)), (.v (.int .i64 r.2))]) ∧ out = []) := by
  rcases n with _ | n
  · exact no_some hr
  rw [R07_Context.eq_2] at hr
  refine spec_of_body (N := 50) (m := 0) (dt := fun _ => none) [] ttOK Tryz.func22 rfl Tryz.call22 Tryz.ntmps22 rfl rfl rfl mixed (by kernel_rfl) ?_
  refine AtLoop.mk ⟨Nat × ByteArray × Int, fun x => [(6, (.loc 0 0)), (7, (.v (.string x.2.1))), (15, (.v (.slice a4 ((Tm.encL v3).length) c4))), (16, (.v (.int .i64 ((Tm.encL v3).length : Int)))), (17, (.v (.int .i64 x.2.2)))], fun x => ⟨[.cells 89 [(.v (.slice a2 ((Dc.encL v1).length) c2)), (.v (.slice none 0 0)), (.v (.slice none 0 0))]], [], [(.slice a2 ((Dc.encL v1).length) c2, .sl 6 (Dc.encL v1)), (.slice a4 ((Tm.encL v3).length) c4, .sl 4 (Tm.encL v3))]⟩, fun x => R07_Context_L1 x.1 v3 v1 x.2.1 x.2.2 = some r, fun x => x.1, (n, ⟨#[]⟩, 0), hr, ⟨rfl, rfl, rfl, rfl, rfl, trivial⟩, (StLe.gen 1 [] [.old 0, .old 1] rfl rfl rfl rfl rfl rfl rfl), fun x _ => ⟨rfl, rfl⟩, ?_⟩
  rintro ⟨n, v22, v23⟩ HH
  have hr : R07_Context_L1 n v3 v1 v22 v23 = some r := HH
  rcases n with _ | n
  · exact no_some hr
  rw [R07_Context_L1.eq_2] at hr
  refine AtIf.mk (fun h24 => ?_) (fun h24 => ?_)
  · replace hr := cond_t h24 hr
    obtain ⟨v25, h26, hr⟩ := bind_some hr
    obtain ⟨h27, h28⟩ := idx_some h26
    refine at_index ttOK 1 rfl rfl rfl rfl h27 (Tm.encL_get h28) ?_
    intro a29 c29 _ _
    obtain ⟨v30, h31, hr⟩ := bind_some hr
    refine Meets.nilRep 10 ?_
    refine Meets.nilRep 1 ?_
    refine (R07_Printer_Text_spec n (Rpr.mk v1 ([]) ([])) v23 v25 a2 c2 none 0 none 0 a29 c29 _ h31).atR [2, 1, 0, 4] rfl rfl rfl ?_
    rintro _ _ ⟨rfl, rfl⟩
    refine AtIf.mk (fun h32 => ?_) (fun h32 => ?_)
    · replace hr := cond_t h32 hr
      replace hr := Option.some.inj hr
      subst hr
      exact AtRet.pureG [] [] rfl rfl ⟨rfl, rfl⟩
    · replace hr := cond_f h32 hr
      refine AtIf.mk (fun h33 => ?_) (fun h33 => ?_)
      · replace hr := cond_t h33 hr
        obtain ⟨h34, hr⟩ := cond_need hr
        refine at_concat (of_decide_eq_true h34) ?_
        obtain ⟨v35, h36, hr⟩ := bind_some hr
        refine (R07_Printer_variable_spec n (Rpr.mk v1 ([]) ([])) v23 a2 c2 none 0 none 0 _ h36).atR [2, 1, 0] rfl rfl rfl ?_
        rintro _ _ ⟨rfl, rfl⟩
        refine (refIsName_spec v35).atR [] rfl rfl rfl ?_
        rintro _ _ ⟨rfl, rfl⟩
        refine AtIf.mk (fun h37 => ?_) (fun h37 => ?_)
        · replace hr := cond_t h37 hr
          replace hr := Option.some.inj hr
          subst hr
          exact AtRet.pureG [] [] rfl rfl ⟨rfl, rfl⟩
        · replace hr := cond_f h37 hr
          obtain ⟨h38, hr⟩ := cond_need hr
          refine at_concat (of_decide_eq_true h38) ?_
          obtain ⟨h39, hr⟩ := cond_need hr
          refine at_concat (of_decide_eq_true h39) ?_
          obtain ⟨h40, hr⟩ := cond_need hr
          refine at_concat (of_decide_eq_true h40) ?_
          exact ⟨(n, ((((v22 ++ (⟨#[44, 32]⟩ : ByteArray)) ++ v35) ++ (⟨#[58]⟩ : ByteArray)) ++ v30.1), (IntKind.i64.wrap (v23 + 1))), hr, Nat.lt_succ_self _, ⟨rfl, rfl, rfl, rfl, rfl, trivial⟩, (StLe.gen 1 [] [.old 2, .old 3] rfl rfl rfl rfl rfl rfl rfl)⟩
      · replace hr := cond_f h33 hr
        obtain ⟨v41, h42, hr⟩ := bind_some hr
        refine (R07_Printer_variable_spec n (Rpr.mk v1 ([]) ([])) v23 a2 c2 none 0 none 0 _ h42).atR [2, 1, 0] rfl rfl rfl ?_
        rintro _ _ ⟨rfl, rfl⟩
        refine (refIsName_spec v41).atR [] rfl rfl rfl ?_
        rintro _ _ ⟨rfl, rfl⟩
        refine AtIf.mk (fun h43 => ?_) (fun h43 => ?_)
        · replace hr := cond_t h43 hr
          replace hr := Option.some.inj hr
          subst hr
          exact AtRet.pureG [] [] rfl rfl ⟨rfl, rfl⟩
        · replace hr := cond_f h43 hr
          obtain ⟨h44, hr⟩ := cond_need hr
          refine at_concat (of_decide_eq_true h44) ?_
          obtain ⟨h45, hr⟩ := cond_need hr
          refine at_concat (of_decide_eq_true h45) ?_
          obtain ⟨h46, hr⟩ := cond_need hr
          refine at_concat (of_decide_eq_true h46) ?_
          exact ⟨(n, (((v22 ++ v41) ++ (⟨#[58]⟩ : ByteArray)) ++ v30.1), (IntKind.i64.wrap (v23 + 1))), hr, Nat.lt_succ_self _, ⟨rfl, rfl, rfl, rfl, rfl, trivial⟩, (StLe.gen 1 [] [.old 2, .old 3] rfl rfl rfl rfl rfl rfl rfl)⟩
  · replace hr := cond_f h24 hr
    replace hr := Option.some.inj hr
    subst hr
    exact AtRet.pureG [] [] rfl rfl ⟨rfl, rfl⟩
def W07_vr : Nat → Int → (List Tm) → Option (Tm)
  | 0, _, _ => none
  | n + 1, v1, v2 =>
    some ((Tm.mk 4 1 v1 v2))
theorem W07_vr_spec (n : Nat) (v1 : Int) (v2 : (List Tm)) (a3 : Option Addr) (c3 : Nat) (r : Tm) (hr : W07_vr n v1 v2 = some r) : Pure Tryz.prog (.val (.fn (.func 12) [] [])) [(.v (.int .i64 v1)), (.v (.slice a3 ((Tm.encL v2).length) c3))] [(.slice a3 ((Tm.encL v2).length) c3, .sl 4 (Tm.encL v2))] (fun r' out => ∃ (b1 : Option Addr) (d1 : Nat), r' = (.agg [(.v (.int .i64 r.op)), (.v (.int .i64 r.hd)), (.v (.int .i64 r.n)), (.v (.slice b1 ((Tm.encL r.args).length) d1))]) ∧ out = [(.slice b1 ((Tm.encL r.args).length) d1, .sl 4 (Tm.encL r.args))]) := by
  rcases n with _ | n
  · exact no_some hr
  rw [W07_vr.eq_2] at hr
  refine spec_of_body (N := 8) (m := 0) (dt := fun _ => none) [] ttOK Tryz.func12 rfl Tryz.call12 Tryz.ntmps12 rfl rfl rfl mixed (by kernel_rfl) ?_
  replace hr := Option.some.inj hr
  subst hr
  exact AtRet.pureG [.old 0] [(.slice a3 ((Tm.encL v2).length) c3, .sl 4 (Tm.encL v2))] rfl rfl ⟨a3, c3, rfl, rfl⟩
def W07_pi : Nat → Tm → Tm → Option (Tm)
  | 0, _, _ => none
  | n + 1, v1, v3 =>
    some ((Tm.mk 2 0 0 ([v1, v3])))
theorem W07_pi_spec (n : Nat) (v1 : Tm) (v3 : Tm) (a2 : Option Addr) (c2 : Nat) (a4 : Option Addr) (c4 : Nat) (r : Tm) (hr : W07_pi n v1 v3 = some r) : Pure Tryz.prog (.val (.fn (.func 28) [] [])) [(.agg [(.v (.int .i64 v1.op)), (.v (.int .i64 v1.hd)), (.v (.int .i64 v1.n)), (.v (.slice a2 ((Tm.encL v1.args).length) c2))]), (.agg [(.v (.int .i64 v3.op)), (.v (.int .i64 v3.hd)), (.v (.int .i64 v3.n)), (.v (.slice a4 ((Tm.encL v3.args).length) c4))])] [(.slice a2 ((Tm.encL v1.args).length) c2, .sl 4 (Tm.encL v1.args)), (.slice a4 ((Tm.encL v3.args).length) c4, .sl 4 (Tm.encL v3.args))] (fun r' out => ∃ (b1 : Option Addr) (d1 : Nat), r' = (.agg [(.v (.int .i64 r.op)), (.v (.int .i64 r.hd)), (.v (.int .i64 r.n)), (.v (.slice b1 ((Tm.encL r.args).length) d1))]) ∧ out = [(.slice b1 ((Tm.encL r.args).length) d1, .sl 4 (Tm.encL r.args))]) := by
  rcases n with _ | n
  · exact no_some hr
  rw [W07_pi.eq_2] at hr
  refine spec_of_body (N := 9) (m := 0) (dt := fun _ => none) [] ttOK Tryz.func28 rfl Tryz.call28 Tryz.ntmps28 rfl rfl rfl mixed (by kernel_rfl) ?_
  refine at_buildG (n := 2) ttOK 48 [.agg [.int .i64 v1.op, .int .i64 v1.hd, .int .i64 v1.n, .sl 4 (Tm.encL v1.args)], .agg [.int .i64 v3.op, .int .i64 v3.hd, .int .i64 v3.n, .sl 4 (Tm.encL v3.args)]] (ds' := (Tm.encL ([v1, v3]))) rfl (by kernel_rfl) ⟨⟨rfl, rfl, rfl, ⟨[(.v (.int .i64 v1.op))], _, rfl, rfl, ⟨[(.v (.int .i64 v1.hd))], _, rfl, rfl, ⟨[(.v (.int .i64 v1.n))], _, rfl, rfl, ⟨[(.v (.slice a2 ((Tm.encL v1.args).length) c2))], _, rfl, (.inl ⟨_, rfl, nth_mem (j := 0) rfl⟩), rfl⟩⟩⟩⟩⟩, ⟨⟨rfl, rfl, rfl, ⟨[(.v (.int .i64 v3.op))], _, rfl, rfl, ⟨[(.v (.int .i64 v3.hd))], _, rfl, rfl, ⟨[(.v (.int .i64 v3.n))], _, rfl, rfl, ⟨[(.v (.slice a4 ((Tm.encL v3.args).length) c4))], _, rfl, (.inl ⟨_, rfl, nth_mem (j := 1) rfl⟩), rfl⟩⟩⟩⟩⟩, trivial⟩⟩ rfl (by simp only [Tm.encL_eq, List.map_cons, List.map_nil, Tm.enc_eq] <;> rfl) (by decide) (by decide) ?_
  intro a5
  replace hr := Option.some.inj hr
  subst hr
  exact AtRet.pureG [.old 2] [(.slice a5 ((Tm.encL ([v1, v3])).length) 2, .sl 4 (Tm.encL ([v1, v3])))] rfl rfl ⟨a5, 2, rfl, rfl⟩
def W07_con : Nat → Int → (List Tm) → Option (Tm)
  | 0, _, _ => none
  | n + 1, v1, v2 =>
    some ((Tm.mk 4 2 v1 v2))
theorem W07_con_spec (n : Nat) (v1 : Int) (v2 : (List Tm)) (a3 : Option Addr) (c3 : Nat) (r : Tm) (hr : W07_con n v1 v2 = some r) : Pure Tryz.prog (.val (.fn (.func 29) [] [])) [(.v (.int .i64 v1)), (.v (.slice a3 ((Tm.encL v2).length) c3))] [(.slice a3 ((Tm.encL v2).length) c3, .sl 4 (Tm.encL v2))] (fun r' out => ∃ (b1 : Option Addr) (d1 : Nat), r' = (.agg [(.v (.int .i64 r.op)), (.v (.int .i64 r.hd)), (.v (.int .i64 r.n)), (.v (.slice b1 ((Tm.encL r.args).length) d1))]) ∧ out = [(.slice b1 ((Tm.encL r.args).length) d1, .sl 4 (Tm.encL r.args))]) := by
  rcases n with _ | n
  · exact no_some hr
  rw [W07_con.eq_2] at hr
  refine spec_of_body (N := 8) (m := 0) (dt := fun _ => none) [] ttOK Tryz.func29 rfl Tryz.call29 Tryz.ntmps29 rfl rfl rfl mixed (by kernel_rfl) ?_
  replace hr := Option.some.inj hr
  subst hr
  exact AtRet.pureG [.old 0] [(.slice a3 ((Tm.encL v2).length) c3, .sl 4 (Tm.encL v2))] rfl rfl ⟨a3, c3, rfl, rfl⟩
mutual
def print_Decl : Nat → (List Dc) → Int → Option (It × Int)
  | 0, _, _ => none
  | n + 1, v1, v3 =>
    (sign_Check n v1).bind (fun v4 =>
    cond (v4 != 0) (
    some ((It.mk ByteArray.empty ByteArray.empty (Rw.mk 0 ByteArray.empty ([])) ([])), 2)) (
    cond ((decide (v3 < 0)) || (decide (v3 ≥ ((Dc.encL v1).length : Int)))) (
    some ((It.mk ByteArray.empty ByteArray.empty (Rw.mk 0 ByteArray.empty ([])) ([])), 6)) (
    (idx v1 v3).bind (fun v8 =>
    print_Decl_L1 n v8 v1 v8.cls 0))))
def print_Decl_L1 : Nat → Dc → (List Dc) → Tm → Int → Option (It × Int)
  | 0, _, _, _, _ => none
  | n + 1, v8, v1, v19, v21 =>
    cond (decide (v21 < v8.implicit)) (
    (idx v19.args 1).bind (fun v23 =>
    print_Decl_L1 n v8 v1 v23 (IntKind.i64.wrap (v21 + 1)))) (
    (print_printer_scoped n v8.cls 0 (Prt.mk v1 ([]) v8.implicit)).bind (fun v28 =>
    cond (v28 != 0) (
    some ((It.mk ByteArray.empty ByteArray.empty (Rw.mk 0 ByteArray.empty ([])) ([])), v28)) (
    (print_printer_raw n v19 v8.implicit (Prt.mk v1 ([]) v8.implicit)).bind (fun v31 =>
    (print_kept n v31.1 v31.2).bind (fun v34 =>
    cond (v34.2 != 0) (
    some ((It.mk ByteArray.empty ByteArray.empty (Rw.mk 0 ByteArray.empty ([])) ([])), v34.2)) (
    some ((It.mk ByteArray.empty v8.name v34.1 ([])), 0)))))))
 end
theorem print_Decl_spec (n : Nat) (v1 : (List Dc)) (v3 : Int) (a2 : Option Addr) (c2 : Nat) (r : It × Int) (hr : print_Decl n v1 v3 = some r) : Pure Tryz.prog (.val (.fn (.func 57) [] [])) [(.v (.slice a2 ((Dc.encL v1).length) c2)), (.v (.int .i64 v3))] [(.slice a2 ((Dc.encL v1).length) c2, .sl 6 (Dc.encL v1))] (fun r' out => ∃ (b1 : Option Addr) (d1 : Nat), ∃ (b2 : Option Addr) (d2 : Nat), r' = (.tup [(.agg [(.v (.string r.1.word)), (.v (.string r.1.name)), (.v (.int .i64 r.1.raw.op)), (.v (.string r.1.raw.name)), (.v (.slice b1 ((Rw.encL r.1.raw.args).length) d1)), (.v (.slice b2 ((Pt.encL r.1.parts).length) d2))]), (.v (.int .i64 r.2))]) ∧ out = [(.slice b1 ((Rw.encL r.1.raw.args).length) d1, .sl 3 (Rw.encL r.1.raw.args)), (.slice b2 ((Pt.encL r.1.parts).length) d2, .sl 8 (Pt.encL r.1.parts))]) := by
  rcases n with _ | n
  · exact no_some hr
  rw [print_Decl.eq_2] at hr
  refine spec_of_body (N := 72) (m := 0) (dt := fun _ => none) [] ttOK Tryz.func57 rfl Tryz.call57 Tryz.ntmps57 rfl rfl rfl mixed (by kernel_rfl) ?_
  obtain ⟨v4, h5, hr⟩ := bind_some hr
  refine (sign_Check_spec n v1 a2 c2 _ h5).atR [0] rfl rfl rfl ?_
  rintro _ _ ⟨rfl, rfl⟩
  refine AtIf.mk (fun h6 => ?_) (fun h6 => ?_)
  · replace hr := cond_t h6 hr
    replace hr := Option.some.inj hr
    subst hr
    exact AtRet.pureG [.nil 3, .nil 8] [(.slice none 0 0, .sl 3 []), (.slice none 0 0, .sl 8 [])] rfl rfl ⟨none, 0, none, 0, rfl, rfl⟩
  · replace hr := cond_f h6 hr
    refine AtIf.mk (fun h7 => ?_) (fun h7 => ?_)
    · replace hr := cond_t h7 hr
      replace hr := Option.some.inj hr
      subst hr
      exact AtRet.pureG [.nil 3, .nil 8] [(.slice none 0 0, .sl 3 []), (.slice none 0 0, .sl 8 [])] rfl rfl ⟨none, 0, none, 0, rfl, rfl⟩
    · replace hr := cond_f h7 hr
      obtain ⟨v8, h9, hr⟩ := bind_some hr
      obtain ⟨h10, h11⟩ := idx_some h9
      refine at_index ttOK 0 rfl rfl rfl rfl h10 (Dc.encL_get h11) ?_
      intro a12 c12 _ _
      refine AtLoop.mk ⟨Nat × Tm × Option Addr × Nat × Int, fun x => [(0, (.v (.slice a2 ((Dc.encL v1).length) c2))), (4, (.loc 0 0)), (6, (.loc 2 0)), (7, (.loc 3 0)), (32, (.v (.int .i64 v8.implicit))), (33, (.v (.int .i64 x.2.2.2.2)))], fun x => ⟨[.cells 107 [(.v (.string ByteArray.empty)), (.v (.string ByteArray.empty)), (.v (.int .i64 0)), (.v (.string ByteArray.empty)), (.v (.slice none 0 0)), (.v (.slice none 0 0))], .imm [(.v (.string v8.name)), (.v (.int .i64 v8.cls.op)), (.v (.int .i64 v8.cls.hd)), (.v (.int .i64 v8.cls.n)), (.v (.slice a12 ((Tm.encL v8.cls.args).length) c12)), (.v (.int .i64 v8.implicit))], .cells 42 [(.v (.string v8.name)), (.v (.int .i64 v8.cls.op)), (.v (.int .i64 v8.cls.hd)), (.v (.int .i64 v8.cls.n)), (.v (.slice a12 ((Tm.encL v8.cls.args).length) c12)), (.v (.int .i64 v8.implicit))], .cells 26 [(.v (.int .i64 x.2.1.op)), (.v (.int .i64 x.2.1.hd)), (.v (.int .i64 x.2.1.n)), (.v (.slice x.2.2.1 ((Tm.encL x.2.1.args).length) x.2.2.2.1))]], [], [(.slice x.2.2.1 ((Tm.encL x.2.1.args).length) x.2.2.2.1, .sl 4 (Tm.encL x.2.1.args)), (.slice a2 ((Dc.encL v1).length) c2, .sl 6 (Dc.encL v1)), (.slice a12 ((Tm.encL v8.cls.args).length) c12, .sl 4 (Tm.encL v8.cls.args))]⟩, fun x => print_Decl_L1 x.1 v8 v1 x.2.1 x.2.2.2.2 = some r, fun x => x.1, (n, v8.cls, a12, c12, 0), hr, ⟨rfl, rfl, rfl, rfl, rfl, rfl, trivial⟩, (StLe.gen 4 [] [.old 1, .old 0, .old 1] rfl rfl rfl rfl rfl rfl rfl), fun x _ => ⟨rfl, rfl⟩, ?_⟩
      rintro ⟨n, v19, a20, c20, v21⟩ HH
      have hr : print_Decl_L1 n v8 v1 v19 v21 = some r := HH
      rcases n with _ | n
      · exact no_some hr
      rw [print_Decl_L1.eq_2] at hr
      refine AtIf.mk (fun h22 => ?_) (fun h22 => ?_)
      · replace hr := cond_t h22 hr
        obtain ⟨v23, h24, hr⟩ := bind_some hr
        obtain ⟨h25, h26⟩ := idx_some h24
        refine at_index ttOK 0 rfl rfl rfl rfl h25 (Tm.encL_get h26) ?_
        intro a27 c27 _ _
        exact ⟨(n, v23, a27, c27, (IntKind.i64.wrap (v21 + 1))), hr, Nat.lt_succ_self _, ⟨rfl, rfl, rfl, rfl, rfl, rfl, trivial⟩, (StLe.gen 4 [] [.old 3, .old 1, .old 2] rfl rfl rfl rfl rfl rfl rfl)⟩
      · replace hr := cond_f h22 hr
        obtain ⟨v28, h29, hr⟩ := bind_some hr
        refine Meets.nilRep 10 ?_
        refine (print_printer_scoped_spec n v8.cls 0 (Prt.mk v1 ([]) v8.implicit) a12 c12 a2 c2 none 0 _ h29).frameR [4] [3, 2, 0] rfl rfl rfl rfl rfl rfl rfl rfl ?_
        rintro _ _ ⟨rfl, rfl⟩
        refine ⟨rfl, rfl, [.cells 63 [(.v (.slice a2 ((Dc.encL v1).length) c2)), (.v (.slice none 0 0)), (.v (.int .i64 v8.implicit))]], rfl, ?_⟩
        refine AtIf.mk (fun h30 => ?_) (fun h30 => ?_)
        · replace hr := cond_t h30 hr
          replace hr := Option.some.inj hr
          subst hr
          exact AtRet.pureG [.nil 3, .nil 8] [(.slice none 0 0, .sl 3 []), (.slice none 0 0, .sl 8 [])] rfl rfl ⟨none, 0, none, 0, rfl, rfl⟩
        · replace hr := cond_f h30 hr
          obtain ⟨v31, h32, hr⟩ := bind_some hr
          refine (print_printer_raw_spec n v19 v8.implicit (Prt.mk v1 ([]) v8.implicit) a20 c20 a2 c2 none 0 _ h32).frameR [4] [1, 2, 0] rfl rfl rfl rfl rfl rfl rfl rfl ?_
          rintro _ _ ⟨a33, c33, rfl, rfl⟩
          refine ⟨rfl, rfl, [.cells 63 [(.v (.slice a2 ((Dc.encL v1).length) c2)), (.v (.slice none 0 0)), (.v (.int .i64 v8.implicit))]], rfl, ?_⟩
          obtain ⟨v34, h35, hr⟩ := bind_some hr
          refine (print_kept_spec n v31.1 v31.2 a33 c33 _ h35).atR [4] rfl rfl rfl ?_
          rintro _ _ ⟨a36, c36, rfl, rfl⟩
          refine AtIf.mk (fun h37 => ?_) (fun h37 => ?_)
          · replace hr := cond_t h37 hr
            replace hr := Option.some.inj hr
            subst hr
            exact AtRet.pureG [.nil 3, .nil 8] [(.slice none 0 0, .sl 3 []), (.slice none 0 0, .sl 8 [])] rfl rfl ⟨none, 0, none, 0, rfl, rfl⟩
          · replace hr := cond_f h37 hr
            replace hr := Option.some.inj hr
            subst hr
            exact AtRet.pureG [.old 5, .nil 8] [(.slice a36 ((Rw.encL v34.1.args).length) c36, .sl 3 (Rw.encL v34.1.args)), (.slice none 0 0, .sl 8 [])] rfl rfl ⟨a36, c36, none, 0, rfl, rfl⟩
def print_Line : Nat → (List Dc) → Int → Option (ByteArray × Int)
  | 0, _, _ => none
  | n + 1, v1, v3 =>
    (print_Decl n v1 v3).bind (fun v4 =>
    cond (v4.2 != 0) (
    some (⟨#[]⟩, v4.2)) (
    (syntax_TextItem n v4.1).bind (fun v9 =>
    some (v9.1, v9.2))))
theorem print_Line_spec (n : Nat) (v1 : (List Dc)) (v3 : Int) (a2 : Option Addr) (c2 : Nat) (r : ByteArray × Int) (hr : print_Line n v1 v3 = some r) : Pure Tryz.prog (.val (.fn (.func 30) [] [])) [(.v (.slice a2 ((Dc.encL v1).length) c2)), (.v (.int .i64 v3))] [(.slice a2 ((Dc.encL v1).length) c2, .sl 6 (Dc.encL v1))] (fun r' out => r' = (.tup [(.v (.string r.1)), (.v (.int .i64 r.2))]) ∧ out = []) := by
  rcases n with _ | n
  · exact no_some hr
  rw [print_Line.eq_2] at hr
  refine spec_of_body (N := 21) (m := 0) (dt := fun _ => none) [] ttOK Tryz.func30 rfl Tryz.call30 Tryz.ntmps30 rfl rfl rfl mixed (by kernel_rfl) ?_
  obtain ⟨v4, h5, hr⟩ := bind_some hr
  refine (print_Decl_spec n v1 v3 a2 c2 _ h5).atR [0] rfl rfl rfl ?_
  rintro _ _ ⟨a6, c6, a7, c7, rfl, rfl⟩
  refine AtIf.mk (fun h8 => ?_) (fun h8 => ?_)
  · replace hr := cond_t h8 hr
    replace hr := Option.some.inj hr
    subst hr
    exact AtRet.pureG [] [] rfl rfl ⟨rfl, rfl⟩
  · replace hr := cond_f h8 hr
    obtain ⟨v9, h10, hr⟩ := bind_some hr
    refine (syntax_TextItem_spec n v4.1 a6 c6 a7 c7 _ h10).atR [1, 2] rfl rfl rfl ?_
    rintro _ _ ⟨rfl, rfl⟩
    replace hr := Option.some.inj hr
    subst hr
    exact AtRet.pureG [] [] rfl rfl ⟨rfl, rfl⟩
def W07_awake : Nat → Option (Bool)
  | 0 => none
  | n + 1 =>
    (W07_con n 0 ([])).bind (fun v1 =>
    (W07_con n 0 ([])).bind (fun v4 =>
    (W07_con n 0 ([])).bind (fun v7 =>
    (W07_pi n v7 (Tm.mk 1 0 0 ([]))).bind (fun v10 =>
    (W07_pi n v4 v10).bind (fun v13 =>
    (W07_pi n v1 v13).bind (fun v16 =>
    (W07_con n 0 ([])).bind (fun v19 =>
    (W07_con n 0 ([])).bind (fun v22 =>
    (W07_con n 0 ([])).bind (fun v25 =>
    (W07_pi n v22 v25).bind (fun v28 =>
    (W07_con n 0 ([])).bind (fun v31 =>
    (W07_con n 1 ([])).bind (fun v34 =>
    (W07_vr n 0 ([])).bind (fun v37 =>
    (W07_vr n 0 ([])).bind (fun v40 =>
    (W07_con n 3 ([v34, v37, v40])).bind (fun v44 =>
    (W07_pi n v31 v44).bind (fun v47 =>
    (print_Line n ([(Dc.mk (⟨#[110, 97, 116]⟩) (Tm.mk 1 0 0 ([])) 0), (Dc.mk (⟨#[122]⟩) v19 0), (Dc.mk (⟨#[115]⟩) v28 0), (Dc.mk (⟨#[112, 108, 117, 115]⟩) v16 0), (Dc.mk (⟨#[112, 122]⟩) v47 1)]) 4).bind (fun v51 =>
    (W07_con n 0 ([])).bind (fun v53 =>
    (W07_con n 1 ([])).bind (fun v56 =>
    (W07_vr n 0 ([])).bind (fun v59 =>
    (W07_vr n 0 ([])).bind (fun v62 =>
    (W07_con n 3 ([v56, v59, v62])).bind (fun v66 =>
    (W07_pi n v53 v66).bind (fun v69 =>
    (print_Text n ([(Dc.mk (⟨#[110, 97, 116]⟩) (Tm.mk 1 0 0 ([])) 0), (Dc.mk (⟨#[122]⟩) v19 0), (Dc.mk (⟨#[115]⟩) v28 0), (Dc.mk (⟨#[112, 108, 117, 115]⟩) v16 0), (Dc.mk (⟨#[112, 122]⟩) v47 1)]) ([]) 0 v69).bind (fun v72 =>
    some (((((v51.2 == 0) && (v51.1.toList == (⟨#[112, 122, 32, 58, 32, 112, 108, 117, 115, 32, 122, 32, 88, 49, 32, 88, 49, 46]⟩ : ByteArray).toList)) && (v72.2 == 0)) && (v72.1.toList == (⟨#[123, 120, 49, 58, 110, 97, 116, 125, 32, 112, 108, 117, 115, 32, 122, 32, 120, 49, 32, 120, 49]⟩ : ByteArray).toList)))))))))))))))))))))))))))
theorem W07_awake_spec (n : Nat)  (r : Bool) (hr : W07_awake n  = some r) : Pure Tryz.prog (.val (.fn (.func 8) [] [])) [] [] (fun r' out => r' = (.v (.bool r)) ∧ out = []) := by
  rcases n with _ | n
  · exact no_some hr
  rw [W07_awake.eq_2] at hr
  refine spec_of_body (N := 64) (m := 0) (dt := drawsOf [(2, .node [0, 1, 8, 9] [(2, .node [3] [(4, .node [] [(5, .node [] [(6, .node [7] [(10, .node [] [(11, .node [] [(12, .node [] [(13, .node [] [(14, .node [] [(15, .node [] [(16, .node [17] [(18, .leaf [19])])])])])])])])])])])])], [18], [])]) [] ttOK Tryz.func8 rfl Tryz.call8 Tryz.ntmps8 rfl rfl rfl mixed (by kernel_rfl) ?_
  obtain ⟨v1, h2, hr⟩ := bind_some hr
  refine Meets.nilRep 4 ?_
  refine (W07_con_spec n 0 ([]) none 0 _ h2).atR [0] rfl rfl rfl ?_
  rintro _ _ ⟨a3, c3, rfl, rfl⟩
  obtain ⟨v4, h5, hr⟩ := bind_some hr
  refine (W07_con_spec n 0 ([]) none 0 _ h5).atR [0] rfl rfl rfl ?_
  rintro _ _ ⟨a6, c6, rfl, rfl⟩
  obtain ⟨v7, h8, hr⟩ := bind_some hr
  refine (W07_con_spec n 0 ([]) none 0 _ h8).atR [0] rfl rfl rfl ?_
  rintro _ _ ⟨a9, c9, rfl, rfl⟩
  obtain ⟨v10, h11, hr⟩ := bind_some hr
  refine (W07_pi_spec n v7 (Tm.mk 1 0 0 ([])) a9 c9 none 0 _ h11).atR [3, 0] rfl rfl rfl ?_
  rintro _ _ ⟨a12, c12, rfl, rfl⟩
  obtain ⟨v13, h14, hr⟩ := bind_some hr
  refine (W07_pi_spec n v4 v10 a6 c6 a12 c12 _ h14).atR [2, 4] rfl rfl rfl ?_
  rintro _ _ ⟨a15, c15, rfl, rfl⟩
  obtain ⟨v16, h17, hr⟩ := bind_some hr
  refine (W07_pi_spec n v1 v13 a3 c3 a15 c15 _ h17).atR [1, 5] rfl rfl rfl ?_
  rintro _ _ ⟨a18, c18, rfl, rfl⟩
  obtain ⟨v19, h20, hr⟩ := bind_some hr
  refine (W07_con_spec n 0 ([]) none 0 _ h20).atR [0] rfl rfl rfl ?_
  rintro _ _ ⟨a21, c21, rfl, rfl⟩
  refine ⟨fun _ _ h => h, ?_⟩
  obtain ⟨v22, h23, hr⟩ := bind_some hr
  refine (W07_con_spec n 0 ([]) none 0 _ h23).atR [0] rfl rfl rfl ?_
  rintro _ _ ⟨a24, c24, rfl, rfl⟩
  refine ⟨fun _ _ h => h, ?_⟩
  obtain ⟨v25, h26, hr⟩ := bind_some hr
  refine (W07_con_spec n 0 ([]) none 0 _ h26).atR [0] rfl rfl rfl ?_
  rintro _ _ ⟨a27, c27, rfl, rfl⟩
  refine ⟨fun _ _ h => h, ?_⟩
  obtain ⟨v28, h29, hr⟩ := bind_some hr
  refine (W07_pi_spec n v22 v25 a24 c24 a27 c27 _ h29).atR [8, 9] rfl rfl rfl ?_
  rintro _ _ ⟨a30, c30, rfl, rfl⟩
  refine ⟨fun _ _ h => h, ?_⟩
  obtain ⟨v31, h32, hr⟩ := bind_some hr
  refine (W07_con_spec n 0 ([]) none 0 _ h32).atR [0] rfl rfl rfl ?_
  rintro _ _ ⟨a33, c33, rfl, rfl⟩
  refine ⟨fun _ _ h => h, ?_⟩
  obtain ⟨v34, h35, hr⟩ := bind_some hr
  refine (W07_con_spec n 1 ([]) none 0 _ h35).atR [0] rfl rfl rfl ?_
  rintro _ _ ⟨a36, c36, rfl, rfl⟩
  refine ⟨fun _ _ h => h, ?_⟩
  obtain ⟨v37, h38, hr⟩ := bind_some hr
  refine (W07_vr_spec n 0 ([]) none 0 _ h38).atR [0] rfl rfl rfl ?_
  rintro _ _ ⟨a39, c39, rfl, rfl⟩
  refine ⟨fun _ _ h => h, ?_⟩
  obtain ⟨v40, h41, hr⟩ := bind_some hr
  refine (W07_vr_spec n 0 ([]) none 0 _ h41).atR [0] rfl rfl rfl ?_
  rintro _ _ ⟨a42, c42, rfl, rfl⟩
  refine ⟨fun _ _ h => h, ?_⟩
  refine at_buildG (n := 3) ttOK 48 [.agg [.int .i64 v34.op, .int .i64 v34.hd, .int .i64 v34.n, .sl 4 (Tm.encL v34.args)], .agg [.int .i64 v37.op, .int .i64 v37.hd, .int .i64 v37.n, .sl 4 (Tm.encL v37.args)], .agg [.int .i64 v40.op, .int .i64 v40.hd, .int .i64 v40.n, .sl 4 (Tm.encL v40.args)]] (ds' := (Tm.encL ([v34, v37, v40]))) rfl (by kernel_rfl) ⟨⟨rfl, rfl, rfl, ⟨[(.v (.int .i64 v34.op))], _, rfl, rfl, ⟨[(.v (.int .i64 v34.hd))], _, rfl, rfl, ⟨[(.v (.int .i64 v34.n))], _, rfl, rfl, ⟨[(.v (.slice a36 ((Tm.encL v34.args).length) c36))], _, rfl, (.inl ⟨_, rfl, nth_mem (j := 12) rfl⟩), rfl⟩⟩⟩⟩⟩, ⟨⟨rfl, rfl, rfl, ⟨[(.v (.int .i64 v37.op))], _, rfl, rfl, ⟨[(.v (.int .i64 v37.hd))], _, rfl, rfl, ⟨[(.v (.int .i64 v37.n))], _, rfl, rfl, ⟨[(.v (.slice a39 ((Tm.encL v37.args).length) c39))], _, rfl, (.inl ⟨_, rfl, nth_mem (j := 13) rfl⟩), rfl⟩⟩⟩⟩⟩, ⟨⟨rfl, rfl, rfl, ⟨[(.v (.int .i64 v40.op))], _, rfl, rfl, ⟨[(.v (.int .i64 v40.hd))], _, rfl, rfl, ⟨[(.v (.int .i64 v40.n))], _, rfl, rfl, ⟨[(.v (.slice a42 ((Tm.encL v40.args).length) c42))], _, rfl, (.inl ⟨_, rfl, nth_mem (j := 14) rfl⟩), rfl⟩⟩⟩⟩⟩, trivial⟩⟩⟩ rfl (by simp only [Tm.encL_eq, List.map_cons, List.map_nil, Tm.enc_eq] <;> rfl) (by decide) (by decide) ?_
  intro a43
  refine ⟨fun _ _ h => h, ?_⟩
  obtain ⟨v44, h45, hr⟩ := bind_some hr
  refine (W07_con_spec n 3 ([v34, v37, v40]) a43 3 _ h45).atR [15] rfl rfl rfl ?_
  rintro _ _ ⟨a46, c46, rfl, rfl⟩
  refine ⟨fun _ _ h => h, ?_⟩
  obtain ⟨v47, h48, hr⟩ := bind_some hr
  refine (W07_pi_spec n v31 v44 a33 c33 a46 c46 _ h48).atR [11, 16] rfl rfl rfl ?_
  rintro _ _ ⟨a49, c49, rfl, rfl⟩
  refine ⟨fun _ _ h => h, ?_⟩
  refine at_buildG (n := 5) ttOK 72 [.agg [.str (⟨#[110, 97, 116]⟩), .agg [.int .i64 1, .int .i64 0, .int .i64 0, .sl 4 []], .int .i64 0], .agg [.str (⟨#[122]⟩), .agg [.int .i64 v19.op, .int .i64 v19.hd, .int .i64 v19.n, .sl 4 (Tm.encL v19.args)], .int .i64 0], .agg [.str (⟨#[115]⟩), .agg [.int .i64 v28.op, .int .i64 v28.hd, .int .i64 v28.n, .sl 4 (Tm.encL v28.args)], .int .i64 0], .agg [.str (⟨#[112, 108, 117, 115]⟩), .agg [.int .i64 v16.op, .int .i64 v16.hd, .int .i64 v16.n, .sl 4 (Tm.encL v16.args)], .int .i64 0], .agg [.str (⟨#[112, 122]⟩), .agg [.int .i64 v47.op, .int .i64 v47.hd, .int .i64 v47.n, .sl 4 (Tm.encL v47.args)], .int .i64 1]] (ds' := (Dc.encL ([(Dc.mk (⟨#[110, 97, 116]⟩) (Tm.mk 1 0 0 ([])) 0), (Dc.mk (⟨#[122]⟩) v19 0), (Dc.mk (⟨#[115]⟩) v28 0), (Dc.mk (⟨#[112, 108, 117, 115]⟩) v16 0), (Dc.mk (⟨#[112, 122]⟩) v47 1)]))) rfl (by kernel_rfl) ⟨⟨rfl, rfl, rfl, ⟨[(.v (.string (⟨#[110, 97, 116]⟩)))], _, rfl, rfl, ⟨[(.v (.int .i64 1)), (.v (.int .i64 0)), (.v (.int .i64 0)), (.v (.slice none 0 0))], _, rfl, ⟨[(.v (.int .i64 1))], _, rfl, rfl, ⟨[(.v (.int .i64 0))], _, rfl, rfl, ⟨[(.v (.int .i64 0))], _, rfl, rfl, ⟨[(.v (.slice none 0 0))], _, rfl, (.inr ⟨rfl, rfl⟩), rfl⟩⟩⟩⟩, ⟨[(.v (.int .i64 0))], _, rfl, rfl, rfl⟩⟩⟩⟩, ⟨⟨rfl, rfl, rfl, ⟨[(.v (.string (⟨#[122]⟩)))], _, rfl, rfl, ⟨[(.v (.int .i64 v19.op)), (.v (.int .i64 v19.hd)), (.v (.int .i64 v19.n)), (.v (.slice a21 ((Tm.encL v19.args).length) c21))], _, rfl, ⟨[(.v (.int .i64 v19.op))], _, rfl, rfl, ⟨[(.v (.int .i64 v19.hd))], _, rfl, rfl, ⟨[(.v (.int .i64 v19.n))], _, rfl, rfl, ⟨[(.v (.slice a21 ((Tm.encL v19.args).length) c21))], _, rfl, (.inl ⟨_, rfl, nth_mem (j := 7) rfl⟩), rfl⟩⟩⟩⟩, ⟨[(.v (.int .i64 0))], _, rfl, rfl, rfl⟩⟩⟩⟩, ⟨⟨rfl, rfl, rfl, ⟨[(.v (.string (⟨#[115]⟩)))], _, rfl, rfl, ⟨[(.v (.int .i64 v28.op)), (.v (.int .i64 v28.hd)), (.v (.int .i64 v28.n)), (.v (.slice a30 ((Tm.encL v28.args).length) c30))], _, rfl, ⟨[(.v (.int .i64 v28.op))], _, rfl, rfl, ⟨[(.v (.int .i64 v28.hd))], _, rfl, rfl, ⟨[(.v (.int .i64 v28.n))], _, rfl, rfl, ⟨[(.v (.slice a30 ((Tm.encL v28.args).length) c30))], _, rfl, (.inl ⟨_, rfl, nth_mem (j := 10) rfl⟩), rfl⟩⟩⟩⟩, ⟨[(.v (.int .i64 0))], _, rfl, rfl, rfl⟩⟩⟩⟩, ⟨⟨rfl, rfl, rfl, ⟨[(.v (.string (⟨#[112, 108, 117, 115]⟩)))], _, rfl, rfl, ⟨[(.v (.int .i64 v16.op)), (.v (.int .i64 v16.hd)), (.v (.int .i64 v16.n)), (.v (.slice a18 ((Tm.encL v16.args).length) c18))], _, rfl, ⟨[(.v (.int .i64 v16.op))], _, rfl, rfl, ⟨[(.v (.int .i64 v16.hd))], _, rfl, rfl, ⟨[(.v (.int .i64 v16.n))], _, rfl, rfl, ⟨[(.v (.slice a18 ((Tm.encL v16.args).length) c18))], _, rfl, (.inl ⟨_, rfl, nth_mem (j := 6) rfl⟩), rfl⟩⟩⟩⟩, ⟨[(.v (.int .i64 0))], _, rfl, rfl, rfl⟩⟩⟩⟩, ⟨⟨rfl, rfl, rfl, ⟨[(.v (.string (⟨#[112, 122]⟩)))], _, rfl, rfl, ⟨[(.v (.int .i64 v47.op)), (.v (.int .i64 v47.hd)), (.v (.int .i64 v47.n)), (.v (.slice a49 ((Tm.encL v47.args).length) c49))], _, rfl, ⟨[(.v (.int .i64 v47.op))], _, rfl, rfl, ⟨[(.v (.int .i64 v47.hd))], _, rfl, rfl, ⟨[(.v (.int .i64 v47.n))], _, rfl, rfl, ⟨[(.v (.slice a49 ((Tm.encL v47.args).length) c49))], _, rfl, (.inl ⟨_, rfl, nth_mem (j := 17) rfl⟩), rfl⟩⟩⟩⟩, ⟨[(.v (.int .i64 1))], _, rfl, rfl, rfl⟩⟩⟩⟩, trivial⟩⟩⟩⟩⟩ rfl (by simp only [Dc.encL_eq, List.map_cons, List.map_nil, Dc.enc_eq] <;> rfl) (by decide) (by decide) ?_
  intro a50
  obtain ⟨v51, h52, hr⟩ := bind_some hr
  refine (print_Line_spec n ([(Dc.mk (⟨#[110, 97, 116]⟩) (Tm.mk 1 0 0 ([])) 0), (Dc.mk (⟨#[122]⟩) v19 0), (Dc.mk (⟨#[115]⟩) v28 0), (Dc.mk (⟨#[112, 108, 117, 115]⟩) v16 0), (Dc.mk (⟨#[112, 122]⟩) v47 1)]) 4 a50 5 _ h52).atR [18] rfl rfl rfl ?_
  rintro _ _ ⟨rfl, rfl⟩
  obtain ⟨v53, h54, hr⟩ := bind_some hr
  refine (W07_con_spec n 0 ([]) none 0 _ h54).atR [0] rfl rfl rfl ?_
  rintro _ _ ⟨a55, c55, rfl, rfl⟩
  obtain ⟨v56, h57, hr⟩ := bind_some hr
  refine (W07_con_spec n 1 ([]) none 0 _ h57).atR [0] rfl rfl rfl ?_
  rintro _ _ ⟨a58, c58, rfl, rfl⟩
  obtain ⟨v59, h60, hr⟩ := bind_some hr
  refine (W07_vr_spec n 0 ([]) none 0 _ h60).atR [0] rfl rfl rfl ?_
  rintro _ _ ⟨a61, c61, rfl, rfl⟩
  obtain ⟨v62, h63, hr⟩ := bind_some hr
  refine (W07_vr_spec n 0 ([]) none 0 _ h63).atR [0] rfl rfl rfl ?_
  rintro _ _ ⟨a64, c64, rfl, rfl⟩
  refine at_buildG (n := 3) ttOK 48 [.agg [.int .i64 v56.op, .int .i64 v56.hd, .int .i64 v56.n, .sl 4 (Tm.encL v56.args)], .agg [.int .i64 v59.op, .int .i64 v59.hd, .int .i64 v59.n, .sl 4 (Tm.encL v59.args)], .agg [.int .i64 v62.op, .int .i64 v62.hd, .int .i64 v62.n, .sl 4 (Tm.encL v62.args)]] (ds' := (Tm.encL ([v56, v59, v62]))) rfl (by kernel_rfl) ⟨⟨rfl, rfl, rfl, ⟨[(.v (.int .i64 v56.op))], _, rfl, rfl, ⟨[(.v (.int .i64 v56.hd))], _, rfl, rfl, ⟨[(.v (.int .i64 v56.n))], _, rfl, rfl, ⟨[(.v (.slice a58 ((Tm.encL v56.args).length) c58))], _, rfl, (.inl ⟨_, rfl, nth_mem (j := 20) rfl⟩), rfl⟩⟩⟩⟩⟩, ⟨⟨rfl, rfl, rfl, ⟨[(.v (.int .i64 v59.op))], _, rfl, rfl, ⟨[(.v (.int .i64 v59.hd))], _, rfl, rfl, ⟨[(.v (.int .i64 v59.n))], _, rfl, rfl, ⟨[(.v (.slice a61 ((Tm.encL v59.args).length) c61))], _, rfl, (.inl ⟨_, rfl, nth_mem (j := 21) rfl⟩), rfl⟩⟩⟩⟩⟩, ⟨⟨rfl, rfl, rfl, ⟨[(.v (.int .i64 v62.op))], _, rfl, rfl, ⟨[(.v (.int .i64 v62.hd))], _, rfl, rfl, ⟨[(.v (.int .i64 v62.n))], _, rfl, rfl, ⟨[(.v (.slice a64 ((Tm.encL v62.args).length) c64))], _, rfl, (.inl ⟨_, rfl, nth_mem (j := 22) rfl⟩), rfl⟩⟩⟩⟩⟩, trivial⟩⟩⟩ rfl (by simp only [Tm.encL_eq, List.map_cons, List.map_nil, Tm.enc_eq] <;> rfl) (by decide) (by decide) ?_
  intro a65
  obtain ⟨v66, h67, hr⟩ := bind_some hr
  refine (W07_con_spec n 3 ([v56, v59, v62]) a65 3 _ h67).atR [23] rfl rfl rfl ?_
  rintro _ _ ⟨a68, c68, rfl, rfl⟩
  obtain ⟨v69, h70, hr⟩ := bind_some hr
  refine (W07_pi_spec n v53 v66 a55 c55 a68 c68 _ h70).atR [19, 24] rfl rfl rfl ?_
  rintro _ _ ⟨a71, c71, rfl, rfl⟩
  obtain ⟨v72, h73, hr⟩ := bind_some hr
  refine Meets.nilRep 10 ?_
  refine (print_Text_spec n ([(Dc.mk (⟨#[110, 97, 116]⟩) (Tm.mk 1 0 0 ([])) 0), (Dc.mk (⟨#[122]⟩) v19 0), (Dc.mk (⟨#[115]⟩) v28 0), (Dc.mk (⟨#[112, 108, 117, 115]⟩) v16 0), (Dc.mk (⟨#[112, 122]⟩) v47 1)]) ([]) 0 v69 a50 5 none 0 a71 c71 _ h73).atR [19, 0, 26] rfl rfl rfl ?_
  rintro _ _ ⟨rfl, rfl⟩
  replace hr := Option.some.inj hr
  subst hr
  exact AtRet.pureG [] [] rfl rfl ⟨rfl, rfl⟩
mutual
def W07_PrintContexts : Nat → (List Dc) → (List Tm) → Option (Bool)
  | 0, _, _ => none
  | n + 1, v1, v3 =>
    cond (decide ((Tm.encL ([] ++ v3)).length * 48 ≤ 140737488355328)) (
    (print_Context n v1 ([] ++ v3)).bind (fun v8 =>
    (R05_Formed n v1).bind (fun v10 =>
    W07_PrintContexts_L1 n v3 v8 v1 (v10 && (decide (((Tm.encL v3).length : Int) ≤ 30))) 0))) none
def W07_PrintContexts_L1 : Nat → (List Tm) → (ByteArray × Int) → (List Dc) → Bool → Int → Option (Bool)
  | 0, _, _, _, _, _ => none
  | n + 1, v3, v8, v1, v18, v19 =>
    cond ((decide (v19 < ((Tm.encL v3).length : Int))) && v18) (
    (idx v3 v19).bind (fun v21 =>
    W07_PrintContexts_L1 n v3 v8 v1 (refProper v21) (IntKind.i64.wrap (v19 + 1)))) (
    cond (!v18) (
    cond ((v8.2 == 2) && (v8.1.toList == (⟨#[]⟩ : ByteArray).toList)) (
    (W07_awake n ).bind (fun v28 =>
    some (v28))) (
    some (false))) (
    (R07_Context n v1 v3).bind (fun v30 =>
    cond ((v8.1.toList == v30.1.toList) && (v8.2 == v30.2)) (
    (W07_awake n ).bind (fun v33 =>
    some (v33))) (
    some (false)))))
 end
theorem W07_PrintContexts_spec (n : Nat) (v1 : (List Dc)) (v3 : (List Tm)) (a2 : Option Addr) (c2 : Nat) (a4 : Option Addr) (c4 : Nat) (r : Bool) (hr : W07_PrintContexts n v1 v3 = some r) : Pure Tryz.prog (.val (.fn (.func 5) [] [])) [(.v (.slice a2 ((Dc.encL v1).length) c2)), (.v (.slice a4 ((Tm.encL v3).length) c4))] [(.slice a2 ((Dc.encL v1).length) c2, .sl 6 (Dc.encL v1)), (.slice a4 ((Tm.encL v3).length) c4, .sl 4 (Tm.encL v3))] (fun r' out => r' = (.v (.bool r)) ∧ out = []) := by
  rcases n with _ | n
  · exact no_some hr
  rw [W07_PrintContexts.eq_2] at hr
  refine spec_of_body (N := 68) (m := 0) (dt := fun _ => none) [] ttOK Tryz.func5 rfl Tryz.call5 Tryz.ntmps5 rfl rfl rfl mixed (by kernel_rfl) ?_
  refine at_buildAcc (n := 0) ttOK 48 [] (ds' := (Tm.encL ([]))) rfl (by kernel_rfl) trivial rfl (by simp only [Tm.encL_eq, List.map_cons, List.map_nil, Tm.enc_eq] <;> rfl) (by decide) (by decide) ?_
  intro a5
  obtain ⟨h6, hr⟩ := cond_need hr
  refine at_appendB (ds' := (Tm.encL ([] ++ v3))) ttOK 48 0 1 rfl (by kernel_rfl) rfl rfl rfl rfl (by simp only [Tm.encL_eq, List.map_append]) h6 (by decide) ?_
  intro a7 c7
  obtain ⟨v8, h9, hr⟩ := bind_some hr
  refine Meets.le (S' := ⟨[], [], [(.slice a7 ((Tm.encL ([] ++ v3)).length) c7, .sl 4 (Tm.encL ([] ++ v3))), (.slice a2 ((Dc.encL v1).length) c2, .sl 6 (Dc.encL v1)), (.slice a4 ((Tm.encL v3).length) c4, .sl 4 (Tm.encL v3))]⟩) (StLe.gen 0 [] [.froz 0, .old 0, .old 1] rfl rfl rfl rfl rfl rfl rfl) rfl ?_
  refine (print_Context_spec n v1 ([] ++ v3) a2 c2 a7 c7 _ h9).atR [1, 0] rfl rfl rfl ?_
  rintro _ _ ⟨rfl, rfl⟩
  obtain ⟨v10, h11, hr⟩ := bind_some hr
  refine (R05_Formed_spec n v1 a2 c2 _ h11).atR [1] rfl rfl rfl ?_
  rintro _ _ ⟨rfl, rfl⟩
  refine AtLoop.mk ⟨Nat × Bool × Int, fun x => [(0, (.v (.slice a2 ((Dc.encL v1).length) c2))), (1, (.v (.slice a4 ((Tm.encL v3).length) c4))), (5, (.v (.string v8.1))), (6, (.v (.int .i64 v8.2))), (7, (.v (.bool x.2.1))), (8, (.v (.int .i64 x.2.2)))], fun x => ⟨[], [], [(.slice a7 ((Tm.encL ([] ++ v3)).length) c7, .sl 4 (Tm.encL ([] ++ v3))), (.slice a2 ((Dc.encL v1).length) c2, .sl 6 (Dc.encL v1)), (.slice a4 ((Tm.encL v3).length) c4, .sl 4 (Tm.encL v3))]⟩, fun x => W07_PrintContexts_L1 x.1 v3 v8 v1 x.2.1 x.2.2 = some r, fun x => x.1, (n, (v10 && (decide (((Tm.encL v3).length : Int) ≤ 30))), 0), hr, ⟨rfl, rfl, rfl, rfl, rfl, rfl, trivial⟩, (StLe.gen 0 [] [.old 0, .old 1, .old 2] rfl rfl rfl rfl rfl rfl rfl), fun x _ => ⟨rfl, rfl⟩, ?_⟩
  rintro ⟨n, v18, v19⟩ HH
  have hr : W07_PrintContexts_L1 n v3 v8 v1 v18 v19 = some r := HH
  rcases n with _ | n
  · exact no_some hr
  rw [W07_PrintContexts_L1.eq_2] at hr
  refine AtIf.mk (fun h20 => ?_) (fun h20 => ?_)
  · replace hr := cond_t h20 hr
    obtain ⟨v21, h22, hr⟩ := bind_some hr
    obtain ⟨h23, h24⟩ := idx_some h22
    refine at_index ttOK 2 rfl rfl rfl rfl h23 (Tm.encL_get h24) ?_
    intro a25 c25 _ _
    refine (refProper_spec v21 a25 c25).atR [3] rfl rfl rfl ?_
    rintro _ _ ⟨rfl, rfl⟩
    exact ⟨(n, (refProper v21), (IntKind.i64.wrap (v19 + 1))), hr, Nat.lt_succ_self _, ⟨rfl, rfl, rfl, rfl, rfl, rfl, trivial⟩, (StLe.gen 0 [] [.old 0, .old 1, .old 2] rfl rfl rfl rfl rfl rfl rfl)⟩
  · replace hr := cond_f h20 hr
    refine AtIf.mk (fun h26 => ?_) (fun h26 => ?_)
    · replace hr := cond_t h26 hr
      refine AtGuard.mk (fun h27 => ?_) (fun h27 => ?_)
      · replace hr := cond_t h27 hr
        obtain ⟨v28, h29, hr⟩ := bind_some hr
        refine (W07_awake_spec n  _ h29).atR [] rfl rfl rfl ?_
        rintro _ _ ⟨rfl, rfl⟩
        replace hr := Option.some.inj hr
        subst hr
        exact AtRet.pureG [] [] rfl rfl ⟨rfl, rfl⟩
      · replace hr := cond_f h27 hr
        replace hr := Option.some.inj hr
        subst hr
        exact AtRet.pureG [] [] rfl rfl ⟨rfl, rfl⟩
    · replace hr := cond_f h26 hr
      obtain ⟨v30, h31, hr⟩ := bind_some hr
      refine (R07_Context_spec n v1 v3 a2 c2 a4 c4 _ h31).atR [1, 2] rfl rfl rfl ?_
      rintro _ _ ⟨rfl, rfl⟩
      refine AtGuard.mk (fun h32 => ?_) (fun h32 => ?_)
      · replace hr := cond_t h32 hr
        obtain ⟨v33, h34, hr⟩ := bind_some hr
        refine (W07_awake_spec n  _ h34).atR [] rfl rfl rfl ?_
        rintro _ _ ⟨rfl, rfl⟩
        replace hr := Option.some.inj hr
        subst hr
        exact AtRet.pureG [] [] rfl rfl ⟨rfl, rfl⟩
      · replace hr := cond_f h32 hr
        replace hr := Option.some.inj hr
        subst hr
        exact AtRet.pureG [] [] rfl rfl ⟨rfl, rfl⟩
end Go.Proofs.YtpibdcjdamibdaaGreatDoor
end
