/- Merged texts: G3 EvA EvB EvC. OrderChecks with fuel, and its contract. Conditions stand in each. Plain law: functions with fuel that yield what is said of them; loops over lists; what is known of short lists. No program in sight. Plain law: sign.Check and trussref05.Formed say the same of a signature. No program in sight. Plain law: what trussref05 says of a class; both forms of a signature. No program in sight. -/
import Derived.Test.YtpibdcjdamibdaaGreatQJ
/-! G3 -/
section
namespace Go.Proofs.YtpibdcjdamibdaaGreat
open Go.Tr Go
set_option maxRecDepth 10000
set_option linter.unusedVariables false
set_option linter.unusedSimpArgs false

def sign_kind : Nat → Tm → Option (Bool)
  | 0, _ => none
  | n + 1, v1 =>
    (term_Domains n v1).bind (fun v3 =>
    some ((v3.2.op == 1)))
theorem sign_kind_spec (n : Nat) (v1 : Tm) (a2 : Option Addr) (c2 : Nat) (r : Bool) (hr : sign_kind n v1 = some r) : Pure Tryz.prog (.val (.fn (.func 71) [] [])) [(.agg [(.v (.int .i64 v1.op)), (.v (.int .i64 v1.hd)), (.v (.int .i64 v1.n)), (.v (.slice a2 ((Tm.encL v1.args).length) c2))])] [(.slice a2 ((Tm.encL v1.args).length) c2, .sl 4 (Tm.encL v1.args))] (fun r' out => r' = (.v (.bool r)) ∧ out = []) := by
  rcases n with _ | n
  · exact no_some hr
  rw [sign_kind.eq_2] at hr
  refine spec_of_body (N := 13) (m := 0) (dt := fun _ => none) [] ttOK Tryz.func71 rfl Tryz.call71 Tryz.ntmps71 rfl rfl rfl mixed (by kernel_rfl) ?_
  obtain ⟨v3, h4, hr⟩ := bind_some hr
  refine (term_Domains_spec n v1 a2 c2 _ h4).atR [0] rfl rfl rfl ?_
  rintro _ _ ⟨a5, c5, a6, c6, rfl, rfl⟩
  replace hr := Option.some.inj hr
  subst hr
  exact AtRet.pureG [] [] rfl rfl ⟨rfl, rfl⟩
def sign_name : Nat → ByteArray → Option (Bool)
  | 0, _ => none
  | n + 1, v1 =>
    some (((isSmallF v1) && (!(v1.toList == (⟨#[116, 121, 112, 101]⟩ : ByteArray).toList))))
theorem sign_name_spec (n : Nat) (v1 : ByteArray)  (r : Bool) (hr : sign_name n v1 = some r) : Pure Tryz.prog (.val (.fn (.func 78) [] [])) [(.v (.string v1))] [] (fun r' out => r' = (.v (.bool r)) ∧ out = []) := by
  rcases n with _ | n
  · exact no_some hr
  rw [sign_name.eq_2] at hr
  refine spec_of_body (N := 9) (m := 0) (dt := fun _ => none) [] ttOK Tryz.func78 rfl Tryz.call78 Tryz.ntmps78 rfl rfl rfl mixed (by kernel_rfl) ?_
  refine (isSmall_spec v1).atR [] rfl rfl rfl ?_
  rintro _ _ ⟨rfl, rfl⟩
  replace hr := Option.some.inj hr
  subst hr
  exact AtRet.pureG [] [] rfl rfl ⟨rfl, rfl⟩
def sign_formed_1 : Nat → Tm → Int → Bool → (List Dc) → Option (Bool)
  | 0, _, _, _, _ => none
  | n + 1, v1, v3, v4, v5 =>
    cond (v1.op != 4) (
    some (v4)) (
    some ((((v4 && (v1.hd != 3)) && ((v1.hd != 1) || (decide (v1.n < v3)))) && ((v1.hd != 2) || (decide (v1.n < ((Dc.encL v5).length : Int)))))))
theorem sign_formed_1_spec (n : Nat) (v1 : Tm) (v3 : Int) (v4 : Bool) (v5 : (List Dc)) (a2 : Option Addr) (c2 : Nat) (a6 : Option Addr) (c6 : Nat) (r : Bool) (hr : sign_formed_1 n v1 v3 v4 v5 = some r) : Meets Tryz.prog (.val (.fn (.func 80) [] [(.loc 0 0), (.loc 1 0)])) [(.agg [(.v (.int .i64 v1.op)), (.v (.int .i64 v1.hd)), (.v (.int .i64 v1.n)), (.v (.slice a2 ((Tm.encL v1.args).length) c2))]), (.v (.int .i64 v3))] ⟨[.cells 4 [(.v (.bool v4))], .cells 22 [(.v (.slice a6 ((Dc.encL v5).length) c6))]], [], [(.slice a2 ((Tm.encL v1.args).length) c2, .sl 4 (Tm.encL v1.args)), (.slice a6 ((Dc.encL v5).length) c6, .sl 6 (Dc.encL v5))]⟩ (fun o S' => o = .ret (.tup []) ∧ S' = ⟨[.cells 4 [(.v (.bool r))], .cells 22 [(.v (.slice a6 ((Dc.encL v5).length) c6))]], [], []⟩) := by
  rcases n with _ | n
  · exact no_some hr
  rw [sign_formed_1.eq_2] at hr
  refine spec_of_body (N := 38) (m := 2) (dt := fun _ => none) [] ttOK Tryz.func80 rfl Tryz.call80 Tryz.ntmps80 rfl rfl rfl mixed (by kernel_rfl) ?_
  refine AtIf.mk (fun h7 => ?_) (fun h7 => ?_)
  · replace hr := cond_t h7 hr
    replace hr := Option.some.inj hr
    subst hr
    exact AtRet.gen ⟨[.cells 4 [(.v (.bool v4))], .cells 22 [(.v (.slice a6 ((Dc.encL v5).length) c6))]], [], []⟩ (StLe.gen 2 [] [] rfl rfl rfl rfl rfl rfl rfl) rfl rfl ⟨rfl, rfl⟩
  · replace hr := cond_f h7 hr
    replace hr := Option.some.inj hr
    subst hr
    exact AtRet.gen ⟨[.cells 4 [(.v (.bool (((v4 && (v1.hd != 3)) && ((v1.hd != 1) || (decide (v1.n < v3)))) && ((v1.hd != 2) || (decide (v1.n < ((Dc.encL v5).length : Int)))))))], .cells 22 [(.v (.slice a6 ((Dc.encL v5).length) c6))]], [], []⟩ (StLe.gen 2 [] [] rfl rfl rfl rfl rfl rfl rfl) rfl rfl ⟨rfl, rfl⟩
mutual
def term_Each_sign_formed_1 : Nat → Tm → Int → Bool → (List Dc) → Option (Bool)
  | 0, _, _, _, _ => none
  | n + 1, v1, v3, v4, v5 =>
    (sign_formed_1 n v1 v3 v4 v5).bind (fun v7 =>
    term_Each_sign_formed_1_L1 n v1 v3 v5 v7 0)
def term_Each_sign_formed_1_L1 : Nat → Tm → Int → (List Dc) → Bool → Int → Option (Bool)
  | 0, _, _, _, _, _ => none
  | n + 1, v1, v3, v5, v19, v20 =>
    cond (decide (v20 < ((Tm.encL v1.args).length : Int))) (
    (idx v1.args v20).bind (fun v22 =>
    (term_Under n v1 v20).bind (fun v27 =>
    (term_Each_sign_formed_1 n v22 (IntKind.i64.wrap (v3 + v27)) v19 v5).bind (fun v29 =>
    term_Each_sign_formed_1_L1 n v1 v3 v5 v29 (IntKind.i64.wrap (v20 + 1)))))) (
    some (v19))
 end
theorem term_Each_sign_formed_1_specN : ∀ (N : Nat), (∀ (n : Nat), n ≤ N → ∀ (v1 : Tm) (v3 : Int) (v4 : Bool) (v5 : (List Dc)) (a2 : Option Addr) (c2 : Nat) (a6 : Option Addr) (c6 : Nat) (r : Bool), term_Each_sign_formed_1 n v1 v3 v4 v5 = some r → Meets Tryz.prog (.val (.fn (.func 79) [] [])) [(.agg [(.v (.int .i64 v1.op)), (.v (.int .i64 v1.hd)), (.v (.int .i64 v1.n)), (.v (.slice a2 ((Tm.encL v1.args).length) c2))]), (.v (.int .i64 v3)), (.fn (.func 80) [] [(.loc 0 0), (.loc 1 0)])] ⟨[.cells 4 [(.v (.bool v4))], .cells 22 [(.v (.slice a6 ((Dc.encL v5).length) c6))]], [], [(.slice a2 ((Tm.encL v1.args).length) c2, .sl 4 (Tm.encL v1.args)), (.slice a6 ((Dc.encL v5).length) c6, .sl 6 (Dc.encL v5))]⟩ (fun o S' => o = .ret (.tup []) ∧ S' = ⟨[.cells 4 [(.v (.bool r))], .cells 22 [(.v (.slice a6 ((Dc.encL v5).length) c6))]], [], []⟩)) := by
  intro N
  induction N with
  | zero =>
    intro n hn v1 v3 v4 v5 a2 c2 a6 c6 r hr; obtain rfl : n = 0 := (by omega); exact no_some hr
  | succ N ih =>
    intro n hn v1 v3 v4 v5 a2 c2 a6 c6 r hr
    rcases n with _ | n
    · exact no_some hr
    replace hn : n ≤ N := by omega
    rw [term_Each_sign_formed_1.eq_2] at hr
    refine spec_of_body (N := 29) (m := 2) (dt := drawsOf [(5, .node [0, 1, 2, 3, 6] [(4, .node [5] [(7, .leaf [])])], [7], [])]) [] ttOK Tryz.func79 rfl Tryz.call79 Tryz.ntmps79 rfl rfl rfl mixed (by kernel_rfl) ?_
    obtain ⟨v7, h8, hr⟩ := bind_some hr
    refine (sign_formed_1_spec n v1 v3 v4 v5 a2 c2 a6 c6 _ h8).frameR [0, 1] [0, 1] rfl rfl rfl rfl rfl rfl rfl rfl ?_
    rintro _ _ ⟨rfl, rfl⟩
    refine ⟨rfl, rfl, [.cells 4 [(.v (.bool v7))], .cells 22 [(.v (.slice a6 ((Dc.encL v5).length) c6))]], rfl, ?_⟩
    refine AtLoop.mk ⟨Nat × Bool × Int, fun x => [(1, (.v (.int .i64 v3))), (2, (.fn (.func 80) [] [(.loc 0 0), (.loc 1 0)])), (3, (.loc 2 0)), (13, (.v (.slice a2 ((Tm.encL v1.args).length) c2))), (14, (.v (.int .i64 ((Tm.encL v1.args).length : Int)))), (15, (.v (.int .i64 x.2.2)))], fun x => ⟨[.cells 4 [(.v (.bool x.2.1))], .cells 22 [(.v (.slice a6 ((Dc.encL v5).length) c6))], .cells 51 [(.v (.int .i64 v1.op)), (.v (.int .i64 v1.hd)), (.v (.int .i64 v1.n)), (.v (.slice a2 ((Tm.encL v1.args).length) c2))]], [], [(.slice a2 ((Tm.encL v1.args).length) c2, .sl 4 (Tm.encL v1.args)), (.slice a6 ((Dc.encL v5).length) c6, .sl 6 (Dc.encL v5))]⟩, fun x => x.1 ≤ N ∧ term_Each_sign_formed_1_L1 x.1 v1 v3 v5 x.2.1 x.2.2 = some r, fun x => x.1, (n, v7, 0), ⟨by omega, hr⟩, ⟨rfl, rfl, rfl, rfl, rfl, rfl, trivial⟩, (StLe.gen 3 [] [.old 0, .old 1] rfl rfl rfl rfl rfl rfl rfl), fun x _ => ⟨rfl, rfl⟩, ?_⟩
    rintro ⟨n, v19, v20⟩ HH
    obtain ⟨hn, hr⟩ : n ≤ N ∧ term_Each_sign_formed_1_L1 n v1 v3 v5 v19 v20 = some r := HH
    rcases n with _ | n
    · exact no_some hr
    rw [term_Each_sign_formed_1_L1.eq_2] at hr
    refine AtIf.mk (fun h21 => ?_) (fun h21 => ?_)
    · replace hr := cond_t h21 hr
      obtain ⟨v22, h23, hr⟩ := bind_some hr
      obtain ⟨h24, h25⟩ := idx_some h23
      refine at_index ttOK 0 rfl rfl rfl rfl h24 (Tm.encL_get h25) ?_
      intro a26 c26 _ _
      obtain ⟨v27, h28, hr⟩ := bind_some hr
      refine (term_Under_spec n v1 v20 a2 c2 _ h28).atR [0] rfl rfl rfl ?_
      rintro _ _ ⟨rfl, rfl⟩
      refine ⟨fun _ _ h => h, ?_⟩
      obtain ⟨v29, h30, hr⟩ := bind_some hr
      refine (ih n (by omega) v22 (IntKind.i64.wrap (v3 + v27)) v19 v5 a26 c26 a6 c6 _ h30).frameR [0, 1] [2, 1] rfl rfl rfl rfl rfl rfl rfl rfl ?_
      rintro _ _ ⟨rfl, rfl⟩
      refine ⟨rfl, rfl, [.cells 4 [(.v (.bool v29))], .cells 22 [(.v (.slice a6 ((Dc.encL v5).length) c6))]], rfl, ?_⟩
      exact ⟨(n, v29, (IntKind.i64.wrap (v20 + 1))), ⟨by omega, hr⟩, Nat.lt_succ_self _, ⟨rfl, rfl, rfl, rfl, rfl, rfl, trivial⟩, (StLe.gen 3 [] [.old 0, .old 1] rfl rfl rfl rfl rfl rfl rfl)⟩
    · replace hr := cond_f h21 hr
      replace hr := Option.some.inj hr
      subst hr
      exact AtRet.gen ⟨[.cells 4 [(.v (.bool v19))], .cells 22 [(.v (.slice a6 ((Dc.encL v5).length) c6))]], [], []⟩ (StLe.gen 2 [] [] rfl rfl rfl rfl rfl rfl rfl) rfl rfl ⟨rfl, rfl⟩
theorem term_Each_sign_formed_1_spec (n : Nat) (v1 : Tm) (v3 : Int) (v4 : Bool) (v5 : (List Dc)) (a2 : Option Addr) (c2 : Nat) (a6 : Option Addr) (c6 : Nat) (r : Bool) (hr : term_Each_sign_formed_1 n v1 v3 v4 v5 = some r) : Meets Tryz.prog (.val (.fn (.func 79) [] [])) [(.agg [(.v (.int .i64 v1.op)), (.v (.int .i64 v1.hd)), (.v (.int .i64 v1.n)), (.v (.slice a2 ((Tm.encL v1.args).length) c2))]), (.v (.int .i64 v3)), (.fn (.func 80) [] [(.loc 0 0), (.loc 1 0)])] ⟨[.cells 4 [(.v (.bool v4))], .cells 22 [(.v (.slice a6 ((Dc.encL v5).length) c6))]], [], [(.slice a2 ((Tm.encL v1.args).length) c2, .sl 4 (Tm.encL v1.args)), (.slice a6 ((Dc.encL v5).length) c6, .sl 6 (Dc.encL v5))]⟩ (fun o S' => o = .ret (.tup []) ∧ S' = ⟨[.cells 4 [(.v (.bool r))], .cells 22 [(.v (.slice a6 ((Dc.encL v5).length) c6))]], [], []⟩) := (term_Each_sign_formed_1_specN n) n (Nat.le_refl _) v1 v3 v4 v5 a2 c2 a6 c6 r hr
def sign_target : Nat → Tm → Option (Int × Bool)
  | 0, _ => none
  | n + 1, v1 =>
    (term_Domains n v1).bind (fun v3 =>
    some (v3.2.n, ((v3.2.op == 4) && (v3.2.hd == 2))))
theorem sign_target_spec (n : Nat) (v1 : Tm) (a2 : Option Addr) (c2 : Nat) (r : Int × Bool) (hr : sign_target n v1 = some r) : Pure Tryz.prog (.val (.fn (.func 81) [] [])) [(.agg [(.v (.int .i64 v1.op)), (.v (.int .i64 v1.hd)), (.v (.int .i64 v1.n)), (.v (.slice a2 ((Tm.encL v1.args).length) c2))])] [(.slice a2 ((Tm.encL v1.args).length) c2, .sl 4 (Tm.encL v1.args))] (fun r' out => r' = (.tup [(.v (.int .i64 r.1)), (.v (.bool r.2))]) ∧ out = []) := by
  rcases n with _ | n
  · exact no_some hr
  rw [sign_target.eq_2] at hr
  refine spec_of_body (N := 21) (m := 0) (dt := drawsOf [(2, .leaf [0, 1, 2, 3, 4, 5, 6, 7, 8, 9, 10, 11], [], [])]) [] ttOK Tryz.func81 rfl Tryz.call81 Tryz.ntmps81 rfl rfl rfl mixed (by kernel_rfl) ?_
  obtain ⟨v3, h4, hr⟩ := bind_some hr
  refine (term_Domains_spec n v1 a2 c2 _ h4).atR [0] rfl rfl rfl ?_
  rintro _ _ ⟨a5, c5, a6, c6, rfl, rfl⟩
  replace hr := Option.some.inj hr
  subst hr
  exact AtRet.pureG [] [] rfl rfl ⟨rfl, rfl⟩
def sign_formed : Nat → (List Dc) → Dc → Option (Bool)
  | 0, _, _ => none
  | n + 1, v1, v3 =>
    cond ((if isProper v3.cls then (0 : Int) else 2) != 0) (
    some (false)) (
    (sign_name n v3.name).bind (fun v6 =>
    cond ((!v6) || (decide (v3.implicit < 0))) (
    some (false)) (
    (term_Domains n v3.cls).bind (fun v9 =>
    (term_Each_sign_formed_1 n v3.cls 0 (decide (v3.implicit ≤ ((Tm.encL v9.1).length : Int))) v1).bind (fun v13 =>
    (sign_kind n v3.cls).bind (fun v15 =>
    cond v15 (
    some (v13)) (
    (sign_target n v3.cls).bind (fun v18 =>
    cond (v13 && v18.2) (
    (idx v1 v18.1).bind (fun v21 =>
    (sign_kind n v21.cls).bind (fun v26 =>
    some (v26)))) (
    some (false))))))))))
theorem sign_formed_spec (n : Nat) (v1 : (List Dc)) (v3 : Dc) (a2 : Option Addr) (c2 : Nat) (a4 : Option Addr) (c4 : Nat) (r : Bool) (hr : sign_formed n v1 v3 = some r) : Pure Tryz.prog (.val (.fn (.func 48) [] [])) [(.v (.slice a2 ((Dc.encL v1).length) c2)), (.agg [(.v (.string v3.name)), (.v (.int .i64 v3.cls.op)), (.v (.int .i64 v3.cls.hd)), (.v (.int .i64 v3.cls.n)), (.v (.slice a4 ((Tm.encL v3.cls.args).length) c4)), (.v (.int .i64 v3.implicit))])] [(.slice a2 ((Dc.encL v1).length) c2, .sl 6 (Dc.encL v1)), (.slice a4 ((Tm.encL v3.cls.args).length) c4, .sl 4 (Tm.encL v3.cls.args))] (fun r' out => r' = (.v (.bool r)) ∧ out = []) := by
  rcases n with _ | n
  · exact no_some hr
  rw [sign_formed.eq_2] at hr
  refine spec_of_body (N := 62) (m := 0) (dt := fun _ => none) [] ttOK Tryz.func48 rfl Tryz.call48 Tryz.ntmps48 rfl rfl rfl mixed (by kernel_rfl) ?_
  refine (check_spec v3.cls a4 c4).atR [1] rfl rfl rfl ?_
  rintro _ _ ⟨rfl, rfl⟩
  refine AtGuard.mk (fun h5 => ?_) (fun h5 => ?_)
  · replace hr := cond_f h5 hr
    obtain ⟨v6, h7, hr⟩ := bind_some hr
    refine (sign_name_spec n v3.name _ h7).atR [] rfl rfl rfl ?_
    rintro _ _ ⟨rfl, rfl⟩
    refine AtIf.mk (fun h8 => ?_) (fun h8 => ?_)
    · replace hr := cond_t h8 hr
      replace hr := Option.some.inj hr
      subst hr
      exact AtRet.pureG [] [] rfl rfl ⟨rfl, rfl⟩
    · replace hr := cond_f h8 hr
      obtain ⟨v9, h10, hr⟩ := bind_some hr
      refine (term_Domains_spec n v3.cls a4 c4 _ h10).atR [1] rfl rfl rfl ?_
      rintro _ _ ⟨a11, c11, a12, c12, rfl, rfl⟩
      obtain ⟨v13, h14, hr⟩ := bind_some hr
      refine (term_Each_sign_formed_1_spec n v3.cls 0 (decide (v3.implicit ≤ ((Tm.encL v9.1).length : Int))) v1 a4 c4 a2 c2 _ h14).frameR [3, 0] [1, 0] rfl rfl rfl rfl rfl rfl rfl rfl ?_
      rintro _ _ ⟨rfl, rfl⟩
      refine ⟨rfl, rfl, [.cells 4 [(.v (.bool v13))], .cells 22 [(.v (.slice a2 ((Dc.encL v1).length) c2))]], rfl, ?_⟩
      obtain ⟨v15, h16, hr⟩ := bind_some hr
      refine (sign_kind_spec n v3.cls a4 c4 _ h16).atR [1] rfl rfl rfl ?_
      rintro _ _ ⟨rfl, rfl⟩
      refine AtIf.mk (fun h17 => ?_) (fun h17 => ?_)
      · replace hr := cond_t h17 hr
        replace hr := Option.some.inj hr
        subst hr
        exact AtRet.pureG [] [] rfl rfl ⟨rfl, rfl⟩
      · replace hr := cond_f h17 hr
        obtain ⟨v18, h19, hr⟩ := bind_some hr
        refine (sign_target_spec n v3.cls a4 c4 _ h19).atR [1] rfl rfl rfl ?_
        rintro _ _ ⟨rfl, rfl⟩
        refine AtGuard.mk (fun h20 => ?_) (fun h20 => ?_)
        · replace hr := cond_t h20 hr
          obtain ⟨v21, h22, hr⟩ := bind_some hr
          obtain ⟨h23, h24⟩ := idx_some h22
          refine at_index ttOK 0 rfl rfl rfl rfl h23 (Dc.encL_get h24) ?_
          intro a25 c25 _ _
          obtain ⟨v26, h27, hr⟩ := bind_some hr
          refine (sign_kind_spec n v21.cls a25 c25 _ h27).atR [4] rfl rfl rfl ?_
          rintro _ _ ⟨rfl, rfl⟩
          replace hr := Option.some.inj hr
          subst hr
          exact AtRet.pureG [] [] rfl rfl ⟨rfl, rfl⟩
        · replace hr := cond_f h20 hr
          replace hr := Option.some.inj hr
          subst hr
          exact AtRet.pureG [] [] rfl rfl ⟨rfl, rfl⟩
  · replace hr := cond_t h5 hr
    refine AtIf.mk (fun _ => ?_) (fun h => tf h)
    replace hr := Option.some.inj hr
    subst hr
    exact AtRet.pureG [] [] rfl rfl ⟨rfl, rfl⟩
mutual
def sign_Check : Nat → (List Dc) → Option (Int)
  | 0, _ => none
  | n + 1, v1 =>
    cond (decide (((Dc.encL v1).length : Int) > 100)) (
    some (2)) (
    sign_Check_L1 n v1 ([]) 0)
def sign_Check_L1 : Nat → (List Dc) → (List (ByteArray × Bool)) → Int → Option (Int)
  | 0, _, _, _ => none
  | n + 1, v1, v16, v17 =>
    cond (decide (v17 < ((Dc.encL v1).length : Int))) (
    (idx v1 v17).bind (fun v19 =>
    cond (decide ((0 : Int) ≤ (0 : Int) ∧ (0 : Int) ≤ v17 ∧ v17 ≤ ((Dc.encL v1).length : Int))) (
    cond ((mget v16 v19.name).getD false) (
    some (2)) (
    (sign_formed n (v1.take v17.toNat) v19).bind (fun v27 =>
    cond (!v27) (
    some (2)) (
    sign_Check_L1 n v1 (mput v19.name true v16) (IntKind.i64.wrap (v17 + 1)))))) none)) (
    some (0))
 end
theorem sign_Check_spec (n : Nat) (v1 : (List Dc)) (a2 : Option Addr) (c2 : Nat) (r : Int) (hr : sign_Check n v1 = some r) : Pure Tryz.prog (.val (.fn (.func 25) [] [])) [(.v (.slice a2 ((Dc.encL v1).length) c2))] [(.slice a2 ((Dc.encL v1).length) c2, .sl 6 (Dc.encL v1))] (fun r' out => r' = (.v (.int .i64 r)) ∧ out = []) := by
  rcases n with _ | n
  · exact no_some hr
  rw [sign_Check.eq_2] at hr
  refine spec_of_body (N := 27) (m := 0) (dt := fun _ => none) [] ttOK Tryz.func25 rfl Tryz.call25 Tryz.ntmps25 rfl rfl rfl mixed (by kernel_rfl) ?_
  refine AtIf.mk (fun h3 => ?_) (fun h3 => ?_)
  · replace hr := cond_t h3 hr
    replace hr := Option.some.inj hr
    subst hr
    exact AtRet.pureG [] [] rfl rfl ⟨rfl, rfl⟩
  · replace hr := cond_f h3 hr
    refine at_makeMapS ?_
    refine spec_of_body (N := 4) (m := 3) (dt := fun _ => none) [] ttOK Tryz.func47 rfl Tryz.call47 Tryz.ntmps47 rfl rfl rfl mixed (by kernel_rfl) ?_
    refine AtRet.gen _ (StLe.refl _) rfl rfl ?_
    refine AtRange.mk ⟨[(2, (.loc 0 0)), (3, (.loc 2 0))], ⟨rfl, rfl, trivial⟩, rfl, rfl, ⟨_, _, _, rfl, Tryz.call76⟩, ?_⟩
    refine spec_of_body (N := 20) (m := 5) (dt := drawsOf [(3, .node [0, 1, 2, 3, 4] [(5, .leaf [6])], [5], [])]) [] ttOK Tryz.func76 rfl Tryz.call76 Tryz.ntmps76 rfl rfl rfl mixed (by kernel_rfl) ?_
    refine AtLoop.mk ⟨Nat × (List (ByteArray × Bool)) × Int, fun x => [(0, (.yld 4)), (1, (.loc 3 0)), (5, (.v (.slice a2 ((Dc.encL v1).length) c2))), (6, (.v (.int .i64 ((Dc.encL v1).length : Int)))), (7, (.v (.int .i64 x.2.2)))], fun x => ⟨[.cells 32 [(.v (.int .i64 0))], .obj (mapS (encM Value.bool x.2.1)), .cells 92 [(.mp 1)], .cells 22 [(.v (.slice a2 ((Dc.encL v1).length) c2))], .lp ⟨27, [(2, (.loc 0 0)), (3, (.loc 2 0))], #[12, 13], rfAs Tryz.f25, rfBody Tryz.f25, .ready, none⟩], [], [(.slice a2 ((Dc.encL v1).length) c2, .sl 6 (Dc.encL v1))]⟩, fun x => sign_Check_L1 x.1 v1 x.2.1 x.2.2 = some r, fun x => x.1, (n, [], 0), hr, ⟨rfl, rfl, rfl, rfl, rfl, trivial⟩, (StLe.gen 5 [] [.old 0] rfl rfl rfl rfl rfl rfl rfl), fun x _ => ⟨rfl, rfl⟩, ?_⟩
    rintro ⟨n, v16, v17⟩ HH
    have hr : sign_Check_L1 n v1 v16 v17 = some r := HH
    rcases n with _ | n
    · exact no_some hr
    rw [sign_Check_L1.eq_2] at hr
    refine AtIf.mk (fun h18 => ?_) (fun h18 => ?_)
    · replace hr := cond_t h18 hr
      obtain ⟨v19, h20, hr⟩ := bind_some hr
      obtain ⟨h21, h22⟩ := idx_some h20
      refine at_index ttOK 0 rfl rfl rfl rfl h21 (Dc.encL_get h22) ?_
      intro a23 c23 _ _
      obtain ⟨h24, hr⟩ := cond_need hr
      refine at_sliceG ttOK 0 0 v17 (ds' := (Dc.encL (v1.take v17.toNat))) rfl rfl rfl (.inr ⟨rfl, rfl⟩) (.inl ⟨_, rfl⟩) h24 (by simp only [Dc.encL_eq]; exact sl_h ..) ?_
      intro a25 c25
      refine spec_of_round (N := 27) (m := 7) (dt := fun _ => none) [] ttOK rfl rfl rfl rfl rfl rfl mixed (by kernel_rfl) (by kernel_rfl) ?_
      refine at_lookupSG ttOK Value.bool false rfl Tryz.underlying9 rfl rfl rfl rfl ?_
      refine AtGuard.mk (fun h26 => ?_) (fun h26 => ?_)
      · replace hr := cond_f h26 hr
        obtain ⟨v27, h28, hr⟩ := bind_some hr
        refine (sign_formed_spec n (v1.take v17.toNat) v19 a25 c25 a23 c23 _ h28).atR [2, 1] rfl rfl rfl ?_
        rintro _ _ ⟨rfl, rfl⟩
        refine AtIf.mk (fun h29 => ?_) (fun h29 => ?_)
        · replace hr := cond_t h29 hr
          refine AtRet.gen _ (StLe.refl _) rfl rfl ?_
          refine AtIf.mk (fun _ => ?_) (fun h => tf h)
          refine AtRet.gen _ (StLe.refl _) rfl rfl ?_
          replace hr := Option.some.inj hr
          subst hr
          exact AtRet.pureG [] [] rfl rfl ⟨rfl, rfl⟩
        · replace hr := cond_f h29 hr
          refine at_mapPutS ttOK (.bool true) rfl Tryz.underlying9 rfl rfl rfl (fun _ => rfl) ?_
          rw [putS_enc]
          refine AtRet.gen _ (StLe.refl _) rfl rfl ?_
          refine AtIf.mk (fun h => ff h) (fun _ => ?_)
          exact ⟨(n, (mput v19.name true v16), (IntKind.i64.wrap (v17 + 1))), hr, Nat.lt_succ_self _, ⟨rfl, rfl, rfl, rfl, rfl, trivial⟩, (StLe.gen 5 [] [.old 0] rfl rfl rfl rfl rfl rfl rfl)⟩
      · replace hr := cond_t h26 hr
        refine AtIf.mk (fun _ => ?_) (fun h => tf h)
        refine AtRet.gen _ (StLe.refl _) rfl rfl ?_
        refine AtIf.mk (fun _ => ?_) (fun h => tf h)
        refine AtRet.gen _ (StLe.refl _) rfl rfl ?_
        replace hr := Option.some.inj hr
        subst hr
        exact AtRet.pureG [] [] rfl rfl ⟨rfl, rfl⟩
    · replace hr := cond_f h18 hr
      refine AtRet.gen _ (StLe.refl _) rfl rfl ?_
      replace hr := Option.some.inj hr
      subst hr
      exact AtRet.pureG [] [] rfl rfl ⟨rfl, rfl⟩
def sign_Family : Nat → (List Dc) → Int → Option (Bool)
  | 0, _, _ => none
  | n + 1, v1, v3 =>
    (idx v1 v3).bind (fun v4 =>
    (sign_kind n v4.cls).bind (fun v9 =>
    some (v9)))
theorem sign_Family_spec (n : Nat) (v1 : (List Dc)) (v3 : Int) (a2 : Option Addr) (c2 : Nat) (r : Bool) (hr : sign_Family n v1 v3 = some r) : Pure Tryz.prog (.val (.fn (.func 42) [] [])) [(.v (.slice a2 ((Dc.encL v1).length) c2)), (.v (.int .i64 v3))] [(.slice a2 ((Dc.encL v1).length) c2, .sl 6 (Dc.encL v1))] (fun r' out => r' = (.v (.bool r)) ∧ out = []) := by
  rcases n with _ | n
  · exact no_some hr
  rw [sign_Family.eq_2] at hr
  refine spec_of_body (N := 11) (m := 0) (dt := fun _ => none) [] ttOK Tryz.func42 rfl Tryz.call42 Tryz.ntmps42 rfl rfl rfl mixed (by kernel_rfl) ?_
  obtain ⟨v4, h5, hr⟩ := bind_some hr
  obtain ⟨h6, h7⟩ := idx_some h5
  refine at_index ttOK 0 rfl rfl rfl rfl h6 (Dc.encL_get h7) ?_
  intro a8 c8 _ _
  obtain ⟨v9, h10, hr⟩ := bind_some hr
  refine (sign_kind_spec n v4.cls a8 c8 _ h10).atR [1] rfl rfl rfl ?_
  rintro _ _ ⟨rfl, rfl⟩
  replace hr := Option.some.inj hr
  subst hr
  exact AtRet.pureG [] [] rfl rfl ⟨rfl, rfl⟩
mutual
def slices_IndexFunc_order_isOrder_1 : Nat → (List Od) → Int → Int → Option (Int)
  | 0, _, _, _ => none
  | n + 1, v1, v3, v4 =>
    slices_IndexFunc_order_isOrder_1_L1 n v1 v3 v4 0
def slices_IndexFunc_order_isOrder_1_L1 : Nat → (List Od) → Int → Int → Int → Option (Int)
  | 0, _, _, _, _ => none
  | n + 1, v1, v3, v4, v14 =>
    cond (decide (v14 < ((Od.encL v1).length : Int))) (
    (idx v1 v14).bind (fun v16 =>
    (order_isOrder_1 n v16 v3 v4).bind (fun v21 =>
    cond v21 (
    some (v14)) (
    slices_IndexFunc_order_isOrder_1_L1 n v1 v3 v4 (IntKind.i64.wrap (v14 + 1)))))) (
    some ((-1)))
def order_isOrder : Nat → Od → Int → Int → Option (Bool)
  | 0, _, _, _ => none
  | n + 1, v1, v3, v4 =>
    cond (v1.op == 1) (
    some (((((decide (v4 < 4)) && (((Od.encL v1.parts).length : Int) == 0)) && (decide (v1.n ≥ 0))) && (decide (v1.n < v3))))) (
    cond (v1.op == 2) (
    cond (v1.op == 2) (
    cond ((((decide (v4 < 4)) && (v1.n == 0)) && (decide (((Od.encL v1.parts).length : Int) ≥ 1))) && (decide (((Od.encL v1.parts).length : Int) ≤ 8))) (
    (slices_ContainsFunc_order_isOrder_1 n v1.parts v3 v4).bind (fun v9 =>
    some ((!v9)))) (
    some (false))) (
    some (false))) (
    cond (v1.op == 3) (
    cond ((((decide (v4 < 4)) && (v1.n == 0)) && (decide (((Od.encL v1.parts).length : Int) ≥ 1))) && (decide (((Od.encL v1.parts).length : Int) ≤ 8))) (
    (slices_ContainsFunc_order_isOrder_1 n v1.parts v3 v4).bind (fun v13 =>
    some ((!v13)))) (
    some (false))) (
    some (false))))
def slices_ContainsFunc_order_isOrder_1 : Nat → (List Od) → Int → Int → Option (Bool)
  | 0, _, _, _ => none
  | n + 1, v1, v3, v4 =>
    (slices_IndexFunc_order_isOrder_1 n v1 v3 v4).bind (fun v5 =>
    some ((decide (v5 ≥ 0))))
def order_isOrder_1 : Nat → Od → Int → Int → Option (Bool)
  | 0, _, _, _ => none
  | n + 1, v1, v3, v4 =>
    (order_isOrder n v1 v3 (IntKind.i64.wrap (v4 + 1))).bind (fun v5 =>
    some ((!v5)))
 end
theorem slices_IndexFunc_order_isOrder_1_specN : ∀ (N : Nat), (∀ (n : Nat), n ≤ N → ∀ (v1 : (List Od)) (v3 : Int) (v4 : Int) (a2 : Option Addr) (c2 : Nat) (r : Int), slices_IndexFunc_order_isOrder_1 n v1 v3 v4 = some r → Meets Tryz.prog (.val (.fn (.func 108) [] [])) [(.v (.slice a2 ((Od.encL v1).length) c2)), (.fn (.func 83) [] [(.loc 0 0), (.loc 1 0)])] ⟨[.cells 3 [(.v (.int .i64 v3))], .cells 3 [(.v (.int .i64 v4))]], [], [(.slice a2 ((Od.encL v1).length) c2, .sl 3 (Od.encL v1))]⟩ (fun o S' => o = .ret (.v (.int .i64 r)) ∧ S' = ⟨[.cells 3 [(.v (.int .i64 v3))], .cells 3 [(.v (.int .i64 v4))]], [], []⟩)) ∧ (∀ (n : Nat), n ≤ N → ∀ (v1 : Od) (v3 : Int) (v4 : Int) (a2 : Option Addr) (c2 : Nat) (r : Bool), order_isOrder n v1 v3 v4 = some r → Pure Tryz.prog (.val (.fn (.func 49) [] [])) [(.agg [(.v (.int .i64 v1.op)), (.v (.int .i64 v1.n)), (.v (.slice a2 ((Od.encL v1.parts).length) c2))]), (.v (.int .i64 v3)), (.v (.int .i64 v4))] [(.slice a2 ((Od.encL v1.parts).length) c2, .sl 3 (Od.encL v1.parts))] (fun r' out => r' = (.v (.bool r)) ∧ out = [])) ∧ (∀ (n : Nat), n ≤ N → ∀ (v1 : (List Od)) (v3 : Int) (v4 : Int) (a2 : Option Addr) (c2 : Nat) (r : Bool), slices_ContainsFunc_order_isOrder_1 n v1 v3 v4 = some r → Meets Tryz.prog (.val (.fn (.func 82) [] [])) [(.v (.slice a2 ((Od.encL v1).length) c2)), (.fn (.func 83) [] [(.loc 0 0), (.loc 1 0)])] ⟨[.cells 3 [(.v (.int .i64 v3))], .cells 3 [(.v (.int .i64 v4))]], [], [(.slice a2 ((Od.encL v1).length) c2, .sl 3 (Od.encL v1))]⟩ (fun o S' => o = .ret (.v (.bool r)) ∧ S' = ⟨[.cells 3 [(.v (.int .i64 v3))], .cells 3 [(.v (.int .i64 v4))]], [], []⟩)) ∧ (∀ (n : Nat), n ≤ N → ∀ (v1 : Od) (v3 : Int) (v4 : Int) (a2 : Option Addr) (c2 : Nat) (r : Bool), order_isOrder_1 n v1 v3 v4 = some r → Meets Tryz.prog (.val (.fn (.func 83) [] [(.loc 0 0), (.loc 1 0)])) [(.agg [(.v (.int .i64 v1.op)), (.v (.int .i64 v1.n)), (.v (.slice a2 ((Od.encL v1.parts).length) c2))])] ⟨[.cells 3 [(.v (.int .i64 v3))], .cells 3 [(.v (.int .i64 v4))]], [], [(.slice a2 ((Od.encL v1.parts).length) c2, .sl 3 (Od.encL v1.parts))]⟩ (fun o S' => o = .ret (.v (.bool r)) ∧ S' = ⟨[.cells 3 [(.v (.int .i64 v3))], .cells 3 [(.v (.int .i64 v4))]], [], []⟩)) := by
  intro N
  induction N with
  | zero =>
    refine ⟨?_, ?_, ?_, ?_⟩
    · intro n hn v1 v3 v4 a2 c2 r hr; obtain rfl : n = 0 := (by omega); exact no_some hr
    · intro n hn v1 v3 v4 a2 c2 r hr; obtain rfl : n = 0 := (by omega); exact no_some hr
    · intro n hn v1 v3 v4 a2 c2 r hr; obtain rfl : n = 0 := (by omega); exact no_some hr
    · intro n hn v1 v3 v4 a2 c2 r hr; obtain rfl : n = 0 := (by omega); exact no_some hr
  | succ N ih =>
    obtain ⟨ih1, ih2, ih3, ih4⟩ := ih
    refine ⟨?_, ?_, ?_, ?_⟩
    ·
      intro n hn v1 v3 v4 a2 c2 r hr
      rcases n with _ | n
      · exact no_some hr
      replace hn : n ≤ N := by omega
      rw [slices_IndexFunc_order_isOrder_1.eq_2] at hr
      refine spec_of_body (N := 19) (m := 2) (dt := fun _ => none) [] ttOK Tryz.func108 rfl Tryz.call108 Tryz.ntmps108 rfl rfl rfl mixed (by kernel_rfl) ?_
      refine AtLoop.mk ⟨Nat × Int, fun x => [(0, (.v (.slice a2 ((Od.encL v1).length) c2))), (1, (.fn (.func 83) [] [(.loc 0 0), (.loc 1 0)])), (7, (.v (.int .i64 ((Od.encL v1).length : Int)))), (8, (.v (.int .i64 x.2)))], fun x => ⟨[.cells 3 [(.v (.int .i64 v3))], .cells 3 [(.v (.int .i64 v4))]], [], [(.slice a2 ((Od.encL v1).length) c2, .sl 3 (Od.encL v1))]⟩, fun x => x.1 ≤ N ∧ slices_IndexFunc_order_isOrder_1_L1 x.1 v1 v3 v4 x.2 = some r, fun x => x.1, (n, 0), ⟨by omega, hr⟩, ⟨rfl, rfl, rfl, rfl, trivial⟩, (StLe.gen 2 [] [.old 0] rfl rfl rfl rfl rfl rfl rfl), fun x _ => ⟨rfl, rfl⟩, ?_⟩
      rintro ⟨n, v14⟩ HH
      obtain ⟨hn, hr⟩ : n ≤ N ∧ slices_IndexFunc_order_isOrder_1_L1 n v1 v3 v4 v14 = some r := HH
      rcases n with _ | n
      · exact no_some hr
      rw [slices_IndexFunc_order_isOrder_1_L1.eq_2] at hr
      refine AtIf.mk (fun h15 => ?_) (fun h15 => ?_)
      · replace hr := cond_t h15 hr
        obtain ⟨v16, h17, hr⟩ := bind_some hr
        obtain ⟨h18, h19⟩ := idx_some h17
        refine at_index ttOK 0 rfl rfl rfl rfl h18 (Od.encL_get h19) ?_
        intro a20 c20 _ _
        obtain ⟨v21, h22, hr⟩ := bind_some hr
        refine (ih4 n (by omega) v16 v3 v4 a20 c20 _ h22).frameR [0, 1] [1] rfl rfl rfl rfl rfl rfl rfl rfl ?_
        rintro _ _ ⟨rfl, rfl⟩
        refine ⟨rfl, rfl, [.cells 3 [(.v (.int .i64 v3))], .cells 3 [(.v (.int .i64 v4))]], rfl, ?_⟩
        refine AtIf.mk (fun h23 => ?_) (fun h23 => ?_)
        · replace hr := cond_t h23 hr
          replace hr := Option.some.inj hr
          subst hr
          exact AtRet.gen ⟨[.cells 3 [(.v (.int .i64 v3))], .cells 3 [(.v (.int .i64 v4))]], [], []⟩ (StLe.gen 2 [] [] rfl rfl rfl rfl rfl rfl rfl) rfl rfl ⟨rfl, rfl⟩
        · replace hr := cond_f h23 hr
          exact ⟨(n, (IntKind.i64.wrap (v14 + 1))), ⟨by omega, hr⟩, Nat.lt_succ_self _, ⟨rfl, rfl, rfl, rfl, trivial⟩, (StLe.gen 2 [] [.old 0] rfl rfl rfl rfl rfl rfl rfl)⟩
      · replace hr := cond_f h15 hr
        replace hr := Option.some.inj hr
        subst hr
        exact AtRet.gen ⟨[.cells 3 [(.v (.int .i64 v3))], .cells 3 [(.v (.int .i64 v4))]], [], []⟩ (StLe.gen 2 [] [] rfl rfl rfl rfl rfl rfl rfl) rfl rfl ⟨rfl, rfl⟩
    ·
      intro n hn v1 v3 v4 a2 c2 r hr
      rcases n with _ | n
      · exact no_some hr
      replace hn : n ≤ N := by omega
      rw [order_isOrder.eq_2] at hr
      refine spec_of_body (N := 59) (m := 0) (dt := fun _ => none) [] ttOK Tryz.func49 rfl Tryz.call49 Tryz.ntmps49 rfl rfl rfl mixed (by kernel_rfl) ?_
      refine AtIf.mk (fun h5 => ?_) (fun h5 => ?_)
      · replace hr := cond_t h5 hr
        replace hr := Option.some.inj hr
        subst hr
        exact AtRet.pureG [] [] rfl rfl ⟨rfl, rfl⟩
      · replace hr := cond_f h5 hr
        refine AtIf.mk (fun h6 => ?_) (fun h6 => ?_)
        · replace hr := cond_t h6 hr
          refine AtIf.mk (fun h7 => ?_) (fun h7 => ?_)
          · replace hr := cond_t h7 hr
            refine AtGuard.mk (fun h8 => ?_) (fun h8 => ?_)
            · replace hr := cond_t h8 hr
              obtain ⟨v9, h10, hr⟩ := bind_some hr
              refine (ih3 n (by omega) v1.parts v3 v4 a2 c2 _ h10).frameR [1, 2] [0] rfl rfl rfl rfl rfl rfl rfl rfl ?_
              rintro _ _ ⟨rfl, rfl⟩
              refine ⟨rfl, rfl, [.cells 3 [(.v (.int .i64 v3))], .cells 3 [(.v (.int .i64 v4))]], rfl, ?_⟩
              replace hr := Option.some.inj hr
              subst hr
              exact AtRet.pureG [] [] rfl rfl ⟨rfl, rfl⟩
            · replace hr := cond_f h8 hr
              replace hr := Option.some.inj hr
              subst hr
              exact AtRet.pureG [] [] rfl rfl ⟨rfl, rfl⟩
          · replace hr := cond_f h7 hr
            replace hr := Option.some.inj hr
            subst hr
            exact AtRet.pureG [] [] rfl rfl ⟨rfl, rfl⟩
        · replace hr := cond_f h6 hr
          refine AtIf.mk (fun h11 => ?_) (fun h11 => ?_)
          · replace hr := cond_t h11 hr
            refine AtGuard.mk (fun h12 => ?_) (fun h12 => ?_)
            · replace hr := cond_t h12 hr
              obtain ⟨v13, h14, hr⟩ := bind_some hr
              refine (ih3 n (by omega) v1.parts v3 v4 a2 c2 _ h14).frameR [1, 2] [0] rfl rfl rfl rfl rfl rfl rfl rfl ?_
              rintro _ _ ⟨rfl, rfl⟩
              refine ⟨rfl, rfl, [.cells 3 [(.v (.int .i64 v3))], .cells 3 [(.v (.int .i64 v4))]], rfl, ?_⟩
              replace hr := Option.some.inj hr
              subst hr
              exact AtRet.pureG [] [] rfl rfl ⟨rfl, rfl⟩
            · replace hr := cond_f h12 hr
              replace hr := Option.some.inj hr
              subst hr
              exact AtRet.pureG [] [] rfl rfl ⟨rfl, rfl⟩
          · replace hr := cond_f h11 hr
            replace hr := Option.some.inj hr
            subst hr
            exact AtRet.pureG [] [] rfl rfl ⟨rfl, rfl⟩
    ·
      intro n hn v1 v3 v4 a2 c2 r hr
      rcases n with _ | n
      · exact no_some hr
      replace hn : n ≤ N := by omega
      rw [slices_ContainsFunc_order_isOrder_1.eq_2] at hr
      refine spec_of_body (N := 9) (m := 2) (dt := fun _ => none) [] ttOK Tryz.func82 rfl Tryz.call82 Tryz.ntmps82 rfl rfl rfl mixed (by kernel_rfl) ?_
      obtain ⟨v5, h6, hr⟩ := bind_some hr
      refine (ih1 n (by omega) v1 v3 v4 a2 c2 _ h6).frameR [0, 1] [0] rfl rfl rfl rfl rfl rfl rfl rfl ?_
      rintro _ _ ⟨rfl, rfl⟩
      refine ⟨rfl, rfl, [.cells 3 [(.v (.int .i64 v3))], .cells 3 [(.v (.int .i64 v4))]], rfl, ?_⟩
      replace hr := Option.some.inj hr
      subst hr
      exact AtRet.gen ⟨[.cells 3 [(.v (.int .i64 v3))], .cells 3 [(.v (.int .i64 v4))]], [], []⟩ (StLe.gen 2 [] [] rfl rfl rfl rfl rfl rfl rfl) rfl rfl ⟨rfl, rfl⟩
    ·
      intro n hn v1 v3 v4 a2 c2 r hr
      rcases n with _ | n
      · exact no_some hr
      replace hn : n ≤ N := by omega
      rw [order_isOrder_1.eq_2] at hr
      refine spec_of_body (N := 11) (m := 2) (dt := fun _ => none) [] ttOK Tryz.func83 rfl Tryz.call83 Tryz.ntmps83 rfl rfl rfl mixed (by kernel_rfl) ?_
      obtain ⟨v5, h6, hr⟩ := bind_some hr
      refine (ih2 n (by omega) v1 v3 (IntKind.i64.wrap (v4 + 1)) a2 c2 _ h6).atR [0] rfl rfl rfl ?_
      rintro _ _ ⟨rfl, rfl⟩
      replace hr := Option.some.inj hr
      subst hr
      exact AtRet.gen ⟨[.cells 3 [(.v (.int .i64 v3))], .cells 3 [(.v (.int .i64 v4))]], [], []⟩ (StLe.gen 2 [] [] rfl rfl rfl rfl rfl rfl rfl) rfl rfl ⟨rfl, rfl⟩
theorem order_isOrder_spec (n : Nat) (v1 : Od) (v3 : Int) (v4 : Int) (a2 : Option Addr) (c2 : Nat) (r : Bool) (hr : order_isOrder n v1 v3 v4 = some r) : Pure Tryz.prog (.val (.fn (.func 49) [] [])) [(.agg [(.v (.int .i64 v1.op)), (.v (.int .i64 v1.n)), (.v (.slice a2 ((Od.encL v1.parts).length) c2))]), (.v (.int .i64 v3)), (.v (.int .i64 v4))] [(.slice a2 ((Od.encL v1.parts).length) c2, .sl 3 (Od.encL v1.parts))] (fun r' out => r' = (.v (.bool r)) ∧ out = []) := (slices_IndexFunc_order_isOrder_1_specN n).2.1 n (Nat.le_refl _) v1 v3 v4 a2 c2 r hr
mutual
def order_Calls : Nat → (List Dc) → (List Me) → Int → Option ((List Int) × Int)
  | 0, _, _, _ => none
  | n + 1, v1, v3, v5 =>
    (sign_Check n v1).bind (fun v6 =>
    cond (v6 != 0) (
    some ([], 2)) (
    order_Calls_L1 n v3 v1 v5 ([]) 0))
def order_Calls_L1 : Nat → (List Me) → (List Dc) → Int → (List (Int × Od)) → Int → Option ((List Int) × Int)
  | 0, _, _, _, _, _ => none
  | n + 1, v3, v1, v5, v32, v34 =>
    cond (decide (v34 < ((Me.encL v3).length : Int))) (
    (idx v3 v34).bind (fun v36 =>
    cond (((((mget v32 v36.family).isSome) || (decide (((Me.encL v3).length : Int) > 40))) || (decide (v36.family < 0))) || (decide (v36.family ≥ ((Dc.encL v1).length : Int)))) (
    some ([], 2)) (
    (sign_Family n v1 v36.family).bind (fun v43 =>
    cond (!v43) (
    some ([], 2)) (
    (idx v1 v36.family).bind (fun v46 =>
    (term_Domains n v46.cls).bind (fun v51 =>
    (order_isOrder n v36.order ((Tm.encL v51.1).length : Int) 0).bind (fun v55 =>
    cond (!v55) (
    some ([], 2)) (
    order_Calls_L1 n v3 v1 v5 (mput v36.family v36.order v32) (IntKind.i64.wrap (v34 + 1))))))))))) (
    cond ((decide (v5 < 0)) || (decide (v5 ≥ ((Dc.encL v1).length : Int)))) (
    some ([], 6)) (
    (sign_Family n v1 v5).bind (fun v59 =>
    cond v59 (
    some ([], 22)) (
    (order_calls n v1 v5 v32).bind (fun v62 =>
    some (v62, 0))))))
 end
theorem order_Calls_spec (n : Nat) (v1 : (List Dc)) (v3 : (List Me)) (v5 : Int) (a2 : Option Addr) (c2 : Nat) (a4 : Option Addr) (c4 : Nat) (r : (List Int) × Int) (hr : order_Calls n v1 v3 v5 = some r) : Pure Tryz.prog (.val (.fn (.func 6) [] [])) [(.v (.slice a2 ((Dc.encL v1).length) c2)), (.v (.slice a4 ((Me.encL v3).length) c4)), (.v (.int .i64 v5))] [(.slice a2 ((Dc.encL v1).length) c2, .sl 6 (Dc.encL v1)), (.slice a4 ((Me.encL v3).length) c4, .sl 4 (Me.encL v3))] (fun r' out => ∃ (b1 : Option Addr) (d1 : Nat), r' = (.tup [(.v (.slice b1 ((List.map (D.int .i64) r.1).length) d1)), (.v (.int .i64 r.2))]) ∧ out = [(.slice b1 ((List.map (D.int .i64) r.1).length) d1, .sl 1 (List.map (D.int .i64) r.1))]) := by
  rcases n with _ | n
  · exact no_some hr
  rw [order_Calls.eq_2] at hr
  refine spec_of_body (N := 24) (m := 0) (dt := fun _ => none) [] ttOK Tryz.func6 rfl Tryz.call6 Tryz.ntmps6 rfl rfl rfl mixed (by kernel_rfl) ?_
  refine spec_of_body (N := 36) (m := 0) (dt := fun _ => none) [] ttOK Tryz.func22 rfl Tryz.call22 Tryz.ntmps22 rfl rfl rfl mixed (by kernel_rfl) ?_
  obtain ⟨v6, h7, hr⟩ := bind_some hr
  refine (sign_Check_spec n v1 a2 c2 _ h7).atR [0] rfl rfl rfl ?_
  rintro _ _ ⟨rfl, rfl⟩
  refine AtIf.mk (fun h8 => ?_) (fun h8 => ?_)
  · replace hr := cond_t h8 hr
    refine AtRet.gen _ (StLe.refl _) rfl rfl ?_
    refine AtIf.mk (fun _ => ?_) (fun h => tf h)
    replace hr := Option.some.inj hr
    subst hr
    exact AtRet.pureG [.nil 1] [(.slice none 0 0, .sl 1 [])] rfl rfl ⟨none, 0, rfl, rfl⟩
  · replace hr := cond_f h8 hr
    refine spec_of_body (N := 75) (m := 0) (dt := fun _ => none) [] ttOK Tryz.func26 rfl Tryz.call26 Tryz.ntmps26 rfl rfl rfl mixed (by kernel_rfl) ?_
    refine at_makeMapG .i64 Od.gv 3 Od.gp ?_
    refine AtLoop.mk ⟨Nat × (List (Int × GE Od)) × Int, fun x => [(0, (.v (.slice a2 ((Dc.encL v1).length) c2))), (1, (.v (.slice a4 ((Me.encL v3).length) c4))), (6, (.mp 0)), (14, (.v (.slice a4 ((Me.encL v3).length) c4))), (15, (.v (.int .i64 ((Me.encL v3).length : Int)))), (16, (.v (.int .i64 x.2.2)))], fun x => ⟨[.obj (mapO .i64 (encM Od.gv x.2.1))], [], [(.slice a2 ((Dc.encL v1).length) c2, .sl 6 (Dc.encL v1)), (.slice a4 ((Me.encL v3).length) c4, .sl 4 (Me.encL v3)), (agV 3 Od.gp x.2.1, agD 3 Od.gp x.2.1)]⟩, fun x => order_Calls_L1 x.1 v3 v1 v5 (er x.2.1) x.2.2 = some r, fun x => x.1, (n, ([] : List (Int × GE Od)), 0), hr, ⟨rfl, rfl, rfl, rfl, rfl, rfl, trivial⟩, (StLe.gen 1 [] [.old 0, .old 1, .old 2] rfl rfl rfl rfl rfl rfl rfl), fun x _ => ⟨rfl, rfl⟩, ?_⟩
    rintro ⟨n, g33, v34⟩ HH
    have hr : order_Calls_L1 n v3 v1 v5 (er g33) v34 = some r := HH
    rcases n with _ | n
    · exact no_some hr
    rw [order_Calls_L1.eq_2] at hr
    refine AtIf.mk (fun h35 => ?_) (fun h35 => ?_)
    · replace hr := cond_t h35 hr
      obtain ⟨v36, h37, hr⟩ := bind_some hr
      obtain ⟨h38, h39⟩ := idx_some h37
      refine at_index ttOK 1 rfl rfl rfl rfl h38 (Me.encL_get h39) ?_
      intro a40 c40 _ _
      refine at_lookupGE ttOK Od.gv Od.gk 3 Od.gp (Od.mk 0 0 ([])) _ 2 rfl Tryz.underlying3 Tryz.zeroValue27 rfl rfl (fun _ _ _ _ => rfl) (fun _ _ _ _ => rfl) rfl rfl rfl rfl ?_
      intro a41 c41
      refine AtGuard.mk (fun h42 => ?_) (fun h42 => ?_)
      · replace hr := cond_f h42 hr
        obtain ⟨v43, h44, hr⟩ := bind_some hr
        refine (sign_Family_spec n v1 v36.family a2 c2 _ h44).atR [0] rfl rfl rfl ?_
        rintro _ _ ⟨rfl, rfl⟩
        refine AtIf.mk (fun h45 => ?_) (fun h45 => ?_)
        · replace hr := cond_t h45 hr
          refine AtRet.gen _ (StLe.refl _) rfl rfl ?_
          refine AtIf.mk (fun _ => ?_) (fun h => tf h)
          refine AtRet.gen _ (StLe.refl _) rfl rfl ?_
          refine AtIf.mk (fun _ => ?_) (fun h => tf h)
          replace hr := Option.some.inj hr
          subst hr
          exact AtRet.pureG [.nil 1] [(.slice none 0 0, .sl 1 [])] rfl rfl ⟨none, 0, rfl, rfl⟩
        · replace hr := cond_f h45 hr
          obtain ⟨v46, h47, hr⟩ := bind_some hr
          obtain ⟨h48, h49⟩ := idx_some h47
          refine at_index ttOK 0 rfl rfl rfl rfl h48 (Dc.encL_get h49) ?_
          intro a50 c50 _ _
          obtain ⟨v51, h52, hr⟩ := bind_some hr
          refine (term_Domains_spec n v46.cls a50 c50 _ h52).atR [5] rfl rfl rfl ?_
          rintro _ _ ⟨a53, c53, a54, c54, rfl, rfl⟩
          obtain ⟨v55, h56, hr⟩ := bind_some hr
          refine (order_isOrder_spec n v36.order ((Tm.encL v51.1).length : Int) 0 a40 c40 _ h56).atR [3] rfl rfl rfl ?_
          rintro _ _ ⟨rfl, rfl⟩
          refine AtIf.mk (fun h57 => ?_) (fun h57 => ?_)
          · replace hr := cond_t h57 hr
            refine AtRet.gen _ (StLe.refl _) rfl rfl ?_
            refine AtIf.mk (fun _ => ?_) (fun h => tf h)
            refine AtRet.gen _ (StLe.refl _) rfl rfl ?_
            refine AtIf.mk (fun _ => ?_) (fun h => tf h)
            replace hr := Option.some.inj hr
            subst hr
            exact AtRet.pureG [.nil 1] [(.slice none 0 0, .sl 1 [])] rfl rfl ⟨none, 0, rfl, rfl⟩
          · replace hr := cond_f h57 hr
            refine at_mapPutGE ttOK Od.gv 3 Od.gp v36.order a40 c40 2 3 rfl Tryz.underlying3 rfl rfl rfl (fun _ => rfl) rfl rfl rfl ?_
            exact ⟨(n, (mput v36.family (v36.order, a40, c40) g33), (IntKind.i64.wrap (v34 + 1))), (by simpa only [er_mput] using hr), Nat.lt_succ_self _, ⟨rfl, rfl, rfl, rfl, rfl, rfl, trivial⟩, (StLe.gen 1 [] [.old 0, .old 1, .old 2] rfl rfl rfl rfl rfl rfl rfl)⟩
      · replace hr := cond_t h42 hr
        refine AtIf.mk (fun _ => ?_) (fun h => tf h)
        refine AtRet.gen _ (StLe.refl _) rfl rfl ?_
        refine AtIf.mk (fun _ => ?_) (fun h => tf h)
        refine AtRet.gen _ (StLe.refl _) rfl rfl ?_
        refine AtIf.mk (fun _ => ?_) (fun h => tf h)
        replace hr := Option.some.inj hr
        subst hr
        exact AtRet.pureG [.nil 1] [(.slice none 0 0, .sl 1 [])] rfl rfl ⟨none, 0, rfl, rfl⟩
    · replace hr := cond_f h35 hr
      refine AtRet.gen _ (StLe.refl _) rfl rfl ?_
      refine AtIf.mk (fun h => ff h) (fun _ => ?_)
      refine AtIf.mk (fun h58 => ?_) (fun h58 => ?_)
      · replace hr := cond_t h58 hr
        refine AtRet.gen _ (StLe.refl _) rfl rfl ?_
        refine AtIf.mk (fun _ => ?_) (fun h => tf h)
        replace hr := Option.some.inj hr
        subst hr
        exact AtRet.pureG [.nil 1] [(.slice none 0 0, .sl 1 [])] rfl rfl ⟨none, 0, rfl, rfl⟩
      · replace hr := cond_f h58 hr
        obtain ⟨v59, h60, hr⟩ := bind_some hr
        refine (sign_Family_spec n v1 v5 a2 c2 _ h60).atR [0] rfl rfl rfl ?_
        rintro _ _ ⟨rfl, rfl⟩
        refine AtIf.mk (fun h61 => ?_) (fun h61 => ?_)
        · replace hr := cond_t h61 hr
          refine AtRet.gen _ (StLe.refl _) rfl rfl ?_
          refine AtIf.mk (fun _ => ?_) (fun h => tf h)
          replace hr := Option.some.inj hr
          subst hr
          exact AtRet.pureG [.nil 1] [(.slice none 0 0, .sl 1 [])] rfl rfl ⟨none, 0, rfl, rfl⟩
        · replace hr := cond_f h61 hr
          refine AtRet.gen _ (StLe.refl _) rfl rfl ?_
          refine AtIf.mk (fun h => ff h) (fun _ => ?_)
          obtain ⟨v62, h63, hr⟩ := bind_some hr
          refine (order_calls_spec n v1 v5 g33 a2 c2 _ h63).frameR [0] [0, 2] rfl rfl rfl rfl rfl rfl rfl rfl ?_
          rintro _ _ ⟨a64, c64, rfl, rfl⟩
          refine ⟨rfl, rfl, [.obj (mapO .i64 (encM Od.gv g33))], rfl, ?_⟩
          replace hr := Option.some.inj hr
          subst hr
          exact AtRet.pureG [.old 3] [(.slice a64 ((List.map (D.int .i64) v62).length) c64, .sl 1 (List.map (D.int .i64) v62))] rfl rfl ⟨a64, c64, rfl, rfl⟩
mutual
def order_Check : Nat → (List Dc) → (List Me) → Int → Option (Int × Int)
  | 0, _, _, _ => none
  | n + 1, v1, v3, v5 =>
    (sign_Check n v1).bind (fun v6 =>
    cond (v6 != 0) (
    some (0, 2)) (
    order_Check_L1 n v3 v1 v5 ([]) 0))
def order_Check_L1 : Nat → (List Me) → (List Dc) → Int → (List (Int × Od)) → Int → Option (Int × Int)
  | 0, _, _, _, _, _ => none
  | n + 1, v3, v1, v5, v32, v34 =>
    cond (decide (v34 < ((Me.encL v3).length : Int))) (
    (idx v3 v34).bind (fun v36 =>
    cond (((((mget v32 v36.family).isSome) || (decide (((Me.encL v3).length : Int) > 40))) || (decide (v36.family < 0))) || (decide (v36.family ≥ ((Dc.encL v1).length : Int)))) (
    some (0, 2)) (
    (sign_Family n v1 v36.family).bind (fun v43 =>
    cond (!v43) (
    some (0, 2)) (
    (idx v1 v36.family).bind (fun v46 =>
    (term_Domains n v46.cls).bind (fun v51 =>
    (order_isOrder n v36.order ((Tm.encL v51.1).length : Int) 0).bind (fun v55 =>
    cond (!v55) (
    some (0, 2)) (
    order_Check_L1 n v3 v1 v5 (mput v36.family v36.order v32) (IntKind.i64.wrap (v34 + 1))))))))))) (
    cond ((decide (v5 < 0)) || (decide (v5 ≥ ((Dc.encL v1).length : Int)))) (
    some (0, 6)) (
    (sign_Family n v1 v5).bind (fun v59 =>
    cond v59 (
    some (0, 22)) (
    (order_check n v1 v5 v32).bind (fun v62 =>
    some (v62.1, v62.2))))))
 end
theorem order_Check_spec (n : Nat) (v1 : (List Dc)) (v3 : (List Me)) (v5 : Int) (a2 : Option Addr) (c2 : Nat) (a4 : Option Addr) (c4 : Nat) (r : Int × Int) (hr : order_Check n v1 v3 v5 = some r) : Pure Tryz.prog (.val (.fn (.func 7) [] [])) [(.v (.slice a2 ((Dc.encL v1).length) c2)), (.v (.slice a4 ((Me.encL v3).length) c4)), (.v (.int .i64 v5))] [(.slice a2 ((Dc.encL v1).length) c2, .sl 6 (Dc.encL v1)), (.slice a4 ((Me.encL v3).length) c4, .sl 4 (Me.encL v3))] (fun r' out => r' = (.tup [(.v (.int .i64 r.1)), (.v (.int .i64 r.2))]) ∧ out = []) := by
  rcases n with _ | n
  · exact no_some hr
  rw [order_Check.eq_2] at hr
  refine spec_of_body (N := 26) (m := 0) (dt := fun _ => none) [] ttOK Tryz.func7 rfl Tryz.call7 Tryz.ntmps7 rfl rfl rfl mixed (by kernel_rfl) ?_
  refine spec_of_body (N := 36) (m := 0) (dt := fun _ => none) [] ttOK Tryz.func22 rfl Tryz.call22 Tryz.ntmps22 rfl rfl rfl mixed (by kernel_rfl) ?_
  obtain ⟨v6, h7, hr⟩ := bind_some hr
  refine (sign_Check_spec n v1 a2 c2 _ h7).atR [0] rfl rfl rfl ?_
  rintro _ _ ⟨rfl, rfl⟩
  refine AtIf.mk (fun h8 => ?_) (fun h8 => ?_)
  · replace hr := cond_t h8 hr
    refine AtRet.gen _ (StLe.refl _) rfl rfl ?_
    refine AtIf.mk (fun _ => ?_) (fun h => tf h)
    replace hr := Option.some.inj hr
    subst hr
    exact AtRet.pureG [] [] rfl rfl ⟨rfl, rfl⟩
  · replace hr := cond_f h8 hr
    refine spec_of_body (N := 75) (m := 0) (dt := fun _ => none) [] ttOK Tryz.func26 rfl Tryz.call26 Tryz.ntmps26 rfl rfl rfl mixed (by kernel_rfl) ?_
    refine at_makeMapG .i64 Od.gv 3 Od.gp ?_
    refine AtLoop.mk ⟨Nat × (List (Int × GE Od)) × Int, fun x => [(0, (.v (.slice a2 ((Dc.encL v1).length) c2))), (1, (.v (.slice a4 ((Me.encL v3).length) c4))), (6, (.mp 0)), (14, (.v (.slice a4 ((Me.encL v3).length) c4))), (15, (.v (.int .i64 ((Me.encL v3).length : Int)))), (16, (.v (.int .i64 x.2.2)))], fun x => ⟨[.obj (mapO .i64 (encM Od.gv x.2.1))], [], [(.slice a2 ((Dc.encL v1).length) c2, .sl 6 (Dc.encL v1)), (.slice a4 ((Me.encL v3).length) c4, .sl 4 (Me.encL v3)), (agV 3 Od.gp x.2.1, agD 3 Od.gp x.2.1)]⟩, fun x => order_Check_L1 x.1 v3 v1 v5 (er x.2.1) x.2.2 = some r, fun x => x.1, (n, ([] : List (Int × GE Od)), 0), hr, ⟨rfl, rfl, rfl, rfl, rfl, rfl, trivial⟩, (StLe.gen 1 [] [.old 0, .old 1, .old 2] rfl rfl rfl rfl rfl rfl rfl), fun x _ => ⟨rfl, rfl⟩, ?_⟩
    rintro ⟨n, g33, v34⟩ HH
    have hr : order_Check_L1 n v3 v1 v5 (er g33) v34 = some r := HH
    rcases n with _ | n
    · exact no_some hr
    rw [order_Check_L1.eq_2] at hr
    refine AtIf.mk (fun h35 => ?_) (fun h35 => ?_)
    · replace hr := cond_t h35 hr
      obtain ⟨v36, h37, hr⟩ := bind_some hr
      obtain ⟨h38, h39⟩ := idx_some h37
      refine at_index ttOK 1 rfl rfl rfl rfl h38 (Me.encL_get h39) ?_
      intro a40 c40 _ _
      refine at_lookupGE ttOK Od.gv Od.gk 3 Od.gp (Od.mk 0 0 ([])) _ 2 rfl Tryz.underlying3 Tryz.zeroValue27 rfl rfl (fun _ _ _ _ => rfl) (fun _ _ _ _ => rfl) rfl rfl rfl rfl ?_
      intro a41 c41
      refine AtGuard.mk (fun h42 => ?_) (fun h42 => ?_)
      · replace hr := cond_f h42 hr
        obtain ⟨v43, h44, hr⟩ := bind_some hr
        refine (sign_Family_spec n v1 v36.family a2 c2 _ h44).atR [0] rfl rfl rfl ?_
        rintro _ _ ⟨rfl, rfl⟩
        refine AtIf.mk (fun h45 => ?_) (fun h45 => ?_)
        · replace hr := cond_t h45 hr
          refine AtRet.gen _ (StLe.refl _) rfl rfl ?_
          refine AtIf.mk (fun _ => ?_) (fun h => tf h)
          refine AtRet.gen _ (StLe.refl _) rfl rfl ?_
          refine AtIf.mk (fun _ => ?_) (fun h => tf h)
          replace hr := Option.some.inj hr
          subst hr
          exact AtRet.pureG [] [] rfl rfl ⟨rfl, rfl⟩
        · replace hr := cond_f h45 hr
          obtain ⟨v46, h47, hr⟩ := bind_some hr
          obtain ⟨h48, h49⟩ := idx_some h47
          refine at_index ttOK 0 rfl rfl rfl rfl h48 (Dc.encL_get h49) ?_
          intro a50 c50 _ _
          obtain ⟨v51, h52, hr⟩ := bind_some hr
          refine (term_Domains_spec n v46.cls a50 c50 _ h52).atR [5] rfl rfl rfl ?_
          rintro _ _ ⟨a53, c53, a54, c54, rfl, rfl⟩
          obtain ⟨v55, h56, hr⟩ := bind_some hr
          refine (order_isOrder_spec n v36.order ((Tm.encL v51.1).length : Int) 0 a40 c40 _ h56).atR [3] rfl rfl rfl ?_
          rintro _ _ ⟨rfl, rfl⟩
          refine AtIf.mk (fun h57 => ?_) (fun h57 => ?_)
          · replace hr := cond_t h57 hr
            refine AtRet.gen _ (StLe.refl _) rfl rfl ?_
            refine AtIf.mk (fun _ => ?_) (fun h => tf h)
            refine AtRet.gen _ (StLe.refl _) rfl rfl ?_
            refine AtIf.mk (fun _ => ?_) (fun h => tf h)
            replace hr := Option.some.inj hr
            subst hr
            exact AtRet.pureG [] [] rfl rfl ⟨rfl, rfl⟩
          · replace hr := cond_f h57 hr
            refine at_mapPutGE ttOK Od.gv 3 Od.gp v36.order a40 c40 2 3 rfl Tryz.underlying3 rfl rfl rfl (fun _ => rfl) rfl rfl rfl ?_
            exact ⟨(n, (mput v36.family (v36.order, a40, c40) g33), (IntKind.i64.wrap (v34 + 1))), (by simpa only [er_mput] using hr), Nat.lt_succ_self _, ⟨rfl, rfl, rfl, rfl, rfl, rfl, trivial⟩, (StLe.gen 1 [] [.old 0, .old 1, .old 2] rfl rfl rfl rfl rfl rfl rfl)⟩
      · replace hr := cond_t h42 hr
        refine AtIf.mk (fun _ => ?_) (fun h => tf h)
        refine AtRet.gen _ (StLe.refl _) rfl rfl ?_
        refine AtIf.mk (fun _ => ?_) (fun h => tf h)
        refine AtRet.gen _ (StLe.refl _) rfl rfl ?_
        refine AtIf.mk (fun _ => ?_) (fun h => tf h)
        replace hr := Option.some.inj hr
        subst hr
        exact AtRet.pureG [] [] rfl rfl ⟨rfl, rfl⟩
    · replace hr := cond_f h35 hr
      refine AtRet.gen _ (StLe.refl _) rfl rfl ?_
      refine AtIf.mk (fun h => ff h) (fun _ => ?_)
      refine AtIf.mk (fun h58 => ?_) (fun h58 => ?_)
      · replace hr := cond_t h58 hr
        refine AtRet.gen _ (StLe.refl _) rfl rfl ?_
        refine AtIf.mk (fun _ => ?_) (fun h => tf h)
        replace hr := Option.some.inj hr
        subst hr
        exact AtRet.pureG [] [] rfl rfl ⟨rfl, rfl⟩
      · replace hr := cond_f h58 hr
        obtain ⟨v59, h60, hr⟩ := bind_some hr
        refine (sign_Family_spec n v1 v5 a2 c2 _ h60).atR [0] rfl rfl rfl ?_
        rintro _ _ ⟨rfl, rfl⟩
        refine AtIf.mk (fun h61 => ?_) (fun h61 => ?_)
        · replace hr := cond_t h61 hr
          refine AtRet.gen _ (StLe.refl _) rfl rfl ?_
          refine AtIf.mk (fun _ => ?_) (fun h => tf h)
          replace hr := Option.some.inj hr
          subst hr
          exact AtRet.pureG [] [] rfl rfl ⟨rfl, rfl⟩
        · replace hr := cond_f h61 hr
          refine AtRet.gen _ (StLe.refl _) rfl rfl ?_
          refine AtIf.mk (fun h => ff h) (fun _ => ?_)
          obtain ⟨v62, h63, hr⟩ := bind_some hr
          refine (order_check_spec n v1 v5 g33 a2 c2 _ h63).frameR [0] [0, 2] rfl rfl rfl rfl rfl rfl rfl rfl ?_
          rintro _ _ ⟨rfl, rfl⟩
          refine ⟨rfl, rfl, [.obj (mapO .i64 (encM Od.gv g33))], rfl, ?_⟩
          replace hr := Option.some.inj hr
          subst hr
          exact AtRet.pureG [] [] rfl rfl ⟨rfl, rfl⟩
def sign_has : Nat → (List Dc) → Int → Option (Int)
  | 0, _, _ => none
  | n + 1, v1, v3 =>
    (sign_Check n v1).bind (fun v4 =>
    cond (v4 != 0) (
    some (v4)) (
    cond ((decide (v3 < 0)) || (decide (v3 ≥ ((Dc.encL v1).length : Int)))) (
    some (6)) (
    some (0))))
theorem sign_has_spec (n : Nat) (v1 : (List Dc)) (v3 : Int) (a2 : Option Addr) (c2 : Nat) (r : Int) (hr : sign_has n v1 v3 = some r) : Pure Tryz.prog (.val (.fn (.func 50) [] [])) [(.v (.slice a2 ((Dc.encL v1).length) c2)), (.v (.int .i64 v3))] [(.slice a2 ((Dc.encL v1).length) c2, .sl 6 (Dc.encL v1))] (fun r' out => r' = (.v (.int .i64 r)) ∧ out = []) := by
  rcases n with _ | n
  · exact no_some hr
  rw [sign_has.eq_2] at hr
  refine spec_of_body (N := 19) (m := 0) (dt := fun _ => none) [] ttOK Tryz.func50 rfl Tryz.call50 Tryz.ntmps50 rfl rfl rfl mixed (by kernel_rfl) ?_
  obtain ⟨v4, h5, hr⟩ := bind_some hr
  refine (sign_Check_spec n v1 a2 c2 _ h5).atR [0] rfl rfl rfl ?_
  rintro _ _ ⟨rfl, rfl⟩
  refine AtIf.mk (fun h6 => ?_) (fun h6 => ?_)
  · replace hr := cond_t h6 hr
    replace hr := Option.some.inj hr
    subst hr
    exact AtRet.pureG [] [] rfl rfl ⟨rfl, rfl⟩
  · replace hr := cond_f h6 hr
    refine AtIf.mk (fun h7 => ?_) (fun h7 => ?_)
    · replace hr := cond_t h7 hr
      replace hr := Option.some.inj hr
      subst hr
      exact AtRet.pureG [] [] rfl rfl ⟨rfl, rfl⟩
    · replace hr := cond_f h7 hr
      replace hr := Option.some.inj hr
      subst hr
      exact AtRet.pureG [] [] rfl rfl ⟨rfl, rfl⟩
def sign_Head : Nat → (List Dc) → Int → Option (Int)
  | 0, _, _ => none
  | n + 1, v1, v3 =>
    (sign_Family n v1 v3).bind (fun v4 =>
    cond v4 (
    some (v3)) (
    (idx v1 v3).bind (fun v7 =>
    (sign_target n v7.cls).bind (fun v12 =>
    some (v12.1)))))
theorem sign_Head_spec (n : Nat) (v1 : (List Dc)) (v3 : Int) (a2 : Option Addr) (c2 : Nat) (r : Int) (hr : sign_Head n v1 v3 = some r) : Pure Tryz.prog (.val (.fn (.func 51) [] [])) [(.v (.slice a2 ((Dc.encL v1).length) c2)), (.v (.int .i64 v3))] [(.slice a2 ((Dc.encL v1).length) c2, .sl 6 (Dc.encL v1))] (fun r' out => r' = (.v (.int .i64 r)) ∧ out = []) := by
  rcases n with _ | n
  · exact no_some hr
  rw [sign_Head.eq_2] at hr
  refine spec_of_body (N := 21) (m := 0) (dt := fun _ => none) [] ttOK Tryz.func51 rfl Tryz.call51 Tryz.ntmps51 rfl rfl rfl mixed (by kernel_rfl) ?_
  obtain ⟨v4, h5, hr⟩ := bind_some hr
  refine (sign_Family_spec n v1 v3 a2 c2 _ h5).atR [0] rfl rfl rfl ?_
  rintro _ _ ⟨rfl, rfl⟩
  refine AtIf.mk (fun h6 => ?_) (fun h6 => ?_)
  · replace hr := cond_t h6 hr
    replace hr := Option.some.inj hr
    subst hr
    exact AtRet.pureG [] [] rfl rfl ⟨rfl, rfl⟩
  · replace hr := cond_f h6 hr
    obtain ⟨v7, h8, hr⟩ := bind_some hr
    obtain ⟨h9, h10⟩ := idx_some h8
    refine at_index ttOK 0 rfl rfl rfl rfl h9 (Dc.encL_get h10) ?_
    intro a11 c11 _ _
    obtain ⟨v12, h13, hr⟩ := bind_some hr
    refine (sign_target_spec n v7.cls a11 c11 _ h13).atR [1] rfl rfl rfl ?_
    rintro _ _ ⟨rfl, rfl⟩
    replace hr := Option.some.inj hr
    subst hr
    exact AtRet.pureG [] [] rfl rfl ⟨rfl, rfl⟩
mutual
def sign_Of : Nat → (List Dc) → Int → Option ((List Int) × Int)
  | 0, _, _ => none
  | n + 1, v1, v3 =>
    (sign_has n v1 v3).bind (fun v4 =>
    cond (v4 != 0) (
    some ([], v4)) (
    (sign_Family n v1 v3).bind (fun v7 =>
    cond (!v7) (
    some ([], 22)) (
    sign_Of_L1 n v1 v3 ([]) 0))))
def sign_Of_L1 : Nat → (List Dc) → Int → (List Int) → Int → Option ((List Int) × Int)
  | 0, _, _, _, _ => none
  | n + 1, v1, v3, v18, v20 =>
    cond (decide (v20 < ((Dc.encL v1).length : Int))) (
    cond (v20 != v3) (
    (sign_Head n v1 v20).bind (fun v23 =>
    cond (v23 == v3) (
    cond (decide ((List.map (D.int .i64) (v18 ++ [v20])).length ≤ 1000000)) (
    sign_Of_L1 n v1 v3 (v18 ++ [v20]) (IntKind.i64.wrap (v20 + 1))) none) (
    sign_Of_L1 n v1 v3 v18 (IntKind.i64.wrap (v20 + 1))))) (
    sign_Of_L1 n v1 v3 v18 (IntKind.i64.wrap (v20 + 1)))) (
    some (v18, 0))
 end
theorem sign_Of_spec (n : Nat) (v1 : (List Dc)) (v3 : Int) (a2 : Option Addr) (c2 : Nat) (r : (List Int) × Int) (hr : sign_Of n v1 v3 = some r) : Pure Tryz.prog (.val (.fn (.func 27) [] [])) [(.v (.slice a2 ((Dc.encL v1).length) c2)), (.v (.int .i64 v3))] [(.slice a2 ((Dc.encL v1).length) c2, .sl 6 (Dc.encL v1))] (fun r' out => ∃ (b1 : Option Addr) (d1 : Nat), r' = (.tup [(.v (.slice b1 ((List.map (D.int .i64) r.1).length) d1)), (.v (.int .i64 r.2))]) ∧ out = [(.slice b1 ((List.map (D.int .i64) r.1).length) d1, .sl 1 (List.map (D.int .i64) r.1))]) := by
  rcases n with _ | n
  · exact no_some hr
  rw [sign_Of.eq_2] at hr
  refine spec_of_body (N := 40) (m := 0) (dt := fun _ => none) [] ttOK Tryz.func27 rfl Tryz.call27 Tryz.ntmps27 rfl rfl rfl mixed (by kernel_rfl) ?_
  obtain ⟨v4, h5, hr⟩ := bind_some hr
  refine (sign_has_spec n v1 v3 a2 c2 _ h5).atR [0] rfl rfl rfl ?_
  rintro _ _ ⟨rfl, rfl⟩
  refine AtIf.mk (fun h6 => ?_) (fun h6 => ?_)
  · replace hr := cond_t h6 hr
    replace hr := Option.some.inj hr
    subst hr
    exact AtRet.pureG [.nil 1] [(.slice none 0 0, .sl 1 [])] rfl rfl ⟨none, 0, rfl, rfl⟩
  · replace hr := cond_f h6 hr
    obtain ⟨v7, h8, hr⟩ := bind_some hr
    refine (sign_Family_spec n v1 v3 a2 c2 _ h8).atR [0] rfl rfl rfl ?_
    rintro _ _ ⟨rfl, rfl⟩
    refine AtIf.mk (fun h9 => ?_) (fun h9 => ?_)
    · replace hr := cond_t h9 hr
      replace hr := Option.some.inj hr
      subst hr
      exact AtRet.pureG [.nil 1] [(.slice none 0 0, .sl 1 [])] rfl rfl ⟨none, 0, rfl, rfl⟩
    · replace hr := cond_f h9 hr
      refine AtLoop.mk ⟨Nat × (List Int) × Option Addr × Nat × Int, fun x => [(0, (.v (.slice a2 ((Dc.encL v1).length) c2))), (1, (.v (.int .i64 v3))), (7, (.v (.slice x.2.2.1 ((List.map (D.int .i64) x.2.1).length) x.2.2.2.1))), (20, (.v (.int .i64 ((Dc.encL v1).length : Int)))), (21, (.v (.int .i64 x.2.2.2.2)))], fun x => ⟨[], [⟨.slice x.2.2.1 ((List.map (D.int .i64) x.2.1).length) x.2.2.2.1, 1, 3, (List.map (D.int .i64) x.2.1)⟩], [(.slice a2 ((Dc.encL v1).length) c2, .sl 6 (Dc.encL v1))]⟩, fun x => sign_Of_L1 x.1 v1 v3 x.2.1 x.2.2.2.2 = some r, fun x => x.1, (n, [], none, 0, 0), hr, ⟨rfl, rfl, rfl, rfl, rfl, trivial⟩, (StLe.gen 0 [.nil 1 3] [.old 0] rfl rfl rfl rfl rfl rfl rfl), fun x _ => ⟨rfl, rfl⟩, ?_⟩
      rintro ⟨n, v18, a19, c19, v20⟩ HH
      have hr : sign_Of_L1 n v1 v3 v18 v20 = some r := HH
      rcases n with _ | n
      · exact no_some hr
      rw [sign_Of_L1.eq_2] at hr
      refine AtIf.mk (fun h21 => ?_) (fun h21 => ?_)
      · replace hr := cond_t h21 hr
        refine AtGuard.mk (fun h22 => ?_) (fun h22 => ?_)
        · replace hr := cond_t h22 hr
          obtain ⟨v23, h24, hr⟩ := bind_some hr
          refine (sign_Head_spec n v1 v20 a2 c2 _ h24).atR [0] rfl rfl rfl ?_
          rintro _ _ ⟨rfl, rfl⟩
          refine AtIf.mk (fun h25 => ?_) (fun h25 => ?_)
          · replace hr := cond_t h25 hr
            refine at_buildG (n := 1) ttOK 8 [.int .i64 v20] (ds' := (List.map (D.int .i64) ([v20]))) rfl (by kernel_rfl) ⟨⟨rfl, rfl, rfl, rfl⟩, trivial⟩ rfl rfl (by decide) (by decide) ?_
            intro a26
            obtain ⟨h27, hr⟩ := cond_need hr
            refine at_appendG (ds' := (List.map (D.int .i64) (v18 ++ [v20]))) ttOK 8 0 1 rfl (by kernel_rfl) rfl rfl rfl rfl (by simp only [List.map_append]) h27 (by decide) ?_
            intro a28 c28
            exact ⟨(n, (v18 ++ [v20]), a28, c28, (IntKind.i64.wrap (v20 + 1))), hr, Nat.lt_succ_self _, ⟨rfl, rfl, rfl, rfl, rfl, trivial⟩, (StLe.gen 0 [.old 0] [.old 0] rfl rfl rfl rfl rfl rfl rfl)⟩
          · replace hr := cond_f h25 hr
            exact ⟨(n, v18, a19, c19, (IntKind.i64.wrap (v20 + 1))), hr, Nat.lt_succ_self _, ⟨rfl, rfl, rfl, rfl, rfl, trivial⟩, (StLe.gen 0 [.old 0] [.old 0] rfl rfl rfl rfl rfl rfl rfl)⟩
        · replace hr := cond_f h22 hr
          refine AtIf.mk (fun h => ff h) (fun _ => ?_)
          exact ⟨(n, v18, a19, c19, (IntKind.i64.wrap (v20 + 1))), hr, Nat.lt_succ_self _, ⟨rfl, rfl, rfl, rfl, rfl, trivial⟩, (StLe.gen 0 [.old 0] [.old 0] rfl rfl rfl rfl rfl rfl rfl)⟩
      · replace hr := cond_f h21 hr
        replace hr := Option.some.inj hr
        subst hr
        exact AtRet.pureG [.froz 0] [(.slice a19 ((List.map (D.int .i64) v18).length) c19, .sl 1 (List.map (D.int .i64) v18))] rfl rfl ⟨a19, c19, rfl, rfl⟩
mutual
def order_All : Nat → (List Dc) → (List Me) → Int → Option (Int × Int × Int)
  | 0, _, _, _ => none
  | n + 1, v1, v3, v5 =>
    (sign_Check n v1).bind (fun v6 =>
    cond (v6 != 0) (
    some (0, 0, 2)) (
    order_All_L1 n v3 v1 v5 ([]) 0))
def order_All_L2 : Nat → ((List Int) × Int) → (List Dc) → (List (Int × Od)) → Int → Option (Int × Int × Int)
  | 0, _, _, _, _ => none
  | n + 1, v58, v1, v32, v70 =>
    cond (decide (v70 < ((List.map (D.int .i64) v58.1).length : Int))) (
    (idx v58.1 v70).bind (fun v72 =>
    (order_check n v1 v72 v32).bind (fun v76 =>
    cond (v76.2 != 0) (
    some (v72, v76.1, v76.2)) (
    order_All_L2 n v58 v1 v32 (IntKind.i64.wrap (v70 + 1)))))) (
    some (0, 0, 0))
def order_All_L1 : Nat → (List Me) → (List Dc) → Int → (List (Int × Od)) → Int → Option (Int × Int × Int)
  | 0, _, _, _, _, _ => none
  | n + 1, v3, v1, v5, v32, v34 =>
    cond (decide (v34 < ((Me.encL v3).length : Int))) (
    (idx v3 v34).bind (fun v36 =>
    cond (((((mget v32 v36.family).isSome) || (decide (((Me.encL v3).length : Int) > 40))) || (decide (v36.family < 0))) || (decide (v36.family ≥ ((Dc.encL v1).length : Int)))) (
    some (0, 0, 2)) (
    (sign_Family n v1 v36.family).bind (fun v43 =>
    cond (!v43) (
    some (0, 0, 2)) (
    (idx v1 v36.family).bind (fun v46 =>
    (term_Domains n v46.cls).bind (fun v51 =>
    (order_isOrder n v36.order ((Tm.encL v51.1).length : Int) 0).bind (fun v55 =>
    cond (!v55) (
    some (0, 0, 2)) (
    order_All_L1 n v3 v1 v5 (mput v36.family v36.order v32) (IntKind.i64.wrap (v34 + 1))))))))))) (
    (sign_Of n v1 v5).bind (fun v58 =>
    cond (v58.2 != 0) (
    some (0, 0, v58.2)) (
    order_All_L2 n v58 v1 v32 0)))
 end
theorem order_All_spec (n : Nat) (v1 : (List Dc)) (v3 : (List Me)) (v5 : Int) (a2 : Option Addr) (c2 : Nat) (a4 : Option Addr) (c4 : Nat) (r : Int × Int × Int) (hr : order_All n v1 v3 v5 = some r) : Pure Tryz.prog (.val (.fn (.func 8) [] [])) [(.v (.slice a2 ((Dc.encL v1).length) c2)), (.v (.slice a4 ((Me.encL v3).length) c4)), (.v (.int .i64 v5))] [(.slice a2 ((Dc.encL v1).length) c2, .sl 6 (Dc.encL v1)), (.slice a4 ((Me.encL v3).length) c4, .sl 4 (Me.encL v3))] (fun r' out => r' = (.tup [(.v (.int .i64 r.1)), (.v (.int .i64 r.2.1)), (.v (.int .i64 r.2.2))]) ∧ out = []) := by
  rcases n with _ | n
  · exact no_some hr
  rw [order_All.eq_2] at hr
  refine spec_of_body (N := 56) (m := 0) (dt := fun _ => none) [] ttOK Tryz.func8 rfl Tryz.call8 Tryz.ntmps8 rfl rfl rfl mixed (by kernel_rfl) ?_
  obtain ⟨v6, h7, hr⟩ := bind_some hr
  refine (sign_Check_spec n v1 a2 c2 _ h7).atR [0] rfl rfl rfl ?_
  rintro _ _ ⟨rfl, rfl⟩
  refine AtIf.mk (fun h8 => ?_) (fun h8 => ?_)
  · replace hr := cond_t h8 hr
    replace hr := Option.some.inj hr
    subst hr
    exact AtRet.pureG [] [] rfl rfl ⟨rfl, rfl⟩
  · replace hr := cond_f h8 hr
    refine spec_of_body (N := 75) (m := 0) (dt := fun _ => none) [] ttOK Tryz.func26 rfl Tryz.call26 Tryz.ntmps26 rfl rfl rfl mixed (by kernel_rfl) ?_
    refine at_makeMapG .i64 Od.gv 3 Od.gp ?_
    refine AtLoop.mk ⟨Nat × (List (Int × GE Od)) × Int, fun x => [(0, (.v (.slice a2 ((Dc.encL v1).length) c2))), (1, (.v (.slice a4 ((Me.encL v3).length) c4))), (6, (.mp 0)), (14, (.v (.slice a4 ((Me.encL v3).length) c4))), (15, (.v (.int .i64 ((Me.encL v3).length : Int)))), (16, (.v (.int .i64 x.2.2)))], fun x => ⟨[.obj (mapO .i64 (encM Od.gv x.2.1))], [], [(.slice a2 ((Dc.encL v1).length) c2, .sl 6 (Dc.encL v1)), (.slice a4 ((Me.encL v3).length) c4, .sl 4 (Me.encL v3)), (agV 3 Od.gp x.2.1, agD 3 Od.gp x.2.1)]⟩, fun x => order_All_L1 x.1 v3 v1 v5 (er x.2.1) x.2.2 = some r, fun x => x.1, (n, ([] : List (Int × GE Od)), 0), hr, ⟨rfl, rfl, rfl, rfl, rfl, rfl, trivial⟩, (StLe.gen 1 [] [.old 0, .old 1, .old 2] rfl rfl rfl rfl rfl rfl rfl), fun x _ => ⟨rfl, rfl⟩, ?_⟩
    rintro ⟨n, g33, v34⟩ HH
    have hr : order_All_L1 n v3 v1 v5 (er g33) v34 = some r := HH
    rcases n with _ | n
    · exact no_some hr
    rw [order_All_L1.eq_2] at hr
    refine AtIf.mk (fun h35 => ?_) (fun h35 => ?_)
    · replace hr := cond_t h35 hr
      obtain ⟨v36, h37, hr⟩ := bind_some hr
      obtain ⟨h38, h39⟩ := idx_some h37
      refine at_index ttOK 1 rfl rfl rfl rfl h38 (Me.encL_get h39) ?_
      intro a40 c40 _ _
      refine at_lookupGE ttOK Od.gv Od.gk 3 Od.gp (Od.mk 0 0 ([])) _ 2 rfl Tryz.underlying3 Tryz.zeroValue27 rfl rfl (fun _ _ _ _ => rfl) (fun _ _ _ _ => rfl) rfl rfl rfl rfl ?_
      intro a41 c41
      refine AtGuard.mk (fun h42 => ?_) (fun h42 => ?_)
      · replace hr := cond_f h42 hr
        obtain ⟨v43, h44, hr⟩ := bind_some hr
        refine (sign_Family_spec n v1 v36.family a2 c2 _ h44).atR [0] rfl rfl rfl ?_
        rintro _ _ ⟨rfl, rfl⟩
        refine AtIf.mk (fun h45 => ?_) (fun h45 => ?_)
        · replace hr := cond_t h45 hr
          refine AtRet.gen _ (StLe.refl _) rfl rfl ?_
          refine AtIf.mk (fun _ => ?_) (fun h => tf h)
          replace hr := Option.some.inj hr
          subst hr
          exact AtRet.pureG [] [] rfl rfl ⟨rfl, rfl⟩
        · replace hr := cond_f h45 hr
          obtain ⟨v46, h47, hr⟩ := bind_some hr
          obtain ⟨h48, h49⟩ := idx_some h47
          refine at_index ttOK 0 rfl rfl rfl rfl h48 (Dc.encL_get h49) ?_
          intro a50 c50 _ _
          obtain ⟨v51, h52, hr⟩ := bind_some hr
          refine (term_Domains_spec n v46.cls a50 c50 _ h52).atR [5] rfl rfl rfl ?_
          rintro _ _ ⟨a53, c53, a54, c54, rfl, rfl⟩
          obtain ⟨v55, h56, hr⟩ := bind_some hr
          refine (order_isOrder_spec n v36.order ((Tm.encL v51.1).length : Int) 0 a40 c40 _ h56).atR [3] rfl rfl rfl ?_
          rintro _ _ ⟨rfl, rfl⟩
          refine AtIf.mk (fun h57 => ?_) (fun h57 => ?_)
          · replace hr := cond_t h57 hr
            refine AtRet.gen _ (StLe.refl _) rfl rfl ?_
            refine AtIf.mk (fun _ => ?_) (fun h => tf h)
            replace hr := Option.some.inj hr
            subst hr
            exact AtRet.pureG [] [] rfl rfl ⟨rfl, rfl⟩
          · replace hr := cond_f h57 hr
            refine at_mapPutGE ttOK Od.gv 3 Od.gp v36.order a40 c40 2 3 rfl Tryz.underlying3 rfl rfl rfl (fun _ => rfl) rfl rfl rfl ?_
            exact ⟨(n, (mput v36.family (v36.order, a40, c40) g33), (IntKind.i64.wrap (v34 + 1))), (by simpa only [er_mput] using hr), Nat.lt_succ_self _, ⟨rfl, rfl, rfl, rfl, rfl, rfl, trivial⟩, (StLe.gen 1 [] [.old 0, .old 1, .old 2] rfl rfl rfl rfl rfl rfl rfl)⟩
      · replace hr := cond_t h42 hr
        refine AtIf.mk (fun _ => ?_) (fun h => tf h)
        refine AtRet.gen _ (StLe.refl _) rfl rfl ?_
        refine AtIf.mk (fun _ => ?_) (fun h => tf h)
        replace hr := Option.some.inj hr
        subst hr
        exact AtRet.pureG [] [] rfl rfl ⟨rfl, rfl⟩
    · replace hr := cond_f h35 hr
      refine AtRet.gen _ (StLe.refl _) rfl rfl ?_
      refine AtIf.mk (fun h => ff h) (fun _ => ?_)
      obtain ⟨v58, h59, hr⟩ := bind_some hr
      refine (sign_Of_spec n v1 v5 a2 c2 _ h59).atR [0] rfl rfl rfl ?_
      rintro _ _ ⟨a60, c60, rfl, rfl⟩
      refine AtIf.mk (fun h61 => ?_) (fun h61 => ?_)
      · replace hr := cond_t h61 hr
        replace hr := Option.some.inj hr
        subst hr
        exact AtRet.pureG [] [] rfl rfl ⟨rfl, rfl⟩
      · replace hr := cond_f h61 hr
        refine AtLoop.mk ⟨Nat × Int, fun x => [(0, (.v (.slice a2 ((Dc.encL v1).length) c2))), (9, (.mp 0)), (37, (.v (.slice a60 ((List.map (D.int .i64) v58.1).length) c60))), (38, (.v (.int .i64 ((List.map (D.int .i64) v58.1).length : Int)))), (39, (.v (.int .i64 x.2)))], fun x => ⟨[.obj (mapO .i64 (encM Od.gv g33))], [], [(.slice a2 ((Dc.encL v1).length) c2, .sl 6 (Dc.encL v1)), (.slice a4 ((Me.encL v3).length) c4, .sl 4 (Me.encL v3)), (agV 3 Od.gp g33, agD 3 Od.gp g33), (.slice a60 ((List.map (D.int .i64) v58.1).length) c60, .sl 1 (List.map (D.int .i64) v58.1))]⟩, fun x => order_All_L2 x.1 v58 v1 (er g33) x.2 = some r, fun x => x.1, (n, 0), hr, ⟨rfl, rfl, rfl, rfl, rfl, trivial⟩, (StLe.gen 1 [] [.old 0, .old 1, .old 2, .old 3] rfl rfl rfl rfl rfl rfl rfl), fun x _ => ⟨rfl, rfl⟩, ?_⟩
        rintro ⟨n, v70⟩ HH
        have hr : order_All_L2 n v58 v1 (er g33) v70 = some r := HH
        rcases n with _ | n
        · exact no_some hr
        rw [order_All_L2.eq_2] at hr
        refine AtIf.mk (fun h71 => ?_) (fun h71 => ?_)
        · replace hr := cond_t h71 hr
          obtain ⟨v72, h73, hr⟩ := bind_some hr
          obtain ⟨h74, h75⟩ := idx_some h73
          refine at_index ttOK 3 rfl rfl rfl rfl h74 (map_get (D.int .i64) h75) ?_
          obtain ⟨v76, h77, hr⟩ := bind_some hr
          refine (order_check_spec n v1 v72 g33 a2 c2 _ h77).frameR [0] [0, 2] rfl rfl rfl rfl rfl rfl rfl rfl ?_
          rintro _ _ ⟨rfl, rfl⟩
          refine ⟨rfl, rfl, [.obj (mapO .i64 (encM Od.gv g33))], rfl, ?_⟩
          refine AtIf.mk (fun h78 => ?_) (fun h78 => ?_)
          · replace hr := cond_t h78 hr
            replace hr := Option.some.inj hr
            subst hr
            exact AtRet.pureG [] [] rfl rfl ⟨rfl, rfl⟩
          · replace hr := cond_f h78 hr
            exact ⟨(n, (IntKind.i64.wrap (v70 + 1))), hr, Nat.lt_succ_self _, ⟨rfl, rfl, rfl, rfl, rfl, trivial⟩, (StLe.gen 1 [] [.old 0, .old 1, .old 2, .old 3] rfl rfl rfl rfl rfl rfl rfl)⟩
        · replace hr := cond_f h71 hr
          replace hr := Option.some.inj hr
          subst hr
          exact AtRet.pureG [] [] rfl rfl ⟨rfl, rfl⟩
mutual
def W15_OrderChecks : Nat → (List Dc) → (List Me) → Int → Option (Bool)
  | 0, _, _, _ => none
  | n + 1, v1, v3, v5 =>
    cond (decide ((0 : Int) ≤ (0 : Int) ∧ (0 : Int) ≤ (if 50 < ((Me.encL v3).length : Int) then 50 else ((Me.encL v3).length : Int)) ∧ (if 50 < ((Me.encL v3).length : Int) then 50 else ((Me.encL v3).length : Int)) ≤ ((Me.encL v3).length : Int))) (
    W15_OrderChecks_L1 n v3 v1 v5 0) none
def W15_OrderChecks_L1 : Nat → (List Me) → (List Dc) → Int → Int → Option (Bool)
  | 0, _, _, _, _ => none
  | n + 1, v3, v1, v5, v17 =>
    cond (decide (v17 < ((Me.encL (v3.take (if 50 < ((Me.encL v3).length : Int) then 50 else ((Me.encL v3).length : Int)).toNat)).length : Int))) (
    (idx (v3.take (if 50 < ((Me.encL v3).length : Int) then 50 else ((Me.encL v3).length : Int)).toNat) v17).bind (fun v19 =>
    (W15_small n v19.order).bind (fun v24 =>
    cond (!v24) (
    some (true)) (
    W15_OrderChecks_L1 n v3 v1 v5 (IntKind.i64.wrap (v17 + 1)))))) (
    (order_Calls n v1 (v3.take (if 50 < ((Me.encL v3).length : Int) then 50 else ((Me.encL v3).length : Int)).toNat) v5).bind (fun v27 =>
    (order_Check n v1 (v3.take (if 50 < ((Me.encL v3).length : Int) then 50 else ((Me.encL v3).length : Int)).toNat) v5).bind (fun v30 =>
    (order_All n v1 (v3.take (if 50 < ((Me.encL v3).length : Int) then 50 else ((Me.encL v3).length : Int)).toNat) v5).bind (fun v32 =>
    (R05_Formed n v1).bind (fun v34 =>
    cond (!v34) (
    cond (((((((((List.map (D.int .i64) v27.1).length : Int) == 0) && (v27.2 == 2)) && (v30.1 == 0)) && (v30.2 == 2)) && (v32.1 == 0)) && (v32.2.1 == 0)) && (v32.2.2 == 2)) (
    some (true)) (
    some (false))) (
    (R15_Measures n v1 (v3.take (if 50 < ((Me.encL v3).length : Int) then 50 else ((Me.encL v3).length : Int)).toNat)).bind (fun v37 =>
    cond (!v37) (
    cond (((((((((List.map (D.int .i64) v27.1).length : Int) == 0) && (v27.2 == 2)) && (v30.1 == 0)) && (v30.2 == 2)) && (v32.1 == 0)) && (v32.2.1 == 0)) && (v32.2.2 == 2)) (
    some (true)) (
    some (false))) (
    (W15_valid n v1).bind (fun v41 =>
    cond (!v41) (
    some (true)) (
    (R05_Has n v1 v5).bind (fun v44 =>
    cond (!v44) (
    cond (((((((((List.map (D.int .i64) v27.1).length : Int) == 0) && (v27.2 == 6)) && (v30.1 == 0)) && (v30.2 == 6)) && (v32.1 == 0)) && (v32.2.1 == 0)) && (v32.2.2 == 6)) (
    some (true)) (
    some (false))) (
    (R05_IsFamily n v1 v5).bind (fun v48 =>
    cond v48 (
    (R15_All n v1 (v3.take (if 50 < ((Me.encL v3).length : Int) then 50 else ((Me.encL v3).length : Int)).toNat) v5).bind (fun v51 =>
    cond ((((((List.map (D.int .i64) v27.1).length : Int) != 0) || (v27.2 != 22)) || (v30.1 != 0)) || (v30.2 != 22)) (
    some (false)) (
    cond (((v32.1 == v51.1) && (v32.2.1 == v51.2.1)) && ((v51.2.2 && (v32.2.2 == 32)) || ((!v51.2.2) && (v32.2.2 == 0)))) (
    some (true)) (
    some (false))))) (
    (R15_Check n v1 (v3.take (if 50 < ((Me.encL v3).length : Int) then 50 else ((Me.encL v3).length : Int)).toNat) v5).bind (fun v55 =>
    cond ((((v32.1 != 0) || (v32.2.1 != 0)) || (v32.2.2 != 22)) || (v27.2 != 0)) (
    some (false)) (
    (R15_Calls n v1 (v3.take (if 50 < ((Me.encL v3).length : Int) then 50 else ((Me.encL v3).length : Int)).toNat) v5).bind (fun v58 =>
    (W15_ints n v27.1 v58).bind (fun v61 =>
    cond (!v61) (
    some (false)) (
    cond ((((decide (v55 < 0)) && (v30.1 == 0)) && (v30.2 == 0)) || (((decide (v55 ≥ 0)) && (v30.1 == v55)) && (v30.2 == 32))) (
    some (true)) (
    some (false)))))))))))))))))))))
 end
theorem W15_OrderChecks_spec (n : Nat) (v1 : (List Dc)) (v3 : (List Me)) (v5 : Int) (a2 : Option Addr) (c2 : Nat) (a4 : Option Addr) (c4 : Nat) (r : Bool) (hr : W15_OrderChecks n v1 v3 v5 = some r) : Pure Tryz.prog (.val (.fn (.func 3) [] [])) [(.v (.slice a2 ((Dc.encL v1).length) c2)), (.v (.slice a4 ((Me.encL v3).length) c4)), (.v (.int .i64 v5))] [(.slice a2 ((Dc.encL v1).length) c2, .sl 6 (Dc.encL v1)), (.slice a4 ((Me.encL v3).length) c4, .sl 4 (Me.encL v3))] (fun r' out => r' = (.v (.bool r)) ∧ out = []) := by
  rcases n with _ | n
  · exact no_some hr
  rw [W15_OrderChecks.eq_2] at hr
  refine spec_of_body (N := 243) (m := 0) (dt := fun _ => none) [] ttOK Tryz.func3 rfl Tryz.call3 Tryz.ntmps3 rfl rfl rfl mixed (by kernel_rfl) ?_
  refine at_min ?_
  obtain ⟨h6, hr⟩ := cond_need hr
  refine at_sliceG ttOK 1 0 (if 50 < ((Me.encL v3).length : Int) then 50 else ((Me.encL v3).length : Int)) (ds' := (Me.encL (v3.take (if 50 < ((Me.encL v3).length : Int) then 50 else ((Me.encL v3).length : Int)).toNat))) rfl rfl rfl (.inr ⟨rfl, rfl⟩) (.inl ⟨_, rfl⟩) h6 (by simp only [Me.encL_eq]; exact sl_h ..) ?_
  intro a7 c7
  refine AtLoop.mk ⟨Nat × Int, fun x => [(0, (.v (.slice a2 ((Dc.encL v1).length) c2))), (2, (.v (.int .i64 v5))), (7, (.v (.slice a7 ((Me.encL (v3.take (if 50 < ((Me.encL v3).length : Int) then 50 else ((Me.encL v3).length : Int)).toNat)).length) c7))), (8, (.v (.int .i64 x.2)))], fun x => ⟨[], [], [(.slice a2 ((Dc.encL v1).length) c2, .sl 6 (Dc.encL v1)), (.slice a4 ((Me.encL v3).length) c4, .sl 4 (Me.encL v3)), (.slice a7 ((Me.encL (v3.take (if 50 < ((Me.encL v3).length : Int) then 50 else ((Me.encL v3).length : Int)).toNat)).length) c7, .sl 4 (Me.encL (v3.take (if 50 < ((Me.encL v3).length : Int) then 50 else ((Me.encL v3).length : Int)).toNat)))]⟩, fun x => W15_OrderChecks_L1 x.1 v3 v1 v5 x.2 = some r, fun x => x.1, (n, 0), hr, ⟨rfl, rfl, rfl, rfl, trivial⟩, (StLe.gen 0 [] [.old 0, .old 1, .old 2] rfl rfl rfl rfl rfl rfl rfl), fun x _ => ⟨rfl, rfl⟩, ?_⟩
  rintro ⟨n, v17⟩ HH
  have hr : W15_OrderChecks_L1 n v3 v1 v5 v17 = some r := HH
  rcases n with _ | n
  · exact no_some hr
  rw [W15_OrderChecks_L1.eq_2] at hr
  refine AtIf.mk (fun h18 => ?_) (fun h18 => ?_)
  · replace hr := cond_t h18 hr
    obtain ⟨v19, h20, hr⟩ := bind_some hr
    obtain ⟨h21, h22⟩ := idx_some h20
    refine at_index ttOK 2 rfl rfl rfl rfl h21 (Me.encL_get h22) ?_
    intro a23 c23 _ _
    obtain ⟨v24, h25, hr⟩ := bind_some hr
    refine (W15_small_spec n v19.order a23 c23 _ h25).atR [3] rfl rfl rfl ?_
    rintro _ _ ⟨rfl, rfl⟩
    refine AtIf.mk (fun h26 => ?_) (fun h26 => ?_)
    · replace hr := cond_t h26 hr
      refine (awake_spec ).atR [] rfl rfl rfl ?_
      rintro _ _ ⟨rfl, rfl⟩
      replace hr := Option.some.inj hr
      subst hr
      exact AtRet.pureG [] [] rfl rfl ⟨rfl, rfl⟩
    · replace hr := cond_f h26 hr
      exact ⟨(n, (IntKind.i64.wrap (v17 + 1))), hr, Nat.lt_succ_self _, ⟨rfl, rfl, rfl, rfl, trivial⟩, (StLe.gen 0 [] [.old 0, .old 1, .old 2] rfl rfl rfl rfl rfl rfl rfl)⟩
  · replace hr := cond_f h18 hr
    obtain ⟨v27, h28, hr⟩ := bind_some hr
    refine (order_Calls_spec n v1 (v3.take (if 50 < ((Me.encL v3).length : Int) then 50 else ((Me.encL v3).length : Int)).toNat) v5 a2 c2 a7 c7 _ h28).atR [0, 2] rfl rfl rfl ?_
    rintro _ _ ⟨a29, c29, rfl, rfl⟩
    obtain ⟨v30, h31, hr⟩ := bind_some hr
    refine (order_Check_spec n v1 (v3.take (if 50 < ((Me.encL v3).length : Int) then 50 else ((Me.encL v3).length : Int)).toNat) v5 a2 c2 a7 c7 _ h31).atR [0, 2] rfl rfl rfl ?_
    rintro _ _ ⟨rfl, rfl⟩
    obtain ⟨v32, h33, hr⟩ := bind_some hr
    refine (order_All_spec n v1 (v3.take (if 50 < ((Me.encL v3).length : Int) then 50 else ((Me.encL v3).length : Int)).toNat) v5 a2 c2 a7 c7 _ h33).atR [0, 2] rfl rfl rfl ?_
    rintro _ _ ⟨rfl, rfl⟩
    obtain ⟨v34, h35, hr⟩ := bind_some hr
    refine (R05_Formed_spec n v1 a2 c2 _ h35).atR [0] rfl rfl rfl ?_
    rintro _ _ ⟨rfl, rfl⟩
    refine AtGuard.mk (fun h36 => ?_) (fun h36 => ?_)
    · replace hr := cond_f h36 hr
      obtain ⟨v37, h38, hr⟩ := bind_some hr
      refine (R15_Measures_spec n v1 (v3.take (if 50 < ((Me.encL v3).length : Int) then 50 else ((Me.encL v3).length : Int)).toNat) a2 c2 a7 c7 _ h38).atR [0, 2] rfl rfl rfl ?_
      rintro _ _ ⟨rfl, rfl⟩
      refine AtIf.mk (fun h39 => ?_) (fun h39 => ?_)
      · replace hr := cond_t h39 hr
        refine AtGuard.mk (fun h40 => ?_) (fun h40 => ?_)
        · replace hr := cond_t h40 hr
          refine (awake_spec ).atR [] rfl rfl rfl ?_
          rintro _ _ ⟨rfl, rfl⟩
          replace hr := Option.some.inj hr
          subst hr
          exact AtRet.pureG [] [] rfl rfl ⟨rfl, rfl⟩
        · replace hr := cond_f h40 hr
          replace hr := Option.some.inj hr
          subst hr
          exact AtRet.pureG [] [] rfl rfl ⟨rfl, rfl⟩
      · replace hr := cond_f h39 hr
        obtain ⟨v41, h42, hr⟩ := bind_some hr
        refine (W15_valid_spec n v1 a2 c2 _ h42).atR [0] rfl rfl rfl ?_
        rintro _ _ ⟨rfl, rfl⟩
        refine AtIf.mk (fun h43 => ?_) (fun h43 => ?_)
        · replace hr := cond_t h43 hr
          refine (awake_spec ).atR [] rfl rfl rfl ?_
          rintro _ _ ⟨rfl, rfl⟩
          replace hr := Option.some.inj hr
          subst hr
          exact AtRet.pureG [] [] rfl rfl ⟨rfl, rfl⟩
        · replace hr := cond_f h43 hr
          obtain ⟨v44, h45, hr⟩ := bind_some hr
          refine (R05_Has_spec n v1 v5 a2 c2 _ h45).atR [0] rfl rfl rfl ?_
          rintro _ _ ⟨rfl, rfl⟩
          refine AtIf.mk (fun h46 => ?_) (fun h46 => ?_)
          · replace hr := cond_t h46 hr
            refine AtGuard.mk (fun h47 => ?_) (fun h47 => ?_)
            · replace hr := cond_t h47 hr
              refine (awake_spec ).atR [] rfl rfl rfl ?_
              rintro _ _ ⟨rfl, rfl⟩
              replace hr := Option.some.inj hr
              subst hr
              exact AtRet.pureG [] [] rfl rfl ⟨rfl, rfl⟩
            · replace hr := cond_f h47 hr
              replace hr := Option.some.inj hr
              subst hr
              exact AtRet.pureG [] [] rfl rfl ⟨rfl, rfl⟩
          · replace hr := cond_f h46 hr
            obtain ⟨v48, h49, hr⟩ := bind_some hr
            refine (R05_IsFamily_spec n v1 v5 a2 c2 _ h49).atR [0] rfl rfl rfl ?_
            rintro _ _ ⟨rfl, rfl⟩
            refine AtIf.mk (fun h50 => ?_) (fun h50 => ?_)
            · replace hr := cond_t h50 hr
              obtain ⟨v51, h52, hr⟩ := bind_some hr
              refine (R15_All_spec n v1 (v3.take (if 50 < ((Me.encL v3).length : Int) then 50 else ((Me.encL v3).length : Int)).toNat) v5 a2 c2 a7 c7 _ h52).atR [0, 2] rfl rfl rfl ?_
              rintro _ _ ⟨rfl, rfl⟩
              refine AtIf.mk (fun h53 => ?_) (fun h53 => ?_)
              · replace hr := cond_t h53 hr
                replace hr := Option.some.inj hr
                subst hr
                exact AtRet.pureG [] [] rfl rfl ⟨rfl, rfl⟩
              · replace hr := cond_f h53 hr
                refine AtGuard.mk (fun h54 => ?_) (fun h54 => ?_)
                · replace hr := cond_t h54 hr
                  refine (awake_spec ).atR [] rfl rfl rfl ?_
                  rintro _ _ ⟨rfl, rfl⟩
                  replace hr := Option.some.inj hr
                  subst hr
                  exact AtRet.pureG [] [] rfl rfl ⟨rfl, rfl⟩
                · replace hr := cond_f h54 hr
                  replace hr := Option.some.inj hr
                  subst hr
                  exact AtRet.pureG [] [] rfl rfl ⟨rfl, rfl⟩
            · replace hr := cond_f h50 hr
              obtain ⟨v55, h56, hr⟩ := bind_some hr
              refine (R15_Check_spec n v1 (v3.take (if 50 < ((Me.encL v3).length : Int) then 50 else ((Me.encL v3).length : Int)).toNat) v5 a2 c2 a7 c7 _ h56).atR [0, 2] rfl rfl rfl ?_
              rintro _ _ ⟨rfl, rfl⟩
              refine AtGuard.mk (fun h57 => ?_) (fun h57 => ?_)
              · replace hr := cond_f h57 hr
                obtain ⟨v58, h59, hr⟩ := bind_some hr
                refine (R15_Calls_spec n v1 (v3.take (if 50 < ((Me.encL v3).length : Int) then 50 else ((Me.encL v3).length : Int)).toNat) v5 a2 c2 a7 c7 _ h59).atR [0, 2] rfl rfl rfl ?_
                rintro _ _ ⟨a60, c60, rfl, rfl⟩
                obtain ⟨v61, h62, hr⟩ := bind_some hr
                refine (W15_ints_spec n v27.1 v58 a29 c29 a60 c60 _ h62).atR [3, 4] rfl rfl rfl ?_
                rintro _ _ ⟨rfl, rfl⟩
                refine AtIf.mk (fun h63 => ?_) (fun h63 => ?_)
                · replace hr := cond_t h63 hr
                  replace hr := Option.some.inj hr
                  subst hr
                  exact AtRet.pureG [] [] rfl rfl ⟨rfl, rfl⟩
                · replace hr := cond_f h63 hr
                  refine AtGuard.mk (fun h64 => ?_) (fun h64 => ?_)
                  · replace hr := cond_t h64 hr
                    refine (awake_spec ).atR [] rfl rfl rfl ?_
                    rintro _ _ ⟨rfl, rfl⟩
                    replace hr := Option.some.inj hr
                    subst hr
                    exact AtRet.pureG [] [] rfl rfl ⟨rfl, rfl⟩
                  · replace hr := cond_f h64 hr
                    replace hr := Option.some.inj hr
                    subst hr
                    exact AtRet.pureG [] [] rfl rfl ⟨rfl, rfl⟩
              · replace hr := cond_t h57 hr
                refine AtIf.mk (fun _ => ?_) (fun h => tf h)
                replace hr := Option.some.inj hr
                subst hr
                exact AtRet.pureG [] [] rfl rfl ⟨rfl, rfl⟩
    · replace hr := cond_t h36 hr
      refine AtIf.mk (fun _ => ?_) (fun h => tf h)
      refine AtGuard.mk (fun h65 => ?_) (fun h65 => ?_)
      · replace hr := cond_t h65 hr
        refine (awake_spec ).atR [] rfl rfl rfl ?_
        rintro _ _ ⟨rfl, rfl⟩
        replace hr := Option.some.inj hr
        subst hr
        exact AtRet.pureG [] [] rfl rfl ⟨rfl, rfl⟩
      · replace hr := cond_f h65 hr
        replace hr := Option.some.inj hr
        subst hr
        exact AtRet.pureG [] [] rfl rfl ⟨rfl, rfl⟩
end Go.Proofs.YtpibdcjdamibdaaGreat
end

/-! EvA -/
section
namespace Go.Proofs.YtpibdcjdamibdaaGreat
open Go.Tr Go
set_option linter.unusedVariables false

theorem wrapS {i : Nat} (h : i < 2000000000000000000) : IntKind.i64.wrap ((i : Int) + 1) = ((i + 1 : Nat) : Int) := by
  rw [wrap_i64 (by omega) (by omega)]; omega

/-- f yields something, given fuel enough. -/
def Tot {α : Type} (f : Nat → Option α) : Prop := ∃ r, Ev f r
theorem Ev.tot {α : Type} {f : Nat → Option α} {r : α} (h : Ev f r) : Tot f := ⟨r, h⟩
/-- f yields something of which p holds. -/
def Yields {α : Type} (f : Nat → Option α) (p : α → Prop) : Prop := ∃ r, Ev f r ∧ p r
theorem Yields.succ {α : Type} {f g : Nat → Option α} {p : α → Prop} (hf : ∀ n, f (n + 1) = g n) (h : Yields g p) : Yields f p := by
  obtain ⟨r, h1, h2⟩ := h; exact ⟨r, h1.succ hf, h2⟩
theorem Yields.bind {α β : Type} {f : Nat → Option α} {g : Nat → α → Option β} {q : α → Prop} {p : β → Prop} (h : Yields f q) (k : ∀ x, q x → Yields (fun n => g n x) p) : Yields (fun n => (f n).bind (g n)) p := by
  obtain ⟨x, h1, h2⟩ := h
  obtain ⟨r, h3, h4⟩ := k x h2
  exact ⟨r, h1.bind h3, h4⟩
theorem Yields.pure {α : Type} {p : α → Prop} {r : α} (h : p r) : Yields (fun _ => some r) p := ⟨r, Ev.pure r, h⟩
theorem Yields.ite {α : Type} {b : Bool} {f g : Nat → Option α} {p : α → Prop} (h : b = true → Yields f p) (k : b = false → Yields g p) : Yields (fun n => cond b (f n) (g n)) p := by
  cases b with
  | true => exact h rfl
  | false => exact k rfl
theorem Yields.need {α : Type} {b : Bool} {f : Nat → Option α} {p : α → Prop} (hb : b = true) (h : Yields f p) : Yields (fun n => cond b (f n) none) p := by
  subst hb; exact h
theorem Yields.some {α β : Type} {o : Option α} {x : α} {g : Nat → α → Option β} {p : β → Prop} (ho : o = Option.some x) (k : Yields (fun n => g n x) p) : Yields (fun n => o.bind (g n)) p := by
  subst ho; exact k
theorem Yields.mono {α : Type} {f : Nat → Option α} {p q : α → Prop} (h : Yields f p) (k : ∀ r, p r → q r) : Yields f q := by
  obtain ⟨r, h1, h2⟩ := h; exact ⟨r, h1, k r h2⟩
theorem Ev.yields {α : Type} {f : Nat → Option α} {r : α} {p : α → Prop} (h : Ev f r) (hp : p r) : Yields f p := ⟨r, h, hp⟩
theorem Yields.ev {α : Type} {f : Nat → Option α} {r : α} (h : Yields f (· = r)) : Ev f r := by
  obtain ⟨r', h1, rfl⟩ := h; exact h1
theorem Ev.is {α : Type} {f : Nat → Option α} {r : α} (h : Ev f r) : Yields f (· = r) := ⟨r, h, rfl⟩

theorem Ev.some {α β : Type} {o : Option α} {x : α} {g : Nat → α → Option β} {r : β} (ho : o = Option.some x) (k : Ev (fun n => g n x) r) : Ev (fun n => o.bind (g n)) r := by
  subst ho; exact k
theorem Ev.need {α : Type} {b : Bool} {f : Nat → Option α} {r : α} (hb : b = true) (h : Ev f r) : Ev (fun n => cond b (f n) none) r := by
  subst hb; exact h

theorem idx_get {α : Type} {l : List α} {i : Nat} {x : α} (h : l[i]? = Option.some x) : idx l (i : Int) = Option.some x := by rw [idx_nat, h]
theorem idx_get0 {α : Type} {x : α} {l : List α} : idx (x :: l) 0 = Option.some x := rfl
theorem idx_get1 {α : Type} {x y : α} {l : List α} : idx (x :: y :: l) 1 = Option.some y := rfl

end Go.Proofs.YtpibdcjdamibdaaGreat
end

/-! EvB -/
section
namespace Go.Proofs.YtpibdcjdamibdaaGreat
open Go.Tr Go
set_option linter.unusedVariables false
set_option maxRecDepth 10000

theorem okAll_two {t : Tm} (h : okAll t = true) (ho : t.op = 2) : ∃ a b, t.args = [a, b] ∧ okAll a = true ∧ okAll b = true ∧ a.height + 1 ≤ t.height ∧ b.height + 1 ≤ t.height ∧ a.count + b.count + 1 = t.count := by
  cases t with
  | mk o hd n us =>
    simp only [Tm.op] at ho
    subst ho
    simp only [okAll, okNode, Bool.and_eq_true] at h
    have h1 : us.length = 2 := by have := h.1; simp at this; exact this.2
    match us, h1 with
    | [a, b], _ =>
      simp only [okAllL, Bool.and_eq_true] at h
      refine ⟨a, b, rfl, h.2.1, h.2.2.1, ?_, ?_, ?_⟩
      · simp only [Tm.height, Tm.heightL]; omega
      · simp only [Tm.height, Tm.heightL]; omega
      · simp only [Tm.count, Tm.countL]; omega

theorem okAll_one {t : Tm} (h : okAll t = true) (ho : t.op = 3) : ∃ a, t.args = [a] ∧ okAll a = true ∧ a.height + 1 ≤ t.height ∧ a.count + 1 = t.count := by
  cases t with
  | mk o hd n us =>
    simp only [Tm.op] at ho
    subst ho
    simp only [okAll, okNode, Bool.and_eq_true] at h
    have h1 : us.length = 1 := by have := h.1; simp at this; exact this.2
    match us, h1 with
    | [a], _ =>
      simp only [okAllL, Bool.and_eq_true] at h
      refine ⟨a, rfl, h.2.1, ?_, ?_⟩
      · simp only [Tm.height, Tm.heightL]; omega
      · simp only [Tm.count, Tm.countL]

/-- The domains of the outermost TPis, behind some that were there, and what is within. -/
def spl : Nat → Tm → List Tm → List Tm × Tm
  | 0, t, l => (l, t)
  | n + 1, t, l => if t.op = 2 then match t.args with
    | a :: b :: _ => spl n b (l ++ [a])
    | _ => (l, t)
    else (l, t)
def split (t : Tm) : List Tm × Tm := spl t.height t []

theorem spl_more : ∀ (n m : Nat) (t : Tm) (l : List Tm), okAll t = true → t.height ≤ n → t.height ≤ m → spl n t l = spl m t l
  | 0, m, t, l, hok, hn, _ => by have := Tm.height_pos t; omega
  | n + 1, 0, t, l, hok, _, hm => by have := Tm.height_pos t; omega
  | n + 1, m + 1, t, l, hok, hn, hm => by
    simp only [spl]
    by_cases h : t.op = 2
    · rw [if_pos h, if_pos h]
      obtain ⟨a, b, e, _, hb, _, hh, _⟩ := okAll_two hok h
      rw [e]
      exact spl_more n m b _ hb (by omega) (by omega)
    · rw [if_neg h, if_neg h]

theorem spl_rest : ∀ (n : Nat) (t : Tm) (l : List Tm), okAll t = true → t.height ≤ n → (spl n t l).2.op ≠ 2 ∧ okAll (spl n t l).2 = true ∧ (spl n t l).2.count ≤ t.count ∧ (spl n t l).2.height ≤ t.height ∧ (spl n t l).1.length + (spl n t l).2.height ≤ l.length + t.height
  | 0, t, l, hok, hn => by have := Tm.height_pos t; omega
  | n + 1, t, l, hok, hn => by
    simp only [spl]
    by_cases h : t.op = 2
    · rw [if_pos h]
      obtain ⟨a, b, e, _, hb, _, hh, hc⟩ := okAll_two hok h
      simp only [e]
      have := spl_rest n b (l ++ [a]) hb (by omega)
      simp only [List.length_append, List.length_cons, List.length_nil] at this
      exact ⟨this.1, this.2.1, by omega, by omega, by omega⟩
    · rw [if_neg h]
      exact ⟨h, hok, Nat.le_refl _, Nat.le_refl _, Nat.le_refl _⟩

theorem Tm.length_le_countL : ∀ (us : List Tm), us.length ≤ Tm.countL us
  | [] => Nat.le_refl _
  | u :: us => by have := Tm.length_le_countL us; have := Tm.count_pos u; simp only [List.length_cons, Tm.countL]; omega

theorem beqI {a b : Int} (h : a = b) : (a == b) = true := by simp [h]
theorem beqI' {a b : Int} (h : a ≠ b) : (a == b) = false := by simp [h]
theorem bneI {a b : Int} (h : a ≠ b) : (a != b) = true := by simp [h]
theorem bneI' {a b : Int} (h : a = b) : (a != b) = false := by simp [h]

theorem split_evL : ∀ (n : Nat) (t : Tm) (l : List Tm), okAll t = true → t.height ≤ n → l.length + t.height ≤ 1000000 → Ev (fun k => R03_Split_L1 k t l) (spl n t l)
  | 0, t, l, hok, hn, _ => by have := Tm.height_pos t; omega
  | n + 1, t, l, hok, hn, hl => by
    refine Ev.succ (fun k => R03_Split_L1.eq_2 ..) ?_
    simp only [spl]
    by_cases h : t.op = 2
    · obtain ⟨a, b, e, _, hb, _, hh, _⟩ := okAll_two hok h
      rw [if_pos h, e]
      refine Ev.t (beqI h) ?_
      refine Ev.some idx_get0 ?_
      refine Ev.need (by simp [Tm.encL_length]; omega) ?_
      refine Ev.some idx_get1 ?_
      exact split_evL n b _ hb (by omega) (by simp; omega)
    · rw [if_neg h]
      refine Ev.f (beqI' h) ?_
      exact Ev.pure _

theorem split_ev {t : Tm} (hok : okAll t = true) (hh : t.height ≤ 1000000) : Ev (fun k => R03_Split k t) (split t) := by
  refine Ev.succ (fun k => R03_Split.eq_2 ..) ?_
  exact split_evL t.height t [] hok (Nat.le_refl _) (by simpa using hh)

theorem domains_evL : ∀ (n : Nat) (t : Tm) (l : List Tm), okAll t = true → t.height ≤ n → l.length + t.height ≤ 1000000 → Ev (fun k => term_Domains_L1 k t l) (spl n t l)
  | 0, t, l, hok, hn, _ => by have := Tm.height_pos t; omega
  | n + 1, t, l, hok, hn, hl => by
    refine Ev.succ (fun k => term_Domains_L1.eq_2 ..) ?_
    simp only [spl]
    by_cases h : t.op = 2
    · obtain ⟨a, b, e, _, hb, _, hh, _⟩ := okAll_two hok h
      rw [if_pos h, e]
      refine Ev.t (beqI h) ?_
      refine Ev.some idx_get0 ?_
      refine Ev.need (by simp [Tm.encL_length]; omega) ?_
      refine Ev.some idx_get1 ?_
      exact domains_evL n b _ hb (by omega) (by simp; omega)
    · rw [if_neg h]
      refine Ev.f (beqI' h) ?_
      exact Ev.pure _

theorem domains_ev {t : Tm} (hok : okAll t = true) (hh : t.height ≤ 1000000) : Ev (fun k => term_Domains k t) (split t) := by
  refine Ev.succ (fun k => term_Domains.eq_2 ..) ?_
  exact domains_evL t.height t [] hok (Nat.le_refl _) (by simpa using hh)

def kindT (t : Tm) : Bool := (split t).2.op == 1

theorem kind_ev {t : Tm} (hok : okAll t = true) (hh : t.height ≤ 1000000) : Ev (fun k => sign_kind k t) (kindT t) := by
  refine Ev.succ (fun k => sign_kind.eq_2 ..) ?_
  exact (domains_ev hok hh).bind (Ev.pure _)

theorem target_ev {t : Tm} (hok : okAll t = true) (hh : t.height ≤ 1000000) : Ev (fun k => sign_target k t) ((split t).2.n, ((split t).2.op == 4) && ((split t).2.hd == 2)) := by
  refine Ev.succ (fun k => sign_target.eq_2 ..) ?_
  exact (domains_ev hok hh).bind (Ev.pure _)

theorem family_ev {sig : List Dc} {n : Int} {d : Dc} (hd : idx sig n = some d) (hok : okAll d.cls = true) (hh : d.cls.height ≤ 1000000) : Ev (fun k => R05_family k sig n) (kindT d.cls) := by
  refine Ev.succ (fun k => R05_family.eq_2 ..) ?_
  refine Ev.some hd ?_
  exact (split_ev hok hh).bind (Ev.pure _)

theorem isFamily_ev {sig : List Dc} {n : Int} {d : Dc} (hd : idx sig n = some d) (hok : okAll d.cls = true) (hh : d.cls.height ≤ 1000000) : Ev (fun k => R05_IsFamily k sig n) (kindT d.cls) := by
  refine Ev.succ (fun k => R05_IsFamily.eq_2 ..) ?_
  exact (family_ev hd hok hh).bind (Ev.pure _)

theorem signFamily_ev {sig : List Dc} {n : Int} {d : Dc} (hd : idx sig n = some d) (hok : okAll d.cls = true) (hh : d.cls.height ≤ 1000000) : Ev (fun k => sign_Family k sig n) (kindT d.cls) := by
  refine Ev.succ (fun k => sign_Family.eq_2 ..) ?_
  refine Ev.some hd ?_
  exact (kind_ev hok hh).bind (Ev.pure _)

/-! what stands at the nodes -/
def nodeB (o h n k : Int) (m : Nat) : Bool := (o != 4) || (((h != 3) && ((h != 1) || decide (n < k))) && ((h != 2) || decide (n < (m : Int))))
mutual
def nodesB (m : Nat) : Tm → Int → Bool
  | .mk o h n us, k => nodeB o h n k m && nodesBL m o us 0 k
def nodesBL (m : Nat) : Int → List Tm → Nat → Int → Bool
  | _, [], _, _ => true
  | o, u :: us, i, k => nodesB m u (k + under o i) && nodesBL m o us (i + 1) k
 end

theorem under_ev (t : Tm) (i : Int) : Ev (fun k => term_Under k t i) (under t.op i) := by
  refine Ev.succ (fun k => term_Under.eq_2 ..) ?_
  by_cases h : t.op = 3 ∨ t.op = 2 ∧ i = 1
  · rw [under, if_pos h]
    exact Ev.t (by simpa using h) (Ev.pure _)
  · rw [under, if_neg h]
    exact Ev.f (by simpa using h) (Ev.pure _)

mutual
theorem each_ev (sig : List Dc) : ∀ (t : Tm) (k : Int) (b : Bool), 0 ≤ k → k + t.height ≤ 1000000 → t.count ≤ 1000000 → Ev (fun n => term_Each_sign_formed_1 n t k b sig) (b && nodesB sig.length t k)
  | .mk o h n us, k, b, hk0, hk1, hc => by
    refine Ev.succ (fun n => term_Each_sign_formed_1.eq_2 ..) ?_
    have h1 : Ev (fun q => sign_formed_1 q (.mk o h n us) k b sig) (b && nodeB o h n k sig.length) := by
      refine Ev.succ (fun n => sign_formed_1.eq_2 ..) ?_
      refine Ev.ite (fun h1 => ?_) (fun h1 => ?_)
      · have h1 : o ≠ 4 := by simpa [Tm.op] using h1
        refine (Ev.pure b).eq ?_
        simp [nodeB, h1]
      · have h1 : o = 4 := by simpa [Tm.op] using h1
        refine (Ev.pure _).eq ?_
        simp only [nodeB, h1, Tm.hd, Tm.n, Dc.encL_length]
        cases b with
        | false => simp
        | true => simp; rfl
    refine h1.bind ?_
    have hl := each_evL sig o h n us (by have := Tm.length_le_countL us; rw [Tm.count_eq] at hc; simp only [Tm.args] at hc; omega) us k (b && nodeB o h n k sig.length) 0 rfl hk0 (by rw [Tm.height_eq] at hk1; simp only [Tm.args] at hk1; omega) (by rw [Tm.count_eq] at hc; simp only [Tm.args] at hc; omega) (by simp)
    refine hl.eq ?_
    simp only [nodesB, Bool.and_assoc]
theorem each_evL (sig : List Dc) (o h n : Int) (us : List Tm) (hus : us.length ≤ 1000000) : ∀ (ts : List Tm) (k : Int) (b : Bool) (i : Nat), us.drop i = ts → 0 ≤ k → k + 1 + Tm.heightL ts ≤ 1000000 → Tm.countL ts ≤ 1000000 → i + ts.length = us.length → Ev (fun q => term_Each_sign_formed_1_L1 q (.mk o h n us) k sig b (i : Int)) (b && nodesBL sig.length o ts i k)
  | [], k, b, i, hd, hk0, hk1, hc, hi => by
    refine Ev.succ (fun n => term_Each_sign_formed_1_L1.eq_2 ..) ?_
    simp only [List.length_nil, Nat.add_zero] at hi
    refine Ev.f (by simp [Tm.encL_length, Tm.args, hi]) ?_
    refine (Ev.pure b).eq ?_
    simp [nodesBL]
  | u :: ts, k, b, i, hd, hk0, hk1, hc, hi => by
    refine Ev.succ (fun n => term_Each_sign_formed_1_L1.eq_2 ..) ?_
    simp only [List.length_cons] at hi
    have hu : us[i]? = some u := by
      have := congrArg (fun l => l[0]?) hd
      simpa using this
    have hul := under_le o i
    simp only [Tm.heightL, Tm.countL] at hk1 hc
    refine Ev.t (by simp [Tm.encL_length, Tm.args]; omega) ?_
    refine Ev.some (idx_get hu) ?_
    refine (under_ev _ _).bind ?_
    have hw : IntKind.i64.wrap (k + under o i) = k + under o i := wrap_i64 (by omega) (by omega)
    simp only [Tm.op, hw]
    refine (each_ev sig u (k + under o i) b (by omega) (by omega) (by omega)).bind ?_
    simp only [wrapS (show i < 2000000000000000000 by omega)]
    refine (each_evL sig o h n us hus ts k _ (i + 1) (by rw [← List.drop_drop, hd]; rfl) hk0 (by omega) (by omega) (by omega)).eq ?_
    simp only [nodesBL, Bool.and_assoc]
 end
end Go.Proofs.YtpibdcjdamibdaaGreat
end

/-! EvC -/
section
namespace Go.Proofs.YtpibdcjdamibdaaGreat
open Go.Tr Go
set_option linter.unusedVariables false
set_option linter.unusedSimpArgs false
set_option maxRecDepth 10000

theorem nb {b : Bool} (h : (!b) = true) : b = false := by cases b <;> simp_all
theorem nb' {b : Bool} (h : (!b) = false) : b = true := by cases b <;> simp_all

/-- The numbers that a kind of heads has. -/
def occN (hd o h n k : Int) : List Int := if o = 4 ∧ h = hd then (if hd ≠ 1 then [n] else if n ≥ k then [n - k] else []) else []
mutual
def occ (hd : Int) : Tm → Int → List Int
  | .mk o h n us, k => occN hd o h n k ++ occL hd o us 0 k
def occL (hd : Int) : Int → List Tm → Nat → Int → List Int
  | _, [], _, _ => []
  | o, u :: us, i, k => occ hd u (k + under o i) ++ occL hd o us (i + 1) k
 end

mutual
theorem headsF_mem (hd x : Int) : ∀ (t : Tm) (k : Int) (l : List Int), okAll t = true → 0 ≤ k → k + t.height ≤ 1000000 → (x ∈ headsF hd t k l ↔ x ∈ l ∨ x ∈ occ hd t k)
  | .mk o h n us, k, l, hok, hk0, hk1 => by
    have hn := okAll_n hok
    simp only [Tm.n] at hn
    simp only [okAll, Bool.and_eq_true] at hok
    rw [Tm.height_eq] at hk1
    simp only [Tm.args] at hk1
    simp only [headsF, occ, List.mem_append]
    rw [headsF_memL hd x o us 0 k _ hok.2 hk0 (by omega)]
    rw [← or_assoc]
    apply or_congr _ Iff.rfl
    unfold occN
    by_cases h1 : o = 4 ∧ h = hd
    · rw [if_pos h1, if_pos h1]
      by_cases h2 : hd ≠ 1
      · rw [if_pos h2, if_pos h2, mem_putF]; simp [or_comm]
      · rw [if_neg h2, if_neg h2]
        by_cases h3 : n ≥ k
        · rw [if_pos h3, if_pos h3, mem_putF, wrap_i64 (by omega) (by omega)]; simp [or_comm]
        · rw [if_neg h3, if_neg h3]; simp
    · rw [if_neg h1, if_neg h1]; simp
theorem headsF_memL (hd x : Int) : ∀ (o : Int) (us : List Tm) (i : Nat) (k : Int) (l : List Int), okAllL us = true → 0 ≤ k → k + 1 + Tm.heightL us ≤ 1000000 → (x ∈ headsL hd o us i k l ↔ x ∈ l ∨ x ∈ occL hd o us i k)
  | o, [], i, k, l, _, _, _ => by simp [headsL, occL]
  | o, u :: us, i, k, l, hok, hk0, hk1 => by
    simp only [okAllL, Bool.and_eq_true] at hok
    simp only [Tm.heightL] at hk1
    have hu := under_le o i
    simp only [headsL, occL, List.mem_append]
    rw [headsF_memL hd x o us (i + 1) k _ hok.2 hk0 (by omega), headsF_mem hd x u (k + under o i) l hok.1 (by omega) (by omega), or_assoc]
 end

mutual
theorem headsF_sorted (hd : Int) : ∀ (t : Tm) (k : Int) (l : List Int), l.Pairwise (· < ·) → (headsF hd t k l).Pairwise (· < ·)
  | .mk o h n us, k, l, hl => by
    simp only [headsF]
    refine headsF_sortedL hd o us 0 k _ ?_
    split
    · split
      · exact putF_sorted _ _ hl
      · split
        · exact putF_sorted _ _ hl
        · exact hl
    · exact hl
theorem headsF_sortedL (hd : Int) : ∀ (o : Int) (us : List Tm) (i : Nat) (k : Int) (l : List Int), l.Pairwise (· < ·) → (headsL hd o us i k l).Pairwise (· < ·)
  | o, [], i, k, l, hl => by simpa [headsL] using hl
  | o, u :: us, i, k, l, hl => by
    simp only [headsL]
    exact headsF_sortedL hd o us (i + 1) k _ (headsF_sorted hd u _ l hl)
 end

mutual
theorem nodesB_occ (m : Nat) : ∀ (t : Tm) (k : Int), okAll t = true → (nodesB m t k = true ↔ occ 1 t k = [] ∧ occ 3 t k = [] ∧ ∀ x ∈ occ 2 t k, x < (m : Int))
  | .mk o h n us, k, hok => by
    have hhd : o = 4 → h = 1 ∨ h = 2 ∨ h = 3 := by
      intro e
      simp only [okAll, Bool.and_eq_true] at hok
      have h1 := hok.1
      subst e
      simp [okNode] at h1
      omega
    simp only [okAll, Bool.and_eq_true] at hok
    have hl := nodesB_occL m o us 0 k hok.2
    simp only [nodesB, occ, Bool.and_eq_true, hl, List.append_eq_nil_iff, List.mem_append]
    have hn : nodeB o h n k m = true ↔ occN 1 o h n k = [] ∧ occN 3 o h n k = [] ∧ ∀ x ∈ occN 2 o h n k, x < (m : Int) := by
      unfold nodeB occN
      by_cases h4 : o = 4
      · rcases hhd h4 with rfl | rfl | rfl
        · subst h4
          by_cases hh : n < k
          · simp [hh]
          · simp [hh]
        · subst h4; simp
        · subst h4; simp
      · simp [h4]
    rw [hn]
    constructor
    · rintro ⟨⟨a, b, c⟩, d, e, f⟩
      exact ⟨⟨a, d⟩, ⟨b, e⟩, fun x hx => hx.elim (c x) (f x)⟩
    · rintro ⟨⟨a, d⟩, ⟨b, e⟩, f⟩
      exact ⟨⟨a, b, fun x hx => f x (.inl hx)⟩, d, e, fun x hx => f x (.inr hx)⟩
theorem nodesB_occL (m : Nat) : ∀ (o : Int) (us : List Tm) (i : Nat) (k : Int), okAllL us = true → (nodesBL m o us i k = true ↔ occL 1 o us i k = [] ∧ occL 3 o us i k = [] ∧ ∀ x ∈ occL 2 o us i k, x < (m : Int))
  | o, [], i, k, _ => by simp [nodesBL, occL]
  | o, u :: us, i, k, hok => by
    simp only [okAllL, Bool.and_eq_true] at hok
    have h1 := nodesB_occ m u (k + under o i) hok.1
    have h2 := nodesB_occL m o us (i + 1) k hok.2
    simp only [nodesBL, occL, Bool.and_eq_true, h1, h2, List.append_eq_nil_iff, List.mem_append]
    constructor
    · rintro ⟨⟨a, b, c⟩, d, e, f⟩
      exact ⟨⟨a, d⟩, ⟨b, e⟩, fun x hx => hx.elim (c x) (f x)⟩
    · rintro ⟨⟨a, d⟩, ⟨b, e⟩, f⟩
      exact ⟨⟨a, b, fun x hx => f x (.inl hx)⟩, d, e, fun x hx => f x (.inr hx)⟩
 end

theorem headsF_nil (hd : Int) (t : Tm) (hok : okAll t = true) (hh : t.height ≤ 1000000) : (headsF hd t 0 []).isEmpty = (occ hd t 0).isEmpty := by
  rw [Bool.eq_iff_iff, List.isEmpty_iff, List.isEmpty_iff]
  have hm := fun x => headsF_mem hd x t 0 [] hok (by omega) (by omega)
  constructor
  · intro e
    apply List.eq_nil_iff_forall_not_mem.2
    intro x hx
    have := (hm x).2 (.inr hx)
    rw [e] at this; cases this
  · intro e
    apply List.eq_nil_iff_forall_not_mem.2
    intro x hx
    have := (hm x).1 hx
    rw [e] at this; simp at this

theorem heads_len (hd : Int) (t : Tm) (hok : okAll t = true) (hh : t.height ≤ 1000000) : (((List.map (D.int .i64) (headsF hd t 0 [])).length : Int) == 0) = (occ hd t 0).isEmpty := by
  rw [← headsF_nil hd t hok hh, List.length_map]
  cases headsF hd t 0 [] with
  | nil => rfl
  | cons a l => simp; omega

theorem sorted_last : ∀ (l : List Int), l.Pairwise (· < ·) → ∀ (y : Int), l[l.length - 1]? = some y → ∀ x ∈ l, x ≤ y
  | [], _, y, h, x, hx => by cases hx
  | [a], _, y, h, x, hx => by simp at h hx; omega
  | a :: b :: l, hp, y, h, x, hx => by
    rw [List.pairwise_cons] at hp
    have h' : (b :: l)[(b :: l).length - 1]? = some y := by simpa using h
    rcases List.mem_cons.1 hx with e | e
    · subst e
      have := hp.1 y (List.mem_of_getElem? h'); omega
    · exact sorted_last (b :: l) hp.2 y h' x e

theorem refFree_ev {t : Tm} (hh : t.height ≤ 1000000) (hc : t.count ≤ 1000000) : Ev (fun k => R03_Free k t) (headsF 1 t 0 []) := by
  refine Ev.succ (fun k => R03_Free.eq_2 ..) ?_
  exact Ev.need (by simp; omega) (Ev.pure _)
theorem refConstants_ev {t : Tm} (hh : t.height ≤ 1000000) (hc : t.count ≤ 1000000) : Ev (fun k => R03_Constants k t) (headsF 2 t 0 []) := by
  refine Ev.succ (fun k => R03_Constants.eq_2 ..) ?_
  exact Ev.need (by simp; omega) (Ev.pure _)
theorem refMetas_ev {t : Tm} (hh : t.height ≤ 1000000) (hc : t.count ≤ 1000000) : Ev (fun k => R03_Metas k t) (headsF 3 t 0 []) := by
  refine Ev.succ (fun k => R03_Metas.eq_2 ..) ?_
  exact Ev.need (by simp; omega) (Ev.pure _)

theorem heads_count (hd : Int) : ∀ (t : Tm) (k : Int) (l : List Int), (headsF hd t k l).length ≤ l.length + t.count := headsF_length hd

theorem closed_ev {t : Tm} (m : Nat) (hok : okAll t = true) (hh : t.height ≤ 1000) (hc : t.count ≤ 1000) : Ev (fun k => R05_closed k t (m : Int)) (nodesB m t 0) := by
  refine Ev.succ (fun k => R05_closed.eq_2 ..) ?_
  refine (refConstants_ev (by omega) (by omega)).bind ?_
  refine (refFree_ev (by omega) (by omega)).bind ?_
  have hocc := nodesB_occ m t 0 hok
  have e1 := heads_len 1 t hok (by omega)
  have e2 := heads_len 2 t hok (by omega)
  have e3 := heads_len 3 t hok (by omega)
  refine Ev.ite (fun h1 => ?_) (fun h1 => ?_)
  · rw [e1, List.isEmpty_iff] at h1
    refine (refMetas_ev (by omega) (by omega)).bind ?_
    refine Ev.ite (fun h3 => ?_) (fun h3 => ?_)
    · rw [e3, List.isEmpty_iff] at h3
      refine Ev.ite (fun h2 => ?_) (fun h2 => ?_)
      · rw [e2, List.isEmpty_iff] at h2
        refine (Ev.pure true).eq ?_
        symm
        rw [hocc]
        exact ⟨h1, h3, by rw [h2]; simp⟩
      · have hne : headsF 2 t 0 [] ≠ [] := by
          intro e; rw [e] at h2; simp at h2
        have hlen : 0 < (headsF 2 t 0 []).length := List.length_pos_iff.2 hne
        have hlc := heads_count 2 t 0 []
        simp only [List.length_nil] at hlc
        obtain ⟨y, hy⟩ : ∃ y, (headsF 2 t 0 [])[(headsF 2 t 0 []).length - 1]? = some y := ⟨_, List.getElem?_eq_getElem (by omega)⟩
        have hw : IntKind.i64.wrap (((List.map (D.int .i64) (headsF 2 t 0 [])).length : Int) - 1) = (((headsF 2 t 0 []).length - 1 : Nat) : Int) := by
          rw [List.length_map, wrap_i64 (by omega) (by omega)]; omega
        rw [hw]
        refine Ev.some (idx_get hy) ?_
        refine (Ev.pure _).eq ?_
        rw [Bool.eq_iff_iff, decide_eq_true_eq, hocc]
        have hm := fun x => headsF_mem 2 x t 0 [] hok (by omega) (by omega)
        constructor
        · intro h
          refine ⟨h1, h3, fun x hx => ?_⟩
          have := sorted_last _ (headsF_sorted 2 t 0 [] .nil) y hy x ((hm x).2 (.inr hx))
          omega
        · rintro ⟨_, _, h⟩
          refine h y ?_
          have := (hm y).1 (List.mem_of_getElem? hy)
          simpa using this
    · rw [e3] at h3
      refine (Ev.pure false).eq ?_
      symm
      rw [Bool.eq_false_iff, ne_eq, hocc]
      rintro ⟨_, h, _⟩
      rw [h] at h3; cases h3
  · rw [e1] at h1
    refine (Ev.pure false).eq ?_
    symm
    rw [Bool.eq_false_iff, ne_eq, hocc]
    rintro ⟨h, _, _⟩
    rw [h] at h1; cases h1


/-- A class proper, and small. -/
theorem proper_small {t : Tm} (h : isProper t = true) : okAll t = true ∧ t.height ≤ 40 ∧ t.count ≤ 600 := by
  have := (isProper_iff t).1 h
  exact ⟨this.1, this.2.2, this.2.1⟩

def kindAt (sig : List Dc) (n : Int) : Bool := match idx sig n with
  | some d => kindT d.cls
  | none => false

/-- A constant can stand behind others. -/
def declOK (pre : List Dc) (d : Dc) : Bool := ((isSmallF d.name && !(d.name.toList == tyB.toList)) && isProper d.cls && nodesB pre.length d.cls 0 && !pre.any (fun x => x.name.toList == d.name.toList)) &&
  ((((split d.cls).2.op == 1) || (((split d.cls).2.op == 4) && ((split d.cls).2.hd == 2) && kindAt pre (split d.cls).2.n)) && decide (0 ≤ d.implicit) && decide (d.implicit ≤ ((split d.cls).1.length : Int)))

def sigG : List Dc → List Dc → Bool
  | _, [] => true
  | pre, d :: r => declOK pre d && sigG (pre ++ [d]) r

theorem declOK_proper {pre : List Dc} {d : Dc} (h : declOK pre d = true) : isProper d.cls = true := by
  simp only [declOK, Bool.and_eq_true] at h
  exact h.1.1.1.2

/-- What the head of the rest of a class whose nodes are right is. -/
theorem spl_node (m : Nat) : ∀ (n : Nat) (t : Tm) (l : List Tm) (k : Int), okAll t = true → t.height ≤ n → nodesB m t k = true → (spl n t l).2.op = 4 → (spl n t l).2.hd = 2 → 0 ≤ (spl n t l).2.n ∧ (spl n t l).2.n < (m : Int)
  | 0, t, l, k, hok, hn, _, _, _ => by have := Tm.height_pos t; omega
  | n + 1, t, l, k, hok, hn, hb, h4, h2 => by
    simp only [spl] at h4 h2 ⊢
    by_cases h : t.op = 2
    · rw [if_pos h] at h4 h2 ⊢
      obtain ⟨a, b, e, _, hbo, _, hh, hc⟩ := okAll_two hok h
      simp only [e] at h4 h2 ⊢
      cases t with
      | mk o hd q us =>
        simp only [Tm.args] at e
        subst e
        simp only [nodesB, nodesBL, Bool.and_eq_true] at hb
        exact spl_node m n b _ _ hbo (by omega) hb.2.2.1 h4 h2
    · rw [if_neg h] at h4 h2 ⊢
      have hnn := okAll_n hok
      cases t with
      | mk o hd q us =>
        simp only [Tm.op, Tm.hd, Tm.n] at h4 h2 hnn ⊢
        subst h4 h2
        simp only [nodesB, nodeB, Bool.and_eq_true] at hb
        have := hb.1
        simp at this
        exact ⟨hnn.1, this⟩

theorem idx_pre {sig : List Dc} {n : Int} (h0 : 0 ≤ n) (h1 : n < (sig.length : Int)) : ∃ d, idx sig n = some d ∧ d ∈ sig := by
  obtain ⟨k, rfl⟩ : ∃ k : Nat, n = k := ⟨n.toNat, by omega⟩
  have : k < sig.length := by omega
  exact ⟨sig[k], by rw [idx_nat]; exact List.getElem?_eq_getElem this, List.getElem_mem this⟩

theorem refName_ev (s : ByteArray) : Ev (fun k => R05_IsName k s) (isSmallF s && !(s.toList == tyB.toList)) := by
  refine Ev.succ (fun k => R05_IsName.eq_2 ..) ?_
  exact Ev.pure _
theorem signName_ev (s : ByteArray) : Ev (fun k => sign_name k s) (isSmallF s && !(s.toList == tyB.toList)) := by
  refine Ev.succ (fun k => sign_name.eq_2 ..) ?_
  exact Ev.pure _

def headOK (pre : List Dc) (d : Dc) : Bool := ((((split d.cls).2.op == 1) || (((split d.cls).2.op == 4) && ((split d.cls).2.hd == 2) && kindAt pre (split d.cls).2.n)) && decide (0 ≤ d.implicit) && decide (d.implicit ≤ ((split d.cls).1.length : Int)))

theorem split_facts {t : Tm} (h : isProper t = true) : (split t).2.op ≠ 2 ∧ okAll (split t).2 = true ∧ (split t).2.count ≤ 600 ∧ (split t).2.height ≤ 40 ∧ (split t).1.length ≤ 40 := by
  obtain ⟨hok, hh, hc⟩ := proper_small h
  have := spl_rest t.height t [] hok (Nat.le_refl _)
  have hp := Tm.height_pos (split t).2
  have e : split t = spl t.height t [] := rfl
  rw [← e] at this
  simp only [List.length_nil] at this
  refine ⟨this.1, this.2.1, by omega, by omega, by omega⟩

theorem kindAt_ev {pre : List Dc} (hpre : ∀ x ∈ pre, isProper x.cls = true) {n : Int} (h0 : 0 ≤ n) (h1 : n < (pre.length : Int)) : Ev (fun k => R05_family k pre n) (kindAt pre n) := by
  obtain ⟨d, hd, hm⟩ := idx_pre h0 h1
  obtain ⟨hok, hh, _⟩ := proper_small (hpre d hm)
  rw [kindAt, hd]
  exact family_ev hd hok (by omega)

theorem formed_evL (pre : List Dc) (d : Dc) (hpre : ∀ x ∈ pre, isProper x.cls = true) (hlen : pre.length ≤ 1000) (hp : isProper d.cls = true) (hn : nodesB pre.length d.cls 0 = true) :
    ∀ (post : List Dc) (i : Nat), pre.drop i = post → i + post.length = pre.length → Ev (fun k => R05_formed_L1 k pre d (i : Int)) (!post.any (fun x => x.name.toList == d.name.toList) && headOK pre d)
  | [], i, hd, hi => by
    simp only [List.length_nil, Nat.add_zero] at hi
    refine Ev.succ (fun k => R05_formed_L1.eq_2 ..) ?_
    refine Ev.f (by simp [Dc.encL_length, hi]) ?_
    obtain ⟨hok, hh, hc⟩ := proper_small hp
    obtain ⟨s1, s2, s3, s4, s5⟩ := split_facts hp
    have hnode := spl_node pre.length d.cls.height d.cls [] 0 hok (Nat.le_refl _) hn
    have e : spl d.cls.height d.cls [] = split d.cls := rfl
    rw [e] at hnode
    refine (split_ev hok (by omega)).bind ?_
    simp only [List.any_nil, Bool.not_false, Bool.true_and, headOK]
    refine Ev.ite (fun h4 => ?_) (fun h4 => ?_)
    · have h4' : (split d.cls).2.op = 4 := by simpa using h4
      refine Ev.ite (fun h2 => ?_) (fun h2 => ?_)
      · have h2' : ((split d.cls).2.hd == 2) = false := by simpa using h2
        refine (Ev.pure false).eq ?_
        rw [h2', h4']; simp
      · have h2' : (split d.cls).2.hd = 2 := by simpa using h2
        obtain ⟨n0, n1⟩ := hnode h4' h2'
        refine (kindAt_ev hpre n0 n1).bind ?_
        refine Ev.ite (fun h5 => ?_) (fun h5 => ?_)
        · refine (Ev.pure false).eq ?_
          have h5 : kindAt pre (split d.cls).2.n = false := by simpa using h5
          rw [h5, h4']; simp
        · refine (Ev.pure _).eq ?_
          have h5 : kindAt pre (split d.cls).2.n = true := by simpa using h5
          rw [h5, h4', h2']; simp [Tm.encL_length]
    · refine (Ev.pure _).eq ?_
      have h4' : ((split d.cls).2.op == 4) = false := h4
      simp only [h4', Tm.encL_length, Bool.or_false, Bool.false_and]
  | x :: post, i, hd, hi => by
    simp only [List.length_cons] at hi
    have hx : pre[i]? = some x := by
      have := congrArg (fun l => l[0]?) hd
      simpa using this
    refine Ev.succ (fun k => R05_formed_L1.eq_2 ..) ?_
    refine Ev.t (by simp [Dc.encL_length]; omega) ?_
    refine Ev.some (idx_get hx) ?_
    rw [List.any_cons]
    refine Ev.ite (fun h => ?_) (fun h => ?_)
    · refine (Ev.pure false).eq ?_
      rw [h]; simp
    · rw [h, wrapS (by omega), Bool.false_or]
      exact formed_evL pre d hpre hlen hp hn post (i + 1) (by rw [← List.drop_drop, hd]; rfl) (by omega)

theorem declOK_eq (pre : List Dc) (d : Dc) : declOK pre d = (((isSmallF d.name && !(d.name.toList == tyB.toList)) && isProper d.cls && nodesB pre.length d.cls 0 && !pre.any (fun x => x.name.toList == d.name.toList)) && headOK pre d) := rfl

theorem formed_ev (pre : List Dc) (d : Dc) (hpre : ∀ x ∈ pre, isProper x.cls = true) (hlen : pre.length ≤ 1000) : Ev (fun k => R05_formed k pre d) (declOK pre d) := by
  refine Ev.succ (fun k => R05_formed.eq_2 ..) ?_
  refine (refName_ev d.name).bind ?_
  rw [declOK_eq]
  refine Ev.ite (fun h1 => ?_) (fun h1 => ?_)
  · have h1 : (isSmallF d.name && !(d.name.toList == tyB.toList)) = false := nb h1
    exact (Ev.pure false).eq (by rw [h1]; rfl)
  have h1 : (isSmallF d.name && !(d.name.toList == tyB.toList)) = true := nb' h1
  rw [h1, refProper_eq, Bool.true_and]
  refine Ev.ite (fun h2 => ?_) (fun h2 => ?_)
  · have h2 : isProper d.cls = false := by simpa using h2
    exact (Ev.pure false).eq (by rw [h2]; rfl)
  have h2 : isProper d.cls = true := by simpa using h2
  obtain ⟨hok, hh, hc⟩ := proper_small h2
  rw [h2, Bool.true_and, Dc.encL_length]
  refine (closed_ev pre.length hok (by omega) (by omega)).bind ?_
  refine Ev.ite (fun h3 => ?_) (fun h3 => ?_)
  · have h3 : nodesB pre.length d.cls 0 = false := by simpa using h3
    exact (Ev.pure false).eq (by rw [h3]; rfl)
  have h3 : nodesB pre.length d.cls 0 = true := by simpa using h3
  rw [h3, Bool.true_and]
  exact formed_evL pre d hpre hlen h2 h3 pre 0 rfl (by simp)

theorem formedSig_evL (sig : List Dc) (hlen : sig.length ≤ 100) : ∀ (post : List Dc) (i : Nat), sig.drop i = post → i + post.length = sig.length → (∀ x ∈ sig.take i, isProper x.cls = true) → Ev (fun k => R05_Formed_L1 k sig (i : Int)) (sigG (sig.take i) post)
  | [], i, hd, hi, hpre => by
    simp only [List.length_nil, Nat.add_zero] at hi
    refine Ev.succ (fun k => R05_Formed_L1.eq_2 ..) ?_
    refine Ev.f (by simp [Dc.encL_length, hi]) ?_
    refine (Ev.pure _).eq ?_
    simp [sigG, Dc.encL_length]; omega
  | d :: post, i, hd, hi, hpre => by
    simp only [List.length_cons] at hi
    have hx : sig[i]? = some d := by
      have := congrArg (fun l => l[0]?) hd
      simpa using this
    refine Ev.succ (fun k => R05_Formed_L1.eq_2 ..) ?_
    refine Ev.t (by simp [Dc.encL_length]; omega) ?_
    refine Ev.need (by simp [Dc.encL_length]; omega) ?_
    refine Ev.some (idx_get hx) ?_
    rw [Int.toNat_natCast]
    refine (formed_ev (sig.take i) d hpre (by simp; omega)).bind ?_
    rw [sigG]
    have htk : sig.take (i + 1) = sig.take i ++ [d] := by
      rw [List.take_add_one, hx]; rfl
    refine Ev.ite (fun h => ?_) (fun h => ?_)
    · have h : declOK (sig.take i) d = false := by simpa using h
      exact (Ev.pure false).eq (by rw [h]; rfl)
    · have h : declOK (sig.take i) d = true := by simpa using h
      rw [h, wrapS (by omega), Bool.true_and, ← htk]
      refine formedSig_evL sig hlen post (i + 1) (by rw [← List.drop_drop, hd]; rfl) (by omega) ?_
      intro x hx'
      rw [htk, List.mem_append, List.mem_singleton] at hx'
      rcases hx' with h1 | rfl
      · exact hpre x h1
      · exact declOK_proper h

def sigOK (sig : List Dc) : Bool := decide (sig.length ≤ 100) && sigG [] sig

theorem formedSig_ev (sig : List Dc) : Ev (fun k => R05_Formed k sig) (sigOK sig) := by
  refine Ev.succ (fun k => R05_Formed.eq_2 ..) ?_
  by_cases hl : sig.length ≤ 100
  · refine (formedSig_evL sig hl sig 0 rfl (by simp) (by simp)).eq ?_
    simp [sigOK, hl]
  · refine Ev.succ (fun k => R05_Formed_L1.eq_2 ..) ?_
    refine Ev.f (by simp [Dc.encL_length]; omega) ?_
    refine (Ev.pure _).eq ?_
    simp [sigOK, hl, Dc.encL_length]; omega

theorem signFormed_ev (pre : List Dc) (d : Dc) (hpre : ∀ x ∈ pre, isProper x.cls = true) (hlen : pre.length ≤ 1000) (hn : pre.any (fun x => x.name.toList == d.name.toList) = false) : Ev (fun k => sign_formed k pre d) (declOK pre d) := by
  refine Ev.succ (fun k => sign_formed.eq_2 ..) ?_
  rw [declOK_eq, hn]
  refine Ev.ite (fun h2 => ?_) (fun h2 => ?_)
  · have h2 : isProper d.cls = false := by
      cases h : isProper d.cls with
      | false => rfl
      | true => rw [h] at h2; simp at h2
    exact (Ev.pure false).eq (by rw [h2]; simp)
  have h2 : isProper d.cls = true := by
    cases h : isProper d.cls with
    | true => rfl
    | false => rw [h] at h2; simp at h2
  obtain ⟨hok, hh, hc⟩ := proper_small h2
  rw [h2]
  refine (signName_ev d.name).bind ?_
  generalize (isSmallF d.name && !(d.name.toList == tyB.toList)) = nm
  refine Ev.ite (fun h1 => ?_) (fun h1 => ?_)
  · refine (Ev.pure false).eq ?_
    rw [headOK]
    cases nm with
    | false => rfl
    | true =>
      have h1 : d.implicit < 0 := by simpa using h1
      have : decide (0 ≤ d.implicit) = false := by simp; omega
      rw [this]; simp
  have hnm : nm = true := by cases nm with | true => rfl | false => simp at h1
  subst hnm
  have himp : decide (0 ≤ d.implicit) = true := by simp at h1; simp; omega
  refine (domains_ev hok (by omega)).bind ?_
  refine (each_ev pre d.cls 0 _ (by omega) (by omega) (by omega)).bind ?_
  refine (kind_ev hok (by omega)).bind ?_
  obtain ⟨s1, s2, s3, s4, s5⟩ := split_facts h2
  have hnode := spl_node pre.length d.cls.height d.cls [] 0 hok (Nat.le_refl _)
  have e : spl d.cls.height d.cls [] = split d.cls := rfl
  rw [e] at hnode
  rw [headOK, himp, Tm.encL_length]
  refine Ev.ite (fun h3 => ?_) (fun h3 => ?_)
  · refine (Ev.pure _).eq ?_
    have h3 : ((split d.cls).2.op == 1) = true := h3
    rw [h3]
    simp [Bool.and_comm]
  have h3 : ((split d.cls).2.op == 1) = false := h3
  refine (target_ev hok (by omega)).bind ?_
  rw [h3]
  refine Ev.ite (fun h4 => ?_) (fun h4 => ?_)
  · simp only [Bool.and_eq_true] at h4
    obtain ⟨⟨h5, h6⟩, h7, h8⟩ := h4
    obtain ⟨n0, n1⟩ := hnode h6 (by simpa using h7) (by simpa using h8)
    obtain ⟨x, hx, hm⟩ := idx_pre n0 n1
    obtain ⟨xok, xh, _⟩ := proper_small (hpre x hm)
    refine Ev.some hx ?_
    refine (kind_ev xok (by omega)).bind ?_
    refine (Ev.pure _).eq ?_
    rw [kindAt, hx, h5, h6, h7, h8]; simp
  · refine (Ev.pure false).eq ?_
    revert h4
    generalize decide (d.implicit ≤ ((split d.cls).1.length : Int)) = b1
    generalize nodesB pre.length d.cls 0 = b2
    generalize ((split d.cls).2.op == 4) = b3
    generalize ((split d.cls).2.hd == 2) = b4
    cases b1 <;> cases b2 <;> cases b3 <;> cases b4 <;> simp

/-- The names that were put. -/
def namesOf (pre : List Dc) (m : List (ByteArray × Bool)) : Prop := ∀ s, (mget m s).getD false = pre.any (fun x => x.name.toList == s.toList)

theorem mget_mput {κ β : Type} [DecidableEq κ] (n : κ) (v : β) : ∀ (l : List (κ × β)) (x : κ), mget (mput n v l) x = if x = n then some v else mget l x
  | [], x => by simp only [mput, mget]
  | (k, u) :: r, x => by
    simp only [mput]
    split
    · rename_i h
      subst h
      simp only [mget]
      split <;> rfl
    · rename_i h
      simp only [mget, mget_mput n v r x]
      by_cases h1 : x = k
      · subst h1; rw [if_pos rfl, if_pos rfl, if_neg (fun e => h e.symm)]
      · rw [if_neg h1, if_neg h1]

theorem check_evL (sig : List Dc) (hlen : sig.length ≤ 100) : ∀ (post : List Dc) (i : Nat) (m : List (ByteArray × Bool)), sig.drop i = post → i + post.length = sig.length → (∀ x ∈ sig.take i, isProper x.cls = true) → namesOf (sig.take i) m → Ev (fun k => sign_Check_L1 k sig m (i : Int)) (if sigG (sig.take i) post then 0 else 2)
  | [], i, m, hd, hi, hpre, hm => by
    simp only [List.length_nil, Nat.add_zero] at hi
    refine Ev.succ (fun k => sign_Check_L1.eq_2 ..) ?_
    refine Ev.f (by simp [Dc.encL_length, hi]) ?_
    exact (Ev.pure _).eq (by simp [sigG])
  | d :: post, i, m, hd, hi, hpre, hm => by
    simp only [List.length_cons] at hi
    have hx : sig[i]? = some d := by
      have := congrArg (fun l => l[0]?) hd
      simpa using this
    have htk : sig.take (i + 1) = sig.take i ++ [d] := by
      rw [List.take_add_one, hx]; rfl
    refine Ev.succ (fun k => sign_Check_L1.eq_2 ..) ?_
    refine Ev.t (by simp [Dc.encL_length]; omega) ?_
    refine Ev.some (idx_get hx) ?_
    refine Ev.need (by simp [Dc.encL_length]; omega) ?_
    rw [hm d.name, sigG]
    refine Ev.ite (fun h1 => ?_) (fun h1 => ?_)
    · refine (Ev.pure _).eq ?_
      rw [declOK, h1]; simp
    rw [Int.toNat_natCast]
    refine (signFormed_ev (sig.take i) d hpre (by simp; omega) h1).bind ?_
    refine Ev.ite (fun h => ?_) (fun h => ?_)
    · have h : declOK (sig.take i) d = false := by simpa using h
      exact (Ev.pure _).eq (by rw [h]; rfl)
    · have h : declOK (sig.take i) d = true := by simpa using h
      rw [h, wrapS (by omega), Bool.true_and, ← htk]
      refine check_evL sig hlen post (i + 1) _ (by rw [← List.drop_drop, hd]; rfl) (by omega) ?_ ?_
      · intro x hx'
        rw [htk, List.mem_append, List.mem_singleton] at hx'
        rcases hx' with h1 | rfl
        · exact hpre x h1
        · exact declOK_proper h
      · intro s
        rw [mget_mput, htk, List.any_append, ← hm s]
        by_cases hs : s = d.name
        · subst hs; simp
        · rw [if_neg hs]
          have : (d.name.toList == s.toList) = false := by rw [strEq, decide_eq_false_iff_not]; exact fun e => hs e.symm
          simp [this]

theorem check_ev (sig : List Dc) : Ev (fun k => sign_Check k sig) (if sigOK sig then 0 else 2) := by
  refine Ev.succ (fun k => sign_Check.eq_2 ..) ?_
  refine Ev.ite (fun h => ?_) (fun h => ?_)
  · refine (Ev.pure _).eq ?_
    have h : 100 < sig.length := by simp [Dc.encL_length] at h; omega
    have : decide (sig.length ≤ 100) = false := by simp; omega
    rw [sigOK, this]; rfl
  · have h : sig.length ≤ 100 := by simp [Dc.encL_length] at h; omega
    refine (check_evL sig h sig 0 [] rfl (by simp) (by simp) (fun s => by simp [mget])).eq ?_
    have : decide (sig.length ≤ 100) = true := by simpa using h
    rw [sigOK, this]; rfl

theorem sigG_proper : ∀ (post pre : List Dc), sigG pre post = true → ∀ x ∈ post, isProper x.cls = true
  | [], _, _, x, hx => by cases hx
  | d :: post, pre, h, x, hx => by
    simp only [sigG, Bool.and_eq_true] at h
    rcases List.mem_cons.1 hx with e | e
    · subst e; exact declOK_proper h.1
    · exact sigG_proper post _ h.2 x e
theorem sigOK_proper {sig : List Dc} (h : sigOK sig = true) : sig.length ≤ 100 ∧ ∀ x ∈ sig, isProper x.cls = true := by
  simp only [sigOK, Bool.and_eq_true, decide_eq_true_eq] at h
  exact ⟨h.1, sigG_proper sig [] h.2⟩

end Go.Proofs.YtpibdcjdamibdaaGreat
end
