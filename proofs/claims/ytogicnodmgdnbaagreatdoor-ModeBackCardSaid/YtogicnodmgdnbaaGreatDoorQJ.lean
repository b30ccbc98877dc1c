/- Merged texts: G2 McF McG Gt. Functions that the statements on directives of modes reach, with fuel, and their contracts. Conditions stand in each. The check of modes at the sample: mode.check. Conditions stand in each. mode.check at the sample, in the form that gen.py prints. The condition is sampB. Fields of structs in a slice that the run has made and still may write; calls that make a list of ints while they read what grows. Conditions stand in each rule. -/
import Derived.Test.YtogicnodmgdnbaaGreatDoorQI
/-! G2 -/
section
namespace Go.Proofs.YtogicnodmgdnbaaGreatDoor
open Go.Tr Go
set_option maxRecDepth 10000
set_option linter.unusedVariables false
set_option linter.unusedSimpArgs false

abbrev Md.gk (x : Md) (a : Option Addr) (c : Nat) : SV := .agg [(.v (.int .i64 x.family)), (.v (.slice a ((List.map (D.int .i64) x.signs).length) c))]
abbrev Md.gv : GE Md → Value := fun (x, a, c) => .agg #[(.int .i64 x.family), (.slice a ((List.map (D.int .i64) x.signs).length) c)]
abbrev Md.gp (x : Md) : List D := (List.map (D.int .i64) x.signs)
mutual
def term_Domains : Nat → Tm → Option ((List Tm) × Tm)
  | 0, _ => none
  | n + 1, v1 =>
    term_Domains_L1 n v1 ([])
def term_Domains_L1 : Nat → Tm → (List Tm) → Option ((List Tm) × Tm)
  | 0, _, _ => none
  | n + 1, v17, v19 =>
    cond (v17.op == 2) (
    (idx v17.args 0).bind (fun v22 =>
    cond (decide ((Tm.encL (v19 ++ [v22])).length ≤ 1000000)) (
    (idx v17.args 1).bind (fun v30 =>
    term_Domains_L1 n v30 (v19 ++ [v22]))) none)) (
    some (v19, v17))
 end
theorem term_Domains_spec (n : Nat) (v1 : Tm) (a2 : Option Addr) (c2 : Nat) (r : (List Tm) × Tm) (hr : term_Domains n v1 = some r) : Pure Tryz.prog (.val (.fn (.func 29) [] [])) [(.agg [(.v (.int .i64 v1.op)), (.v (.int .i64 v1.hd)), (.v (.int .i64 v1.n)), (.v (.slice a2 ((Tm.encL v1.args).length) c2))])] [(.slice a2 ((Tm.encL v1.args).length) c2, .sl 4 (Tm.encL v1.args))] (fun r' out => ∃ (b1 : Option Addr) (d1 : Nat), ∃ (b2 : Option Addr) (d2 : Nat), r' = (.tup [(.v (.slice b1 ((Tm.encL r.1).length) d1)), (.agg [(.v (.int .i64 r.2.op)), (.v (.int .i64 r.2.hd)), (.v (.int .i64 r.2.n)), (.v (.slice b2 ((Tm.encL r.2.args).length) d2))])]) ∧ out = [(.slice b1 ((Tm.encL r.1).length) d1, .sl 4 (Tm.encL r.1)), (.slice b2 ((Tm.encL r.2.args).length) d2, .sl 4 (Tm.encL r.2.args))]) := by
  rcases n with _ | n
  · exact no_some hr
  rw [term_Domains.eq_2] at hr
  refine spec_of_body (N := 21) (m := 0) (dt := drawsOf [(5, .node [0, 1, 2] [(3, .leaf [])], [3], [])]) [] ttOK Tryz.func29 rfl Tryz.call29 Tryz.ntmps29 rfl rfl rfl mixed (by kernel_rfl) ?_
  refine AtLoop.mk ⟨Nat × Tm × Option Addr × Nat × (List Tm) × Option Addr × Nat, fun x => [(1, (.loc 0 0)), (3, (.loc 1 0)), (4, (.v (.slice x.2.2.2.2.2.1 ((Tm.encL x.2.2.2.2.1).length) x.2.2.2.2.2.2)))], fun x => ⟨[.cells 55 [(.v (.int .i64 x.2.1.op)), (.v (.int .i64 x.2.1.hd)), (.v (.int .i64 x.2.1.n)), (.v (.slice x.2.2.1 ((Tm.encL x.2.1.args).length) x.2.2.2.1))], .cells 55 [(.v (.int .i64 0)), (.v (.int .i64 0)), (.v (.int .i64 0)), (.v (.slice none 0 0))]], [⟨.slice x.2.2.2.2.2.1 ((Tm.encL x.2.2.2.2.1).length) x.2.2.2.2.2.2, 4, 55, (Tm.encL x.2.2.2.2.1)⟩], [(.slice x.2.2.1 ((Tm.encL x.2.1.args).length) x.2.2.2.1, .sl 4 (Tm.encL x.2.1.args)), (.slice a2 ((Tm.encL v1.args).length) c2, .sl 4 (Tm.encL v1.args))]⟩, fun x => term_Domains_L1 x.1 x.2.1 x.2.2.2.2.1 = some r, fun x => x.1, (n, v1, a2, c2, [], none, 0), hr, ⟨rfl, rfl, rfl, trivial⟩, (StLe.gen 2 [.nil 4 55] [.old 0, .old 0] rfl rfl rfl rfl rfl rfl rfl), fun x _ => ⟨rfl, rfl⟩, ?_⟩
  rintro ⟨n, v17, a18, c18, v19, a20, c20⟩ HH
  have hr : term_Domains_L1 n v17 v19 = some r := HH
  rcases n with _ | n
  · exact no_some hr
  rw [term_Domains_L1.eq_2] at hr
  refine AtIf.mk (fun h21 => ?_) (fun h21 => ?_)
  · replace hr := cond_t h21 hr
    obtain ⟨v22, h23, hr⟩ := bind_some hr
    obtain ⟨h24, h25⟩ := idx_some h23
    refine at_index ttOK 0 rfl rfl rfl rfl h24 (Tm.encL_get h25) ?_
    intro a26 c26 _ _
    refine at_buildG (n := 1) ttOK 48 [.agg [.int .i64 v22.op, .int .i64 v22.hd, .int .i64 v22.n, .sl 4 (Tm.encL v22.args)]] (ds' := (Tm.encL ([v22]))) rfl (by kernel_rfl) ⟨⟨rfl, rfl, rfl, ⟨[(.v (.int .i64 v22.op))], _, rfl, rfl, ⟨[(.v (.int .i64 v22.hd))], _, rfl, rfl, ⟨[(.v (.int .i64 v22.n))], _, rfl, rfl, ⟨[(.v (.slice a26 ((Tm.encL v22.args).length) c26))], _, rfl, (.inl ⟨_, rfl, nth_mem (j := 2) rfl⟩), rfl⟩⟩⟩⟩⟩, trivial⟩ rfl (by simp only [Tm.encL_eq, List.map_cons, List.map_nil, Tm.enc_eq] <;> rfl) (by decide) (by decide) ?_
    intro a27
    obtain ⟨h28, hr⟩ := cond_need hr
    refine at_appendG (ds' := (Tm.encL (v19 ++ [v22]))) ttOK 48 0 3 rfl (by kernel_rfl) rfl rfl rfl rfl (by simp only [Tm.encL_eq, List.map_append]) h28 (by decide) ?_
    intro a29 c29
    obtain ⟨v30, h31, hr⟩ := bind_some hr
    obtain ⟨h32, h33⟩ := idx_some h31
    refine at_index ttOK 0 rfl rfl rfl rfl h32 (Tm.encL_get h33) ?_
    intro a34 c34 _ _
    exact ⟨(n, v30, a34, c34, (v19 ++ [v22]), a29, c29), hr, Nat.lt_succ_self _, ⟨rfl, rfl, rfl, trivial⟩, (StLe.gen 2 [.old 0] [.old 4, .old 1] rfl rfl rfl rfl rfl rfl rfl)⟩
  · replace hr := cond_f h21 hr
    replace hr := Option.some.inj hr
    subst hr
    exact AtRet.pureG [.froz 0, .old 0] [(.slice a20 ((Tm.encL v19).length) c20, .sl 4 (Tm.encL v19)), (.slice a18 ((Tm.encL v17.args).length) c18, .sl 4 (Tm.encL v17.args))] rfl rfl ⟨a20, c20, a18, c18, rfl, rfl⟩
def sign_kind : Nat → Tm → Option (Bool)
  | 0, _ => none
  | n + 1, v1 =>
    (term_Domains n v1).bind (fun v3 =>
    some ((v3.2.op == 1)))
theorem sign_kind_spec (n : Nat) (v1 : Tm) (a2 : Option Addr) (c2 : Nat) (r : Bool) (hr : sign_kind n v1 = some r) : Pure Tryz.prog (.val (.fn (.func 58) [] [])) [(.agg [(.v (.int .i64 v1.op)), (.v (.int .i64 v1.hd)), (.v (.int .i64 v1.n)), (.v (.slice a2 ((Tm.encL v1.args).length) c2))])] [(.slice a2 ((Tm.encL v1.args).length) c2, .sl 4 (Tm.encL v1.args))] (fun r' out => r' = (.v (.bool r)) ∧ out = []) := by
  rcases n with _ | n
  · exact no_some hr
  rw [sign_kind.eq_2] at hr
  refine spec_of_body (N := 13) (m := 0) (dt := fun _ => none) [] ttOK Tryz.func58 rfl Tryz.call58 Tryz.ntmps58 rfl rfl rfl mixed (by kernel_rfl) ?_
  obtain ⟨v3, h4, hr⟩ := bind_some hr
  refine (term_Domains_spec n v1 a2 c2 _ h4).atR [0] rfl rfl rfl ?_
  rintro _ _ ⟨a5, c5, a6, c6, rfl, rfl⟩
  replace hr := Option.some.inj hr
  subst hr
  exact AtRet.pureG [] [] rfl rfl ⟨rfl, rfl⟩
def sign_name : Nat → ByteArray → Option (Bool)
  | 0, _ => none
  | n + 1, v1 =>
    some (((isSmallF v1) && (!(v1.toList == (⟨#[116, 121, 112, 101]⟩ : ByteArray).toList))))
theorem sign_name_spec (n : Nat) (v1 : ByteArray)  (r : Bool) (hr : sign_name n v1 = some r) : Pure Tryz.prog (.val (.fn (.func 74) [] [])) [(.v (.string v1))] [] (fun r' out => r' = (.v (.bool r)) ∧ out = []) := by
  rcases n with _ | n
  · exact no_some hr
  rw [sign_name.eq_2] at hr
  refine spec_of_body (N := 9) (m := 0) (dt := fun _ => none) [] ttOK Tryz.func74 rfl Tryz.call74 Tryz.ntmps74 rfl rfl rfl mixed (by kernel_rfl) ?_
  refine (isSmall_spec v1).atR [] rfl rfl rfl ?_
  rintro _ _ ⟨rfl, rfl⟩
  replace hr := Option.some.inj hr
  subst hr
  exact AtRet.pureG [] [] rfl rfl ⟨rfl, rfl⟩
def term_Under : Nat → Tm → Int → Option (Int)
  | 0, _, _ => none
  | n + 1, v1, v3 =>
    cond ((v1.op == 3) || ((v1.op == 2) && (v3 == 1))) (
    some (1)) (
    some (0))
theorem term_Under_spec (n : Nat) (v1 : Tm) (v3 : Int) (a2 : Option Addr) (c2 : Nat) (r : Int) (hr : term_Under n v1 v3 = some r) : Pure Tryz.prog (.val (.fn (.func 104) [] [])) [(.agg [(.v (.int .i64 v1.op)), (.v (.int .i64 v1.hd)), (.v (.int .i64 v1.n)), (.v (.slice a2 ((Tm.encL v1.args).length) c2))]), (.v (.int .i64 v3))] [(.slice a2 ((Tm.encL v1.args).length) c2, .sl 4 (Tm.encL v1.args))] (fun r' out => r' = (.v (.int .i64 r)) ∧ out = []) := by
  rcases n with _ | n
  · exact no_some hr
  rw [term_Under.eq_2] at hr
  refine spec_of_body (N := 17) (m := 0) (dt := fun _ => none) [] ttOK Tryz.func104 rfl Tryz.call104 Tryz.ntmps104 rfl rfl rfl mixed (by kernel_rfl) ?_
  refine AtIf.mk (fun h4 => ?_) (fun h4 => ?_)
  · replace hr := cond_t h4 hr
    replace hr := Option.some.inj hr
    subst hr
    exact AtRet.pureG [] [] rfl rfl ⟨rfl, rfl⟩
  · replace hr := cond_f h4 hr
    replace hr := Option.some.inj hr
    subst hr
    exact AtRet.pureG [] [] rfl rfl ⟨rfl, rfl⟩
def sign_formed_1 : Nat → Tm → Int → Bool → (List Dc) → Option (Bool)
  | 0, _, _, _, _ => none
  | n + 1, v1, v3, v4, v5 =>
    cond (v1.op != 4) (
    some (v4)) (
    some ((((v4 && (v1.hd != 3)) && ((v1.hd != 1) || (decide (v1.n < v3)))) && ((v1.hd != 2) || (decide (v1.n < ((Dc.encL v5).length : Int)))))))
theorem sign_formed_1_spec (n : Nat) (v1 : Tm) (v3 : Int) (v4 : Bool) (v5 : (List Dc)) (a2 : Option Addr) (c2 : Nat) (a6 : Option Addr) (c6 : Nat) (r : Bool) (hr : sign_formed_1 n v1 v3 v4 v5 = some r) : Meets Tryz.prog (.val (.fn (.func 76) [] [(.loc 0 0), (.loc 1 0)])) [(.agg [(.v (.int .i64 v1.op)), (.v (.int .i64 v1.hd)), (.v (.int .i64 v1.n)), (.v (.slice a2 ((Tm.encL v1.args).length) c2))]), (.v (.int .i64 v3))] ⟨[.cells 4 [(.v (.bool v4))], .cells 22 [(.v (.slice a6 ((Dc.encL v5).length) c6))]], [], [(.slice a2 ((Tm.encL v1.args).length) c2, .sl 4 (Tm.encL v1.args)), (.slice a6 ((Dc.encL v5).length) c6, .sl 6 (Dc.encL v5))]⟩ (fun o S' => o = .ret (.tup []) ∧ S' = ⟨[.cells 4 [(.v (.bool r))], .cells 22 [(.v (.slice a6 ((Dc.encL v5).length) c6))]], [], []⟩) := by
  rcases n with _ | n
  · exact no_some hr
  rw [sign_formed_1.eq_2] at hr
  refine spec_of_body (N := 38) (m := 2) (dt := fun _ => none) [] ttOK Tryz.func76 rfl Tryz.call76 Tryz.ntmps76 rfl rfl rfl mixed (by kernel_rfl) ?_
  refine AtIf.mk (fun h7 => ?_) (fun h7 => ?_)
  · replace hr := cond_t h7 hr
    replace hr := Option.some.inj hr
    subst hr
    exact AtRet.gen ⟨[.cells 4 [(.v (.bool v4))], .cells 22 [(.v (.slice a6 ((Dc.encL v5).length) c6))]], [], []⟩ (StLe.gen 2 [] [] rfl rfl rfl rfl rfl rfl rfl) rfl rfl ⟨rfl, rfl⟩
  · replace hr := cond_f h7 hr
    replace hr := Option.some.inj hr
    subst hr
    exact AtRet.gen ⟨[.cells 4 [(.v (.bool (((v4 && (v1.hd != 3)) && ((v1.hd != 1) || (decide (v1.n < v3)))) && ((v1.hd != 2) || (decide (v1.n < ((Dc.encL v5).length : Int)))))))], .cells 22 [(.v (.slice a6 ((Dc.encL v5).length) c6))]], [], []⟩ (StLe.gen 2 [] [] rfl rfl rfl rfl rfl rfl rfl) rfl rfl ⟨rfl, rfl⟩
mutual
def term_Each_sign_formed_1 : Nat → Tm → Int → Bool → (List Dc) → Option (Bool)
  | 0, _, _, _, _ => none
  | n + 1, v1, v3, v4, v5 =>
    (sign_formed_1 n v1 v3 v4 v5).bind (fun v7 =>
    term_Each_sign_formed_1_L1 n v1 v3 v5 v7 0)
def term_Each_sign_formed_1_L1 : Nat → Tm → Int → (List Dc) → Bool → Int → Option (Bool)
  | 0, _, _, _, _, _ => none
  | n + 1, v1, v3, v5, v19, v20 =>
    cond (decide (v20 < ((Tm.encL v1.args).length : Int))) (
    (idx v1.args v20).bind (fun v22 =>
    (term_Under n v1 v20).bind (fun v27 =>
    (term_Each_sign_formed_1 n v22 (IntKind.i64.wrap (v3 + v27)) v19 v5).bind (fun v29 =>
    term_Each_sign_formed_1_L1 n v1 v3 v5 v29 (IntKind.i64.wrap (v20 + 1)))))) (
    some (v19))
 end
theorem term_Each_sign_formed_1_specN : ∀ (N : Nat), (∀ (n : Nat), n ≤ N → ∀ (v1 : Tm) (v3 : Int) (v4 : Bool) (v5 : (List Dc)) (a2 : Option Addr) (c2 : Nat) (a6 : Option Addr) (c6 : Nat) (r : Bool), term_Each_sign_formed_1 n v1 v3 v4 v5 = some r → Meets Tryz.prog (.val (.fn (.func 75) [] [])) [(.agg [(.v (.int .i64 v1.op)), (.v (.int .i64 v1.hd)), (.v (.int .i64 v1.n)), (.v (.slice a2 ((Tm.encL v1.args).length) c2))]), (.v (.int .i64 v3)), (.fn (.func 76) [] [(.loc 0 0), (.loc 1 0)])] ⟨[.cells 4 [(.v (.bool v4))], .cells 22 [(.v (.slice a6 ((Dc.encL v5).length) c6))]], [], [(.slice a2 ((Tm.encL v1.args).length) c2, .sl 4 (Tm.encL v1.args)), (.slice a6 ((Dc.encL v5).length) c6, .sl 6 (Dc.encL v5))]⟩ (fun o S' => o = .ret (.tup []) ∧ S' = ⟨[.cells 4 [(.v (.bool r))], .cells 22 [(.v (.slice a6 ((Dc.encL v5).length) c6))]], [], []⟩)) := by
  intro N
  induction N with
  | zero =>
    intro n hn v1 v3 v4 v5 a2 c2 a6 c6 r hr; obtain rfl : n = 0 := (by omega); exact no_some hr
  | succ N ih =>
    intro n hn v1 v3 v4 v5 a2 c2 a6 c6 r hr
    rcases n with _ | n
    · exact no_some hr
    replace hn : n ≤ N := by omega
    rw [term_Each_sign_formed_1.eq_2] at hr
    refine spec_of_body (N := 29) (m := 2) (dt := drawsOf [(5, .node [0, 1, 2, 3, 6] [(4, .node [5] [(7, .leaf [])])], [7], [])]) [] ttOK Tryz.func75 rfl Tryz.call75 Tryz.ntmps75 rfl rfl rfl mixed (by kernel_rfl) ?_
    obtain ⟨v7, h8, hr⟩ := bind_some hr
    refine (sign_formed_1_spec n v1 v3 v4 v5 a2 c2 a6 c6 _ h8).frameR [0, 1] [0, 1] rfl rfl rfl rfl rfl rfl rfl rfl ?_
    rintro _ _ ⟨rfl, rfl⟩
    refine ⟨rfl, rfl, [.cells 4 [(.v (.bool v7))], .cells 22 [(.v (.slice a6 ((Dc.encL v5).length) c6))]], rfl, ?_⟩
    refine AtLoop.mk ⟨Nat × Bool × Int, fun x => [(1, (.v (.int .i64 v3))), (2, (.fn (.func 76) [] [(.loc 0 0), (.loc 1 0)])), (3, (.loc 2 0)), (13, (.v (.slice a2 ((Tm.encL v1.args).length) c2))), (14, (.v (.int .i64 ((Tm.encL v1.args).length : Int)))), (15, (.v (.int .i64 x.2.2)))], fun x => ⟨[.cells 4 [(.v (.bool x.2.1))], .cells 22 [(.v (.slice a6 ((Dc.encL v5).length) c6))], .cells 55 [(.v (.int .i64 v1.op)), (.v (.int .i64 v1.hd)), (.v (.int .i64 v1.n)), (.v (.slice a2 ((Tm.encL v1.args).length) c2))]], [], [(.slice a2 ((Tm.encL v1.args).length) c2, .sl 4 (Tm.encL v1.args)), (.slice a6 ((Dc.encL v5).length) c6, .sl 6 (Dc.encL v5))]⟩, fun x => x.1 ≤ N ∧ term_Each_sign_formed_1_L1 x.1 v1 v3 v5 x.2.1 x.2.2 = some r, fun x => x.1, (n, v7, 0), ⟨by omega, hr⟩, ⟨rfl, rfl, rfl, rfl, rfl, rfl, trivial⟩, (StLe.gen 3 [] [.old 0, .old 1] rfl rfl rfl rfl rfl rfl rfl), fun x _ => ⟨rfl, rfl⟩, ?_⟩
    rintro ⟨n, v19, v20⟩ HH
    obtain ⟨hn, hr⟩ : n ≤ N ∧ term_Each_sign_formed_1_L1 n v1 v3 v5 v19 v20 = some r := HH
    rcases n with _ | n
    · exact no_some hr
    rw [term_Each_sign_formed_1_L1.eq_2] at hr
    refine AtIf.mk (fun h21 => ?_) (fun h21 => ?_)
    · replace hr := cond_t h21 hr
      obtain ⟨v22, h23, hr⟩ := bind_some hr
      obtain ⟨h24, h25⟩ := idx_some h23
      refine at_index ttOK 0 rfl rfl rfl rfl h24 (Tm.encL_get h25) ?_
      intro a26 c26 _ _
      obtain ⟨v27, h28, hr⟩ := bind_some hr
      refine (term_Under_spec n v1 v20 a2 c2 _ h28).atR [0] rfl rfl rfl ?_
      rintro _ _ ⟨rfl, rfl⟩
      refine ⟨fun _ _ h => h, ?_⟩
      obtain ⟨v29, h30, hr⟩ := bind_some hr
      refine (ih n (by omega) v22 (IntKind.i64.wrap (v3 + v27)) v19 v5 a26 c26 a6 c6 _ h30).frameR [0, 1] [2, 1] rfl rfl rfl rfl rfl rfl rfl rfl ?_
      rintro _ _ ⟨rfl, rfl⟩
      refine ⟨rfl, rfl, [.cells 4 [(.v (.bool v29))], .cells 22 [(.v (.slice a6 ((Dc.encL v5).length) c6))]], rfl, ?_⟩
      exact ⟨(n, v29, (IntKind.i64.wrap (v20 + 1))), ⟨by omega, hr⟩, Nat.lt_succ_self _, ⟨rfl, rfl, rfl, rfl, rfl, rfl, trivial⟩, (StLe.gen 3 [] [.old 0, .old 1] rfl rfl rfl rfl rfl rfl rfl)⟩
    · replace hr := cond_f h21 hr
      replace hr := Option.some.inj hr
      subst hr
      exact AtRet.gen ⟨[.cells 4 [(.v (.bool v19))], .cells 22 [(.v (.slice a6 ((Dc.encL v5).length) c6))]], [], []⟩ (StLe.gen 2 [] [] rfl rfl rfl rfl rfl rfl rfl) rfl rfl ⟨rfl, rfl⟩
theorem term_Each_sign_formed_1_spec (n : Nat) (v1 : Tm) (v3 : Int) (v4 : Bool) (v5 : (List Dc)) (a2 : Option Addr) (c2 : Nat) (a6 : Option Addr) (c6 : Nat) (r : Bool) (hr : term_Each_sign_formed_1 n v1 v3 v4 v5 = some r) : Meets Tryz.prog (.val (.fn (.func 75) [] [])) [(.agg [(.v (.int .i64 v1.op)), (.v (.int .i64 v1.hd)), (.v (.int .i64 v1.n)), (.v (.slice a2 ((Tm.encL v1.args).length) c2))]), (.v (.int .i64 v3)), (.fn (.func 76) [] [(.loc 0 0), (.loc 1 0)])] ⟨[.cells 4 [(.v (.bool v4))], .cells 22 [(.v (.slice a6 ((Dc.encL v5).length) c6))]], [], [(.slice a2 ((Tm.encL v1.args).length) c2, .sl 4 (Tm.encL v1.args)), (.slice a6 ((Dc.encL v5).length) c6, .sl 6 (Dc.encL v5))]⟩ (fun o S' => o = .ret (.tup []) ∧ S' = ⟨[.cells 4 [(.v (.bool r))], .cells 22 [(.v (.slice a6 ((Dc.encL v5).length) c6))]], [], []⟩) := (term_Each_sign_formed_1_specN n) n (Nat.le_refl _) v1 v3 v4 v5 a2 c2 a6 c6 r hr
def sign_target : Nat → Tm → Option (Int × Bool)
  | 0, _ => none
  | n + 1, v1 =>
    (term_Domains n v1).bind (fun v3 =>
    some (v3.2.n, ((v3.2.op == 4) && (v3.2.hd == 2))))
theorem sign_target_spec (n : Nat) (v1 : Tm) (a2 : Option Addr) (c2 : Nat) (r : Int × Bool) (hr : sign_target n v1 = some r) : Pure Tryz.prog (.val (.fn (.func 77) [] [])) [(.agg [(.v (.int .i64 v1.op)), (.v (.int .i64 v1.hd)), (.v (.int .i64 v1.n)), (.v (.slice a2 ((Tm.encL v1.args).length) c2))])] [(.slice a2 ((Tm.encL v1.args).length) c2, .sl 4 (Tm.encL v1.args))] (fun r' out => r' = (.tup [(.v (.int .i64 r.1)), (.v (.bool r.2))]) ∧ out = []) := by
  rcases n with _ | n
  · exact no_some hr
  rw [sign_target.eq_2] at hr
  refine spec_of_body (N := 21) (m := 0) (dt := drawsOf [(2, .leaf [0, 1, 2, 3, 4, 5, 6, 7, 8, 9, 10, 11], [], [])]) [] ttOK Tryz.func77 rfl Tryz.call77 Tryz.ntmps77 rfl rfl rfl mixed (by kernel_rfl) ?_
  obtain ⟨v3, h4, hr⟩ := bind_some hr
  refine (term_Domains_spec n v1 a2 c2 _ h4).atR [0] rfl rfl rfl ?_
  rintro _ _ ⟨a5, c5, a6, c6, rfl, rfl⟩
  replace hr := Option.some.inj hr
  subst hr
  exact AtRet.pureG [] [] rfl rfl ⟨rfl, rfl⟩
def sign_formed : Nat → (List Dc) → Dc → Option (Bool)
  | 0, _, _ => none
  | n + 1, v1, v3 =>
    cond ((if isProper v3.cls then (0 : Int) else 2) != 0) (
    some (false)) (
    (sign_name n v3.name).bind (fun v6 =>
    cond ((!v6) || (decide (v3.implicit < 0))) (
    some (false)) (
    (term_Domains n v3.cls).bind (fun v9 =>
    (term_Each_sign_formed_1 n v3.cls 0 (decide (v3.implicit ≤ ((Tm.encL v9.1).length : Int))) v1).bind (fun v13 =>
    (sign_kind n v3.cls).bind (fun v15 =>
    cond v15 (
    some (v13)) (
    (sign_target n v3.cls).bind (fun v18 =>
    cond (v13 && v18.2) (
    (idx v1 v18.1).bind (fun v21 =>
    (sign_kind n v21.cls).bind (fun v26 =>
    some (v26)))) (
    some (false))))))))))
theorem sign_formed_spec (n : Nat) (v1 : (List Dc)) (v3 : Dc) (a2 : Option Addr) (c2 : Nat) (a4 : Option Addr) (c4 : Nat) (r : Bool) (hr : sign_formed n v1 v3 = some r) : Pure Tryz.prog (.val (.fn (.func 50) [] [])) [(.v (.slice a2 ((Dc.encL v1).length) c2)), (.agg [(.v (.string v3.name)), (.v (.int .i64 v3.cls.op)), (.v (.int .i64 v3.cls.hd)), (.v (.int .i64 v3.cls.n)), (.v (.slice a4 ((Tm.encL v3.cls.args).length) c4)), (.v (.int .i64 v3.implicit))])] [(.slice a2 ((Dc.encL v1).length) c2, .sl 6 (Dc.encL v1)), (.slice a4 ((Tm.encL v3.cls.args).length) c4, .sl 4 (Tm.encL v3.cls.args))] (fun r' out => r' = (.v (.bool r)) ∧ out = []) := by
  rcases n with _ | n
  · exact no_some hr
  rw [sign_formed.eq_2] at hr
  refine spec_of_body (N := 62) (m := 0) (dt := fun _ => none) [] ttOK Tryz.func50 rfl Tryz.call50 Tryz.ntmps50 rfl rfl rfl mixed (by kernel_rfl) ?_
  refine (check_spec v3.cls a4 c4).atR [1] rfl rfl rfl ?_
  rintro _ _ ⟨rfl, rfl⟩
  refine AtGuard.mk (fun h5 => ?_) (fun h5 => ?_)
  · replace hr := cond_f h5 hr
    obtain ⟨v6, h7, hr⟩ := bind_some hr
    refine (sign_name_spec n v3.name _ h7).atR [] rfl rfl rfl ?_
    rintro _ _ ⟨rfl, rfl⟩
    refine AtIf.mk (fun h8 => ?_) (fun h8 => ?_)
    · replace hr := cond_t h8 hr
      replace hr := Option.some.inj hr
      subst hr
      exact AtRet.pureG [] [] rfl rfl ⟨rfl, rfl⟩
    · replace hr := cond_f h8 hr
      obtain ⟨v9, h10, hr⟩ := bind_some hr
      refine (term_Domains_spec n v3.cls a4 c4 _ h10).atR [1] rfl rfl rfl ?_
      rintro _ _ ⟨a11, c11, a12, c12, rfl, rfl⟩
      obtain ⟨v13, h14, hr⟩ := bind_some hr
      refine (term_Each_sign_formed_1_spec n v3.cls 0 (decide (v3.implicit ≤ ((Tm.encL v9.1).length : Int))) v1 a4 c4 a2 c2 _ h14).frameR [3, 0] [1, 0] rfl rfl rfl rfl rfl rfl rfl rfl ?_
      rintro _ _ ⟨rfl, rfl⟩
      refine ⟨rfl, rfl, [.cells 4 [(.v (.bool v13))], .cells 22 [(.v (.slice a2 ((Dc.encL v1).length) c2))]], rfl, ?_⟩
      obtain ⟨v15, h16, hr⟩ := bind_some hr
      refine (sign_kind_spec n v3.cls a4 c4 _ h16).atR [1] rfl rfl rfl ?_
      rintro _ _ ⟨rfl, rfl⟩
      refine AtIf.mk (fun h17 => ?_) (fun h17 => ?_)
      · replace hr := cond_t h17 hr
        replace hr := Option.some.inj hr
        subst hr
        exact AtRet.pureG [] [] rfl rfl ⟨rfl, rfl⟩
      · replace hr := cond_f h17 hr
        obtain ⟨v18, h19, hr⟩ := bind_some hr
        refine (sign_target_spec n v3.cls a4 c4 _ h19).atR [1] rfl rfl rfl ?_
        rintro _ _ ⟨rfl, rfl⟩
        refine AtGuard.mk (fun h20 => ?_) (fun h20 => ?_)
        · replace hr := cond_t h20 hr
          obtain ⟨v21, h22, hr⟩ := bind_some hr
          obtain ⟨h23, h24⟩ := idx_some h22
          refine at_index ttOK 0 rfl rfl rfl rfl h23 (Dc.encL_get h24) ?_
          intro a25 c25 _ _
          obtain ⟨v26, h27, hr⟩ := bind_some hr
          refine (sign_kind_spec n v21.cls a25 c25 _ h27).atR [4] rfl rfl rfl ?_
          rintro _ _ ⟨rfl, rfl⟩
          replace hr := Option.some.inj hr
          subst hr
          exact AtRet.pureG [] [] rfl rfl ⟨rfl, rfl⟩
        · replace hr := cond_f h20 hr
          replace hr := Option.some.inj hr
          subst hr
          exact AtRet.pureG [] [] rfl rfl ⟨rfl, rfl⟩
  · replace hr := cond_t h5 hr
    refine AtIf.mk (fun _ => ?_) (fun h => tf h)
    replace hr := Option.some.inj hr
    subst hr
    exact AtRet.pureG [] [] rfl rfl ⟨rfl, rfl⟩
mutual
def sign_Check : Nat → (List Dc) → Option (Int)
  | 0, _ => none
  | n + 1, v1 =>
    cond (decide (((Dc.encL v1).length : Int) > 100)) (
    some (2)) (
    sign_Check_L1 n v1 ([]) 0)
def sign_Check_L1 : Nat → (List Dc) → (List (ByteArray × Bool)) → Int → Option (Int)
  | 0, _, _, _ => none
  | n + 1, v1, v16, v17 =>
    cond (decide (v17 < ((Dc.encL v1).length : Int))) (
    (idx v1 v17).bind (fun v19 =>
    cond (decide ((0 : Int) ≤ (0 : Int) ∧ (0 : Int) ≤ v17 ∧ v17 ≤ ((Dc.encL v1).length : Int))) (
    cond ((mget v16 v19.name).getD false) (
    some (2)) (
    (sign_formed n (v1.take v17.toNat) v19).bind (fun v27 =>
    cond (!v27) (
    some (2)) (
    sign_Check_L1 n v1 (mput v19.name true v16) (IntKind.i64.wrap (v17 + 1)))))) none)) (
    some (0))
 end
theorem sign_Check_spec (n : Nat) (v1 : (List Dc)) (a2 : Option Addr) (c2 : Nat) (r : Int) (hr : sign_Check n v1 = some r) : Pure Tryz.prog (.val (.fn (.func 21) [] [])) [(.v (.slice a2 ((Dc.encL v1).length) c2))] [(.slice a2 ((Dc.encL v1).length) c2, .sl 6 (Dc.encL v1))] (fun r' out => r' = (.v (.int .i64 r)) ∧ out = []) := by
  rcases n with _ | n
  · exact no_some hr
  rw [sign_Check.eq_2] at hr
  refine spec_of_body (N := 27) (m := 0) (dt := fun _ => none) [] ttOK Tryz.func21 rfl Tryz.call21 Tryz.ntmps21 rfl rfl rfl mixed (by kernel_rfl) ?_
  refine AtIf.mk (fun h3 => ?_) (fun h3 => ?_)
  · replace hr := cond_t h3 hr
    replace hr := Option.some.inj hr
    subst hr
    exact AtRet.pureG [] [] rfl rfl ⟨rfl, rfl⟩
  · replace hr := cond_f h3 hr
    refine at_makeMapS ?_
    refine spec_of_body (N := 4) (m := 3) (dt := fun _ => none) [] ttOK Tryz.func49 rfl Tryz.call49 Tryz.ntmps49 rfl rfl rfl mixed (by kernel_rfl) ?_
    refine AtRet.gen _ (StLe.refl _) rfl rfl ?_
    refine AtRange.mk ⟨[(2, (.loc 0 0)), (3, (.loc 2 0))], ⟨rfl, rfl, trivial⟩, rfl, rfl, ⟨_, _, _, rfl, Tryz.call72⟩, ?_⟩
    refine spec_of_body (N := 20) (m := 5) (dt := drawsOf [(3, .node [0, 1, 2, 3, 4] [(5, .leaf [6])], [5], [])]) [] ttOK Tryz.func72 rfl Tryz.call72 Tryz.ntmps72 rfl rfl rfl mixed (by kernel_rfl) ?_
    refine AtLoop.mk ⟨Nat × (List (ByteArray × Bool)) × Int, fun x => [(0, (.yld 4)), (1, (.loc 3 0)), (5, (.v (.slice a2 ((Dc.encL v1).length) c2))), (6, (.v (.int .i64 ((Dc.encL v1).length : Int)))), (7, (.v (.int .i64 x.2.2)))], fun x => ⟨[.cells 34 [(.v (.int .i64 0))], .obj (mapS (encM Value.bool x.2.1)), .cells 95 [(.mp 1)], .cells 22 [(.v (.slice a2 ((Dc.encL v1).length) c2))], .lp ⟨27, [(2, (.loc 0 0)), (3, (.loc 2 0))], #[12, 13], rfAs Tryz.f21, rfBody Tryz.f21, .ready, none⟩], [], [(.slice a2 ((Dc.encL v1).length) c2, .sl 6 (Dc.encL v1))]⟩, fun x => sign_Check_L1 x.1 v1 x.2.1 x.2.2 = some r, fun x => x.1, (n, [], 0), hr, ⟨rfl, rfl, rfl, rfl, rfl, trivial⟩, (StLe.gen 5 [] [.old 0] rfl rfl rfl rfl rfl rfl rfl), fun x _ => ⟨rfl, rfl⟩, ?_⟩
    rintro ⟨n, v16, v17⟩ HH
    have hr : sign_Check_L1 n v1 v16 v17 = some r := HH
    rcases n with _ | n
    · exact no_some hr
    rw [sign_Check_L1.eq_2] at hr
    refine AtIf.mk (fun h18 => ?_) (fun h18 => ?_)
    · replace hr := cond_t h18 hr
      obtain ⟨v19, h20, hr⟩ := bind_some hr
      obtain ⟨h21, h22⟩ := idx_some h20
      refine at_index ttOK 0 rfl rfl rfl rfl h21 (Dc.encL_get h22) ?_
      intro a23 c23 _ _
      obtain ⟨h24, hr⟩ := cond_need hr
      refine at_sliceG ttOK 0 0 v17 (ds' := (Dc.encL (v1.take v17.toNat))) rfl rfl rfl (.inr ⟨rfl, rfl⟩) (.inl ⟨_, rfl⟩) h24 (by simp only [Dc.encL_eq]; exact sl_h ..) ?_
      intro a25 c25
      refine spec_of_round (N := 27) (m := 7) (dt := fun _ => none) [] ttOK rfl rfl rfl rfl rfl rfl mixed (by kernel_rfl) (by kernel_rfl) ?_
      refine at_lookupSG ttOK Value.bool false rfl Tryz.underlying9 rfl rfl rfl rfl ?_
      refine AtGuard.mk (fun h26 => ?_) (fun h26 => ?_)
      · replace hr := cond_f h26 hr
        obtain ⟨v27, h28, hr⟩ := bind_some hr
        refine (sign_formed_spec n (v1.take v17.toNat) v19 a25 c25 a23 c23 _ h28).atR [2, 1] rfl rfl rfl ?_
        rintro _ _ ⟨rfl, rfl⟩
        refine AtIf.mk (fun h29 => ?_) (fun h29 => ?_)
        · replace hr := cond_t h29 hr
          refine AtRet.gen _ (StLe.refl _) rfl rfl ?_
          refine AtIf.mk (fun _ => ?_) (fun h => tf h)
          refine AtRet.gen _ (StLe.refl _) rfl rfl ?_
          replace hr := Option.some.inj hr
          subst hr
          exact AtRet.pureG [] [] rfl rfl ⟨rfl, rfl⟩
        · replace hr := cond_f h29 hr
          refine at_mapPutS (l := encM Value.bool v16) ttOK (.bool true) rfl Tryz.underlying9 rfl rfl rfl (fun _ => rfl) ?_
          rw [putS_enc Value.bool v19.name true v16]
          refine AtRet.gen _ (StLe.refl _) rfl rfl ?_
          refine AtIf.mk (fun h => ff h) (fun _ => ?_)
          exact ⟨(n, (mput v19.name true v16), (IntKind.i64.wrap (v17 + 1))), hr, Nat.lt_succ_self _, ⟨rfl, rfl, rfl, rfl, rfl, trivial⟩, (StLe.gen 5 [] [.old 0] rfl rfl rfl rfl rfl rfl rfl)⟩
      · replace hr := cond_t h26 hr
        refine AtIf.mk (fun _ => ?_) (fun h => tf h)
        refine AtRet.gen _ (StLe.refl _) rfl rfl ?_
        refine AtIf.mk (fun _ => ?_) (fun h => tf h)
        refine AtRet.gen _ (StLe.refl _) rfl rfl ?_
        replace hr := Option.some.inj hr
        subst hr
        exact AtRet.pureG [] [] rfl rfl ⟨rfl, rfl⟩
    · replace hr := cond_f h18 hr
      refine AtRet.gen _ (StLe.refl _) rfl rfl ?_
      replace hr := Option.some.inj hr
      subst hr
      exact AtRet.pureG [] [] rfl rfl ⟨rfl, rfl⟩
def sign_Family : Nat → (List Dc) → Int → Option (Bool)
  | 0, _, _ => none
  | n + 1, v1, v3 =>
    (idx v1 v3).bind (fun v4 =>
    (sign_kind n v4.cls).bind (fun v9 =>
    some (v9)))
theorem sign_Family_spec (n : Nat) (v1 : (List Dc)) (v3 : Int) (a2 : Option Addr) (c2 : Nat) (r : Bool) (hr : sign_Family n v1 v3 = some r) : Pure Tryz.prog (.val (.fn (.func 28) [] [])) [(.v (.slice a2 ((Dc.encL v1).length) c2)), (.v (.int .i64 v3))] [(.slice a2 ((Dc.encL v1).length) c2, .sl 6 (Dc.encL v1))] (fun r' out => r' = (.v (.bool r)) ∧ out = []) := by
  rcases n with _ | n
  · exact no_some hr
  rw [sign_Family.eq_2] at hr
  refine spec_of_body (N := 11) (m := 0) (dt := fun _ => none) [] ttOK Tryz.func28 rfl Tryz.call28 Tryz.ntmps28 rfl rfl rfl mixed (by kernel_rfl) ?_
  obtain ⟨v4, h5, hr⟩ := bind_some hr
  obtain ⟨h6, h7⟩ := idx_some h5
  refine at_index ttOK 0 rfl rfl rfl rfl h6 (Dc.encL_get h7) ?_
  intro a8 c8 _ _
  obtain ⟨v9, h10, hr⟩ := bind_some hr
  refine (sign_kind_spec n v4.cls a8 c8 _ h10).atR [1] rfl rfl rfl ?_
  rintro _ _ ⟨rfl, rfl⟩
  replace hr := Option.some.inj hr
  subst hr
  exact AtRet.pureG [] [] rfl rfl ⟨rfl, rfl⟩
def mode_isMode_1 : Nat → Int → Option (Bool)
  | 0, _ => none
  | n + 1, v1 =>
    some (((decide (v1 < 1)) || (decide (v1 > 3))))
theorem mode_isMode_1_spec (n : Nat) (v1 : Int)  (r : Bool) (hr : mode_isMode_1 n v1 = some r) : Pure Tryz.prog (.val (.fn (.func 52) [] [])) [(.v (.int .i64 v1))] [] (fun r' out => r' = (.v (.bool r)) ∧ out = []) := by
  rcases n with _ | n
  · exact no_some hr
  rw [mode_isMode_1.eq_2] at hr
  refine spec_of_body (N := 9) (m := 0) (dt := fun _ => none) [] ttOK Tryz.func52 rfl Tryz.call52 Tryz.ntmps52 rfl rfl rfl mixed (by kernel_rfl) ?_
  replace hr := Option.some.inj hr
  subst hr
  exact AtRet.pureG [] [] rfl rfl ⟨rfl, rfl⟩
mutual
def slices_IndexFunc_mode_isMode_1 : Nat → (List Int) → Option (Int)
  | 0, _ => none
  | n + 1, v1 =>
    slices_IndexFunc_mode_isMode_1_L1 n v1 0
def slices_IndexFunc_mode_isMode_1_L1 : Nat → (List Int) → Int → Option (Int)
  | 0, _, _ => none
  | n + 1, v1, v11 =>
    cond (decide (v11 < ((List.map (D.int .i64) v1).length : Int))) (
    (idx v1 v11).bind (fun v13 =>
    (mode_isMode_1 n v13).bind (fun v17 =>
    cond v17 (
    some (v11)) (
    slices_IndexFunc_mode_isMode_1_L1 n v1 (IntKind.i64.wrap (v11 + 1)))))) (
    some ((-1)))
 end
theorem slices_IndexFunc_mode_isMode_1_spec (n : Nat) (v1 : (List Int)) (a2 : Option Addr) (c2 : Nat) (r : Int) (hr : slices_IndexFunc_mode_isMode_1 n v1 = some r) : Pure Tryz.prog (.val (.fn (.func 78) [] [])) [(.v (.slice a2 ((List.map (D.int .i64) v1).length) c2)), (.fn (.func 52) [] [])] [(.slice a2 ((List.map (D.int .i64) v1).length) c2, .sl 1 (List.map (D.int .i64) v1))] (fun r' out => r' = (.v (.int .i64 r)) ∧ out = []) := by
  rcases n with _ | n
  · exact no_some hr
  rw [slices_IndexFunc_mode_isMode_1.eq_2] at hr
  refine spec_of_body (N := 19) (m := 0) (dt := fun _ => none) [] ttOK Tryz.func78 rfl Tryz.call78 Tryz.ntmps78 rfl rfl rfl mixed (by kernel_rfl) ?_
  refine AtLoop.mk ⟨Nat × Int, fun x => [(0, (.v (.slice a2 ((List.map (D.int .i64) v1).length) c2))), (1, (.fn (.func 52) [] [])), (7, (.v (.int .i64 ((List.map (D.int .i64) v1).length : Int)))), (8, (.v (.int .i64 x.2)))], fun x => ⟨[], [], [(.slice a2 ((List.map (D.int .i64) v1).length) c2, .sl 1 (List.map (D.int .i64) v1))]⟩, fun x => slices_IndexFunc_mode_isMode_1_L1 x.1 v1 x.2 = some r, fun x => x.1, (n, 0), hr, ⟨rfl, rfl, rfl, rfl, trivial⟩, (StLe.gen 0 [] [.old 0] rfl rfl rfl rfl rfl rfl rfl), fun x _ => ⟨rfl, rfl⟩, ?_⟩
  rintro ⟨n, v11⟩ HH
  have hr : slices_IndexFunc_mode_isMode_1_L1 n v1 v11 = some r := HH
  rcases n with _ | n
  · exact no_some hr
  rw [slices_IndexFunc_mode_isMode_1_L1.eq_2] at hr
  refine AtIf.mk (fun h12 => ?_) (fun h12 => ?_)
  · replace hr := cond_t h12 hr
    obtain ⟨v13, h14, hr⟩ := bind_some hr
    obtain ⟨h15, h16⟩ := idx_some h14
    refine at_index ttOK 0 rfl rfl rfl rfl h15 (map_get (D.int .i64) h16) ?_
    obtain ⟨v17, h18, hr⟩ := bind_some hr
    refine (mode_isMode_1_spec n v13 _ h18).atR [] rfl rfl rfl ?_
    rintro _ _ ⟨rfl, rfl⟩
    refine AtIf.mk (fun h19 => ?_) (fun h19 => ?_)
    · replace hr := cond_t h19 hr
      replace hr := Option.some.inj hr
      subst hr
      exact AtRet.pureG [] [] rfl rfl ⟨rfl, rfl⟩
    · replace hr := cond_f h19 hr
      exact ⟨(n, (IntKind.i64.wrap (v11 + 1))), hr, Nat.lt_succ_self _, ⟨rfl, rfl, rfl, rfl, trivial⟩, (StLe.gen 0 [] [.old 0] rfl rfl rfl rfl rfl rfl rfl)⟩
  · replace hr := cond_f h12 hr
    replace hr := Option.some.inj hr
    subst hr
    exact AtRet.pureG [] [] rfl rfl ⟨rfl, rfl⟩
def slices_ContainsFunc_mode_isMode_1 : Nat → (List Int) → Option (Bool)
  | 0, _ => none
  | n + 1, v1 =>
    (slices_IndexFunc_mode_isMode_1 n v1).bind (fun v3 =>
    some ((decide (v3 ≥ 0))))
theorem slices_ContainsFunc_mode_isMode_1_spec (n : Nat) (v1 : (List Int)) (a2 : Option Addr) (c2 : Nat) (r : Bool) (hr : slices_ContainsFunc_mode_isMode_1 n v1 = some r) : Pure Tryz.prog (.val (.fn (.func 51) [] [])) [(.v (.slice a2 ((List.map (D.int .i64) v1).length) c2)), (.fn (.func 52) [] [])] [(.slice a2 ((List.map (D.int .i64) v1).length) c2, .sl 1 (List.map (D.int .i64) v1))] (fun r' out => r' = (.v (.bool r)) ∧ out = []) := by
  rcases n with _ | n
  · exact no_some hr
  rw [slices_ContainsFunc_mode_isMode_1.eq_2] at hr
  refine spec_of_body (N := 9) (m := 0) (dt := fun _ => none) [] ttOK Tryz.func51 rfl Tryz.call51 Tryz.ntmps51 rfl rfl rfl mixed (by kernel_rfl) ?_
  obtain ⟨v3, h4, hr⟩ := bind_some hr
  refine (slices_IndexFunc_mode_isMode_1_spec n v1 a2 c2 _ h4).atR [0] rfl rfl rfl ?_
  rintro _ _ ⟨rfl, rfl⟩
  replace hr := Option.some.inj hr
  subst hr
  exact AtRet.pureG [] [] rfl rfl ⟨rfl, rfl⟩
def mode_isMode : Nat → (List Dc) → Md → Option (Bool)
  | 0, _, _ => none
  | n + 1, v1, v3 =>
    cond ((decide (v3.family < 0)) || (decide (v3.family ≥ ((Dc.encL v1).length : Int)))) (
    some (false)) (
    (sign_Family n v1 v3.family).bind (fun v6 =>
    cond (!v6) (
    some (false)) (
    (idx v1 v3.family).bind (fun v9 =>
    (term_Domains n v9.cls).bind (fun v14 =>
    cond (((Tm.encL v14.1).length : Int) == ((List.map (D.int .i64) v3.signs).length : Int)) (
    (slices_ContainsFunc_mode_isMode_1 n v3.signs).bind (fun v19 =>
    some ((!v19)))) (
    some (false)))))))
theorem mode_isMode_spec (n : Nat) (v1 : (List Dc)) (v3 : Md) (a2 : Option Addr) (c2 : Nat) (a4 : Option Addr) (c4 : Nat) (r : Bool) (hr : mode_isMode n v1 v3 = some r) : Pure Tryz.prog (.val (.fn (.func 22) [] [])) [(.v (.slice a2 ((Dc.encL v1).length) c2)), (.agg [(.v (.int .i64 v3.family)), (.v (.slice a4 ((List.map (D.int .i64) v3.signs).length) c4))])] [(.slice a2 ((Dc.encL v1).length) c2, .sl 6 (Dc.encL v1)), (.slice a4 ((List.map (D.int .i64) v3.signs).length) c4, .sl 1 (List.map (D.int .i64) v3.signs))] (fun r' out => r' = (.v (.bool r)) ∧ out = []) := by
  rcases n with _ | n
  · exact no_some hr
  rw [mode_isMode.eq_2] at hr
  refine spec_of_body (N := 46) (m := 0) (dt := fun _ => none) [] ttOK Tryz.func22 rfl Tryz.call22 Tryz.ntmps22 rfl rfl rfl mixed (by kernel_rfl) ?_
  refine AtGuard.mk (fun h5 => ?_) (fun h5 => ?_)
  · replace hr := cond_f h5 hr
    obtain ⟨v6, h7, hr⟩ := bind_some hr
    refine (sign_Family_spec n v1 v3.family a2 c2 _ h7).atR [0] rfl rfl rfl ?_
    rintro _ _ ⟨rfl, rfl⟩
    refine AtIf.mk (fun h8 => ?_) (fun h8 => ?_)
    · replace hr := cond_t h8 hr
      replace hr := Option.some.inj hr
      subst hr
      exact AtRet.pureG [] [] rfl rfl ⟨rfl, rfl⟩
    · replace hr := cond_f h8 hr
      obtain ⟨v9, h10, hr⟩ := bind_some hr
      obtain ⟨h11, h12⟩ := idx_some h10
      refine at_index ttOK 0 rfl rfl rfl rfl h11 (Dc.encL_get h12) ?_
      intro a13 c13 _ _
      obtain ⟨v14, h15, hr⟩ := bind_some hr
      refine (term_Domains_spec n v9.cls a13 c13 _ h15).atR [2] rfl rfl rfl ?_
      rintro _ _ ⟨a16, c16, a17, c17, rfl, rfl⟩
      refine AtGuard.mk (fun h18 => ?_) (fun h18 => ?_)
      · replace hr := cond_t h18 hr
        obtain ⟨v19, h20, hr⟩ := bind_some hr
        refine (slices_ContainsFunc_mode_isMode_1_spec n v3.signs a4 c4 _ h20).atR [1] rfl rfl rfl ?_
        rintro _ _ ⟨rfl, rfl⟩
        replace hr := Option.some.inj hr
        subst hr
        exact AtRet.pureG [] [] rfl rfl ⟨rfl, rfl⟩
      · replace hr := cond_f h18 hr
        replace hr := Option.some.inj hr
        subst hr
        exact AtRet.pureG [] [] rfl rfl ⟨rfl, rfl⟩
  · replace hr := cond_t h5 hr
    refine AtIf.mk (fun _ => ?_) (fun h => tf h)
    replace hr := Option.some.inj hr
    subst hr
    exact AtRet.pureG [] [] rfl rfl ⟨rfl, rfl⟩
mutual
def slices_Equal : Nat → (List Int) → (List Int) → Option (Bool)
  | 0, _, _ => none
  | n + 1, v1, v3 =>
    cond (((List.map (D.int .i64) v1).length : Int) != ((List.map (D.int .i64) v3).length : Int)) (
    some (false)) (
    slices_Equal_L1 n v1 v3 0)
def slices_Equal_L1 : Nat → (List Int) → (List Int) → Int → Option (Bool)
  | 0, _, _, _ => none
  | n + 1, v1, v3, v16 =>
    cond (decide (v16 < ((List.map (D.int .i64) v1).length : Int))) (
    (idx v1 v16).bind (fun v18 =>
    (idx v3 v16).bind (fun v22 =>
    cond (v18 != v22) (
    some (false)) (
    slices_Equal_L1 n v1 v3 (IntKind.i64.wrap (v16 + 1)))))) (
    some (true))
 end
theorem slices_Equal_spec (n : Nat) (v1 : (List Int)) (v3 : (List Int)) (a2 : Option Addr) (c2 : Nat) (a4 : Option Addr) (c4 : Nat) (r : Bool) (hr : slices_Equal n v1 v3 = some r) : Pure Tryz.prog (.val (.fn (.func 24) [] [])) [(.v (.slice a2 ((List.map (D.int .i64) v1).length) c2)), (.v (.slice a4 ((List.map (D.int .i64) v3).length) c4))] [(.slice a2 ((List.map (D.int .i64) v1).length) c2, .sl 1 (List.map (D.int .i64) v1)), (.slice a4 ((List.map (D.int .i64) v3).length) c4, .sl 1 (List.map (D.int .i64) v3))] (fun r' out => r' = (.v (.bool r)) ∧ out = []) := by
  rcases n with _ | n
  · exact no_some hr
  rw [slices_Equal.eq_2] at hr
  refine spec_of_body (N := 26) (m := 0) (dt := drawsOf [(6, .leaf [0, 1, 2, 3, 4, 5, 6, 7, 8], [], [])]) [] ttOK Tryz.func24 rfl Tryz.call24 Tryz.ntmps24 rfl rfl rfl mixed (by kernel_rfl) ?_
  refine AtIf.mk (fun h5 => ?_) (fun h5 => ?_)
  · replace hr := cond_t h5 hr
    replace hr := Option.some.inj hr
    subst hr
    exact AtRet.pureG [] [] rfl rfl ⟨rfl, rfl⟩
  · replace hr := cond_f h5 hr
    refine AtLoop.mk ⟨Nat × Int, fun x => [(0, (.v (.slice a2 ((List.map (D.int .i64) v1).length) c2))), (1, (.v (.slice a4 ((List.map (D.int .i64) v3).length) c4))), (12, (.v (.int .i64 ((List.map (D.int .i64) v1).length : Int)))), (13, (.v (.int .i64 x.2)))], fun x => ⟨[], [], [(.slice a2 ((List.map (D.int .i64) v1).length) c2, .sl 1 (List.map (D.int .i64) v1)), (.slice a4 ((List.map (D.int .i64) v3).length) c4, .sl 1 (List.map (D.int .i64) v3))]⟩, fun x => slices_Equal_L1 x.1 v1 v3 x.2 = some r, fun x => x.1, (n, 0), hr, ⟨rfl, rfl, rfl, rfl, trivial⟩, (StLe.gen 0 [] [.old 0, .old 1] rfl rfl rfl rfl rfl rfl rfl), fun x _ => ⟨rfl, rfl⟩, ?_⟩
    rintro ⟨n, v16⟩ HH
    have hr : slices_Equal_L1 n v1 v3 v16 = some r := HH
    rcases n with _ | n
    · exact no_some hr
    rw [slices_Equal_L1.eq_2] at hr
    refine AtIf.mk (fun h17 => ?_) (fun h17 => ?_)
    · replace hr := cond_t h17 hr
      obtain ⟨v18, h19, hr⟩ := bind_some hr
      obtain ⟨h20, h21⟩ := idx_some h19
      refine at_index ttOK 0 rfl rfl rfl rfl h20 (map_get (D.int .i64) h21) ?_
      obtain ⟨v22, h23, hr⟩ := bind_some hr
      obtain ⟨h24, h25⟩ := idx_some h23
      refine at_index ttOK 1 rfl rfl rfl rfl h24 (map_get (D.int .i64) h25) ?_
      refine AtIf.mk (fun h26 => ?_) (fun h26 => ?_)
      · replace hr := cond_t h26 hr
        replace hr := Option.some.inj hr
        subst hr
        exact AtRet.pureG [] [] rfl rfl ⟨rfl, rfl⟩
      · replace hr := cond_f h26 hr
        exact ⟨(n, (IntKind.i64.wrap (v16 + 1))), hr, Nat.lt_succ_self _, ⟨rfl, rfl, rfl, rfl, trivial⟩, (StLe.gen 0 [] [.old 0, .old 1] rfl rfl rfl rfl rfl rfl rfl)⟩
    · replace hr := cond_f h17 hr
      replace hr := Option.some.inj hr
      subst hr
      exact AtRet.pureG [] [] rfl rfl ⟨rfl, rfl⟩
mutual
def sign_Find : Nat → (List Dc) → ByteArray → Option (Int × Int)
  | 0, _, _ => none
  | n + 1, v1, v3 =>
    (sign_Check n v1).bind (fun v4 =>
    cond (v4 != 0) (
    some (0, v4)) (
    sign_Find_L1 n v1 v3 0))
def sign_Find_L1 : Nat → (List Dc) → ByteArray → Int → Option (Int × Int)
  | 0, _, _, _ => none
  | n + 1, v1, v3, v14 =>
    cond (decide (v14 < ((Dc.encL v1).length : Int))) (
    (idx v1 v14).bind (fun v16 =>
    cond (v16.name.toList == v3.toList) (
    some (v14, 0)) (
    sign_Find_L1 n v1 v3 (IntKind.i64.wrap (v14 + 1))))) (
    some (0, 6))
 end
theorem sign_Find_spec (n : Nat) (v1 : (List Dc)) (v3 : ByteArray) (a2 : Option Addr) (c2 : Nat) (r : Int × Int) (hr : sign_Find n v1 v3 = some r) : Pure Tryz.prog (.val (.fn (.func 27) [] [])) [(.v (.slice a2 ((Dc.encL v1).length) c2)), (.v (.string v3))] [(.slice a2 ((Dc.encL v1).length) c2, .sl 6 (Dc.encL v1))] (fun r' out => r' = (.tup [(.v (.int .i64 r.1)), (.v (.int .i64 r.2))]) ∧ out = []) := by
  rcases n with _ | n
  · exact no_some hr
  rw [sign_Find.eq_2] at hr
  refine spec_of_body (N := 27) (m := 0) (dt := fun _ => none) [] ttOK Tryz.func27 rfl Tryz.call27 Tryz.ntmps27 rfl rfl rfl mixed (by kernel_rfl) ?_
  obtain ⟨v4, h5, hr⟩ := bind_some hr
  refine (sign_Check_spec n v1 a2 c2 _ h5).atR [0] rfl rfl rfl ?_
  rintro _ _ ⟨rfl, rfl⟩
  refine AtIf.mk (fun h6 => ?_) (fun h6 => ?_)
  · replace hr := cond_t h6 hr
    replace hr := Option.some.inj hr
    subst hr
    exact AtRet.pureG [] [] rfl rfl ⟨rfl, rfl⟩
  · replace hr := cond_f h6 hr
    refine AtLoop.mk ⟨Nat × Int, fun x => [(1, (.v (.string v3))), (14, (.v (.slice a2 ((Dc.encL v1).length) c2))), (15, (.v (.int .i64 ((Dc.encL v1).length : Int)))), (16, (.v (.int .i64 x.2)))], fun x => ⟨[], [], [(.slice a2 ((Dc.encL v1).length) c2, .sl 6 (Dc.encL v1))]⟩, fun x => sign_Find_L1 x.1 v1 v3 x.2 = some r, fun x => x.1, (n, 0), hr, ⟨rfl, rfl, rfl, rfl, trivial⟩, (StLe.gen 0 [] [.old 0] rfl rfl rfl rfl rfl rfl rfl), fun x _ => ⟨rfl, rfl⟩, ?_⟩
    rintro ⟨n, v14⟩ HH
    have hr : sign_Find_L1 n v1 v3 v14 = some r := HH
    rcases n with _ | n
    · exact no_some hr
    rw [sign_Find_L1.eq_2] at hr
    refine AtIf.mk (fun h15 => ?_) (fun h15 => ?_)
    · replace hr := cond_t h15 hr
      obtain ⟨v16, h17, hr⟩ := bind_some hr
      obtain ⟨h18, h19⟩ := idx_some h17
      refine at_index ttOK 0 rfl rfl rfl rfl h18 (Dc.encL_get h19) ?_
      intro a20 c20 _ _
      refine AtIf.mk (fun h21 => ?_) (fun h21 => ?_)
      · replace hr := cond_t h21 hr
        replace hr := Option.some.inj hr
        subst hr
        exact AtRet.pureG [] [] rfl rfl ⟨rfl, rfl⟩
      · replace hr := cond_f h21 hr
        exact ⟨(n, (IntKind.i64.wrap (v14 + 1))), hr, Nat.lt_succ_self _, ⟨rfl, rfl, rfl, rfl, trivial⟩, (StLe.gen 0 [] [.old 0] rfl rfl rfl rfl rfl rfl rfl)⟩
    · replace hr := cond_f h15 hr
      replace hr := Option.some.inj hr
      subst hr
      exact AtRet.pureG [] [] rfl rfl ⟨rfl, rfl⟩
mutual
def slices_Index : Nat → (List Int) → Int → Option (Int)
  | 0, _, _ => none
  | n + 1, v1, v3 =>
    slices_Index_L1 n v1 v3 0
def slices_Index_L1 : Nat → (List Int) → Int → Int → Option (Int)
  | 0, _, _, _ => none
  | n + 1, v1, v3, v10 =>
    cond (decide (v10 < ((List.map (D.int .i64) v1).length : Int))) (
    (idx v1 v10).bind (fun v12 =>
    cond (v3 == v12) (
    some (v10)) (
    slices_Index_L1 n v1 v3 (IntKind.i64.wrap (v10 + 1))))) (
    some ((-1)))
 end
theorem slices_Index_spec (n : Nat) (v1 : (List Int)) (v3 : Int) (a2 : Option Addr) (c2 : Nat) (r : Int) (hr : slices_Index n v1 v3 = some r) : Pure Tryz.prog (.val (.fn (.func 114) [] [])) [(.v (.slice a2 ((List.map (D.int .i64) v1).length) c2)), (.v (.int .i64 v3))] [(.slice a2 ((List.map (D.int .i64) v1).length) c2, .sl 1 (List.map (D.int .i64) v1))] (fun r' out => r' = (.v (.int .i64 r)) ∧ out = []) := by
  rcases n with _ | n
  · exact no_some hr
  rw [slices_Index.eq_2] at hr
  refine spec_of_body (N := 19) (m := 0) (dt := fun _ => none) [] ttOK Tryz.func114 rfl Tryz.call114 Tryz.ntmps114 rfl rfl rfl mixed (by kernel_rfl) ?_
  refine AtLoop.mk ⟨Nat × Int, fun x => [(0, (.v (.slice a2 ((List.map (D.int .i64) v1).length) c2))), (1, (.v (.int .i64 v3))), (7, (.v (.int .i64 ((List.map (D.int .i64) v1).length : Int)))), (8, (.v (.int .i64 x.2)))], fun x => ⟨[], [], [(.slice a2 ((List.map (D.int .i64) v1).length) c2, .sl 1 (List.map (D.int .i64) v1))]⟩, fun x => slices_Index_L1 x.1 v1 v3 x.2 = some r, fun x => x.1, (n, 0), hr, ⟨rfl, rfl, rfl, rfl, trivial⟩, (StLe.gen 0 [] [.old 0] rfl rfl rfl rfl rfl rfl rfl), fun x _ => ⟨rfl, rfl⟩, ?_⟩
  rintro ⟨n, v10⟩ HH
  have hr : slices_Index_L1 n v1 v3 v10 = some r := HH
  rcases n with _ | n
  · exact no_some hr
  rw [slices_Index_L1.eq_2] at hr
  refine AtIf.mk (fun h11 => ?_) (fun h11 => ?_)
  · replace hr := cond_t h11 hr
    obtain ⟨v12, h13, hr⟩ := bind_some hr
    obtain ⟨h14, h15⟩ := idx_some h13
    refine at_index ttOK 0 rfl rfl rfl rfl h14 (map_get (D.int .i64) h15) ?_
    refine AtIf.mk (fun h16 => ?_) (fun h16 => ?_)
    · replace hr := cond_t h16 hr
      replace hr := Option.some.inj hr
      subst hr
      exact AtRet.pureG [] [] rfl rfl ⟨rfl, rfl⟩
    · replace hr := cond_f h16 hr
      exact ⟨(n, (IntKind.i64.wrap (v10 + 1))), hr, Nat.lt_succ_self _, ⟨rfl, rfl, rfl, rfl, trivial⟩, (StLe.gen 0 [] [.old 0] rfl rfl rfl rfl rfl rfl rfl)⟩
  · replace hr := cond_f h11 hr
    replace hr := Option.some.inj hr
    subst hr
    exact AtRet.pureG [] [] rfl rfl ⟨rfl, rfl⟩
def slices_Contains : Nat → (List Int) → Int → Option (Bool)
  | 0, _, _ => none
  | n + 1, v1, v3 =>
    (slices_Index n v1 v3).bind (fun v4 =>
    some ((decide (v4 ≥ 0))))
theorem slices_Contains_spec (n : Nat) (v1 : (List Int)) (v3 : Int) (a2 : Option Addr) (c2 : Nat) (r : Bool) (hr : slices_Contains n v1 v3 = some r) : Pure Tryz.prog (.val (.fn (.func 86) [] [])) [(.v (.slice a2 ((List.map (D.int .i64) v1).length) c2)), (.v (.int .i64 v3))] [(.slice a2 ((List.map (D.int .i64) v1).length) c2, .sl 1 (List.map (D.int .i64) v1))] (fun r' out => r' = (.v (.bool r)) ∧ out = []) := by
  rcases n with _ | n
  · exact no_some hr
  rw [slices_Contains.eq_2] at hr
  refine spec_of_body (N := 9) (m := 0) (dt := fun _ => none) [] ttOK Tryz.func86 rfl Tryz.call86 Tryz.ntmps86 rfl rfl rfl mixed (by kernel_rfl) ?_
  obtain ⟨v4, h5, hr⟩ := bind_some hr
  refine (slices_Index_spec n v1 v3 a2 c2 _ h5).atR [0] rfl rfl rfl ?_
  rintro _ _ ⟨rfl, rfl⟩
  replace hr := Option.some.inj hr
  subst hr
  exact AtRet.pureG [] [] rfl rfl ⟨rfl, rfl⟩
def term_Occurs : Nat → Tm → Int → Option (Bool × Int)
  | 0, _, _ => none
  | n + 1, v1, v3 =>
    (slices_Contains n (freeL v1) v3).bind (fun v5 =>
    some (v5, (freeE v1)))
theorem term_Occurs_spec (n : Nat) (v1 : Tm) (v3 : Int) (a2 : Option Addr) (c2 : Nat) (r : Bool × Int) (hr : term_Occurs n v1 v3 = some r) : Pure Tryz.prog (.val (.fn (.func 59) [] [])) [(.agg [(.v (.int .i64 v1.op)), (.v (.int .i64 v1.hd)), (.v (.int .i64 v1.n)), (.v (.slice a2 ((Tm.encL v1.args).length) c2))]), (.v (.int .i64 v3))] [(.slice a2 ((Tm.encL v1.args).length) c2, .sl 4 (Tm.encL v1.args))] (fun r' out => r' = (.tup [(.v (.bool r.1)), (.v (.int .i64 r.2))]) ∧ out = []) := by
  rcases n with _ | n
  · exact no_some hr
  rw [term_Occurs.eq_2] at hr
  refine spec_of_body (N := 17) (m := 0) (dt := fun _ => none) [] ttOK Tryz.func59 rfl Tryz.call59 Tryz.ntmps59 rfl rfl rfl mixed (by kernel_rfl) ?_
  refine (free0 v1 a2 c2).atR [0] rfl rfl rfl ?_
  rintro _ _ ⟨a4, c4, rfl, rfl⟩
  obtain ⟨v5, h6, hr⟩ := bind_some hr
  refine (slices_Contains_spec n (freeL v1) v3 a4 c4 _ h6).atR [1] rfl rfl rfl ?_
  rintro _ _ ⟨rfl, rfl⟩
  replace hr := Option.some.inj hr
  subst hr
  exact AtRet.pureG [] [] rfl rfl ⟨rfl, rfl⟩
mutual
def mode_stands : Nat → (List Tm) → (List Int) → Int → Int → Int → Option (Bool)
  | 0, _, _, _, _, _ => none
  | n + 1, v1, v3, v5, v6, v7 =>
    mode_stands_L1 n v1 v5 v3 v7 v6
def mode_stands_L1 : Nat → (List Tm) → Int → (List Int) → Int → Int → Option (Bool)
  | 0, _, _, _, _, _ => none
  | n + 1, v1, v5, v3, v7, v22 =>
    cond (decide (v22 < ((Tm.encL v1).length : Int))) (
    (idx v1 v22).bind (fun v24 =>
    (term_Occurs n v24 (IntKind.i64.wrap ((IntKind.i64.wrap (v22 - 1)) - v5))).bind (fun v29 =>
    cond v29.1 (
    (idx v3 v22).bind (fun v32 =>
    cond (v32 == v7) (
    some (true)) (
    mode_stands_L1 n v1 v5 v3 v7 (IntKind.i64.wrap (v22 + 1))))) (
    mode_stands_L1 n v1 v5 v3 v7 (IntKind.i64.wrap (v22 + 1)))))) (
    some (false))
 end
theorem mode_stands_spec (n : Nat) (v1 : (List Tm)) (v3 : (List Int)) (v5 : Int) (v6 : Int) (v7 : Int) (a2 : Option Addr) (c2 : Nat) (a4 : Option Addr) (c4 : Nat) (r : Bool) (hr : mode_stands n v1 v3 v5 v6 v7 = some r) : Pure Tryz.prog (.val (.fn (.func 30) [] [])) [(.v (.slice a2 ((Tm.encL v1).length) c2)), (.v (.slice a4 ((List.map (D.int .i64) v3).length) c4)), (.v (.int .i64 v5)), (.v (.int .i64 v6)), (.v (.int .i64 v7))] [(.slice a2 ((Tm.encL v1).length) c2, .sl 4 (Tm.encL v1)), (.slice a4 ((List.map (D.int .i64) v3).length) c4, .sl 1 (List.map (D.int .i64) v3))] (fun r' out => r' = (.v (.bool r)) ∧ out = []) := by
  rcases n with _ | n
  · exact no_some hr
  rw [mode_stands.eq_2] at hr
  refine spec_of_body (N := 42) (m := 0) (dt := fun _ => none) [] ttOK Tryz.func30 rfl Tryz.call30 Tryz.ntmps30 rfl rfl rfl mixed (by kernel_rfl) ?_
  refine AtLoop.mk ⟨Nat × Int, fun x => [(0, (.v (.slice a2 ((Tm.encL v1).length) c2))), (1, (.v (.slice a4 ((List.map (D.int .i64) v3).length) c4))), (2, (.v (.int .i64 v5))), (4, (.v (.int .i64 v7))), (11, (.v (.int .i64 x.2)))], fun x => ⟨[], [], [(.slice a2 ((Tm.encL v1).length) c2, .sl 4 (Tm.encL v1)), (.slice a4 ((List.map (D.int .i64) v3).length) c4, .sl 1 (List.map (D.int .i64) v3))]⟩, fun x => mode_stands_L1 x.1 v1 v5 v3 v7 x.2 = some r, fun x => x.1, (n, v6), hr, ⟨rfl, rfl, rfl, rfl, rfl, trivial⟩, (StLe.gen 0 [] [.old 0, .old 1] rfl rfl rfl rfl rfl rfl rfl), fun x _ => ⟨rfl, rfl⟩, ?_⟩
  rintro ⟨n, v22⟩ HH
  have hr : mode_stands_L1 n v1 v5 v3 v7 v22 = some r := HH
  rcases n with _ | n
  · exact no_some hr
  rw [mode_stands_L1.eq_2] at hr
  refine AtIf.mk (fun h23 => ?_) (fun h23 => ?_)
  · replace hr := cond_t h23 hr
    obtain ⟨v24, h25, hr⟩ := bind_some hr
    obtain ⟨h26, h27⟩ := idx_some h25
    refine at_index ttOK 0 rfl rfl rfl rfl h26 (Tm.encL_get h27) ?_
    intro a28 c28 _ _
    obtain ⟨v29, h30, hr⟩ := bind_some hr
    refine (term_Occurs_spec n v24 (IntKind.i64.wrap ((IntKind.i64.wrap (v22 - 1)) - v5)) a28 c28 _ h30).atR [2] rfl rfl rfl ?_
    rintro _ _ ⟨rfl, rfl⟩
    refine AtGuard.mk (fun h31 => ?_) (fun h31 => ?_)
    · replace hr := cond_t h31 hr
      obtain ⟨v32, h33, hr⟩ := bind_some hr
      obtain ⟨h34, h35⟩ := idx_some h33
      refine at_index ttOK 1 rfl rfl rfl rfl h34 (map_get (D.int .i64) h35) ?_
      refine AtIf.mk (fun h36 => ?_) (fun h36 => ?_)
      · replace hr := cond_t h36 hr
        replace hr := Option.some.inj hr
        subst hr
        exact AtRet.pureG [] [] rfl rfl ⟨rfl, rfl⟩
      · replace hr := cond_f h36 hr
        exact ⟨(n, (IntKind.i64.wrap (v22 + 1))), hr, Nat.lt_succ_self _, ⟨rfl, rfl, rfl, rfl, rfl, trivial⟩, (StLe.gen 0 [] [.old 0, .old 1] rfl rfl rfl rfl rfl rfl rfl)⟩
    · replace hr := cond_f h31 hr
      refine AtIf.mk (fun h => ff h) (fun _ => ?_)
      exact ⟨(n, (IntKind.i64.wrap (v22 + 1))), hr, Nat.lt_succ_self _, ⟨rfl, rfl, rfl, rfl, rfl, trivial⟩, (StLe.gen 0 [] [.old 0, .old 1] rfl rfl rfl rfl rfl rfl rfl)⟩
  · replace hr := cond_f h23 hr
    replace hr := Option.some.inj hr
    subst hr
    exact AtRet.pureG [] [] rfl rfl ⟨rfl, rfl⟩
def mode_of : Nat → Tm → (List (Int × Md)) → Option (Md × Bool)
  | 0, _, _ => none
  | n + 1, v1, v3 =>
    some (((mget v3 v1.n).getD (Md.mk 0 ([]))), (((((mget v3 v1.n).isSome) && (v1.op == 4)) && (v1.hd == 2)) && (((List.map (D.int .i64) (((mget v3 v1.n).getD (Md.mk 0 ([]))).signs)).length : Int) == ((Tm.encL v1.args).length : Int))))
theorem mode_of_spec (n : Nat) (v1 : Tm) (g4 : (List (Int × GE Md))) (a2 : Option Addr) (c2 : Nat) (r : Md × Bool) (hr : mode_of n v1 (er g4) = some r) : Meets Tryz.prog (.val (.fn (.func 96) [] [])) [(.mp 0), (.agg [(.v (.int .i64 v1.op)), (.v (.int .i64 v1.hd)), (.v (.int .i64 v1.n)), (.v (.slice a2 ((Tm.encL v1.args).length) c2))])] ⟨[.obj (mapO .i64 (encM Md.gv g4))], [], [(.slice a2 ((Tm.encL v1.args).length) c2, .sl 4 (Tm.encL v1.args)), (agV 1 Md.gp g4, agD 1 Md.gp g4)]⟩ (fun o S' => ∃ (b1 : Option Addr) (d1 : Nat), o = .ret (.tup [(.agg [(.v (.int .i64 r.1.family)), (.v (.slice b1 ((List.map (D.int .i64) r.1.signs).length) d1))]), (.v (.bool r.2))]) ∧ S' = ⟨[.obj (mapO .i64 (encM Md.gv g4))], [], [(.slice b1 ((List.map (D.int .i64) r.1.signs).length) d1, .sl 1 (List.map (D.int .i64) r.1.signs))]⟩) := by
  rcases n with _ | n
  · exact no_some hr
  rw [mode_of.eq_2] at hr
  refine spec_of_body (N := 36) (m := 1) (dt := drawsOf [(2, .node [0, 1, 2, 3, 4, 5, 6, 7, 8, 9, 10, 11, 12, 13, 14, 15, 16, 17, 18, 19, 20] [(21, .leaf [22])], [], [2])]) [] ttOK Tryz.func96 rfl Tryz.call96 Tryz.ntmps96 rfl rfl rfl mixed (by kernel_rfl) ?_
  refine at_lookupGE ttOK Md.gv Md.gk 1 Md.gp (Md.mk 0 ([])) _ 1 rfl Tryz.underlying3 Tryz.zeroValue25 rfl rfl (fun _ _ _ _ => rfl) (fun _ _ _ _ => rfl) rfl rfl rfl rfl ?_
  intro a5 c5
  refine ⟨fun _ _ h => h, ?_⟩
  replace hr := Option.some.inj hr
  subst hr
  exact AtRet.gen ⟨[.obj (mapO .i64 (encM Md.gv g4))], [], [(.slice a5 ((List.map (D.int .i64) (((mget (er g4) v1.n).getD (Md.mk 0 ([]))).signs)).length) c5, .sl 1 (List.map (D.int .i64) (((mget (er g4) v1.n).getD (Md.mk 0 ([]))).signs)))]⟩ (StLe.gen 1 [] [.old 2] rfl rfl rfl rfl rfl rfl rfl) rfl rfl ⟨a5, c5, rfl, rfl⟩
mutual
def W14_ints : Nat → (List Int) → (List Int) → Option (Bool)
  | 0, _, _ => none
  | n + 1, v1, v3 =>
    cond (((List.map (D.int .i64) v1).length : Int) != ((List.map (D.int .i64) v3).length : Int)) (
    some (false)) (
    W14_ints_L1 n v1 v3 0)
def W14_ints_L1 : Nat → (List Int) → (List Int) → Int → Option (Bool)
  | 0, _, _, _ => none
  | n + 1, v1, v3, v16 =>
    cond (decide (v16 < ((List.map (D.int .i64) v1).length : Int))) (
    (idx v1 v16).bind (fun v18 =>
    (idx v3 v16).bind (fun v22 =>
    cond (v18 != v22) (
    some (false)) (
    W14_ints_L1 n v1 v3 (IntKind.i64.wrap (v16 + 1)))))) (
    some (true))
 end
theorem W14_ints_spec (n : Nat) (v1 : (List Int)) (v3 : (List Int)) (a2 : Option Addr) (c2 : Nat) (a4 : Option Addr) (c4 : Nat) (r : Bool) (hr : W14_ints n v1 v3 = some r) : Pure Tryz.prog (.val (.fn (.func 31) [] [])) [(.v (.slice a2 ((List.map (D.int .i64) v1).length) c2)), (.v (.slice a4 ((List.map (D.int .i64) v3).length) c4))] [(.slice a2 ((List.map (D.int .i64) v1).length) c2, .sl 1 (List.map (D.int .i64) v1)), (.slice a4 ((List.map (D.int .i64) v3).length) c4, .sl 1 (List.map (D.int .i64) v3))] (fun r' out => r' = (.v (.bool r)) ∧ out = []) := by
  rcases n with _ | n
  · exact no_some hr
  rw [W14_ints.eq_2] at hr
  refine spec_of_body (N := 26) (m := 0) (dt := drawsOf [(6, .leaf [0, 1, 2, 3, 4, 5, 6, 7, 8], [], [])]) [] ttOK Tryz.func31 rfl Tryz.call31 Tryz.ntmps31 rfl rfl rfl mixed (by kernel_rfl) ?_
  refine AtIf.mk (fun h5 => ?_) (fun h5 => ?_)
  · replace hr := cond_t h5 hr
    replace hr := Option.some.inj hr
    subst hr
    exact AtRet.pureG [] [] rfl rfl ⟨rfl, rfl⟩
  · replace hr := cond_f h5 hr
    refine AtLoop.mk ⟨Nat × Int, fun x => [(0, (.v (.slice a2 ((List.map (D.int .i64) v1).length) c2))), (1, (.v (.slice a4 ((List.map (D.int .i64) v3).length) c4))), (5, (.v (.int .i64 x.2)))], fun x => ⟨[], [], [(.slice a2 ((List.map (D.int .i64) v1).length) c2, .sl 1 (List.map (D.int .i64) v1)), (.slice a4 ((List.map (D.int .i64) v3).length) c4, .sl 1 (List.map (D.int .i64) v3))]⟩, fun x => W14_ints_L1 x.1 v1 v3 x.2 = some r, fun x => x.1, (n, 0), hr, ⟨rfl, rfl, rfl, trivial⟩, (StLe.gen 0 [] [.old 0, .old 1] rfl rfl rfl rfl rfl rfl rfl), fun x _ => ⟨rfl, rfl⟩, ?_⟩
    rintro ⟨n, v16⟩ HH
    have hr : W14_ints_L1 n v1 v3 v16 = some r := HH
    rcases n with _ | n
    · exact no_some hr
    rw [W14_ints_L1.eq_2] at hr
    refine AtIf.mk (fun h17 => ?_) (fun h17 => ?_)
    · replace hr := cond_t h17 hr
      obtain ⟨v18, h19, hr⟩ := bind_some hr
      obtain ⟨h20, h21⟩ := idx_some h19
      refine at_index ttOK 0 rfl rfl rfl rfl h20 (map_get (D.int .i64) h21) ?_
      obtain ⟨v22, h23, hr⟩ := bind_some hr
      obtain ⟨h24, h25⟩ := idx_some h23
      refine at_index ttOK 1 rfl rfl rfl rfl h24 (map_get (D.int .i64) h25) ?_
      refine AtIf.mk (fun h26 => ?_) (fun h26 => ?_)
      · replace hr := cond_t h26 hr
        replace hr := Option.some.inj hr
        subst hr
        exact AtRet.pureG [] [] rfl rfl ⟨rfl, rfl⟩
      · replace hr := cond_f h26 hr
        exact ⟨(n, (IntKind.i64.wrap (v16 + 1))), hr, Nat.lt_succ_self _, ⟨rfl, rfl, rfl, trivial⟩, (StLe.gen 0 [] [.old 0, .old 1] rfl rfl rfl rfl rfl rfl rfl)⟩
    · replace hr := cond_f h17 hr
      replace hr := Option.some.inj hr
      subst hr
      exact AtRet.pureG [] [] rfl rfl ⟨rfl, rfl⟩
def W14_same : Nat → Md → Md → Option (Bool)
  | 0, _, _ => none
  | n + 1, v1, v3 =>
    cond (v1.family == v3.family) (
    (W14_ints n v1.signs v3.signs).bind (fun v6 =>
    some (v6))) (
    some (false))
theorem W14_same_spec (n : Nat) (v1 : Md) (v3 : Md) (a2 : Option Addr) (c2 : Nat) (a4 : Option Addr) (c4 : Nat) (r : Bool) (hr : W14_same n v1 v3 = some r) : Pure Tryz.prog (.val (.fn (.func 9) [] [])) [(.agg [(.v (.int .i64 v1.family)), (.v (.slice a2 ((List.map (D.int .i64) v1.signs).length) c2))]), (.agg [(.v (.int .i64 v3.family)), (.v (.slice a4 ((List.map (D.int .i64) v3.signs).length) c4))])] [(.slice a2 ((List.map (D.int .i64) v1.signs).length) c2, .sl 1 (List.map (D.int .i64) v1.signs)), (.slice a4 ((List.map (D.int .i64) v3.signs).length) c4, .sl 1 (List.map (D.int .i64) v3.signs))] (fun r' out => r' = (.v (.bool r)) ∧ out = []) := by
  rcases n with _ | n
  · exact no_some hr
  rw [W14_same.eq_2] at hr
  refine spec_of_body (N := 17) (m := 0) (dt := fun _ => none) [] ttOK Tryz.func9 rfl Tryz.call9 Tryz.ntmps9 rfl rfl rfl mixed (by kernel_rfl) ?_
  refine AtGuard.mk (fun h5 => ?_) (fun h5 => ?_)
  · replace hr := cond_t h5 hr
    obtain ⟨v6, h7, hr⟩ := bind_some hr
    refine (W14_ints_spec n v1.signs v3.signs a2 c2 a4 c4 _ h7).atR [0, 1] rfl rfl rfl ?_
    rintro _ _ ⟨rfl, rfl⟩
    replace hr := Option.some.inj hr
    subst hr
    exact AtRet.pureG [] [] rfl rfl ⟨rfl, rfl⟩
  · replace hr := cond_f h5 hr
    replace hr := Option.some.inj hr
    subst hr
    exact AtRet.pureG [] [] rfl rfl ⟨rfl, rfl⟩
def R05_IsName : Nat → ByteArray → Option (Bool)
  | 0, _ => none
  | n + 1, v1 =>
    some (((isSmallF v1) && (!(v1.toList == (⟨#[116, 121, 112, 101]⟩ : ByteArray).toList))))
theorem R05_IsName_spec (n : Nat) (v1 : ByteArray)  (r : Bool) (hr : R05_IsName n v1 = some r) : Pure Tryz.prog (.val (.fn (.func 64) [] [])) [(.v (.string v1))] [] (fun r' out => r' = (.v (.bool r)) ∧ out = []) := by
  rcases n with _ | n
  · exact no_some hr
  rw [R05_IsName.eq_2] at hr
  refine spec_of_body (N := 9) (m := 0) (dt := fun _ => none) [] ttOK Tryz.func64 rfl Tryz.call64 Tryz.ntmps64 rfl rfl rfl mixed (by kernel_rfl) ?_
  refine (refIsSmall_spec v1).atR [] rfl rfl rfl ?_
  rintro _ _ ⟨rfl, rfl⟩
  replace hr := Option.some.inj hr
  subst hr
  exact AtRet.pureG [] [] rfl rfl ⟨rfl, rfl⟩
def R03_Constants : Nat → Tm → Option ((List Int))
  | 0, _ => none
  | n + 1, v1 =>
    cond (decide ((0 : Int) ≤ 0 ∧ (0 : Int) + (v1.height : Int) ≤ 1000000 ∧ ([] : List Int).length + v1.count ≤ 1000000)) (
    some ((headsF 2 v1 0 ([])))) none
theorem R03_Constants_spec (n : Nat) (v1 : Tm) (a2 : Option Addr) (c2 : Nat) (r : (List Int)) (hr : R03_Constants n v1 = some r) : Pure Tryz.prog (.val (.fn (.func 90) [] [])) [(.agg [(.v (.int .i64 v1.op)), (.v (.int .i64 v1.hd)), (.v (.int .i64 v1.n)), (.v (.slice a2 ((Tm.encL v1.args).length) c2))])] [(.slice a2 ((Tm.encL v1.args).length) c2, .sl 4 (Tm.encL v1.args))] (fun r' out => ∃ (b1 : Option Addr) (d1 : Nat), r' = (.v (.slice b1 ((List.map (D.int .i64) r).length) d1)) ∧ out = [(.slice b1 ((List.map (D.int .i64) r).length) d1, .sl 1 (List.map (D.int .i64) r))]) := by
  rcases n with _ | n
  · exact no_some hr
  rw [R03_Constants.eq_2] at hr
  refine spec_of_body (N := 5) (m := 0) (dt := fun _ => none) [] ttOK Tryz.func90 rfl Tryz.call90 Tryz.ntmps90 rfl rfl rfl mixed (by kernel_rfl) ?_
  obtain ⟨h3, hr⟩ := cond_need hr
  refine Meets.nilRep 1 ?_
  refine (heads0 2 v1 0 ([]) a2 none c2 0 (of_decide_eq_true h3).1 (of_decide_eq_true h3).2.1 (of_decide_eq_true h3).2.2).atR [1, 0] rfl rfl rfl ?_
  rintro _ _ ⟨a4, c4, rfl, rfl⟩
  replace hr := Option.some.inj hr
  subst hr
  exact AtRet.pureG [.old 2] [(.slice a4 ((List.map (D.int .i64) (headsF 2 v1 0 ([]))).length) c4, .sl 1 (List.map (D.int .i64) (headsF 2 v1 0 ([]))))] rfl rfl ⟨a4, c4, rfl, rfl⟩
def R03_Free : Nat → Tm → Option ((List Int))
  | 0, _ => none
  | n + 1, v1 =>
    cond (decide ((0 : Int) ≤ 0 ∧ (0 : Int) + (v1.height : Int) ≤ 1000000 ∧ ([] : List Int).length + v1.count ≤ 1000000)) (
    some ((headsF 1 v1 0 ([])))) none
theorem R03_Free_spec (n : Nat) (v1 : Tm) (a2 : Option Addr) (c2 : Nat) (r : (List Int)) (hr : R03_Free n v1 = some r) : Pure Tryz.prog (.val (.fn (.func 91) [] [])) [(.agg [(.v (.int .i64 v1.op)), (.v (.int .i64 v1.hd)), (.v (.int .i64 v1.n)), (.v (.slice a2 ((Tm.encL v1.args).length) c2))])] [(.slice a2 ((Tm.encL v1.args).length) c2, .sl 4 (Tm.encL v1.args))] (fun r' out => ∃ (b1 : Option Addr) (d1 : Nat), r' = (.v (.slice b1 ((List.map (D.int .i64) r).length) d1)) ∧ out = [(.slice b1 ((List.map (D.int .i64) r).length) d1, .sl 1 (List.map (D.int .i64) r))]) := by
  rcases n with _ | n
  · exact no_some hr
  rw [R03_Free.eq_2] at hr
  refine spec_of_body (N := 5) (m := 0) (dt := fun _ => none) [] ttOK Tryz.func91 rfl Tryz.call91 Tryz.ntmps91 rfl rfl rfl mixed (by kernel_rfl) ?_
  obtain ⟨h3, hr⟩ := cond_need hr
  refine Meets.nilRep 1 ?_
  refine (heads0 1 v1 0 ([]) a2 none c2 0 (of_decide_eq_true h3).1 (of_decide_eq_true h3).2.1 (of_decide_eq_true h3).2.2).atR [1, 0] rfl rfl rfl ?_
  rintro _ _ ⟨a4, c4, rfl, rfl⟩
  replace hr := Option.some.inj hr
  subst hr
  exact AtRet.pureG [.old 2] [(.slice a4 ((List.map (D.int .i64) (headsF 1 v1 0 ([]))).length) c4, .sl 1 (List.map (D.int .i64) (headsF 1 v1 0 ([]))))] rfl rfl ⟨a4, c4, rfl, rfl⟩
def R03_Metas : Nat → Tm → Option ((List Int))
  | 0, _ => none
  | n + 1, v1 =>
    cond (decide ((0 : Int) ≤ 0 ∧ (0 : Int) + (v1.height : Int) ≤ 1000000 ∧ ([] : List Int).length + v1.count ≤ 1000000)) (
    some ((headsF 3 v1 0 ([])))) none
theorem R03_Metas_spec (n : Nat) (v1 : Tm) (a2 : Option Addr) (c2 : Nat) (r : (List Int)) (hr : R03_Metas n v1 = some r) : Pure Tryz.prog (.val (.fn (.func 92) [] [])) [(.agg [(.v (.int .i64 v1.op)), (.v (.int .i64 v1.hd)), (.v (.int .i64 v1.n)), (.v (.slice a2 ((Tm.encL v1.args).length) c2))])] [(.slice a2 ((Tm.encL v1.args).length) c2, .sl 4 (Tm.encL v1.args))] (fun r' out => ∃ (b1 : Option Addr) (d1 : Nat), r' = (.v (.slice b1 ((List.map (D.int .i64) r).length) d1)) ∧ out = [(.slice b1 ((List.map (D.int .i64) r).length) d1, .sl 1 (List.map (D.int .i64) r))]) := by
  rcases n with _ | n
  · exact no_some hr
  rw [R03_Metas.eq_2] at hr
  refine spec_of_body (N := 5) (m := 0) (dt := fun _ => none) [] ttOK Tryz.func92 rfl Tryz.call92 Tryz.ntmps92 rfl rfl rfl mixed (by kernel_rfl) ?_
  obtain ⟨h3, hr⟩ := cond_need hr
  refine Meets.nilRep 1 ?_
  refine (heads0 3 v1 0 ([]) a2 none c2 0 (of_decide_eq_true h3).1 (of_decide_eq_true h3).2.1 (of_decide_eq_true h3).2.2).atR [1, 0] rfl rfl rfl ?_
  rintro _ _ ⟨a4, c4, rfl, rfl⟩
  replace hr := Option.some.inj hr
  subst hr
  exact AtRet.pureG [.old 2] [(.slice a4 ((List.map (D.int .i64) (headsF 3 v1 0 ([]))).length) c4, .sl 1 (List.map (D.int .i64) (headsF 3 v1 0 ([]))))] rfl rfl ⟨a4, c4, rfl, rfl⟩
def R05_closed : Nat → Tm → Int → Option (Bool)
  | 0, _, _ => none
  | n + 1, v1, v3 =>
    (R03_Constants n v1).bind (fun v4 =>
    (R03_Free n v1).bind (fun v7 =>
    cond (((List.map (D.int .i64) v7).length : Int) == 0) (
    (R03_Metas n v1).bind (fun v11 =>
    cond (((List.map (D.int .i64) v11).length : Int) == 0) (
    cond (((List.map (D.int .i64) v4).length : Int) == 0) (
    some (true)) (
    (idx v4 (IntKind.i64.wrap (((List.map (D.int .i64) v4).length : Int) - 1))).bind (fun v16 =>
    some ((decide (v16 < v3)))))) (
    some (false)))) (
    some (false))))
theorem R05_closed_spec (n : Nat) (v1 : Tm) (v3 : Int) (a2 : Option Addr) (c2 : Nat) (r : Bool) (hr : R05_closed n v1 v3 = some r) : Pure Tryz.prog (.val (.fn (.func 66) [] [])) [(.agg [(.v (.int .i64 v1.op)), (.v (.int .i64 v1.hd)), (.v (.int .i64 v1.n)), (.v (.slice a2 ((Tm.encL v1.args).length) c2))]), (.v (.int .i64 v3))] [(.slice a2 ((Tm.encL v1.args).length) c2, .sl 4 (Tm.encL v1.args))] (fun r' out => r' = (.v (.bool r)) ∧ out = []) := by
  rcases n with _ | n
  · exact no_some hr
  rw [R05_closed.eq_2] at hr
  refine spec_of_body (N := 33) (m := 0) (dt := fun _ => none) [] ttOK Tryz.func66 rfl Tryz.call66 Tryz.ntmps66 rfl rfl rfl mixed (by kernel_rfl) ?_
  obtain ⟨v4, h5, hr⟩ := bind_some hr
  refine (R03_Constants_spec n v1 a2 c2 _ h5).atR [0] rfl rfl rfl ?_
  rintro _ _ ⟨a6, c6, rfl, rfl⟩
  obtain ⟨v7, h8, hr⟩ := bind_some hr
  refine (R03_Free_spec n v1 a2 c2 _ h8).atR [0] rfl rfl rfl ?_
  rintro _ _ ⟨a9, c9, rfl, rfl⟩
  refine AtGuard.mk (fun h10 => ?_) (fun h10 => ?_)
  · replace hr := cond_t h10 hr
    obtain ⟨v11, h12, hr⟩ := bind_some hr
    refine (R03_Metas_spec n v1 a2 c2 _ h12).atR [0] rfl rfl rfl ?_
    rintro _ _ ⟨a13, c13, rfl, rfl⟩
    refine AtGuard.mk (fun h14 => ?_) (fun h14 => ?_)
    · replace hr := cond_t h14 hr
      refine AtGuard.mk (fun h15 => ?_) (fun h15 => ?_)
      · replace hr := cond_f h15 hr
        obtain ⟨v16, h17, hr⟩ := bind_some hr
        obtain ⟨h18, h19⟩ := idx_some h17
        refine at_index ttOK 1 rfl rfl rfl rfl h18 (map_get (D.int .i64) h19) ?_
        replace hr := Option.some.inj hr
        subst hr
        exact AtRet.pureG [] [] rfl rfl ⟨rfl, rfl⟩
      · replace hr := cond_t h15 hr
        replace hr := Option.some.inj hr
        subst hr
        exact AtRet.pureG [] [] rfl rfl ⟨rfl, rfl⟩
    · replace hr := cond_f h14 hr
      replace hr := Option.some.inj hr
      subst hr
      exact AtRet.pureG [] [] rfl rfl ⟨rfl, rfl⟩
  · replace hr := cond_f h10 hr
    refine AtGuard.mk (fun h => ff h) (fun _ => ?_)
    replace hr := Option.some.inj hr
    subst hr
    exact AtRet.pureG [] [] rfl rfl ⟨rfl, rfl⟩
mutual
def R05_formed : Nat → (List Dc) → Dc → Option (Bool)
  | 0, _, _ => none
  | n + 1, v1, v3 =>
    (R05_IsName n v3.name).bind (fun v5 =>
    cond (!v5) (
    some (false)) (
    cond (!(refProper v3.cls)) (
    some (false)) (
    (R05_closed n v3.cls ((Dc.encL v1).length : Int)).bind (fun v9 =>
    cond (!v9) (
    some (false)) (
    R05_formed_L1 n v1 v3 0)))))
def R05_formed_L1 : Nat → (List Dc) → Dc → Int → Option (Bool)
  | 0, _, _, _ => none
  | n + 1, v1, v3, v19 =>
    cond (decide (v19 < ((Dc.encL v1).length : Int))) (
    (idx v1 v19).bind (fun v21 =>
    cond (v21.name.toList == v3.name.toList) (
    some (false)) (
    R05_formed_L1 n v1 v3 (IntKind.i64.wrap (v19 + 1))))) (
    (R03_Split n v3.cls).bind (fun v27 =>
    cond (v27.2.op == 4) (
    cond (v27.2.hd != 2) (
    some (false)) (
    (R05_family n v1 v27.2.n).bind (fun v33 =>
    cond (!v33) (
    some (false)) (
    some (((((v27.2.op == 1) || (v27.2.op == 4)) && (decide (v3.implicit ≥ 0))) && (decide (v3.implicit ≤ ((Tm.encL v27.1).length : Int))))))))) (
    some (((((v27.2.op == 1) || (v27.2.op == 4)) && (decide (v3.implicit ≥ 0))) && (decide (v3.implicit ≤ ((Tm.encL v27.1).length : Int))))))))
 end
theorem R05_formed_spec (n : Nat) (v1 : (List Dc)) (v3 : Dc) (a2 : Option Addr) (c2 : Nat) (a4 : Option Addr) (c4 : Nat) (r : Bool) (hr : R05_formed n v1 v3 = some r) : Pure Tryz.prog (.val (.fn (.func 43) [] [])) [(.v (.slice a2 ((Dc.encL v1).length) c2)), (.agg [(.v (.string v3.name)), (.v (.int .i64 v3.cls.op)), (.v (.int .i64 v3.cls.hd)), (.v (.int .i64 v3.cls.n)), (.v (.slice a4 ((Tm.encL v3.cls.args).length) c4)), (.v (.int .i64 v3.implicit))])] [(.slice a2 ((Dc.encL v1).length) c2, .sl 6 (Dc.encL v1)), (.slice a4 ((Tm.encL v3.cls.args).length) c4, .sl 4 (Tm.encL v3.cls.args))] (fun r' out => r' = (.v (.bool r)) ∧ out = []) := by
  rcases n with _ | n
  · exact no_some hr
  rw [R05_formed.eq_2] at hr
  refine spec_of_body (N := 80) (m := 0) (dt := fun _ => none) [] ttOK Tryz.func43 rfl Tryz.call43 Tryz.ntmps43 rfl rfl rfl mixed (by kernel_rfl) ?_
  obtain ⟨v5, h6, hr⟩ := bind_some hr
  refine (R05_IsName_spec n v3.name _ h6).atR [] rfl rfl rfl ?_
  rintro _ _ ⟨rfl, rfl⟩
  refine AtGuard.mk (fun h7 => ?_) (fun h7 => ?_)
  · replace hr := cond_f h7 hr
    refine (refProper_spec v3.cls a4 c4).atR [1] rfl rfl rfl ?_
    rintro _ _ ⟨rfl, rfl⟩
    refine AtGuard.mk (fun h8 => ?_) (fun h8 => ?_)
    · replace hr := cond_f h8 hr
      obtain ⟨v9, h10, hr⟩ := bind_some hr
      refine (R05_closed_spec n v3.cls ((Dc.encL v1).length : Int) a4 c4 _ h10).atR [1] rfl rfl rfl ?_
      rintro _ _ ⟨rfl, rfl⟩
      refine AtIf.mk (fun h11 => ?_) (fun h11 => ?_)
      · replace hr := cond_t h11 hr
        replace hr := Option.some.inj hr
        subst hr
        exact AtRet.pureG [] [] rfl rfl ⟨rfl, rfl⟩
      · replace hr := cond_f h11 hr
        refine AtLoop.mk ⟨Nat × Int, fun x => [(0, (.v (.slice a2 ((Dc.encL v1).length) c2))), (3, (.loc 0 0)), (27, (.v (.slice a2 ((Dc.encL v1).length) c2))), (28, (.v (.int .i64 ((Dc.encL v1).length : Int)))), (29, (.v (.int .i64 x.2)))], fun x => ⟨[.cells 57 [(.v (.string v3.name)), (.v (.int .i64 v3.cls.op)), (.v (.int .i64 v3.cls.hd)), (.v (.int .i64 v3.cls.n)), (.v (.slice a4 ((Tm.encL v3.cls.args).length) c4)), (.v (.int .i64 v3.implicit))]], [], [(.slice a2 ((Dc.encL v1).length) c2, .sl 6 (Dc.encL v1)), (.slice a4 ((Tm.encL v3.cls.args).length) c4, .sl 4 (Tm.encL v3.cls.args))]⟩, fun x => R05_formed_L1 x.1 v1 v3 x.2 = some r, fun x => x.1, (n, 0), hr, ⟨rfl, rfl, rfl, rfl, rfl, trivial⟩, (StLe.gen 1 [] [.old 0, .old 1] rfl rfl rfl rfl rfl rfl rfl), fun x _ => ⟨rfl, rfl⟩, ?_⟩
        rintro ⟨n, v19⟩ HH
        have hr : R05_formed_L1 n v1 v3 v19 = some r := HH
        rcases n with _ | n
        · exact no_some hr
        rw [R05_formed_L1.eq_2] at hr
        refine AtIf.mk (fun h20 => ?_) (fun h20 => ?_)
        · replace hr := cond_t h20 hr
          obtain ⟨v21, h22, hr⟩ := bind_some hr
          obtain ⟨h23, h24⟩ := idx_some h22
          refine at_index ttOK 0 rfl rfl rfl rfl h23 (Dc.encL_get h24) ?_
          intro a25 c25 _ _
          refine AtIf.mk (fun h26 => ?_) (fun h26 => ?_)
          · replace hr := cond_t h26 hr
            replace hr := Option.some.inj hr
            subst hr
            exact AtRet.pureG [] [] rfl rfl ⟨rfl, rfl⟩
          · replace hr := cond_f h26 hr
            exact ⟨(n, (IntKind.i64.wrap (v19 + 1))), hr, Nat.lt_succ_self _, ⟨rfl, rfl, rfl, rfl, rfl, trivial⟩, (StLe.gen 1 [] [.old 0, .old 1] rfl rfl rfl rfl rfl rfl rfl)⟩
        · replace hr := cond_f h20 hr
          obtain ⟨v27, h28, hr⟩ := bind_some hr
          refine (R03_Split_spec n v3.cls a4 c4 _ h28).atR [1] rfl rfl rfl ?_
          rintro _ _ ⟨a29, c29, a30, c30, rfl, rfl⟩
          refine AtGuard.mk (fun h31 => ?_) (fun h31 => ?_)
          · replace hr := cond_t h31 hr
            refine AtGuard.mk (fun h32 => ?_) (fun h32 => ?_)
            · replace hr := cond_f h32 hr
              obtain ⟨v33, h34, hr⟩ := bind_some hr
              refine (R05_family_spec n v1 v27.2.n a2 c2 _ h34).atR [0] rfl rfl rfl ?_
              rintro _ _ ⟨rfl, rfl⟩
              refine AtIf.mk (fun h35 => ?_) (fun h35 => ?_)
              · replace hr := cond_t h35 hr
                replace hr := Option.some.inj hr
                subst hr
                exact AtRet.pureG [] [] rfl rfl ⟨rfl, rfl⟩
              · replace hr := cond_f h35 hr
                replace hr := Option.some.inj hr
                subst hr
                exact AtRet.pureG [] [] rfl rfl ⟨rfl, rfl⟩
            · replace hr := cond_t h32 hr
              refine AtIf.mk (fun _ => ?_) (fun h => tf h)
              replace hr := Option.some.inj hr
              subst hr
              exact AtRet.pureG [] [] rfl rfl ⟨rfl, rfl⟩
          · replace hr := cond_f h31 hr
            refine AtIf.mk (fun h => ff h) (fun _ => ?_)
            replace hr := Option.some.inj hr
            subst hr
            exact AtRet.pureG [] [] rfl rfl ⟨rfl, rfl⟩
    · replace hr := cond_t h8 hr
      refine AtIf.mk (fun _ => ?_) (fun h => tf h)
      replace hr := Option.some.inj hr
      subst hr
      exact AtRet.pureG [] [] rfl rfl ⟨rfl, rfl⟩
  · replace hr := cond_t h7 hr
    refine AtGuard.mk (fun h => tf h) (fun _ => ?_)
    refine AtIf.mk (fun _ => ?_) (fun h => tf h)
    replace hr := Option.some.inj hr
    subst hr
    exact AtRet.pureG [] [] rfl rfl ⟨rfl, rfl⟩
mutual
def R05_Formed : Nat → (List Dc) → Option (Bool)
  | 0, _ => none
  | n + 1, v1 =>
    R05_Formed_L1 n v1 0
def R05_Formed_L1 : Nat → (List Dc) → Int → Option (Bool)
  | 0, _, _ => none
  | n + 1, v1, v14 =>
    cond ((decide (v14 < ((Dc.encL v1).length : Int))) && (decide (((Dc.encL v1).length : Int) ≤ 100))) (
    cond (decide ((0 : Int) ≤ (0 : Int) ∧ (0 : Int) ≤ v14 ∧ v14 ≤ ((Dc.encL v1).length : Int))) (
    (idx v1 v14).bind (fun v18 =>
    (R05_formed n (v1.take v14.toNat) v18).bind (fun v23 =>
    cond (!v23) (
    some (false)) (
    R05_Formed_L1 n v1 (IntKind.i64.wrap (v14 + 1)))))) none) (
    some ((decide (((Dc.encL v1).length : Int) ≤ 100))))
 end
theorem R05_Formed_spec (n : Nat) (v1 : (List Dc)) (a2 : Option Addr) (c2 : Nat) (r : Bool) (hr : R05_Formed n v1 = some r) : Pure Tryz.prog (.val (.fn (.func 17) [] [])) [(.v (.slice a2 ((Dc.encL v1).length) c2))] [(.slice a2 ((Dc.encL v1).length) c2, .sl 6 (Dc.encL v1))] (fun r' out => r' = (.v (.bool r)) ∧ out = []) := by
  rcases n with _ | n
  · exact no_some hr
  rw [R05_Formed.eq_2] at hr
  refine spec_of_body (N := 27) (m := 0) (dt := drawsOf [(4, .node [0, 1, 2, 3, 4, 5, 6] [(7, .leaf [8])], [7], [])]) [] ttOK Tryz.func17 rfl Tryz.call17 Tryz.ntmps17 rfl rfl rfl mixed (by kernel_rfl) ?_
  refine AtLoop.mk ⟨Nat × Int, fun x => [(0, (.v (.slice a2 ((Dc.encL v1).length) c2))), (3, (.v (.int .i64 x.2)))], fun x => ⟨[], [], [(.slice a2 ((Dc.encL v1).length) c2, .sl 6 (Dc.encL v1))]⟩, fun x => R05_Formed_L1 x.1 v1 x.2 = some r, fun x => x.1, (n, 0), hr, ⟨rfl, rfl, trivial⟩, (StLe.gen 0 [] [.old 0] rfl rfl rfl rfl rfl rfl rfl), fun x _ => ⟨rfl, rfl⟩, ?_⟩
  rintro ⟨n, v14⟩ HH
  have hr : R05_Formed_L1 n v1 v14 = some r := HH
  rcases n with _ | n
  · exact no_some hr
  rw [R05_Formed_L1.eq_2] at hr
  refine AtIf.mk (fun h15 => ?_) (fun h15 => ?_)
  · replace hr := cond_t h15 hr
    obtain ⟨h16, hr⟩ := cond_need hr
    refine at_sliceG ttOK 0 0 v14 (ds' := (Dc.encL (v1.take v14.toNat))) rfl rfl rfl (.inr ⟨rfl, rfl⟩) (.inl ⟨_, rfl⟩) h16 (by simp only [Dc.encL_eq]; exact sl_h ..) ?_
    intro a17 c17
    obtain ⟨v18, h19, hr⟩ := bind_some hr
    obtain ⟨h20, h21⟩ := idx_some h19
    refine at_index ttOK 0 rfl rfl rfl rfl h20 (Dc.encL_get h21) ?_
    intro a22 c22 _ _
    obtain ⟨v23, h24, hr⟩ := bind_some hr
    refine (R05_formed_spec n (v1.take v14.toNat) v18 a17 c17 a22 c22 _ h24).atR [1, 2] rfl rfl rfl ?_
    rintro _ _ ⟨rfl, rfl⟩
    refine AtIf.mk (fun h25 => ?_) (fun h25 => ?_)
    · replace hr := cond_t h25 hr
      replace hr := Option.some.inj hr
      subst hr
      exact AtRet.pureG [] [] rfl rfl ⟨rfl, rfl⟩
    · replace hr := cond_f h25 hr
      exact ⟨(n, (IntKind.i64.wrap (v14 + 1))), hr, Nat.lt_succ_self _, ⟨rfl, rfl, trivial⟩, (StLe.gen 0 [] [.old 0] rfl rfl rfl rfl rfl rfl rfl)⟩
  · replace hr := cond_f h15 hr
    replace hr := Option.some.inj hr
    subst hr
    exact AtRet.pureG [] [] rfl rfl ⟨rfl, rfl⟩
mutual
def W14_valid : Nat → (List Dc) → Option (Bool)
  | 0, _ => none
  | n + 1, v1 =>
    W14_valid_L1 n v1 0 0
def W14_valid_L1 : Nat → (List Dc) → Int → Int → Option (Bool)
  | 0, _, _, _ => none
  | n + 1, v1, v11, v12 =>
    cond ((decide (v12 < ((Dc.encL v1).length : Int))) && (decide (v11 ≤ 3000))) (
    (idx v1 v12).bind (fun v14 =>
    (R03_Size n v14.cls).bind (fun v19 =>
    W14_valid_L1 n v1 (IntKind.i64.wrap (v11 + v19.1)) (IntKind.i64.wrap (v12 + 1))))) (
    cond (decide (v11 > 3000)) (
    some (false)) (
    (R05_Formed n v1).bind (fun v22 =>
    cond (!v22) (
    some (false)) (
    (R06_Signature n v1).bind (fun v25 =>
    some ((v25.2 == 0)))))))
 end
theorem W14_valid_spec (n : Nat) (v1 : (List Dc)) (a2 : Option Addr) (c2 : Nat) (r : Bool) (hr : W14_valid n v1 = some r) : Pure Tryz.prog (.val (.fn (.func 5) [] [])) [(.v (.slice a2 ((Dc.encL v1).length) c2))] [(.slice a2 ((Dc.encL v1).length) c2, .sl 6 (Dc.encL v1))] (fun r' out => r' = (.v (.bool r)) ∧ out = []) := by
  rcases n with _ | n
  · exact no_some hr
  rw [W14_valid.eq_2] at hr
  refine spec_of_body (N := 45) (m := 0) (dt := fun _ => none) [] ttOK Tryz.func5 rfl Tryz.call5 Tryz.ntmps5 rfl rfl rfl mixed (by kernel_rfl) ?_
  refine AtLoop.mk ⟨Nat × Int × Int, fun x => [(0, (.v (.slice a2 ((Dc.encL v1).length) c2))), (3, (.v (.int .i64 x.2.1))), (4, (.v (.int .i64 x.2.2)))], fun x => ⟨[], [], [(.slice a2 ((Dc.encL v1).length) c2, .sl 6 (Dc.encL v1))]⟩, fun x => W14_valid_L1 x.1 v1 x.2.1 x.2.2 = some r, fun x => x.1, (n, 0, 0), hr, ⟨rfl, rfl, rfl, trivial⟩, (StLe.gen 0 [] [.old 0] rfl rfl rfl rfl rfl rfl rfl), fun x _ => ⟨rfl, rfl⟩, ?_⟩
  rintro ⟨n, v11, v12⟩ HH
  have hr : W14_valid_L1 n v1 v11 v12 = some r := HH
  rcases n with _ | n
  · exact no_some hr
  rw [W14_valid_L1.eq_2] at hr
  refine AtIf.mk (fun h13 => ?_) (fun h13 => ?_)
  · replace hr := cond_t h13 hr
    obtain ⟨v14, h15, hr⟩ := bind_some hr
    obtain ⟨h16, h17⟩ := idx_some h15
    refine at_index ttOK 0 rfl rfl rfl rfl h16 (Dc.encL_get h17) ?_
    intro a18 c18 _ _
    obtain ⟨v19, h20, hr⟩ := bind_some hr
    refine (R03_Size_spec n v14.cls a18 c18 _ h20).atR [1] rfl rfl rfl ?_
    rintro _ _ ⟨rfl, rfl⟩
    exact ⟨(n, (IntKind.i64.wrap (v11 + v19.1)), (IntKind.i64.wrap (v12 + 1))), hr, Nat.lt_succ_self _, ⟨rfl, rfl, rfl, trivial⟩, (StLe.gen 0 [] [.old 0] rfl rfl rfl rfl rfl rfl rfl)⟩
  · replace hr := cond_f h13 hr
    refine AtGuard.mk (fun h21 => ?_) (fun h21 => ?_)
    · replace hr := cond_f h21 hr
      obtain ⟨v22, h23, hr⟩ := bind_some hr
      refine (R05_Formed_spec n v1 a2 c2 _ h23).atR [0] rfl rfl rfl ?_
      rintro _ _ ⟨rfl, rfl⟩
      refine AtIf.mk (fun h24 => ?_) (fun h24 => ?_)
      · replace hr := cond_t h24 hr
        replace hr := Option.some.inj hr
        subst hr
        exact AtRet.pureG [] [] rfl rfl ⟨rfl, rfl⟩
      · replace hr := cond_f h24 hr
        obtain ⟨v25, h26, hr⟩ := bind_some hr
        refine (R06_Signature_spec n v1 a2 c2 _ h26).atR [0] rfl rfl rfl ?_
        rintro _ _ ⟨rfl, rfl⟩
        replace hr := Option.some.inj hr
        subst hr
        exact AtRet.pureG [] [] rfl rfl ⟨rfl, rfl⟩
    · replace hr := cond_t h21 hr
      refine AtIf.mk (fun _ => ?_) (fun h => tf h)
      replace hr := Option.some.inj hr
      subst hr
      exact AtRet.pureG [] [] rfl rfl ⟨rfl, rfl⟩
end Go.Proofs.YtogicnodmgdnbaaGreatDoor
end

/-! McF -/
section
namespace Go.Proofs.YtogicnodmgdnbaaGreatDoor
open Go.Tr Go
set_option maxRecDepth 100000

theorem at_build146 {S : St} {K : SV → St → Prop} (h : K set0 S) : AtPure Tryz.prog (fun ℓ => Instr.build 118 (denParts ℓ []).toArray) S K :=
  AtPure.val set0 (by kernel_rfl) (fun ℓ w => by kernel_rfl) h

abbrev sgR (sig : List Dc) (a : Option Addr) (c : Nat) : Value × D := (.slice a ((Dc.encL sig).length) c, .sl 6 (Dc.encL sig))
abbrev mpR (g : List (Int × GE Md)) : Value × D := (agV 1 Md.gp g, agD 1 Md.gp g)
noncomputable abbrev mpB (g : List (Int × GE Md)) : Blk := .obj (mapO .i64 (encM Md.gv g))

/-- The own blocks of check, of its frame. -/
noncomputable abbrev ownC (g : List (Int × GE Md)) (nm : ByteArray) (imp : Int) (p : Int) (b : Option Addr) (c : Nat) : List Blk := [mpB g, .cells 3 [iS 0], .cells 3 [iS 0], .cells 34 [iS 0], .cells 115 [.mp 0, iS p], .cells 113 [.loc 4 0], .imm [.v (.string nm), iS 4, iS 2, iS 3, .v (.slice b 2 c), iS imp]]
/-- The own blocks of assume. -/
noncomputable abbrev ownA (b : Option Addr) (c : Nat) : List Blk := [.cells 113 [.loc 4 0], .cells 55 [iS 4, iS 2, iS 3, .v (.slice b 2 c)], .cells 118 z700, .cells 119 [.fn (.func 71) [] [.loc 5 0]], .cells 53 [nilS], .cells 141 [nilS]]

noncomputable abbrev lpA (b : Bool) : Blk := .lp ⟨111, [], #[79, 80], rfAs Tryz.f70, rfBody Tryz.f70, (match b with | true => .ready | false => .exhausted), none⟩
/-- The own blocks of check, assume, Backward. -/
noncomputable abbrev ownB (g : List (Int × GE Md)) (nm : ByteArray) (imp : Int) (b : Option Addr) (c : Nat) (e : Option Addr) (f : Nat) (r : Bool) : List Blk := ownC g nm imp (-1) b c ++ (ownA b c ++ [.cells 25 [iS 3, .v (.slice e 2 f)], .cells 23 [nilS], lpA r])
/-- The own blocks of demand and args. -/
noncomputable abbrev ownD (b : Option Addr) (c : Nat) (e : Option Addr) (f : Nat) : List Blk := [.cells 113 [.loc 4 0], .cells 140 [nilS], .cells 25 [iS 3, .v (.slice e 2 f)], .cells 55 [iS 4, iS 2, iS 3, .v (.slice b 2 c)], .cells 118 z700, .cells 25 [iS 3, .v (.slice e 2 f)], .cells 55 [iS 4, iS 2, iS 3, .v (.slice b 2 c)]]

set_option maxHeartbeats 8000000 in
theorem check0 (sig : List Dc) (d : Dc) (k : Int) (g : List (Int × GE Md)) (a2 : Option Addr) (c2 : Nat) (hd : idx sig k = some d) (hc : d.cls = dzT) (hg : mget (er g) 3 = some ⟨3, [1, 2]⟩) :
    Meets Tryz.prog (fnS 48) [.v (.slice a2 ((Dc.encL sig).length) c2), .mp 0, iS k] ⟨[mpB g], [], [sgR sig a2 c2, mpR g]⟩ (fun o S' => o = .ret (.tup [iS 0, iS 0, iS 0]) ∧ S' = ⟨[mpB g], [], []⟩) := by
  obtain ⟨nm, cls, imp⟩ := d
  simp only at hc
  subst hc
  obtain ⟨hk0, hk1⟩ := idx_some hd
  refine spec_of_defer (N := 23) (m := 1) (dt := drawsOf [(3, .node [0, 1, 2, 3, 4, 5, 6, 7] [(8, .leaf [])], [8], [])]) (d := 10) (h := 69) [] ttOK Tryz.func48 rfl Tryz.call48 Tryz.ntmps48 rfl rfl rfl mixed (by kernel_rfl) (by kernel_rfl) rfl rfl (fun c h => by cases h) rfl rfl rfl Tryz.call69 3 quietC ?_
  refine ⟨[.loc 1 0, .loc 2 0, .loc 3 0], rfl, rfl, ?_⟩
  refine ⟨rfl, ?_⟩
  refine at_index ttOK 0 rfl rfl rfl rfl hk0 (Dc.encL_get hk1) ?_
  intro b1 d1 _ _
  refine at_build146 ?_
  refine spec_of_body (N := 111) (m := 7) (dt := drawsOf [(8, .node [0, 1, 2, 3, 4, 5] [(6, .node [] [(7, .node [8] [(9, .node [] [(10, .leaf [])]), (10, .node [] [(9, .leaf [])])])])], [7, 9], []), (14, .node [0, 1, 2, 3, 4] [(5, .node [6, 7, 8] [(9, .node [] [(10, .leaf [11])])]), (9, .node [] [(5, .node [6, 7, 8] [(10, .leaf [11])])])], [5], [13]), (20, .node [0, 1, 2, 3, 4, 5, 6, 7, 8, 9, 10, 11, 12, 13, 14, 15] [(16, .node [] [(17, .node [] [(18, .node [] [(19, .leaf [])])])])], [18, 19], [])]) [14] ttOK Tryz.func70 rfl Tryz.call70 Tryz.ntmps70 rfl rfl rfl mixed (by kernel_rfl) ?_
  refine AtLoop.mk ⟨Nat, fun _ => [(5, .loc 7 0), (7, .loc 8 0), (8, .loc 9 0), (9, .loc 10 0), (10, .loc 11 0), (11, .loc 12 0), (12, nilS), (1, nilS)], fun _ => ⟨ownC g nm imp (-1) b1 d1 ++ ownA b1 d1, [], [sgR sig a2 c2, mpR g, dzR b1 d1]⟩, fun _ => True, fun x => x, 0, trivial, ⟨rfl, rfl, rfl, rfl, rfl, rfl, rfl, rfl, trivial⟩, StLe.refl _, fun _ _ => ⟨rfl, rfl⟩, ?_⟩
  rintro _ _
  refine AtIf.mk (fun h => by simp at h) (fun h => ?_)
  have hof : mode_of 1 dzT (er g) = some (⟨3, [1, 2]⟩, true) := by
    rw [mode_of.eq_2]
    simp only [Tm.n, hg]
    rfl
  refine AtCut.mk ⟨Option Addr × Nat, fun x => [(17, bS true), (16, .loc 13 0), (5, .loc 7 0), (7, .loc 8 0), (8, .loc 9 0), (9, .loc 10 0), (12, nilS), (1, nilS)], fun x => ⟨ownC g nm imp (-1) b1 d1 ++ (ownA b1 d1 ++ [.cells 25 [iS 3, .v (.slice x.1 2 x.2)]]), [], [sgR sig a2 c2, mpR g, dzR b1 d1, mdR x.1 x.2]⟩, fun _ => True, fun _ _ => ⟨rfl, rfl⟩, ?_, ?_⟩
  · refine ⟨?_, ?_⟩
    · refine (mode_of_spec 1 dzT g b1 d1 (⟨3, [1, 2]⟩, true) hof).frameR [0] [2, 1] rfl rfl rfl rfl rfl rfl rfl rfl ?_
      rintro _ _ ⟨e1, f1, rfl, rfl⟩
      refine ⟨rfl, rfl, [mpB g], rfl, ?_⟩
      refine ⟨OwnKeptBut.append, ?_⟩
      refine ⟨fun _ _ h => h, ?_⟩
      exact ⟨(e1, f1), trivial, ⟨rfl, rfl, rfl, rfl, rfl, rfl, rfl, rfl, trivial⟩, StLe.gen 14 [] [.old 0, .old 1, .old 2, .old 3] rfl rfl rfl rfl rfl rfl rfl⟩
    · refine ⟨OwnKeptBut.append, ?_⟩
      refine (mode_of_spec 1 dzT g b1 d1 (⟨3, [1, 2]⟩, true) hof).frameR [0] [2, 1] rfl rfl rfl rfl rfl rfl rfl rfl ?_
      rintro _ _ ⟨e1, f1, rfl, rfl⟩
      refine ⟨rfl, rfl, [mpB g], rfl, ?_⟩
      refine ⟨fun _ _ h => h, ?_⟩
      exact ⟨(e1, f1), trivial, ⟨rfl, rfl, rfl, rfl, rfl, rfl, rfl, rfl, trivial⟩, StLe.gen 14 [] [.old 0, .old 1, .old 2, .old 3] rfl rfl rfl rfl rfl rfl rfl⟩
  · rintro ⟨e1, f1⟩ _
    refine AtIf.mk (fun h => by simp at h) (fun h => ?_)
    refine (learn0 e1 b1 f1 d1 1).atR [3, 2] rfl rfl rfl ?_
    rintro _ _ ⟨rfl, rfl⟩
    refine spec_of_body (N := 4) (m := 14) (dt := fun _ => none) [] ttOK Tryz.func98 rfl Tryz.call98 Tryz.ntmps98 rfl rfl rfl mixed (by kernel_rfl) ?_
    refine AtRet.gen _ (StLe.refl _) rfl rfl ?_
    refine AtRange.mk ⟨[], trivial, rfl, rfl, ⟨_, _, _, rfl, Tryz.call126⟩, ?_⟩
    refine spec_of_body (N := 19) (m := 16) (dt := fun _ => none) [] ttOK Tryz.func126 rfl Tryz.call126 Tryz.ntmps126 rfl rfl rfl mixed (by kernel_rfl) ?_
    refine AtLoop.mk ⟨Nat, fun _ => [(3, iS (-1))], fun _ => ⟨ownB g nm imp b1 d1 e1 f1 true, [], [sgR sig a2 c2, mpR g, dzR b1 d1, mdR e1 f1]⟩, fun _ => True, fun x => x, 0, trivial, ⟨rfl, trivial⟩, StLe.refl _, fun _ _ => ⟨rfl, rfl⟩, ?_⟩
    rintro _ _
    refine AtIf.mk (fun h => by simp at h) (fun h => ?_)
    refine AtRet.gen _ (StLe.refl _) rfl rfl ?_
    refine spec_of_body (N := 7) (m := 16) (dt := fun _ => none) [] ttOK Tryz.func71 rfl Tryz.call71 Tryz.ntmps71 rfl rfl rfl mixed (by kernel_rfl) ?_
    refine AtRet.gen _ (StLe.refl _) rfl rfl ?_
    refine spec_of_body (N := 17) (m := 16) (dt := fun _ => none) [] ttOK Tryz.func102 rfl Tryz.call102 Tryz.ntmps102 rfl rfl rfl mixed (by kernel_rfl) ?_
    refine spec_of_body (N := 30) (m := 21) (dt := fun _ => none) [] ttOK Tryz.func122 rfl Tryz.call122 Tryz.ntmps122 rfl rfl rfl mixed (by kernel_rfl) ?_
    refine AtLoop.mk ⟨Int, fun i => [(13, iS i), (12, iS 2), (11, .v (.slice b1 2 d1)), (4, .loc 21 0), (5, .loc 22 0), (2, iS 2), (3, .fn (.func 128) [] [.loc 17 0, .loc 20 0, .loc 16 0])], fun _ => ⟨ownB g nm imp b1 d1 e1 f1 false ++ ownD b1 d1 e1 f1, [], [sgR sig a2 c2, mpR g, dzR b1 d1, mdR e1 f1]⟩, fun i => 0 ≤ i ∧ i ≤ 2, fun i => (2 - i).toNat, 0, by omega, ⟨rfl, rfl, rfl, rfl, rfl, rfl, rfl, trivial⟩, StLe.refl _, fun _ _ => ⟨rfl, rfl⟩, ?_⟩
    rintro i ⟨hi, hi'⟩
    refine AtIf.mk (fun h => ?_) (fun h => ?_)
    · have hi2 : i < 2 := by simpa using h
      have hwi := wrapI hi hi2
      obtain ⟨s, hs⟩ := sg_geti hi hi2
      refine at_index ttOK 2 rfl rfl rfl rfl hi (Tm.encL_get (zz_geti hi hi2)) ?_
      intro b2 d2 _ _
      refine at_index ttOK 3 rfl rfl rfl rfl hi (map_get (D.int .i64) hs) ?_
      refine AtIf.mk (fun h2 => ?_) (fun h2 => ?_)
      · refine spec_of_body (N := 19) (m := 26) (dt := fun _ => none) [] ttOK Tryz.func128 rfl Tryz.call128 Tryz.ntmps128 rfl rfl rfl mixed (by kernel_rfl) ?_
        refine (known0 b2 d2).atR [4] rfl rfl rfl ?_
        rintro _ _ ⟨rfl, rfl⟩
        refine AtIf.mk (fun h => by simp at h) (fun h => ?_)
        refine AtRet.gen _ (StLe.refl _) rfl rfl ?_
        exact ⟨IntKind.i64.wrap (i + 1), by omega, by simp only; omega, ⟨rfl, rfl, rfl, rfl, rfl, rfl, rfl, trivial⟩, StLe.gen 23 [] [.old 0, .old 1, .old 2, .old 3] rfl rfl rfl rfl rfl rfl rfl⟩
      · exact ⟨IntKind.i64.wrap (i + 1), by omega, by simp only; omega, ⟨rfl, rfl, rfl, rfl, rfl, rfl, rfl, trivial⟩, StLe.gen 23 [] [.old 0, .old 1, .old 2, .old 3] rfl rfl rfl rfl rfl rfl rfl⟩
    · refine AtRet.gen _ (StLe.refl _) rfl rfl ?_
      refine AtRet.gen _ (StLe.refl _) rfl rfl ?_
      refine AtRet.gen _ (StLe.refl _) rfl rfl ?_
      exact AtRet.gen ⟨[mpB g], [], []⟩ (StLe.gen 1 [] [] rfl rfl rfl rfl rfl rfl rfl) rfl rfl ⟨rfl, rfl⟩
end Go.Proofs.YtogicnodmgdnbaaGreatDoor
end

/-! McG -/
section
namespace Go.Proofs.YtogicnodmgdnbaaGreatDoor
open Go.Tr Go
set_option maxRecDepth 10000

mutual
theorem sameF_iff14 : ∀ (a b : Tm), sameF a b = true ↔ a = b
  | .mk o h n us, .mk o' h' n' vs => by
    simp only [sameF, Tm.op, Tm.hd, Tm.n, Tm.args, Bool.and_eq_true, beq_iff_eq, Tm.mk.injEq]
    constructor
    · rintro ⟨⟨⟨h1, h2⟩, h3⟩, h4, h5⟩
      exact ⟨h1, h2, h3, (sameL_iff14 us vs h4).1 h5⟩
    · rintro ⟨h1, h2, h3, h4⟩
      exact ⟨⟨⟨h1, h2⟩, h3⟩, by rw [h4], (sameL_iff14 us vs (by rw [h4])).2 h4⟩
theorem sameL_iff14 : ∀ (us vs : List Tm), us.length = vs.length → (sameL us vs = true ↔ us = vs)
  | [], [], _ => by simp [sameL]
  | u :: us, v :: vs, h => by
    simp only [sameL, Bool.and_eq_true, List.cons.injEq, sameF_iff14 u v, sameL_iff14 us vs (by simpa using h)]
  | [], _ :: _, h => by simp at h
  | _ :: _, [], h => by simp at h
 end

/-- The constant dz, and the mode of double. -/
def sampB (sig : List Dc) (k : Int) (g : List (Int × Md)) : Bool := match idx sig k with
  | some d => sameF d.cls dzT && (match mget g 3 with
    | some m => m.family == 3 && m.signs == [1, 2]
    | none => false)
  | none => false
def mode_check (_ : Nat) (sig : List Dc) (k : Int) (g : List (Int × Md)) : Option (Int × Int × Int) := cond (sampB sig k g) (some (0, 0, 0)) none
theorem mode_check_spec (n : Nat) (v1 : (List Dc)) (v3 : Int) (g5 : (List (Int × GE Md))) (a2 : Option Addr) (c2 : Nat) (r : Int × Int × Int) (hr : mode_check n v1 v3 (er g5) = some r) : Meets Tryz.prog (.val (.fn (.func 48) [] [])) [(.v (.slice a2 ((Dc.encL v1).length) c2)), (.mp 0), (.v (.int .i64 v3))] ⟨[.obj (mapO .i64 (encM Md.gv g5))], [], [(.slice a2 ((Dc.encL v1).length) c2, .sl 6 (Dc.encL v1)), (agV 1 Md.gp g5, agD 1 Md.gp g5)]⟩ (fun o S' => o = .ret (.tup [(.v (.int .i64 r.1)), (.v (.int .i64 r.2.1)), (.v (.int .i64 r.2.2))]) ∧ S' = ⟨[.obj (mapO .i64 (encM Md.gv g5))], [], []⟩) := by
  unfold mode_check at hr
  cases hb : sampB v1 v3 (er g5) with
  | false => rw [hb] at hr; cases hr
  | true =>
    rw [hb] at hr
    simp only [cond_true, Option.some.injEq] at hr
    subst hr
    unfold sampB at hb
    split at hb
    · rename_i d hd
      rw [Bool.and_eq_true] at hb
      obtain ⟨h1, h2⟩ := hb
      split at h2
      · rename_i m hm
        simp only [Bool.and_eq_true, beq_iff_eq] at h2
        have hm' : m = ⟨3, [1, 2]⟩ := by cases m; simp only at h2; obtain ⟨rfl, rfl⟩ := h2; rfl
        subst hm'
        exact check0 v1 d v3 g5 a2 c2 hd ((sameF_iff14 _ _).1 h1) hm
      · cases h2
    · cases hb
end Go.Proofs.YtogicnodmgdnbaaGreatDoor
end

/-! Gt -/
section
namespace Go.Tr
open Go
set_option linter.unusedSimpArgs false

theorem RepA.setOne {J : Nat → Prop} {w : World} {f f' : D} {u : Value} {post : List D} (hf : (D.one f).isSome = true) (hu : D.one f' = some u) : ∀ {pre : List D} {cs : List Value}, pre.all (fun p => (D.one p).isSome) = true → RepA J w (pre ++ f :: post) cs → pre.length < cs.length ∧ RepA J w (pre ++ f' :: post) (cs.set pre.length u)
  | [], cs, _, h => by
    simp only [List.nil_append, RepA] at h ⊢
    obtain ⟨x, y, rfl, h1, h2⟩ := h
    obtain ⟨v, hv⟩ := Option.isSome_iff_exists.1 hf
    rw [repC_one hv] at h1
    subst h1
    refine ⟨by simp, [u], y, rfl, (repC_one hu _).2 rfl, h2⟩
  | p :: pre, cs, hp, h => by
    simp only [List.all_cons, Bool.and_eq_true] at hp
    simp only [List.cons_append, RepA] at h ⊢
    obtain ⟨x, y, rfl, h1, h2⟩ := h
    obtain ⟨v, hv⟩ := Option.isSome_iff_exists.1 hp.1
    have h1' := (repC_one hv _).1 h1
    obtain ⟨i1, i2⟩ := RepA.setOne hf hu hp.2 h2
    subst h1'
    exact ⟨by simp at i1 ⊢; omega, [v], y.set pre.length u, by simp, h1, i2⟩

theorem RepE.setField {J : Nat → Prop} {w : World} {k : Nat} {f f' : D} {u : Value} {pre post : List D} (hp : pre.all (fun p => (D.one p).isSome) = true) (hf : (D.one f).isSome = true) (hu : D.one f' = some u) : ∀ {ds : List D} {cs : List Value} {i : Nat}, RepE J w k ds cs → ds[i]? = some (.agg (pre ++ f :: post)) → i * k + pre.length < cs.length ∧ RepE J w k (ds.set i (.agg (pre ++ f' :: post))) (cs.set (i * k + pre.length) u)
  | [], _, _, _, h => by simp at h
  | d :: ds, cs, 0, h, hd => by
    simp at hd
    subst hd
    simp only [RepE] at h
    obtain ⟨h1, h2, h3⟩ := h
    simp only [RepC] at h2
    obtain ⟨i1, i2⟩ := RepA.setOne hf hu hp h2
    have hlt : pre.length < k := by
      rw [List.length_take] at i1; omega
    simp only [List.set_cons_zero, RepE, Nat.zero_mul, Nat.zero_add]
    refine ⟨by omega, by simpa using h1, ?_, ?_⟩
    · simp only [RepC]
      rw [List.take_set]
      exact i2
    · rw [List.drop_set_of_lt hlt]
      exact h3
  | d :: ds, cs, i + 1, h, hd => by
    rw [List.getElem?_cons_succ] at hd
    simp only [RepE] at h
    obtain ⟨h1, h2, h3⟩ := h
    obtain ⟨i1, i2⟩ := RepE.setField hp hf hu h3 hd
    rw [List.length_drop] at i1
    have e : (i + 1) * k + pre.length = k + (i * k + pre.length) := by rw [Nat.succ_mul]; omega
    simp only [List.set_cons_succ, RepE]
    refine ⟨by omega, by simpa using h1, ?_, ?_⟩
    · rw [List.take_set_of_le (by omega)]
      exact h2
    · rw [List.drop_set, if_neg (by omega), show (i + 1) * k + pre.length - k = i * k + pre.length by omega]
      exact i2

/-- The place of an element of a slice that may grow. -/
theorem at_index_accK {P : Program} {tt : Tab} (hT : TTOK P tt) {t e e' : TypeId} {k : Nat} {x ix : SV} {S : St} {K : SV → St → Prop} {a : Option Addr} {n c : Nat} {i : Int} {kk : IntKind} {ds : List D} {d : D} (j : Nat) (hx : x = .v (.slice a n c)) (hi : ix = .v (.int kk i)) (ht : tt t = some (.slice e k))
    (hacc : nth S.accs j = some ⟨.slice a n c, k, e', ds⟩) (h0 : 0 ≤ i) (hd : ds[i.toNat]? = some d) (h : ∀ b, a = some ⟨b, 0, none⟩ → K (.v (.pointer (some ⟨b, i.toNat * k, none⟩))) S) : AtPure P (fun ℓ => Instr.indexAt t (x.den ℓ) (ix.den ℓ)) S K := by
  have hlt : i.toNat < ds.length := (List.getElem?_eq_some_iff.1 hd).1
  constructor
  intro J ℓ w hG hJ
  have ha : S.accs[j]? = some ⟨.slice a n c, k, e', ds⟩ := by rw [← nth_eq]; exact hacc
  rcases hG.accs _ (List.mem_of_getElem? ha) with ⟨_, hd⟩ | ⟨b, cap, cc, hv, _, _, _, _⟩
  · simp only at hd; subst hd; simp at hlt
  simp only [Value.slice.injEq] at hv
  obtain ⟨rfl, rfl, rfl⟩ := hv
  exact (at_index_acc hT hx hi ht h0 (by omega) (h b rfl)).sem J ℓ w hG hJ

/-- The place of a field. -/
theorem at_fieldPtr {P : Program} {tt : Tab} (hT : TTOK P tt) {t : TypeId} {x : SV} {f b o d o' : Nat} {offs szs : List Nat} {zs : List Value} {S : St} {K : SV → St → Prop} (ht : tt t = some (.struct offs szs zs)) (hd : nth offs f = some d) (hx : x = .v (.pointer (some ⟨b, o, none⟩))) (ho : o' = o + d)
    (h : K (.v (.pointer (some ⟨b, o', none⟩))) S) : AtPure P (fun ℓ => Instr.fieldAt t (x.den ℓ) f) S K := by
  subst hx ho
  refine AtPure.val _ rfl (fun ℓ w => ?_) h
  obtain ⟨_, _, _, fs, hu, hoffs, hszs, hf⟩ := hT t _ ht
  rw [nth_eq, ← hoffs] at hd
  simp only [List.getElem?_map, Option.map_eq_some_iff] at hd
  obtain ⟨fd, hfd, rfl⟩ := hd
  have hfd' : fs[f]? = some fd := by simpa using hfd
  have hlt : f < fs.size := by
    rcases Nat.lt_or_ge f fs.size with hh | hh
    · exact hh
    · simp [Array.getElem?_eq_none hh] at hfd'
  obtain ⟨k, hk⟩ : ∃ k, szs[f]? = some k := ⟨szs[f]'(by omega), by simp [List.getElem?_eq_getElem (show f < szs.length by omega)]⟩
  obtain ⟨hk0, hsz⟩ := hf f fd k hfd' hk
  simp only [Instr.fieldAt, Sem.run_bind, run_underlying' hu, Result.andThen_ok, hfd', SV.den, Instr.sureAddr, pure_bind, fieldPlace, hsz, if_neg hk0, Sem.run_pure]
  congr 3
  unfold Addr.add
  split
  · rename_i h0; simp [h0]
  · simp [Nat.add_assoc]

/-- A field, of one cell, of a struct in a slice that may grow is written. -/
theorem at_store_accF {P : Program} {tt : Tab} (hT : TTOK P tt) {t e : TypeId} {x s : SV} {S : St} {K : SV → St → Prop} {b n c i k o : Nat} {f f' : D} {u : Value} {ds ds' : List D} (pre post : List D) (j : Nat) (hacc : nth S.accs j = some ⟨.slice (some ⟨b, 0, none⟩) n c, k, e, ds⟩) (hi : ds[i]? = some (.agg (pre ++ f :: post))) (hpre : pre.all (fun p => (D.one p).isSome) = true) (hf : (D.one f).isSome = true) (hu : D.one f' = some u)
    (ht : (∃ z, tt t = some (.cell z)) ∨ tt t = some .str) (hx : x = .v (.pointer (some ⟨b, o, none⟩))) (ho : o = i * k + pre.length) (hs : s = .v u) (hds : ds' = ds.set i (.agg (pre ++ f' :: post))) (h : forceL (setNth S.accs j ⟨.slice (some ⟨b, 0, none⟩) n c, k, e, ds'⟩) (fun accs => K undefS ⟨S.own, accs, S.reps⟩)) :
    AtSem P (fun ℓ => do Instr.storeAt t (x.den ℓ) (s.den ℓ); pure undef) S K := by
  subst hx hs hds
  rw [forceL_eq] at h
  obtain ⟨hu1, hu2⟩ := one_cell hu
  constructor
  intro J ℓ w hG hJ
  have ha : S.accs[j]? = some ⟨.slice (some ⟨b, 0, none⟩) n c, k, e, ds⟩ := by rw [← nth_eq]; exact hacc
  rcases hG.accs _ (List.mem_of_getElem? ha) with ⟨hv, _⟩ | ⟨b', cap, cc, hv, hb, hcs, hle, hre⟩
  · cases hv
  simp only [Value.slice.injEq, Option.some.injEq, Addr.mk.injEq, and_true] at hv
  obtain ⟨⟨rfl, _⟩, rfl, rfl⟩ := hv
  simp only at hb hcs hle hre
  have hsz := (tt_cell hT ht).2 w
  have hicc : o < cc.size := by
    have := (RepE.setField hpre hf hu hre hi).1
    simp at this; omega
  have hst := run_storeCells_at P b o e [u] 0 cc w hb (by simp; omega) (by simp [hu1])
  have hset : (cc.toList.take o ++ [u] ++ cc.toList.drop (o + 1)) = cc.toList.set o u := by
    rw [List.set_eq_take_append_cons_drop, if_pos (by simpa using hicc)]
    simp
  simp only [Nat.add_zero, List.length_cons, List.length_nil, Nat.zero_add, hset] at hst
  have hrow := setRow_heap w b cc (cc.toList.set o u).toArray e (0, 0) hb
  have hgood := hG.regrow (j := j) (a' := ⟨.slice (some ⟨b, 0, none⟩) ds.length c, k, e, ds.set i (.agg (pre ++ f' :: post))⟩) (w' := w.setRow b (cc.toList.set o u).toArray) hJ ha (by simp [World.setRow])
    (fun x hx hm => setRow_other w b x _ (fun e => hm (by simp [accBlk, e]))) (by simp [accBlk]) (fun x hx => ?_) (fun J' hj => ?_)
  · refine ⟨undefS, ℓ, _, w.setRow b (cc.toList.set o u).toArray, ?_, rfl, List.prefix_refl _, ⟨rfl, rfl, by simp [World.setRow], fun x hx hm => setRow_other w b x _ (fun e => hm ?_)⟩, hgood.1, hgood.2, h⟩
    · have hce : u.cells.size = 1 := by rw [hu2]; rfl
      have hcl : u.cells.toList = [u] := by rw [hu2]
      simp only [SV.den, Instr.storeAt, Instr.sureAddr, pure_bind, storeVar, Sem.run_bind, hsz, Result.andThen_ok, hce, ne_eq, not_true_eq_false, if_false, hcl, hst, Sem.run_pure, undefS, SV.denL, undef]
    · simp only [mutS]
      exact List.mem_append.2 (.inr (List.mem_flatMap.2 ⟨_, List.mem_of_getElem? ha, by simp [accBlk, e]⟩))
  · simp [accBlk] at hx
    subst hx
    exact ⟨.inl (by simp [accBlk]), by simpa [World.setRow] using lt_of_get hb⟩
  · refine .inr ⟨b, c, _, by simp, hrow, by simpa using hcs, by simpa using hle, ?_⟩
    simp only
    have hh := (RepE.setField hpre hf hu (RepE.map hj k _ _ hre) hi).2
    rw [← ho] at hh
    exact hh

theorem repE_int {J J' : Nat → Prop} {w : World} : ∀ {l : List Int} {cs : List Value}, RepE J w 1 (l.map (D.int .i64)) cs → RepE J' w 1 (l.map (D.int .i64)) cs
  | [], _, _ => by simp [RepE]
  | _ :: _, _, h => by
    simp only [List.map_cons, RepE, RepC] at h ⊢
    exact ⟨h.1, h.2.1, repE_int h.2.2⟩

/-- A call that reads what grows, and makes a list of ints. -/
theorem Meets.atBI {P : Program} {cl : Cal} {args : List SV} {rs : List (Value × D)} {R : Out → St → Prop} {S : St} {K : Out → St → Prop} (h : Meets P cl args ⟨[], [], rs⟩ R) (sel : List RSel) (hrs : selReps S sel = some rs) (hargs : SV.wfL 0 args = true) (hcl : cl.wf 0 = true)
    (k : ∀ o s', R o s' → ∃ r v T l, o = .ret r ∧ s' = ⟨[], [⟨v, 1, T, List.map (D.int .i64) l⟩], []⟩ ∧ r.wf 0 = true ∧ forceL (⟨v, 1, T, List.map (D.int .i64) l⟩ :: S.accs) (fun accs => K (.ret r) ⟨S.own, accs, S.reps⟩)) : Meets P cl args S K := by
  intro J ℓ w hG hJ
  have hG0 : Good J [] ⟨[], [], rs⟩ w := by
    refine ⟨rfl, by simp [mutS, mutL], by simp [mutS, mutL], by simp [mutS, mutL], by simp, by simp, by simp, ?_⟩
    have hx : ∀ x, x < w.heap.size → Jx J (mutS ℓ S) x → Jx J (mutS [] ⟨[], [], rs⟩) x ∧ w.heap[x]? = w.heap[x]? := fun x _ hj => ⟨⟨hj.1, by simp [mutS, mutL]⟩, rfl⟩
    intro p hp
    rcases selReps_mem hrs p hp with h1 | ⟨j, a, hj, haj, rfl⟩ | ⟨k, rfl⟩
    · exact (hG.reps p h1).map hx
    · have hok := hG.accs a (List.mem_of_getElem? haj)
      simp only [Rep, RepC]
      rcases hok with ⟨hv, hd⟩ | ⟨b, cp, cc, hv, hgb, hcs, hl, hre⟩
      · rw [hv, hd]
        exact ⟨none, 0, rfl, ⟨Nat.le_refl _, Nat.zero_le _⟩, .inl rfl⟩
      · rw [hv]
        have hba : b ∈ accBlk a.v := by simp [hv, accBlk]
        have hbm : b ∈ S.accs.flatMap (fun a => accBlk a.v) := List.mem_flatMap.2 ⟨a, List.mem_of_getElem? haj, hba⟩
        refine ⟨_, cp, rfl, hl, .inr ⟨b, 0, cc, a.T, (0, 0), rfl, ⟨hG.memJ b (by simp only [mutS]; exact List.mem_append.2 (.inr hbm)), by simp [mutS, mutL]⟩, hgb, ?_⟩⟩
        simpa using RepE.map hx a.k _ _ hre
    · exact ⟨none, 0, rfl, ⟨Nat.zero_le _, Nat.zero_le _⟩, .inl rfl⟩
  obtain ⟨nx, h1, h2⟩ := h _ [] w hG0 hJ
  refine ⟨nx, by rw [cal_sem_nil ℓ [] args cl hargs hcl]; exact h1, h2.mono ?_⟩
  rintro e w' ⟨ℓ', o, S', he, hwf, _, hx, hG', hf, hR⟩
  obtain ⟨r, v, T, l, rfl, rfl, hr0, hK⟩ := k o S' hR
  rw [forceL_eq] at hK
  have hx0 : Ext [] w w' := by simpa [mutS, mutL] using hx
  have hℓ' : ℓ' = [] := by have := hG'.len; simpa using this
  subst hℓ'
  have hfr : ∀ b ∈ accBlk v, w.heap.size ≤ b ∧ b < w'.heap.size := by
    intro b hb
    have hm : b ∈ mutS [] ⟨[], [⟨v, 1, T, List.map (D.int .i64) l⟩], []⟩ := by simp [mutS, mutL, hb]
    refine ⟨?_, hG'.lt b hm⟩
    rcases hf b hm with h | h
    · simp [mutS, mutL] at h
    · exact h
  have hold : ∀ b, b < w.heap.size → w'.heap[b]? = w.heap[b]? := fun b hb => hx0.block b hb (by simp)
  have hG1 : Good J ℓ ⟨S.own, ⟨.slice none 0 0, 1, T, []⟩ :: S.accs, S.reps⟩ w := Good.nilAcc 1 T hG
  have hm1 : mutS ℓ ⟨S.own, ⟨.slice none 0 0, 1, T, []⟩ :: S.accs, S.reps⟩ = mutS ℓ S := by simp [mutS, accBlk]
  have hacc := hG'.accs _ (List.mem_singleton.2 rfl)
  obtain ⟨hG2, hf2⟩ := hG1.regrow hJ (j := 0) (a := ⟨.slice none 0 0, 1, T, []⟩) (a' := ⟨v, 1, T, List.map (D.int .i64) l⟩) (w' := w') rfl hx0.size (fun b hb _ => hold b hb) (by
    rcases hacc with ⟨hv, _⟩ | ⟨b, cp, cc, hv, _⟩ <;> simp only at hv <;> subst hv <;> simp [accBlk]) (by
    intro b hb
    exact ⟨.inr (hfr b hb).1, (hfr b hb).2⟩) (fun J' hj => by
    rcases hacc with ⟨hv, hd⟩ | ⟨b, cp, cc, hv, h3, h4, h5, h6⟩
    · exact .inl ⟨hv, hd⟩
    · exact .inr ⟨b, cp, cc, hv, h3, h4, h5, repE_int h6⟩)
  refine ⟨ℓ, .ret r, _, ?_, SV.wf_mono (Nat.zero_le _) r hr0, List.prefix_refl _, hx0.mono (by simp), hG2, fun b hb => ?_, hK⟩
  · rw [he]; simp only [Out.ending]; rw [SV.den_congr (n := 0) (ℓ := ℓ) (ℓ' := []) (fun i hi => by omega) r hr0]
  · rcases hf2 b hb with h | h
    · rw [hm1] at h; exact .inl h
    · exact .inr h
end Go.Tr
end
