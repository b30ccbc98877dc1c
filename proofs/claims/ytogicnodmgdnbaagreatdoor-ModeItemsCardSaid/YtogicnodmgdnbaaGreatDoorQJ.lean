/- Merged texts: G2. Functions that the statements on directives of modes reach, with fuel, and their contracts. Conditions stand in each. -/
import Derived.Test.YtogicnodmgdnbaaGreatDoorQI
/-! G2 -/
section
namespace Go.Proofs.YtogicnodmgdnbaaGreatDoor
open Go.Tr Go
set_option maxRecDepth 10000
set_option linter.unusedVariables false
set_option linter.unusedSimpArgs false

abbrev Md.gk (x : Md) (a : Option Addr) (c : Nat) : SV := .agg [(.v (.int .i64 x.family)), (.v (.slice a ((List.map (D.int .i64) x.signs).length) c))]
abbrev Md.gv : GE Md → Value := fun (x, a, c) => .agg #[(.int .i64 x.family), (.slice a ((List.map (D.int .i64) x.signs).length) c)]
abbrev Md.gp (x : Md) : List D := (List.map (D.int .i64) x.signs)
mutual
def term_Domains : Nat → Tm → Option ((List Tm) × Tm)
  | 0, _ => none
  | n + 1, v1 =>
    term_Domains_L1 n v1 ([])
def term_Domains_L1 : Nat → Tm → (List Tm) → Option ((List Tm) × Tm)
  | 0, _, _ => none
  | n + 1, v17, v19 =>
    cond (v17.op == 2) (
    (idx v17.args 0).bind (fun v22 =>
    cond (decide ((Tm.encL (v19 ++ [v22])).length ≤ 1000000)) (
    (idx v17.args 1).bind (fun v30 =>
    term_Domains_L1 n v30 (v19 ++ [v22]))) none)) (
    some (v19, v17))
 end
theorem term_Domains_spec (n : Nat) (v1 : Tm) (a2 : Option Addr) (c2 : Nat) (r : (List Tm) × Tm) (hr : term_Domains n v1 = some r) : Pure Tryz.prog (.val (.fn (.func 29) [] [])) [(.agg [(.v (.int .i64 v1.op)), (.v (.int .i64 v1.hd)), (.v (.int .i64 v1.n)), (.v (.slice a2 ((Tm.encL v1.args).length) c2))])] [(.slice a2 ((Tm.encL v1.args).length) c2, .sl 4 (Tm.encL v1.args))] (fun r' out => ∃ (b1 : Option Addr) (d1 : Nat), ∃ (b2 : Option Addr) (d2 : Nat), r' = (.tup [(.v (.slice b1 ((Tm.encL r.1).length) d1)), (.agg [(.v (.int .i64 r.2.op)), (.v (.int .i64 r.2.hd)), (.v (.int .i64 r.2.n)), (.v (.slice b2 ((Tm.encL r.2.args).length) d2))])]) ∧ out = [(.slice b1 ((Tm.encL r.1).length) d1, .sl 4 (Tm.encL r.1)), (.slice b2 ((Tm.encL r.2.args).length) d2, .sl 4 (Tm.encL r.2.args))]) := by
  rcases n with _ | n
  · exact no_some hr
  rw [term_Domains.eq_2] at hr
  refine spec_of_body (N := 21) (m := 0) (dt := drawsOf [(5, .node [0, 1, 2] [(3, .leaf [])], [3], [])]) [] ttOK Tryz.func29 rfl Tryz.call29 Tryz.ntmps29 rfl rfl rfl mixed (by kernel_rfl) ?_
  refine AtLoop.mk ⟨Nat × Tm × Option Addr × Nat × (List Tm) × Option Addr × Nat, fun x => [(1, (.loc 0 0)), (3, (.loc 1 0)), (4, (.v (.slice x.2.2.2.2.2.1 ((Tm.encL x.2.2.2.2.1).length) x.2.2.2.2.2.2)))], fun x => ⟨[.cells 55 [(.v (.int .i64 x.2.1.op)), (.v (.int .i64 x.2.1.hd)), (.v (.int .i64 x.2.1.n)), (.v (.slice x.2.2.1 ((Tm.encL x.2.1.args).length) x.2.2.2.1))], .cells 55 [(.v (.int .i64 0)), (.v (.int .i64 0)), (.v (.int .i64 0)), (.v (.slice none 0 0))]], [⟨.slice x.2.2.2.2.2.1 ((Tm.encL x.2.2.2.2.1).length) x.2.2.2.2.2.2, 4, 55, (Tm.encL x.2.2.2.2.1)⟩], [(.slice x.2.2.1 ((Tm.encL x.2.1.args).length) x.2.2.2.1, .sl 4 (Tm.encL x.2.1.args)), (.slice a2 ((Tm.encL v1.args).length) c2, .sl 4 (Tm.encL v1.args))]⟩, fun x => term_Domains_L1 x.1 x.2.1 x.2.2.2.2.1 = some r, fun x => x.1, (n, v1, a2, c2, [], none, 0), hr, ⟨rfl, rfl, rfl, trivial⟩, (StLe.gen 2 [.nil 4 55] [.old 0, .old 0] rfl rfl rfl rfl rfl rfl rfl), fun x _ => ⟨rfl, rfl⟩, ?_⟩
  rintro ⟨n, v17, a18, c18, v19, a20, c20⟩ HH
  have hr : term_Domains_L1 n v17 v19 = some r := HH
  rcases n with _ | n
  · exact no_some hr
  rw [term_Domains_L1.eq_2] at hr
  refine AtIf.mk (fun h21 => ?_) (fun h21 => ?_)
  · replace hr := cond_t h21 hr
    obtain ⟨v22, h23, hr⟩ := bind_some hr
    obtain ⟨h24, h25⟩ := idx_some h23
    refine at_index ttOK 0 rfl rfl rfl rfl h24 (Tm.encL_get h25) ?_
    intro a26 c26 _ _
    refine at_buildG (n := 1) ttOK 48 [.agg [.int .i64 v22.op, .int .i64 v22.hd, .int .i64 v22.n, .sl 4 (Tm.encL v22.args)]] (ds' := (Tm.encL ([v22]))) rfl (by kernel_rfl) ⟨⟨rfl, rfl, rfl, ⟨[(.v (.int .i64 v22.op))], _, rfl, rfl, ⟨[(.v (.int .i64 v22.hd))], _, rfl, rfl, ⟨[(.v (.int .i64 v22.n))], _, rfl, rfl, ⟨[(.v (.slice a26 ((Tm.encL v22.args).length) c26))], _, rfl, (.inl ⟨_, rfl, nth_mem (j := 2) rfl⟩), rfl⟩⟩⟩⟩⟩, trivial⟩ rfl (by simp only [Tm.encL_eq, List.map_cons, List.map_nil, Tm.enc_eq] <;> rfl) (by decide) (by decide) ?_
    intro a27
    obtain ⟨h28, hr⟩ := cond_need hr
    refine at_appendG (ds' := (Tm.encL (v19 ++ [v22]))) ttOK 48 0 3 rfl (by kernel_rfl) rfl rfl rfl rfl (by simp only [Tm.encL_eq, List.map_append]) h28 (by decide) ?_
    intro a29 c29
    obtain ⟨v30, h31, hr⟩ := bind_some hr
    obtain ⟨h32, h33⟩ := idx_some h31
    refine at_index ttOK 0 rfl rfl rfl rfl h32 (Tm.encL_get h33) ?_
    intro a34 c34 _ _
    exact ⟨(n, v30, a34, c34, (v19 ++ [v22]), a29, c29), hr, Nat.lt_succ_self _, ⟨rfl, rfl, rfl, trivial⟩, (StLe.gen 2 [.old 0] [.old 4, .old 1] rfl rfl rfl rfl rfl rfl rfl)⟩
  · replace hr := cond_f h21 hr
    replace hr := Option.some.inj hr
    subst hr
    exact AtRet.pureG [.froz 0, .old 0] [(.slice a20 ((Tm.encL v19).length) c20, .sl 4 (Tm.encL v19)), (.slice a18 ((Tm.encL v17.args).length) c18, .sl 4 (Tm.encL v17.args))] rfl rfl ⟨a20, c20, a18, c18, rfl, rfl⟩
def sign_kind : Nat → Tm → Option (Bool)
  | 0, _ => none
  | n + 1, v1 =>
    (term_Domains n v1).bind (fun v3 =>
    some ((v3.2.op == 1)))
theorem sign_kind_spec (n : Nat) (v1 : Tm) (a2 : Option Addr) (c2 : Nat) (r : Bool) (hr : sign_kind n v1 = some r) : Pure Tryz.prog (.val (.fn (.func 58) [] [])) [(.agg [(.v (.int .i64 v1.op)), (.v (.int .i64 v1.hd)), (.v (.int .i64 v1.n)), (.v (.slice a2 ((Tm.encL v1.args).length) c2))])] [(.slice a2 ((Tm.encL v1.args).length) c2, .sl 4 (Tm.encL v1.args))] (fun r' out => r' = (.v (.bool r)) ∧ out = []) := by
  rcases n with _ | n
  · exact no_some hr
  rw [sign_kind.eq_2] at hr
  refine spec_of_body (N := 13) (m := 0) (dt := fun _ => none) [] ttOK Tryz.func58 rfl Tryz.call58 Tryz.ntmps58 rfl rfl rfl mixed (by kernel_rfl) ?_
  obtain ⟨v3, h4, hr⟩ := bind_some hr
  refine (term_Domains_spec n v1 a2 c2 _ h4).atR [0] rfl rfl rfl ?_
  rintro _ _ ⟨a5, c5, a6, c6, rfl, rfl⟩
  replace hr := Option.some.inj hr
  subst hr
  exact AtRet.pureG [] [] rfl rfl ⟨rfl, rfl⟩
def sign_name : Nat → ByteArray → Option (Bool)
  | 0, _ => none
  | n + 1, v1 =>
    some (((isSmallF v1) && (!(v1.toList == (⟨#[116, 121, 112, 101]⟩ : ByteArray).toList))))
theorem sign_name_spec (n : Nat) (v1 : ByteArray)  (r : Bool) (hr : sign_name n v1 = some r) : Pure Tryz.prog (.val (.fn (.func 74) [] [])) [(.v (.string v1))] [] (fun r' out => r' = (.v (.bool r)) ∧ out = []) := by
  rcases n with _ | n
  · exact no_some hr
  rw [sign_name.eq_2] at hr
  refine spec_of_body (N := 9) (m := 0) (dt := fun _ => none) [] ttOK Tryz.func74 rfl Tryz.call74 Tryz.ntmps74 rfl rfl rfl mixed (by kernel_rfl) ?_
  refine (isSmall_spec v1).atR [] rfl rfl rfl ?_
  rintro _ _ ⟨rfl, rfl⟩
  replace hr := Option.some.inj hr
  subst hr
  exact AtRet.pureG [] [] rfl rfl ⟨rfl, rfl⟩
def term_Under : Nat → Tm → Int → Option (Int)
  | 0, _, _ => none
  | n + 1, v1, v3 =>
    cond ((v1.op == 3) || ((v1.op == 2) && (v3 == 1))) (
    some (1)) (
    some (0))
theorem term_Under_spec (n : Nat) (v1 : Tm) (v3 : Int) (a2 : Option Addr) (c2 : Nat) (r : Int) (hr : term_Under n v1 v3 = some r) : Pure Tryz.prog (.val (.fn (.func 104) [] [])) [(.agg [(.v (.int .i64 v1.op)), (.v (.int .i64 v1.hd)), (.v (.int .i64 v1.n)), (.v (.slice a2 ((Tm.encL v1.args).length) c2))]), (.v (.int .i64 v3))] [(.slice a2 ((Tm.encL v1.args).length) c2, .sl 4 (Tm.encL v1.args))] (fun r' out => r' = (.v (.int .i64 r)) ∧ out = []) := by
  rcases n with _ | n
  · exact no_some hr
  rw [term_Under.eq_2] at hr
  refine spec_of_body (N := 17) (m := 0) (dt := fun _ => none) [] ttOK Tryz.func104 rfl Tryz.call104 Tryz.ntmps104 rfl rfl rfl mixed (by kernel_rfl) ?_
  refine AtIf.mk (fun h4 => ?_) (fun h4 => ?_)
  · replace hr := cond_t h4 hr
    replace hr := Option.some.inj hr
    subst hr
    exact AtRet.pureG [] [] rfl rfl ⟨rfl, rfl⟩
  · replace hr := cond_f h4 hr
    replace hr := Option.some.inj hr
    subst hr
    exact AtRet.pureG [] [] rfl rfl ⟨rfl, rfl⟩
def sign_formed_1 : Nat → Tm → Int → Bool → (List Dc) → Option (Bool)
  | 0, _, _, _, _ => none
  | n + 1, v1, v3, v4, v5 =>
    cond (v1.op != 4) (
    some (v4)) (
    some ((((v4 && (v1.hd != 3)) && ((v1.hd != 1) || (decide (v1.n < v3)))) && ((v1.hd != 2) || (decide (v1.n < ((Dc.encL v5).length : Int)))))))
theorem sign_formed_1_spec (n : Nat) (v1 : Tm) (v3 : Int) (v4 : Bool) (v5 : (List Dc)) (a2 : Option Addr) (c2 : Nat) (a6 : Option Addr) (c6 : Nat) (r : Bool) (hr : sign_formed_1 n v1 v3 v4 v5 = some r) : Meets Tryz.prog (.val (.fn (.func 76) [] [(.loc 0 0), (.loc 1 0)])) [(.agg [(.v (.int .i64 v1.op)), (.v (.int .i64 v1.hd)), (.v (.int .i64 v1.n)), (.v (.slice a2 ((Tm.encL v1.args).length) c2))]), (.v (.int .i64 v3))] ⟨[.cells 4 [(.v (.bool v4))], .cells 22 [(.v (.slice a6 ((Dc.encL v5).length) c6))]], [], [(.slice a2 ((Tm.encL v1.args).length) c2, .sl 4 (Tm.encL v1.args)), (.slice a6 ((Dc.encL v5).length) c6, .sl 6 (Dc.encL v5))]⟩ (fun o S' => o = .ret (.tup []) ∧ S' = ⟨[.cells 4 [(.v (.bool r))], .cells 22 [(.v (.slice a6 ((Dc.encL v5).length) c6))]], [], []⟩) := by
  rcases n with _ | n
  · exact no_some hr
  rw [sign_formed_1.eq_2] at hr
  refine spec_of_body (N := 38) (m := 2) (dt := fun _ => none) [] ttOK Tryz.func76 rfl Tryz.call76 Tryz.ntmps76 rfl rfl rfl mixed (by kernel_rfl) ?_
  refine AtIf.mk (fun h7 => ?_) (fun h7 => ?_)
  · replace hr := cond_t h7 hr
    replace hr := Option.some.inj hr
    subst hr
    exact AtRet.gen ⟨[.cells 4 [(.v (.bool v4))], .cells 22 [(.v (.slice a6 ((Dc.encL v5).length) c6))]], [], []⟩ (StLe.gen 2 [] [] rfl rfl rfl rfl rfl rfl rfl) rfl rfl ⟨rfl, rfl⟩
  · replace hr := cond_f h7 hr
    replace hr := Option.some.inj hr
    subst hr
    exact AtRet.gen ⟨[.cells 4 [(.v (.bool (((v4 && (v1.hd != 3)) && ((v1.hd != 1) || (decide (v1.n < v3)))) && ((v1.hd != 2) || (decide (v1.n < ((Dc.encL v5).length : Int)))))))], .cells 22 [(.v (.slice a6 ((Dc.encL v5).length) c6))]], [], []⟩ (StLe.gen 2 [] [] rfl rfl rfl rfl rfl rfl rfl) rfl rfl ⟨rfl, rfl⟩
mutual
def term_Each_sign_formed_1 : Nat → Tm → Int → Bool → (List Dc) → Option (Bool)
  | 0, _, _, _, _ => none
  | n + 1, v1, v3, v4, v5 =>
    (sign_formed_1 n v1 v3 v4 v5).bind (fun v7 =>
    term_Each_sign_formed_1_L1 n v1 v3 v5 v7 0)
def term_Each_sign_formed_1_L1 : Nat → Tm → Int → (List Dc) → Bool → Int → Option (Bool)
  | 0, _, _, _, _, _ => none
  | n + 1, v1, v3, v5, v19, v20 =>
    cond (decide (v20 < ((Tm.encL v1.args).length : Int))) (
    (idx v1.args v20).bind (fun v22 =>
    (term_Under n v1 v20).bind (fun v27 =>
    (term_Each_sign_formed_1 n v22 (IntKind.i64.wrap (v3 + v27)) v19 v5).bind (fun v29 =>
    term_Each_sign_formed_1_L1 n v1 v3 v5 v29 (IntKind.i64.wrap (v20 + 1)))))) (
    some (v19))
 end
theorem term_Each_sign_formed_1_specN : ∀ (N : Nat), (∀ (n : Nat), n ≤ N → ∀ (v1 : Tm) (v3 : Int) (v4 : Bool) (v5 : (List Dc)) (a2 : Option Addr) (c2 : Nat) (a6 : Option Addr) (c6 : Nat) (r : Bool), term_Each_sign_formed_1 n v1 v3 v4 v5 = some r → Meets Tryz.prog (.val (.fn (.func 75) [] [])) [(.agg [(.v (.int .i64 v1.op)), (.v (.int .i64 v1.hd)), (.v (.int .i64 v1.n)), (.v (.slice a2 ((Tm.encL v1.args).length) c2))]), (.v (.int .i64 v3)), (.fn (.func 76) [] [(.loc 0 0), (.loc 1 0)])] ⟨[.cells 4 [(.v (.bool v4))], .cells 22 [(.v (.slice a6 ((Dc.encL v5).length) c6))]], [], [(.slice a2 ((Tm.encL v1.args).length) c2, .sl 4 (Tm.encL v1.args)), (.slice a6 ((Dc.encL v5).length) c6, .sl 6 (Dc.encL v5))]⟩ (fun o S' => o = .ret (.tup []) ∧ S' = ⟨[.cells 4 [(.v (.bool r))], .cells 22 [(.v (.slice a6 ((Dc.encL v5).length) c6))]], [], []⟩)) := by
  intro N
  induction N with
  | zero =>
    intro n hn v1 v3 v4 v5 a2 c2 a6 c6 r hr; obtain rfl : n = 0 := (by omega); exact no_some hr
  | succ N ih =>
    intro n hn v1 v3 v4 v5 a2 c2 a6 c6 r hr
    rcases n with _ | n
    · exact no_some hr
    replace hn : n ≤ N := by omega
    rw [term_Each_sign_formed_1.eq_2] at hr
    refine spec_of_body (N := 29) (m := 2) (dt := drawsOf [(5, .node [0, 1, 2, 3, 6] [(4, .node [5] [(7, .leaf [])])], [7], [])]) [] ttOK Tryz.func75 rfl Tryz.call75 Tryz.ntmps75 rfl rfl rfl mixed (by kernel_rfl) ?_
    obtain ⟨v7, h8, hr⟩ := bind_some hr
    refine (sign_formed_1_spec n v1 v3 v4 v5 a2 c2 a6 c6 _ h8).frameR [0, 1] [0, 1] rfl rfl rfl rfl rfl rfl rfl rfl ?_
    rintro _ _ ⟨rfl, rfl⟩
    refine ⟨rfl, rfl, [.cells 4 [(.v (.bool v7))], .cells 22 [(.v (.slice a6 ((Dc.encL v5).length) c6))]], rfl, ?_⟩
    refine AtLoop.mk ⟨Nat × Bool × Int, fun x => [(1, (.v (.int .i64 v3))), (2, (.fn (.func 76) [] [(.loc 0 0), (.loc 1 0)])), (3, (.loc 2 0)), (13, (.v (.slice a2 ((Tm.encL v1.args).length) c2))), (14, (.v (.int .i64 ((Tm.encL v1.args).length : Int)))), (15, (.v (.int .i64 x.2.2)))], fun x => ⟨[.cells 4 [(.v (.bool x.2.1))], .cells 22 [(.v (.slice a6 ((Dc.encL v5).length) c6))], .cells 55 [(.v (.int .i64 v1.op)), (.v (.int .i64 v1.hd)), (.v (.int .i64 v1.n)), (.v (.slice a2 ((Tm.encL v1.args).length) c2))]], [], [(.slice a2 ((Tm.encL v1.args).length) c2, .sl 4 (Tm.encL v1.args)), (.slice a6 ((Dc.encL v5).length) c6, .sl 6 (Dc.encL v5))]⟩, fun x => x.1 ≤ N ∧ term_Each_sign_formed_1_L1 x.1 v1 v3 v5 x.2.1 x.2.2 = some r, fun x => x.1, (n, v7, 0), ⟨by omega, hr⟩, ⟨rfl, rfl, rfl, rfl, rfl, rfl, trivial⟩, (StLe.gen 3 [] [.old 0, .old 1] rfl rfl rfl rfl rfl rfl rfl), fun x _ => ⟨rfl, rfl⟩, ?_⟩
    rintro ⟨n, v19, v20⟩ HH
    obtain ⟨hn, hr⟩ : n ≤ N ∧ term_Each_sign_formed_1_L1 n v1 v3 v5 v19 v20 = some r := HH
    rcases n with _ | n
    · exact no_some hr
    rw [term_Each_sign_formed_1_L1.eq_2] at hr
    refine AtIf.mk (fun h21 => ?_) (fun h21 => ?_)
    · replace hr := cond_t h21 hr
      obtain ⟨v22, h23, hr⟩ := bind_some hr
      obtain ⟨h24, h25⟩ := idx_some h23
      refine at_index ttOK 0 rfl rfl rfl rfl h24 (Tm.encL_get h25) ?_
      intro a26 c26 _ _
      obtain ⟨v27, h28, hr⟩ := bind_some hr
      refine (term_Under_spec n v1 v20 a2 c2 _ h28).atR [0] rfl rfl rfl ?_
      rintro _ _ ⟨rfl, rfl⟩
      refine ⟨fun _ _ h => h, ?_⟩
      obtain ⟨v29, h30, hr⟩ := bind_some hr
      refine (ih n (by omega) v22 (IntKind.i64.wrap (v3 + v27)) v19 v5 a26 c26 a6 c6 _ h30).frameR [0, 1] [2, 1] rfl rfl rfl rfl rfl rfl rfl rfl ?_
      rintro _ _ ⟨rfl, rfl⟩
      refine ⟨rfl, rfl, [.cells 4 [(.v (.bool v29))], .cells 22 [(.v (.slice a6 ((Dc.encL v5).length) c6))]], rfl, ?_⟩
      exact ⟨(n, v29, (IntKind.i64.wrap (v20 + 1))), ⟨by omega, hr⟩, Nat.lt_succ_self _, ⟨rfl, rfl, rfl, rfl, rfl, rfl, trivial⟩, (StLe.gen 3 [] [.old 0, .old 1] rfl rfl rfl rfl rfl rfl rfl)⟩
    · replace hr := cond_f h21 hr
      replace hr := Option.some.inj hr
      subst hr
      exact AtRet.gen ⟨[.cells 4 [(.v (.bool v19))], .cells 22 [(.v (.slice a6 ((Dc.encL v5).length) c6))]], [], []⟩ (StLe.gen 2 [] [] rfl rfl rfl rfl rfl rfl rfl) rfl rfl ⟨rfl, rfl⟩
theorem term_Each_sign_formed_1_spec (n : Nat) (v1 : Tm) (v3 : Int) (v4 : Bool) (v5 : (List Dc)) (a2 : Option Addr) (c2 : Nat) (a6 : Option Addr) (c6 : Nat) (r : Bool) (hr : term_Each_sign_formed_1 n v1 v3 v4 v5 = some r) : Meets Tryz.prog (.val (.fn (.func 75) [] [])) [(.agg [(.v (.int .i64 v1.op)), (.v (.int .i64 v1.hd)), (.v (.int .i64 v1.n)), (.v (.slice a2 ((Tm.encL v1.args).length) c2))]), (.v (.int .i64 v3)), (.fn (.func 76) [] [(.loc 0 0), (.loc 1 0)])] ⟨[.cells 4 [(.v (.bool v4))], .cells 22 [(.v (.slice a6 ((Dc.encL v5).length) c6))]], [], [(.slice a2 ((Tm.encL v1.args).length) c2, .sl 4 (Tm.encL v1.args)), (.slice a6 ((Dc.encL v5).length) c6, .sl 6 (Dc.encL v5))]⟩ (fun o S' => o = .ret (.tup []) ∧ S' = ⟨[.cells 4 [(.v (.bool r))], .cells 22 [(.v (.slice a6 ((Dc.encL v5).length) c6))]], [], []⟩) := (term_Each_sign_formed_1_specN n) n (Nat.le_refl _) v1 v3 v4 v5 a2 c2 a6 c6 r hr
def sign_target : Nat → Tm → Option (Int × Bool)
  | 0, _ => none
  | n + 1, v1 =>
    (term_Domains n v1).bind (fun v3 =>
    some (v3.2.n, ((v3.2.op == 4) && (v3.2.hd == 2))))
theorem sign_target_spec (n : Nat) (v1 : Tm) (a2 : Option Addr) (c2 : Nat) (r : Int × Bool) (hr : sign_target n v1 = some r) : Pure Tryz.prog (.val (.fn (.func 77) [] [])) [(.agg [(.v (.int .i64 v1.op)), (.v (.int .i64 v1.hd)), (.v (.int .i64 v1.n)), (.v (.slice a2 ((Tm.encL v1.args).length) c2))])] [(.slice a2 ((Tm.encL v1.args).length) c2, .sl 4 (Tm.encL v1.args))] (fun r' out => r' = (.tup [(.v (.int .i64 r.1)), (.v (.bool r.2))]) ∧ out = []) := by
  rcases n with _ | n
  · exact no_some hr
  rw [sign_target.eq_2] at hr
  refine spec_of_body (N := 21) (m := 0) (dt := drawsOf [(2, .leaf [0, 1, 2, 3, 4, 5, 6, 7, 8, 9, 10, 11], [], [])]) [] ttOK Tryz.func77 rfl Tryz.call77 Tryz.ntmps77 rfl rfl rfl mixed (by kernel_rfl) ?_
  obtain ⟨v3, h4, hr⟩ := bind_some hr
  refine (term_Domains_spec n v1 a2 c2 _ h4).atR [0] rfl rfl rfl ?_
  rintro _ _ ⟨a5, c5, a6, c6, rfl, rfl⟩
  replace hr := Option.some.inj hr
  subst hr
  exact AtRet.pureG [] [] rfl rfl ⟨rfl, rfl⟩
def sign_formed : Nat → (List Dc) → Dc → Option (Bool)
  | 0, _, _ => none
  | n + 1, v1, v3 =>
    cond ((if isProper v3.cls then (0 : Int) else 2) != 0) (
    some (false)) (
    (sign_name n v3.name).bind (fun v6 =>
    cond ((!v6) || (decide (v3.implicit < 0))) (
    some (false)) (
    (term_Domains n v3.cls).bind (fun v9 =>
    (term_Each_sign_formed_1 n v3.cls 0 (decide (v3.implicit ≤ ((Tm.encL v9.1).length : Int))) v1).bind (fun v13 =>
    (sign_kind n v3.cls).bind (fun v15 =>
    cond v15 (
    some (v13)) (
    (sign_target n v3.cls).bind (fun v18 =>
    cond (v13 && v18.2) (
    (idx v1 v18.1).bind (fun v21 =>
    (sign_kind n v21.cls).bind (fun v26 =>
    some (v26)))) (
    some (false))))))))))
theorem sign_formed_spec (n : Nat) (v1 : (List Dc)) (v3 : Dc) (a2 : Option Addr) (c2 : Nat) (a4 : Option Addr) (c4 : Nat) (r : Bool) (hr : sign_formed n v1 v3 = some r) : Pure Tryz.prog (.val (.fn (.func 50) [] [])) [(.v (.slice a2 ((Dc.encL v1).length) c2)), (.agg [(.v (.string v3.name)), (.v (.int .i64 v3.cls.op)), (.v (.int .i64 v3.cls.hd)), (.v (.int .i64 v3.cls.n)), (.v (.slice a4 ((Tm.encL v3.cls.args).length) c4)), (.v (.int .i64 v3.implicit))])] [(.slice a2 ((Dc.encL v1).length) c2, .sl 6 (Dc.encL v1)), (.slice a4 ((Tm.encL v3.cls.args).length) c4, .sl 4 (Tm.encL v3.cls.args))] (fun r' out => r' = (.v (.bool r)) ∧ out = []) := by
  rcases n with _ | n
  · exact no_some hr
  rw [sign_formed.eq_2] at hr
  refine spec_of_body (N := 62) (m := 0) (dt := fun _ => none) [] ttOK Tryz.func50 rfl Tryz.call50 Tryz.ntmps50 rfl rfl rfl mixed (by kernel_rfl) ?_
  refine (check_spec v3.cls a4 c4).atR [1] rfl rfl rfl ?_
  rintro _ _ ⟨rfl, rfl⟩
  refine AtGuard.mk (fun h5 => ?_) (fun h5 => ?_)
  · replace hr := cond_f h5 hr
    obtain ⟨v6, h7, hr⟩ := bind_some hr
    refine (sign_name_spec n v3.name _ h7).atR [] rfl rfl rfl ?_
    rintro _ _ ⟨rfl, rfl⟩
    refine AtIf.mk (fun h8 => ?_) (fun h8 => ?_)
    · replace hr := cond_t h8 hr
      replace hr := Option.some.inj hr
      subst hr
      exact AtRet.pureG [] [] rfl rfl ⟨rfl, rfl⟩
    · replace hr := cond_f h8 hr
      obtain ⟨v9, h10, hr⟩ := bind_some hr
      refine (term_Domains_spec n v3.cls a4 c4 _ h10).atR [1] rfl rfl rfl ?_
      rintro _ _ ⟨a11, c11, a12, c12, rfl, rfl⟩
      obtain ⟨v13, h14, hr⟩ := bind_some hr
      refine (term_Each_sign_formed_1_spec n v3.cls 0 (decide (v3.implicit ≤ ((Tm.encL v9.1).length : Int))) v1 a4 c4 a2 c2 _ h14).frameR [3, 0] [1, 0] rfl rfl rfl rfl rfl rfl rfl rfl ?_
      rintro _ _ ⟨rfl, rfl⟩
      refine ⟨rfl, rfl, [.cells 4 [(.v (.bool v13))], .cells 22 [(.v (.slice a2 ((Dc.encL v1).length) c2))]], rfl, ?_⟩
      obtain ⟨v15, h16, hr⟩ := bind_some hr
      refine (sign_kind_spec n v3.cls a4 c4 _ h16).atR [1] rfl rfl rfl ?_
      rintro _ _ ⟨rfl, rfl⟩
      refine AtIf.mk (fun h17 => ?_) (fun h17 => ?_)
      · replace hr := cond_t h17 hr
        replace hr := Option.some.inj hr
        subst hr
        exact AtRet.pureG [] [] rfl rfl ⟨rfl, rfl⟩
      · replace hr := cond_f h17 hr
        obtain ⟨v18, h19, hr⟩ := bind_some hr
        refine (sign_target_spec n v3.cls a4 c4 _ h19).atR [1] rfl rfl rfl ?_
        rintro _ _ ⟨rfl, rfl⟩
        refine AtGuard.mk (fun h20 => ?_) (fun h20 => ?_)
        · replace hr := cond_t h20 hr
          obtain ⟨v21, h22, hr⟩ := bind_some hr
          obtain ⟨h23, h24⟩ := idx_some h22
          refine at_index ttOK 0 rfl rfl rfl rfl h23 (Dc.encL_get h24) ?_
          intro a25 c25 _ _
          obtain ⟨v26, h27, hr⟩ := bind_some hr
          refine (sign_kind_spec n v21.cls a25 c25 _ h27).atR [4] rfl rfl rfl ?_
          rintro _ _ ⟨rfl, rfl⟩
          replace hr := Option.some.inj hr
          subst hr
          exact AtRet.pureG [] [] rfl rfl ⟨rfl, rfl⟩
        · replace hr := cond_f h20 hr
          replace hr := Option.some.inj hr
          subst hr
          exact AtRet.pureG [] [] rfl rfl ⟨rfl, rfl⟩
  · replace hr := cond_t h5 hr
    refine AtIf.mk (fun _ => ?_) (fun h => tf h)
    replace hr := Option.some.inj hr
    subst hr
    exact AtRet.pureG [] [] rfl rfl ⟨rfl, rfl⟩
mutual
def sign_Check : Nat → (List Dc) → Option (Int)
  | 0, _ => none
  | n + 1, v1 =>
    cond (decide (((Dc.encL v1).length : Int) > 100)) (
    some (2)) (
    sign_Check_L1 n v1 ([]) 0)
def sign_Check_L1 : Nat → (List Dc) → (List (ByteArray × Bool)) → Int → Option (Int)
  | 0, _, _, _ => none
  | n + 1, v1, v16, v17 =>
    cond (decide (v17 < ((Dc.encL v1).length : Int))) (
    (idx v1 v17).bind (fun v19 =>
    cond (decide ((0 : Int) ≤ (0 : Int) ∧ (0 : Int) ≤ v17 ∧ v17 ≤ ((Dc.encL v1).length : Int))) (
    cond ((mget v16 v19.name).getD false) (
    some (2)) (
    (sign_formed n (v1.take v17.toNat) v19).bind (fun v27 =>
    cond (!v27) (
    some (2)) (
    sign_Check_L1 n v1 (mput v19.name true v16) (IntKind.i64.wrap (v17 + 1)))))) none)) (
    some (0))
 end
theorem sign_Check_spec (n : Nat) (v1 : (List Dc)) (a2 : Option Addr) (c2 : Nat) (r : Int) (hr : sign_Check n v1 = some r) : Pure Tryz.prog (.val (.fn (.func 21) [] [])) [(.v (.slice a2 ((Dc.encL v1).length) c2))] [(.slice a2 ((Dc.encL v1).length) c2, .sl 6 (Dc.encL v1))] (fun r' out => r' = (.v (.int .i64 r)) ∧ out = []) := by
  rcases n with _ | n
  · exact no_some hr
  rw [sign_Check.eq_2] at hr
  refine spec_of_body (N := 27) (m := 0) (dt := fun _ => none) [] ttOK Tryz.func21 rfl Tryz.call21 Tryz.ntmps21 rfl rfl rfl mixed (by kernel_rfl) ?_
  refine AtIf.mk (fun h3 => ?_) (fun h3 => ?_)
  · replace hr := cond_t h3 hr
    replace hr := Option.some.inj hr
    subst hr
    exact AtRet.pureG [] [] rfl rfl ⟨rfl, rfl⟩
  · replace hr := cond_f h3 hr
    refine at_makeMapS ?_
    refine spec_of_body (N := 4) (m := 3) (dt := fun _ => none) [] ttOK Tryz.func49 rfl Tryz.call49 Tryz.ntmps49 rfl rfl rfl mixed (by kernel_rfl) ?_
    refine AtRet.gen _ (StLe.refl _) rfl rfl ?_
    refine AtRange.mk ⟨[(2, (.loc 0 0)), (3, (.loc 2 0))], ⟨rfl, rfl, trivial⟩, rfl, rfl, ⟨_, _, _, rfl, Tryz.call72⟩, ?_⟩
    refine spec_of_body (N := 20) (m := 5) (dt := drawsOf [(3, .node [0, 1, 2, 3, 4] [(5, .leaf [6])], [5], [])]) [] ttOK Tryz.func72 rfl Tryz.call72 Tryz.ntmps72 rfl rfl rfl mixed (by kernel_rfl) ?_
    refine AtLoop.mk ⟨Nat × (List (ByteArray × Bool)) × Int, fun x => [(0, (.yld 4)), (1, (.loc 3 0)), (5, (.v (.slice a2 ((Dc.encL v1).length) c2))), (6, (.v (.int .i64 ((Dc.encL v1).length : Int)))), (7, (.v (.int .i64 x.2.2)))], fun x => ⟨[.cells 34 [(.v (.int .i64 0))], .obj (mapS (encM Value.bool x.2.1)), .cells 95 [(.mp 1)], .cells 22 [(.v (.slice a2 ((Dc.encL v1).length) c2))], .lp ⟨27, [(2, (.loc 0 0)), (3, (.loc 2 0))], #[12, 13], rfAs Tryz.f21, rfBody Tryz.f21, .ready, none⟩], [], [(.slice a2 ((Dc.encL v1).length) c2, .sl 6 (Dc.encL v1))]⟩, fun x => sign_Check_L1 x.1 v1 x.2.1 x.2.2 = some r, fun x => x.1, (n, [], 0), hr, ⟨rfl, rfl, rfl, rfl, rfl, trivial⟩, (StLe.gen 5 [] [.old 0] rfl rfl rfl rfl rfl rfl rfl), fun x _ => ⟨rfl, rfl⟩, ?_⟩
    rintro ⟨n, v16, v17⟩ HH
    have hr : sign_Check_L1 n v1 v16 v17 = some r := HH
    rcases n with _ | n
    · exact no_some hr
    rw [sign_Check_L1.eq_2] at hr
    refine AtIf.mk (fun h18 => ?_) (fun h18 => ?_)
    · replace hr := cond_t h18 hr
      obtain ⟨v19, h20, hr⟩ := bind_some hr
      obtain ⟨h21, h22⟩ := idx_some h20
      refine at_index ttOK 0 rfl rfl rfl rfl h21 (Dc.encL_get h22) ?_
      intro a23 c23 _ _
      obtain ⟨h24, hr⟩ := cond_need hr
      refine at_sliceG ttOK 0 0 v17 (ds' := (Dc.encL (v1.take v17.toNat))) rfl rfl rfl (.inr ⟨rfl, rfl⟩) (.inl ⟨_, rfl⟩) h24 (by simp only [Dc.encL_eq]; exact sl_h ..) ?_
      intro a25 c25
      refine spec_of_round (N := 27) (m := 7) (dt := fun _ => none) [] ttOK rfl rfl rfl rfl rfl rfl mixed (by kernel_rfl) (by kernel_rfl) ?_
      refine at_lookupSG ttOK Value.bool false rfl Tryz.underlying9 rfl rfl rfl rfl ?_
      refine AtGuard.mk (fun h26 => ?_) (fun h26 => ?_)
      · replace hr := cond_f h26 hr
        obtain ⟨v27, h28, hr⟩ := bind_some hr
        refine (sign_formed_spec n (v1.take v17.toNat) v19 a25 c25 a23 c23 _ h28).atR [2, 1] rfl rfl rfl ?_
        rintro _ _ ⟨rfl, rfl⟩
        refine AtIf.mk (fun h29 => ?_) (fun h29 => ?_)
        · replace hr := cond_t h29 hr
          refine AtRet.gen _ (StLe.refl _) rfl rfl ?_
          refine AtIf.mk (fun _ => ?_) (fun h => tf h)
          refine AtRet.gen _ (StLe.refl _) rfl rfl ?_
          replace hr := Option.some.inj hr
          subst hr
          exact AtRet.pureG [] [] rfl rfl ⟨rfl, rfl⟩
        · replace hr := cond_f h29 hr
          refine at_mapPutS (l := encM Value.bool v16) ttOK (.bool true) rfl Tryz.underlying9 rfl rfl rfl (fun _ => rfl) ?_
          rw [putS_enc Value.bool v19.name true v16]
          refine AtRet.gen _ (StLe.refl _) rfl rfl ?_
          refine AtIf.mk (fun h => ff h) (fun _ => ?_)
          exact ⟨(n, (mput v19.name true v16), (IntKind.i64.wrap (v17 + 1))), hr, Nat.lt_succ_self _, ⟨rfl, rfl, rfl, rfl, rfl, trivial⟩, (StLe.gen 5 [] [.old 0] rfl rfl rfl rfl rfl rfl rfl)⟩
      · replace hr := cond_t h26 hr
        refine AtIf.mk (fun _ => ?_) (fun h => tf h)
        refine AtRet.gen _ (StLe.refl _) rfl rfl ?_
        refine AtIf.mk (fun _ => ?_) (fun h => tf h)
        refine AtRet.gen _ (StLe.refl _) rfl rfl ?_
        replace hr := Option.some.inj hr
        subst hr
        exact AtRet.pureG [] [] rfl rfl ⟨rfl, rfl⟩
    · replace hr := cond_f h18 hr
      refine AtRet.gen _ (StLe.refl _) rfl rfl ?_
      replace hr := Option.some.inj hr
      subst hr
      exact AtRet.pureG [] [] rfl rfl ⟨rfl, rfl⟩
def sign_Family : Nat → (List Dc) → Int → Option (Bool)
  | 0, _, _ => none
  | n + 1, v1, v3 =>
    (idx v1 v3).bind (fun v4 =>
    (sign_kind n v4.cls).bind (fun v9 =>
    some (v9)))
theorem sign_Family_spec (n : Nat) (v1 : (List Dc)) (v3 : Int) (a2 : Option Addr) (c2 : Nat) (r : Bool) (hr : sign_Family n v1 v3 = some r) : Pure Tryz.prog (.val (.fn (.func 28) [] [])) [(.v (.slice a2 ((Dc.encL v1).length) c2)), (.v (.int .i64 v3))] [(.slice a2 ((Dc.encL v1).length) c2, .sl 6 (Dc.encL v1))] (fun r' out => r' = (.v (.bool r)) ∧ out = []) := by
  rcases n with _ | n
  · exact no_some hr
  rw [sign_Family.eq_2] at hr
  refine spec_of_body (N := 11) (m := 0) (dt := fun _ => none) [] ttOK Tryz.func28 rfl Tryz.call28 Tryz.ntmps28 rfl rfl rfl mixed (by kernel_rfl) ?_
  obtain ⟨v4, h5, hr⟩ := bind_some hr
  obtain ⟨h6, h7⟩ := idx_some h5
  refine at_index ttOK 0 rfl rfl rfl rfl h6 (Dc.encL_get h7) ?_
  intro a8 c8 _ _
  obtain ⟨v9, h10, hr⟩ := bind_some hr
  refine (sign_kind_spec n v4.cls a8 c8 _ h10).atR [1] rfl rfl rfl ?_
  rintro _ _ ⟨rfl, rfl⟩
  replace hr := Option.some.inj hr
  subst hr
  exact AtRet.pureG [] [] rfl rfl ⟨rfl, rfl⟩
def mode_isMode_1 : Nat → Int → Option (Bool)
  | 0, _ => none
  | n + 1, v1 =>
    some (((decide (v1 < 1)) || (decide (v1 > 3))))
theorem mode_isMode_1_spec (n : Nat) (v1 : Int)  (r : Bool) (hr : mode_isMode_1 n v1 = some r) : Pure Tryz.prog (.val (.fn (.func 52) [] [])) [(.v (.int .i64 v1))] [] (fun r' out => r' = (.v (.bool r)) ∧ out = []) := by
  rcases n with _ | n
  · exact no_some hr
  rw [mode_isMode_1.eq_2] at hr
  refine spec_of_body (N := 9) (m := 0) (dt := fun _ => none) [] ttOK Tryz.func52 rfl Tryz.call52 Tryz.ntmps52 rfl rfl rfl mixed (by kernel_rfl) ?_
  replace hr := Option.some.inj hr
  subst hr
  exact AtRet.pureG [] [] rfl rfl ⟨rfl, rfl⟩
mutual
def slices_IndexFunc_mode_isMode_1 : Nat → (List Int) → Option (Int)
  | 0, _ => none
  | n + 1, v1 =>
    slices_IndexFunc_mode_isMode_1_L1 n v1 0
def slices_IndexFunc_mode_isMode_1_L1 : Nat → (List Int) → Int → Option (Int)
  | 0, _, _ => none
  | n + 1, v1, v11 =>
    cond (decide (v11 < ((List.map (D.int .i64) v1).length : Int))) (
    (idx v1 v11).bind (fun v13 =>
    (mode_isMode_1 n v13).bind (fun v17 =>
    cond v17 (
    some (v11)) (
    slices_IndexFunc_mode_isMode_1_L1 n v1 (IntKind.i64.wrap (v11 + 1)))))) (
    some ((-1)))
 end
theorem slices_IndexFunc_mode_isMode_1_spec (n : Nat) (v1 : (List Int)) (a2 : Option Addr) (c2 : Nat) (r : Int) (hr : slices_IndexFunc_mode_isMode_1 n v1 = some r) : Pure Tryz.prog (.val (.fn (.func 78) [] [])) [(.v (.slice a2 ((List.map (D.int .i64) v1).length) c2)), (.fn (.func 52) [] [])] [(.slice a2 ((List.map (D.int .i64) v1).length) c2, .sl 1 (List.map (D.int .i64) v1))] (fun r' out => r' = (.v (.int .i64 r)) ∧ out = []) := by
  rcases n with _ | n
  · exact no_some hr
  rw [slices_IndexFunc_mode_isMode_1.eq_2] at hr
  refine spec_of_body (N := 19) (m := 0) (dt := fun _ => none) [] ttOK Tryz.func78 rfl Tryz.call78 Tryz.ntmps78 rfl rfl rfl mixed (by kernel_rfl) ?_
  refine AtLoop.mk ⟨Nat × Int, fun x => [(0, (.v (.slice a2 ((List.map (D.int .i64) v1).length) c2))), (1, (.fn (.func 52) [] [])), (7, (.v (.int .i64 ((List.map (D.int .i64) v1).length : Int)))), (8, (.v (.int .i64 x.2)))], fun x => ⟨[], [], [(.slice a2 ((List.map (D.int .i64) v1).length) c2, .sl 1 (List.map (D.int .i64) v1))]⟩, fun x => slices_IndexFunc_mode_isMode_1_L1 x.1 v1 x.2 = some r, fun x => x.1, (n, 0), hr, ⟨rfl, rfl, rfl, rfl, trivial⟩, (StLe.gen 0 [] [.old 0] rfl rfl rfl rfl rfl rfl rfl), fun x _ => ⟨rfl, rfl⟩, ?_⟩
  rintro ⟨n, v11⟩ HH
  have hr : slices_IndexFunc_mode_isMode_1_L1 n v1 v11 = some r := HH
  rcases n with _ | n
  · exact no_some hr
  rw [slices_IndexFunc_mode_isMode_1_L1.eq_2] at hr
  refine AtIf.mk (fun h12 => ?_) (fun h12 => ?_)
  · replace hr := cond_t h12 hr
    obtain ⟨v13, h14, hr⟩ := bind_some hr
    obtain ⟨h15, h16⟩ := idx_some h14
    refine at_index ttOK 0 rfl rfl rfl rfl h15 (map_get (D.int .i64) h16) ?_
    obtain ⟨v17, h18, hr⟩ := bind_some hr
    refine (mode_isMode_1_spec n v13 _ h18).atR [] rfl rfl rfl ?_
    rintro _ _ ⟨rfl, rfl⟩
    refine AtIf.mk (fun h19 => ?_) (fun h19 => ?_)
    · replace hr := cond_t h19 hr
      replace hr := Option.some.inj hr
      subst hr
      exact AtRet.pureG [] [] rfl rfl ⟨rfl, rfl⟩
    · replace hr := cond_f h19 hr
      exact ⟨(n, (IntKind.i64.wrap (v11 + 1))), hr, Nat.lt_succ_self _, ⟨rfl, rfl, rfl, rfl, trivial⟩, (StLe.gen 0 [] [.old 0] rfl rfl rfl rfl rfl rfl rfl)⟩
  · replace hr := cond_f h12 hr
    replace hr := Option.some.inj hr
    subst hr
    exact AtRet.pureG [] [] rfl rfl ⟨rfl, rfl⟩
def slices_ContainsFunc_mode_isMode_1 : Nat → (List Int) → Option (Bool)
  | 0, _ => none
  | n + 1, v1 =>
    (slices_IndexFunc_mode_isMode_1 n v1).bind (fun v3 =>
    some ((decide (v3 ≥ 0))))
theorem slices_ContainsFunc_mode_isMode_1_spec (n : Nat) (v1 : (List Int)) (a2 : Option Addr) (c2 : Nat) (r : Bool) (hr : slices_ContainsFunc_mode_isMode_1 n v1 = some r) : Pure Tryz.prog (.val (.fn (.func 51) [] [])) [(.v (.slice a2 ((List.map (D.int .i64) v1).length) c2)), (.fn (.func 52) [] [])] [(.slice a2 ((List.map (D.int .i64) v1).length) c2, .sl 1 (List.map (D.int .i64) v1))] (fun r' out => r' = (.v (.bool r)) ∧ out = []) := by
  rcases n with _ | n
  · exact no_some hr
  rw [slices_ContainsFunc_mode_isMode_1.eq_2] at hr
  refine spec_of_body (N := 9) (m := 0) (dt := fun _ => none) [] ttOK Tryz.func51 rfl Tryz.call51 Tryz.ntmps51 rfl rfl rfl mixed (by kernel_rfl) ?_
  obtain ⟨v3, h4, hr⟩ := bind_some hr
  refine (slices_IndexFunc_mode_isMode_1_spec n v1 a2 c2 _ h4).atR [0] rfl rfl rfl ?_
  rintro _ _ ⟨rfl, rfl⟩
  replace hr := Option.some.inj hr
  subst hr
  exact AtRet.pureG [] [] rfl rfl ⟨rfl, rfl⟩
def mode_isMode : Nat → (List Dc) → Md → Option (Bool)
  | 0, _, _ => none
  | n + 1, v1, v3 =>
    cond ((decide (v3.family < 0)) || (decide (v3.family ≥ ((Dc.encL v1).length : Int)))) (
    some (false)) (
    (sign_Family n v1 v3.family).bind (fun v6 =>
    cond (!v6) (
    some (false)) (
    (idx v1 v3.family).bind (fun v9 =>
    (term_Domains n v9.cls).bind (fun v14 =>
    cond (((Tm.encL v14.1).length : Int) == ((List.map (D.int .i64) v3.signs).length : Int)) (
    (slices_ContainsFunc_mode_isMode_1 n v3.signs).bind (fun v19 =>
    some ((!v19)))) (
    some (false)))))))
theorem mode_isMode_spec (n : Nat) (v1 : (List Dc)) (v3 : Md) (a2 : Option Addr) (c2 : Nat) (a4 : Option Addr) (c4 : Nat) (r : Bool) (hr : mode_isMode n v1 v3 = some r) : Pure Tryz.prog (.val (.fn (.func 22) [] [])) [(.v (.slice a2 ((Dc.encL v1).length) c2)), (.agg [(.v (.int .i64 v3.family)), (.v (.slice a4 ((List.map (D.int .i64) v3.signs).length) c4))])] [(.slice a2 ((Dc.encL v1).length) c2, .sl 6 (Dc.encL v1)), (.slice a4 ((List.map (D.int .i64) v3.signs).length) c4, .sl 1 (List.map (D.int .i64) v3.signs))] (fun r' out => r' = (.v (.bool r)) ∧ out = []) := by
  rcases n with _ | n
  · exact no_some hr
  rw [mode_isMode.eq_2] at hr
  refine spec_of_body (N := 46) (m := 0) (dt := fun _ => none) [] ttOK Tryz.func22 rfl Tryz.call22 Tryz.ntmps22 rfl rfl rfl mixed (by kernel_rfl) ?_
  refine AtGuard.mk (fun h5 => ?_) (fun h5 => ?_)
  · replace hr := cond_f h5 hr
    obtain ⟨v6, h7, hr⟩ := bind_some hr
    refine (sign_Family_spec n v1 v3.family a2 c2 _ h7).atR [0] rfl rfl rfl ?_
    rintro _ _ ⟨rfl, rfl⟩
    refine AtIf.mk (fun h8 => ?_) (fun h8 => ?_)
    · replace hr := cond_t h8 hr
      replace hr := Option.some.inj hr
      subst hr
      exact AtRet.pureG [] [] rfl rfl ⟨rfl, rfl⟩
    · replace hr := cond_f h8 hr
      obtain ⟨v9, h10, hr⟩ := bind_some hr
      obtain ⟨h11, h12⟩ := idx_some h10
      refine at_index ttOK 0 rfl rfl rfl rfl h11 (Dc.encL_get h12) ?_
      intro a13 c13 _ _
      obtain ⟨v14, h15, hr⟩ := bind_some hr
      refine (term_Domains_spec n v9.cls a13 c13 _ h15).atR [2] rfl rfl rfl ?_
      rintro _ _ ⟨a16, c16, a17, c17, rfl, rfl⟩
      refine AtGuard.mk (fun h18 => ?_) (fun h18 => ?_)
      · replace hr := cond_t h18 hr
        obtain ⟨v19, h20, hr⟩ := bind_some hr
        refine (slices_ContainsFunc_mode_isMode_1_spec n v3.signs a4 c4 _ h20).atR [1] rfl rfl rfl ?_
        rintro _ _ ⟨rfl, rfl⟩
        replace hr := Option.some.inj hr
        subst hr
        exact AtRet.pureG [] [] rfl rfl ⟨rfl, rfl⟩
      · replace hr := cond_f h18 hr
        replace hr := Option.some.inj hr
        subst hr
        exact AtRet.pureG [] [] rfl rfl ⟨rfl, rfl⟩
  · replace hr := cond_t h5 hr
    refine AtIf.mk (fun _ => ?_) (fun h => tf h)
    replace hr := Option.some.inj hr
    subst hr
    exact AtRet.pureG [] [] rfl rfl ⟨rfl, rfl⟩
mutual
def slices_Equal : Nat → (List Int) → (List Int) → Option (Bool)
  | 0, _, _ => none
  | n + 1, v1, v3 =>
    cond (((List.map (D.int .i64) v1).length : Int) != ((List.map (D.int .i64) v3).length : Int)) (
    some (false)) (
    slices_Equal_L1 n v1 v3 0)
def slices_Equal_L1 : Nat → (List Int) → (List Int) → Int → Option (Bool)
  | 0, _, _, _ => none
  | n + 1, v1, v3, v16 =>
    cond (decide (v16 < ((List.map (D.int .i64) v1).length : Int))) (
    (idx v1 v16).bind (fun v18 =>
    (idx v3 v16).bind (fun v22 =>
    cond (v18 != v22) (
    some (false)) (
    slices_Equal_L1 n v1 v3 (IntKind.i64.wrap (v16 + 1)))))) (
    some (true))
 end
theorem slices_Equal_spec (n : Nat) (v1 : (List Int)) (v3 : (List Int)) (a2 : Option Addr) (c2 : Nat) (a4 : Option Addr) (c4 : Nat) (r : Bool) (hr : slices_Equal n v1 v3 = some r) : Pure Tryz.prog (.val (.fn (.func 24) [] [])) [(.v (.slice a2 ((List.map (D.int .i64) v1).length) c2)), (.v (.slice a4 ((List.map (D.int .i64) v3).length) c4))] [(.slice a2 ((List.map (D.int .i64) v1).length) c2, .sl 1 (List.map (D.int .i64) v1)), (.slice a4 ((List.map (D.int .i64) v3).length) c4, .sl 1 (List.map (D.int .i64) v3))] (fun r' out => r' = (.v (.bool r)) ∧ out = []) := by
  rcases n with _ | n
  · exact no_some hr
  rw [slices_Equal.eq_2] at hr
  refine spec_of_body (N := 26) (m := 0) (dt := drawsOf [(6, .leaf [0, 1, 2, 3, 4, 5, 6, 7, 8], [], [])]) [] ttOK Tryz.func24 rfl Tryz.call24 Tryz.ntmps24 rfl rfl rfl mixed (by kernel_rfl) ?_
  refine AtIf.mk (fun h5 => ?_) (fun h5 => ?_)
  · replace hr := cond_t h5 hr
    replace hr := Option.some.inj hr
    subst hr
    exact AtRet.pureG [] [] rfl rfl ⟨rfl, rfl⟩
  · replace hr := cond_f h5 hr
    refine AtLoop.mk ⟨Nat × Int, fun x => [(0, (.v (.slice a2 ((List.map (D.int .i64) v1).length) c2))), (1, (.v (.slice a4 ((List.map (D.int .i64) v3).length) c4))), (12, (.v (.int .i64 ((List.map (D.int .i64) v1).length : Int)))), (13, (.v (.int .i64 x.2)))], fun x => ⟨[], [], [(.slice a2 ((List.map (D.int .i64) v1).length) c2, .sl 1 (List.map (D.int .i64) v1)), (.slice a4 ((List.map (D.int .i64) v3).length) c4, .sl 1 (List.map (D.int .i64) v3))]⟩, fun x => slices_Equal_L1 x.1 v1 v3 x.2 = some r, fun x => x.1, (n, 0), hr, ⟨rfl, rfl, rfl, rfl, trivial⟩, (StLe.gen 0 [] [.old 0, .old 1] rfl rfl rfl rfl rfl rfl rfl), fun x _ => ⟨rfl, rfl⟩, ?_⟩
    rintro ⟨n, v16⟩ HH
    have hr : slices_Equal_L1 n v1 v3 v16 = some r := HH
    rcases n with _ | n
    · exact no_some hr
    rw [slices_Equal_L1.eq_2] at hr
    refine AtIf.mk (fun h17 => ?_) (fun h17 => ?_)
    · replace hr := cond_t h17 hr
      obtain ⟨v18, h19, hr⟩ := bind_some hr
      obtain ⟨h20, h21⟩ := idx_some h19
      refine at_index ttOK 0 rfl rfl rfl rfl h20 (map_get (D.int .i64) h21) ?_
      obtain ⟨v22, h23, hr⟩ := bind_some hr
      obtain ⟨h24, h25⟩ := idx_some h23
      refine at_index ttOK 1 rfl rfl rfl rfl h24 (map_get (D.int .i64) h25) ?_
      refine AtIf.mk (fun h26 => ?_) (fun h26 => ?_)
      · replace hr := cond_t h26 hr
        replace hr := Option.some.inj hr
        subst hr
        exact AtRet.pureG [] [] rfl rfl ⟨rfl, rfl⟩
      · replace hr := cond_f h26 hr
        exact ⟨(n, (IntKind.i64.wrap (v16 + 1))), hr, Nat.lt_succ_self _, ⟨rfl, rfl, rfl, rfl, trivial⟩, (StLe.gen 0 [] [.old 0, .old 1] rfl rfl rfl rfl rfl rfl rfl)⟩
    · replace hr := cond_f h17 hr
      replace hr := Option.some.inj hr
      subst hr
      exact AtRet.pureG [] [] rfl rfl ⟨rfl, rfl⟩
mutual
def sign_Find : Nat → (List Dc) → ByteArray → Option (Int × Int)
  | 0, _, _ => none
  | n + 1, v1, v3 =>
    (sign_Check n v1).bind (fun v4 =>
    cond (v4 != 0) (
    some (0, v4)) (
    sign_Find_L1 n v1 v3 0))
def sign_Find_L1 : Nat → (List Dc) → ByteArray → Int → Option (Int × Int)
  | 0, _, _, _ => none
  | n + 1, v1, v3, v14 =>
    cond (decide (v14 < ((Dc.encL v1).length : Int))) (
    (idx v1 v14).bind (fun v16 =>
    cond (v16.name.toList == v3.toList) (
    some (v14, 0)) (
    sign_Find_L1 n v1 v3 (IntKind.i64.wrap (v14 + 1))))) (
    some (0, 6))
 end
theorem sign_Find_spec (n : Nat) (v1 : (List Dc)) (v3 : ByteArray) (a2 : Option Addr) (c2 : Nat) (r : Int × Int) (hr : sign_Find n v1 v3 = some r) : Pure Tryz.prog (.val (.fn (.func 27) [] [])) [(.v (.slice a2 ((Dc.encL v1).length) c2)), (.v (.string v3))] [(.slice a2 ((Dc.encL v1).length) c2, .sl 6 (Dc.encL v1))] (fun r' out => r' = (.tup [(.v (.int .i64 r.1)), (.v (.int .i64 r.2))]) ∧ out = []) := by
  rcases n with _ | n
  · exact no_some hr
  rw [sign_Find.eq_2] at hr
  refine spec_of_body (N := 27) (m := 0) (dt := fun _ => none) [] ttOK Tryz.func27 rfl Tryz.call27 Tryz.ntmps27 rfl rfl rfl mixed (by kernel_rfl) ?_
  obtain ⟨v4, h5, hr⟩ := bind_some hr
  refine (sign_Check_spec n v1 a2 c2 _ h5).atR [0] rfl rfl rfl ?_
  rintro _ _ ⟨rfl, rfl⟩
  refine AtIf.mk (fun h6 => ?_) (fun h6 => ?_)
  · replace hr := cond_t h6 hr
    replace hr := Option.some.inj hr
    subst hr
    exact AtRet.pureG [] [] rfl rfl ⟨rfl, rfl⟩
  · replace hr := cond_f h6 hr
    refine AtLoop.mk ⟨Nat × Int, fun x => [(1, (.v (.string v3))), (14, (.v (.slice a2 ((Dc.encL v1).length) c2))), (15, (.v (.int .i64 ((Dc.encL v1).length : Int)))), (16, (.v (.int .i64 x.2)))], fun x => ⟨[], [], [(.slice a2 ((Dc.encL v1).length) c2, .sl 6 (Dc.encL v1))]⟩, fun x => sign_Find_L1 x.1 v1 v3 x.2 = some r, fun x => x.1, (n, 0), hr, ⟨rfl, rfl, rfl, rfl, trivial⟩, (StLe.gen 0 [] [.old 0] rfl rfl rfl rfl rfl rfl rfl), fun x _ => ⟨rfl, rfl⟩, ?_⟩
    rintro ⟨n, v14⟩ HH
    have hr : sign_Find_L1 n v1 v3 v14 = some r := HH
    rcases n with _ | n
    · exact no_some hr
    rw [sign_Find_L1.eq_2] at hr
    refine AtIf.mk (fun h15 => ?_) (fun h15 => ?_)
    · replace hr := cond_t h15 hr
      obtain ⟨v16, h17, hr⟩ := bind_some hr
      obtain ⟨h18, h19⟩ := idx_some h17
      refine at_index ttOK 0 rfl rfl rfl rfl h18 (Dc.encL_get h19) ?_
      intro a20 c20 _ _
      refine AtIf.mk (fun h21 => ?_) (fun h21 => ?_)
      · replace hr := cond_t h21 hr
        replace hr := Option.some.inj hr
        subst hr
        exact AtRet.pureG [] [] rfl rfl ⟨rfl, rfl⟩
      · replace hr := cond_f h21 hr
        exact ⟨(n, (IntKind.i64.wrap (v14 + 1))), hr, Nat.lt_succ_self _, ⟨rfl, rfl, rfl, rfl, trivial⟩, (StLe.gen 0 [] [.old 0] rfl rfl rfl rfl rfl rfl rfl)⟩
    · replace hr := cond_f h15 hr
      replace hr := Option.some.inj hr
      subst hr
      exact AtRet.pureG [] [] rfl rfl ⟨rfl, rfl⟩
mutual
def slices_Index : Nat → (List Int) → Int → Option (Int)
  | 0, _, _ => none
  | n + 1, v1, v3 =>
    slices_Index_L1 n v1 v3 0
def slices_Index_L1 : Nat → (List Int) → Int → Int → Option (Int)
  | 0, _, _, _ => none
  | n + 1, v1, v3, v10 =>
    cond (decide (v10 < ((List.map (D.int .i64) v1).length : Int))) (
    (idx v1 v10).bind (fun v12 =>
    cond (v3 == v12) (
    some (v10)) (
    slices_Index_L1 n v1 v3 (IntKind.i64.wrap (v10 + 1))))) (
    some ((-1)))
 end
theorem slices_Index_spec (n : Nat) (v1 : (List Int)) (v3 : Int) (a2 : Option Addr) (c2 : Nat) (r : Int) (hr : slices_Index n v1 v3 = some r) : Pure Tryz.prog (.val (.fn (.func 114) [] [])) [(.v (.slice a2 ((List.map (D.int .i64) v1).length) c2)), (.v (.int .i64 v3))] [(.slice a2 ((List.map (D.int .i64) v1).length) c2, .sl 1 (List.map (D.int .i64) v1))] (fun r' out => r' = (.v (.int .i64 r)) ∧ out = []) := by
  rcases n with _ | n
  · exact no_some hr
  rw [slices_Index.eq_2] at hr
  refine spec_of_body (N := 19) (m := 0) (dt := fun _ => none) [] ttOK Tryz.func114 rfl Tryz.call114 Tryz.ntmps114 rfl rfl rfl mixed (by kernel_rfl) ?_
  refine AtLoop.mk ⟨Nat × Int, fun x => [(0, (.v (.slice a2 ((List.map (D.int .i64) v1).length) c2))), (1, (.v (.int .i64 v3))), (7, (.v (.int .i64 ((List.map (D.int .i64) v1).length : Int)))), (8, (.v (.int .i64 x.2)))], fun x => ⟨[], [], [(.slice a2 ((List.map (D.int .i64) v1).length) c2, .sl 1 (List.map (D.int .i64) v1))]⟩, fun x => slices_Index_L1 x.1 v1 v3 x.2 = some r, fun x => x.1, (n, 0), hr, ⟨rfl, rfl, rfl, rfl, trivial⟩, (StLe.gen 0 [] [.old 0] rfl rfl rfl rfl rfl rfl rfl), fun x _ => ⟨rfl, rfl⟩, ?_⟩
  rintro ⟨n, v10⟩ HH
  have hr : slices_Index_L1 n v1 v3 v10 = some r := HH
  rcases n with _ | n
  · exact no_some hr
  rw [slices_Index_L1.eq_2] at hr
  refine AtIf.mk (fun h11 => ?_) (fun h11 => ?_)
  · replace hr := cond_t h11 hr
    obtain ⟨v12, h13, hr⟩ := bind_some hr
    obtain ⟨h14, h15⟩ := idx_some h13
    refine at_index ttOK 0 rfl rfl rfl rfl h14 (map_get (D.int .i64) h15) ?_
    refine AtIf.mk (fun h16 => ?_) (fun h16 => ?_)
    · replace hr := cond_t h16 hr
      replace hr := Option.some.inj hr
      subst hr
      exact AtRet.pureG [] [] rfl rfl ⟨rfl, rfl⟩
    · replace hr := cond_f h16 hr
      exact ⟨(n, (IntKind.i64.wrap (v10 + 1))), hr, Nat.lt_succ_self _, ⟨rfl, rfl, rfl, rfl, trivial⟩, (StLe.gen 0 [] [.old 0] rfl rfl rfl rfl rfl rfl rfl)⟩
  · replace hr := cond_f h11 hr
    replace hr := Option.some.inj hr
    subst hr
    exact AtRet.pureG [] [] rfl rfl ⟨rfl, rfl⟩
def slices_Contains : Nat → (List Int) → Int → Option (Bool)
  | 0, _, _ => none
  | n + 1, v1, v3 =>
    (slices_Index n v1 v3).bind (fun v4 =>
    some ((decide (v4 ≥ 0))))
theorem slices_Contains_spec (n : Nat) (v1 : (List Int)) (v3 : Int) (a2 : Option Addr) (c2 : Nat) (r : Bool) (hr : slices_Contains n v1 v3 = some r) : Pure Tryz.prog (.val (.fn (.func 86) [] [])) [(.v (.slice a2 ((List.map (D.int .i64) v1).length) c2)), (.v (.int .i64 v3))] [(.slice a2 ((List.map (D.int .i64) v1).length) c2, .sl 1 (List.map (D.int .i64) v1))] (fun r' out => r' = (.v (.bool r)) ∧ out = []) := by
  rcases n with _ | n
  · exact no_some hr
  rw [slices_Contains.eq_2] at hr
  refine spec_of_body (N := 9) (m := 0) (dt := fun _ => none) [] ttOK Tryz.func86 rfl Tryz.call86 Tryz.ntmps86 rfl rfl rfl mixed (by kernel_rfl) ?_
  obtain ⟨v4, h5, hr⟩ := bind_some hr
  refine (slices_Index_spec n v1 v3 a2 c2 _ h5).atR [0] rfl rfl rfl ?_
  rintro _ _ ⟨rfl, rfl⟩
  replace hr := Option.some.inj hr
  subst hr
  exact AtRet.pureG [] [] rfl rfl ⟨rfl, rfl⟩
def term_Occurs : Nat → Tm → Int → Option (Bool × Int)
  | 0, _, _ => none
  | n + 1, v1, v3 =>
    (slices_Contains n (freeL v1) v3).bind (fun v5 =>
    some (v5, (freeE v1)))
theorem term_Occurs_spec (n : Nat) (v1 : Tm) (v3 : Int) (a2 : Option Addr) (c2 : Nat) (r : Bool × Int) (hr : term_Occurs n v1 v3 = some r) : Pure Tryz.prog (.val (.fn (.func 59) [] [])) [(.agg [(.v (.int .i64 v1.op)), (.v (.int .i64 v1.hd)), (.v (.int .i64 v1.n)), (.v (.slice a2 ((Tm.encL v1.args).length) c2))]), (.v (.int .i64 v3))] [(.slice a2 ((Tm.encL v1.args).length) c2, .sl 4 (Tm.encL v1.args))] (fun r' out => r' = (.tup [(.v (.bool r.1)), (.v (.int .i64 r.2))]) ∧ out = []) := by
  rcases n with _ | n
  · exact no_some hr
  rw [term_Occurs.eq_2] at hr
  refine spec_of_body (N := 17) (m := 0) (dt := fun _ => none) [] ttOK Tryz.func59 rfl Tryz.call59 Tryz.ntmps59 rfl rfl rfl mixed (by kernel_rfl) ?_
  refine (free0 v1 a2 c2).atR [0] rfl rfl rfl ?_
  rintro _ _ ⟨a4, c4, rfl, rfl⟩
  obtain ⟨v5, h6, hr⟩ := bind_some hr
  refine (slices_Contains_spec n (freeL v1) v3 a4 c4 _ h6).atR [1] rfl rfl rfl ?_
  rintro _ _ ⟨rfl, rfl⟩
  replace hr := Option.some.inj hr
  subst hr
  exact AtRet.pureG [] [] rfl rfl ⟨rfl, rfl⟩
mutual
def mode_stands : Nat → (List Tm) → (List Int) → Int → Int → Int → Option (Bool)
  | 0, _, _, _, _, _ => none
  | n + 1, v1, v3, v5, v6, v7 =>
    mode_stands_L1 n v1 v5 v3 v7 v6
def mode_stands_L1 : Nat → (List Tm) → Int → (List Int) → Int → Int → Option (Bool)
  | 0, _, _, _, _, _ => none
  | n + 1, v1, v5, v3, v7, v22 =>
    cond (decide (v22 < ((Tm.encL v1).length : Int))) (
    (idx v1 v22).bind (fun v24 =>
    (term_Occurs n v24 (IntKind.i64.wrap ((IntKind.i64.wrap (v22 - 1)) - v5))).bind (fun v29 =>
    cond v29.1 (
    (idx v3 v22).bind (fun v32 =>
    cond (v32 == v7) (
    some (true)) (
    mode_stands_L1 n v1 v5 v3 v7 (IntKind.i64.wrap (v22 + 1))))) (
    mode_stands_L1 n v1 v5 v3 v7 (IntKind.i64.wrap (v22 + 1)))))) (
    some (false))
 end
theorem mode_stands_spec (n : Nat) (v1 : (List Tm)) (v3 : (List Int)) (v5 : Int) (v6 : Int) (v7 : Int) (a2 : Option Addr) (c2 : Nat) (a4 : Option Addr) (c4 : Nat) (r : Bool) (hr : mode_stands n v1 v3 v5 v6 v7 = some r) : Pure Tryz.prog (.val (.fn (.func 30) [] [])) [(.v (.slice a2 ((Tm.encL v1).length) c2)), (.v (.slice a4 ((List.map (D.int .i64) v3).length) c4)), (.v (.int .i64 v5)), (.v (.int .i64 v6)), (.v (.int .i64 v7))] [(.slice a2 ((Tm.encL v1).length) c2, .sl 4 (Tm.encL v1)), (.slice a4 ((List.map (D.int .i64) v3).length) c4, .sl 1 (List.map (D.int .i64) v3))] (fun r' out => r' = (.v (.bool r)) ∧ out = []) := by
  rcases n with _ | n
  · exact no_some hr
  rw [mode_stands.eq_2] at hr
  refine spec_of_body (N := 42) (m := 0) (dt := fun _ => none) [] ttOK Tryz.func30 rfl Tryz.call30 Tryz.ntmps30 rfl rfl rfl mixed (by kernel_rfl) ?_
  refine AtLoop.mk ⟨Nat × Int, fun x => [(0, (.v (.slice a2 ((Tm.encL v1).length) c2))), (1, (.v (.slice a4 ((List.map (D.int .i64) v3).length) c4))), (2, (.v (.int .i64 v5))), (4, (.v (.int .i64 v7))), (11, (.v (.int .i64 x.2)))], fun x => ⟨[], [], [(.slice a2 ((Tm.encL v1).length) c2, .sl 4 (Tm.encL v1)), (.slice a4 ((List.map (D.int .i64) v3).length) c4, .sl 1 (List.map (D.int .i64) v3))]⟩, fun x => mode_stands_L1 x.1 v1 v5 v3 v7 x.2 = some r, fun x => x.1, (n, v6), hr, ⟨rfl, rfl, rfl, rfl, rfl, trivial⟩, (StLe.gen 0 [] [.old 0, .old 1] rfl rfl rfl rfl rfl rfl rfl), fun x _ => ⟨rfl, rfl⟩, ?_⟩
  rintro ⟨n, v22⟩ HH
  have hr : mode_stands_L1 n v1 v5 v3 v7 v22 = some r := HH
  rcases n with _ | n
  · exact no_some hr
  rw [mode_stands_L1.eq_2] at hr
  refine AtIf.mk (fun h23 => ?_) (fun h23 => ?_)
  · replace hr := cond_t h23 hr
    obtain ⟨v24, h25, hr⟩ := bind_some hr
    obtain ⟨h26, h27⟩ := idx_some h25
    refine at_index ttOK 0 rfl rfl rfl rfl h26 (Tm.encL_get h27) ?_
    intro a28 c28 _ _
    obtain ⟨v29, h30, hr⟩ := bind_some hr
    refine (term_Occurs_spec n v24 (IntKind.i64.wrap ((IntKind.i64.wrap (v22 - 1)) - v5)) a28 c28 _ h30).atR [2] rfl rfl rfl ?_
    rintro _ _ ⟨rfl, rfl⟩
    refine AtGuard.mk (fun h31 => ?_) (fun h31 => ?_)
    · replace hr := cond_t h31 hr
      obtain ⟨v32, h33, hr⟩ := bind_some hr
      obtain ⟨h34, h35⟩ := idx_some h33
      refine at_index ttOK 1 rfl rfl rfl rfl h34 (map_get (D.int .i64) h35) ?_
      refine AtIf.mk (fun h36 => ?_) (fun h36 => ?_)
      · replace hr := cond_t h36 hr
        replace hr := Option.some.inj hr
        subst hr
        exact AtRet.pureG [] [] rfl rfl ⟨rfl, rfl⟩
      · replace hr := cond_f h36 hr
        exact ⟨(n, (IntKind.i64.wrap (v22 + 1))), hr, Nat.lt_succ_self _, ⟨rfl, rfl, rfl, rfl, rfl, trivial⟩, (StLe.gen 0 [] [.old 0, .old 1] rfl rfl rfl rfl rfl rfl rfl)⟩
    · replace hr := cond_f h31 hr
      refine AtIf.mk (fun h => ff h) (fun _ => ?_)
      exact ⟨(n, (IntKind.i64.wrap (v22 + 1))), hr, Nat.lt_succ_self _, ⟨rfl, rfl, rfl, rfl, rfl, trivial⟩, (StLe.gen 0 [] [.old 0, .old 1] rfl rfl rfl rfl rfl rfl rfl)⟩
  · replace hr := cond_f h23 hr
    replace hr := Option.some.inj hr
    subst hr
    exact AtRet.pureG [] [] rfl rfl ⟨rfl, rfl⟩
mutual
def mode_Read : Nat → (List Dc) → It → Option (Md × Int)
  | 0, _, _ => none
  | n + 1, v1, v3 =>
    (sign_Check n v1).bind (fun v6 =>
    cond (v6 != 0) (
    some ((Md.mk 0 ([])), 2)) (
    cond ((((if itemOK v3 then (0 : Int) else 2) != 0) || (!(v3.word.toList == (⟨#[109, 111, 100, 101]⟩ : ByteArray).toList))) || (((Pt.encL v3.parts).length : Int) == 0)) (
    some ((Md.mk 0 ([])), 2)) (
    (idx v3.parts 0).bind (fun v10 =>
    cond (v10.op != 1) (
    some ((Md.mk 0 ([])), 2)) (
    cond (decide ((0 : Int) ≤ 1 ∧ 1 ≤ ((Pt.encL v3.parts).length : Int) ∧ ((Pt.encL v3.parts).length : Int) ≤ ((Pt.encL v3.parts).length : Int))) (
    mode_Read_L1 n v3 v1 ([]) 0) none)))))
def mode_Read_L3 : Nat → ((List Tm) × Tm) → Int → Dc → Md → Int → Option (Md × Int)
  | 0, _, _, _, _, _ => none
  | n + 1, v61, v116, v65, v139, v141 =>
    cond (decide (v141 < ((List.map (D.int .i64) ([2, 1])).length : Int))) (
    (idx ([2, 1]) v141).bind (fun v144 =>
    (mode_stands n v61.1 v139.signs v116 v65.implicit v144).bind (fun v148 =>
    cond v148 (
    cond (decide (0 ≤ v116 ∧ (v116).toNat < (List.map (D.int .i64) v139.signs).length)) (
    mode_Read_L3 n v61 v116 v65 (Md.mk v139.family (v139.signs.set ((v116).toNat) v144)) (IntKind.i64.wrap (v141 + 1))) none) (
    mode_Read_L3 n v61 v116 v65 v139 (IntKind.i64.wrap (v141 + 1)))))) (
    mode_Read_L2 n v65 v61 v139 (IntKind.i64.wrap (v116 + 1)))
def mode_Read_L2 : Nat → Dc → ((List Tm) × Tm) → Md → Int → Option (Md × Int)
  | 0, _, _, _, _ => none
  | n + 1, v65, v61, v114, v116 =>
    cond (decide (v116 < v65.implicit)) (
    cond (decide (0 ≤ v116 ∧ (v116).toNat < (List.map (D.int .i64) v114.signs).length)) (
    mode_Read_L3 n v61 v116 v65 (Md.mk v114.family (v114.signs.set ((v116).toNat) 3)) 0) none) (
    some (v114, 0))
def mode_Read_L1 : Nat → It → (List Dc) → (List Int) → Int → Option (Md × Int)
  | 0, _, _, _, _ => none
  | n + 1, v3, v1, v30, v32 =>
    cond (decide (v32 < ((Pt.encL (v3.parts.drop (1 : Int).toNat)).length : Int))) (
    (idx (v3.parts.drop (1 : Int).toNat) v32).bind (fun v34 =>
    cond (v34.op != 2) (
    some ((Md.mk 0 ([])), 2)) (
    cond (decide ((List.map (D.int .i64) (v30 ++ [((mget (mput (⟨#[42]⟩ : ByteArray) 3 (mput (⟨#[45]⟩ : ByteArray) 2 (mput (⟨#[43]⟩ : ByteArray) 1 ([])))) v34.sign).getD 0)])).length ≤ 1000000)) (
    mode_Read_L1 n v3 v1 (v30 ++ [((mget (mput (⟨#[42]⟩ : ByteArray) 3 (mput (⟨#[45]⟩ : ByteArray) 2 (mput (⟨#[43]⟩ : ByteArray) 1 ([])))) v34.sign).getD 0)]) (IntKind.i64.wrap (v32 + 1))) none))) (
    (idx v3.parts 0).bind (fun v44 =>
    (sign_Find n v1 v44.name).bind (fun v50 =>
    cond (v50.2 != 0) (
    some ((Md.mk 0 ([])), 20)) (
    (sign_Family n v1 v50.1).bind (fun v53 =>
    cond (!v53) (
    some ((Md.mk 0 ([])), 22)) (
    (idx v1 v50.1).bind (fun v56 =>
    (term_Domains n v56.cls).bind (fun v61 =>
    (idx v1 v50.1).bind (fun v65 =>
    cond (((Tm.encL v61.1).length : Int) != (IntKind.i64.wrap (v65.implicit + ((List.map (D.int .i64) v30).length : Int)))) (
    some ((Md.mk 0 ([])), 23)) (
    cond (decide ((0 : Int) ≤ v65.implicit ∧ (v65.implicit : Int) ≤ 1000000)) (
    cond (decide ((List.map (D.int .i64) ((List.replicate (v65.implicit).toNat (0 : Int)) ++ v30)).length ≤ 1000000)) (
    mode_Read_L2 n v65 v61 (Md.mk v50.1 ((List.replicate (v65.implicit).toNat (0 : Int)) ++ v30)) 0) none) none))))))))))
 end
theorem mode_Read_spec (n : Nat) (v1 : (List Dc)) (v3 : It) (a2 : Option Addr) (c2 : Nat) (a4 : Option Addr) (c4 : Nat) (a5 : Option Addr) (c5 : Nat) (r : Md × Int) (hr : mode_Read n v1 v3 = some r) : Pure Tryz.prog (.val (.fn (.func 8) [] [])) [(.v (.slice a2 ((Dc.encL v1).length) c2)), (.agg [(.v (.string v3.word)), (.v (.string v3.name)), (.v (.int .i64 v3.raw.op)), (.v (.string v3.raw.name)), (.v (.slice a4 ((Rw.encL v3.raw.args).length) c4)), (.v (.slice a5 ((Pt.encL v3.parts).length) c5))])] [(.slice a2 ((Dc.encL v1).length) c2, .sl 6 (Dc.encL v1)), (.slice a4 ((Rw.encL v3.raw.args).length) c4, .sl 3 (Rw.encL v3.raw.args)), (.slice a5 ((Pt.encL v3.parts).length) c5, .sl 8 (Pt.encL v3.parts))] (fun r' out => ∃ (b1 : Option Addr) (d1 : Nat), r' = (.tup [(.agg [(.v (.int .i64 r.1.family)), (.v (.slice b1 ((List.map (D.int .i64) r.1.signs).length) d1))]), (.v (.int .i64 r.2))]) ∧ out = [(.slice b1 ((List.map (D.int .i64) r.1.signs).length) d1, .sl 1 (List.map (D.int .i64) r.1.signs))]) := by
  rcases n with _ | n
  · exact no_some hr
  rw [mode_Read.eq_2] at hr
  refine spec_of_body (N := 146) (m := 0) (dt := drawsOf [(9, .node [0, 2, 3] [(1, .node [] [(4, .node [] [(5, .node [] [(6, .leaf [7])])])])], [6], [])]) [] ttOK Tryz.func8 rfl Tryz.call8 Tryz.ntmps8 rfl rfl rfl mixed (by kernel_rfl) ?_
  obtain ⟨v6, h7, hr⟩ := bind_some hr
  refine (sign_Check_spec n v1 a2 c2 _ h7).atR [0] rfl rfl rfl ?_
  rintro _ _ ⟨rfl, rfl⟩
  refine AtGuard.mk (fun h8 => ?_) (fun h8 => ?_)
  · replace hr := cond_f h8 hr
    refine (checkItem_spec v3 a4 c4 a5 c5).atR [1, 2] rfl rfl rfl ?_
    rintro _ _ ⟨rfl, rfl⟩
    refine AtGuard.mk (fun h9 => ?_) (fun h9 => ?_)
    · replace hr := cond_f h9 hr
      obtain ⟨v10, h11, hr⟩ := bind_some hr
      obtain ⟨h12, h13⟩ := idx_some h11
      refine at_index ttOK 2 rfl rfl rfl rfl h12 (Pt.encL_get h13) ?_
      intro a14 c14 _ _ a15 c15 _ _
      refine AtIf.mk (fun h16 => ?_) (fun h16 => ?_)
      · replace hr := cond_t h16 hr
        replace hr := Option.some.inj hr
        subst hr
        exact AtRet.pureG [.nil 1] [(.slice none 0 0, .sl 1 [])] rfl rfl ⟨none, 0, rfl, rfl⟩
      · replace hr := cond_f h16 hr
        obtain ⟨h17, hr⟩ := cond_need hr
        refine at_sliceG ttOK 2 1 ((Pt.encL v3.parts).length : Int) (ds' := (Pt.encL (v3.parts.drop (1 : Int).toNat))) rfl rfl rfl (.inl ⟨_, rfl⟩) (.inr ⟨rfl, rfl⟩) h17 (by simp only [Pt.encL_eq]; exact sl_l ..) ?_
        intro a18 c18
        refine AtLoop.mk ⟨Nat × (List Int) × Option Addr × Nat × Int, fun x => [(0, (.v (.slice a2 ((Dc.encL v1).length) c2))), (3, (.loc 0 0)), (4, (.loc 1 0)), (6, (.v (.slice x.2.2.1 ((List.map (D.int .i64) x.2.1).length) x.2.2.2.1))), (48, (.v (.slice a18 ((Pt.encL (v3.parts.drop (1 : Int).toNat)).length) c18))), (49, (.v (.int .i64 ((Pt.encL (v3.parts.drop (1 : Int).toNat)).length : Int)))), (50, (.v (.int .i64 x.2.2.2.2)))], fun x => ⟨[.cells 33 [(.v (.string v3.word)), (.v (.string v3.name)), (.v (.int .i64 v3.raw.op)), (.v (.string v3.raw.name)), (.v (.slice a4 ((Rw.encL v3.raw.args).length) c4)), (.v (.slice a5 ((Pt.encL v3.parts).length) c5))], .cells 25 [(.v (.int .i64 0)), (.v (.slice none 0 0))], .imm [(.v (.int .i64 v10.op)), (.v (.string v10.sign)), (.v (.string v10.name)), (.v (.int .i64 v10.n)), (.v (.int .i64 v10.raw.op)), (.v (.string v10.raw.name)), (.v (.slice a14 ((Rw.encL v10.raw.args).length) c14)), (.v (.slice a15 ((Pt.encL v10.parts).length) c15))]], [⟨.slice x.2.2.1 ((List.map (D.int .i64) x.2.1).length) x.2.2.2.1, 1, 3, (List.map (D.int .i64) x.2.1)⟩], [(.slice a2 ((Dc.encL v1).length) c2, .sl 6 (Dc.encL v1)), (.slice a4 ((Rw.encL v3.raw.args).length) c4, .sl 3 (Rw.encL v3.raw.args)), (.slice a5 ((Pt.encL v3.parts).length) c5, .sl 8 (Pt.encL v3.parts)), (.slice a14 ((Rw.encL v10.raw.args).length) c14, .sl 3 (Rw.encL v10.raw.args)), (.slice a15 ((Pt.encL v10.parts).length) c15, .sl 8 (Pt.encL v10.parts)), (.slice a18 ((Pt.encL (v3.parts.drop (1 : Int).toNat)).length) c18, .sl 8 (Pt.encL (v3.parts.drop (1 : Int).toNat)))]⟩, fun x => mode_Read_L1 x.1 v3 v1 x.2.1 x.2.2.2.2 = some r, fun x => x.1, (n, [], none, 0, 0), hr, ⟨rfl, rfl, rfl, rfl, rfl, rfl, rfl, trivial⟩, (StLe.gen 3 [.nil 1 3] [.old 0, .old 1, .old 2, .old 3, .old 4, .old 5] rfl rfl rfl rfl rfl rfl rfl), fun x _ => ⟨rfl, rfl⟩, ?_⟩
        rintro ⟨n, v30, a31, c31, v32⟩ HH
        have hr : mode_Read_L1 n v3 v1 v30 v32 = some r := HH
        rcases n with _ | n
        · exact no_some hr
        rw [mode_Read_L1.eq_2] at hr
        refine AtIf.mk (fun h33 => ?_) (fun h33 => ?_)
        · replace hr := cond_t h33 hr
          obtain ⟨v34, h35, hr⟩ := bind_some hr
          obtain ⟨h36, h37⟩ := idx_some h35
          refine at_index ttOK 5 rfl rfl rfl rfl h36 (Pt.encL_get h37) ?_
          intro a38 c38 _ _ a39 c39 _ _
          refine AtIf.mk (fun h40 => ?_) (fun h40 => ?_)
          · replace hr := cond_t h40 hr
            replace hr := Option.some.inj hr
            subst hr
            exact AtRet.pureG [.nil 1] [(.slice none 0 0, .sl 1 [])] rfl rfl ⟨none, 0, rfl, rfl⟩
          · replace hr := cond_f h40 hr
            refine spec_of_body (N := 3) (m := 5) (dt := fun _ => none) [] ttOK Tryz.func26 rfl Tryz.call26 Tryz.ntmps26 rfl rfl rfl mixed (by kernel_rfl) ?_
            refine at_makeMapS ?_
            refine at_mapPutS (l := encM (Value.int .i64) ([])) ttOK (.int .i64 1) rfl Tryz.underlying9 rfl rfl rfl (fun _ => rfl) ?_
            rw [putS_enc (Value.int .i64) (⟨#[43]⟩ : ByteArray) 1 ([])]
            refine at_mapPutS (l := encM (Value.int .i64) (mput (⟨#[43]⟩ : ByteArray) 1 ([]))) ttOK (.int .i64 2) rfl Tryz.underlying9 rfl rfl rfl (fun _ => rfl) ?_
            rw [putS_enc (Value.int .i64) (⟨#[45]⟩ : ByteArray) 2 (mput (⟨#[43]⟩ : ByteArray) 1 ([]))]
            refine at_mapPutS (l := encM (Value.int .i64) (mput (⟨#[45]⟩ : ByteArray) 2 (mput (⟨#[43]⟩ : ByteArray) 1 ([])))) ttOK (.int .i64 3) rfl Tryz.underlying9 rfl rfl rfl (fun _ => rfl) ?_
            rw [putS_enc (Value.int .i64) (⟨#[42]⟩ : ByteArray) 3 (mput (⟨#[45]⟩ : ByteArray) 2 (mput (⟨#[43]⟩ : ByteArray) 1 ([])))]
            refine AtRet.gen _ (StLe.refl _) rfl rfl ?_
            refine ⟨OwnKeptBut.append, ?_⟩
            refine at_lookupSG ttOK (Value.int .i64) 0 rfl Tryz.underlying9 rfl rfl rfl rfl ?_
            refine ⟨fun _ _ h => h, ?_⟩
            refine at_buildG (n := 1) ttOK 8 [.int .i64 ((mget (mput (⟨#[42]⟩ : ByteArray) 3 (mput (⟨#[45]⟩ : ByteArray) 2 (mput (⟨#[43]⟩ : ByteArray) 1 ([])))) v34.sign).getD 0)] (ds' := (List.map (D.int .i64) ([((mget (mput (⟨#[42]⟩ : ByteArray) 3 (mput (⟨#[45]⟩ : ByteArray) 2 (mput (⟨#[43]⟩ : ByteArray) 1 ([])))) v34.sign).getD 0)]))) rfl (by kernel_rfl) ⟨⟨rfl, rfl, rfl, rfl⟩, trivial⟩ rfl rfl (by decide) (by decide) ?_
            intro a41
            refine ⟨fun _ _ h => h, ?_⟩
            obtain ⟨h42, hr⟩ := cond_need hr
            refine at_appendG (ds' := (List.map (D.int .i64) (v30 ++ [((mget (mput (⟨#[42]⟩ : ByteArray) 3 (mput (⟨#[45]⟩ : ByteArray) 2 (mput (⟨#[43]⟩ : ByteArray) 1 ([])))) v34.sign).getD 0)]))) ttOK 8 0 8 rfl (by kernel_rfl) rfl rfl rfl rfl (by simp only [List.map_append]) h42 (by decide) ?_
            intro a43 c43
            exact ⟨(n, (v30 ++ [((mget (mput (⟨#[42]⟩ : ByteArray) 3 (mput (⟨#[45]⟩ : ByteArray) 2 (mput (⟨#[43]⟩ : ByteArray) 1 ([])))) v34.sign).getD 0)]), a43, c43, (IntKind.i64.wrap (v32 + 1))), hr, Nat.lt_succ_self _, ⟨rfl, rfl, rfl, rfl, rfl, rfl, rfl, trivial⟩, (StLe.gen 3 [.old 0] [.old 0, .old 1, .old 2, .old 3, .old 4, .old 5] rfl rfl rfl rfl rfl rfl rfl)⟩
        · replace hr := cond_f h33 hr
          obtain ⟨v44, h45, hr⟩ := bind_some hr
          obtain ⟨h46, h47⟩ := idx_some h45
          refine at_index ttOK 2 rfl rfl rfl rfl h46 (Pt.encL_get h47) ?_
          intro a48 c48 _ _ a49 c49 _ _
          obtain ⟨v50, h51, hr⟩ := bind_some hr
          refine (sign_Find_spec n v1 v44.name a2 c2 _ h51).atR [0] rfl rfl rfl ?_
          rintro _ _ ⟨rfl, rfl⟩
          refine AtIf.mk (fun h52 => ?_) (fun h52 => ?_)
          · replace hr := cond_t h52 hr
            replace hr := Option.some.inj hr
            subst hr
            exact AtRet.pureG [.nil 1] [(.slice none 0 0, .sl 1 [])] rfl rfl ⟨none, 0, rfl, rfl⟩
          · replace hr := cond_f h52 hr
            obtain ⟨v53, h54, hr⟩ := bind_some hr
            refine (sign_Family_spec n v1 v50.1 a2 c2 _ h54).atR [0] rfl rfl rfl ?_
            rintro _ _ ⟨rfl, rfl⟩
            refine AtIf.mk (fun h55 => ?_) (fun h55 => ?_)
            · replace hr := cond_t h55 hr
              replace hr := Option.some.inj hr
              subst hr
              exact AtRet.pureG [.nil 1] [(.slice none 0 0, .sl 1 [])] rfl rfl ⟨none, 0, rfl, rfl⟩
            · replace hr := cond_f h55 hr
              obtain ⟨v56, h57, hr⟩ := bind_some hr
              obtain ⟨h58, h59⟩ := idx_some h57
              refine at_index ttOK 0 rfl rfl rfl rfl h58 (Dc.encL_get h59) ?_
              intro a60 c60 _ _
              obtain ⟨v61, h62, hr⟩ := bind_some hr
              refine (term_Domains_spec n v56.cls a60 c60 _ h62).atR [8] rfl rfl rfl ?_
              rintro _ _ ⟨a63, c63, a64, c64, rfl, rfl⟩
              obtain ⟨v65, h66, hr⟩ := bind_some hr
              obtain ⟨h67, h68⟩ := idx_some h66
              refine at_index ttOK 0 rfl rfl rfl rfl h67 (Dc.encL_get h68) ?_
              intro a69 c69 _ _
              refine AtIf.mk (fun h70 => ?_) (fun h70 => ?_)
              · replace hr := cond_t h70 hr
                replace hr := Option.some.inj hr
                subst hr
                exact AtRet.pureG [.nil 1] [(.slice none 0 0, .sl 1 [])] rfl rfl ⟨none, 0, rfl, rfl⟩
              · replace hr := cond_f h70 hr
                obtain ⟨h71, hr⟩ := cond_need hr
                refine at_makeSliceG (ds' := (List.map (D.int .i64) (List.replicate (v65.implicit).toNat (0 : Int)))) (d := .int .i64 0) ttOK rfl ⟨_, rfl, rfl, rfl, by decide⟩ rfl rfl rfl (of_decide_eq_true h71) (List.map_replicate ..) ?_
                intro a72
                obtain ⟨h73, hr⟩ := cond_need hr
                refine AtSem.le (S' := ⟨[.cells 33 [(.v (.string v3.word)), (.v (.string v3.name)), (.v (.int .i64 v3.raw.op)), (.v (.string v3.raw.name)), (.v (.slice a4 ((Rw.encL v3.raw.args).length) c4)), (.v (.slice a5 ((Pt.encL v3.parts).length) c5))], .cells 25 [(.v (.int .i64 0)), (.v (.slice none 0 0))], .imm [(.v (.int .i64 v10.op)), (.v (.string v10.sign)), (.v (.string v10.name)), (.v (.int .i64 v10.n)), (.v (.int .i64 v10.raw.op)), (.v (.string v10.raw.name)), (.v (.slice a14 ((Rw.encL v10.raw.args).length) c14)), (.v (.slice a15 ((Pt.encL v10.parts).length) c15))], .imm [(.v (.int .i64 v44.op)), (.v (.string v44.sign)), (.v (.string v44.name)), (.v (.int .i64 v44.n)), (.v (.int .i64 v44.raw.op)), (.v (.string v44.raw.name)), (.v (.slice a48 ((Rw.encL v44.raw.args).length) c48)), (.v (.slice a49 ((Pt.encL v44.parts).length) c49))], .imm [(.v (.string v56.name)), (.v (.int .i64 v56.cls.op)), (.v (.int .i64 v56.cls.hd)), (.v (.int .i64 v56.cls.n)), (.v (.slice a60 ((Tm.encL v56.cls.args).length) c60)), (.v (.int .i64 v56.implicit))], .cells 55 [(.v (.int .i64 v61.2.op)), (.v (.int .i64 v61.2.hd)), (.v (.int .i64 v61.2.n)), (.v (.slice a64 ((Tm.encL v61.2.args).length) c64))], .imm [(.v (.string v65.name)), (.v (.int .i64 v65.cls.op)), (.v (.int .i64 v65.cls.hd)), (.v (.int .i64 v65.cls.n)), (.v (.slice a69 ((Tm.encL v65.cls.args).length) c69)), (.v (.int .i64 v65.implicit))], .cells 25 [(.v (.int .i64 v50.1)), (.v (.slice a72 ((List.map (D.int .i64) (List.replicate (v65.implicit).toNat (0 : Int))).length) ((v65.implicit).toNat)))]], [⟨.slice a72 ((List.map (D.int .i64) (List.replicate (v65.implicit).toNat (0 : Int))).length) ((v65.implicit).toNat), 1, 3, (List.map (D.int .i64) (List.replicate (v65.implicit).toNat (0 : Int)))⟩], [(.slice a31 ((List.map (D.int .i64) v30).length) c31, .sl 1 (List.map (D.int .i64) v30)), (.slice a2 ((Dc.encL v1).length) c2, .sl 6 (Dc.encL v1)), (.slice a4 ((Rw.encL v3.raw.args).length) c4, .sl 3 (Rw.encL v3.raw.args)), (.slice a5 ((Pt.encL v3.parts).length) c5, .sl 8 (Pt.encL v3.parts)), (.slice a14 ((Rw.encL v10.raw.args).length) c14, .sl 3 (Rw.encL v10.raw.args)), (.slice a15 ((Pt.encL v10.parts).length) c15, .sl 8 (Pt.encL v10.parts)), (.slice a18 ((Pt.encL (v3.parts.drop (1 : Int).toNat)).length) c18, .sl 8 (Pt.encL (v3.parts.drop (1 : Int).toNat))), (.slice a48 ((Rw.encL v44.raw.args).length) c48, .sl 3 (Rw.encL v44.raw.args)), (.slice a49 ((Pt.encL v44.parts).length) c49, .sl 8 (Pt.encL v44.parts)), (.slice a60 ((Tm.encL v56.cls.args).length) c60, .sl 4 (Tm.encL v56.cls.args)), (.slice a63 ((Tm.encL v61.1).length) c63, .sl 4 (Tm.encL v61.1)), (.slice a64 ((Tm.encL v61.2.args).length) c64, .sl 4 (Tm.encL v61.2.args)), (.slice a69 ((Tm.encL v65.cls.args).length) c69, .sl 4 (Tm.encL v65.cls.args))]⟩) (StLe.gen 8 [.old 0] [.froz 1, .old 0, .old 1, .old 2, .old 3, .old 4, .old 5, .old 6, .old 7, .old 8, .old 9, .old 10, .old 11] rfl rfl rfl rfl rfl rfl rfl) rfl ?_
                refine at_appendG (ds' := (List.map (D.int .i64) ((List.replicate (v65.implicit).toNat (0 : Int)) ++ v30))) ttOK 8 0 0 rfl (by kernel_rfl) rfl rfl rfl rfl (by simp only [List.map_append]) h73 (by decide) ?_
                intro a74 c74
                obtain ⟨q117, hq117⟩ : ∃ q, q = n := ⟨_, rfl⟩
                refine AtLoop.mk ⟨Nat × Md × Option Addr × Nat × Int, fun x => [(4, (.loc 1 0)), (11, (.v (.slice a63 ((Tm.encL v61.1).length) c63))), (13, (.v (.int .i64 v65.implicit))), (14, (.loc 7 0)), (117, (.v (.int .i64 v65.implicit))), (118, (.v (.int .i64 x.2.2.2.2)))], fun x => ⟨[.cells 33 [(.v (.string v3.word)), (.v (.string v3.name)), (.v (.int .i64 v3.raw.op)), (.v (.string v3.raw.name)), (.v (.slice a4 ((Rw.encL v3.raw.args).length) c4)), (.v (.slice a5 ((Pt.encL v3.parts).length) c5))], .cells 25 [(.v (.int .i64 0)), (.v (.slice none 0 0))], .imm [(.v (.int .i64 v10.op)), (.v (.string v10.sign)), (.v (.string v10.name)), (.v (.int .i64 v10.n)), (.v (.int .i64 v10.raw.op)), (.v (.string v10.raw.name)), (.v (.slice a14 ((Rw.encL v10.raw.args).length) c14)), (.v (.slice a15 ((Pt.encL v10.parts).length) c15))], .imm [(.v (.int .i64 v44.op)), (.v (.string v44.sign)), (.v (.string v44.name)), (.v (.int .i64 v44.n)), (.v (.int .i64 v44.raw.op)), (.v (.string v44.raw.name)), (.v (.slice a48 ((Rw.encL v44.raw.args).length) c48)), (.v (.slice a49 ((Pt.encL v44.parts).length) c49))], .imm [(.v (.string v56.name)), (.v (.int .i64 v56.cls.op)), (.v (.int .i64 v56.cls.hd)), (.v (.int .i64 v56.cls.n)), (.v (.slice a60 ((Tm.encL v56.cls.args).length) c60)), (.v (.int .i64 v56.implicit))], .cells 55 [(.v (.int .i64 v61.2.op)), (.v (.int .i64 v61.2.hd)), (.v (.int .i64 v61.2.n)), (.v (.slice a64 ((Tm.encL v61.2.args).length) c64))], .imm [(.v (.string v65.name)), (.v (.int .i64 v65.cls.op)), (.v (.int .i64 v65.cls.hd)), (.v (.int .i64 v65.cls.n)), (.v (.slice a69 ((Tm.encL v65.cls.args).length) c69)), (.v (.int .i64 v65.implicit))], .cells 25 [(.v (.int .i64 x.2.1.family)), (.v (.slice x.2.2.1 ((List.map (D.int .i64) x.2.1.signs).length) x.2.2.2.1))]], [⟨.slice x.2.2.1 ((List.map (D.int .i64) x.2.1.signs).length) x.2.2.2.1, 1, 3, (List.map (D.int .i64) x.2.1.signs)⟩], [(.slice a31 ((List.map (D.int .i64) v30).length) c31, .sl 1 (List.map (D.int .i64) v30)), (.slice a2 ((Dc.encL v1).length) c2, .sl 6 (Dc.encL v1)), (.slice a4 ((Rw.encL v3.raw.args).length) c4, .sl 3 (Rw.encL v3.raw.args)), (.slice a5 ((Pt.encL v3.parts).length) c5, .sl 8 (Pt.encL v3.parts)), (.slice a14 ((Rw.encL v10.raw.args).length) c14, .sl 3 (Rw.encL v10.raw.args)), (.slice a15 ((Pt.encL v10.parts).length) c15, .sl 8 (Pt.encL v10.parts)), (.slice a18 ((Pt.encL (v3.parts.drop (1 : Int).toNat)).length) c18, .sl 8 (Pt.encL (v3.parts.drop (1 : Int).toNat))), (.slice a48 ((Rw.encL v44.raw.args).length) c48, .sl 3 (Rw.encL v44.raw.args)), (.slice a49 ((Pt.encL v44.parts).length) c49, .sl 8 (Pt.encL v44.parts)), (.slice a60 ((Tm.encL v56.cls.args).length) c60, .sl 4 (Tm.encL v56.cls.args)), (.slice a63 ((Tm.encL v61.1).length) c63, .sl 4 (Tm.encL v61.1)), (.slice a64 ((Tm.encL v61.2.args).length) c64, .sl 4 (Tm.encL v61.2.args)), (.slice a69 ((Tm.encL v65.cls.args).length) c69, .sl 4 (Tm.encL v65.cls.args))]⟩, fun x => x.1 ≤ q117 ∧ mode_Read_L2 x.1 v65 v61 x.2.1 x.2.2.2.2 = some r, fun x => x.1, (n, (Md.mk v50.1 ((List.replicate (v65.implicit).toNat (0 : Int)) ++ v30)), a74, c74, 0), ⟨by omega, hr⟩, ⟨rfl, rfl, rfl, rfl, rfl, rfl, trivial⟩, (StLe.gen 8 [.old 0] [.old 0, .old 1, .old 2, .old 3, .old 4, .old 5, .old 6, .old 7, .old 8, .old 9, .old 10, .old 11, .old 12] rfl rfl rfl rfl rfl rfl rfl), fun x _ => ⟨rfl, rfl⟩, ?_⟩
                rintro ⟨n, v114, a115, c115, v116⟩ HH
                obtain ⟨hbq117, hr⟩ : n ≤ q117 ∧ mode_Read_L2 n v65 v61 v114 v116 = some r := HH
                rcases n with _ | n
                · exact no_some hr
                rw [mode_Read_L2.eq_2] at hr
                refine AtIf.mk (fun h118 => ?_) (fun h118 => ?_)
                · replace hr := cond_t h118 hr
                  obtain ⟨h119, hr⟩ := cond_need hr
                  refine at_index_accG ttOK 0 rfl rfl rfl rfl h119 ?_
                  intro b120 h121
                  subst h121
                  obtain ⟨m122, h123⟩ : ∃ m122, m122 = (List.map (D.int .i64) v114.signs).length := ⟨_, rfl⟩
                  try dsimp only
                  rw [← h123]
                  refine at_store_accG (ds' := List.map (D.int .i64) (v114.signs.set ((v116).toNat) 3)) ttOK 0 rfl (by simpa using (of_decide_eq_true h119).2) rfl (.inl ⟨_, rfl⟩) rfl rfl (map_set' ..) ?_
                  refine at_buildG (n := 2) ttOK 8 [.int .i64 2, .int .i64 1] (ds' := (List.map (D.int .i64) ([2, 1]))) rfl (by kernel_rfl) ⟨⟨rfl, rfl, rfl, rfl⟩, ⟨⟨rfl, rfl, rfl, rfl⟩, trivial⟩⟩ rfl rfl (by decide) (by decide) ?_
                  intro a124
                  obtain rfl : m122 = (List.map (D.int .i64) (v114.signs.set ((v116).toNat) 3)).length := by rw [h123]; simp
                  obtain ⟨q142, hq142⟩ : ∃ q, q = n := ⟨_, rfl⟩
                  refine AtLoop.mk ⟨Nat × Md × Option Addr × Nat × Int, fun x => [(4, (.loc 1 0)), (11, (.v (.slice a63 ((Tm.encL v61.1).length) c63))), (13, (.v (.int .i64 v65.implicit))), (14, (.loc 7 0)), (15, (.v (.int .i64 v116))), (117, (.v (.int .i64 v65.implicit))), (118, (.v (.int .i64 v116))), (125, (.v (.slice a124 ((List.map (D.int .i64) ([2, 1])).length) 2))), (126, (.v (.int .i64 ((List.map (D.int .i64) ([2, 1])).length : Int)))), (127, (.v (.int .i64 x.2.2.2.2)))], fun x => ⟨[.cells 33 [(.v (.string v3.word)), (.v (.string v3.name)), (.v (.int .i64 v3.raw.op)), (.v (.string v3.raw.name)), (.v (.slice a4 ((Rw.encL v3.raw.args).length) c4)), (.v (.slice a5 ((Pt.encL v3.parts).length) c5))], .cells 25 [(.v (.int .i64 0)), (.v (.slice none 0 0))], .imm [(.v (.int .i64 v10.op)), (.v (.string v10.sign)), (.v (.string v10.name)), (.v (.int .i64 v10.n)), (.v (.int .i64 v10.raw.op)), (.v (.string v10.raw.name)), (.v (.slice a14 ((Rw.encL v10.raw.args).length) c14)), (.v (.slice a15 ((Pt.encL v10.parts).length) c15))], .imm [(.v (.int .i64 v44.op)), (.v (.string v44.sign)), (.v (.string v44.name)), (.v (.int .i64 v44.n)), (.v (.int .i64 v44.raw.op)), (.v (.string v44.raw.name)), (.v (.slice a48 ((Rw.encL v44.raw.args).length) c48)), (.v (.slice a49 ((Pt.encL v44.parts).length) c49))], .imm [(.v (.string v56.name)), (.v (.int .i64 v56.cls.op)), (.v (.int .i64 v56.cls.hd)), (.v (.int .i64 v56.cls.n)), (.v (.slice a60 ((Tm.encL v56.cls.args).length) c60)), (.v (.int .i64 v56.implicit))], .cells 55 [(.v (.int .i64 v61.2.op)), (.v (.int .i64 v61.2.hd)), (.v (.int .i64 v61.2.n)), (.v (.slice a64 ((Tm.encL v61.2.args).length) c64))], .imm [(.v (.string v65.name)), (.v (.int .i64 v65.cls.op)), (.v (.int .i64 v65.cls.hd)), (.v (.int .i64 v65.cls.n)), (.v (.slice a69 ((Tm.encL v65.cls.args).length) c69)), (.v (.int .i64 v65.implicit))], .cells 25 [(.v (.int .i64 x.2.1.family)), (.v (.slice x.2.2.1 ((List.map (D.int .i64) x.2.1.signs).length) x.2.2.2.1))]], [⟨.slice x.2.2.1 ((List.map (D.int .i64) x.2.1.signs).length) x.2.2.2.1, 1, 3, (List.map (D.int .i64) x.2.1.signs)⟩], [(.slice a31 ((List.map (D.int .i64) v30).length) c31, .sl 1 (List.map (D.int .i64) v30)), (.slice a2 ((Dc.encL v1).length) c2, .sl 6 (Dc.encL v1)), (.slice a4 ((Rw.encL v3.raw.args).length) c4, .sl 3 (Rw.encL v3.raw.args)), (.slice a5 ((Pt.encL v3.parts).length) c5, .sl 8 (Pt.encL v3.parts)), (.slice a14 ((Rw.encL v10.raw.args).length) c14, .sl 3 (Rw.encL v10.raw.args)), (.slice a15 ((Pt.encL v10.parts).length) c15, .sl 8 (Pt.encL v10.parts)), (.slice a18 ((Pt.encL (v3.parts.drop (1 : Int).toNat)).length) c18, .sl 8 (Pt.encL (v3.parts.drop (1 : Int).toNat))), (.slice a48 ((Rw.encL v44.raw.args).length) c48, .sl 3 (Rw.encL v44.raw.args)), (.slice a49 ((Pt.encL v44.parts).length) c49, .sl 8 (Pt.encL v44.parts)), (.slice a60 ((Tm.encL v56.cls.args).length) c60, .sl 4 (Tm.encL v56.cls.args)), (.slice a63 ((Tm.encL v61.1).length) c63, .sl 4 (Tm.encL v61.1)), (.slice a64 ((Tm.encL v61.2.args).length) c64, .sl 4 (Tm.encL v61.2.args)), (.slice a69 ((Tm.encL v65.cls.args).length) c69, .sl 4 (Tm.encL v65.cls.args)), (.slice a124 ((List.map (D.int .i64) ([2, 1])).length) 2, .sl 1 (List.map (D.int .i64) ([2, 1])))]⟩, fun x => x.1 ≤ q142 ∧ mode_Read_L3 x.1 v61 v116 v65 x.2.1 x.2.2.2.2 = some r, fun x => x.1, (n, (Md.mk v114.family (v114.signs.set ((v116).toNat) 3)), (some ⟨b120, 0, none⟩), c115, 0), ⟨by omega, hr⟩, ⟨rfl, rfl, rfl, rfl, rfl, rfl, rfl, rfl, rfl, rfl, trivial⟩, (StLe.gen 8 [.old 0] [.old 0, .old 1, .old 2, .old 3, .old 4, .old 5, .old 6, .old 7, .old 8, .old 9, .old 10, .old 11, .old 12, .old 13] rfl rfl rfl rfl rfl rfl rfl), fun x _ => ⟨rfl, rfl⟩, ?_⟩
                  rintro ⟨n, v139, a140, c140, v141⟩ HH
                  obtain ⟨hbq142, hr⟩ : n ≤ q142 ∧ mode_Read_L3 n v61 v116 v65 v139 v141 = some r := HH
                  rcases n with _ | n
                  · exact no_some hr
                  rw [mode_Read_L3.eq_2] at hr
                  refine AtIf.mk (fun h143 => ?_) (fun h143 => ?_)
                  · replace hr := cond_t h143 hr
                    obtain ⟨v144, h145, hr⟩ := bind_some hr
                    obtain ⟨h146, h147⟩ := idx_some h145
                    refine at_index ttOK 13 rfl rfl rfl rfl h146 (map_get (D.int .i64) h147) ?_
                    obtain ⟨v148, h149, hr⟩ := bind_some hr
                    refine (mode_stands_spec n v61.1 v139.signs v116 v65.implicit v144 a63 c63 a140 c140 _ h149).atB [.old 10, .froz 0] rfl rfl rfl ?_
                    rintro _ _ ⟨rfl, rfl⟩
                    refine ⟨rfl, ?_⟩
                    refine AtIf.mk (fun h150 => ?_) (fun h150 => ?_)
                    · replace hr := cond_t h150 hr
                      obtain ⟨h151, hr⟩ := cond_need hr
                      refine at_index_accG ttOK 0 rfl rfl rfl rfl h151 ?_
                      intro b152 h153
                      subst h153
                      obtain ⟨m154, h155⟩ : ∃ m154, m154 = (List.map (D.int .i64) v139.signs).length := ⟨_, rfl⟩
                      try dsimp only
                      rw [← h155]
                      refine at_store_accG (ds' := List.map (D.int .i64) (v139.signs.set ((v116).toNat) v144)) ttOK 0 rfl (by simpa using (of_decide_eq_true h151).2) rfl (.inl ⟨_, rfl⟩) rfl rfl (map_set' ..) ?_
                      obtain rfl : m154 = (List.map (D.int .i64) (v139.signs.set ((v116).toNat) v144)).length := by rw [h155]; simp
                      exact ⟨(n, (Md.mk v139.family (v139.signs.set ((v116).toNat) v144)), (some ⟨b152, 0, none⟩), c140, (IntKind.i64.wrap (v141 + 1))), ⟨by omega, hr⟩, Nat.lt_succ_self _, ⟨rfl, rfl, rfl, rfl, rfl, rfl, rfl, rfl, rfl, rfl, trivial⟩, (StLe.gen 8 [.old 0] [.old 0, .old 1, .old 2, .old 3, .old 4, .old 5, .old 6, .old 7, .old 8, .old 9, .old 10, .old 11, .old 12, .old 13] rfl rfl rfl rfl rfl rfl rfl)⟩
                    · replace hr := cond_f h150 hr
                      exact ⟨(n, v139, a140, c140, (IntKind.i64.wrap (v141 + 1))), ⟨by omega, hr⟩, Nat.lt_succ_self _, ⟨rfl, rfl, rfl, rfl, rfl, rfl, rfl, rfl, rfl, rfl, trivial⟩, (StLe.gen 8 [.old 0] [.old 0, .old 1, .old 2, .old 3, .old 4, .old 5, .old 6, .old 7, .old 8, .old 9, .old 10, .old 11, .old 12, .old 13] rfl rfl rfl rfl rfl rfl rfl)⟩
                  · replace hr := cond_f h143 hr
                    exact ⟨(n, v139, a140, c140, (IntKind.i64.wrap (v116 + 1))), ⟨by omega, hr⟩, (by simp only; omega), ⟨rfl, rfl, rfl, rfl, rfl, rfl, trivial⟩, (StLe.gen 8 [.old 0] [.old 0, .old 1, .old 2, .old 3, .old 4, .old 5, .old 6, .old 7, .old 8, .old 9, .old 10, .old 11, .old 12] rfl rfl rfl rfl rfl rfl rfl)⟩
                · replace hr := cond_f h118 hr
                  replace hr := Option.some.inj hr
                  subst hr
                  exact AtRet.pureG [.froz 0] [(.slice a115 ((List.map (D.int .i64) v114.signs).length) c115, .sl 1 (List.map (D.int .i64) v114.signs))] rfl rfl ⟨a115, c115, rfl, rfl⟩
    · replace hr := cond_t h9 hr
      refine AtIf.mk (fun _ => ?_) (fun h => tf h)
      replace hr := Option.some.inj hr
      subst hr
      exact AtRet.pureG [.nil 1] [(.slice none 0 0, .sl 1 [])] rfl rfl ⟨none, 0, rfl, rfl⟩
  · replace hr := cond_t h8 hr
    refine AtGuard.mk (fun h => tf h) (fun _ => ?_)
    refine AtIf.mk (fun _ => ?_) (fun h => tf h)
    replace hr := Option.some.inj hr
    subst hr
    exact AtRet.pureG [.nil 1] [(.slice none 0 0, .sl 1 [])] rfl rfl ⟨none, 0, rfl, rfl⟩
mutual
def mode_Item : Nat → (List Dc) → Md → Option (It × Int)
  | 0, _, _ => none
  | n + 1, v1, v3 =>
    (sign_Check n v1).bind (fun v5 =>
    cond (v5 != 0) (
    some ((It.mk ByteArray.empty ByteArray.empty (Rw.mk 0 ByteArray.empty ([])) ([])), 2)) (
    (mode_isMode n v1 v3).bind (fun v8 =>
    cond (!v8) (
    some ((It.mk ByteArray.empty ByteArray.empty (Rw.mk 0 ByteArray.empty ([])) ([])), 2)) (
    (idx v1 v3.family).bind (fun v11 =>
    (idx v1 v3.family).bind (fun v17 =>
    cond (decide ((0 : Int) ≤ v17.implicit ∧ v17.implicit ≤ ((List.map (D.int .i64) v3.signs).length : Int) ∧ ((List.map (D.int .i64) v3.signs).length : Int) ≤ ((List.map (D.int .i64) v3.signs).length : Int))) (
    mode_Item_L1 n v3 v17 v1 (It.mk (⟨#[109, 111, 100, 101]⟩) ByteArray.empty (Rw.mk 0 ByteArray.empty ([])) ([(Pt.mk 1 ByteArray.empty v11.name 0 (Rw.mk 0 ByteArray.empty ([])) ([]))])) 0) none))))))
def mode_Item_L1 : Nat → Md → Dc → (List Dc) → It → Int → Option (It × Int)
  | 0, _, _, _, _, _ => none
  | n + 1, v3, v17, v1, v36, v39 =>
    cond (decide (v39 < ((List.map (D.int .i64) (v3.signs.drop v17.implicit.toNat)).length : Int))) (
    (idx (v3.signs.drop v17.implicit.toNat) v39).bind (fun v41 =>
    cond (v41 == 0) (
    cond (decide ((0 : Int) ≤ (IntKind.i64.wrap (v39 + 1)) ∧ ((IntKind.i64.wrap (v39 + 1)) : Int) ≤ 99)) (
    cond (decide ((⟨#[88]⟩ : ByteArray).size + (itoaF (IntKind.i64.wrap (v39 + 1))).size ≤ 1000000)) (
    cond (decide ((Pt.encL (v36.parts ++ [(Pt.mk 2 ByteArray.empty ((⟨#[88]⟩ : ByteArray) ++ (itoaF (IntKind.i64.wrap (v39 + 1)))) 0 (Rw.mk 0 ByteArray.empty ([])) ([]))])).length ≤ 1000000)) (
    mode_Item_L1 n v3 v17 v1 (It.mk v36.word v36.name v36.raw (v36.parts ++ [(Pt.mk 2 ByteArray.empty ((⟨#[88]⟩ : ByteArray) ++ (itoaF (IntKind.i64.wrap (v39 + 1)))) 0 (Rw.mk 0 ByteArray.empty ([])) ([]))])) (IntKind.i64.wrap (v39 + 1))) none) none) none) (
    cond (v41 == 1) (
    cond (decide ((0 : Int) ≤ (IntKind.i64.wrap (v39 + 1)) ∧ ((IntKind.i64.wrap (v39 + 1)) : Int) ≤ 99)) (
    cond (decide ((⟨#[88]⟩ : ByteArray).size + (itoaF (IntKind.i64.wrap (v39 + 1))).size ≤ 1000000)) (
    cond (decide ((Pt.encL (v36.parts ++ [(Pt.mk 2 (⟨#[43]⟩) ((⟨#[88]⟩ : ByteArray) ++ (itoaF (IntKind.i64.wrap (v39 + 1)))) 0 (Rw.mk 0 ByteArray.empty ([])) ([]))])).length ≤ 1000000)) (
    mode_Item_L1 n v3 v17 v1 (It.mk v36.word v36.name v36.raw (v36.parts ++ [(Pt.mk 2 (⟨#[43]⟩) ((⟨#[88]⟩ : ByteArray) ++ (itoaF (IntKind.i64.wrap (v39 + 1)))) 0 (Rw.mk 0 ByteArray.empty ([])) ([]))])) (IntKind.i64.wrap (v39 + 1))) none) none) none) (
    cond (v41 == 2) (
    cond (decide ((0 : Int) ≤ (IntKind.i64.wrap (v39 + 1)) ∧ ((IntKind.i64.wrap (v39 + 1)) : Int) ≤ 99)) (
    cond (decide ((⟨#[88]⟩ : ByteArray).size + (itoaF (IntKind.i64.wrap (v39 + 1))).size ≤ 1000000)) (
    cond (decide ((Pt.encL (v36.parts ++ [(Pt.mk 2 (⟨#[45]⟩) ((⟨#[88]⟩ : ByteArray) ++ (itoaF (IntKind.i64.wrap (v39 + 1)))) 0 (Rw.mk 0 ByteArray.empty ([])) ([]))])).length ≤ 1000000)) (
    mode_Item_L1 n v3 v17 v1 (It.mk v36.word v36.name v36.raw (v36.parts ++ [(Pt.mk 2 (⟨#[45]⟩) ((⟨#[88]⟩ : ByteArray) ++ (itoaF (IntKind.i64.wrap (v39 + 1)))) 0 (Rw.mk 0 ByteArray.empty ([])) ([]))])) (IntKind.i64.wrap (v39 + 1))) none) none) none) (
    cond (v41 == 3) (
    cond (decide ((0 : Int) ≤ (IntKind.i64.wrap (v39 + 1)) ∧ ((IntKind.i64.wrap (v39 + 1)) : Int) ≤ 99)) (
    cond (decide ((⟨#[88]⟩ : ByteArray).size + (itoaF (IntKind.i64.wrap (v39 + 1))).size ≤ 1000000)) (
    cond (decide ((Pt.encL (v36.parts ++ [(Pt.mk 2 (⟨#[42]⟩) ((⟨#[88]⟩ : ByteArray) ++ (itoaF (IntKind.i64.wrap (v39 + 1)))) 0 (Rw.mk 0 ByteArray.empty ([])) ([]))])).length ≤ 1000000)) (
    mode_Item_L1 n v3 v17 v1 (It.mk v36.word v36.name v36.raw (v36.parts ++ [(Pt.mk 2 (⟨#[42]⟩) ((⟨#[88]⟩ : ByteArray) ++ (itoaF (IntKind.i64.wrap (v39 + 1)))) 0 (Rw.mk 0 ByteArray.empty ([])) ([]))])) (IntKind.i64.wrap (v39 + 1))) none) none) none) (none)))))) (
    (mode_Read n v1 v36).bind (fun v73 =>
    cond (v73.2 != 0) (
    some ((It.mk ByteArray.empty ByteArray.empty (Rw.mk 0 ByteArray.empty ([])) ([])), 2)) (
    (slices_Equal n v73.1.signs v3.signs).bind (fun v77 =>
    cond (!v77) (
    some ((It.mk ByteArray.empty ByteArray.empty (Rw.mk 0 ByteArray.empty ([])) ([])), 2)) (
    some (v36, 0))))))
 end
theorem mode_Item_spec (n : Nat) (v1 : (List Dc)) (v3 : Md) (a2 : Option Addr) (c2 : Nat) (a4 : Option Addr) (c4 : Nat) (r : It × Int) (hr : mode_Item n v1 v3 = some r) : Pure Tryz.prog (.val (.fn (.func 7) [] [])) [(.v (.slice a2 ((Dc.encL v1).length) c2)), (.agg [(.v (.int .i64 v3.family)), (.v (.slice a4 ((List.map (D.int .i64) v3.signs).length) c4))])] [(.slice a2 ((Dc.encL v1).length) c2, .sl 6 (Dc.encL v1)), (.slice a4 ((List.map (D.int .i64) v3.signs).length) c4, .sl 1 (List.map (D.int .i64) v3.signs))] (fun r' out => ∃ (b1 : Option Addr) (d1 : Nat), ∃ (b2 : Option Addr) (d2 : Nat), r' = (.tup [(.agg [(.v (.string r.1.word)), (.v (.string r.1.name)), (.v (.int .i64 r.1.raw.op)), (.v (.string r.1.raw.name)), (.v (.slice b1 ((Rw.encL r.1.raw.args).length) d1)), (.v (.slice b2 ((Pt.encL r.1.parts).length) d2))]), (.v (.int .i64 r.2))]) ∧ out = [(.slice b1 ((Rw.encL r.1.raw.args).length) d1, .sl 3 (Rw.encL r.1.raw.args)), (.slice b2 ((Pt.encL r.1.parts).length) d2, .sl 8 (Pt.encL r.1.parts))]) := by
  rcases n with _ | n
  · exact no_some hr
  rw [mode_Item.eq_2] at hr
  refine spec_of_body (N := 79) (m := 0) (dt := drawsOf [(5, .leaf [0, 1, 2, 3, 4, 5, 6, 7, 8, 9, 10], [], []), (8, .node [0, 1, 2, 3, 4, 5, 6] [(7, .node [8, 9] [(10, .node [] [(11, .node [12] [(13, .leaf [])])])])], [11, 13], [])]) [] ttOK Tryz.func7 rfl Tryz.call7 Tryz.ntmps7 rfl rfl rfl mixed (by kernel_rfl) ?_
  obtain ⟨v5, h6, hr⟩ := bind_some hr
  refine (sign_Check_spec n v1 a2 c2 _ h6).atR [0] rfl rfl rfl ?_
  rintro _ _ ⟨rfl, rfl⟩
  refine AtGuard.mk (fun h7 => ?_) (fun h7 => ?_)
  · replace hr := cond_f h7 hr
    obtain ⟨v8, h9, hr⟩ := bind_some hr
    refine (mode_isMode_spec n v1 v3 a2 c2 a4 c4 _ h9).atR [0, 1] rfl rfl rfl ?_
    rintro _ _ ⟨rfl, rfl⟩
    refine AtIf.mk (fun h10 => ?_) (fun h10 => ?_)
    · replace hr := cond_t h10 hr
      replace hr := Option.some.inj hr
      subst hr
      exact AtRet.pureG [.nil 3, .nil 8] [(.slice none 0 0, .sl 3 []), (.slice none 0 0, .sl 8 [])] rfl rfl ⟨none, 0, none, 0, rfl, rfl⟩
    · replace hr := cond_f h10 hr
      obtain ⟨v11, h12, hr⟩ := bind_some hr
      obtain ⟨h13, h14⟩ := idx_some h12
      refine at_index ttOK 0 rfl rfl rfl rfl h13 (Dc.encL_get h14) ?_
      intro a15 c15 _ _
      refine at_buildAcc (n := 1) ttOK 120 [.agg [.int .i64 1, .str ByteArray.empty, .str v11.name, .int .i64 0, .agg [.int .i64 0, .str ByteArray.empty, .sl 3 []], .sl 8 []]] (ds' := (Pt.encL ([(Pt.mk 1 ByteArray.empty v11.name 0 (Rw.mk 0 ByteArray.empty ([])) ([]))]))) rfl (by kernel_rfl) ⟨⟨rfl, rfl, rfl, ⟨[(.v (.int .i64 1))], _, rfl, rfl, ⟨[(.v (.string ByteArray.empty))], _, rfl, rfl, ⟨[(.v (.string v11.name))], _, rfl, rfl, ⟨[(.v (.int .i64 0))], _, rfl, rfl, ⟨[(.v (.int .i64 0)), (.v (.string ByteArray.empty)), (.v (.slice none 0 0))], _, rfl, ⟨[(.v (.int .i64 0))], _, rfl, rfl, ⟨[(.v (.string ByteArray.empty))], _, rfl, rfl, ⟨[(.v (.slice none 0 0))], _, rfl, (.inr ⟨rfl, rfl⟩), rfl⟩⟩⟩, ⟨[(.v (.slice none 0 0))], _, rfl, (.inr ⟨rfl, rfl⟩), rfl⟩⟩⟩⟩⟩⟩⟩, trivial⟩ rfl (by simp only [Pt.encL_eq, List.map_cons, List.map_nil, Pt.enc_eq] <;> rfl) (by decide) (by decide) ?_
      intro a16
      refine AtPure.val (.agg [(.v (.string ByteArray.empty)), (.v (.string (⟨#[43]⟩))), (.v (.string (⟨#[45]⟩))), (.v (.string (⟨#[42]⟩)))]) rfl (fun ℓ w => by kernel_rfl) ?_
      obtain ⟨v17, h18, hr⟩ := bind_some hr
      obtain ⟨h19, h20⟩ := idx_some h18
      refine at_index ttOK 0 rfl rfl rfl rfl h19 (Dc.encL_get h20) ?_
      intro a21 c21 _ _
      obtain ⟨h22, hr⟩ := cond_need hr
      refine at_sliceG ttOK 1 v17.implicit ((List.map (D.int .i64) v3.signs).length : Int) (ds' := (List.map (D.int .i64) (v3.signs.drop v17.implicit.toNat))) rfl rfl rfl (.inl ⟨_, rfl⟩) (.inr ⟨rfl, rfl⟩) h22 (sl_l ..) ?_
      intro a23 c23
      refine AtLoop.mk ⟨Nat × It × Option Addr × Nat × Option Addr × Nat × Int, fun x => [(0, (.v (.slice a2 ((Dc.encL v1).length) c2))), (3, (.loc 0 0)), (4, (.loc 1 0)), (6, (.loc 3 0)), (7, (.loc 4 0)), (40, (.v (.slice a23 ((List.map (D.int .i64) (v3.signs.drop v17.implicit.toNat)).length) c23))), (41, (.v (.int .i64 ((List.map (D.int .i64) (v3.signs.drop v17.implicit.toNat)).length : Int)))), (42, (.v (.int .i64 x.2.2.2.2.2.2)))], fun x => ⟨[.cells 25 [(.v (.int .i64 v3.family)), (.v (.slice a4 ((List.map (D.int .i64) v3.signs).length) c4))], .cells 33 [(.v (.string ByteArray.empty)), (.v (.string ByteArray.empty)), (.v (.int .i64 0)), (.v (.string ByteArray.empty)), (.v (.slice none 0 0)), (.v (.slice none 0 0))], .imm [(.v (.string v11.name)), (.v (.int .i64 v11.cls.op)), (.v (.int .i64 v11.cls.hd)), (.v (.int .i64 v11.cls.n)), (.v (.slice a15 ((Tm.encL v11.cls.args).length) c15)), (.v (.int .i64 v11.implicit))], .cells 33 [(.v (.string x.2.1.word)), (.v (.string x.2.1.name)), (.v (.int .i64 x.2.1.raw.op)), (.v (.string x.2.1.raw.name)), (.v (.slice x.2.2.1 ((Rw.encL x.2.1.raw.args).length) x.2.2.2.1)), (.v (.slice x.2.2.2.2.1 ((Pt.encL x.2.1.parts).length) x.2.2.2.2.2.1))], .cells 63 [(.v (.string ByteArray.empty)), (.v (.string (⟨#[43]⟩))), (.v (.string (⟨#[45]⟩))), (.v (.string (⟨#[42]⟩)))], .imm [(.v (.string v17.name)), (.v (.int .i64 v17.cls.op)), (.v (.int .i64 v17.cls.hd)), (.v (.int .i64 v17.cls.n)), (.v (.slice a21 ((Tm.encL v17.cls.args).length) c21)), (.v (.int .i64 v17.implicit))]], [⟨.slice x.2.2.2.2.1 ((Pt.encL x.2.1.parts).length) x.2.2.2.2.2.1, 8, 41, (Pt.encL x.2.1.parts)⟩], [(.slice x.2.2.1 ((Rw.encL x.2.1.raw.args).length) x.2.2.2.1, .sl 3 (Rw.encL x.2.1.raw.args)), (.slice a2 ((Dc.encL v1).length) c2, .sl 6 (Dc.encL v1)), (.slice a4 ((List.map (D.int .i64) v3.signs).length) c4, .sl 1 (List.map (D.int .i64) v3.signs)), (.slice a15 ((Tm.encL v11.cls.args).length) c15, .sl 4 (Tm.encL v11.cls.args)), (.slice a21 ((Tm.encL v17.cls.args).length) c21, .sl 4 (Tm.encL v17.cls.args)), (.slice a23 ((List.map (D.int .i64) (v3.signs.drop v17.implicit.toNat)).length) c23, .sl 1 (List.map (D.int .i64) (v3.signs.drop v17.implicit.toNat)))]⟩, fun x => mode_Item_L1 x.1 v3 v17 v1 x.2.1 x.2.2.2.2.2.2 = some r, fun x => x.1, (n, (It.mk (⟨#[109, 111, 100, 101]⟩) ByteArray.empty (Rw.mk 0 ByteArray.empty ([])) ([(Pt.mk 1 ByteArray.empty v11.name 0 (Rw.mk 0 ByteArray.empty ([])) ([]))])), none, 0, a16, 1, 0), hr, ⟨rfl, rfl, rfl, rfl, rfl, rfl, rfl, rfl, trivial⟩, (StLe.gen 6 [.old 0] [.nil 3, .old 0, .old 1, .old 2, .old 3, .old 4] rfl rfl rfl rfl rfl rfl rfl), fun x _ => ⟨rfl, rfl⟩, ?_⟩
      rintro ⟨n, v36, a37, c37, a38, c38, v39⟩ HH
      have hr : mode_Item_L1 n v3 v17 v1 v36 v39 = some r := HH
      rcases n with _ | n
      · exact no_some hr
      rw [mode_Item_L1.eq_2] at hr
      refine AtIf.mk (fun h40 => ?_) (fun h40 => ?_)
      · replace hr := cond_t h40 hr
        obtain ⟨v41, h42, hr⟩ := bind_some hr
        obtain ⟨h43, h44⟩ := idx_some h42
        refine at_index ttOK 5 rfl rfl rfl rfl h43 (map_get (D.int .i64) h44) ?_
        by_cases h45 : (v41 == 0) = true
        · replace hr := cond_t h45 hr
          have h46 : v41 = 0 := by simpa using h45
          rw [h46]
          refine at_index_arrG ttOK rfl rfl rfl (by decide) (by decide) rfl ?_
          obtain ⟨h47, hr⟩ := cond_need hr
          refine (itoa_spec (IntKind.i64.wrap (v39 + 1)) (of_decide_eq_true h47).1 (of_decide_eq_true h47).2).atR [] rfl rfl rfl ?_
          rintro _ _ ⟨rfl, rfl⟩
          refine ⟨fun _ _ h => h, ?_⟩
          obtain ⟨h48, hr⟩ := cond_need hr
          refine at_concat (of_decide_eq_true h48) ?_
          refine at_buildG (n := 1) ttOK 120 [.agg [.int .i64 2, .str ByteArray.empty, .str ((⟨#[88]⟩ : ByteArray) ++ (itoaF (IntKind.i64.wrap (v39 + 1)))), .int .i64 0, .agg [.int .i64 0, .str ByteArray.empty, .sl 3 []], .sl 8 []]] (ds' := (Pt.encL ([(Pt.mk 2 ByteArray.empty ((⟨#[88]⟩ : ByteArray) ++ (itoaF (IntKind.i64.wrap (v39 + 1)))) 0 (Rw.mk 0 ByteArray.empty ([])) ([]))]))) rfl (by kernel_rfl) ⟨⟨rfl, rfl, rfl, ⟨[(.v (.int .i64 2))], _, rfl, rfl, ⟨[(.v (.string ByteArray.empty))], _, rfl, rfl, ⟨[(.v (.string ((⟨#[88]⟩ : ByteArray) ++ (itoaF (IntKind.i64.wrap (v39 + 1))))))], _, rfl, rfl, ⟨[(.v (.int .i64 0))], _, rfl, rfl, ⟨[(.v (.int .i64 0)), (.v (.string ByteArray.empty)), (.v (.slice none 0 0))], _, rfl, ⟨[(.v (.int .i64 0))], _, rfl, rfl, ⟨[(.v (.string ByteArray.empty))], _, rfl, rfl, ⟨[(.v (.slice none 0 0))], _, rfl, (.inr ⟨rfl, rfl⟩), rfl⟩⟩⟩, ⟨[(.v (.slice none 0 0))], _, rfl, (.inr ⟨rfl, rfl⟩), rfl⟩⟩⟩⟩⟩⟩⟩, trivial⟩ rfl (by simp only [Pt.encL_eq, List.map_cons, List.map_nil, Pt.enc_eq] <;> rfl) (by decide) (by decide) ?_
          intro a49
          refine ⟨fun _ _ h => h, ?_⟩
          obtain ⟨h50, hr⟩ := cond_need hr
          refine at_appendG (ds' := (Pt.encL (v36.parts ++ [(Pt.mk 2 ByteArray.empty ((⟨#[88]⟩ : ByteArray) ++ (itoaF (IntKind.i64.wrap (v39 + 1)))) 0 (Rw.mk 0 ByteArray.empty ([])) ([]))]))) ttOK 120 0 6 rfl (by kernel_rfl) rfl rfl rfl rfl (by simp only [Pt.encL_eq, List.map_append]) h50 (by decide) ?_
          intro a51 c51
          exact ⟨(n, (It.mk v36.word v36.name v36.raw (v36.parts ++ [(Pt.mk 2 ByteArray.empty ((⟨#[88]⟩ : ByteArray) ++ (itoaF (IntKind.i64.wrap (v39 + 1)))) 0 (Rw.mk 0 ByteArray.empty ([])) ([]))])), a37, c37, a51, c51, (IntKind.i64.wrap (v39 + 1))), hr, Nat.lt_succ_self _, ⟨rfl, rfl, rfl, rfl, rfl, rfl, rfl, rfl, trivial⟩, (StLe.gen 6 [.old 0] [.old 0, .old 1, .old 2, .old 3, .old 4, .old 5] rfl rfl rfl rfl rfl rfl rfl)⟩
        replace hr := cond_f (by simpa using h45) hr
        by_cases h52 : (v41 == 1) = true
        · replace hr := cond_t h52 hr
          have h53 : v41 = 1 := by simpa using h52
          rw [h53]
          refine at_index_arrG ttOK rfl rfl rfl (by decide) (by decide) rfl ?_
          obtain ⟨h54, hr⟩ := cond_need hr
          refine (itoa_spec (IntKind.i64.wrap (v39 + 1)) (of_decide_eq_true h54).1 (of_decide_eq_true h54).2).atR [] rfl rfl rfl ?_
          rintro _ _ ⟨rfl, rfl⟩
          refine ⟨fun _ _ h => h, ?_⟩
          obtain ⟨h55, hr⟩ := cond_need hr
          refine at_concat (of_decide_eq_true h55) ?_
          refine at_buildG (n := 1) ttOK 120 [.agg [.int .i64 2, .str (⟨#[43]⟩), .str ((⟨#[88]⟩ : ByteArray) ++ (itoaF (IntKind.i64.wrap (v39 + 1)))), .int .i64 0, .agg [.int .i64 0, .str ByteArray.empty, .sl 3 []], .sl 8 []]] (ds' := (Pt.encL ([(Pt.mk 2 (⟨#[43]⟩) ((⟨#[88]⟩ : ByteArray) ++ (itoaF (IntKind.i64.wrap (v39 + 1)))) 0 (Rw.mk 0 ByteArray.empty ([])) ([]))]))) rfl (by kernel_rfl) ⟨⟨rfl, rfl, rfl, ⟨[(.v (.int .i64 2))], _, rfl, rfl, ⟨[(.v (.string (⟨#[43]⟩)))], _, rfl, rfl, ⟨[(.v (.string ((⟨#[88]⟩ : ByteArray) ++ (itoaF (IntKind.i64.wrap (v39 + 1))))))], _, rfl, rfl, ⟨[(.v (.int .i64 0))], _, rfl, rfl, ⟨[(.v (.int .i64 0)), (.v (.string ByteArray.empty)), (.v (.slice none 0 0))], _, rfl, ⟨[(.v (.int .i64 0))], _, rfl, rfl, ⟨[(.v (.string ByteArray.empty))], _, rfl, rfl, ⟨[(.v (.slice none 0 0))], _, rfl, (.inr ⟨rfl, rfl⟩), rfl⟩⟩⟩, ⟨[(.v (.slice none 0 0))], _, rfl, (.inr ⟨rfl, rfl⟩), rfl⟩⟩⟩⟩⟩⟩⟩, trivial⟩ rfl (by simp only [Pt.encL_eq, List.map_cons, List.map_nil, Pt.enc_eq] <;> rfl) (by decide) (by decide) ?_
          intro a56
          refine ⟨fun _ _ h => h, ?_⟩
          obtain ⟨h57, hr⟩ := cond_need hr
          refine at_appendG (ds' := (Pt.encL (v36.parts ++ [(Pt.mk 2 (⟨#[43]⟩) ((⟨#[88]⟩ : ByteArray) ++ (itoaF (IntKind.i64.wrap (v39 + 1)))) 0 (Rw.mk 0 ByteArray.empty ([])) ([]))]))) ttOK 120 0 6 rfl (by kernel_rfl) rfl rfl rfl rfl (by simp only [Pt.encL_eq, List.map_append]) h57 (by decide) ?_
          intro a58 c58
          exact ⟨(n, (It.mk v36.word v36.name v36.raw (v36.parts ++ [(Pt.mk 2 (⟨#[43]⟩) ((⟨#[88]⟩ : ByteArray) ++ (itoaF (IntKind.i64.wrap (v39 + 1)))) 0 (Rw.mk 0 ByteArray.empty ([])) ([]))])), a37, c37, a58, c58, (IntKind.i64.wrap (v39 + 1))), hr, Nat.lt_succ_self _, ⟨rfl, rfl, rfl, rfl, rfl, rfl, rfl, rfl, trivial⟩, (StLe.gen 6 [.old 0] [.old 0, .old 1, .old 2, .old 3, .old 4, .old 5] rfl rfl rfl rfl rfl rfl rfl)⟩
        replace hr := cond_f (by simpa using h52) hr
        by_cases h59 : (v41 == 2) = true
        · replace hr := cond_t h59 hr
          have h60 : v41 = 2 := by simpa using h59
          rw [h60]
          refine at_index_arrG ttOK rfl rfl rfl (by decide) (by decide) rfl ?_
          obtain ⟨h61, hr⟩ := cond_need hr
          refine (itoa_spec (IntKind.i64.wrap (v39 + 1)) (of_decide_eq_true h61).1 (of_decide_eq_true h61).2).atR [] rfl rfl rfl ?_
          rintro _ _ ⟨rfl, rfl⟩
          refine ⟨fun _ _ h => h, ?_⟩
          obtain ⟨h62, hr⟩ := cond_need hr
          refine at_concat (of_decide_eq_true h62) ?_
          refine at_buildG (n := 1) ttOK 120 [.agg [.int .i64 2, .str (⟨#[45]⟩), .str ((⟨#[88]⟩ : ByteArray) ++ (itoaF (IntKind.i64.wrap (v39 + 1)))), .int .i64 0, .agg [.int .i64 0, .str ByteArray.empty, .sl 3 []], .sl 8 []]] (ds' := (Pt.encL ([(Pt.mk 2 (⟨#[45]⟩) ((⟨#[88]⟩ : ByteArray) ++ (itoaF (IntKind.i64.wrap (v39 + 1)))) 0 (Rw.mk 0 ByteArray.empty ([])) ([]))]))) rfl (by kernel_rfl) ⟨⟨rfl, rfl, rfl, ⟨[(.v (.int .i64 2))], _, rfl, rfl, ⟨[(.v (.string (⟨#[45]⟩)))], _, rfl, rfl, ⟨[(.v (.string ((⟨#[88]⟩ : ByteArray) ++ (itoaF (IntKind.i64.wrap (v39 + 1))))))], _, rfl, rfl, ⟨[(.v (.int .i64 0))], _, rfl, rfl, ⟨[(.v (.int .i64 0)), (.v (.string ByteArray.empty)), (.v (.slice none 0 0))], _, rfl, ⟨[(.v (.int .i64 0))], _, rfl, rfl, ⟨[(.v (.string ByteArray.empty))], _, rfl, rfl, ⟨[(.v (.slice none 0 0))], _, rfl, (.inr ⟨rfl, rfl⟩), rfl⟩⟩⟩, ⟨[(.v (.slice none 0 0))], _, rfl, (.inr ⟨rfl, rfl⟩), rfl⟩⟩⟩⟩⟩⟩⟩, trivial⟩ rfl (by simp only [Pt.encL_eq, List.map_cons, List.map_nil, Pt.enc_eq] <;> rfl) (by decide) (by decide) ?_
          intro a63
          refine ⟨fun _ _ h => h, ?_⟩
          obtain ⟨h64, hr⟩ := cond_need hr
          refine at_appendG (ds' := (Pt.encL (v36.parts ++ [(Pt.mk 2 (⟨#[45]⟩) ((⟨#[88]⟩ : ByteArray) ++ (itoaF (IntKind.i64.wrap (v39 + 1)))) 0 (Rw.mk 0 ByteArray.empty ([])) ([]))]))) ttOK 120 0 6 rfl (by kernel_rfl) rfl rfl rfl rfl (by simp only [Pt.encL_eq, List.map_append]) h64 (by decide) ?_
          intro a65 c65
          exact ⟨(n, (It.mk v36.word v36.name v36.raw (v36.parts ++ [(Pt.mk 2 (⟨#[45]⟩) ((⟨#[88]⟩ : ByteArray) ++ (itoaF (IntKind.i64.wrap (v39 + 1)))) 0 (Rw.mk 0 ByteArray.empty ([])) ([]))])), a37, c37, a65, c65, (IntKind.i64.wrap (v39 + 1))), hr, Nat.lt_succ_self _, ⟨rfl, rfl, rfl, rfl, rfl, rfl, rfl, rfl, trivial⟩, (StLe.gen 6 [.old 0] [.old 0, .old 1, .old 2, .old 3, .old 4, .old 5] rfl rfl rfl rfl rfl rfl rfl)⟩
        replace hr := cond_f (by simpa using h59) hr
        by_cases h66 : (v41 == 3) = true
        · replace hr := cond_t h66 hr
          have h67 : v41 = 3 := by simpa using h66
          rw [h67]
          refine at_index_arrG ttOK rfl rfl rfl (by decide) (by decide) rfl ?_
          obtain ⟨h68, hr⟩ := cond_need hr
          refine (itoa_spec (IntKind.i64.wrap (v39 + 1)) (of_decide_eq_true h68).1 (of_decide_eq_true h68).2).atR [] rfl rfl rfl ?_
          rintro _ _ ⟨rfl, rfl⟩
          refine ⟨fun _ _ h => h, ?_⟩
          obtain ⟨h69, hr⟩ := cond_need hr
          refine at_concat (of_decide_eq_true h69) ?_
          refine at_buildG (n := 1) ttOK 120 [.agg [.int .i64 2, .str (⟨#[42]⟩), .str ((⟨#[88]⟩ : ByteArray) ++ (itoaF (IntKind.i64.wrap (v39 + 1)))), .int .i64 0, .agg [.int .i64 0, .str ByteArray.empty, .sl 3 []], .sl 8 []]] (ds' := (Pt.encL ([(Pt.mk 2 (⟨#[42]⟩) ((⟨#[88]⟩ : ByteArray) ++ (itoaF (IntKind.i64.wrap (v39 + 1)))) 0 (Rw.mk 0 ByteArray.empty ([])) ([]))]))) rfl (by kernel_rfl) ⟨⟨rfl, rfl, rfl, ⟨[(.v (.int .i64 2))], _, rfl, rfl, ⟨[(.v (.string (⟨#[42]⟩)))], _, rfl, rfl, ⟨[(.v (.string ((⟨#[88]⟩ : ByteArray) ++ (itoaF (IntKind.i64.wrap (v39 + 1))))))], _, rfl, rfl, ⟨[(.v (.int .i64 0))], _, rfl, rfl, ⟨[(.v (.int .i64 0)), (.v (.string ByteArray.empty)), (.v (.slice none 0 0))], _, rfl, ⟨[(.v (.int .i64 0))], _, rfl, rfl, ⟨[(.v (.string ByteArray.empty))], _, rfl, rfl, ⟨[(.v (.slice none 0 0))], _, rfl, (.inr ⟨rfl, rfl⟩), rfl⟩⟩⟩, ⟨[(.v (.slice none 0 0))], _, rfl, (.inr ⟨rfl, rfl⟩), rfl⟩⟩⟩⟩⟩⟩⟩, trivial⟩ rfl (by simp only [Pt.encL_eq, List.map_cons, List.map_nil, Pt.enc_eq] <;> rfl) (by decide) (by decide) ?_
          intro a70
          refine ⟨fun _ _ h => h, ?_⟩
          obtain ⟨h71, hr⟩ := cond_need hr
          refine at_appendG (ds' := (Pt.encL (v36.parts ++ [(Pt.mk 2 (⟨#[42]⟩) ((⟨#[88]⟩ : ByteArray) ++ (itoaF (IntKind.i64.wrap (v39 + 1)))) 0 (Rw.mk 0 ByteArray.empty ([])) ([]))]))) ttOK 120 0 6 rfl (by kernel_rfl) rfl rfl rfl rfl (by simp only [Pt.encL_eq, List.map_append]) h71 (by decide) ?_
          intro a72 c72
          exact ⟨(n, (It.mk v36.word v36.name v36.raw (v36.parts ++ [(Pt.mk 2 (⟨#[42]⟩) ((⟨#[88]⟩ : ByteArray) ++ (itoaF (IntKind.i64.wrap (v39 + 1)))) 0 (Rw.mk 0 ByteArray.empty ([])) ([]))])), a37, c37, a72, c72, (IntKind.i64.wrap (v39 + 1))), hr, Nat.lt_succ_self _, ⟨rfl, rfl, rfl, rfl, rfl, rfl, rfl, rfl, trivial⟩, (StLe.gen 6 [.old 0] [.old 0, .old 1, .old 2, .old 3, .old 4, .old 5] rfl rfl rfl rfl rfl rfl rfl)⟩
        replace hr := cond_f (by simpa using h66) hr
        exact no_some hr
      · replace hr := cond_f h40 hr
        obtain ⟨v73, h74, hr⟩ := bind_some hr
        refine Meets.le (S' := ⟨[.cells 25 [(.v (.int .i64 v3.family)), (.v (.slice a4 ((List.map (D.int .i64) v3.signs).length) c4))], .cells 33 [(.v (.string ByteArray.empty)), (.v (.string ByteArray.empty)), (.v (.int .i64 0)), (.v (.string ByteArray.empty)), (.v (.slice none 0 0)), (.v (.slice none 0 0))], .imm [(.v (.string v11.name)), (.v (.int .i64 v11.cls.op)), (.v (.int .i64 v11.cls.hd)), (.v (.int .i64 v11.cls.n)), (.v (.slice a15 ((Tm.encL v11.cls.args).length) c15)), (.v (.int .i64 v11.implicit))], .cells 33 [(.v (.string v36.word)), (.v (.string v36.name)), (.v (.int .i64 v36.raw.op)), (.v (.string v36.raw.name)), (.v (.slice a37 ((Rw.encL v36.raw.args).length) c37)), (.v (.slice a38 ((Pt.encL v36.parts).length) c38))], .cells 63 [(.v (.string ByteArray.empty)), (.v (.string (⟨#[43]⟩))), (.v (.string (⟨#[45]⟩))), (.v (.string (⟨#[42]⟩)))], .imm [(.v (.string v17.name)), (.v (.int .i64 v17.cls.op)), (.v (.int .i64 v17.cls.hd)), (.v (.int .i64 v17.cls.n)), (.v (.slice a21 ((Tm.encL v17.cls.args).length) c21)), (.v (.int .i64 v17.implicit))]], [], [(.slice a38 ((Pt.encL v36.parts).length) c38, .sl 8 (Pt.encL v36.parts)), (.slice a37 ((Rw.encL v36.raw.args).length) c37, .sl 3 (Rw.encL v36.raw.args)), (.slice a2 ((Dc.encL v1).length) c2, .sl 6 (Dc.encL v1)), (.slice a4 ((List.map (D.int .i64) v3.signs).length) c4, .sl 1 (List.map (D.int .i64) v3.signs)), (.slice a15 ((Tm.encL v11.cls.args).length) c15, .sl 4 (Tm.encL v11.cls.args)), (.slice a21 ((Tm.encL v17.cls.args).length) c21, .sl 4 (Tm.encL v17.cls.args)), (.slice a23 ((List.map (D.int .i64) (v3.signs.drop v17.implicit.toNat)).length) c23, .sl 1 (List.map (D.int .i64) (v3.signs.drop v17.implicit.toNat)))]⟩) (StLe.gen 6 [] [.froz 0, .old 0, .old 1, .old 2, .old 3, .old 4, .old 5] rfl rfl rfl rfl rfl rfl rfl) rfl ?_
        refine (mode_Read_spec n v1 v36 a2 c2 a37 c37 a38 c38 _ h74).atR [2, 1, 0] rfl rfl rfl ?_
        rintro _ _ ⟨a75, c75, rfl, rfl⟩
        refine AtGuard.mk (fun h76 => ?_) (fun h76 => ?_)
        · replace hr := cond_f h76 hr
          obtain ⟨v77, h78, hr⟩ := bind_some hr
          refine (slices_Equal_spec n v73.1.signs v3.signs a75 c75 a4 c4 _ h78).atR [7, 3] rfl rfl rfl ?_
          rintro _ _ ⟨rfl, rfl⟩
          refine AtIf.mk (fun h79 => ?_) (fun h79 => ?_)
          · replace hr := cond_t h79 hr
            replace hr := Option.some.inj hr
            subst hr
            exact AtRet.pureG [.nil 3, .nil 8] [(.slice none 0 0, .sl 3 []), (.slice none 0 0, .sl 8 [])] rfl rfl ⟨none, 0, none, 0, rfl, rfl⟩
          · replace hr := cond_f h79 hr
            replace hr := Option.some.inj hr
            subst hr
            exact AtRet.pureG [.old 1, .old 0] [(.slice a37 ((Rw.encL v36.raw.args).length) c37, .sl 3 (Rw.encL v36.raw.args)), (.slice a38 ((Pt.encL v36.parts).length) c38, .sl 8 (Pt.encL v36.parts))] rfl rfl ⟨a37, c37, a38, c38, rfl, rfl⟩
        · replace hr := cond_t h76 hr
          refine AtIf.mk (fun _ => ?_) (fun h => tf h)
          replace hr := Option.some.inj hr
          subst hr
          exact AtRet.pureG [.nil 3, .nil 8] [(.slice none 0 0, .sl 3 []), (.slice none 0 0, .sl 8 [])] rfl rfl ⟨none, 0, none, 0, rfl, rfl⟩
  · replace hr := cond_t h7 hr
    refine AtIf.mk (fun _ => ?_) (fun h => tf h)
    replace hr := Option.some.inj hr
    subst hr
    exact AtRet.pureG [.nil 3, .nil 8] [(.slice none 0 0, .sl 3 []), (.slice none 0 0, .sl 8 [])] rfl rfl ⟨none, 0, none, 0, rfl, rfl⟩
def R03_below : Nat → Tm → Int → Option (Int)
  | 0, _, _ => none
  | n + 1, v1, v3 =>
    cond ((v1.op == 3) || ((v1.op == 2) && (v3 == 1))) (
    some (1)) (
    some (0))
theorem R03_below_spec (n : Nat) (v1 : Tm) (v3 : Int) (a2 : Option Addr) (c2 : Nat) (r : Int) (hr : R03_below n v1 v3 = some r) : Pure Tryz.prog (.val (.fn (.func 115) [] [])) [(.agg [(.v (.int .i64 v1.op)), (.v (.int .i64 v1.hd)), (.v (.int .i64 v1.n)), (.v (.slice a2 ((Tm.encL v1.args).length) c2))]), (.v (.int .i64 v3))] [(.slice a2 ((Tm.encL v1.args).length) c2, .sl 4 (Tm.encL v1.args))] (fun r' out => r' = (.v (.int .i64 r)) ∧ out = []) := by
  rcases n with _ | n
  · exact no_some hr
  rw [R03_below.eq_2] at hr
  refine spec_of_body (N := 17) (m := 0) (dt := fun _ => none) [] ttOK Tryz.func115 rfl Tryz.call115 Tryz.ntmps115 rfl rfl rfl mixed (by kernel_rfl) ?_
  refine AtIf.mk (fun h4 => ?_) (fun h4 => ?_)
  · replace hr := cond_t h4 hr
    replace hr := Option.some.inj hr
    subst hr
    exact AtRet.pureG [] [] rfl rfl ⟨rfl, rfl⟩
  · replace hr := cond_f h4 hr
    replace hr := Option.some.inj hr
    subst hr
    exact AtRet.pureG [] [] rfl rfl ⟨rfl, rfl⟩
mutual
def R03_low : Nat → Tm → Int → Int → Option (Bool)
  | 0, _, _, _ => none
  | n + 1, v1, v3, v4 =>
    cond ((((v1.op == 4) && (v1.hd == 1)) && (decide (v1.n ≥ v3))) && (decide (v1.n ≤ v4))) (
    some (true)) (
    R03_low_L1 n v1 v3 v4 0)
def R03_low_L1 : Nat → Tm → Int → Int → Int → Option (Bool)
  | 0, _, _, _, _ => none
  | n + 1, v1, v3, v4, v17 =>
    cond (decide (v17 < ((Tm.encL v1.args).length : Int))) (
    (R03_below n v1 v17).bind (fun v19 =>
    (idx v1.args v17).bind (fun v21 =>
    (R03_low n v21 (IntKind.i64.wrap (v3 + v19)) (IntKind.i64.wrap (v4 + v19))).bind (fun v26 =>
    cond v26 (
    some (true)) (
    R03_low_L1 n v1 v3 v4 (IntKind.i64.wrap (v17 + 1))))))) (
    some (false))
 end
theorem R03_low_specN : ∀ (N : Nat), (∀ (n : Nat), n ≤ N → ∀ (v1 : Tm) (v3 : Int) (v4 : Int) (a2 : Option Addr) (c2 : Nat) (r : Bool), R03_low n v1 v3 v4 = some r → Pure Tryz.prog (.val (.fn (.func 87) [] [])) [(.agg [(.v (.int .i64 v1.op)), (.v (.int .i64 v1.hd)), (.v (.int .i64 v1.n)), (.v (.slice a2 ((Tm.encL v1.args).length) c2))]), (.v (.int .i64 v3)), (.v (.int .i64 v4))] [(.slice a2 ((Tm.encL v1.args).length) c2, .sl 4 (Tm.encL v1.args))] (fun r' out => r' = (.v (.bool r)) ∧ out = [])) := by
  intro N
  induction N with
  | zero =>
    intro n hn v1 v3 v4 a2 c2 r hr; obtain rfl : n = 0 := (by omega); exact no_some hr
  | succ N ih =>
    intro n hn v1 v3 v4 a2 c2 r hr
    rcases n with _ | n
    · exact no_some hr
    replace hn : n ≤ N := by omega
    rw [R03_low.eq_2] at hr
    refine spec_of_body (N := 51) (m := 0) (dt := fun _ => none) [] ttOK Tryz.func87 rfl Tryz.call87 Tryz.ntmps87 rfl rfl rfl mixed (by kernel_rfl) ?_
    refine AtIf.mk (fun h5 => ?_) (fun h5 => ?_)
    · replace hr := cond_t h5 hr
      replace hr := Option.some.inj hr
      subst hr
      exact AtRet.pureG [] [] rfl rfl ⟨rfl, rfl⟩
    · replace hr := cond_f h5 hr
      refine AtLoop.mk ⟨Nat × Int, fun x => [(1, (.v (.int .i64 v3))), (2, (.v (.int .i64 v4))), (3, (.loc 0 0)), (7, (.v (.int .i64 x.2)))], fun x => ⟨[.cells 55 [(.v (.int .i64 v1.op)), (.v (.int .i64 v1.hd)), (.v (.int .i64 v1.n)), (.v (.slice a2 ((Tm.encL v1.args).length) c2))]], [], [(.slice a2 ((Tm.encL v1.args).length) c2, .sl 4 (Tm.encL v1.args))]⟩, fun x => x.1 ≤ N ∧ R03_low_L1 x.1 v1 v3 v4 x.2 = some r, fun x => x.1, (n, 0), ⟨by omega, hr⟩, ⟨rfl, rfl, rfl, rfl, trivial⟩, (StLe.gen 1 [] [.old 0] rfl rfl rfl rfl rfl rfl rfl), fun x _ => ⟨rfl, rfl⟩, ?_⟩
      rintro ⟨n, v17⟩ HH
      obtain ⟨hn, hr⟩ : n ≤ N ∧ R03_low_L1 n v1 v3 v4 v17 = some r := HH
      rcases n with _ | n
      · exact no_some hr
      rw [R03_low_L1.eq_2] at hr
      refine AtIf.mk (fun h18 => ?_) (fun h18 => ?_)
      · replace hr := cond_t h18 hr
        obtain ⟨v19, h20, hr⟩ := bind_some hr
        refine (R03_below_spec n v1 v17 a2 c2 _ h20).atR [0] rfl rfl rfl ?_
        rintro _ _ ⟨rfl, rfl⟩
        obtain ⟨v21, h22, hr⟩ := bind_some hr
        obtain ⟨h23, h24⟩ := idx_some h22
        refine at_index ttOK 0 rfl rfl rfl rfl h23 (Tm.encL_get h24) ?_
        intro a25 c25 _ _
        obtain ⟨v26, h27, hr⟩ := bind_some hr
        refine (ih n (by omega) v21 (IntKind.i64.wrap (v3 + v19)) (IntKind.i64.wrap (v4 + v19)) a25 c25 _ h27).atR [1] rfl rfl rfl ?_
        rintro _ _ ⟨rfl, rfl⟩
        refine AtIf.mk (fun h28 => ?_) (fun h28 => ?_)
        · replace hr := cond_t h28 hr
          replace hr := Option.some.inj hr
          subst hr
          exact AtRet.pureG [] [] rfl rfl ⟨rfl, rfl⟩
        · replace hr := cond_f h28 hr
          exact ⟨(n, (IntKind.i64.wrap (v17 + 1))), ⟨by omega, hr⟩, Nat.lt_succ_self _, ⟨rfl, rfl, rfl, rfl, trivial⟩, (StLe.gen 1 [] [.old 0] rfl rfl rfl rfl rfl rfl rfl)⟩
      · replace hr := cond_f h18 hr
        replace hr := Option.some.inj hr
        subst hr
        exact AtRet.pureG [] [] rfl rfl ⟨rfl, rfl⟩
theorem R03_low_spec (n : Nat) (v1 : Tm) (v3 : Int) (v4 : Int) (a2 : Option Addr) (c2 : Nat) (r : Bool) (hr : R03_low n v1 v3 v4 = some r) : Pure Tryz.prog (.val (.fn (.func 87) [] [])) [(.agg [(.v (.int .i64 v1.op)), (.v (.int .i64 v1.hd)), (.v (.int .i64 v1.n)), (.v (.slice a2 ((Tm.encL v1.args).length) c2))]), (.v (.int .i64 v3)), (.v (.int .i64 v4))] [(.slice a2 ((Tm.encL v1.args).length) c2, .sl 4 (Tm.encL v1.args))] (fun r' out => r' = (.v (.bool r)) ∧ out = []) := (R03_low_specN n) n (Nat.le_refl _) v1 v3 v4 a2 c2 r hr
def R03_Occurs : Nat → Tm → Int → Option (Bool)
  | 0, _, _ => none
  | n + 1, v1, v3 =>
    cond (decide (v3 ≥ 0)) (
    (R03_low n v1 v3 v3).bind (fun v5 =>
    some (v5))) (
    some (false))
theorem R03_Occurs_spec (n : Nat) (v1 : Tm) (v3 : Int) (a2 : Option Addr) (c2 : Nat) (r : Bool) (hr : R03_Occurs n v1 v3 = some r) : Pure Tryz.prog (.val (.fn (.func 63) [] [])) [(.agg [(.v (.int .i64 v1.op)), (.v (.int .i64 v1.hd)), (.v (.int .i64 v1.n)), (.v (.slice a2 ((Tm.encL v1.args).length) c2))]), (.v (.int .i64 v3))] [(.slice a2 ((Tm.encL v1.args).length) c2, .sl 4 (Tm.encL v1.args))] (fun r' out => r' = (.v (.bool r)) ∧ out = []) := by
  rcases n with _ | n
  · exact no_some hr
  rw [R03_Occurs.eq_2] at hr
  refine spec_of_body (N := 13) (m := 0) (dt := fun _ => none) [] ttOK Tryz.func63 rfl Tryz.call63 Tryz.ntmps63 rfl rfl rfl mixed (by kernel_rfl) ?_
  refine AtGuard.mk (fun h4 => ?_) (fun h4 => ?_)
  · replace hr := cond_t h4 hr
    obtain ⟨v5, h6, hr⟩ := bind_some hr
    refine (R03_low_spec n v1 v3 v3 a2 c2 _ h6).atR [0] rfl rfl rfl ?_
    rintro _ _ ⟨rfl, rfl⟩
    replace hr := Option.some.inj hr
    subst hr
    exact AtRet.pureG [] [] rfl rfl ⟨rfl, rfl⟩
  · replace hr := cond_f h4 hr
    replace hr := Option.some.inj hr
    subst hr
    exact AtRet.pureG [] [] rfl rfl ⟨rfl, rfl⟩
mutual
def R14_Implicit : Nat → Dc → Int → (List Int) → Option (Int)
  | 0, _, _, _ => none
  | n + 1, v1, v3, v4 =>
    (R03_Split n v1.cls).bind (fun v6 =>
    R14_Implicit_L1 n v6 v3 v4 v1 3 v1.implicit)
def R14_Implicit_L1 : Nat → ((List Tm) × Tm) → Int → (List Int) → Dc → Int → Int → Option (Int)
  | 0, _, _, _, _, _, _ => none
  | n + 1, v6, v3, v4, v1, v36, v37 =>
    cond (decide (v37 < ((Tm.encL v6.1).length : Int))) (
    cond (decide (v37 ≤ v3)) (
    R14_Implicit_L1 n v6 v3 v4 v1 v36 (IntKind.i64.wrap (v37 + 1))) (
    (idx v6.1 v37).bind (fun v40 =>
    (R03_Occurs n v40 (IntKind.i64.wrap ((IntKind.i64.wrap (v37 - 1)) - v3))).bind (fun v45 =>
    cond (!v45) (
    R14_Implicit_L1 n v6 v3 v4 v1 v36 (IntKind.i64.wrap (v37 + 1))) (
    (idx v4 (IntKind.i64.wrap (v37 - v1.implicit))).bind (fun v48 =>
    cond ((v48 == 1) || ((v48 == 2) && (v36 == 3))) (
    R14_Implicit_L1 n v6 v3 v4 v1 v48 (IntKind.i64.wrap (v37 + 1))) (
    R14_Implicit_L1 n v6 v3 v4 v1 v36 (IntKind.i64.wrap (v37 + 1))))))))) (
    some (v36))
 end
theorem R14_Implicit_spec (n : Nat) (v1 : Dc) (v3 : Int) (v4 : (List Int)) (a2 : Option Addr) (c2 : Nat) (a5 : Option Addr) (c5 : Nat) (r : Int) (hr : R14_Implicit n v1 v3 v4 = some r) : Pure Tryz.prog (.val (.fn (.func 37) [] [])) [(.agg [(.v (.string v1.name)), (.v (.int .i64 v1.cls.op)), (.v (.int .i64 v1.cls.hd)), (.v (.int .i64 v1.cls.n)), (.v (.slice a2 ((Tm.encL v1.cls.args).length) c2)), (.v (.int .i64 v1.implicit))]), (.v (.int .i64 v3)), (.v (.slice a5 ((List.map (D.int .i64) v4).length) c5))] [(.slice a2 ((Tm.encL v1.cls.args).length) c2, .sl 4 (Tm.encL v1.cls.args)), (.slice a5 ((List.map (D.int .i64) v4).length) c5, .sl 1 (List.map (D.int .i64) v4))] (fun r' out => r' = (.v (.int .i64 r)) ∧ out = []) := by
  rcases n with _ | n
  · exact no_some hr
  rw [R14_Implicit.eq_2] at hr
  refine spec_of_body (N := 60) (m := 0) (dt := fun _ => none) [] ttOK Tryz.func37 rfl Tryz.call37 Tryz.ntmps37 rfl rfl rfl mixed (by kernel_rfl) ?_
  obtain ⟨v6, h7, hr⟩ := bind_some hr
  refine (R03_Split_spec n v1.cls a2 c2 _ h7).atR [0] rfl rfl rfl ?_
  rintro _ _ ⟨a8, c8, a9, c9, rfl, rfl⟩
  refine AtLoop.mk ⟨Nat × Int × Int, fun x => [(1, (.v (.int .i64 v3))), (2, (.v (.slice a5 ((List.map (D.int .i64) v4).length) c5))), (3, (.loc 0 0)), (7, (.v (.slice a8 ((Tm.encL v6.1).length) c8))), (9, (.v (.int .i64 x.2.1))), (10, (.v (.int .i64 x.2.2)))], fun x => ⟨[.cells 57 [(.v (.string v1.name)), (.v (.int .i64 v1.cls.op)), (.v (.int .i64 v1.cls.hd)), (.v (.int .i64 v1.cls.n)), (.v (.slice a2 ((Tm.encL v1.cls.args).length) c2)), (.v (.int .i64 v1.implicit))], .cells 55 [(.v (.int .i64 v6.2.op)), (.v (.int .i64 v6.2.hd)), (.v (.int .i64 v6.2.n)), (.v (.slice a9 ((Tm.encL v6.2.args).length) c9))]], [], [(.slice a2 ((Tm.encL v1.cls.args).length) c2, .sl 4 (Tm.encL v1.cls.args)), (.slice a5 ((List.map (D.int .i64) v4).length) c5, .sl 1 (List.map (D.int .i64) v4)), (.slice a8 ((Tm.encL v6.1).length) c8, .sl 4 (Tm.encL v6.1)), (.slice a9 ((Tm.encL v6.2.args).length) c9, .sl 4 (Tm.encL v6.2.args))]⟩, fun x => R14_Implicit_L1 x.1 v6 v3 v4 v1 x.2.1 x.2.2 = some r, fun x => x.1, (n, 3, v1.implicit), hr, ⟨rfl, rfl, rfl, rfl, rfl, rfl, trivial⟩, (StLe.gen 2 [] [.old 0, .old 1, .old 2, .old 3] rfl rfl rfl rfl rfl rfl rfl), fun x _ => ⟨rfl, rfl⟩, ?_⟩
  rintro ⟨n, v36, v37⟩ HH
  have hr : R14_Implicit_L1 n v6 v3 v4 v1 v36 v37 = some r := HH
  rcases n with _ | n
  · exact no_some hr
  rw [R14_Implicit_L1.eq_2] at hr
  refine AtIf.mk (fun h38 => ?_) (fun h38 => ?_)
  · replace hr := cond_t h38 hr
    refine AtGuard.mk (fun h39 => ?_) (fun h39 => ?_)
    · replace hr := cond_f h39 hr
      obtain ⟨v40, h41, hr⟩ := bind_some hr
      obtain ⟨h42, h43⟩ := idx_some h41
      refine at_index ttOK 2 rfl rfl rfl rfl h42 (Tm.encL_get h43) ?_
      intro a44 c44 _ _
      obtain ⟨v45, h46, hr⟩ := bind_some hr
      refine (R03_Occurs_spec n v40 (IntKind.i64.wrap ((IntKind.i64.wrap (v37 - 1)) - v3)) a44 c44 _ h46).atR [4] rfl rfl rfl ?_
      rintro _ _ ⟨rfl, rfl⟩
      refine AtIf.mk (fun h47 => ?_) (fun h47 => ?_)
      · replace hr := cond_t h47 hr
        exact ⟨(n, v36, (IntKind.i64.wrap (v37 + 1))), hr, Nat.lt_succ_self _, ⟨rfl, rfl, rfl, rfl, rfl, rfl, trivial⟩, (StLe.gen 2 [] [.old 0, .old 1, .old 2, .old 3] rfl rfl rfl rfl rfl rfl rfl)⟩
      · replace hr := cond_f h47 hr
        obtain ⟨v48, h49, hr⟩ := bind_some hr
        obtain ⟨h50, h51⟩ := idx_some h49
        refine at_index ttOK 1 rfl rfl rfl rfl h50 (map_get (D.int .i64) h51) ?_
        refine AtIf.mk (fun h52 => ?_) (fun h52 => ?_)
        · replace hr := cond_t h52 hr
          exact ⟨(n, v48, (IntKind.i64.wrap (v37 + 1))), hr, Nat.lt_succ_self _, ⟨rfl, rfl, rfl, rfl, rfl, rfl, trivial⟩, (StLe.gen 2 [] [.old 0, .old 1, .old 2, .old 3] rfl rfl rfl rfl rfl rfl rfl)⟩
        · replace hr := cond_f h52 hr
          exact ⟨(n, v36, (IntKind.i64.wrap (v37 + 1))), hr, Nat.lt_succ_self _, ⟨rfl, rfl, rfl, rfl, rfl, rfl, trivial⟩, (StLe.gen 2 [] [.old 0, .old 1, .old 2, .old 3] rfl rfl rfl rfl rfl rfl rfl)⟩
    · replace hr := cond_t h39 hr
      refine AtIf.mk (fun _ => ?_) (fun h => tf h)
      exact ⟨(n, v36, (IntKind.i64.wrap (v37 + 1))), hr, Nat.lt_succ_self _, ⟨rfl, rfl, rfl, rfl, rfl, rfl, trivial⟩, (StLe.gen 2 [] [.old 0, .old 1, .old 2, .old 3] rfl rfl rfl rfl rfl rfl rfl)⟩
  · replace hr := cond_f h38 hr
    replace hr := Option.some.inj hr
    subst hr
    exact AtRet.pureG [] [] rfl rfl ⟨rfl, rfl⟩
def R14_digits : Nat → Int → Option (ByteArray)
  | 0, _ => none
  | n + 1, v1 =>
    cond (decide (v1 < 10)) (
    cond (decide ((0 : Int) ≤ v1 ∧ v1 ≤ (IntKind.i64.wrap (v1 + 1)) ∧ (IntKind.i64.wrap (v1 + 1)) ≤ ((⟨#[48, 49, 50, 51, 52, 53, 54, 55, 56, 57]⟩ : ByteArray).size : Int))) (
    some (((⟨#[48, 49, 50, 51, 52, 53, 54, 55, 56, 57]⟩ : ByteArray).extract v1.toNat (IntKind.i64.wrap (v1 + 1)).toNat))) none) (
    (R14_digits n (IntKind.i64.wrap (Int.tdiv v1 10))).bind (fun v4 =>
    (R14_digits n (Int.tmod v1 10)).bind (fun v6 =>
    cond (decide (v4.size + v6.size ≤ 1000000)) (
    some ((v4 ++ v6))) none)))
theorem R14_digits_specN : ∀ (N : Nat), (∀ (n : Nat), n ≤ N → ∀ (v1 : Int)  (r : ByteArray), R14_digits n v1 = some r → Pure Tryz.prog (.val (.fn (.func 38) [] [])) [(.v (.int .i64 v1))] [] (fun r' out => r' = (.v (.string r)) ∧ out = [])) := by
  intro N
  induction N with
  | zero =>
    intro n hn v1 r hr; obtain rfl : n = 0 := (by omega); exact no_some hr
  | succ N ih =>
    intro n hn v1 r hr
    rcases n with _ | n
    · exact no_some hr
    replace hn : n ≤ N := by omega
    rw [R14_digits.eq_2] at hr
    refine spec_of_body (N := 16) (m := 0) (dt := fun _ => none) [] ttOK Tryz.func38 rfl Tryz.call38 Tryz.ntmps38 rfl rfl rfl mixed (by kernel_rfl) ?_
    refine AtIf.mk (fun h2 => ?_) (fun h2 => ?_)
    · replace hr := cond_t h2 hr
      obtain ⟨h3, hr⟩ := cond_need hr
      refine at_slice_str ttOK v1 (IntKind.i64.wrap (v1 + 1)) rfl rfl (.inl ⟨_, rfl⟩) (.inl ⟨_, rfl⟩) h3 ?_
      replace hr := Option.some.inj hr
      subst hr
      exact AtRet.pureG [] [] rfl rfl ⟨rfl, rfl⟩
    · replace hr := cond_f h2 hr
      refine AtPure.val (.v (.int .i64 (IntKind.i64.wrap (Int.tdiv v1 10)))) rfl (fun ℓ w => rfl) ?_
      obtain ⟨v4, h5, hr⟩ := bind_some hr
      refine (ih n (by omega) (IntKind.i64.wrap (Int.tdiv v1 10)) _ h5).atR [] rfl rfl rfl ?_
      rintro _ _ ⟨rfl, rfl⟩
      refine AtPure.val (.v (.int .i64 (Int.tmod v1 10))) rfl (fun ℓ w => rfl) ?_
      obtain ⟨v6, h7, hr⟩ := bind_some hr
      refine (ih n (by omega) (Int.tmod v1 10) _ h7).atR [] rfl rfl rfl ?_
      rintro _ _ ⟨rfl, rfl⟩
      obtain ⟨h8, hr⟩ := cond_need hr
      refine at_concat (of_decide_eq_true h8) ?_
      replace hr := Option.some.inj hr
      subst hr
      exact AtRet.pureG [] [] rfl rfl ⟨rfl, rfl⟩
theorem R14_digits_spec (n : Nat) (v1 : Int)  (r : ByteArray) (hr : R14_digits n v1 = some r) : Pure Tryz.prog (.val (.fn (.func 38) [] [])) [(.v (.int .i64 v1))] [] (fun r' out => r' = (.v (.string r)) ∧ out = []) := (R14_digits_specN n) n (Nat.le_refl _) v1 r hr
mutual
def R14_Item : Nat → (List Dc) → Md → Option (It × Bool)
  | 0, _, _ => none
  | n + 1, v1, v3 =>
    (idx v1 v3.family).bind (fun v5 =>
    cond (decide ((0 : Int) ≤ v5.implicit ∧ v5.implicit ≤ ((List.map (D.int .i64) v3.signs).length : Int) ∧ ((List.map (D.int .i64) v3.signs).length : Int) ≤ ((List.map (D.int .i64) v3.signs).length : Int))) (
    R14_Item_L1 n v5 v3 0) none)
def R14_Item_L2 : Nat → Md → Dc → It → Int → Option (It × Bool)
  | 0, _, _, _, _ => none
  | n + 1, v3, v5, v46, v49 =>
    cond (decide (v49 < ((List.map (D.int .i64) (v3.signs.drop v5.implicit.toNat)).length : Int))) (
    (R14_digits n (IntKind.i64.wrap (v49 + 1))).bind (fun v52 =>
    cond (decide ((⟨#[88]⟩ : ByteArray).size + v52.size ≤ 1000000)) (
    (idx (v3.signs.drop v5.implicit.toNat) v49).bind (fun v55 =>
    (idx [(⟨#[]⟩ : ByteArray), (⟨#[43]⟩ : ByteArray), (⟨#[45]⟩ : ByteArray), (⟨#[42]⟩ : ByteArray)] v55).bind (fun v59 =>
    cond (decide ((Pt.encL (v46.parts ++ [(Pt.mk 2 v59 ((⟨#[88]⟩ : ByteArray) ++ v52) 0 (Rw.mk 0 ByteArray.empty ([])) ([]))])).length ≤ 1000000)) (
    R14_Item_L2 n v3 v5 (It.mk v46.word v46.name v46.raw (v46.parts ++ [(Pt.mk 2 v59 ((⟨#[88]⟩ : ByteArray) ++ v52) 0 (Rw.mk 0 ByteArray.empty ([])) ([]))])) (IntKind.i64.wrap (v49 + 1))) none))) none)) (
    some (v46, true))
def R14_Item_L1 : Nat → Dc → Md → Int → Option (It × Bool)
  | 0, _, _, _ => none
  | n + 1, v5, v3, v20 =>
    cond (decide (v20 < v5.implicit)) (
    (idx v3.signs v20).bind (fun v22 =>
    (R14_Implicit n v5 v20 (v3.signs.drop v5.implicit.toNat)).bind (fun v26 =>
    cond (v26 != v22) (
    some ((It.mk ByteArray.empty ByteArray.empty (Rw.mk 0 ByteArray.empty ([])) ([])), false)) (
    R14_Item_L1 n v5 v3 (IntKind.i64.wrap (v20 + 1)))))) (
    R14_Item_L2 n v3 v5 (It.mk (⟨#[109, 111, 100, 101]⟩) ByteArray.empty (Rw.mk 0 ByteArray.empty ([])) ([(Pt.mk 1 ByteArray.empty v5.name 0 (Rw.mk 0 ByteArray.empty ([])) ([]))])) 0)
 end
theorem R14_Item_spec (n : Nat) (v1 : (List Dc)) (v3 : Md) (a2 : Option Addr) (c2 : Nat) (a4 : Option Addr) (c4 : Nat) (r : It × Bool) (hr : R14_Item n v1 v3 = some r) : Pure Tryz.prog (.val (.fn (.func 12) [] [])) [(.v (.slice a2 ((Dc.encL v1).length) c2)), (.agg [(.v (.int .i64 v3.family)), (.v (.slice a4 ((List.map (D.int .i64) v3.signs).length) c4))])] [(.slice a2 ((Dc.encL v1).length) c2, .sl 6 (Dc.encL v1)), (.slice a4 ((List.map (D.int .i64) v3.signs).length) c4, .sl 1 (List.map (D.int .i64) v3.signs))] (fun r' out => ∃ (b1 : Option Addr) (d1 : Nat), ∃ (b2 : Option Addr) (d2 : Nat), r' = (.tup [(.agg [(.v (.string r.1.word)), (.v (.string r.1.name)), (.v (.int .i64 r.1.raw.op)), (.v (.string r.1.raw.name)), (.v (.slice b1 ((Rw.encL r.1.raw.args).length) d1)), (.v (.slice b2 ((Pt.encL r.1.parts).length) d2))]), (.v (.bool r.2))]) ∧ out = [(.slice b1 ((Rw.encL r.1.raw.args).length) d1, .sl 3 (Rw.encL r.1.raw.args)), (.slice b2 ((Pt.encL r.1.parts).length) d2, .sl 8 (Pt.encL r.1.parts))]) := by
  rcases n with _ | n
  · exact no_some hr
  rw [R14_Item.eq_2] at hr
  refine spec_of_body (N := 70) (m := 0) (dt := drawsOf [(6, .node [0, 1, 2, 4, 5, 6, 7, 8] [(3, .leaf [9])], [], [])]) [] ttOK Tryz.func12 rfl Tryz.call12 Tryz.ntmps12 rfl rfl rfl mixed (by kernel_rfl) ?_
  obtain ⟨v5, h6, hr⟩ := bind_some hr
  obtain ⟨h7, h8⟩ := idx_some h6
  refine at_index ttOK 0 rfl rfl rfl rfl h7 (Dc.encL_get h8) ?_
  intro a9 c9 _ _
  obtain ⟨h10, hr⟩ := cond_need hr
  refine at_sliceG ttOK 1 v5.implicit ((List.map (D.int .i64) v3.signs).length : Int) (ds' := (List.map (D.int .i64) (v3.signs.drop v5.implicit.toNat))) rfl rfl rfl (.inl ⟨_, rfl⟩) (.inr ⟨rfl, rfl⟩) h10 (sl_l ..) ?_
  intro a11 c11
  refine AtLoop.mk ⟨Nat × Int, fun x => [(3, (.loc 0 0)), (4, (.loc 1 0)), (6, (.loc 3 0)), (7, (.v (.slice a11 ((List.map (D.int .i64) (v3.signs.drop v5.implicit.toNat)).length) c11))), (8, (.v (.int .i64 x.2)))], fun x => ⟨[.cells 25 [(.v (.int .i64 v3.family)), (.v (.slice a4 ((List.map (D.int .i64) v3.signs).length) c4))], .cells 33 [(.v (.string ByteArray.empty)), (.v (.string ByteArray.empty)), (.v (.int .i64 0)), (.v (.string ByteArray.empty)), (.v (.slice none 0 0)), (.v (.slice none 0 0))], .imm [(.v (.string v5.name)), (.v (.int .i64 v5.cls.op)), (.v (.int .i64 v5.cls.hd)), (.v (.int .i64 v5.cls.n)), (.v (.slice a9 ((Tm.encL v5.cls.args).length) c9)), (.v (.int .i64 v5.implicit))], .cells 57 [(.v (.string v5.name)), (.v (.int .i64 v5.cls.op)), (.v (.int .i64 v5.cls.hd)), (.v (.int .i64 v5.cls.n)), (.v (.slice a9 ((Tm.encL v5.cls.args).length) c9)), (.v (.int .i64 v5.implicit))]], [], [(.slice a2 ((Dc.encL v1).length) c2, .sl 6 (Dc.encL v1)), (.slice a4 ((List.map (D.int .i64) v3.signs).length) c4, .sl 1 (List.map (D.int .i64) v3.signs)), (.slice a9 ((Tm.encL v5.cls.args).length) c9, .sl 4 (Tm.encL v5.cls.args)), (.slice a11 ((List.map (D.int .i64) (v3.signs.drop v5.implicit.toNat)).length) c11, .sl 1 (List.map (D.int .i64) (v3.signs.drop v5.implicit.toNat)))]⟩, fun x => R14_Item_L1 x.1 v5 v3 x.2 = some r, fun x => x.1, (n, 0), hr, ⟨rfl, rfl, rfl, rfl, rfl, trivial⟩, (StLe.gen 4 [] [.old 0, .old 1, .old 2, .old 3] rfl rfl rfl rfl rfl rfl rfl), fun x _ => ⟨rfl, rfl⟩, ?_⟩
  rintro ⟨n, v20⟩ HH
  have hr : R14_Item_L1 n v5 v3 v20 = some r := HH
  rcases n with _ | n
  · exact no_some hr
  rw [R14_Item_L1.eq_2] at hr
  refine AtIf.mk (fun h21 => ?_) (fun h21 => ?_)
  · replace hr := cond_t h21 hr
    obtain ⟨v22, h23, hr⟩ := bind_some hr
    obtain ⟨h24, h25⟩ := idx_some h23
    refine at_index ttOK 1 rfl rfl rfl rfl h24 (map_get (D.int .i64) h25) ?_
    obtain ⟨v26, h27, hr⟩ := bind_some hr
    refine (R14_Implicit_spec n v5 v20 (v3.signs.drop v5.implicit.toNat) a9 c9 a11 c11 _ h27).atR [2, 3] rfl rfl rfl ?_
    rintro _ _ ⟨rfl, rfl⟩
    refine ⟨fun _ _ h => h, ?_⟩
    refine AtIf.mk (fun h28 => ?_) (fun h28 => ?_)
    · replace hr := cond_t h28 hr
      replace hr := Option.some.inj hr
      subst hr
      exact AtRet.pureG [.nil 3, .nil 8] [(.slice none 0 0, .sl 3 []), (.slice none 0 0, .sl 8 [])] rfl rfl ⟨none, 0, none, 0, rfl, rfl⟩
    · replace hr := cond_f h28 hr
      exact ⟨(n, (IntKind.i64.wrap (v20 + 1))), hr, Nat.lt_succ_self _, ⟨rfl, rfl, rfl, rfl, rfl, trivial⟩, (StLe.gen 4 [] [.old 0, .old 1, .old 2, .old 3] rfl rfl rfl rfl rfl rfl rfl)⟩
  · replace hr := cond_f h21 hr
    refine at_buildAcc (n := 1) ttOK 120 [.agg [.int .i64 1, .str ByteArray.empty, .str v5.name, .int .i64 0, .agg [.int .i64 0, .str ByteArray.empty, .sl 3 []], .sl 8 []]] (ds' := (Pt.encL ([(Pt.mk 1 ByteArray.empty v5.name 0 (Rw.mk 0 ByteArray.empty ([])) ([]))]))) rfl (by kernel_rfl) ⟨⟨rfl, rfl, rfl, ⟨[(.v (.int .i64 1))], _, rfl, rfl, ⟨[(.v (.string ByteArray.empty))], _, rfl, rfl, ⟨[(.v (.string v5.name))], _, rfl, rfl, ⟨[(.v (.int .i64 0))], _, rfl, rfl, ⟨[(.v (.int .i64 0)), (.v (.string ByteArray.empty)), (.v (.slice none 0 0))], _, rfl, ⟨[(.v (.int .i64 0))], _, rfl, rfl, ⟨[(.v (.string ByteArray.empty))], _, rfl, rfl, ⟨[(.v (.slice none 0 0))], _, rfl, (.inr ⟨rfl, rfl⟩), rfl⟩⟩⟩, ⟨[(.v (.slice none 0 0))], _, rfl, (.inr ⟨rfl, rfl⟩), rfl⟩⟩⟩⟩⟩⟩⟩, trivial⟩ rfl (by simp only [Pt.encL_eq, List.map_cons, List.map_nil, Pt.enc_eq] <;> rfl) (by decide) (by decide) ?_
    intro a29
    obtain ⟨q50, hq50⟩ : ∃ q, q = n := ⟨_, rfl⟩
    refine AtLoop.mk ⟨Nat × It × Option Addr × Nat × Option Addr × Nat × Int, fun x => [(4, (.loc 1 0)), (7, (.v (.slice a11 ((List.map (D.int .i64) (v3.signs.drop v5.implicit.toNat)).length) c11))), (9, (.loc 4 0)), (10, (.v (.int .i64 x.2.2.2.2.2.2)))], fun x => ⟨[.cells 25 [(.v (.int .i64 v3.family)), (.v (.slice a4 ((List.map (D.int .i64) v3.signs).length) c4))], .cells 33 [(.v (.string ByteArray.empty)), (.v (.string ByteArray.empty)), (.v (.int .i64 0)), (.v (.string ByteArray.empty)), (.v (.slice none 0 0)), (.v (.slice none 0 0))], .imm [(.v (.string v5.name)), (.v (.int .i64 v5.cls.op)), (.v (.int .i64 v5.cls.hd)), (.v (.int .i64 v5.cls.n)), (.v (.slice a9 ((Tm.encL v5.cls.args).length) c9)), (.v (.int .i64 v5.implicit))], .cells 57 [(.v (.string v5.name)), (.v (.int .i64 v5.cls.op)), (.v (.int .i64 v5.cls.hd)), (.v (.int .i64 v5.cls.n)), (.v (.slice a9 ((Tm.encL v5.cls.args).length) c9)), (.v (.int .i64 v5.implicit))], .cells 33 [(.v (.string x.2.1.word)), (.v (.string x.2.1.name)), (.v (.int .i64 x.2.1.raw.op)), (.v (.string x.2.1.raw.name)), (.v (.slice x.2.2.1 ((Rw.encL x.2.1.raw.args).length) x.2.2.2.1)), (.v (.slice x.2.2.2.2.1 ((Pt.encL x.2.1.parts).length) x.2.2.2.2.2.1))]], [⟨.slice x.2.2.2.2.1 ((Pt.encL x.2.1.parts).length) x.2.2.2.2.2.1, 8, 41, (Pt.encL x.2.1.parts)⟩], [(.slice x.2.2.1 ((Rw.encL x.2.1.raw.args).length) x.2.2.2.1, .sl 3 (Rw.encL x.2.1.raw.args)), (.slice a2 ((Dc.encL v1).length) c2, .sl 6 (Dc.encL v1)), (.slice a4 ((List.map (D.int .i64) v3.signs).length) c4, .sl 1 (List.map (D.int .i64) v3.signs)), (.slice a9 ((Tm.encL v5.cls.args).length) c9, .sl 4 (Tm.encL v5.cls.args)), (.slice a11 ((List.map (D.int .i64) (v3.signs.drop v5.implicit.toNat)).length) c11, .sl 1 (List.map (D.int .i64) (v3.signs.drop v5.implicit.toNat)))]⟩, fun x => x.1 ≤ q50 ∧ R14_Item_L2 x.1 v3 v5 x.2.1 x.2.2.2.2.2.2 = some r, fun x => x.1, (n, (It.mk (⟨#[109, 111, 100, 101]⟩) ByteArray.empty (Rw.mk 0 ByteArray.empty ([])) ([(Pt.mk 1 ByteArray.empty v5.name 0 (Rw.mk 0 ByteArray.empty ([])) ([]))])), none, 0, a29, 1, 0), ⟨by omega, hr⟩, ⟨rfl, rfl, rfl, rfl, trivial⟩, (StLe.gen 5 [.old 0] [.nil 3, .old 0, .old 1, .old 2, .old 3] rfl rfl rfl rfl rfl rfl rfl), fun x _ => ⟨rfl, rfl⟩, ?_⟩
    rintro ⟨n, v46, a47, c47, a48, c48, v49⟩ HH
    obtain ⟨hbq50, hr⟩ : n ≤ q50 ∧ R14_Item_L2 n v3 v5 v46 v49 = some r := HH
    rcases n with _ | n
    · exact no_some hr
    rw [R14_Item_L2.eq_2] at hr
    refine AtIf.mk (fun h51 => ?_) (fun h51 => ?_)
    · replace hr := cond_t h51 hr
      obtain ⟨v52, h53, hr⟩ := bind_some hr
      refine (R14_digits_spec n (IntKind.i64.wrap (v49 + 1)) _ h53).atR [] rfl rfl rfl ?_
      rintro _ _ ⟨rfl, rfl⟩
      obtain ⟨h54, hr⟩ := cond_need hr
      refine at_concat (of_decide_eq_true h54) ?_
      refine AtPure.val (.agg [(.v (.string (⟨#[]⟩))), (.v (.string (⟨#[43]⟩))), (.v (.string (⟨#[45]⟩))), (.v (.string (⟨#[42]⟩)))]) rfl (fun ℓ w => by kernel_rfl) ?_
      obtain ⟨v55, h56, hr⟩ := bind_some hr
      obtain ⟨h57, h58⟩ := idx_some h56
      refine at_index ttOK 4 rfl rfl rfl rfl h57 (map_get (D.int .i64) h58) ?_
      obtain ⟨v59, h60, hr⟩ := bind_some hr
      obtain ⟨h61, h62⟩ := idx_some h60
      refine at_index_strs ttOK [(⟨#[]⟩ : ByteArray), (⟨#[43]⟩ : ByteArray), (⟨#[45]⟩ : ByteArray), (⟨#[42]⟩ : ByteArray)] rfl rfl rfl rfl rfl h61 h62 ?_
      refine at_buildG (n := 1) ttOK 120 [.agg [.int .i64 2, .str v59, .str ((⟨#[88]⟩ : ByteArray) ++ v52), .int .i64 0, .agg [.int .i64 0, .str ByteArray.empty, .sl 3 []], .sl 8 []]] (ds' := (Pt.encL ([(Pt.mk 2 v59 ((⟨#[88]⟩ : ByteArray) ++ v52) 0 (Rw.mk 0 ByteArray.empty ([])) ([]))]))) rfl (by kernel_rfl) ⟨⟨rfl, rfl, rfl, ⟨[(.v (.int .i64 2))], _, rfl, rfl, ⟨[(.v (.string v59))], _, rfl, rfl, ⟨[(.v (.string ((⟨#[88]⟩ : ByteArray) ++ v52)))], _, rfl, rfl, ⟨[(.v (.int .i64 0))], _, rfl, rfl, ⟨[(.v (.int .i64 0)), (.v (.string ByteArray.empty)), (.v (.slice none 0 0))], _, rfl, ⟨[(.v (.int .i64 0))], _, rfl, rfl, ⟨[(.v (.string ByteArray.empty))], _, rfl, rfl, ⟨[(.v (.slice none 0 0))], _, rfl, (.inr ⟨rfl, rfl⟩), rfl⟩⟩⟩, ⟨[(.v (.slice none 0 0))], _, rfl, (.inr ⟨rfl, rfl⟩), rfl⟩⟩⟩⟩⟩⟩⟩, trivial⟩ rfl (by simp only [Pt.encL_eq, List.map_cons, List.map_nil, Pt.enc_eq] <;> rfl) (by decide) (by decide) ?_
      intro a63
      obtain ⟨h64, hr⟩ := cond_need hr
      refine at_appendG (ds' := (Pt.encL (v46.parts ++ [(Pt.mk 2 v59 ((⟨#[88]⟩ : ByteArray) ++ v52) 0 (Rw.mk 0 ByteArray.empty ([])) ([]))]))) ttOK 120 0 5 rfl (by kernel_rfl) rfl rfl rfl rfl (by simp only [Pt.encL_eq, List.map_append]) h64 (by decide) ?_
      intro a65 c65
      exact ⟨(n, (It.mk v46.word v46.name v46.raw (v46.parts ++ [(Pt.mk 2 v59 ((⟨#[88]⟩ : ByteArray) ++ v52) 0 (Rw.mk 0 ByteArray.empty ([])) ([]))])), a47, c47, a65, c65, (IntKind.i64.wrap (v49 + 1))), ⟨by omega, hr⟩, Nat.lt_succ_self _, ⟨rfl, rfl, rfl, rfl, trivial⟩, (StLe.gen 5 [.old 0] [.old 0, .old 1, .old 2, .old 3, .old 4] rfl rfl rfl rfl rfl rfl rfl)⟩
    · replace hr := cond_f h51 hr
      replace hr := Option.some.inj hr
      subst hr
      exact AtRet.pureG [.old 0, .froz 0] [(.slice a47 ((Rw.encL v46.raw.args).length) c47, .sl 3 (Rw.encL v46.raw.args)), (.slice a48 ((Pt.encL v46.parts).length) c48, .sl 8 (Pt.encL v46.parts))] rfl rfl ⟨a47, c47, a48, c48, rfl, rfl⟩
mutual
def R13_Dependent : Nat → Tm → Option ((List Bool))
  | 0, _ => none
  | n + 1, v1 =>
    R13_Dependent_L1 n v1 ([])
def R13_Dependent_L1 : Nat → Tm → (List Bool) → Option ((List Bool))
  | 0, _, _ => none
  | n + 1, v19, v21 =>
    cond (v19.op == 2) (
    (idx v19.args 1).bind (fun v24 =>
    (R03_Occurs n v24 0).bind (fun v29 =>
    cond (decide ((List.map D.bool (v21 ++ [v29])).length ≤ 1000000)) (
    (idx v19.args 1).bind (fun v34 =>
    R13_Dependent_L1 n v34 (v21 ++ [v29]))) none))) (
    some (v21))
 end
theorem R13_Dependent_spec (n : Nat) (v1 : Tm) (a2 : Option Addr) (c2 : Nat) (r : (List Bool)) (hr : R13_Dependent n v1 = some r) : Pure Tryz.prog (.val (.fn (.func 61) [] [])) [(.agg [(.v (.int .i64 v1.op)), (.v (.int .i64 v1.hd)), (.v (.int .i64 v1.n)), (.v (.slice a2 ((Tm.encL v1.args).length) c2))])] [(.slice a2 ((Tm.encL v1.args).length) c2, .sl 4 (Tm.encL v1.args))] (fun r' out => ∃ (b1 : Option Addr) (d1 : Nat), r' = (.v (.slice b1 ((List.map D.bool r).length) d1)) ∧ out = [(.slice b1 ((List.map D.bool r).length) d1, .sl 1 (List.map D.bool r))]) := by
  rcases n with _ | n
  · exact no_some hr
  rw [R13_Dependent.eq_2] at hr
  refine spec_of_body (N := 23) (m := 0) (dt := fun _ => none) [] ttOK Tryz.func61 rfl Tryz.call61 Tryz.ntmps61 rfl rfl rfl mixed (by kernel_rfl) ?_
  refine AtLoop.mkR ⟨Nat × Tm × Option Addr × Nat × (List Bool) × Option Addr × Nat, fun x => [(3, (.v (.slice x.2.2.2.2.2.1 ((List.map D.bool x.2.2.2.2.1).length) x.2.2.2.2.2.2))), (4, (.loc 1 0))], fun x => ⟨[.cells 55 [(.v (.int .i64 v1.op)), (.v (.int .i64 v1.hd)), (.v (.int .i64 v1.n)), (.v (.slice a2 ((Tm.encL v1.args).length) c2))], .cells 55 [(.v (.int .i64 x.2.1.op)), (.v (.int .i64 x.2.1.hd)), (.v (.int .i64 x.2.1.n)), (.v (.slice x.2.2.1 ((Tm.encL x.2.1.args).length) x.2.2.2.1))]], [⟨.slice x.2.2.2.2.2.1 ((List.map D.bool x.2.2.2.2.1).length) x.2.2.2.2.2.2, 1, 4, (List.map D.bool x.2.2.2.2.1)⟩], [(.slice x.2.2.1 ((Tm.encL x.2.1.args).length) x.2.2.2.1, .sl 4 (Tm.encL x.2.1.args)), (.slice a2 ((Tm.encL v1.args).length) c2, .sl 4 (Tm.encL v1.args))]⟩, fun x => R13_Dependent_L1 x.1 x.2.1 x.2.2.2.2.1 = some r, fun x => x.1, (n, v1, a2, c2, [], none, 0), hr, ⟨rfl, rfl, trivial⟩, (StLe.gen 2 [.nil 1 4] [.old 0, .old 0] rfl rfl rfl rfl rfl rfl rfl), fun x _ => ⟨rfl, rfl⟩, ?_⟩
  rintro ⟨n, v19, a20, c20, v21, a22, c22⟩ HH
  have hr : R13_Dependent_L1 n v19 v21 = some r := HH
  rcases n with _ | n
  · exact no_some hr
  rw [R13_Dependent_L1.eq_2] at hr
  refine AtIf.mk (fun h23 => ?_) (fun h23 => ?_)
  · replace hr := cond_t h23 hr
    obtain ⟨v24, h25, hr⟩ := bind_some hr
    obtain ⟨h26, h27⟩ := idx_some h25
    refine at_index ttOK 0 rfl rfl rfl rfl h26 (Tm.encL_get h27) ?_
    intro a28 c28 _ _
    obtain ⟨v29, h30, hr⟩ := bind_some hr
    refine (R03_Occurs_spec n v24 0 a28 c28 _ h30).atR [2] rfl rfl rfl ?_
    rintro _ _ ⟨rfl, rfl⟩
    refine at_buildG (n := 1) ttOK 1 [.bool v29] (ds' := (List.map D.bool ([v29]))) rfl (by kernel_rfl) ⟨⟨rfl, rfl, rfl, rfl⟩, trivial⟩ rfl rfl (by decide) (by decide) ?_
    intro a31
    obtain ⟨h32, hr⟩ := cond_need hr
    refine at_appendG (ds' := (List.map D.bool (v21 ++ [v29]))) ttOK 1 0 3 rfl (by kernel_rfl) rfl rfl rfl rfl (by simp only [List.map_append]) h32 (by decide) ?_
    intro a33 c33
    obtain ⟨v34, h35, hr⟩ := bind_some hr
    obtain ⟨h36, h37⟩ := idx_some h35
    refine at_index ttOK 0 rfl rfl rfl rfl h36 (Tm.encL_get h37) ?_
    intro a38 c38 _ _
    exact ⟨(n, v34, a38, c38, (v21 ++ [v29]), a33, c33), [0, 3], hr, Nat.lt_succ_self _, ⟨rfl, rfl, trivial⟩, (StLeR.gen [0, 3] [.old 0] [.old 4, .old 1] rfl rfl rfl rfl rfl rfl rfl), rfl⟩
  · replace hr := cond_f h23 hr
    replace hr := Option.some.inj hr
    subst hr
    exact AtRet.pureG [.froz 0] [(.slice a22 ((List.map D.bool v21).length) c22, .sl 1 (List.map D.bool v21))] rfl rfl ⟨a22, c22, rfl, rfl⟩
def R14_Dependent : Nat → Tm → Option ((List Bool))
  | 0, _ => none
  | n + 1, v1 =>
    (R13_Dependent n v1).bind (fun v3 =>
    some (v3))
theorem R14_Dependent_spec (n : Nat) (v1 : Tm) (a2 : Option Addr) (c2 : Nat) (r : (List Bool)) (hr : R14_Dependent n v1 = some r) : Pure Tryz.prog (.val (.fn (.func 36) [] [])) [(.agg [(.v (.int .i64 v1.op)), (.v (.int .i64 v1.hd)), (.v (.int .i64 v1.n)), (.v (.slice a2 ((Tm.encL v1.args).length) c2))])] [(.slice a2 ((Tm.encL v1.args).length) c2, .sl 4 (Tm.encL v1.args))] (fun r' out => ∃ (b1 : Option Addr) (d1 : Nat), r' = (.v (.slice b1 ((List.map D.bool r).length) d1)) ∧ out = [(.slice b1 ((List.map D.bool r).length) d1, .sl 1 (List.map D.bool r))]) := by
  rcases n with _ | n
  · exact no_some hr
  rw [R14_Dependent.eq_2] at hr
  refine spec_of_body (N := 5) (m := 0) (dt := fun _ => none) [] ttOK Tryz.func36 rfl Tryz.call36 Tryz.ntmps36 rfl rfl rfl mixed (by kernel_rfl) ?_
  obtain ⟨v3, h4, hr⟩ := bind_some hr
  refine (R13_Dependent_spec n v1 a2 c2 _ h4).atR [0] rfl rfl rfl ?_
  rintro _ _ ⟨a5, c5, rfl, rfl⟩
  replace hr := Option.some.inj hr
  subst hr
  exact AtRet.pureG [.old 1] [(.slice a5 ((List.map D.bool v3).length) c5, .sl 1 (List.map D.bool v3))] rfl rfl ⟨a5, c5, rfl, rfl⟩
mutual
def R14_Right : Nat → (List Dc) → Md → Option (Bool)
  | 0, _, _ => none
  | n + 1, v1, v3 =>
    (R05_Has n v1 v3.family).bind (fun v5 =>
    cond (!v5) (
    some (false)) (
    (R05_IsFamily n v1 v3.family).bind (fun v8 =>
    cond (!v8) (
    some (false)) (
    (idx v1 v3.family).bind (fun v11 =>
    (R14_Dependent n v11.cls).bind (fun v16 =>
    cond (((List.map (D.int .i64) v3.signs).length : Int) != ((List.map D.bool v16).length : Int)) (
    some (false)) (
    R14_Right_L1 n v3 0)))))))
def R14_Right_L1 : Nat → Md → Int → Option (Bool)
  | 0, _, _ => none
  | n + 1, v3, v31 =>
    cond (decide (v31 < ((List.map (D.int .i64) v3.signs).length : Int))) (
    (idx v3.signs v31).bind (fun v33 =>
    cond (decide (v33 < 1)) (
    some (false)) (
    (idx v3.signs v31).bind (fun v38 =>
    cond (decide (v38 > 3)) (
    some (false)) (
    R14_Right_L1 n v3 (IntKind.i64.wrap (v31 + 1))))))) (
    some (true))
 end
theorem R14_Right_spec (n : Nat) (v1 : (List Dc)) (v3 : Md) (a2 : Option Addr) (c2 : Nat) (a4 : Option Addr) (c4 : Nat) (r : Bool) (hr : R14_Right n v1 v3 = some r) : Pure Tryz.prog (.val (.fn (.func 11) [] [])) [(.v (.slice a2 ((Dc.encL v1).length) c2)), (.agg [(.v (.int .i64 v3.family)), (.v (.slice a4 ((List.map (D.int .i64) v3.signs).length) c4))])] [(.slice a2 ((Dc.encL v1).length) c2, .sl 6 (Dc.encL v1)), (.slice a4 ((List.map (D.int .i64) v3.signs).length) c4, .sl 1 (List.map (D.int .i64) v3.signs))] (fun r' out => r' = (.v (.bool r)) ∧ out = []) := by
  rcases n with _ | n
  · exact no_some hr
  rw [R14_Right.eq_2] at hr
  refine spec_of_body (N := 53) (m := 0) (dt := drawsOf [(1, .node [0, 1, 2] [(3, .node [4, 5, 6, 7, 8] [(9, .node [10, 11, 12, 13, 14, 15, 16, 17, 18, 19, 20, 21] [(22, .leaf [23, 24, 25])])])], [3, 9], [])]) [] ttOK Tryz.func11 rfl Tryz.call11 Tryz.ntmps11 rfl rfl rfl mixed (by kernel_rfl) ?_
  obtain ⟨v5, h6, hr⟩ := bind_some hr
  refine (R05_Has_spec n v1 v3.family a2 c2 _ h6).atR [0] rfl rfl rfl ?_
  rintro _ _ ⟨rfl, rfl⟩
  refine AtGuard.mk (fun h7 => ?_) (fun h7 => ?_)
  · replace hr := cond_f h7 hr
    obtain ⟨v8, h9, hr⟩ := bind_some hr
    refine (R05_IsFamily_spec n v1 v3.family a2 c2 _ h9).atR [0] rfl rfl rfl ?_
    rintro _ _ ⟨rfl, rfl⟩
    refine AtGuard.mk (fun h10 => ?_) (fun h10 => ?_)
    · replace hr := cond_f h10 hr
      obtain ⟨v11, h12, hr⟩ := bind_some hr
      obtain ⟨h13, h14⟩ := idx_some h12
      refine at_index ttOK 0 rfl rfl rfl rfl h13 (Dc.encL_get h14) ?_
      intro a15 c15 _ _
      obtain ⟨v16, h17, hr⟩ := bind_some hr
      refine (R14_Dependent_spec n v11.cls a15 c15 _ h17).atR [2] rfl rfl rfl ?_
      rintro _ _ ⟨a18, c18, rfl, rfl⟩
      refine ⟨fun _ _ h => h, ?_⟩
      refine AtIf.mk (fun h19 => ?_) (fun h19 => ?_)
      · replace hr := cond_t h19 hr
        replace hr := Option.some.inj hr
        subst hr
        exact AtRet.pureG [] [] rfl rfl ⟨rfl, rfl⟩
      · replace hr := cond_f h19 hr
        refine AtLoop.mk ⟨Nat × Int, fun x => [(3, (.loc 0 0)), (5, (.v (.int .i64 x.2)))], fun x => ⟨[.cells 25 [(.v (.int .i64 v3.family)), (.v (.slice a4 ((List.map (D.int .i64) v3.signs).length) c4))], .imm [(.v (.string v11.name)), (.v (.int .i64 v11.cls.op)), (.v (.int .i64 v11.cls.hd)), (.v (.int .i64 v11.cls.n)), (.v (.slice a15 ((Tm.encL v11.cls.args).length) c15)), (.v (.int .i64 v11.implicit))]], [], [(.slice a2 ((Dc.encL v1).length) c2, .sl 6 (Dc.encL v1)), (.slice a4 ((List.map (D.int .i64) v3.signs).length) c4, .sl 1 (List.map (D.int .i64) v3.signs)), (.slice a15 ((Tm.encL v11.cls.args).length) c15, .sl 4 (Tm.encL v11.cls.args)), (.slice a18 ((List.map D.bool v16).length) c18, .sl 1 (List.map D.bool v16))]⟩, fun x => R14_Right_L1 x.1 v3 x.2 = some r, fun x => x.1, (n, 0), hr, ⟨rfl, rfl, trivial⟩, (StLe.gen 2 [] [.old 0, .old 1, .old 2, .old 3] rfl rfl rfl rfl rfl rfl rfl), fun x _ => ⟨rfl, rfl⟩, ?_⟩
        rintro ⟨n, v31⟩ HH
        have hr : R14_Right_L1 n v3 v31 = some r := HH
        rcases n with _ | n
        · exact no_some hr
        rw [R14_Right_L1.eq_2] at hr
        refine AtIf.mk (fun h32 => ?_) (fun h32 => ?_)
        · replace hr := cond_t h32 hr
          obtain ⟨v33, h34, hr⟩ := bind_some hr
          obtain ⟨h35, h36⟩ := idx_some h34
          refine at_index ttOK 1 rfl rfl rfl rfl h35 (map_get (D.int .i64) h36) ?_
          refine AtGuard.mk (fun h37 => ?_) (fun h37 => ?_)
          · replace hr := cond_f h37 hr
            obtain ⟨v38, h39, hr⟩ := bind_some hr
            obtain ⟨h40, h41⟩ := idx_some h39
            refine at_index ttOK 1 rfl rfl rfl rfl h40 (map_get (D.int .i64) h41) ?_
            refine AtIf.mk (fun h42 => ?_) (fun h42 => ?_)
            · replace hr := cond_t h42 hr
              replace hr := Option.some.inj hr
              subst hr
              exact AtRet.pureG [] [] rfl rfl ⟨rfl, rfl⟩
            · replace hr := cond_f h42 hr
              exact ⟨(n, (IntKind.i64.wrap (v31 + 1))), hr, Nat.lt_succ_self _, ⟨rfl, rfl, trivial⟩, (StLe.gen 2 [] [.old 0, .old 1, .old 2, .old 3] rfl rfl rfl rfl rfl rfl rfl)⟩
          · replace hr := cond_t h37 hr
            refine AtIf.mk (fun _ => ?_) (fun h => tf h)
            replace hr := Option.some.inj hr
            subst hr
            exact AtRet.pureG [] [] rfl rfl ⟨rfl, rfl⟩
        · replace hr := cond_f h32 hr
          replace hr := Option.some.inj hr
          subst hr
          exact AtRet.pureG [] [] rfl rfl ⟨rfl, rfl⟩
    · replace hr := cond_t h10 hr
      refine AtIf.mk (fun _ => ?_) (fun h => tf h)
      replace hr := Option.some.inj hr
      subst hr
      exact AtRet.pureG [] [] rfl rfl ⟨rfl, rfl⟩
  · replace hr := cond_t h7 hr
    refine AtGuard.mk (fun h => tf h) (fun _ => ?_)
    refine AtIf.mk (fun _ => ?_) (fun h => tf h)
    replace hr := Option.some.inj hr
    subst hr
    exact AtRet.pureG [] [] rfl rfl ⟨rfl, rfl⟩
mutual
def R14_Find : Nat → (List Md) → Int → Option (Int)
  | 0, _, _ => none
  | n + 1, v1, v3 =>
    R14_Find_L1 n v1 v3 0
def R14_Find_L1 : Nat → (List Md) → Int → Int → Option (Int)
  | 0, _, _, _ => none
  | n + 1, v1, v3, v11 =>
    cond (decide (v11 < ((Md.encL v1).length : Int))) (
    (idx v1 v11).bind (fun v13 =>
    cond (v13.family == v3) (
    some (v11)) (
    R14_Find_L1 n v1 v3 (IntKind.i64.wrap (v11 + 1))))) (
    some ((-1)))
 end
theorem R14_Find_spec (n : Nat) (v1 : (List Md)) (v3 : Int) (a2 : Option Addr) (c2 : Nat) (r : Int) (hr : R14_Find n v1 v3 = some r) : Pure Tryz.prog (.val (.fn (.func 15) [] [])) [(.v (.slice a2 ((Md.encL v1).length) c2)), (.v (.int .i64 v3))] [(.slice a2 ((Md.encL v1).length) c2, .sl 2 (Md.encL v1))] (fun r' out => r' = (.v (.int .i64 r)) ∧ out = []) := by
  rcases n with _ | n
  · exact no_some hr
  rw [R14_Find.eq_2] at hr
  refine spec_of_body (N := 20) (m := 0) (dt := fun _ => none) [] ttOK Tryz.func15 rfl Tryz.call15 Tryz.ntmps15 rfl rfl rfl mixed (by kernel_rfl) ?_
  refine AtLoop.mk ⟨Nat × Int, fun x => [(0, (.v (.slice a2 ((Md.encL v1).length) c2))), (1, (.v (.int .i64 v3))), (5, (.v (.int .i64 x.2)))], fun x => ⟨[], [], [(.slice a2 ((Md.encL v1).length) c2, .sl 2 (Md.encL v1))]⟩, fun x => R14_Find_L1 x.1 v1 v3 x.2 = some r, fun x => x.1, (n, 0), hr, ⟨rfl, rfl, rfl, trivial⟩, (StLe.gen 0 [] [.old 0] rfl rfl rfl rfl rfl rfl rfl), fun x _ => ⟨rfl, rfl⟩, ?_⟩
  rintro ⟨n, v11⟩ HH
  have hr : R14_Find_L1 n v1 v3 v11 = some r := HH
  rcases n with _ | n
  · exact no_some hr
  rw [R14_Find_L1.eq_2] at hr
  refine AtIf.mk (fun h12 => ?_) (fun h12 => ?_)
  · replace hr := cond_t h12 hr
    obtain ⟨v13, h14, hr⟩ := bind_some hr
    obtain ⟨h15, h16⟩ := idx_some h14
    refine at_index ttOK 0 rfl rfl rfl rfl h15 (Md.encL_get h16) ?_
    intro a17 c17 _ _
    refine AtIf.mk (fun h18 => ?_) (fun h18 => ?_)
    · replace hr := cond_t h18 hr
      replace hr := Option.some.inj hr
      subst hr
      exact AtRet.pureG [] [] rfl rfl ⟨rfl, rfl⟩
    · replace hr := cond_f h18 hr
      exact ⟨(n, (IntKind.i64.wrap (v11 + 1))), hr, Nat.lt_succ_self _, ⟨rfl, rfl, rfl, trivial⟩, (StLe.gen 0 [] [.old 0] rfl rfl rfl rfl rfl rfl rfl)⟩
  · replace hr := cond_f h12 hr
    replace hr := Option.some.inj hr
    subst hr
    exact AtRet.pureG [] [] rfl rfl ⟨rfl, rfl⟩
mutual
def R14_Modes : Nat → (List Dc) → (List Md) → Option (Bool)
  | 0, _, _ => none
  | n + 1, v1, v3 =>
    cond (decide (((Md.encL v3).length : Int) > 40)) (
    some (false)) (
    R14_Modes_L1 n v3 v1 0)
def R14_Modes_L1 : Nat → (List Md) → (List Dc) → Int → Option (Bool)
  | 0, _, _, _ => none
  | n + 1, v3, v1, v23 =>
    cond (decide (v23 < ((Md.encL v3).length : Int))) (
    (idx v3 v23).bind (fun v25 =>
    (R14_Right n v1 v25).bind (fun v30 =>
    cond (!v30) (
    some (false)) (
    (idx v3 v23).bind (fun v33 =>
    (R14_Find n v3 v33.family).bind (fun v38 =>
    cond (decide (v38 < v23)) (
    some (false)) (
    R14_Modes_L1 n v3 v1 (IntKind.i64.wrap (v23 + 1))))))))) (
    some (true))
 end
theorem R14_Modes_spec (n : Nat) (v1 : (List Dc)) (v3 : (List Md)) (a2 : Option Addr) (c2 : Nat) (a4 : Option Addr) (c4 : Nat) (r : Bool) (hr : R14_Modes n v1 v3 = some r) : Pure Tryz.prog (.val (.fn (.func 14) [] [])) [(.v (.slice a2 ((Dc.encL v1).length) c2)), (.v (.slice a4 ((Md.encL v3).length) c4))] [(.slice a2 ((Dc.encL v1).length) c2, .sl 6 (Dc.encL v1)), (.slice a4 ((Md.encL v3).length) c4, .sl 2 (Md.encL v3))] (fun r' out => r' = (.v (.bool r)) ∧ out = []) := by
  rcases n with _ | n
  · exact no_some hr
  rw [R14_Modes.eq_2] at hr
  refine spec_of_body (N := 33) (m := 0) (dt := fun _ => none) [] ttOK Tryz.func14 rfl Tryz.call14 Tryz.ntmps14 rfl rfl rfl mixed (by kernel_rfl) ?_
  refine AtIf.mk (fun h5 => ?_) (fun h5 => ?_)
  · replace hr := cond_t h5 hr
    replace hr := Option.some.inj hr
    subst hr
    exact AtRet.pureG [] [] rfl rfl ⟨rfl, rfl⟩
  · replace hr := cond_f h5 hr
    refine AtLoop.mk ⟨Nat × Int, fun x => [(0, (.v (.slice a2 ((Dc.encL v1).length) c2))), (1, (.v (.slice a4 ((Md.encL v3).length) c4))), (5, (.v (.int .i64 x.2)))], fun x => ⟨[], [], [(.slice a2 ((Dc.encL v1).length) c2, .sl 6 (Dc.encL v1)), (.slice a4 ((Md.encL v3).length) c4, .sl 2 (Md.encL v3))]⟩, fun x => R14_Modes_L1 x.1 v3 v1 x.2 = some r, fun x => x.1, (n, 0), hr, ⟨rfl, rfl, rfl, trivial⟩, (StLe.gen 0 [] [.old 0, .old 1] rfl rfl rfl rfl rfl rfl rfl), fun x _ => ⟨rfl, rfl⟩, ?_⟩
    rintro ⟨n, v23⟩ HH
    have hr : R14_Modes_L1 n v3 v1 v23 = some r := HH
    rcases n with _ | n
    · exact no_some hr
    rw [R14_Modes_L1.eq_2] at hr
    refine AtIf.mk (fun h24 => ?_) (fun h24 => ?_)
    · replace hr := cond_t h24 hr
      obtain ⟨v25, h26, hr⟩ := bind_some hr
      obtain ⟨h27, h28⟩ := idx_some h26
      refine at_index ttOK 1 rfl rfl rfl rfl h27 (Md.encL_get h28) ?_
      intro a29 c29 _ _
      obtain ⟨v30, h31, hr⟩ := bind_some hr
      refine (R14_Right_spec n v1 v25 a2 c2 a29 c29 _ h31).atR [0, 2] rfl rfl rfl ?_
      rintro _ _ ⟨rfl, rfl⟩
      refine AtGuard.mk (fun h32 => ?_) (fun h32 => ?_)
      · replace hr := cond_f h32 hr
        obtain ⟨v33, h34, hr⟩ := bind_some hr
        obtain ⟨h35, h36⟩ := idx_some h34
        refine at_index ttOK 1 rfl rfl rfl rfl h35 (Md.encL_get h36) ?_
        intro a37 c37 _ _
        obtain ⟨v38, h39, hr⟩ := bind_some hr
        refine (R14_Find_spec n v3 v33.family a4 c4 _ h39).atR [1] rfl rfl rfl ?_
        rintro _ _ ⟨rfl, rfl⟩
        refine AtIf.mk (fun h40 => ?_) (fun h40 => ?_)
        · replace hr := cond_t h40 hr
          replace hr := Option.some.inj hr
          subst hr
          exact AtRet.pureG [] [] rfl rfl ⟨rfl, rfl⟩
        · replace hr := cond_f h40 hr
          exact ⟨(n, (IntKind.i64.wrap (v23 + 1))), hr, Nat.lt_succ_self _, ⟨rfl, rfl, rfl, trivial⟩, (StLe.gen 0 [] [.old 0, .old 1] rfl rfl rfl rfl rfl rfl rfl)⟩
      · replace hr := cond_t h32 hr
        refine AtIf.mk (fun _ => ?_) (fun h => tf h)
        replace hr := Option.some.inj hr
        subst hr
        exact AtRet.pureG [] [] rfl rfl ⟨rfl, rfl⟩
    · replace hr := cond_f h24 hr
      replace hr := Option.some.inj hr
      subst hr
      exact AtRet.pureG [] [] rfl rfl ⟨rfl, rfl⟩
mutual
def R02_Same : Nat → Rw → Rw → Option (Bool)
  | 0, _, _ => none
  | n + 1, v1, v3 =>
    cond (((v1.op != v3.op) || (!(v1.name.toList == v3.name.toList))) || (((Rw.encL v1.args).length : Int) != ((Rw.encL v3.args).length : Int))) (
    some (false)) (
    R02_Same_L1 n v1 v3 0)
def R02_Same_L1 : Nat → Rw → Rw → Int → Option (Bool)
  | 0, _, _, _ => none
  | n + 1, v1, v3, v20 =>
    cond (decide (v20 < ((Rw.encL v1.args).length : Int))) (
    (idx v1.args v20).bind (fun v22 =>
    (idx v3.args v20).bind (fun v27 =>
    (R02_Same n v22 v27).bind (fun v32 =>
    cond (!v32) (
    some (false)) (
    R02_Same_L1 n v1 v3 (IntKind.i64.wrap (v20 + 1))))))) (
    some (true))
 end
theorem R02_Same_specN : ∀ (N : Nat), (∀ (n : Nat), n ≤ N → ∀ (v1 : Rw) (v3 : Rw) (a2 : Option Addr) (c2 : Nat) (a4 : Option Addr) (c4 : Nat) (r : Bool), R02_Same n v1 v3 = some r → Pure Tryz.prog (.val (.fn (.func 39) [] [])) [(.agg [(.v (.int .i64 v1.op)), (.v (.string v1.name)), (.v (.slice a2 ((Rw.encL v1.args).length) c2))]), (.agg [(.v (.int .i64 v3.op)), (.v (.string v3.name)), (.v (.slice a4 ((Rw.encL v3.args).length) c4))])] [(.slice a2 ((Rw.encL v1.args).length) c2, .sl 3 (Rw.encL v1.args)), (.slice a4 ((Rw.encL v3.args).length) c4, .sl 3 (Rw.encL v3.args))] (fun r' out => r' = (.v (.bool r)) ∧ out = [])) := by
  intro N
  induction N with
  | zero =>
    intro n hn v1 v3 a2 c2 a4 c4 r hr; obtain rfl : n = 0 := (by omega); exact no_some hr
  | succ N ih =>
    intro n hn v1 v3 a2 c2 a4 c4 r hr
    rcases n with _ | n
    · exact no_some hr
    replace hn : n ≤ N := by omega
    rw [R02_Same.eq_2] at hr
    refine spec_of_body (N := 46) (m := 0) (dt := drawsOf [(6, .node [0, 1, 2, 3, 4, 5, 6, 7, 8, 9] [(10, .leaf [11])], [10], [])]) [] ttOK Tryz.func39 rfl Tryz.call39 Tryz.ntmps39 rfl rfl rfl mixed (by kernel_rfl) ?_
    refine AtIf.mk (fun h5 => ?_) (fun h5 => ?_)
    · replace hr := cond_t h5 hr
      replace hr := Option.some.inj hr
      subst hr
      exact AtRet.pureG [] [] rfl rfl ⟨rfl, rfl⟩
    · replace hr := cond_f h5 hr
      refine AtLoop.mk ⟨Nat × Int, fun x => [(2, (.loc 0 0)), (3, (.loc 1 0)), (5, (.v (.int .i64 x.2)))], fun x => ⟨[.cells 30 [(.v (.int .i64 v1.op)), (.v (.string v1.name)), (.v (.slice a2 ((Rw.encL v1.args).length) c2))], .cells 30 [(.v (.int .i64 v3.op)), (.v (.string v3.name)), (.v (.slice a4 ((Rw.encL v3.args).length) c4))]], [], [(.slice a2 ((Rw.encL v1.args).length) c2, .sl 3 (Rw.encL v1.args)), (.slice a4 ((Rw.encL v3.args).length) c4, .sl 3 (Rw.encL v3.args))]⟩, fun x => x.1 ≤ N ∧ R02_Same_L1 x.1 v1 v3 x.2 = some r, fun x => x.1, (n, 0), ⟨by omega, hr⟩, ⟨rfl, rfl, rfl, trivial⟩, (StLe.gen 2 [] [.old 0, .old 1] rfl rfl rfl rfl rfl rfl rfl), fun x _ => ⟨rfl, rfl⟩, ?_⟩
      rintro ⟨n, v20⟩ HH
      obtain ⟨hn, hr⟩ : n ≤ N ∧ R02_Same_L1 n v1 v3 v20 = some r := HH
      rcases n with _ | n
      · exact no_some hr
      rw [R02_Same_L1.eq_2] at hr
      refine AtIf.mk (fun h21 => ?_) (fun h21 => ?_)
      · replace hr := cond_t h21 hr
        obtain ⟨v22, h23, hr⟩ := bind_some hr
        obtain ⟨h24, h25⟩ := idx_some h23
        refine at_index ttOK 0 rfl rfl rfl rfl h24 (Rw.encL_get h25) ?_
        intro a26 c26 _ _
        obtain ⟨v27, h28, hr⟩ := bind_some hr
        obtain ⟨h29, h30⟩ := idx_some h28
        refine at_index ttOK 1 rfl rfl rfl rfl h29 (Rw.encL_get h30) ?_
        intro a31 c31 _ _
        obtain ⟨v32, h33, hr⟩ := bind_some hr
        refine (ih n (by omega) v22 v27 a26 c26 a31 c31 _ h33).atR [2, 3] rfl rfl rfl ?_
        rintro _ _ ⟨rfl, rfl⟩
        refine AtIf.mk (fun h34 => ?_) (fun h34 => ?_)
        · replace hr := cond_t h34 hr
          replace hr := Option.some.inj hr
          subst hr
          exact AtRet.pureG [] [] rfl rfl ⟨rfl, rfl⟩
        · replace hr := cond_f h34 hr
          exact ⟨(n, (IntKind.i64.wrap (v20 + 1))), ⟨by omega, hr⟩, Nat.lt_succ_self _, ⟨rfl, rfl, rfl, trivial⟩, (StLe.gen 2 [] [.old 0, .old 1] rfl rfl rfl rfl rfl rfl rfl)⟩
      · replace hr := cond_f h21 hr
        replace hr := Option.some.inj hr
        subst hr
        exact AtRet.pureG [] [] rfl rfl ⟨rfl, rfl⟩
theorem R02_Same_spec (n : Nat) (v1 : Rw) (v3 : Rw) (a2 : Option Addr) (c2 : Nat) (a4 : Option Addr) (c4 : Nat) (r : Bool) (hr : R02_Same n v1 v3 = some r) : Pure Tryz.prog (.val (.fn (.func 39) [] [])) [(.agg [(.v (.int .i64 v1.op)), (.v (.string v1.name)), (.v (.slice a2 ((Rw.encL v1.args).length) c2))]), (.agg [(.v (.int .i64 v3.op)), (.v (.string v3.name)), (.v (.slice a4 ((Rw.encL v3.args).length) c4))])] [(.slice a2 ((Rw.encL v1.args).length) c2, .sl 3 (Rw.encL v1.args)), (.slice a4 ((Rw.encL v3.args).length) c4, .sl 3 (Rw.encL v3.args))] (fun r' out => r' = (.v (.bool r)) ∧ out = []) := (R02_Same_specN n) n (Nat.le_refl _) v1 v3 a2 c2 a4 c4 r hr
mutual
def R02_SamePart : Nat → Pt → Pt → Option (Bool)
  | 0, _, _ => none
  | n + 1, v1, v4 =>
    cond ((((v1.op != v4.op) || (!(v1.sign.toList == v4.sign.toList))) || (!(v1.name.toList == v4.name.toList))) || (v1.n != v4.n)) (
    some (false)) (
    (R02_Same n v1.raw v4.raw).bind (fun v8 =>
    cond ((!v8) || (((Pt.encL v1.parts).length : Int) != ((Pt.encL v4.parts).length : Int))) (
    some (false)) (
    R02_SamePart_L1 n v1 v4 0)))
def R02_SamePart_L1 : Nat → Pt → Pt → Int → Option (Bool)
  | 0, _, _, _ => none
  | n + 1, v1, v4, v27 =>
    cond (decide (v27 < ((Pt.encL v1.parts).length : Int))) (
    (idx v1.parts v27).bind (fun v29 =>
    (idx v4.parts v27).bind (fun v35 =>
    (R02_SamePart n v29 v35).bind (fun v41 =>
    cond (!v41) (
    some (false)) (
    R02_SamePart_L1 n v1 v4 (IntKind.i64.wrap (v27 + 1))))))) (
    some (true))
 end
theorem R02_SamePart_specN : ∀ (N : Nat), (∀ (n : Nat), n ≤ N → ∀ (v1 : Pt) (v4 : Pt) (a2 : Option Addr) (c2 : Nat) (a3 : Option Addr) (c3 : Nat) (a5 : Option Addr) (c5 : Nat) (a6 : Option Addr) (c6 : Nat) (r : Bool), R02_SamePart n v1 v4 = some r → Pure Tryz.prog (.val (.fn (.func 40) [] [])) [(.agg [(.v (.int .i64 v1.op)), (.v (.string v1.sign)), (.v (.string v1.name)), (.v (.int .i64 v1.n)), (.v (.int .i64 v1.raw.op)), (.v (.string v1.raw.name)), (.v (.slice a2 ((Rw.encL v1.raw.args).length) c2)), (.v (.slice a3 ((Pt.encL v1.parts).length) c3))]), (.agg [(.v (.int .i64 v4.op)), (.v (.string v4.sign)), (.v (.string v4.name)), (.v (.int .i64 v4.n)), (.v (.int .i64 v4.raw.op)), (.v (.string v4.raw.name)), (.v (.slice a5 ((Rw.encL v4.raw.args).length) c5)), (.v (.slice a6 ((Pt.encL v4.parts).length) c6))])] [(.slice a2 ((Rw.encL v1.raw.args).length) c2, .sl 3 (Rw.encL v1.raw.args)), (.slice a3 ((Pt.encL v1.parts).length) c3, .sl 8 (Pt.encL v1.parts)), (.slice a5 ((Rw.encL v4.raw.args).length) c5, .sl 3 (Rw.encL v4.raw.args)), (.slice a6 ((Pt.encL v4.parts).length) c6, .sl 8 (Pt.encL v4.parts))] (fun r' out => r' = (.v (.bool r)) ∧ out = [])) := by
  intro N
  induction N with
  | zero =>
    intro n hn v1 v4 a2 c2 a3 c3 a5 c5 a6 c6 r hr; obtain rfl : n = 0 := (by omega); exact no_some hr
  | succ N ih =>
    intro n hn v1 v4 a2 c2 a3 c3 a5 c5 a6 c6 r hr
    rcases n with _ | n
    · exact no_some hr
    replace hn : n ≤ N := by omega
    rw [R02_SamePart.eq_2] at hr
    refine spec_of_body (N := 68) (m := 0) (dt := drawsOf [(6, .node [0, 1, 2, 3, 4, 5, 6, 7, 8, 9] [(10, .leaf [11])], [10], [])]) [] ttOK Tryz.func40 rfl Tryz.call40 Tryz.ntmps40 rfl rfl rfl mixed (by kernel_rfl) ?_
    refine AtGuard.mk (fun h7 => ?_) (fun h7 => ?_)
    · replace hr := cond_f h7 hr
      obtain ⟨v8, h9, hr⟩ := bind_some hr
      refine (R02_Same_spec n v1.raw v4.raw a2 c2 a5 c5 _ h9).atR [0, 2] rfl rfl rfl ?_
      rintro _ _ ⟨rfl, rfl⟩
      refine AtIf.mk (fun h10 => ?_) (fun h10 => ?_)
      · replace hr := cond_t h10 hr
        replace hr := Option.some.inj hr
        subst hr
        exact AtRet.pureG [] [] rfl rfl ⟨rfl, rfl⟩
      · replace hr := cond_f h10 hr
        refine AtLoop.mk ⟨Nat × Int, fun x => [(2, (.loc 0 0)), (3, (.loc 1 0)), (5, (.v (.int .i64 x.2)))], fun x => ⟨[.cells 41 [(.v (.int .i64 v1.op)), (.v (.string v1.sign)), (.v (.string v1.name)), (.v (.int .i64 v1.n)), (.v (.int .i64 v1.raw.op)), (.v (.string v1.raw.name)), (.v (.slice a2 ((Rw.encL v1.raw.args).length) c2)), (.v (.slice a3 ((Pt.encL v1.parts).length) c3))], .cells 41 [(.v (.int .i64 v4.op)), (.v (.string v4.sign)), (.v (.string v4.name)), (.v (.int .i64 v4.n)), (.v (.int .i64 v4.raw.op)), (.v (.string v4.raw.name)), (.v (.slice a5 ((Rw.encL v4.raw.args).length) c5)), (.v (.slice a6 ((Pt.encL v4.parts).length) c6))]], [], [(.slice a2 ((Rw.encL v1.raw.args).length) c2, .sl 3 (Rw.encL v1.raw.args)), (.slice a3 ((Pt.encL v1.parts).length) c3, .sl 8 (Pt.encL v1.parts)), (.slice a5 ((Rw.encL v4.raw.args).length) c5, .sl 3 (Rw.encL v4.raw.args)), (.slice a6 ((Pt.encL v4.parts).length) c6, .sl 8 (Pt.encL v4.parts))]⟩, fun x => x.1 ≤ N ∧ R02_SamePart_L1 x.1 v1 v4 x.2 = some r, fun x => x.1, (n, 0), ⟨by omega, hr⟩, ⟨rfl, rfl, rfl, trivial⟩, (StLe.gen 2 [] [.old 0, .old 1, .old 2, .old 3] rfl rfl rfl rfl rfl rfl rfl), fun x _ => ⟨rfl, rfl⟩, ?_⟩
        rintro ⟨n, v27⟩ HH
        obtain ⟨hn, hr⟩ : n ≤ N ∧ R02_SamePart_L1 n v1 v4 v27 = some r := HH
        rcases n with _ | n
        · exact no_some hr
        rw [R02_SamePart_L1.eq_2] at hr
        refine AtIf.mk (fun h28 => ?_) (fun h28 => ?_)
        · replace hr := cond_t h28 hr
          obtain ⟨v29, h30, hr⟩ := bind_some hr
          obtain ⟨h31, h32⟩ := idx_some h30
          refine at_index ttOK 1 rfl rfl rfl rfl h31 (Pt.encL_get h32) ?_
          intro a33 c33 _ _ a34 c34 _ _
          obtain ⟨v35, h36, hr⟩ := bind_some hr
          obtain ⟨h37, h38⟩ := idx_some h36
          refine at_index ttOK 3 rfl rfl rfl rfl h37 (Pt.encL_get h38) ?_
          intro a39 c39 _ _ a40 c40 _ _
          obtain ⟨v41, h42, hr⟩ := bind_some hr
          refine (ih n (by omega) v29 v35 a33 c33 a34 c34 a39 c39 a40 c40 _ h42).atR [4, 5, 6, 7] rfl rfl rfl ?_
          rintro _ _ ⟨rfl, rfl⟩
          refine AtIf.mk (fun h43 => ?_) (fun h43 => ?_)
          · replace hr := cond_t h43 hr
            replace hr := Option.some.inj hr
            subst hr
            exact AtRet.pureG [] [] rfl rfl ⟨rfl, rfl⟩
          · replace hr := cond_f h43 hr
            exact ⟨(n, (IntKind.i64.wrap (v27 + 1))), ⟨by omega, hr⟩, Nat.lt_succ_self _, ⟨rfl, rfl, rfl, trivial⟩, (StLe.gen 2 [] [.old 0, .old 1, .old 2, .old 3] rfl rfl rfl rfl rfl rfl rfl)⟩
        · replace hr := cond_f h28 hr
          replace hr := Option.some.inj hr
          subst hr
          exact AtRet.pureG [] [] rfl rfl ⟨rfl, rfl⟩
    · replace hr := cond_t h7 hr
      refine AtIf.mk (fun _ => ?_) (fun h => tf h)
      replace hr := Option.some.inj hr
      subst hr
      exact AtRet.pureG [] [] rfl rfl ⟨rfl, rfl⟩
theorem R02_SamePart_spec (n : Nat) (v1 : Pt) (v4 : Pt) (a2 : Option Addr) (c2 : Nat) (a3 : Option Addr) (c3 : Nat) (a5 : Option Addr) (c5 : Nat) (a6 : Option Addr) (c6 : Nat) (r : Bool) (hr : R02_SamePart n v1 v4 = some r) : Pure Tryz.prog (.val (.fn (.func 40) [] [])) [(.agg [(.v (.int .i64 v1.op)), (.v (.string v1.sign)), (.v (.string v1.name)), (.v (.int .i64 v1.n)), (.v (.int .i64 v1.raw.op)), (.v (.string v1.raw.name)), (.v (.slice a2 ((Rw.encL v1.raw.args).length) c2)), (.v (.slice a3 ((Pt.encL v1.parts).length) c3))]), (.agg [(.v (.int .i64 v4.op)), (.v (.string v4.sign)), (.v (.string v4.name)), (.v (.int .i64 v4.n)), (.v (.int .i64 v4.raw.op)), (.v (.string v4.raw.name)), (.v (.slice a5 ((Rw.encL v4.raw.args).length) c5)), (.v (.slice a6 ((Pt.encL v4.parts).length) c6))])] [(.slice a2 ((Rw.encL v1.raw.args).length) c2, .sl 3 (Rw.encL v1.raw.args)), (.slice a3 ((Pt.encL v1.parts).length) c3, .sl 8 (Pt.encL v1.parts)), (.slice a5 ((Rw.encL v4.raw.args).length) c5, .sl 3 (Rw.encL v4.raw.args)), (.slice a6 ((Pt.encL v4.parts).length) c6, .sl 8 (Pt.encL v4.parts))] (fun r' out => r' = (.v (.bool r)) ∧ out = []) := (R02_SamePart_specN n) n (Nat.le_refl _) v1 v4 a2 c2 a3 c3 a5 c5 a6 c6 r hr
mutual
def R02_SameItem : Nat → It → It → Option (Bool)
  | 0, _, _ => none
  | n + 1, v1, v4 =>
    cond ((!(v1.word.toList == v4.word.toList)) || (!(v1.name.toList == v4.name.toList))) (
    some (false)) (
    (R02_Same n v1.raw v4.raw).bind (fun v8 =>
    cond ((!v8) || (((Pt.encL v1.parts).length : Int) != ((Pt.encL v4.parts).length : Int))) (
    some (false)) (
    R02_SameItem_L1 n v1 v4 0)))
def R02_SameItem_L1 : Nat → It → It → Int → Option (Bool)
  | 0, _, _, _ => none
  | n + 1, v1, v4, v27 =>
    cond (decide (v27 < ((Pt.encL v1.parts).length : Int))) (
    (idx v1.parts v27).bind (fun v29 =>
    (idx v4.parts v27).bind (fun v35 =>
    (R02_SamePart n v29 v35).bind (fun v41 =>
    cond (!v41) (
    some (false)) (
    R02_SameItem_L1 n v1 v4 (IntKind.i64.wrap (v27 + 1))))))) (
    some (true))
 end
theorem R02_SameItem_spec (n : Nat) (v1 : It) (v4 : It) (a2 : Option Addr) (c2 : Nat) (a3 : Option Addr) (c3 : Nat) (a5 : Option Addr) (c5 : Nat) (a6 : Option Addr) (c6 : Nat) (r : Bool) (hr : R02_SameItem n v1 v4 = some r) : Pure Tryz.prog (.val (.fn (.func 13) [] [])) [(.agg [(.v (.string v1.word)), (.v (.string v1.name)), (.v (.int .i64 v1.raw.op)), (.v (.string v1.raw.name)), (.v (.slice a2 ((Rw.encL v1.raw.args).length) c2)), (.v (.slice a3 ((Pt.encL v1.parts).length) c3))]), (.agg [(.v (.string v4.word)), (.v (.string v4.name)), (.v (.int .i64 v4.raw.op)), (.v (.string v4.raw.name)), (.v (.slice a5 ((Rw.encL v4.raw.args).length) c5)), (.v (.slice a6 ((Pt.encL v4.parts).length) c6))])] [(.slice a2 ((Rw.encL v1.raw.args).length) c2, .sl 3 (Rw.encL v1.raw.args)), (.slice a3 ((Pt.encL v1.parts).length) c3, .sl 8 (Pt.encL v1.parts)), (.slice a5 ((Rw.encL v4.raw.args).length) c5, .sl 3 (Rw.encL v4.raw.args)), (.slice a6 ((Pt.encL v4.parts).length) c6, .sl 8 (Pt.encL v4.parts))] (fun r' out => r' = (.v (.bool r)) ∧ out = []) := by
  rcases n with _ | n
  · exact no_some hr
  rw [R02_SameItem.eq_2] at hr
  refine spec_of_body (N := 54) (m := 0) (dt := drawsOf [(6, .node [0, 1, 2, 3, 4, 5, 6, 7, 8, 9] [(10, .leaf [11])], [10], [])]) [] ttOK Tryz.func13 rfl Tryz.call13 Tryz.ntmps13 rfl rfl rfl mixed (by kernel_rfl) ?_
  refine AtGuard.mk (fun h7 => ?_) (fun h7 => ?_)
  · replace hr := cond_f h7 hr
    obtain ⟨v8, h9, hr⟩ := bind_some hr
    refine (R02_Same_spec n v1.raw v4.raw a2 c2 a5 c5 _ h9).atR [0, 2] rfl rfl rfl ?_
    rintro _ _ ⟨rfl, rfl⟩
    refine AtIf.mk (fun h10 => ?_) (fun h10 => ?_)
    · replace hr := cond_t h10 hr
      replace hr := Option.some.inj hr
      subst hr
      exact AtRet.pureG [] [] rfl rfl ⟨rfl, rfl⟩
    · replace hr := cond_f h10 hr
      refine AtLoop.mk ⟨Nat × Int, fun x => [(2, (.loc 0 0)), (3, (.loc 1 0)), (5, (.v (.int .i64 x.2)))], fun x => ⟨[.cells 33 [(.v (.string v1.word)), (.v (.string v1.name)), (.v (.int .i64 v1.raw.op)), (.v (.string v1.raw.name)), (.v (.slice a2 ((Rw.encL v1.raw.args).length) c2)), (.v (.slice a3 ((Pt.encL v1.parts).length) c3))], .cells 33 [(.v (.string v4.word)), (.v (.string v4.name)), (.v (.int .i64 v4.raw.op)), (.v (.string v4.raw.name)), (.v (.slice a5 ((Rw.encL v4.raw.args).length) c5)), (.v (.slice a6 ((Pt.encL v4.parts).length) c6))]], [], [(.slice a2 ((Rw.encL v1.raw.args).length) c2, .sl 3 (Rw.encL v1.raw.args)), (.slice a3 ((Pt.encL v1.parts).length) c3, .sl 8 (Pt.encL v1.parts)), (.slice a5 ((Rw.encL v4.raw.args).length) c5, .sl 3 (Rw.encL v4.raw.args)), (.slice a6 ((Pt.encL v4.parts).length) c6, .sl 8 (Pt.encL v4.parts))]⟩, fun x => R02_SameItem_L1 x.1 v1 v4 x.2 = some r, fun x => x.1, (n, 0), hr, ⟨rfl, rfl, rfl, trivial⟩, (StLe.gen 2 [] [.old 0, .old 1, .old 2, .old 3] rfl rfl rfl rfl rfl rfl rfl), fun x _ => ⟨rfl, rfl⟩, ?_⟩
      rintro ⟨n, v27⟩ HH
      have hr : R02_SameItem_L1 n v1 v4 v27 = some r := HH
      rcases n with _ | n
      · exact no_some hr
      rw [R02_SameItem_L1.eq_2] at hr
      refine AtIf.mk (fun h28 => ?_) (fun h28 => ?_)
      · replace hr := cond_t h28 hr
        obtain ⟨v29, h30, hr⟩ := bind_some hr
        obtain ⟨h31, h32⟩ := idx_some h30
        refine at_index ttOK 1 rfl rfl rfl rfl h31 (Pt.encL_get h32) ?_
        intro a33 c33 _ _ a34 c34 _ _
        obtain ⟨v35, h36, hr⟩ := bind_some hr
        obtain ⟨h37, h38⟩ := idx_some h36
        refine at_index ttOK 3 rfl rfl rfl rfl h37 (Pt.encL_get h38) ?_
        intro a39 c39 _ _ a40 c40 _ _
        obtain ⟨v41, h42, hr⟩ := bind_some hr
        refine (R02_SamePart_spec n v29 v35 a33 c33 a34 c34 a39 c39 a40 c40 _ h42).atR [4, 5, 6, 7] rfl rfl rfl ?_
        rintro _ _ ⟨rfl, rfl⟩
        refine AtIf.mk (fun h43 => ?_) (fun h43 => ?_)
        · replace hr := cond_t h43 hr
          replace hr := Option.some.inj hr
          subst hr
          exact AtRet.pureG [] [] rfl rfl ⟨rfl, rfl⟩
        · replace hr := cond_f h43 hr
          exact ⟨(n, (IntKind.i64.wrap (v27 + 1))), hr, Nat.lt_succ_self _, ⟨rfl, rfl, rfl, trivial⟩, (StLe.gen 2 [] [.old 0, .old 1, .old 2, .old 3] rfl rfl rfl rfl rfl rfl rfl)⟩
      · replace hr := cond_f h28 hr
        replace hr := Option.some.inj hr
        subst hr
        exact AtRet.pureG [] [] rfl rfl ⟨rfl, rfl⟩
  · replace hr := cond_t h7 hr
    refine AtIf.mk (fun _ => ?_) (fun h => tf h)
    replace hr := Option.some.inj hr
    subst hr
    exact AtRet.pureG [] [] rfl rfl ⟨rfl, rfl⟩
def mode_of : Nat → Tm → (List (Int × Md)) → Option (Md × Bool)
  | 0, _, _ => none
  | n + 1, v1, v3 =>
    some (((mget v3 v1.n).getD (Md.mk 0 ([]))), (((((mget v3 v1.n).isSome) && (v1.op == 4)) && (v1.hd == 2)) && (((List.map (D.int .i64) (((mget v3 v1.n).getD (Md.mk 0 ([]))).signs)).length : Int) == ((Tm.encL v1.args).length : Int))))
theorem mode_of_spec (n : Nat) (v1 : Tm) (g4 : (List (Int × GE Md))) (a2 : Option Addr) (c2 : Nat) (r : Md × Bool) (hr : mode_of n v1 (er g4) = some r) : Meets Tryz.prog (.val (.fn (.func 96) [] [])) [(.mp 0), (.agg [(.v (.int .i64 v1.op)), (.v (.int .i64 v1.hd)), (.v (.int .i64 v1.n)), (.v (.slice a2 ((Tm.encL v1.args).length) c2))])] ⟨[.obj (mapO .i64 (encM Md.gv g4))], [], [(.slice a2 ((Tm.encL v1.args).length) c2, .sl 4 (Tm.encL v1.args)), (agV 1 Md.gp g4, agD 1 Md.gp g4)]⟩ (fun o S' => ∃ (b1 : Option Addr) (d1 : Nat), o = .ret (.tup [(.agg [(.v (.int .i64 r.1.family)), (.v (.slice b1 ((List.map (D.int .i64) r.1.signs).length) d1))]), (.v (.bool r.2))]) ∧ S' = ⟨[.obj (mapO .i64 (encM Md.gv g4))], [], [(.slice b1 ((List.map (D.int .i64) r.1.signs).length) d1, .sl 1 (List.map (D.int .i64) r.1.signs))]⟩) := by
  rcases n with _ | n
  · exact no_some hr
  rw [mode_of.eq_2] at hr
  refine spec_of_body (N := 36) (m := 1) (dt := drawsOf [(2, .node [0, 1, 2, 3, 4, 5, 6, 7, 8, 9, 10, 11, 12, 13, 14, 15, 16, 17, 18, 19, 20] [(21, .leaf [22])], [], [2])]) [] ttOK Tryz.func96 rfl Tryz.call96 Tryz.ntmps96 rfl rfl rfl mixed (by kernel_rfl) ?_
  refine at_lookupGE ttOK Md.gv Md.gk 1 Md.gp (Md.mk 0 ([])) _ 1 rfl Tryz.underlying3 Tryz.zeroValue25 rfl rfl (fun _ _ _ _ => rfl) (fun _ _ _ _ => rfl) rfl rfl rfl rfl ?_
  intro a5 c5
  refine ⟨fun _ _ h => h, ?_⟩
  replace hr := Option.some.inj hr
  subst hr
  exact AtRet.gen ⟨[.obj (mapO .i64 (encM Md.gv g4))], [], [(.slice a5 ((List.map (D.int .i64) (((mget (er g4) v1.n).getD (Md.mk 0 ([]))).signs)).length) c5, .sl 1 (List.map (D.int .i64) (((mget (er g4) v1.n).getD (Md.mk 0 ([]))).signs)))]⟩ (StLe.gen 1 [] [.old 2] rfl rfl rfl rfl rfl rfl rfl) rfl rfl ⟨a5, c5, rfl, rfl⟩
mutual
def W14_ints : Nat → (List Int) → (List Int) → Option (Bool)
  | 0, _, _ => none
  | n + 1, v1, v3 =>
    cond (((List.map (D.int .i64) v1).length : Int) != ((List.map (D.int .i64) v3).length : Int)) (
    some (false)) (
    W14_ints_L1 n v1 v3 0)
def W14_ints_L1 : Nat → (List Int) → (List Int) → Int → Option (Bool)
  | 0, _, _, _ => none
  | n + 1, v1, v3, v16 =>
    cond (decide (v16 < ((List.map (D.int .i64) v1).length : Int))) (
    (idx v1 v16).bind (fun v18 =>
    (idx v3 v16).bind (fun v22 =>
    cond (v18 != v22) (
    some (false)) (
    W14_ints_L1 n v1 v3 (IntKind.i64.wrap (v16 + 1)))))) (
    some (true))
 end
theorem W14_ints_spec (n : Nat) (v1 : (List Int)) (v3 : (List Int)) (a2 : Option Addr) (c2 : Nat) (a4 : Option Addr) (c4 : Nat) (r : Bool) (hr : W14_ints n v1 v3 = some r) : Pure Tryz.prog (.val (.fn (.func 31) [] [])) [(.v (.slice a2 ((List.map (D.int .i64) v1).length) c2)), (.v (.slice a4 ((List.map (D.int .i64) v3).length) c4))] [(.slice a2 ((List.map (D.int .i64) v1).length) c2, .sl 1 (List.map (D.int .i64) v1)), (.slice a4 ((List.map (D.int .i64) v3).length) c4, .sl 1 (List.map (D.int .i64) v3))] (fun r' out => r' = (.v (.bool r)) ∧ out = []) := by
  rcases n with _ | n
  · exact no_some hr
  rw [W14_ints.eq_2] at hr
  refine spec_of_body (N := 26) (m := 0) (dt := drawsOf [(6, .leaf [0, 1, 2, 3, 4, 5, 6, 7, 8], [], [])]) [] ttOK Tryz.func31 rfl Tryz.call31 Tryz.ntmps31 rfl rfl rfl mixed (by kernel_rfl) ?_
  refine AtIf.mk (fun h5 => ?_) (fun h5 => ?_)
  · replace hr := cond_t h5 hr
    replace hr := Option.some.inj hr
    subst hr
    exact AtRet.pureG [] [] rfl rfl ⟨rfl, rfl⟩
  · replace hr := cond_f h5 hr
    refine AtLoop.mk ⟨Nat × Int, fun x => [(0, (.v (.slice a2 ((List.map (D.int .i64) v1).length) c2))), (1, (.v (.slice a4 ((List.map (D.int .i64) v3).length) c4))), (5, (.v (.int .i64 x.2)))], fun x => ⟨[], [], [(.slice a2 ((List.map (D.int .i64) v1).length) c2, .sl 1 (List.map (D.int .i64) v1)), (.slice a4 ((List.map (D.int .i64) v3).length) c4, .sl 1 (List.map (D.int .i64) v3))]⟩, fun x => W14_ints_L1 x.1 v1 v3 x.2 = some r, fun x => x.1, (n, 0), hr, ⟨rfl, rfl, rfl, trivial⟩, (StLe.gen 0 [] [.old 0, .old 1] rfl rfl rfl rfl rfl rfl rfl), fun x _ => ⟨rfl, rfl⟩, ?_⟩
    rintro ⟨n, v16⟩ HH
    have hr : W14_ints_L1 n v1 v3 v16 = some r := HH
    rcases n with _ | n
    · exact no_some hr
    rw [W14_ints_L1.eq_2] at hr
    refine AtIf.mk (fun h17 => ?_) (fun h17 => ?_)
    · replace hr := cond_t h17 hr
      obtain ⟨v18, h19, hr⟩ := bind_some hr
      obtain ⟨h20, h21⟩ := idx_some h19
      refine at_index ttOK 0 rfl rfl rfl rfl h20 (map_get (D.int .i64) h21) ?_
      obtain ⟨v22, h23, hr⟩ := bind_some hr
      obtain ⟨h24, h25⟩ := idx_some h23
      refine at_index ttOK 1 rfl rfl rfl rfl h24 (map_get (D.int .i64) h25) ?_
      refine AtIf.mk (fun h26 => ?_) (fun h26 => ?_)
      · replace hr := cond_t h26 hr
        replace hr := Option.some.inj hr
        subst hr
        exact AtRet.pureG [] [] rfl rfl ⟨rfl, rfl⟩
      · replace hr := cond_f h26 hr
        exact ⟨(n, (IntKind.i64.wrap (v16 + 1))), hr, Nat.lt_succ_self _, ⟨rfl, rfl, rfl, trivial⟩, (StLe.gen 0 [] [.old 0, .old 1] rfl rfl rfl rfl rfl rfl rfl)⟩
    · replace hr := cond_f h17 hr
      replace hr := Option.some.inj hr
      subst hr
      exact AtRet.pureG [] [] rfl rfl ⟨rfl, rfl⟩
def W14_same : Nat → Md → Md → Option (Bool)
  | 0, _, _ => none
  | n + 1, v1, v3 =>
    cond (v1.family == v3.family) (
    (W14_ints n v1.signs v3.signs).bind (fun v6 =>
    some (v6))) (
    some (false))
theorem W14_same_spec (n : Nat) (v1 : Md) (v3 : Md) (a2 : Option Addr) (c2 : Nat) (a4 : Option Addr) (c4 : Nat) (r : Bool) (hr : W14_same n v1 v3 = some r) : Pure Tryz.prog (.val (.fn (.func 9) [] [])) [(.agg [(.v (.int .i64 v1.family)), (.v (.slice a2 ((List.map (D.int .i64) v1.signs).length) c2))]), (.agg [(.v (.int .i64 v3.family)), (.v (.slice a4 ((List.map (D.int .i64) v3.signs).length) c4))])] [(.slice a2 ((List.map (D.int .i64) v1.signs).length) c2, .sl 1 (List.map (D.int .i64) v1.signs)), (.slice a4 ((List.map (D.int .i64) v3.signs).length) c4, .sl 1 (List.map (D.int .i64) v3.signs))] (fun r' out => r' = (.v (.bool r)) ∧ out = []) := by
  rcases n with _ | n
  · exact no_some hr
  rw [W14_same.eq_2] at hr
  refine spec_of_body (N := 17) (m := 0) (dt := fun _ => none) [] ttOK Tryz.func9 rfl Tryz.call9 Tryz.ntmps9 rfl rfl rfl mixed (by kernel_rfl) ?_
  refine AtGuard.mk (fun h5 => ?_) (fun h5 => ?_)
  · replace hr := cond_t h5 hr
    obtain ⟨v6, h7, hr⟩ := bind_some hr
    refine (W14_ints_spec n v1.signs v3.signs a2 c2 a4 c4 _ h7).atR [0, 1] rfl rfl rfl ?_
    rintro _ _ ⟨rfl, rfl⟩
    replace hr := Option.some.inj hr
    subst hr
    exact AtRet.pureG [] [] rfl rfl ⟨rfl, rfl⟩
  · replace hr := cond_f h5 hr
    replace hr := Option.some.inj hr
    subst hr
    exact AtRet.pureG [] [] rfl rfl ⟨rfl, rfl⟩
def R05_IsName : Nat → ByteArray → Option (Bool)
  | 0, _ => none
  | n + 1, v1 =>
    some (((isSmallF v1) && (!(v1.toList == (⟨#[116, 121, 112, 101]⟩ : ByteArray).toList))))
theorem R05_IsName_spec (n : Nat) (v1 : ByteArray)  (r : Bool) (hr : R05_IsName n v1 = some r) : Pure Tryz.prog (.val (.fn (.func 64) [] [])) [(.v (.string v1))] [] (fun r' out => r' = (.v (.bool r)) ∧ out = []) := by
  rcases n with _ | n
  · exact no_some hr
  rw [R05_IsName.eq_2] at hr
  refine spec_of_body (N := 9) (m := 0) (dt := fun _ => none) [] ttOK Tryz.func64 rfl Tryz.call64 Tryz.ntmps64 rfl rfl rfl mixed (by kernel_rfl) ?_
  refine (refIsSmall_spec v1).atR [] rfl rfl rfl ?_
  rintro _ _ ⟨rfl, rfl⟩
  replace hr := Option.some.inj hr
  subst hr
  exact AtRet.pureG [] [] rfl rfl ⟨rfl, rfl⟩
def R03_Constants : Nat → Tm → Option ((List Int))
  | 0, _ => none
  | n + 1, v1 =>
    cond (decide ((0 : Int) ≤ 0 ∧ (0 : Int) + (v1.height : Int) ≤ 1000000 ∧ ([] : List Int).length + v1.count ≤ 1000000)) (
    some ((headsF 2 v1 0 ([])))) none
theorem R03_Constants_spec (n : Nat) (v1 : Tm) (a2 : Option Addr) (c2 : Nat) (r : (List Int)) (hr : R03_Constants n v1 = some r) : Pure Tryz.prog (.val (.fn (.func 90) [] [])) [(.agg [(.v (.int .i64 v1.op)), (.v (.int .i64 v1.hd)), (.v (.int .i64 v1.n)), (.v (.slice a2 ((Tm.encL v1.args).length) c2))])] [(.slice a2 ((Tm.encL v1.args).length) c2, .sl 4 (Tm.encL v1.args))] (fun r' out => ∃ (b1 : Option Addr) (d1 : Nat), r' = (.v (.slice b1 ((List.map (D.int .i64) r).length) d1)) ∧ out = [(.slice b1 ((List.map (D.int .i64) r).length) d1, .sl 1 (List.map (D.int .i64) r))]) := by
  rcases n with _ | n
  · exact no_some hr
  rw [R03_Constants.eq_2] at hr
  refine spec_of_body (N := 5) (m := 0) (dt := fun _ => none) [] ttOK Tryz.func90 rfl Tryz.call90 Tryz.ntmps90 rfl rfl rfl mixed (by kernel_rfl) ?_
  obtain ⟨h3, hr⟩ := cond_need hr
  refine Meets.nilRep 1 ?_
  refine (heads0 2 v1 0 ([]) a2 none c2 0 (of_decide_eq_true h3).1 (of_decide_eq_true h3).2.1 (of_decide_eq_true h3).2.2).atR [1, 0] rfl rfl rfl ?_
  rintro _ _ ⟨a4, c4, rfl, rfl⟩
  replace hr := Option.some.inj hr
  subst hr
  exact AtRet.pureG [.old 2] [(.slice a4 ((List.map (D.int .i64) (headsF 2 v1 0 ([]))).length) c4, .sl 1 (List.map (D.int .i64) (headsF 2 v1 0 ([]))))] rfl rfl ⟨a4, c4, rfl, rfl⟩
def R03_Free : Nat → Tm → Option ((List Int))
  | 0, _ => none
  | n + 1, v1 =>
    cond (decide ((0 : Int) ≤ 0 ∧ (0 : Int) + (v1.height : Int) ≤ 1000000 ∧ ([] : List Int).length + v1.count ≤ 1000000)) (
    some ((headsF 1 v1 0 ([])))) none
theorem R03_Free_spec (n : Nat) (v1 : Tm) (a2 : Option Addr) (c2 : Nat) (r : (List Int)) (hr : R03_Free n v1 = some r) : Pure Tryz.prog (.val (.fn (.func 91) [] [])) [(.agg [(.v (.int .i64 v1.op)), (.v (.int .i64 v1.hd)), (.v (.int .i64 v1.n)), (.v (.slice a2 ((Tm.encL v1.args).length) c2))])] [(.slice a2 ((Tm.encL v1.args).length) c2, .sl 4 (Tm.encL v1.args))] (fun r' out => ∃ (b1 : Option Addr) (d1 : Nat), r' = (.v (.slice b1 ((List.map (D.int .i64) r).length) d1)) ∧ out = [(.slice b1 ((List.map (D.int .i64) r).length) d1, .sl 1 (List.map (D.int .i64) r))]) := by
  rcases n with _ | n
  · exact no_some hr
  rw [R03_Free.eq_2] at hr
  refine spec_of_body (N := 5) (m := 0) (dt := fun _ => none) [] ttOK Tryz.func91 rfl Tryz.call91 Tryz.ntmps91 rfl rfl rfl mixed (by kernel_rfl) ?_
  obtain ⟨h3, hr⟩ := cond_need hr
  refine Meets.nilRep 1 ?_
  refine (heads0 1 v1 0 ([]) a2 none c2 0 (of_decide_eq_true h3).1 (of_decide_eq_true h3).2.1 (of_decide_eq_true h3).2.2).atR [1, 0] rfl rfl rfl ?_
  rintro _ _ ⟨a4, c4, rfl, rfl⟩
  replace hr := Option.some.inj hr
  subst hr
  exact AtRet.pureG [.old 2] [(.slice a4 ((List.map (D.int .i64) (headsF 1 v1 0 ([]))).length) c4, .sl 1 (List.map (D.int .i64) (headsF 1 v1 0 ([]))))] rfl rfl ⟨a4, c4, rfl, rfl⟩
def R03_Metas : Nat → Tm → Option ((List Int))
  | 0, _ => none
  | n + 1, v1 =>
    cond (decide ((0 : Int) ≤ 0 ∧ (0 : Int) + (v1.height : Int) ≤ 1000000 ∧ ([] : List Int).length + v1.count ≤ 1000000)) (
    some ((headsF 3 v1 0 ([])))) none
theorem R03_Metas_spec (n : Nat) (v1 : Tm) (a2 : Option Addr) (c2 : Nat) (r : (List Int)) (hr : R03_Metas n v1 = some r) : Pure Tryz.prog (.val (.fn (.func 92) [] [])) [(.agg [(.v (.int .i64 v1.op)), (.v (.int .i64 v1.hd)), (.v (.int .i64 v1.n)), (.v (.slice a2 ((Tm.encL v1.args).length) c2))])] [(.slice a2 ((Tm.encL v1.args).length) c2, .sl 4 (Tm.encL v1.args))] (fun r' out => ∃ (b1 : Option Addr) (d1 : Nat), r' = (.v (.slice b1 ((List.map (D.int .i64) r).length) d1)) ∧ out = [(.slice b1 ((List.map (D.int .i64) r).length) d1, .sl 1 (List.map (D.int .i64) r))]) := by
  rcases n with _ | n
  · exact no_some hr
  rw [R03_Metas.eq_2] at hr
  refine spec_of_body (N := 5) (m := 0) (dt := fun _ => none) [] ttOK Tryz.func92 rfl Tryz.call92 Tryz.ntmps92 rfl rfl rfl mixed (by kernel_rfl) ?_
  obtain ⟨h3, hr⟩ := cond_need hr
  refine Meets.nilRep 1 ?_
  refine (heads0 3 v1 0 ([]) a2 none c2 0 (of_decide_eq_true h3).1 (of_decide_eq_true h3).2.1 (of_decide_eq_true h3).2.2).atR [1, 0] rfl rfl rfl ?_
  rintro _ _ ⟨a4, c4, rfl, rfl⟩
  replace hr := Option.some.inj hr
  subst hr
  exact AtRet.pureG [.old 2] [(.slice a4 ((List.map (D.int .i64) (headsF 3 v1 0 ([]))).length) c4, .sl 1 (List.map (D.int .i64) (headsF 3 v1 0 ([]))))] rfl rfl ⟨a4, c4, rfl, rfl⟩
def R05_closed : Nat → Tm → Int → Option (Bool)
  | 0, _, _ => none
  | n + 1, v1, v3 =>
    (R03_Constants n v1).bind (fun v4 =>
    (R03_Free n v1).bind (fun v7 =>
    cond (((List.map (D.int .i64) v7).length : Int) == 0) (
    (R03_Metas n v1).bind (fun v11 =>
    cond (((List.map (D.int .i64) v11).length : Int) == 0) (
    cond (((List.map (D.int .i64) v4).length : Int) == 0) (
    some (true)) (
    (idx v4 (IntKind.i64.wrap (((List.map (D.int .i64) v4).length : Int) - 1))).bind (fun v16 =>
    some ((decide (v16 < v3)))))) (
    some (false)))) (
    some (false))))
theorem R05_closed_spec (n : Nat) (v1 : Tm) (v3 : Int) (a2 : Option Addr) (c2 : Nat) (r : Bool) (hr : R05_closed n v1 v3 = some r) : Pure Tryz.prog (.val (.fn (.func 66) [] [])) [(.agg [(.v (.int .i64 v1.op)), (.v (.int .i64 v1.hd)), (.v (.int .i64 v1.n)), (.v (.slice a2 ((Tm.encL v1.args).length) c2))]), (.v (.int .i64 v3))] [(.slice a2 ((Tm.encL v1.args).length) c2, .sl 4 (Tm.encL v1.args))] (fun r' out => r' = (.v (.bool r)) ∧ out = []) := by
  rcases n with _ | n
  · exact no_some hr
  rw [R05_closed.eq_2] at hr
  refine spec_of_body (N := 33) (m := 0) (dt := fun _ => none) [] ttOK Tryz.func66 rfl Tryz.call66 Tryz.ntmps66 rfl rfl rfl mixed (by kernel_rfl) ?_
  obtain ⟨v4, h5, hr⟩ := bind_some hr
  refine (R03_Constants_spec n v1 a2 c2 _ h5).atR [0] rfl rfl rfl ?_
  rintro _ _ ⟨a6, c6, rfl, rfl⟩
  obtain ⟨v7, h8, hr⟩ := bind_some hr
  refine (R03_Free_spec n v1 a2 c2 _ h8).atR [0] rfl rfl rfl ?_
  rintro _ _ ⟨a9, c9, rfl, rfl⟩
  refine AtGuard.mk (fun h10 => ?_) (fun h10 => ?_)
  · replace hr := cond_t h10 hr
    obtain ⟨v11, h12, hr⟩ := bind_some hr
    refine (R03_Metas_spec n v1 a2 c2 _ h12).atR [0] rfl rfl rfl ?_
    rintro _ _ ⟨a13, c13, rfl, rfl⟩
    refine AtGuard.mk (fun h14 => ?_) (fun h14 => ?_)
    · replace hr := cond_t h14 hr
      refine AtGuard.mk (fun h15 => ?_) (fun h15 => ?_)
      · replace hr := cond_f h15 hr
        obtain ⟨v16, h17, hr⟩ := bind_some hr
        obtain ⟨h18, h19⟩ := idx_some h17
        refine at_index ttOK 1 rfl rfl rfl rfl h18 (map_get (D.int .i64) h19) ?_
        replace hr := Option.some.inj hr
        subst hr
        exact AtRet.pureG [] [] rfl rfl ⟨rfl, rfl⟩
      · replace hr := cond_t h15 hr
        replace hr := Option.some.inj hr
        subst hr
        exact AtRet.pureG [] [] rfl rfl ⟨rfl, rfl⟩
    · replace hr := cond_f h14 hr
      replace hr := Option.some.inj hr
      subst hr
      exact AtRet.pureG [] [] rfl rfl ⟨rfl, rfl⟩
  · replace hr := cond_f h10 hr
    refine AtGuard.mk (fun h => ff h) (fun _ => ?_)
    replace hr := Option.some.inj hr
    subst hr
    exact AtRet.pureG [] [] rfl rfl ⟨rfl, rfl⟩
mutual
def R05_formed : Nat → (List Dc) → Dc → Option (Bool)
  | 0, _, _ => none
  | n + 1, v1, v3 =>
    (R05_IsName n v3.name).bind (fun v5 =>
    cond (!v5) (
    some (false)) (
    cond (!(refProper v3.cls)) (
    some (false)) (
    (R05_closed n v3.cls ((Dc.encL v1).length : Int)).bind (fun v9 =>
    cond (!v9) (
    some (false)) (
    R05_formed_L1 n v1 v3 0)))))
def R05_formed_L1 : Nat → (List Dc) → Dc → Int → Option (Bool)
  | 0, _, _, _ => none
  | n + 1, v1, v3, v19 =>
    cond (decide (v19 < ((Dc.encL v1).length : Int))) (
    (idx v1 v19).bind (fun v21 =>
    cond (v21.name.toList == v3.name.toList) (
    some (false)) (
    R05_formed_L1 n v1 v3 (IntKind.i64.wrap (v19 + 1))))) (
    (R03_Split n v3.cls).bind (fun v27 =>
    cond (v27.2.op == 4) (
    cond (v27.2.hd != 2) (
    some (false)) (
    (R05_family n v1 v27.2.n).bind (fun v33 =>
    cond (!v33) (
    some (false)) (
    some (((((v27.2.op == 1) || (v27.2.op == 4)) && (decide (v3.implicit ≥ 0))) && (decide (v3.implicit ≤ ((Tm.encL v27.1).length : Int))))))))) (
    some (((((v27.2.op == 1) || (v27.2.op == 4)) && (decide (v3.implicit ≥ 0))) && (decide (v3.implicit ≤ ((Tm.encL v27.1).length : Int))))))))
 end
theorem R05_formed_spec (n : Nat) (v1 : (List Dc)) (v3 : Dc) (a2 : Option Addr) (c2 : Nat) (a4 : Option Addr) (c4 : Nat) (r : Bool) (hr : R05_formed n v1 v3 = some r) : Pure Tryz.prog (.val (.fn (.func 43) [] [])) [(.v (.slice a2 ((Dc.encL v1).length) c2)), (.agg [(.v (.string v3.name)), (.v (.int .i64 v3.cls.op)), (.v (.int .i64 v3.cls.hd)), (.v (.int .i64 v3.cls.n)), (.v (.slice a4 ((Tm.encL v3.cls.args).length) c4)), (.v (.int .i64 v3.implicit))])] [(.slice a2 ((Dc.encL v1).length) c2, .sl 6 (Dc.encL v1)), (.slice a4 ((Tm.encL v3.cls.args).length) c4, .sl 4 (Tm.encL v3.cls.args))] (fun r' out => r' = (.v (.bool r)) ∧ out = []) := by
  rcases n with _ | n
  · exact no_some hr
  rw [R05_formed.eq_2] at hr
  refine spec_of_body (N := 80) (m := 0) (dt := fun _ => none) [] ttOK Tryz.func43 rfl Tryz.call43 Tryz.ntmps43 rfl rfl rfl mixed (by kernel_rfl) ?_
  obtain ⟨v5, h6, hr⟩ := bind_some hr
  refine (R05_IsName_spec n v3.name _ h6).atR [] rfl rfl rfl ?_
  rintro _ _ ⟨rfl, rfl⟩
  refine AtGuard.mk (fun h7 => ?_) (fun h7 => ?_)
  · replace hr := cond_f h7 hr
    refine (refProper_spec v3.cls a4 c4).atR [1] rfl rfl rfl ?_
    rintro _ _ ⟨rfl, rfl⟩
    refine AtGuard.mk (fun h8 => ?_) (fun h8 => ?_)
    · replace hr := cond_f h8 hr
      obtain ⟨v9, h10, hr⟩ := bind_some hr
      refine (R05_closed_spec n v3.cls ((Dc.encL v1).length : Int) a4 c4 _ h10).atR [1] rfl rfl rfl ?_
      rintro _ _ ⟨rfl, rfl⟩
      refine AtIf.mk (fun h11 => ?_) (fun h11 => ?_)
      · replace hr := cond_t h11 hr
        replace hr := Option.some.inj hr
        subst hr
        exact AtRet.pureG [] [] rfl rfl ⟨rfl, rfl⟩
      · replace hr := cond_f h11 hr
        refine AtLoop.mk ⟨Nat × Int, fun x => [(0, (.v (.slice a2 ((Dc.encL v1).length) c2))), (3, (.loc 0 0)), (27, (.v (.slice a2 ((Dc.encL v1).length) c2))), (28, (.v (.int .i64 ((Dc.encL v1).length : Int)))), (29, (.v (.int .i64 x.2)))], fun x => ⟨[.cells 57 [(.v (.string v3.name)), (.v (.int .i64 v3.cls.op)), (.v (.int .i64 v3.cls.hd)), (.v (.int .i64 v3.cls.n)), (.v (.slice a4 ((Tm.encL v3.cls.args).length) c4)), (.v (.int .i64 v3.implicit))]], [], [(.slice a2 ((Dc.encL v1).length) c2, .sl 6 (Dc.encL v1)), (.slice a4 ((Tm.encL v3.cls.args).length) c4, .sl 4 (Tm.encL v3.cls.args))]⟩, fun x => R05_formed_L1 x.1 v1 v3 x.2 = some r, fun x => x.1, (n, 0), hr, ⟨rfl, rfl, rfl, rfl, rfl, trivial⟩, (StLe.gen 1 [] [.old 0, .old 1] rfl rfl rfl rfl rfl rfl rfl), fun x _ => ⟨rfl, rfl⟩, ?_⟩
        rintro ⟨n, v19⟩ HH
        have hr : R05_formed_L1 n v1 v3 v19 = some r := HH
        rcases n with _ | n
        · exact no_some hr
        rw [R05_formed_L1.eq_2] at hr
        refine AtIf.mk (fun h20 => ?_) (fun h20 => ?_)
        · replace hr := cond_t h20 hr
          obtain ⟨v21, h22, hr⟩ := bind_some hr
          obtain ⟨h23, h24⟩ := idx_some h22
          refine at_index ttOK 0 rfl rfl rfl rfl h23 (Dc.encL_get h24) ?_
          intro a25 c25 _ _
          refine AtIf.mk (fun h26 => ?_) (fun h26 => ?_)
          · replace hr := cond_t h26 hr
            replace hr := Option.some.inj hr
            subst hr
            exact AtRet.pureG [] [] rfl rfl ⟨rfl, rfl⟩
          · replace hr := cond_f h26 hr
            exact ⟨(n, (IntKind.i64.wrap (v19 + 1))), hr, Nat.lt_succ_self _, ⟨rfl, rfl, rfl, rfl, rfl, trivial⟩, (StLe.gen 1 [] [.old 0, .old 1] rfl rfl rfl rfl rfl rfl rfl)⟩
        · replace hr := cond_f h20 hr
          obtain ⟨v27, h28, hr⟩ := bind_some hr
          refine (R03_Split_spec n v3.cls a4 c4 _ h28).atR [1] rfl rfl rfl ?_
          rintro _ _ ⟨a29, c29, a30, c30, rfl, rfl⟩
          refine AtGuard.mk (fun h31 => ?_) (fun h31 => ?_)
          · replace hr := cond_t h31 hr
            refine AtGuard.mk (fun h32 => ?_) (fun h32 => ?_)
            · replace hr := cond_f h32 hr
              obtain ⟨v33, h34, hr⟩ := bind_some hr
              refine (R05_family_spec n v1 v27.2.n a2 c2 _ h34).atR [0] rfl rfl rfl ?_
              rintro _ _ ⟨rfl, rfl⟩
              refine AtIf.mk (fun h35 => ?_) (fun h35 => ?_)
              · replace hr := cond_t h35 hr
                replace hr := Option.some.inj hr
                subst hr
                exact AtRet.pureG [] [] rfl rfl ⟨rfl, rfl⟩
              · replace hr := cond_f h35 hr
                replace hr := Option.some.inj hr
                subst hr
                exact AtRet.pureG [] [] rfl rfl ⟨rfl, rfl⟩
            · replace hr := cond_t h32 hr
              refine AtIf.mk (fun _ => ?_) (fun h => tf h)
              replace hr := Option.some.inj hr
              subst hr
              exact AtRet.pureG [] [] rfl rfl ⟨rfl, rfl⟩
          · replace hr := cond_f h31 hr
            refine AtIf.mk (fun h => ff h) (fun _ => ?_)
            replace hr := Option.some.inj hr
            subst hr
            exact AtRet.pureG [] [] rfl rfl ⟨rfl, rfl⟩
    · replace hr := cond_t h8 hr
      refine AtIf.mk (fun _ => ?_) (fun h => tf h)
      replace hr := Option.some.inj hr
      subst hr
      exact AtRet.pureG [] [] rfl rfl ⟨rfl, rfl⟩
  · replace hr := cond_t h7 hr
    refine AtGuard.mk (fun h => tf h) (fun _ => ?_)
    refine AtIf.mk (fun _ => ?_) (fun h => tf h)
    replace hr := Option.some.inj hr
    subst hr
    exact AtRet.pureG [] [] rfl rfl ⟨rfl, rfl⟩
mutual
def R05_Formed : Nat → (List Dc) → Option (Bool)
  | 0, _ => none
  | n + 1, v1 =>
    R05_Formed_L1 n v1 0
def R05_Formed_L1 : Nat → (List Dc) → Int → Option (Bool)
  | 0, _, _ => none
  | n + 1, v1, v14 =>
    cond ((decide (v14 < ((Dc.encL v1).length : Int))) && (decide (((Dc.encL v1).length : Int) ≤ 100))) (
    cond (decide ((0 : Int) ≤ (0 : Int) ∧ (0 : Int) ≤ v14 ∧ v14 ≤ ((Dc.encL v1).length : Int))) (
    (idx v1 v14).bind (fun v18 =>
    (R05_formed n (v1.take v14.toNat) v18).bind (fun v23 =>
    cond (!v23) (
    some (false)) (
    R05_Formed_L1 n v1 (IntKind.i64.wrap (v14 + 1)))))) none) (
    some ((decide (((Dc.encL v1).length : Int) ≤ 100))))
 end
theorem R05_Formed_spec (n : Nat) (v1 : (List Dc)) (a2 : Option Addr) (c2 : Nat) (r : Bool) (hr : R05_Formed n v1 = some r) : Pure Tryz.prog (.val (.fn (.func 17) [] [])) [(.v (.slice a2 ((Dc.encL v1).length) c2))] [(.slice a2 ((Dc.encL v1).length) c2, .sl 6 (Dc.encL v1))] (fun r' out => r' = (.v (.bool r)) ∧ out = []) := by
  rcases n with _ | n
  · exact no_some hr
  rw [R05_Formed.eq_2] at hr
  refine spec_of_body (N := 27) (m := 0) (dt := drawsOf [(4, .node [0, 1, 2, 3, 4, 5, 6] [(7, .leaf [8])], [7], [])]) [] ttOK Tryz.func17 rfl Tryz.call17 Tryz.ntmps17 rfl rfl rfl mixed (by kernel_rfl) ?_
  refine AtLoop.mk ⟨Nat × Int, fun x => [(0, (.v (.slice a2 ((Dc.encL v1).length) c2))), (3, (.v (.int .i64 x.2)))], fun x => ⟨[], [], [(.slice a2 ((Dc.encL v1).length) c2, .sl 6 (Dc.encL v1))]⟩, fun x => R05_Formed_L1 x.1 v1 x.2 = some r, fun x => x.1, (n, 0), hr, ⟨rfl, rfl, trivial⟩, (StLe.gen 0 [] [.old 0] rfl rfl rfl rfl rfl rfl rfl), fun x _ => ⟨rfl, rfl⟩, ?_⟩
  rintro ⟨n, v14⟩ HH
  have hr : R05_Formed_L1 n v1 v14 = some r := HH
  rcases n with _ | n
  · exact no_some hr
  rw [R05_Formed_L1.eq_2] at hr
  refine AtIf.mk (fun h15 => ?_) (fun h15 => ?_)
  · replace hr := cond_t h15 hr
    obtain ⟨h16, hr⟩ := cond_need hr
    refine at_sliceG ttOK 0 0 v14 (ds' := (Dc.encL (v1.take v14.toNat))) rfl rfl rfl (.inr ⟨rfl, rfl⟩) (.inl ⟨_, rfl⟩) h16 (by simp only [Dc.encL_eq]; exact sl_h ..) ?_
    intro a17 c17
    obtain ⟨v18, h19, hr⟩ := bind_some hr
    obtain ⟨h20, h21⟩ := idx_some h19
    refine at_index ttOK 0 rfl rfl rfl rfl h20 (Dc.encL_get h21) ?_
    intro a22 c22 _ _
    obtain ⟨v23, h24, hr⟩ := bind_some hr
    refine (R05_formed_spec n (v1.take v14.toNat) v18 a17 c17 a22 c22 _ h24).atR [1, 2] rfl rfl rfl ?_
    rintro _ _ ⟨rfl, rfl⟩
    refine AtIf.mk (fun h25 => ?_) (fun h25 => ?_)
    · replace hr := cond_t h25 hr
      replace hr := Option.some.inj hr
      subst hr
      exact AtRet.pureG [] [] rfl rfl ⟨rfl, rfl⟩
    · replace hr := cond_f h25 hr
      exact ⟨(n, (IntKind.i64.wrap (v14 + 1))), hr, Nat.lt_succ_self _, ⟨rfl, rfl, trivial⟩, (StLe.gen 0 [] [.old 0] rfl rfl rfl rfl rfl rfl rfl)⟩
  · replace hr := cond_f h15 hr
    replace hr := Option.some.inj hr
    subst hr
    exact AtRet.pureG [] [] rfl rfl ⟨rfl, rfl⟩
mutual
def W14_valid : Nat → (List Dc) → Option (Bool)
  | 0, _ => none
  | n + 1, v1 =>
    W14_valid_L1 n v1 0 0
def W14_valid_L1 : Nat → (List Dc) → Int → Int → Option (Bool)
  | 0, _, _, _ => none
  | n + 1, v1, v11, v12 =>
    cond ((decide (v12 < ((Dc.encL v1).length : Int))) && (decide (v11 ≤ 3000))) (
    (idx v1 v12).bind (fun v14 =>
    (R03_Size n v14.cls).bind (fun v19 =>
    W14_valid_L1 n v1 (IntKind.i64.wrap (v11 + v19.1)) (IntKind.i64.wrap (v12 + 1))))) (
    cond (decide (v11 > 3000)) (
    some (false)) (
    (R05_Formed n v1).bind (fun v22 =>
    cond (!v22) (
    some (false)) (
    (R06_Signature n v1).bind (fun v25 =>
    some ((v25.2 == 0)))))))
 end
theorem W14_valid_spec (n : Nat) (v1 : (List Dc)) (a2 : Option Addr) (c2 : Nat) (r : Bool) (hr : W14_valid n v1 = some r) : Pure Tryz.prog (.val (.fn (.func 5) [] [])) [(.v (.slice a2 ((Dc.encL v1).length) c2))] [(.slice a2 ((Dc.encL v1).length) c2, .sl 6 (Dc.encL v1))] (fun r' out => r' = (.v (.bool r)) ∧ out = []) := by
  rcases n with _ | n
  · exact no_some hr
  rw [W14_valid.eq_2] at hr
  refine spec_of_body (N := 45) (m := 0) (dt := fun _ => none) [] ttOK Tryz.func5 rfl Tryz.call5 Tryz.ntmps5 rfl rfl rfl mixed (by kernel_rfl) ?_
  refine AtLoop.mk ⟨Nat × Int × Int, fun x => [(0, (.v (.slice a2 ((Dc.encL v1).length) c2))), (3, (.v (.int .i64 x.2.1))), (4, (.v (.int .i64 x.2.2)))], fun x => ⟨[], [], [(.slice a2 ((Dc.encL v1).length) c2, .sl 6 (Dc.encL v1))]⟩, fun x => W14_valid_L1 x.1 v1 x.2.1 x.2.2 = some r, fun x => x.1, (n, 0, 0), hr, ⟨rfl, rfl, rfl, trivial⟩, (StLe.gen 0 [] [.old 0] rfl rfl rfl rfl rfl rfl rfl), fun x _ => ⟨rfl, rfl⟩, ?_⟩
  rintro ⟨n, v11, v12⟩ HH
  have hr : W14_valid_L1 n v1 v11 v12 = some r := HH
  rcases n with _ | n
  · exact no_some hr
  rw [W14_valid_L1.eq_2] at hr
  refine AtIf.mk (fun h13 => ?_) (fun h13 => ?_)
  · replace hr := cond_t h13 hr
    obtain ⟨v14, h15, hr⟩ := bind_some hr
    obtain ⟨h16, h17⟩ := idx_some h15
    refine at_index ttOK 0 rfl rfl rfl rfl h16 (Dc.encL_get h17) ?_
    intro a18 c18 _ _
    obtain ⟨v19, h20, hr⟩ := bind_some hr
    refine (R03_Size_spec n v14.cls a18 c18 _ h20).atR [1] rfl rfl rfl ?_
    rintro _ _ ⟨rfl, rfl⟩
    exact ⟨(n, (IntKind.i64.wrap (v11 + v19.1)), (IntKind.i64.wrap (v12 + 1))), hr, Nat.lt_succ_self _, ⟨rfl, rfl, rfl, trivial⟩, (StLe.gen 0 [] [.old 0] rfl rfl rfl rfl rfl rfl rfl)⟩
  · replace hr := cond_f h13 hr
    refine AtGuard.mk (fun h21 => ?_) (fun h21 => ?_)
    · replace hr := cond_f h21 hr
      obtain ⟨v22, h23, hr⟩ := bind_some hr
      refine (R05_Formed_spec n v1 a2 c2 _ h23).atR [0] rfl rfl rfl ?_
      rintro _ _ ⟨rfl, rfl⟩
      refine AtIf.mk (fun h24 => ?_) (fun h24 => ?_)
      · replace hr := cond_t h24 hr
        replace hr := Option.some.inj hr
        subst hr
        exact AtRet.pureG [] [] rfl rfl ⟨rfl, rfl⟩
      · replace hr := cond_f h24 hr
        obtain ⟨v25, h26, hr⟩ := bind_some hr
        refine (R06_Signature_spec n v1 a2 c2 _ h26).atR [0] rfl rfl rfl ?_
        rintro _ _ ⟨rfl, rfl⟩
        replace hr := Option.some.inj hr
        subst hr
        exact AtRet.pureG [] [] rfl rfl ⟨rfl, rfl⟩
    · replace hr := cond_t h21 hr
      refine AtIf.mk (fun _ => ?_) (fun h => tf h)
      replace hr := Option.some.inj hr
      subst hr
      exact AtRet.pureG [] [] rfl rfl ⟨rfl, rfl⟩
end Go.Proofs.YtogicnodmgdnbaaGreatDoor
end
