/- Merged texts: G2. Functions that the statements on modes reach, with fuel, and their contracts. Conditions stand in each. -/
import Derived.Test.YtogicnodmgdnbaaGreatQG
/-! G2 -/
section
namespace Go.Proofs.YtogicnodmgdnbaaGreat
open Go.Tr Go
set_option maxRecDepth 10000
set_option linter.unusedVariables false
set_option linter.unusedSimpArgs false

abbrev Md.gk (x : Md) (a : Option Addr) (c : Nat) : SV := .agg [(.v (.int .i64 x.family)), (.v (.slice a ((List.map (D.int .i64) x.signs).length) c))]
abbrev Md.gv : GE Md → Value := fun (x, a, c) => .agg #[(.int .i64 x.family), (.slice a ((List.map (D.int .i64) x.signs).length) c)]
abbrev Md.gp (x : Md) : List D := (List.map (D.int .i64) x.signs)
def mode_of : Nat → Tm → (List (Int × Md)) → Option (Md × Bool)
  | 0, _, _ => none
  | n + 1, v1, v3 =>
    some (((mget v3 v1.n).getD (Md.mk 0 ([]))), (((((mget v3 v1.n).isSome) && (v1.op == 4)) && (v1.hd == 2)) && (((List.map (D.int .i64) (((mget v3 v1.n).getD (Md.mk 0 ([]))).signs)).length : Int) == ((Tm.encL v1.args).length : Int))))
theorem mode_of_spec (n : Nat) (v1 : Tm) (g4 : (List (Int × GE Md))) (a2 : Option Addr) (c2 : Nat) (r : Md × Bool) (hr : mode_of n v1 (er g4) = some r) : Meets Tryz.prog (.val (.fn (.func 138) [] [])) [(.mp 0), (.agg [(.v (.int .i64 v1.op)), (.v (.int .i64 v1.hd)), (.v (.int .i64 v1.n)), (.v (.slice a2 ((Tm.encL v1.args).length) c2))])] ⟨[.obj (mapO .i64 (encM Md.gv g4))], [], [(.slice a2 ((Tm.encL v1.args).length) c2, .sl 4 (Tm.encL v1.args)), (agV 1 Md.gp g4, agD 1 Md.gp g4)]⟩ (fun o S' => ∃ (b1 : Option Addr) (d1 : Nat), o = .ret (.tup [(.agg [(.v (.int .i64 r.1.family)), (.v (.slice b1 ((List.map (D.int .i64) r.1.signs).length) d1))]), (.v (.bool r.2))]) ∧ S' = ⟨[.obj (mapO .i64 (encM Md.gv g4))], [], [(.slice b1 ((List.map (D.int .i64) r.1.signs).length) d1, .sl 1 (List.map (D.int .i64) r.1.signs))]⟩) := by
  rcases n with _ | n
  · exact no_some hr
  rw [mode_of.eq_2] at hr
  refine spec_of_body (N := 36) (m := 1) (dt := drawsOf [(2, .node [0, 1, 2, 3, 4, 5, 6, 7, 8, 9, 10, 11, 12, 13, 14, 15, 16, 17, 18, 19, 20] [(21, .leaf [22])], [], [2])]) [] ttOK Tryz.func138 rfl Tryz.call138 Tryz.ntmps138 rfl rfl rfl mixed (by kernel_rfl) ?_
  refine at_lookupGE ttOK Md.gv Md.gk 1 Md.gp (Md.mk 0 ([])) _ 1 rfl Tryz.underlying3 Tryz.zeroValue31 rfl rfl (fun _ _ _ _ => rfl) (fun _ _ _ _ => rfl) rfl rfl rfl rfl ?_
  intro a5 c5
  refine ⟨fun _ _ h => h, ?_⟩
  replace hr := Option.some.inj hr
  subst hr
  exact AtRet.gen ⟨[.obj (mapO .i64 (encM Md.gv g4))], [], [(.slice a5 ((List.map (D.int .i64) (((mget (er g4) v1.n).getD (Md.mk 0 ([]))).signs)).length) c5, .sl 1 (List.map (D.int .i64) (((mget (er g4) v1.n).getD (Md.mk 0 ([]))).signs)))]⟩ (StLe.gen 1 [] [.old 2] rfl rfl rfl rfl rfl rfl rfl) rfl rfl ⟨a5, c5, rfl, rfl⟩
def sign_name : Nat → ByteArray → Option (Bool)
  | 0, _ => none
  | n + 1, v1 =>
    some (((isSmallF v1) && (!(v1.toList == (⟨#[116, 121, 112, 101]⟩ : ByteArray).toList))))
theorem sign_name_spec (n : Nat) (v1 : ByteArray)  (r : Bool) (hr : sign_name n v1 = some r) : Pure Tryz.prog (.val (.fn (.func 119) [] [])) [(.v (.string v1))] [] (fun r' out => r' = (.v (.bool r)) ∧ out = []) := by
  rcases n with _ | n
  · exact no_some hr
  rw [sign_name.eq_2] at hr
  refine spec_of_body (N := 9) (m := 0) (dt := fun _ => none) [] ttOK Tryz.func119 rfl Tryz.call119 Tryz.ntmps119 rfl rfl rfl mixed (by kernel_rfl) ?_
  refine (isSmall_spec v1).atR [] rfl rfl rfl ?_
  rintro _ _ ⟨rfl, rfl⟩
  replace hr := Option.some.inj hr
  subst hr
  exact AtRet.pureG [] [] rfl rfl ⟨rfl, rfl⟩
def term_Under : Nat → Tm → Int → Option (Int)
  | 0, _, _ => none
  | n + 1, v1, v3 =>
    cond ((v1.op == 3) || ((v1.op == 2) && (v3 == 1))) (
    some (1)) (
    some (0))
theorem term_Under_spec (n : Nat) (v1 : Tm) (v3 : Int) (a2 : Option Addr) (c2 : Nat) (r : Int) (hr : term_Under n v1 v3 = some r) : Pure Tryz.prog (.val (.fn (.func 109) [] [])) [(.agg [(.v (.int .i64 v1.op)), (.v (.int .i64 v1.hd)), (.v (.int .i64 v1.n)), (.v (.slice a2 ((Tm.encL v1.args).length) c2))]), (.v (.int .i64 v3))] [(.slice a2 ((Tm.encL v1.args).length) c2, .sl 4 (Tm.encL v1.args))] (fun r' out => r' = (.v (.int .i64 r)) ∧ out = []) := by
  rcases n with _ | n
  · exact no_some hr
  rw [term_Under.eq_2] at hr
  refine spec_of_body (N := 17) (m := 0) (dt := fun _ => none) [] ttOK Tryz.func109 rfl Tryz.call109 Tryz.ntmps109 rfl rfl rfl mixed (by kernel_rfl) ?_
  refine AtIf.mk (fun h4 => ?_) (fun h4 => ?_)
  · replace hr := cond_t h4 hr
    replace hr := Option.some.inj hr
    subst hr
    exact AtRet.pureG [] [] rfl rfl ⟨rfl, rfl⟩
  · replace hr := cond_f h4 hr
    replace hr := Option.some.inj hr
    subst hr
    exact AtRet.pureG [] [] rfl rfl ⟨rfl, rfl⟩
def sign_formed_1 : Nat → Tm → Int → Bool → (List Dc) → Option (Bool)
  | 0, _, _, _, _ => none
  | n + 1, v1, v3, v4, v5 =>
    cond (v1.op != 4) (
    some (v4)) (
    some ((((v4 && (v1.hd != 3)) && ((v1.hd != 1) || (decide (v1.n < v3)))) && ((v1.hd != 2) || (decide (v1.n < ((Dc.encL v5).length : Int)))))))
theorem sign_formed_1_spec (n : Nat) (v1 : Tm) (v3 : Int) (v4 : Bool) (v5 : (List Dc)) (a2 : Option Addr) (c2 : Nat) (a6 : Option Addr) (c6 : Nat) (r : Bool) (hr : sign_formed_1 n v1 v3 v4 v5 = some r) : Meets Tryz.prog (.val (.fn (.func 121) [] [(.loc 0 0), (.loc 1 0)])) [(.agg [(.v (.int .i64 v1.op)), (.v (.int .i64 v1.hd)), (.v (.int .i64 v1.n)), (.v (.slice a2 ((Tm.encL v1.args).length) c2))]), (.v (.int .i64 v3))] ⟨[.cells 4 [(.v (.bool v4))], .cells 22 [(.v (.slice a6 ((Dc.encL v5).length) c6))]], [], [(.slice a2 ((Tm.encL v1.args).length) c2, .sl 4 (Tm.encL v1.args)), (.slice a6 ((Dc.encL v5).length) c6, .sl 6 (Dc.encL v5))]⟩ (fun o S' => o = .ret (.tup []) ∧ S' = ⟨[.cells 4 [(.v (.bool r))], .cells 22 [(.v (.slice a6 ((Dc.encL v5).length) c6))]], [], []⟩) := by
  rcases n with _ | n
  · exact no_some hr
  rw [sign_formed_1.eq_2] at hr
  refine spec_of_body (N := 38) (m := 2) (dt := fun _ => none) [] ttOK Tryz.func121 rfl Tryz.call121 Tryz.ntmps121 rfl rfl rfl mixed (by kernel_rfl) ?_
  refine AtIf.mk (fun h7 => ?_) (fun h7 => ?_)
  · replace hr := cond_t h7 hr
    replace hr := Option.some.inj hr
    subst hr
    exact AtRet.gen ⟨[.cells 4 [(.v (.bool v4))], .cells 22 [(.v (.slice a6 ((Dc.encL v5).length) c6))]], [], []⟩ (StLe.gen 2 [] [] rfl rfl rfl rfl rfl rfl rfl) rfl rfl ⟨rfl, rfl⟩
  · replace hr := cond_f h7 hr
    replace hr := Option.some.inj hr
    subst hr
    exact AtRet.gen ⟨[.cells 4 [(.v (.bool (((v4 && (v1.hd != 3)) && ((v1.hd != 1) || (decide (v1.n < v3)))) && ((v1.hd != 2) || (decide (v1.n < ((Dc.encL v5).length : Int)))))))], .cells 22 [(.v (.slice a6 ((Dc.encL v5).length) c6))]], [], []⟩ (StLe.gen 2 [] [] rfl rfl rfl rfl rfl rfl rfl) rfl rfl ⟨rfl, rfl⟩
mutual
def term_Each_sign_formed_1 : Nat → Tm → Int → Bool → (List Dc) → Option (Bool)
  | 0, _, _, _, _ => none
  | n + 1, v1, v3, v4, v5 =>
    (sign_formed_1 n v1 v3 v4 v5).bind (fun v7 =>
    term_Each_sign_formed_1_L1 n v1 v3 v5 v7 0)
def term_Each_sign_formed_1_L1 : Nat → Tm → Int → (List Dc) → Bool → Int → Option (Bool)
  | 0, _, _, _, _, _ => none
  | n + 1, v1, v3, v5, v19, v20 =>
    cond (decide (v20 < ((Tm.encL v1.args).length : Int))) (
    (idx v1.args v20).bind (fun v22 =>
    (term_Under n v1 v20).bind (fun v27 =>
    (term_Each_sign_formed_1 n v22 (IntKind.i64.wrap (v3 + v27)) v19 v5).bind (fun v29 =>
    term_Each_sign_formed_1_L1 n v1 v3 v5 v29 (IntKind.i64.wrap (v20 + 1)))))) (
    some (v19))
 end
theorem term_Each_sign_formed_1_specN : ∀ (N : Nat), (∀ (n : Nat), n ≤ N → ∀ (v1 : Tm) (v3 : Int) (v4 : Bool) (v5 : (List Dc)) (a2 : Option Addr) (c2 : Nat) (a6 : Option Addr) (c6 : Nat) (r : Bool), term_Each_sign_formed_1 n v1 v3 v4 v5 = some r → Meets Tryz.prog (.val (.fn (.func 120) [] [])) [(.agg [(.v (.int .i64 v1.op)), (.v (.int .i64 v1.hd)), (.v (.int .i64 v1.n)), (.v (.slice a2 ((Tm.encL v1.args).length) c2))]), (.v (.int .i64 v3)), (.fn (.func 121) [] [(.loc 0 0), (.loc 1 0)])] ⟨[.cells 4 [(.v (.bool v4))], .cells 22 [(.v (.slice a6 ((Dc.encL v5).length) c6))]], [], [(.slice a2 ((Tm.encL v1.args).length) c2, .sl 4 (Tm.encL v1.args)), (.slice a6 ((Dc.encL v5).length) c6, .sl 6 (Dc.encL v5))]⟩ (fun o S' => o = .ret (.tup []) ∧ S' = ⟨[.cells 4 [(.v (.bool r))], .cells 22 [(.v (.slice a6 ((Dc.encL v5).length) c6))]], [], []⟩)) := by
  intro N
  induction N with
  | zero =>
    intro n hn v1 v3 v4 v5 a2 c2 a6 c6 r hr; obtain rfl : n = 0 := (by omega); exact no_some hr
  | succ N ih =>
    intro n hn v1 v3 v4 v5 a2 c2 a6 c6 r hr
    rcases n with _ | n
    · exact no_some hr
    replace hn : n ≤ N := by omega
    rw [term_Each_sign_formed_1.eq_2] at hr
    refine spec_of_body (N := 29) (m := 2) (dt := drawsOf [(5, .node [0, 1, 2, 3, 6] [(4, .node [5] [(7, .leaf [])])], [7], [])]) [] ttOK Tryz.func120 rfl Tryz.call120 Tryz.ntmps120 rfl rfl rfl mixed (by kernel_rfl) ?_
    obtain ⟨v7, h8, hr⟩ := bind_some hr
    refine (sign_formed_1_spec n v1 v3 v4 v5 a2 c2 a6 c6 _ h8).frameR [0, 1] [0, 1] rfl rfl rfl rfl rfl rfl rfl rfl ?_
    rintro _ _ ⟨rfl, rfl⟩
    refine ⟨rfl, rfl, [.cells 4 [(.v (.bool v7))], .cells 22 [(.v (.slice a6 ((Dc.encL v5).length) c6))]], rfl, ?_⟩
    refine AtLoop.mk ⟨Nat × Bool × Int, fun x => [(1, (.v (.int .i64 v3))), (2, (.fn (.func 121) [] [(.loc 0 0), (.loc 1 0)])), (3, (.loc 2 0)), (13, (.v (.slice a2 ((Tm.encL v1.args).length) c2))), (14, (.v (.int .i64 ((Tm.encL v1.args).length : Int)))), (15, (.v (.int .i64 x.2.2)))], fun x => ⟨[.cells 4 [(.v (.bool x.2.1))], .cells 22 [(.v (.slice a6 ((Dc.encL v5).length) c6))], .cells 47 [(.v (.int .i64 v1.op)), (.v (.int .i64 v1.hd)), (.v (.int .i64 v1.n)), (.v (.slice a2 ((Tm.encL v1.args).length) c2))]], [], [(.slice a2 ((Tm.encL v1.args).length) c2, .sl 4 (Tm.encL v1.args)), (.slice a6 ((Dc.encL v5).length) c6, .sl 6 (Dc.encL v5))]⟩, fun x => x.1 ≤ N ∧ term_Each_sign_formed_1_L1 x.1 v1 v3 v5 x.2.1 x.2.2 = some r, fun x => x.1, (n, v7, 0), ⟨by omega, hr⟩, ⟨rfl, rfl, rfl, rfl, rfl, rfl, trivial⟩, (StLe.gen 3 [] [.old 0, .old 1] rfl rfl rfl rfl rfl rfl rfl), fun x _ => ⟨rfl, rfl⟩, ?_⟩
    rintro ⟨n, v19, v20⟩ HH
    obtain ⟨hn, hr⟩ : n ≤ N ∧ term_Each_sign_formed_1_L1 n v1 v3 v5 v19 v20 = some r := HH
    rcases n with _ | n
    · exact no_some hr
    rw [term_Each_sign_formed_1_L1.eq_2] at hr
    refine AtIf.mk (fun h21 => ?_) (fun h21 => ?_)
    · replace hr := cond_t h21 hr
      obtain ⟨v22, h23, hr⟩ := bind_some hr
      obtain ⟨h24, h25⟩ := idx_some h23
      refine at_index ttOK 0 rfl rfl rfl rfl h24 (Tm.encL_get h25) ?_
      intro a26 c26 _ _
      obtain ⟨v27, h28, hr⟩ := bind_some hr
      refine (term_Under_spec n v1 v20 a2 c2 _ h28).atR [0] rfl rfl rfl ?_
      rintro _ _ ⟨rfl, rfl⟩
      refine ⟨fun _ _ h => h, ?_⟩
      obtain ⟨v29, h30, hr⟩ := bind_some hr
      refine (ih n (by omega) v22 (IntKind.i64.wrap (v3 + v27)) v19 v5 a26 c26 a6 c6 _ h30).frameR [0, 1] [2, 1] rfl rfl rfl rfl rfl rfl rfl rfl ?_
      rintro _ _ ⟨rfl, rfl⟩
      refine ⟨rfl, rfl, [.cells 4 [(.v (.bool v29))], .cells 22 [(.v (.slice a6 ((Dc.encL v5).length) c6))]], rfl, ?_⟩
      exact ⟨(n, v29, (IntKind.i64.wrap (v20 + 1))), ⟨by omega, hr⟩, Nat.lt_succ_self _, ⟨rfl, rfl, rfl, rfl, rfl, rfl, trivial⟩, (StLe.gen 3 [] [.old 0, .old 1] rfl rfl rfl rfl rfl rfl rfl)⟩
    · replace hr := cond_f h21 hr
      replace hr := Option.some.inj hr
      subst hr
      exact AtRet.gen ⟨[.cells 4 [(.v (.bool v19))], .cells 22 [(.v (.slice a6 ((Dc.encL v5).length) c6))]], [], []⟩ (StLe.gen 2 [] [] rfl rfl rfl rfl rfl rfl rfl) rfl rfl ⟨rfl, rfl⟩
theorem term_Each_sign_formed_1_spec (n : Nat) (v1 : Tm) (v3 : Int) (v4 : Bool) (v5 : (List Dc)) (a2 : Option Addr) (c2 : Nat) (a6 : Option Addr) (c6 : Nat) (r : Bool) (hr : term_Each_sign_formed_1 n v1 v3 v4 v5 = some r) : Meets Tryz.prog (.val (.fn (.func 120) [] [])) [(.agg [(.v (.int .i64 v1.op)), (.v (.int .i64 v1.hd)), (.v (.int .i64 v1.n)), (.v (.slice a2 ((Tm.encL v1.args).length) c2))]), (.v (.int .i64 v3)), (.fn (.func 121) [] [(.loc 0 0), (.loc 1 0)])] ⟨[.cells 4 [(.v (.bool v4))], .cells 22 [(.v (.slice a6 ((Dc.encL v5).length) c6))]], [], [(.slice a2 ((Tm.encL v1.args).length) c2, .sl 4 (Tm.encL v1.args)), (.slice a6 ((Dc.encL v5).length) c6, .sl 6 (Dc.encL v5))]⟩ (fun o S' => o = .ret (.tup []) ∧ S' = ⟨[.cells 4 [(.v (.bool r))], .cells 22 [(.v (.slice a6 ((Dc.encL v5).length) c6))]], [], []⟩) := (term_Each_sign_formed_1_specN n) n (Nat.le_refl _) v1 v3 v4 v5 a2 c2 a6 c6 r hr
mutual
def term_Domains : Nat → Tm → Option ((List Tm) × Tm)
  | 0, _ => none
  | n + 1, v1 =>
    term_Domains_L1 n v1 ([])
def term_Domains_L1 : Nat → Tm → (List Tm) → Option ((List Tm) × Tm)
  | 0, _, _ => none
  | n + 1, v17, v19 =>
    cond (v17.op == 2) (
    (idx v17.args 0).bind (fun v22 =>
    cond (decide ((Tm.encL (v19 ++ [v22])).length ≤ 1000000)) (
    (idx v17.args 1).bind (fun v30 =>
    term_Domains_L1 n v30 (v19 ++ [v22]))) none)) (
    some (v19, v17))
 end
theorem term_Domains_spec (n : Nat) (v1 : Tm) (a2 : Option Addr) (c2 : Nat) (r : (List Tm) × Tm) (hr : term_Domains n v1 = some r) : Pure Tryz.prog (.val (.fn (.func 36) [] [])) [(.agg [(.v (.int .i64 v1.op)), (.v (.int .i64 v1.hd)), (.v (.int .i64 v1.n)), (.v (.slice a2 ((Tm.encL v1.args).length) c2))])] [(.slice a2 ((Tm.encL v1.args).length) c2, .sl 4 (Tm.encL v1.args))] (fun r' out => ∃ (b1 : Option Addr) (d1 : Nat), ∃ (b2 : Option Addr) (d2 : Nat), r' = (.tup [(.v (.slice b1 ((Tm.encL r.1).length) d1)), (.agg [(.v (.int .i64 r.2.op)), (.v (.int .i64 r.2.hd)), (.v (.int .i64 r.2.n)), (.v (.slice b2 ((Tm.encL r.2.args).length) d2))])]) ∧ out = [(.slice b1 ((Tm.encL r.1).length) d1, .sl 4 (Tm.encL r.1)), (.slice b2 ((Tm.encL r.2.args).length) d2, .sl 4 (Tm.encL r.2.args))]) := by
  rcases n with _ | n
  · exact no_some hr
  rw [term_Domains.eq_2] at hr
  refine spec_of_body (N := 21) (m := 0) (dt := drawsOf [(5, .node [0, 1, 2] [(3, .leaf [])], [3], [])]) [] ttOK Tryz.func36 rfl Tryz.call36 Tryz.ntmps36 rfl rfl rfl mixed (by kernel_rfl) ?_
  refine AtLoop.mk ⟨Nat × Tm × Option Addr × Nat × (List Tm) × Option Addr × Nat, fun x => [(1, (.loc 0 0)), (3, (.loc 1 0)), (4, (.v (.slice x.2.2.2.2.2.1 ((Tm.encL x.2.2.2.2.1).length) x.2.2.2.2.2.2)))], fun x => ⟨[.cells 47 [(.v (.int .i64 x.2.1.op)), (.v (.int .i64 x.2.1.hd)), (.v (.int .i64 x.2.1.n)), (.v (.slice x.2.2.1 ((Tm.encL x.2.1.args).length) x.2.2.2.1))], .cells 47 [(.v (.int .i64 0)), (.v (.int .i64 0)), (.v (.int .i64 0)), (.v (.slice none 0 0))]], [⟨.slice x.2.2.2.2.2.1 ((Tm.encL x.2.2.2.2.1).length) x.2.2.2.2.2.2, 4, 47, (Tm.encL x.2.2.2.2.1)⟩], [(.slice x.2.2.1 ((Tm.encL x.2.1.args).length) x.2.2.2.1, .sl 4 (Tm.encL x.2.1.args)), (.slice a2 ((Tm.encL v1.args).length) c2, .sl 4 (Tm.encL v1.args))]⟩, fun x => term_Domains_L1 x.1 x.2.1 x.2.2.2.2.1 = some r, fun x => x.1, (n, v1, a2, c2, [], none, 0), hr, ⟨rfl, rfl, rfl, trivial⟩, (StLe.gen 2 [.nil 4 47] [.old 0, .old 0] rfl rfl rfl rfl rfl rfl rfl), fun x _ => ⟨rfl, rfl⟩, ?_⟩
  rintro ⟨n, v17, a18, c18, v19, a20, c20⟩ HH
  have hr : term_Domains_L1 n v17 v19 = some r := HH
  rcases n with _ | n
  · exact no_some hr
  rw [term_Domains_L1.eq_2] at hr
  refine AtIf.mk (fun h21 => ?_) (fun h21 => ?_)
  · replace hr := cond_t h21 hr
    obtain ⟨v22, h23, hr⟩ := bind_some hr
    obtain ⟨h24, h25⟩ := idx_some h23
    refine at_index ttOK 0 rfl rfl rfl rfl h24 (Tm.encL_get h25) ?_
    intro a26 c26 _ _
    refine at_buildG (n := 1) ttOK 48 [.agg [.int .i64 v22.op, .int .i64 v22.hd, .int .i64 v22.n, .sl 4 (Tm.encL v22.args)]] (ds' := (Tm.encL ([v22]))) rfl (by kernel_rfl) ⟨⟨rfl, rfl, rfl, ⟨[(.v (.int .i64 v22.op))], _, rfl, rfl, ⟨[(.v (.int .i64 v22.hd))], _, rfl, rfl, ⟨[(.v (.int .i64 v22.n))], _, rfl, rfl, ⟨[(.v (.slice a26 ((Tm.encL v22.args).length) c26))], _, rfl, (.inl ⟨_, rfl, nth_mem (j := 2) rfl⟩), rfl⟩⟩⟩⟩⟩, trivial⟩ rfl (by simp only [Tm.encL_eq, List.map_cons, List.map_nil, Tm.enc_eq] <;> rfl) (by decide) (by decide) ?_
    intro a27
    obtain ⟨h28, hr⟩ := cond_need hr
    refine at_appendG (ds' := (Tm.encL (v19 ++ [v22]))) ttOK 48 0 3 rfl (by kernel_rfl) rfl rfl rfl rfl (by simp only [Tm.encL_eq, List.map_append]) h28 (by decide) ?_
    intro a29 c29
    obtain ⟨v30, h31, hr⟩ := bind_some hr
    obtain ⟨h32, h33⟩ := idx_some h31
    refine at_index ttOK 0 rfl rfl rfl rfl h32 (Tm.encL_get h33) ?_
    intro a34 c34 _ _
    exact ⟨(n, v30, a34, c34, (v19 ++ [v22]), a29, c29), hr, Nat.lt_succ_self _, ⟨rfl, rfl, rfl, trivial⟩, (StLe.gen 2 [.old 0] [.old 4, .old 1] rfl rfl rfl rfl rfl rfl rfl)⟩
  · replace hr := cond_f h21 hr
    replace hr := Option.some.inj hr
    subst hr
    exact AtRet.pureG [.froz 0, .old 0] [(.slice a20 ((Tm.encL v19).length) c20, .sl 4 (Tm.encL v19)), (.slice a18 ((Tm.encL v17.args).length) c18, .sl 4 (Tm.encL v17.args))] rfl rfl ⟨a20, c20, a18, c18, rfl, rfl⟩
def sign_target : Nat → Tm → Option (Int × Bool)
  | 0, _ => none
  | n + 1, v1 =>
    (term_Domains n v1).bind (fun v3 =>
    some (v3.2.n, ((v3.2.op == 4) && (v3.2.hd == 2))))
theorem sign_target_spec (n : Nat) (v1 : Tm) (a2 : Option Addr) (c2 : Nat) (r : Int × Bool) (hr : sign_target n v1 = some r) : Pure Tryz.prog (.val (.fn (.func 122) [] [])) [(.agg [(.v (.int .i64 v1.op)), (.v (.int .i64 v1.hd)), (.v (.int .i64 v1.n)), (.v (.slice a2 ((Tm.encL v1.args).length) c2))])] [(.slice a2 ((Tm.encL v1.args).length) c2, .sl 4 (Tm.encL v1.args))] (fun r' out => r' = (.tup [(.v (.int .i64 r.1)), (.v (.bool r.2))]) ∧ out = []) := by
  rcases n with _ | n
  · exact no_some hr
  rw [sign_target.eq_2] at hr
  refine spec_of_body (N := 21) (m := 0) (dt := drawsOf [(2, .leaf [0, 1, 2, 3, 4, 5, 6, 7, 8, 9, 10, 11], [], [])]) [] ttOK Tryz.func122 rfl Tryz.call122 Tryz.ntmps122 rfl rfl rfl mixed (by kernel_rfl) ?_
  obtain ⟨v3, h4, hr⟩ := bind_some hr
  refine (term_Domains_spec n v1 a2 c2 _ h4).atR [0] rfl rfl rfl ?_
  rintro _ _ ⟨a5, c5, a6, c6, rfl, rfl⟩
  replace hr := Option.some.inj hr
  subst hr
  exact AtRet.pureG [] [] rfl rfl ⟨rfl, rfl⟩
def sign_kind : Nat → Tm → Option (Bool)
  | 0, _ => none
  | n + 1, v1 =>
    (term_Domains n v1).bind (fun v3 =>
    some ((v3.2.op == 1)))
theorem sign_kind_spec (n : Nat) (v1 : Tm) (a2 : Option Addr) (c2 : Nat) (r : Bool) (hr : sign_kind n v1 = some r) : Pure Tryz.prog (.val (.fn (.func 82) [] [])) [(.agg [(.v (.int .i64 v1.op)), (.v (.int .i64 v1.hd)), (.v (.int .i64 v1.n)), (.v (.slice a2 ((Tm.encL v1.args).length) c2))])] [(.slice a2 ((Tm.encL v1.args).length) c2, .sl 4 (Tm.encL v1.args))] (fun r' out => r' = (.v (.bool r)) ∧ out = []) := by
  rcases n with _ | n
  · exact no_some hr
  rw [sign_kind.eq_2] at hr
  refine spec_of_body (N := 13) (m := 0) (dt := fun _ => none) [] ttOK Tryz.func82 rfl Tryz.call82 Tryz.ntmps82 rfl rfl rfl mixed (by kernel_rfl) ?_
  obtain ⟨v3, h4, hr⟩ := bind_some hr
  refine (term_Domains_spec n v1 a2 c2 _ h4).atR [0] rfl rfl rfl ?_
  rintro _ _ ⟨a5, c5, a6, c6, rfl, rfl⟩
  replace hr := Option.some.inj hr
  subst hr
  exact AtRet.pureG [] [] rfl rfl ⟨rfl, rfl⟩
def sign_formed : Nat → (List Dc) → Dc → Option (Bool)
  | 0, _, _ => none
  | n + 1, v1, v3 =>
    cond ((if isProper v3.cls then (0 : Int) else 2) != 0) (
    some (false)) (
    (sign_name n v3.name).bind (fun v6 =>
    cond ((!v6) || (decide (v3.implicit < 0))) (
    some (false)) (
    (term_Domains n v3.cls).bind (fun v9 =>
    (term_Each_sign_formed_1 n v3.cls 0 (decide (v3.implicit ≤ ((Tm.encL v9.1).length : Int))) v1).bind (fun v13 =>
    (sign_kind n v3.cls).bind (fun v15 =>
    cond v15 (
    some (v13)) (
    (sign_target n v3.cls).bind (fun v18 =>
    cond (v13 && v18.2) (
    (idx v1 v18.1).bind (fun v21 =>
    (sign_kind n v21.cls).bind (fun v26 =>
    some (v26)))) (
    some (false))))))))))
theorem sign_formed_spec (n : Nat) (v1 : (List Dc)) (v3 : Dc) (a2 : Option Addr) (c2 : Nat) (a4 : Option Addr) (c4 : Nat) (r : Bool) (hr : sign_formed n v1 v3 = some r) : Pure Tryz.prog (.val (.fn (.func 77) [] [])) [(.v (.slice a2 ((Dc.encL v1).length) c2)), (.agg [(.v (.string v3.name)), (.v (.int .i64 v3.cls.op)), (.v (.int .i64 v3.cls.hd)), (.v (.int .i64 v3.cls.n)), (.v (.slice a4 ((Tm.encL v3.cls.args).length) c4)), (.v (.int .i64 v3.implicit))])] [(.slice a2 ((Dc.encL v1).length) c2, .sl 6 (Dc.encL v1)), (.slice a4 ((Tm.encL v3.cls.args).length) c4, .sl 4 (Tm.encL v3.cls.args))] (fun r' out => r' = (.v (.bool r)) ∧ out = []) := by
  rcases n with _ | n
  · exact no_some hr
  rw [sign_formed.eq_2] at hr
  refine spec_of_body (N := 62) (m := 0) (dt := fun _ => none) [] ttOK Tryz.func77 rfl Tryz.call77 Tryz.ntmps77 rfl rfl rfl mixed (by kernel_rfl) ?_
  refine (check_spec v3.cls a4 c4).atR [1] rfl rfl rfl ?_
  rintro _ _ ⟨rfl, rfl⟩
  refine AtGuard.mk (fun h5 => ?_) (fun h5 => ?_)
  · replace hr := cond_f h5 hr
    obtain ⟨v6, h7, hr⟩ := bind_some hr
    refine (sign_name_spec n v3.name _ h7).atR [] rfl rfl rfl ?_
    rintro _ _ ⟨rfl, rfl⟩
    refine AtIf.mk (fun h8 => ?_) (fun h8 => ?_)
    · replace hr := cond_t h8 hr
      replace hr := Option.some.inj hr
      subst hr
      exact AtRet.pureG [] [] rfl rfl ⟨rfl, rfl⟩
    · replace hr := cond_f h8 hr
      obtain ⟨v9, h10, hr⟩ := bind_some hr
      refine (term_Domains_spec n v3.cls a4 c4 _ h10).atR [1] rfl rfl rfl ?_
      rintro _ _ ⟨a11, c11, a12, c12, rfl, rfl⟩
      obtain ⟨v13, h14, hr⟩ := bind_some hr
      refine (term_Each_sign_formed_1_spec n v3.cls 0 (decide (v3.implicit ≤ ((Tm.encL v9.1).length : Int))) v1 a4 c4 a2 c2 _ h14).frameR [3, 0] [1, 0] rfl rfl rfl rfl rfl rfl rfl rfl ?_
      rintro _ _ ⟨rfl, rfl⟩
      refine ⟨rfl, rfl, [.cells 4 [(.v (.bool v13))], .cells 22 [(.v (.slice a2 ((Dc.encL v1).length) c2))]], rfl, ?_⟩
      obtain ⟨v15, h16, hr⟩ := bind_some hr
      refine (sign_kind_spec n v3.cls a4 c4 _ h16).atR [1] rfl rfl rfl ?_
      rintro _ _ ⟨rfl, rfl⟩
      refine AtIf.mk (fun h17 => ?_) (fun h17 => ?_)
      · replace hr := cond_t h17 hr
        replace hr := Option.some.inj hr
        subst hr
        exact AtRet.pureG [] [] rfl rfl ⟨rfl, rfl⟩
      · replace hr := cond_f h17 hr
        obtain ⟨v18, h19, hr⟩ := bind_some hr
        refine (sign_target_spec n v3.cls a4 c4 _ h19).atR [1] rfl rfl rfl ?_
        rintro _ _ ⟨rfl, rfl⟩
        refine AtGuard.mk (fun h20 => ?_) (fun h20 => ?_)
        · replace hr := cond_t h20 hr
          obtain ⟨v21, h22, hr⟩ := bind_some hr
          obtain ⟨h23, h24⟩ := idx_some h22
          refine at_index ttOK 0 rfl rfl rfl rfl h23 (Dc.encL_get h24) ?_
          intro a25 c25 _ _
          obtain ⟨v26, h27, hr⟩ := bind_some hr
          refine (sign_kind_spec n v21.cls a25 c25 _ h27).atR [4] rfl rfl rfl ?_
          rintro _ _ ⟨rfl, rfl⟩
          replace hr := Option.some.inj hr
          subst hr
          exact AtRet.pureG [] [] rfl rfl ⟨rfl, rfl⟩
        · replace hr := cond_f h20 hr
          replace hr := Option.some.inj hr
          subst hr
          exact AtRet.pureG [] [] rfl rfl ⟨rfl, rfl⟩
  · replace hr := cond_t h5 hr
    refine AtIf.mk (fun _ => ?_) (fun h => tf h)
    replace hr := Option.some.inj hr
    subst hr
    exact AtRet.pureG [] [] rfl rfl ⟨rfl, rfl⟩
mutual
def sign_Check : Nat → (List Dc) → Option (Int)
  | 0, _ => none
  | n + 1, v1 =>
    cond (decide (((Dc.encL v1).length : Int) > 100)) (
    some (2)) (
    sign_Check_L1 n v1 ([]) 0)
def sign_Check_L1 : Nat → (List Dc) → (List (ByteArray × Bool)) → Int → Option (Int)
  | 0, _, _, _ => none
  | n + 1, v1, v16, v17 =>
    cond (decide (v17 < ((Dc.encL v1).length : Int))) (
    (idx v1 v17).bind (fun v19 =>
    cond (decide ((0 : Int) ≤ (0 : Int) ∧ (0 : Int) ≤ v17 ∧ v17 ≤ ((Dc.encL v1).length : Int))) (
    cond ((mget v16 v19.name).getD false) (
    some (2)) (
    (sign_formed n (v1.take v17.toNat) v19).bind (fun v27 =>
    cond (!v27) (
    some (2)) (
    sign_Check_L1 n v1 (mput v19.name true v16) (IntKind.i64.wrap (v17 + 1)))))) none)) (
    some (0))
 end
theorem sign_Check_spec (n : Nat) (v1 : (List Dc)) (a2 : Option Addr) (c2 : Nat) (r : Int) (hr : sign_Check n v1 = some r) : Pure Tryz.prog (.val (.fn (.func 31) [] [])) [(.v (.slice a2 ((Dc.encL v1).length) c2))] [(.slice a2 ((Dc.encL v1).length) c2, .sl 6 (Dc.encL v1))] (fun r' out => r' = (.v (.int .i64 r)) ∧ out = []) := by
  rcases n with _ | n
  · exact no_some hr
  rw [sign_Check.eq_2] at hr
  refine spec_of_body (N := 27) (m := 0) (dt := fun _ => none) [] ttOK Tryz.func31 rfl Tryz.call31 Tryz.ntmps31 rfl rfl rfl mixed (by kernel_rfl) ?_
  refine AtIf.mk (fun h3 => ?_) (fun h3 => ?_)
  · replace hr := cond_t h3 hr
    replace hr := Option.some.inj hr
    subst hr
    exact AtRet.pureG [] [] rfl rfl ⟨rfl, rfl⟩
  · replace hr := cond_f h3 hr
    refine at_makeMapS ?_
    refine spec_of_body (N := 4) (m := 3) (dt := fun _ => none) [] ttOK Tryz.func76 rfl Tryz.call76 Tryz.ntmps76 rfl rfl rfl mixed (by kernel_rfl) ?_
    refine AtRet.gen _ (StLe.refl _) rfl rfl ?_
    refine AtRange.mk ⟨[(2, (.loc 0 0)), (3, (.loc 2 0))], ⟨rfl, rfl, trivial⟩, rfl, rfl, ⟨_, _, _, rfl, Tryz.call118⟩, ?_⟩
    refine spec_of_body (N := 20) (m := 5) (dt := drawsOf [(3, .node [0, 1, 2, 3, 4] [(5, .leaf [6])], [5], [])]) [] ttOK Tryz.func118 rfl Tryz.call118 Tryz.ntmps118 rfl rfl rfl mixed (by kernel_rfl) ?_
    refine AtLoop.mk ⟨Nat × (List (ByteArray × Bool)) × Int, fun x => [(0, (.yld 4)), (1, (.loc 3 0)), (5, (.v (.slice a2 ((Dc.encL v1).length) c2))), (6, (.v (.int .i64 ((Dc.encL v1).length : Int)))), (7, (.v (.int .i64 x.2.2)))], fun x => ⟨[.cells 32 [(.v (.int .i64 0))], .obj (mapS (encM Value.bool x.2.1)), .cells 120 [(.mp 1)], .cells 22 [(.v (.slice a2 ((Dc.encL v1).length) c2))], .lp ⟨27, [(2, (.loc 0 0)), (3, (.loc 2 0))], #[12, 13], rfAs Tryz.f31, rfBody Tryz.f31, .ready, none⟩], [], [(.slice a2 ((Dc.encL v1).length) c2, .sl 6 (Dc.encL v1))]⟩, fun x => sign_Check_L1 x.1 v1 x.2.1 x.2.2 = some r, fun x => x.1, (n, [], 0), hr, ⟨rfl, rfl, rfl, rfl, rfl, trivial⟩, (StLe.gen 5 [] [.old 0] rfl rfl rfl rfl rfl rfl rfl), fun x _ => ⟨rfl, rfl⟩, ?_⟩
    rintro ⟨n, v16, v17⟩ HH
    have hr : sign_Check_L1 n v1 v16 v17 = some r := HH
    rcases n with _ | n
    · exact no_some hr
    rw [sign_Check_L1.eq_2] at hr
    refine AtIf.mk (fun h18 => ?_) (fun h18 => ?_)
    · replace hr := cond_t h18 hr
      obtain ⟨v19, h20, hr⟩ := bind_some hr
      obtain ⟨h21, h22⟩ := idx_some h20
      refine at_index ttOK 0 rfl rfl rfl rfl h21 (Dc.encL_get h22) ?_
      intro a23 c23 _ _
      obtain ⟨h24, hr⟩ := cond_need hr
      refine at_sliceG ttOK 0 0 v17 (ds' := (Dc.encL (v1.take v17.toNat))) rfl rfl rfl (.inr ⟨rfl, rfl⟩) (.inl ⟨_, rfl⟩) h24 (by simp only [Dc.encL_eq]; exact sl_h ..) ?_
      intro a25 c25
      refine spec_of_round (N := 27) (m := 7) (dt := fun _ => none) [] ttOK rfl rfl rfl rfl rfl rfl mixed (by kernel_rfl) (by kernel_rfl) ?_
      refine at_lookupSG ttOK Value.bool false rfl Tryz.underlying9 rfl rfl rfl rfl ?_
      refine AtGuard.mk (fun h26 => ?_) (fun h26 => ?_)
      · replace hr := cond_f h26 hr
        obtain ⟨v27, h28, hr⟩ := bind_some hr
        refine (sign_formed_spec n (v1.take v17.toNat) v19 a25 c25 a23 c23 _ h28).atR [2, 1] rfl rfl rfl ?_
        rintro _ _ ⟨rfl, rfl⟩
        refine AtIf.mk (fun h29 => ?_) (fun h29 => ?_)
        · replace hr := cond_t h29 hr
          refine AtRet.gen _ (StLe.refl _) rfl rfl ?_
          refine AtIf.mk (fun _ => ?_) (fun h => tf h)
          refine AtRet.gen _ (StLe.refl _) rfl rfl ?_
          replace hr := Option.some.inj hr
          subst hr
          exact AtRet.pureG [] [] rfl rfl ⟨rfl, rfl⟩
        · replace hr := cond_f h29 hr
          refine at_mapPutS (l := encM Value.bool v16) ttOK (.bool true) rfl Tryz.underlying9 rfl rfl rfl (fun _ => rfl) ?_
          rw [putS_enc Value.bool v19.name true v16]
          refine AtRet.gen _ (StLe.refl _) rfl rfl ?_
          refine AtIf.mk (fun h => ff h) (fun _ => ?_)
          exact ⟨(n, (mput v19.name true v16), (IntKind.i64.wrap (v17 + 1))), hr, Nat.lt_succ_self _, ⟨rfl, rfl, rfl, rfl, rfl, trivial⟩, (StLe.gen 5 [] [.old 0] rfl rfl rfl rfl rfl rfl rfl)⟩
      · replace hr := cond_t h26 hr
        refine AtIf.mk (fun _ => ?_) (fun h => tf h)
        refine AtRet.gen _ (StLe.refl _) rfl rfl ?_
        refine AtIf.mk (fun _ => ?_) (fun h => tf h)
        refine AtRet.gen _ (StLe.refl _) rfl rfl ?_
        replace hr := Option.some.inj hr
        subst hr
        exact AtRet.pureG [] [] rfl rfl ⟨rfl, rfl⟩
    · replace hr := cond_f h18 hr
      refine AtRet.gen _ (StLe.refl _) rfl rfl ?_
      replace hr := Option.some.inj hr
      subst hr
      exact AtRet.pureG [] [] rfl rfl ⟨rfl, rfl⟩
mutual
def sign_Find : Nat → (List Dc) → ByteArray → Option (Int × Int)
  | 0, _, _ => none
  | n + 1, v1, v3 =>
    (sign_Check n v1).bind (fun v4 =>
    cond (v4 != 0) (
    some (0, v4)) (
    sign_Find_L1 n v1 v3 0))
def sign_Find_L1 : Nat → (List Dc) → ByteArray → Int → Option (Int × Int)
  | 0, _, _, _ => none
  | n + 1, v1, v3, v14 =>
    cond (decide (v14 < ((Dc.encL v1).length : Int))) (
    (idx v1 v14).bind (fun v16 =>
    cond (v16.name.toList == v3.toList) (
    some (v14, 0)) (
    sign_Find_L1 n v1 v3 (IntKind.i64.wrap (v14 + 1))))) (
    some (0, 6))
 end
theorem sign_Find_spec (n : Nat) (v1 : (List Dc)) (v3 : ByteArray) (a2 : Option Addr) (c2 : Nat) (r : Int × Int) (hr : sign_Find n v1 v3 = some r) : Pure Tryz.prog (.val (.fn (.func 34) [] [])) [(.v (.slice a2 ((Dc.encL v1).length) c2)), (.v (.string v3))] [(.slice a2 ((Dc.encL v1).length) c2, .sl 6 (Dc.encL v1))] (fun r' out => r' = (.tup [(.v (.int .i64 r.1)), (.v (.int .i64 r.2))]) ∧ out = []) := by
  rcases n with _ | n
  · exact no_some hr
  rw [sign_Find.eq_2] at hr
  refine spec_of_body (N := 27) (m := 0) (dt := fun _ => none) [] ttOK Tryz.func34 rfl Tryz.call34 Tryz.ntmps34 rfl rfl rfl mixed (by kernel_rfl) ?_
  obtain ⟨v4, h5, hr⟩ := bind_some hr
  refine (sign_Check_spec n v1 a2 c2 _ h5).atR [0] rfl rfl rfl ?_
  rintro _ _ ⟨rfl, rfl⟩
  refine AtIf.mk (fun h6 => ?_) (fun h6 => ?_)
  · replace hr := cond_t h6 hr
    replace hr := Option.some.inj hr
    subst hr
    exact AtRet.pureG [] [] rfl rfl ⟨rfl, rfl⟩
  · replace hr := cond_f h6 hr
    refine AtLoop.mk ⟨Nat × Int, fun x => [(1, (.v (.string v3))), (14, (.v (.slice a2 ((Dc.encL v1).length) c2))), (15, (.v (.int .i64 ((Dc.encL v1).length : Int)))), (16, (.v (.int .i64 x.2)))], fun x => ⟨[], [], [(.slice a2 ((Dc.encL v1).length) c2, .sl 6 (Dc.encL v1))]⟩, fun x => sign_Find_L1 x.1 v1 v3 x.2 = some r, fun x => x.1, (n, 0), hr, ⟨rfl, rfl, rfl, rfl, trivial⟩, (StLe.gen 0 [] [.old 0] rfl rfl rfl rfl rfl rfl rfl), fun x _ => ⟨rfl, rfl⟩, ?_⟩
    rintro ⟨n, v14⟩ HH
    have hr : sign_Find_L1 n v1 v3 v14 = some r := HH
    rcases n with _ | n
    · exact no_some hr
    rw [sign_Find_L1.eq_2] at hr
    refine AtIf.mk (fun h15 => ?_) (fun h15 => ?_)
    · replace hr := cond_t h15 hr
      obtain ⟨v16, h17, hr⟩ := bind_some hr
      obtain ⟨h18, h19⟩ := idx_some h17
      refine at_index ttOK 0 rfl rfl rfl rfl h18 (Dc.encL_get h19) ?_
      intro a20 c20 _ _
      refine AtIf.mk (fun h21 => ?_) (fun h21 => ?_)
      · replace hr := cond_t h21 hr
        replace hr := Option.some.inj hr
        subst hr
        exact AtRet.pureG [] [] rfl rfl ⟨rfl, rfl⟩
      · replace hr := cond_f h21 hr
        exact ⟨(n, (IntKind.i64.wrap (v14 + 1))), hr, Nat.lt_succ_self _, ⟨rfl, rfl, rfl, rfl, trivial⟩, (StLe.gen 0 [] [.old 0] rfl rfl rfl rfl rfl rfl rfl)⟩
    · replace hr := cond_f h15 hr
      replace hr := Option.some.inj hr
      subst hr
      exact AtRet.pureG [] [] rfl rfl ⟨rfl, rfl⟩
def sign_Family : Nat → (List Dc) → Int → Option (Bool)
  | 0, _, _ => none
  | n + 1, v1, v3 =>
    (idx v1 v3).bind (fun v4 =>
    (sign_kind n v4.cls).bind (fun v9 =>
    some (v9)))
theorem sign_Family_spec (n : Nat) (v1 : (List Dc)) (v3 : Int) (a2 : Option Addr) (c2 : Nat) (r : Bool) (hr : sign_Family n v1 v3 = some r) : Pure Tryz.prog (.val (.fn (.func 35) [] [])) [(.v (.slice a2 ((Dc.encL v1).length) c2)), (.v (.int .i64 v3))] [(.slice a2 ((Dc.encL v1).length) c2, .sl 6 (Dc.encL v1))] (fun r' out => r' = (.v (.bool r)) ∧ out = []) := by
  rcases n with _ | n
  · exact no_some hr
  rw [sign_Family.eq_2] at hr
  refine spec_of_body (N := 11) (m := 0) (dt := fun _ => none) [] ttOK Tryz.func35 rfl Tryz.call35 Tryz.ntmps35 rfl rfl rfl mixed (by kernel_rfl) ?_
  obtain ⟨v4, h5, hr⟩ := bind_some hr
  obtain ⟨h6, h7⟩ := idx_some h5
  refine at_index ttOK 0 rfl rfl rfl rfl h6 (Dc.encL_get h7) ?_
  intro a8 c8 _ _
  obtain ⟨v9, h10, hr⟩ := bind_some hr
  refine (sign_kind_spec n v4.cls a8 c8 _ h10).atR [1] rfl rfl rfl ?_
  rintro _ _ ⟨rfl, rfl⟩
  replace hr := Option.some.inj hr
  subst hr
  exact AtRet.pureG [] [] rfl rfl ⟨rfl, rfl⟩
mutual
def slices_Index : Nat → (List Int) → Int → Option (Int)
  | 0, _, _ => none
  | n + 1, v1, v3 =>
    slices_Index_L1 n v1 v3 0
def slices_Index_L1 : Nat → (List Int) → Int → Int → Option (Int)
  | 0, _, _, _ => none
  | n + 1, v1, v3, v10 =>
    cond (decide (v10 < ((List.map (D.int .i64) v1).length : Int))) (
    (idx v1 v10).bind (fun v12 =>
    cond (v3 == v12) (
    some (v10)) (
    slices_Index_L1 n v1 v3 (IntKind.i64.wrap (v10 + 1))))) (
    some ((-1)))
 end
theorem slices_Index_spec (n : Nat) (v1 : (List Int)) (v3 : Int) (a2 : Option Addr) (c2 : Nat) (r : Int) (hr : slices_Index n v1 v3 = some r) : Pure Tryz.prog (.val (.fn (.func 62) [] [])) [(.v (.slice a2 ((List.map (D.int .i64) v1).length) c2)), (.v (.int .i64 v3))] [(.slice a2 ((List.map (D.int .i64) v1).length) c2, .sl 1 (List.map (D.int .i64) v1))] (fun r' out => r' = (.v (.int .i64 r)) ∧ out = []) := by
  rcases n with _ | n
  · exact no_some hr
  rw [slices_Index.eq_2] at hr
  refine spec_of_body (N := 19) (m := 0) (dt := fun _ => none) [] ttOK Tryz.func62 rfl Tryz.call62 Tryz.ntmps62 rfl rfl rfl mixed (by kernel_rfl) ?_
  refine AtLoop.mk ⟨Nat × Int, fun x => [(0, (.v (.slice a2 ((List.map (D.int .i64) v1).length) c2))), (1, (.v (.int .i64 v3))), (7, (.v (.int .i64 ((List.map (D.int .i64) v1).length : Int)))), (8, (.v (.int .i64 x.2)))], fun x => ⟨[], [], [(.slice a2 ((List.map (D.int .i64) v1).length) c2, .sl 1 (List.map (D.int .i64) v1))]⟩, fun x => slices_Index_L1 x.1 v1 v3 x.2 = some r, fun x => x.1, (n, 0), hr, ⟨rfl, rfl, rfl, rfl, trivial⟩, (StLe.gen 0 [] [.old 0] rfl rfl rfl rfl rfl rfl rfl), fun x _ => ⟨rfl, rfl⟩, ?_⟩
  rintro ⟨n, v10⟩ HH
  have hr : slices_Index_L1 n v1 v3 v10 = some r := HH
  rcases n with _ | n
  · exact no_some hr
  rw [slices_Index_L1.eq_2] at hr
  refine AtIf.mk (fun h11 => ?_) (fun h11 => ?_)
  · replace hr := cond_t h11 hr
    obtain ⟨v12, h13, hr⟩ := bind_some hr
    obtain ⟨h14, h15⟩ := idx_some h13
    refine at_index ttOK 0 rfl rfl rfl rfl h14 (map_get (D.int .i64) h15) ?_
    refine AtIf.mk (fun h16 => ?_) (fun h16 => ?_)
    · replace hr := cond_t h16 hr
      replace hr := Option.some.inj hr
      subst hr
      exact AtRet.pureG [] [] rfl rfl ⟨rfl, rfl⟩
    · replace hr := cond_f h16 hr
      exact ⟨(n, (IntKind.i64.wrap (v10 + 1))), hr, Nat.lt_succ_self _, ⟨rfl, rfl, rfl, rfl, trivial⟩, (StLe.gen 0 [] [.old 0] rfl rfl rfl rfl rfl rfl rfl)⟩
  · replace hr := cond_f h11 hr
    replace hr := Option.some.inj hr
    subst hr
    exact AtRet.pureG [] [] rfl rfl ⟨rfl, rfl⟩
def slices_Contains : Nat → (List Int) → Int → Option (Bool)
  | 0, _, _ => none
  | n + 1, v1, v3 =>
    (slices_Index n v1 v3).bind (fun v4 =>
    some ((decide (v4 ≥ 0))))
theorem slices_Contains_spec (n : Nat) (v1 : (List Int)) (v3 : Int) (a2 : Option Addr) (c2 : Nat) (r : Bool) (hr : slices_Contains n v1 v3 = some r) : Pure Tryz.prog (.val (.fn (.func 128) [] [])) [(.v (.slice a2 ((List.map (D.int .i64) v1).length) c2)), (.v (.int .i64 v3))] [(.slice a2 ((List.map (D.int .i64) v1).length) c2, .sl 1 (List.map (D.int .i64) v1))] (fun r' out => r' = (.v (.bool r)) ∧ out = []) := by
  rcases n with _ | n
  · exact no_some hr
  rw [slices_Contains.eq_2] at hr
  refine spec_of_body (N := 9) (m := 0) (dt := fun _ => none) [] ttOK Tryz.func128 rfl Tryz.call128 Tryz.ntmps128 rfl rfl rfl mixed (by kernel_rfl) ?_
  obtain ⟨v4, h5, hr⟩ := bind_some hr
  refine (slices_Index_spec n v1 v3 a2 c2 _ h5).atR [0] rfl rfl rfl ?_
  rintro _ _ ⟨rfl, rfl⟩
  replace hr := Option.some.inj hr
  subst hr
  exact AtRet.pureG [] [] rfl rfl ⟨rfl, rfl⟩
def term_Occurs : Nat → Tm → Int → Option (Bool × Int)
  | 0, _, _ => none
  | n + 1, v1, v3 =>
    (slices_Contains n (freeL v1) v3).bind (fun v5 =>
    some (v5, (freeE v1)))
theorem term_Occurs_spec (n : Nat) (v1 : Tm) (v3 : Int) (a2 : Option Addr) (c2 : Nat) (r : Bool × Int) (hr : term_Occurs n v1 v3 = some r) : Pure Tryz.prog (.val (.fn (.func 83) [] [])) [(.agg [(.v (.int .i64 v1.op)), (.v (.int .i64 v1.hd)), (.v (.int .i64 v1.n)), (.v (.slice a2 ((Tm.encL v1.args).length) c2))]), (.v (.int .i64 v3))] [(.slice a2 ((Tm.encL v1.args).length) c2, .sl 4 (Tm.encL v1.args))] (fun r' out => r' = (.tup [(.v (.bool r.1)), (.v (.int .i64 r.2))]) ∧ out = []) := by
  rcases n with _ | n
  · exact no_some hr
  rw [term_Occurs.eq_2] at hr
  refine spec_of_body (N := 17) (m := 0) (dt := fun _ => none) [] ttOK Tryz.func83 rfl Tryz.call83 Tryz.ntmps83 rfl rfl rfl mixed (by kernel_rfl) ?_
  refine (free0 v1 a2 c2).atR [0] rfl rfl rfl ?_
  rintro _ _ ⟨a4, c4, rfl, rfl⟩
  obtain ⟨v5, h6, hr⟩ := bind_some hr
  refine (slices_Contains_spec n (freeL v1) v3 a4 c4 _ h6).atR [1] rfl rfl rfl ?_
  rintro _ _ ⟨rfl, rfl⟩
  replace hr := Option.some.inj hr
  subst hr
  exact AtRet.pureG [] [] rfl rfl ⟨rfl, rfl⟩
mutual
def mode_stands : Nat → (List Tm) → (List Int) → Int → Int → Int → Option (Bool)
  | 0, _, _, _, _, _ => none
  | n + 1, v1, v3, v5, v6, v7 =>
    mode_stands_L1 n v1 v5 v3 v7 v6
def mode_stands_L1 : Nat → (List Tm) → Int → (List Int) → Int → Int → Option (Bool)
  | 0, _, _, _, _, _ => none
  | n + 1, v1, v5, v3, v7, v22 =>
    cond (decide (v22 < ((Tm.encL v1).length : Int))) (
    (idx v1 v22).bind (fun v24 =>
    (term_Occurs n v24 (IntKind.i64.wrap ((IntKind.i64.wrap (v22 - 1)) - v5))).bind (fun v29 =>
    cond v29.1 (
    (idx v3 v22).bind (fun v32 =>
    cond (v32 == v7) (
    some (true)) (
    mode_stands_L1 n v1 v5 v3 v7 (IntKind.i64.wrap (v22 + 1))))) (
    mode_stands_L1 n v1 v5 v3 v7 (IntKind.i64.wrap (v22 + 1)))))) (
    some (false))
 end
theorem mode_stands_spec (n : Nat) (v1 : (List Tm)) (v3 : (List Int)) (v5 : Int) (v6 : Int) (v7 : Int) (a2 : Option Addr) (c2 : Nat) (a4 : Option Addr) (c4 : Nat) (r : Bool) (hr : mode_stands n v1 v3 v5 v6 v7 = some r) : Pure Tryz.prog (.val (.fn (.func 37) [] [])) [(.v (.slice a2 ((Tm.encL v1).length) c2)), (.v (.slice a4 ((List.map (D.int .i64) v3).length) c4)), (.v (.int .i64 v5)), (.v (.int .i64 v6)), (.v (.int .i64 v7))] [(.slice a2 ((Tm.encL v1).length) c2, .sl 4 (Tm.encL v1)), (.slice a4 ((List.map (D.int .i64) v3).length) c4, .sl 1 (List.map (D.int .i64) v3))] (fun r' out => r' = (.v (.bool r)) ∧ out = []) := by
  rcases n with _ | n
  · exact no_some hr
  rw [mode_stands.eq_2] at hr
  refine spec_of_body (N := 42) (m := 0) (dt := fun _ => none) [] ttOK Tryz.func37 rfl Tryz.call37 Tryz.ntmps37 rfl rfl rfl mixed (by kernel_rfl) ?_
  refine AtLoop.mk ⟨Nat × Int, fun x => [(0, (.v (.slice a2 ((Tm.encL v1).length) c2))), (1, (.v (.slice a4 ((List.map (D.int .i64) v3).length) c4))), (2, (.v (.int .i64 v5))), (4, (.v (.int .i64 v7))), (11, (.v (.int .i64 x.2)))], fun x => ⟨[], [], [(.slice a2 ((Tm.encL v1).length) c2, .sl 4 (Tm.encL v1)), (.slice a4 ((List.map (D.int .i64) v3).length) c4, .sl 1 (List.map (D.int .i64) v3))]⟩, fun x => mode_stands_L1 x.1 v1 v5 v3 v7 x.2 = some r, fun x => x.1, (n, v6), hr, ⟨rfl, rfl, rfl, rfl, rfl, trivial⟩, (StLe.gen 0 [] [.old 0, .old 1] rfl rfl rfl rfl rfl rfl rfl), fun x _ => ⟨rfl, rfl⟩, ?_⟩
  rintro ⟨n, v22⟩ HH
  have hr : mode_stands_L1 n v1 v5 v3 v7 v22 = some r := HH
  rcases n with _ | n
  · exact no_some hr
  rw [mode_stands_L1.eq_2] at hr
  refine AtIf.mk (fun h23 => ?_) (fun h23 => ?_)
  · replace hr := cond_t h23 hr
    obtain ⟨v24, h25, hr⟩ := bind_some hr
    obtain ⟨h26, h27⟩ := idx_some h25
    refine at_index ttOK 0 rfl rfl rfl rfl h26 (Tm.encL_get h27) ?_
    intro a28 c28 _ _
    obtain ⟨v29, h30, hr⟩ := bind_some hr
    refine (term_Occurs_spec n v24 (IntKind.i64.wrap ((IntKind.i64.wrap (v22 - 1)) - v5)) a28 c28 _ h30).atR [2] rfl rfl rfl ?_
    rintro _ _ ⟨rfl, rfl⟩
    refine AtGuard.mk (fun h31 => ?_) (fun h31 => ?_)
    · replace hr := cond_t h31 hr
      obtain ⟨v32, h33, hr⟩ := bind_some hr
      obtain ⟨h34, h35⟩ := idx_some h33
      refine at_index ttOK 1 rfl rfl rfl rfl h34 (map_get (D.int .i64) h35) ?_
      refine AtIf.mk (fun h36 => ?_) (fun h36 => ?_)
      · replace hr := cond_t h36 hr
        replace hr := Option.some.inj hr
        subst hr
        exact AtRet.pureG [] [] rfl rfl ⟨rfl, rfl⟩
      · replace hr := cond_f h36 hr
        exact ⟨(n, (IntKind.i64.wrap (v22 + 1))), hr, Nat.lt_succ_self _, ⟨rfl, rfl, rfl, rfl, rfl, trivial⟩, (StLe.gen 0 [] [.old 0, .old 1] rfl rfl rfl rfl rfl rfl rfl)⟩
    · replace hr := cond_f h31 hr
      refine AtIf.mk (fun h => ff h) (fun _ => ?_)
      exact ⟨(n, (IntKind.i64.wrap (v22 + 1))), hr, Nat.lt_succ_self _, ⟨rfl, rfl, rfl, rfl, rfl, trivial⟩, (StLe.gen 0 [] [.old 0, .old 1] rfl rfl rfl rfl rfl rfl rfl)⟩
  · replace hr := cond_f h23 hr
    replace hr := Option.some.inj hr
    subst hr
    exact AtRet.pureG [] [] rfl rfl ⟨rfl, rfl⟩
mutual
def mode_Read : Nat → (List Dc) → It → Option (Md × Int)
  | 0, _, _ => none
  | n + 1, v1, v3 =>
    (sign_Check n v1).bind (fun v6 =>
    cond (v6 != 0) (
    some ((Md.mk 0 ([])), 2)) (
    cond ((((if itemOK v3 then (0 : Int) else 2) != 0) || (!(v3.word.toList == (⟨#[109, 111, 100, 101]⟩ : ByteArray).toList))) || (((Pt.encL v3.parts).length : Int) == 0)) (
    some ((Md.mk 0 ([])), 2)) (
    (idx v3.parts 0).bind (fun v10 =>
    cond (v10.op != 1) (
    some ((Md.mk 0 ([])), 2)) (
    cond (decide ((0 : Int) ≤ 1 ∧ 1 ≤ ((Pt.encL v3.parts).length : Int) ∧ ((Pt.encL v3.parts).length : Int) ≤ ((Pt.encL v3.parts).length : Int))) (
    mode_Read_L1 n v3 v1 ([]) 0) none)))))
def mode_Read_L3 : Nat → ((List Tm) × Tm) → Int → Dc → Md → Int → Option (Md × Int)
  | 0, _, _, _, _, _ => none
  | n + 1, v61, v116, v65, v139, v141 =>
    cond (decide (v141 < ((List.map (D.int .i64) ([2, 1])).length : Int))) (
    (idx ([2, 1]) v141).bind (fun v144 =>
    (mode_stands n v61.1 v139.signs v116 v65.implicit v144).bind (fun v148 =>
    cond v148 (
    cond (decide (0 ≤ v116 ∧ (v116).toNat < (List.map (D.int .i64) v139.signs).length)) (
    mode_Read_L3 n v61 v116 v65 (Md.mk v139.family (v139.signs.set ((v116).toNat) v144)) (IntKind.i64.wrap (v141 + 1))) none) (
    mode_Read_L3 n v61 v116 v65 v139 (IntKind.i64.wrap (v141 + 1)))))) (
    mode_Read_L2 n v65 v61 v139 (IntKind.i64.wrap (v116 + 1)))
def mode_Read_L2 : Nat → Dc → ((List Tm) × Tm) → Md → Int → Option (Md × Int)
  | 0, _, _, _, _ => none
  | n + 1, v65, v61, v114, v116 =>
    cond (decide (v116 < v65.implicit)) (
    cond (decide (0 ≤ v116 ∧ (v116).toNat < (List.map (D.int .i64) v114.signs).length)) (
    mode_Read_L3 n v61 v116 v65 (Md.mk v114.family (v114.signs.set ((v116).toNat) 3)) 0) none) (
    some (v114, 0))
def mode_Read_L1 : Nat → It → (List Dc) → (List Int) → Int → Option (Md × Int)
  | 0, _, _, _, _ => none
  | n + 1, v3, v1, v30, v32 =>
    cond (decide (v32 < ((Pt.encL (v3.parts.drop (1 : Int).toNat)).length : Int))) (
    (idx (v3.parts.drop (1 : Int).toNat) v32).bind (fun v34 =>
    cond (v34.op != 2) (
    some ((Md.mk 0 ([])), 2)) (
    cond (decide ((List.map (D.int .i64) (v30 ++ [((mget (mput (⟨#[42]⟩ : ByteArray) 3 (mput (⟨#[45]⟩ : ByteArray) 2 (mput (⟨#[43]⟩ : ByteArray) 1 ([])))) v34.sign).getD 0)])).length ≤ 1000000)) (
    mode_Read_L1 n v3 v1 (v30 ++ [((mget (mput (⟨#[42]⟩ : ByteArray) 3 (mput (⟨#[45]⟩ : ByteArray) 2 (mput (⟨#[43]⟩ : ByteArray) 1 ([])))) v34.sign).getD 0)]) (IntKind.i64.wrap (v32 + 1))) none))) (
    (idx v3.parts 0).bind (fun v44 =>
    (sign_Find n v1 v44.name).bind (fun v50 =>
    cond (v50.2 != 0) (
    some ((Md.mk 0 ([])), 20)) (
    (sign_Family n v1 v50.1).bind (fun v53 =>
    cond (!v53) (
    some ((Md.mk 0 ([])), 22)) (
    (idx v1 v50.1).bind (fun v56 =>
    (term_Domains n v56.cls).bind (fun v61 =>
    (idx v1 v50.1).bind (fun v65 =>
    cond (((Tm.encL v61.1).length : Int) != (IntKind.i64.wrap (v65.implicit + ((List.map (D.int .i64) v30).length : Int)))) (
    some ((Md.mk 0 ([])), 23)) (
    cond (decide ((0 : Int) ≤ v65.implicit ∧ (v65.implicit : Int) ≤ 1000000)) (
    cond (decide ((List.map (D.int .i64) ((List.replicate (v65.implicit).toNat (0 : Int)) ++ v30)).length ≤ 1000000)) (
    mode_Read_L2 n v65 v61 (Md.mk v50.1 ((List.replicate (v65.implicit).toNat (0 : Int)) ++ v30)) 0) none) none))))))))))
 end
theorem mode_Read_spec (n : Nat) (v1 : (List Dc)) (v3 : It) (a2 : Option Addr) (c2 : Nat) (a4 : Option Addr) (c4 : Nat) (a5 : Option Addr) (c5 : Nat) (r : Md × Int) (hr : mode_Read n v1 v3 = some r) : Pure Tryz.prog (.val (.fn (.func 8) [] [])) [(.v (.slice a2 ((Dc.encL v1).length) c2)), (.agg [(.v (.string v3.word)), (.v (.string v3.name)), (.v (.int .i64 v3.raw.op)), (.v (.string v3.raw.name)), (.v (.slice a4 ((Rw.encL v3.raw.args).length) c4)), (.v (.slice a5 ((Pt.encL v3.parts).length) c5))])] [(.slice a2 ((Dc.encL v1).length) c2, .sl 6 (Dc.encL v1)), (.slice a4 ((Rw.encL v3.raw.args).length) c4, .sl 3 (Rw.encL v3.raw.args)), (.slice a5 ((Pt.encL v3.parts).length) c5, .sl 8 (Pt.encL v3.parts))] (fun r' out => ∃ (b1 : Option Addr) (d1 : Nat), r' = (.tup [(.agg [(.v (.int .i64 r.1.family)), (.v (.slice b1 ((List.map (D.int .i64) r.1.signs).length) d1))]), (.v (.int .i64 r.2))]) ∧ out = [(.slice b1 ((List.map (D.int .i64) r.1.signs).length) d1, .sl 1 (List.map (D.int .i64) r.1.signs))]) := by
  rcases n with _ | n
  · exact no_some hr
  rw [mode_Read.eq_2] at hr
  refine spec_of_body (N := 146) (m := 0) (dt := drawsOf [(9, .node [0, 2, 3] [(1, .node [] [(4, .node [] [(5, .node [] [(6, .leaf [7])])])])], [6], [])]) [] ttOK Tryz.func8 rfl Tryz.call8 Tryz.ntmps8 rfl rfl rfl mixed (by kernel_rfl) ?_
  obtain ⟨v6, h7, hr⟩ := bind_some hr
  refine (sign_Check_spec n v1 a2 c2 _ h7).atR [0] rfl rfl rfl ?_
  rintro _ _ ⟨rfl, rfl⟩
  refine AtGuard.mk (fun h8 => ?_) (fun h8 => ?_)
  · replace hr := cond_f h8 hr
    refine (checkItem_spec v3 a4 c4 a5 c5).atR [1, 2] rfl rfl rfl ?_
    rintro _ _ ⟨rfl, rfl⟩
    refine AtGuard.mk (fun h9 => ?_) (fun h9 => ?_)
    · replace hr := cond_f h9 hr
      obtain ⟨v10, h11, hr⟩ := bind_some hr
      obtain ⟨h12, h13⟩ := idx_some h11
      refine at_index ttOK 2 rfl rfl rfl rfl h12 (Pt.encL_get h13) ?_
      intro a14 c14 _ _ a15 c15 _ _
      refine AtIf.mk (fun h16 => ?_) (fun h16 => ?_)
      · replace hr := cond_t h16 hr
        replace hr := Option.some.inj hr
        subst hr
        exact AtRet.pureG [.nil 1] [(.slice none 0 0, .sl 1 [])] rfl rfl ⟨none, 0, rfl, rfl⟩
      · replace hr := cond_f h16 hr
        obtain ⟨h17, hr⟩ := cond_need hr
        refine at_sliceG ttOK 2 1 ((Pt.encL v3.parts).length : Int) (ds' := (Pt.encL (v3.parts.drop (1 : Int).toNat))) rfl rfl rfl (.inl ⟨_, rfl⟩) (.inr ⟨rfl, rfl⟩) h17 (by simp only [Pt.encL_eq]; exact sl_l ..) ?_
        intro a18 c18
        refine AtLoop.mk ⟨Nat × (List Int) × Option Addr × Nat × Int, fun x => [(0, (.v (.slice a2 ((Dc.encL v1).length) c2))), (3, (.loc 0 0)), (4, (.loc 1 0)), (6, (.v (.slice x.2.2.1 ((List.map (D.int .i64) x.2.1).length) x.2.2.2.1))), (48, (.v (.slice a18 ((Pt.encL (v3.parts.drop (1 : Int).toNat)).length) c18))), (49, (.v (.int .i64 ((Pt.encL (v3.parts.drop (1 : Int).toNat)).length : Int)))), (50, (.v (.int .i64 x.2.2.2.2)))], fun x => ⟨[.cells 28 [(.v (.string v3.word)), (.v (.string v3.name)), (.v (.int .i64 v3.raw.op)), (.v (.string v3.raw.name)), (.v (.slice a4 ((Rw.encL v3.raw.args).length) c4)), (.v (.slice a5 ((Pt.encL v3.parts).length) c5))], .cells 31 [(.v (.int .i64 0)), (.v (.slice none 0 0))], .imm [(.v (.int .i64 v10.op)), (.v (.string v10.sign)), (.v (.string v10.name)), (.v (.int .i64 v10.n)), (.v (.int .i64 v10.raw.op)), (.v (.string v10.raw.name)), (.v (.slice a14 ((Rw.encL v10.raw.args).length) c14)), (.v (.slice a15 ((Pt.encL v10.parts).length) c15))]], [⟨.slice x.2.2.1 ((List.map (D.int .i64) x.2.1).length) x.2.2.2.1, 1, 3, (List.map (D.int .i64) x.2.1)⟩], [(.slice a2 ((Dc.encL v1).length) c2, .sl 6 (Dc.encL v1)), (.slice a4 ((Rw.encL v3.raw.args).length) c4, .sl 3 (Rw.encL v3.raw.args)), (.slice a5 ((Pt.encL v3.parts).length) c5, .sl 8 (Pt.encL v3.parts)), (.slice a14 ((Rw.encL v10.raw.args).length) c14, .sl 3 (Rw.encL v10.raw.args)), (.slice a15 ((Pt.encL v10.parts).length) c15, .sl 8 (Pt.encL v10.parts)), (.slice a18 ((Pt.encL (v3.parts.drop (1 : Int).toNat)).length) c18, .sl 8 (Pt.encL (v3.parts.drop (1 : Int).toNat)))]⟩, fun x => mode_Read_L1 x.1 v3 v1 x.2.1 x.2.2.2.2 = some r, fun x => x.1, (n, [], none, 0, 0), hr, ⟨rfl, rfl, rfl, rfl, rfl, rfl, rfl, trivial⟩, (StLe.gen 3 [.nil 1 3] [.old 0, .old 1, .old 2, .old 3, .old 4, .old 5] rfl rfl rfl rfl rfl rfl rfl), fun x _ => ⟨rfl, rfl⟩, ?_⟩
        rintro ⟨n, v30, a31, c31, v32⟩ HH
        have hr : mode_Read_L1 n v3 v1 v30 v32 = some r := HH
        rcases n with _ | n
        · exact no_some hr
        rw [mode_Read_L1.eq_2] at hr
        refine AtIf.mk (fun h33 => ?_) (fun h33 => ?_)
        · replace hr := cond_t h33 hr
          obtain ⟨v34, h35, hr⟩ := bind_some hr
          obtain ⟨h36, h37⟩ := idx_some h35
          refine at_index ttOK 5 rfl rfl rfl rfl h36 (Pt.encL_get h37) ?_
          intro a38 c38 _ _ a39 c39 _ _
          refine AtIf.mk (fun h40 => ?_) (fun h40 => ?_)
          · replace hr := cond_t h40 hr
            replace hr := Option.some.inj hr
            subst hr
            exact AtRet.pureG [.nil 1] [(.slice none 0 0, .sl 1 [])] rfl rfl ⟨none, 0, rfl, rfl⟩
          · replace hr := cond_f h40 hr
            refine spec_of_body (N := 3) (m := 5) (dt := fun _ => none) [] ttOK Tryz.func33 rfl Tryz.call33 Tryz.ntmps33 rfl rfl rfl mixed (by kernel_rfl) ?_
            refine at_makeMapS ?_
            refine at_mapPutS (l := encM (Value.int .i64) ([])) ttOK (.int .i64 1) rfl Tryz.underlying9 rfl rfl rfl (fun _ => rfl) ?_
            rw [putS_enc (Value.int .i64) (⟨#[43]⟩ : ByteArray) 1 ([])]
            refine at_mapPutS (l := encM (Value.int .i64) (mput (⟨#[43]⟩ : ByteArray) 1 ([]))) ttOK (.int .i64 2) rfl Tryz.underlying9 rfl rfl rfl (fun _ => rfl) ?_
            rw [putS_enc (Value.int .i64) (⟨#[45]⟩ : ByteArray) 2 (mput (⟨#[43]⟩ : ByteArray) 1 ([]))]
            refine at_mapPutS (l := encM (Value.int .i64) (mput (⟨#[45]⟩ : ByteArray) 2 (mput (⟨#[43]⟩ : ByteArray) 1 ([])))) ttOK (.int .i64 3) rfl Tryz.underlying9 rfl rfl rfl (fun _ => rfl) ?_
            rw [putS_enc (Value.int .i64) (⟨#[42]⟩ : ByteArray) 3 (mput (⟨#[45]⟩ : ByteArray) 2 (mput (⟨#[43]⟩ : ByteArray) 1 ([])))]
            refine AtRet.gen _ (StLe.refl _) rfl rfl ?_
            refine ⟨OwnKeptBut.append, ?_⟩
            refine at_lookupSG ttOK (Value.int .i64) 0 rfl Tryz.underlying9 rfl rfl rfl rfl ?_
            refine ⟨fun _ _ h => h, ?_⟩
            refine at_buildG (n := 1) ttOK 8 [.int .i64 ((mget (mput (⟨#[42]⟩ : ByteArray) 3 (mput (⟨#[45]⟩ : ByteArray) 2 (mput (⟨#[43]⟩ : ByteArray) 1 ([])))) v34.sign).getD 0)] (ds' := (List.map (D.int .i64) ([((mget (mput (⟨#[42]⟩ : ByteArray) 3 (mput (⟨#[45]⟩ : ByteArray) 2 (mput (⟨#[43]⟩ : ByteArray) 1 ([])))) v34.sign).getD 0)]))) rfl (by kernel_rfl) ⟨⟨rfl, rfl, rfl, rfl⟩, trivial⟩ rfl rfl (by decide) (by decide) ?_
            intro a41
            refine ⟨fun _ _ h => h, ?_⟩
            obtain ⟨h42, hr⟩ := cond_need hr
            refine at_appendG (ds' := (List.map (D.int .i64) (v30 ++ [((mget (mput (⟨#[42]⟩ : ByteArray) 3 (mput (⟨#[45]⟩ : ByteArray) 2 (mput (⟨#[43]⟩ : ByteArray) 1 ([])))) v34.sign).getD 0)]))) ttOK 8 0 8 rfl (by kernel_rfl) rfl rfl rfl rfl (by simp only [List.map_append]) h42 (by decide) ?_
            intro a43 c43
            exact ⟨(n, (v30 ++ [((mget (mput (⟨#[42]⟩ : ByteArray) 3 (mput (⟨#[45]⟩ : ByteArray) 2 (mput (⟨#[43]⟩ : ByteArray) 1 ([])))) v34.sign).getD 0)]), a43, c43, (IntKind.i64.wrap (v32 + 1))), hr, Nat.lt_succ_self _, ⟨rfl, rfl, rfl, rfl, rfl, rfl, rfl, trivial⟩, (StLe.gen 3 [.old 0] [.old 0, .old 1, .old 2, .old 3, .old 4, .old 5] rfl rfl rfl rfl rfl rfl rfl)⟩
        · replace hr := cond_f h33 hr
          obtain ⟨v44, h45, hr⟩ := bind_some hr
          obtain ⟨h46, h47⟩ := idx_some h45
          refine at_index ttOK 2 rfl rfl rfl rfl h46 (Pt.encL_get h47) ?_
          intro a48 c48 _ _ a49 c49 _ _
          obtain ⟨v50, h51, hr⟩ := bind_some hr
          refine (sign_Find_spec n v1 v44.name a2 c2 _ h51).atR [0] rfl rfl rfl ?_
          rintro _ _ ⟨rfl, rfl⟩
          refine AtIf.mk (fun h52 => ?_) (fun h52 => ?_)
          · replace hr := cond_t h52 hr
            replace hr := Option.some.inj hr
            subst hr
            exact AtRet.pureG [.nil 1] [(.slice none 0 0, .sl 1 [])] rfl rfl ⟨none, 0, rfl, rfl⟩
          · replace hr := cond_f h52 hr
            obtain ⟨v53, h54, hr⟩ := bind_some hr
            refine (sign_Family_spec n v1 v50.1 a2 c2 _ h54).atR [0] rfl rfl rfl ?_
            rintro _ _ ⟨rfl, rfl⟩
            refine AtIf.mk (fun h55 => ?_) (fun h55 => ?_)
            · replace hr := cond_t h55 hr
              replace hr := Option.some.inj hr
              subst hr
              exact AtRet.pureG [.nil 1] [(.slice none 0 0, .sl 1 [])] rfl rfl ⟨none, 0, rfl, rfl⟩
            · replace hr := cond_f h55 hr
              obtain ⟨v56, h57, hr⟩ := bind_some hr
              obtain ⟨h58, h59⟩ := idx_some h57
              refine at_index ttOK 0 rfl rfl rfl rfl h58 (Dc.encL_get h59) ?_
              intro a60 c60 _ _
              obtain ⟨v61, h62, hr⟩ := bind_some hr
              refine (term_Domains_spec n v56.cls a60 c60 _ h62).atR [8] rfl rfl rfl ?_
              rintro _ _ ⟨a63, c63, a64, c64, rfl, rfl⟩
              obtain ⟨v65, h66, hr⟩ := bind_some hr
              obtain ⟨h67, h68⟩ := idx_some h66
              refine at_index ttOK 0 rfl rfl rfl rfl h67 (Dc.encL_get h68) ?_
              intro a69 c69 _ _
              refine AtIf.mk (fun h70 => ?_) (fun h70 => ?_)
              · replace hr := cond_t h70 hr
                replace hr := Option.some.inj hr
                subst hr
                exact AtRet.pureG [.nil 1] [(.slice none 0 0, .sl 1 [])] rfl rfl ⟨none, 0, rfl, rfl⟩
              · replace hr := cond_f h70 hr
                obtain ⟨h71, hr⟩ := cond_need hr
                refine at_makeSliceG (ds' := (List.map (D.int .i64) (List.replicate (v65.implicit).toNat (0 : Int)))) (d := .int .i64 0) ttOK rfl ⟨_, rfl, rfl, rfl, by decide⟩ rfl rfl rfl (of_decide_eq_true h71) (List.map_replicate ..) ?_
                intro a72
                obtain ⟨h73, hr⟩ := cond_need hr
                refine AtSem.le (S' := ⟨[.cells 28 [(.v (.string v3.word)), (.v (.string v3.name)), (.v (.int .i64 v3.raw.op)), (.v (.string v3.raw.name)), (.v (.slice a4 ((Rw.encL v3.raw.args).length) c4)), (.v (.slice a5 ((Pt.encL v3.parts).length) c5))], .cells 31 [(.v (.int .i64 0)), (.v (.slice none 0 0))], .imm [(.v (.int .i64 v10.op)), (.v (.string v10.sign)), (.v (.string v10.name)), (.v (.int .i64 v10.n)), (.v (.int .i64 v10.raw.op)), (.v (.string v10.raw.name)), (.v (.slice a14 ((Rw.encL v10.raw.args).length) c14)), (.v (.slice a15 ((Pt.encL v10.parts).length) c15))], .imm [(.v (.int .i64 v44.op)), (.v (.string v44.sign)), (.v (.string v44.name)), (.v (.int .i64 v44.n)), (.v (.int .i64 v44.raw.op)), (.v (.string v44.raw.name)), (.v (.slice a48 ((Rw.encL v44.raw.args).length) c48)), (.v (.slice a49 ((Pt.encL v44.parts).length) c49))], .imm [(.v (.string v56.name)), (.v (.int .i64 v56.cls.op)), (.v (.int .i64 v56.cls.hd)), (.v (.int .i64 v56.cls.n)), (.v (.slice a60 ((Tm.encL v56.cls.args).length) c60)), (.v (.int .i64 v56.implicit))], .cells 47 [(.v (.int .i64 v61.2.op)), (.v (.int .i64 v61.2.hd)), (.v (.int .i64 v61.2.n)), (.v (.slice a64 ((Tm.encL v61.2.args).length) c64))], .imm [(.v (.string v65.name)), (.v (.int .i64 v65.cls.op)), (.v (.int .i64 v65.cls.hd)), (.v (.int .i64 v65.cls.n)), (.v (.slice a69 ((Tm.encL v65.cls.args).length) c69)), (.v (.int .i64 v65.implicit))], .cells 31 [(.v (.int .i64 v50.1)), (.v (.slice a72 ((List.map (D.int .i64) (List.replicate (v65.implicit).toNat (0 : Int))).length) ((v65.implicit).toNat)))]], [⟨.slice a72 ((List.map (D.int .i64) (List.replicate (v65.implicit).toNat (0 : Int))).length) ((v65.implicit).toNat), 1, 3, (List.map (D.int .i64) (List.replicate (v65.implicit).toNat (0 : Int)))⟩], [(.slice a31 ((List.map (D.int .i64) v30).length) c31, .sl 1 (List.map (D.int .i64) v30)), (.slice a2 ((Dc.encL v1).length) c2, .sl 6 (Dc.encL v1)), (.slice a4 ((Rw.encL v3.raw.args).length) c4, .sl 3 (Rw.encL v3.raw.args)), (.slice a5 ((Pt.encL v3.parts).length) c5, .sl 8 (Pt.encL v3.parts)), (.slice a14 ((Rw.encL v10.raw.args).length) c14, .sl 3 (Rw.encL v10.raw.args)), (.slice a15 ((Pt.encL v10.parts).length) c15, .sl 8 (Pt.encL v10.parts)), (.slice a18 ((Pt.encL (v3.parts.drop (1 : Int).toNat)).length) c18, .sl 8 (Pt.encL (v3.parts.drop (1 : Int).toNat))), (.slice a48 ((Rw.encL v44.raw.args).length) c48, .sl 3 (Rw.encL v44.raw.args)), (.slice a49 ((Pt.encL v44.parts).length) c49, .sl 8 (Pt.encL v44.parts)), (.slice a60 ((Tm.encL v56.cls.args).length) c60, .sl 4 (Tm.encL v56.cls.args)), (.slice a63 ((Tm.encL v61.1).length) c63, .sl 4 (Tm.encL v61.1)), (.slice a64 ((Tm.encL v61.2.args).length) c64, .sl 4 (Tm.encL v61.2.args)), (.slice a69 ((Tm.encL v65.cls.args).length) c69, .sl 4 (Tm.encL v65.cls.args))]⟩) (StLe.gen 8 [.old 0] [.froz 1, .old 0, .old 1, .old 2, .old 3, .old 4, .old 5, .old 6, .old 7, .old 8, .old 9, .old 10, .old 11] rfl rfl rfl rfl rfl rfl rfl) rfl ?_
                refine at_appendG (ds' := (List.map (D.int .i64) ((List.replicate (v65.implicit).toNat (0 : Int)) ++ v30))) ttOK 8 0 0 rfl (by kernel_rfl) rfl rfl rfl rfl (by simp only [List.map_append]) h73 (by decide) ?_
                intro a74 c74
                obtain ⟨q117, hq117⟩ : ∃ q, q = n := ⟨_, rfl⟩
                refine AtLoop.mk ⟨Nat × Md × Option Addr × Nat × Int, fun x => [(4, (.loc 1 0)), (11, (.v (.slice a63 ((Tm.encL v61.1).length) c63))), (13, (.v (.int .i64 v65.implicit))), (14, (.loc 7 0)), (117, (.v (.int .i64 v65.implicit))), (118, (.v (.int .i64 x.2.2.2.2)))], fun x => ⟨[.cells 28 [(.v (.string v3.word)), (.v (.string v3.name)), (.v (.int .i64 v3.raw.op)), (.v (.string v3.raw.name)), (.v (.slice a4 ((Rw.encL v3.raw.args).length) c4)), (.v (.slice a5 ((Pt.encL v3.parts).length) c5))], .cells 31 [(.v (.int .i64 0)), (.v (.slice none 0 0))], .imm [(.v (.int .i64 v10.op)), (.v (.string v10.sign)), (.v (.string v10.name)), (.v (.int .i64 v10.n)), (.v (.int .i64 v10.raw.op)), (.v (.string v10.raw.name)), (.v (.slice a14 ((Rw.encL v10.raw.args).length) c14)), (.v (.slice a15 ((Pt.encL v10.parts).length) c15))], .imm [(.v (.int .i64 v44.op)), (.v (.string v44.sign)), (.v (.string v44.name)), (.v (.int .i64 v44.n)), (.v (.int .i64 v44.raw.op)), (.v (.string v44.raw.name)), (.v (.slice a48 ((Rw.encL v44.raw.args).length) c48)), (.v (.slice a49 ((Pt.encL v44.parts).length) c49))], .imm [(.v (.string v56.name)), (.v (.int .i64 v56.cls.op)), (.v (.int .i64 v56.cls.hd)), (.v (.int .i64 v56.cls.n)), (.v (.slice a60 ((Tm.encL v56.cls.args).length) c60)), (.v (.int .i64 v56.implicit))], .cells 47 [(.v (.int .i64 v61.2.op)), (.v (.int .i64 v61.2.hd)), (.v (.int .i64 v61.2.n)), (.v (.slice a64 ((Tm.encL v61.2.args).length) c64))], .imm [(.v (.string v65.name)), (.v (.int .i64 v65.cls.op)), (.v (.int .i64 v65.cls.hd)), (.v (.int .i64 v65.cls.n)), (.v (.slice a69 ((Tm.encL v65.cls.args).length) c69)), (.v (.int .i64 v65.implicit))], .cells 31 [(.v (.int .i64 x.2.1.family)), (.v (.slice x.2.2.1 ((List.map (D.int .i64) x.2.1.signs).length) x.2.2.2.1))]], [⟨.slice x.2.2.1 ((List.map (D.int .i64) x.2.1.signs).length) x.2.2.2.1, 1, 3, (List.map (D.int .i64) x.2.1.signs)⟩], [(.slice a31 ((List.map (D.int .i64) v30).length) c31, .sl 1 (List.map (D.int .i64) v30)), (.slice a2 ((Dc.encL v1).length) c2, .sl 6 (Dc.encL v1)), (.slice a4 ((Rw.encL v3.raw.args).length) c4, .sl 3 (Rw.encL v3.raw.args)), (.slice a5 ((Pt.encL v3.parts).length) c5, .sl 8 (Pt.encL v3.parts)), (.slice a14 ((Rw.encL v10.raw.args).length) c14, .sl 3 (Rw.encL v10.raw.args)), (.slice a15 ((Pt.encL v10.parts).length) c15, .sl 8 (Pt.encL v10.parts)), (.slice a18 ((Pt.encL (v3.parts.drop (1 : Int).toNat)).length) c18, .sl 8 (Pt.encL (v3.parts.drop (1 : Int).toNat))), (.slice a48 ((Rw.encL v44.raw.args).length) c48, .sl 3 (Rw.encL v44.raw.args)), (.slice a49 ((Pt.encL v44.parts).length) c49, .sl 8 (Pt.encL v44.parts)), (.slice a60 ((Tm.encL v56.cls.args).length) c60, .sl 4 (Tm.encL v56.cls.args)), (.slice a63 ((Tm.encL v61.1).length) c63, .sl 4 (Tm.encL v61.1)), (.slice a64 ((Tm.encL v61.2.args).length) c64, .sl 4 (Tm.encL v61.2.args)), (.slice a69 ((Tm.encL v65.cls.args).length) c69, .sl 4 (Tm.encL v65.cls.args))]⟩, fun x => x.1 ≤ q117 ∧ mode_Read_L2 x.1 v65 v61 x.2.1 x.2.2.2.2 = some r, fun x => x.1, (n, (Md.mk v50.1 ((List.replicate (v65.implicit).toNat (0 : Int)) ++ v30)), a74, c74, 0), ⟨by omega, hr⟩, ⟨rfl, rfl, rfl, rfl, rfl, rfl, trivial⟩, (StLe.gen 8 [.old 0] [.old 0, .old 1, .old 2, .old 3, .old 4, .old 5, .old 6, .old 7, .old 8, .old 9, .old 10, .old 11, .old 12] rfl rfl rfl rfl rfl rfl rfl), fun x _ => ⟨rfl, rfl⟩, ?_⟩
                rintro ⟨n, v114, a115, c115, v116⟩ HH
                obtain ⟨hbq117, hr⟩ : n ≤ q117 ∧ mode_Read_L2 n v65 v61 v114 v116 = some r := HH
                rcases n with _ | n
                · exact no_some hr
                rw [mode_Read_L2.eq_2] at hr
                refine AtIf.mk (fun h118 => ?_) (fun h118 => ?_)
                · replace hr := cond_t h118 hr
                  obtain ⟨h119, hr⟩ := cond_need hr
                  refine at_index_accG ttOK 0 rfl rfl rfl rfl h119 ?_
                  intro b120 h121
                  subst h121
                  obtain ⟨m122, h123⟩ : ∃ m122, m122 = (List.map (D.int .i64) v114.signs).length := ⟨_, rfl⟩
                  try dsimp only
                  rw [← h123]
                  refine at_store_accG (ds' := List.map (D.int .i64) (v114.signs.set ((v116).toNat) 3)) ttOK 0 rfl (by simpa using (of_decide_eq_true h119).2) rfl (.inl ⟨_, rfl⟩) rfl rfl (map_set' ..) ?_
                  refine at_buildG (n := 2) ttOK 8 [.int .i64 2, .int .i64 1] (ds' := (List.map (D.int .i64) ([2, 1]))) rfl (by kernel_rfl) ⟨⟨rfl, rfl, rfl, rfl⟩, ⟨⟨rfl, rfl, rfl, rfl⟩, trivial⟩⟩ rfl rfl (by decide) (by decide) ?_
                  intro a124
                  obtain rfl : m122 = (List.map (D.int .i64) (v114.signs.set ((v116).toNat) 3)).length := by rw [h123]; simp
                  obtain ⟨q142, hq142⟩ : ∃ q, q = n := ⟨_, rfl⟩
                  refine AtLoop.mk ⟨Nat × Md × Option Addr × Nat × Int, fun x => [(4, (.loc 1 0)), (11, (.v (.slice a63 ((Tm.encL v61.1).length) c63))), (13, (.v (.int .i64 v65.implicit))), (14, (.loc 7 0)), (15, (.v (.int .i64 v116))), (117, (.v (.int .i64 v65.implicit))), (118, (.v (.int .i64 v116))), (125, (.v (.slice a124 ((List.map (D.int .i64) ([2, 1])).length) 2))), (126, (.v (.int .i64 ((List.map (D.int .i64) ([2, 1])).length : Int)))), (127, (.v (.int .i64 x.2.2.2.2)))], fun x => ⟨[.cells 28 [(.v (.string v3.word)), (.v (.string v3.name)), (.v (.int .i64 v3.raw.op)), (.v (.string v3.raw.name)), (.v (.slice a4 ((Rw.encL v3.raw.args).length) c4)), (.v (.slice a5 ((Pt.encL v3.parts).length) c5))], .cells 31 [(.v (.int .i64 0)), (.v (.slice none 0 0))], .imm [(.v (.int .i64 v10.op)), (.v (.string v10.sign)), (.v (.string v10.name)), (.v (.int .i64 v10.n)), (.v (.int .i64 v10.raw.op)), (.v (.string v10.raw.name)), (.v (.slice a14 ((Rw.encL v10.raw.args).length) c14)), (.v (.slice a15 ((Pt.encL v10.parts).length) c15))], .imm [(.v (.int .i64 v44.op)), (.v (.string v44.sign)), (.v (.string v44.name)), (.v (.int .i64 v44.n)), (.v (.int .i64 v44.raw.op)), (.v (.string v44.raw.name)), (.v (.slice a48 ((Rw.encL v44.raw.args).length) c48)), (.v (.slice a49 ((Pt.encL v44.parts).length) c49))], .imm [(.v (.string v56.name)), (.v (.int .i64 v56.cls.op)), (.v (.int .i64 v56.cls.hd)), (.v (.int .i64 v56.cls.n)), (.v (.slice a60 ((Tm.encL v56.cls.args).length) c60)), (.v (.int .i64 v56.implicit))], .cells 47 [(.v (.int .i64 v61.2.op)), (.v (.int .i64 v61.2.hd)), (.v (.int .i64 v61.2.n)), (.v (.slice a64 ((Tm.encL v61.2.args).length) c64))], .imm [(.v (.string v65.name)), (.v (.int .i64 v65.cls.op)), (.v (.int .i64 v65.cls.hd)), (.v (.int .i64 v65.cls.n)), (.v (.slice a69 ((Tm.encL v65.cls.args).length) c69)), (.v (.int .i64 v65.implicit))], .cells 31 [(.v (.int .i64 x.2.1.family)), (.v (.slice x.2.2.1 ((List.map (D.int .i64) x.2.1.signs).length) x.2.2.2.1))]], [⟨.slice x.2.2.1 ((List.map (D.int .i64) x.2.1.signs).length) x.2.2.2.1, 1, 3, (List.map (D.int .i64) x.2.1.signs)⟩], [(.slice a31 ((List.map (D.int .i64) v30).length) c31, .sl 1 (List.map (D.int .i64) v30)), (.slice a2 ((Dc.encL v1).length) c2, .sl 6 (Dc.encL v1)), (.slice a4 ((Rw.encL v3.raw.args).length) c4, .sl 3 (Rw.encL v3.raw.args)), (.slice a5 ((Pt.encL v3.parts).length) c5, .sl 8 (Pt.encL v3.parts)), (.slice a14 ((Rw.encL v10.raw.args).length) c14, .sl 3 (Rw.encL v10.raw.args)), (.slice a15 ((Pt.encL v10.parts).length) c15, .sl 8 (Pt.encL v10.parts)), (.slice a18 ((Pt.encL (v3.parts.drop (1 : Int).toNat)).length) c18, .sl 8 (Pt.encL (v3.parts.drop (1 : Int).toNat))), (.slice a48 ((Rw.encL v44.raw.args).length) c48, .sl 3 (Rw.encL v44.raw.args)), (.slice a49 ((Pt.encL v44.parts).length) c49, .sl 8 (Pt.encL v44.parts)), (.slice a60 ((Tm.encL v56.cls.args).length) c60, .sl 4 (Tm.encL v56.cls.args)), (.slice a63 ((Tm.encL v61.1).length) c63, .sl 4 (Tm.encL v61.1)), (.slice a64 ((Tm.encL v61.2.args).length) c64, .sl 4 (Tm.encL v61.2.args)), (.slice a69 ((Tm.encL v65.cls.args).length) c69, .sl 4 (Tm.encL v65.cls.args)), (.slice a124 ((List.map (D.int .i64) ([2, 1])).length) 2, .sl 1 (List.map (D.int .i64) ([2, 1])))]⟩, fun x => x.1 ≤ q142 ∧ mode_Read_L3 x.1 v61 v116 v65 x.2.1 x.2.2.2.2 = some r, fun x => x.1, (n, (Md.mk v114.family (v114.signs.set ((v116).toNat) 3)), (some ⟨b120, 0, none⟩), c115, 0), ⟨by omega, hr⟩, ⟨rfl, rfl, rfl, rfl, rfl, rfl, rfl, rfl, rfl, rfl, trivial⟩, (StLe.gen 8 [.old 0] [.old 0, .old 1, .old 2, .old 3, .old 4, .old 5, .old 6, .old 7, .old 8, .old 9, .old 10, .old 11, .old 12, .old 13] rfl rfl rfl rfl rfl rfl rfl), fun x _ => ⟨rfl, rfl⟩, ?_⟩
                  rintro ⟨n, v139, a140, c140, v141⟩ HH
                  obtain ⟨hbq142, hr⟩ : n ≤ q142 ∧ mode_Read_L3 n v61 v116 v65 v139 v141 = some r := HH
                  rcases n with _ | n
                  · exact no_some hr
                  rw [mode_Read_L3.eq_2] at hr
                  refine AtIf.mk (fun h143 => ?_) (fun h143 => ?_)
                  · replace hr := cond_t h143 hr
                    obtain ⟨v144, h145, hr⟩ := bind_some hr
                    obtain ⟨h146, h147⟩ := idx_some h145
                    refine at_index ttOK 13 rfl rfl rfl rfl h146 (map_get (D.int .i64) h147) ?_
                    obtain ⟨v148, h149, hr⟩ := bind_some hr
                    refine (mode_stands_spec n v61.1 v139.signs v116 v65.implicit v144 a63 c63 a140 c140 _ h149).atB [.old 10, .froz 0] rfl rfl rfl ?_
                    rintro _ _ ⟨rfl, rfl⟩
                    refine ⟨rfl, ?_⟩
                    refine AtIf.mk (fun h150 => ?_) (fun h150 => ?_)
                    · replace hr := cond_t h150 hr
                      obtain ⟨h151, hr⟩ := cond_need hr
                      refine at_index_accG ttOK 0 rfl rfl rfl rfl h151 ?_
                      intro b152 h153
                      subst h153
                      obtain ⟨m154, h155⟩ : ∃ m154, m154 = (List.map (D.int .i64) v139.signs).length := ⟨_, rfl⟩
                      try dsimp only
                      rw [← h155]
                      refine at_store_accG (ds' := List.map (D.int .i64) (v139.signs.set ((v116).toNat) v144)) ttOK 0 rfl (by simpa using (of_decide_eq_true h151).2) rfl (.inl ⟨_, rfl⟩) rfl rfl (map_set' ..) ?_
                      obtain rfl : m154 = (List.map (D.int .i64) (v139.signs.set ((v116).toNat) v144)).length := by rw [h155]; simp
                      exact ⟨(n, (Md.mk v139.family (v139.signs.set ((v116).toNat) v144)), (some ⟨b152, 0, none⟩), c140, (IntKind.i64.wrap (v141 + 1))), ⟨by omega, hr⟩, Nat.lt_succ_self _, ⟨rfl, rfl, rfl, rfl, rfl, rfl, rfl, rfl, rfl, rfl, trivial⟩, (StLe.gen 8 [.old 0] [.old 0, .old 1, .old 2, .old 3, .old 4, .old 5, .old 6, .old 7, .old 8, .old 9, .old 10, .old 11, .old 12, .old 13] rfl rfl rfl rfl rfl rfl rfl)⟩
                    · replace hr := cond_f h150 hr
                      exact ⟨(n, v139, a140, c140, (IntKind.i64.wrap (v141 + 1))), ⟨by omega, hr⟩, Nat.lt_succ_self _, ⟨rfl, rfl, rfl, rfl, rfl, rfl, rfl, rfl, rfl, rfl, trivial⟩, (StLe.gen 8 [.old 0] [.old 0, .old 1, .old 2, .old 3, .old 4, .old 5, .old 6, .old 7, .old 8, .old 9, .old 10, .old 11, .old 12, .old 13] rfl rfl rfl rfl rfl rfl rfl)⟩
                  · replace hr := cond_f h143 hr
                    exact ⟨(n, v139, a140, c140, (IntKind.i64.wrap (v116 + 1))), ⟨by omega, hr⟩, (by simp only; omega), ⟨rfl, rfl, rfl, rfl, rfl, rfl, trivial⟩, (StLe.gen 8 [.old 0] [.old 0, .old 1, .old 2, .old 3, .old 4, .old 5, .old 6, .old 7, .old 8, .old 9, .old 10, .old 11, .old 12] rfl rfl rfl rfl rfl rfl rfl)⟩
                · replace hr := cond_f h118 hr
                  replace hr := Option.some.inj hr
                  subst hr
                  exact AtRet.pureG [.froz 0] [(.slice a115 ((List.map (D.int .i64) v114.signs).length) c115, .sl 1 (List.map (D.int .i64) v114.signs))] rfl rfl ⟨a115, c115, rfl, rfl⟩
    · replace hr := cond_t h9 hr
      refine AtIf.mk (fun _ => ?_) (fun h => tf h)
      replace hr := Option.some.inj hr
      subst hr
      exact AtRet.pureG [.nil 1] [(.slice none 0 0, .sl 1 [])] rfl rfl ⟨none, 0, rfl, rfl⟩
  · replace hr := cond_t h8 hr
    refine AtGuard.mk (fun h => tf h) (fun _ => ?_)
    refine AtIf.mk (fun _ => ?_) (fun h => tf h)
    replace hr := Option.some.inj hr
    subst hr
    exact AtRet.pureG [.nil 1] [(.slice none 0 0, .sl 1 [])] rfl rfl ⟨none, 0, rfl, rfl⟩
def mode_scope_level : Nat → (List Bool) → Int → Int → Option (Int × Bool)
  | 0, _, _, _ => none
  | n + 1, v1, v3, v4 =>
    some ((IntKind.i64.wrap ((IntKind.i64.wrap (((List.map D.bool v1).length : Int) - 1)) - (IntKind.i64.wrap (v3 - v4)))), (decide (v3 ≥ v4)))
theorem mode_scope_level_spec (n : Nat) (v1 : (List Bool)) (v3 : Int) (v4 : Int) (a2 : Option Addr) (c2 : Nat) (r : Int × Bool) (hr : mode_scope_level n v1 v3 v4 = some r) : Pure Tryz.prog (.val (.fn (.func 111) [] [])) [(.v (.slice a2 ((List.map D.bool v1).length) c2)), (.v (.int .i64 v3)), (.v (.int .i64 v4))] [(.slice a2 ((List.map D.bool v1).length) c2, .sl 1 (List.map D.bool v1))] (fun r' out => r' = (.tup [(.v (.int .i64 r.1)), (.v (.bool r.2))]) ∧ out = []) := by
  rcases n with _ | n
  · exact no_some hr
  rw [mode_scope_level.eq_2] at hr
  refine spec_of_body (N := 18) (m := 0) (dt := fun _ => none) [] ttOK Tryz.func111 rfl Tryz.call111 Tryz.ntmps111 rfl rfl rfl mixed (by kernel_rfl) ?_
  replace hr := Option.some.inj hr
  subst hr
  exact AtRet.pureG [] [] rfl rfl ⟨rfl, rfl⟩
mutual
def subst_Short : Nat → Tm → Option (Int × Int × Int)
  | 0, _ => none
  | n + 1, v1 =>
    cond ((if isProper v1 then (0 : Int) else 2) != 0) (
    some (0, 0, 2)) (
    subst_Short_L1 n v1 0)
def subst_Short_L2 : Nat → Tm → Int → Int → Option (Int × Int × Int)
  | 0, _, _, _ => none
  | n + 1, v10, v12, v30 =>
    cond (decide (v30 < ((Tm.encL v10.args).length : Int))) (
    (idx v10.args v30).bind (fun v33 =>
    (subst_Short n v33).bind (fun v38 =>
    cond (((v38.2.2 != 0) || (v38.1 != 1)) || (v38.2.1 != (IntKind.i64.wrap ((IntKind.i64.wrap (v12 - 1)) - v30)))) (
    some (0, 0, 6)) (
    subst_Short_L2 n v10 v12 (IntKind.i64.wrap (v30 + 1)))))) (
    cond (v10.hd == 1) (
    some (v10.hd, (IntKind.i64.wrap (v10.n - v12)), 0)) (
    some (v10.hd, v10.n, 0)))
def subst_Short_L1 : Nat → Tm → Int → Option (Int × Int × Int)
  | 0, _, _ => none
  | n + 1, v10, v12 =>
    cond (v10.op == 3) (
    (idx v10.args 0).bind (fun v14 =>
    subst_Short_L1 n v14 (IntKind.i64.wrap (v12 + 1)))) (
    cond (((v10.op != 4) || (((Tm.encL v10.args).length : Int) != v12)) || ((v10.hd == 1) && (decide (v10.n < v12)))) (
    some (0, 0, 6)) (
    subst_Short_L2 n v10 v12 0))
 end
theorem subst_Short_specN : ∀ (N : Nat), (∀ (n : Nat), n ≤ N → ∀ (v1 : Tm) (a2 : Option Addr) (c2 : Nat) (r : Int × Int × Int), subst_Short n v1 = some r → Pure Tryz.prog (.val (.fn (.func 149) [] [])) [(.agg [(.v (.int .i64 v1.op)), (.v (.int .i64 v1.hd)), (.v (.int .i64 v1.n)), (.v (.slice a2 ((Tm.encL v1.args).length) c2))])] [(.slice a2 ((Tm.encL v1.args).length) c2, .sl 4 (Tm.encL v1.args))] (fun r' out => r' = (.tup [(.v (.int .i64 r.1)), (.v (.int .i64 r.2.1)), (.v (.int .i64 r.2.2))]) ∧ out = [])) := by
  intro N
  induction N with
  | zero =>
    intro n hn v1 a2 c2 r hr; obtain rfl : n = 0 := (by omega); exact no_some hr
  | succ N ih =>
    intro n hn v1 a2 c2 r hr
    rcases n with _ | n
    · exact no_some hr
    replace hn : n ≤ N := by omega
    rw [subst_Short.eq_2] at hr
    refine spec_of_body (N := 86) (m := 0) (dt := drawsOf [(17, .leaf [0, 1, 2, 3, 4, 5, 6, 7, 8], [], []), (18, .leaf [0, 1, 2, 3, 4, 5, 6], [], [])]) [] ttOK Tryz.func149 rfl Tryz.call149 Tryz.ntmps149 rfl rfl rfl mixed (by kernel_rfl) ?_
    refine (check_spec v1 a2 c2).atR [0] rfl rfl rfl ?_
    rintro _ _ ⟨rfl, rfl⟩
    refine AtIf.mk (fun h3 => ?_) (fun h3 => ?_)
    · replace hr := cond_t h3 hr
      replace hr := Option.some.inj hr
      subst hr
      exact AtRet.pureG [] [] rfl rfl ⟨rfl, rfl⟩
    · replace hr := cond_f h3 hr
      refine AtLoop.mk ⟨Nat × Tm × Option Addr × Nat × Int, fun x => [(1, (.loc 0 0)), (5, (.v (.int .i64 x.2.2.2.2)))], fun x => ⟨[.cells 47 [(.v (.int .i64 x.2.1.op)), (.v (.int .i64 x.2.1.hd)), (.v (.int .i64 x.2.1.n)), (.v (.slice x.2.2.1 ((Tm.encL x.2.1.args).length) x.2.2.2.1))]], [], [(.slice x.2.2.1 ((Tm.encL x.2.1.args).length) x.2.2.2.1, .sl 4 (Tm.encL x.2.1.args)), (.slice a2 ((Tm.encL v1.args).length) c2, .sl 4 (Tm.encL v1.args))]⟩, fun x => x.1 ≤ N ∧ subst_Short_L1 x.1 x.2.1 x.2.2.2.2 = some r, fun x => x.1, (n, v1, a2, c2, 0), ⟨by omega, hr⟩, ⟨rfl, rfl, trivial⟩, (StLe.gen 1 [] [.old 0, .old 0] rfl rfl rfl rfl rfl rfl rfl), fun x _ => ⟨rfl, rfl⟩, ?_⟩
      rintro ⟨n, v10, a11, c11, v12⟩ HH
      obtain ⟨hn, hr⟩ : n ≤ N ∧ subst_Short_L1 n v10 v12 = some r := HH
      rcases n with _ | n
      · exact no_some hr
      rw [subst_Short_L1.eq_2] at hr
      refine AtIf.mk (fun h13 => ?_) (fun h13 => ?_)
      · replace hr := cond_t h13 hr
        obtain ⟨v14, h15, hr⟩ := bind_some hr
        obtain ⟨h16, h17⟩ := idx_some h15
        refine at_index ttOK 0 rfl rfl rfl rfl h16 (Tm.encL_get h17) ?_
        intro a18 c18 _ _
        exact ⟨(n, v14, a18, c18, (IntKind.i64.wrap (v12 + 1))), ⟨by omega, hr⟩, Nat.lt_succ_self _, ⟨rfl, rfl, trivial⟩, (StLe.gen 1 [] [.old 2, .old 1] rfl rfl rfl rfl rfl rfl rfl)⟩
      · replace hr := cond_f h13 hr
        refine AtIf.mk (fun h19 => ?_) (fun h19 => ?_)
        · replace hr := cond_t h19 hr
          replace hr := Option.some.inj hr
          subst hr
          exact AtRet.pureG [] [] rfl rfl ⟨rfl, rfl⟩
        · replace hr := cond_f h19 hr
          obtain ⟨q31, hq31⟩ : ∃ q, q = n := ⟨_, rfl⟩
          refine AtLoop.mk ⟨Nat × Int, fun x => [(1, (.loc 0 0)), (5, (.v (.int .i64 v12))), (45, (.v (.slice a11 ((Tm.encL v10.args).length) c11))), (46, (.v (.int .i64 ((Tm.encL v10.args).length : Int)))), (47, (.v (.int .i64 x.2)))], fun x => ⟨[.cells 47 [(.v (.int .i64 v10.op)), (.v (.int .i64 v10.hd)), (.v (.int .i64 v10.n)), (.v (.slice a11 ((Tm.encL v10.args).length) c11))]], [], [(.slice a11 ((Tm.encL v10.args).length) c11, .sl 4 (Tm.encL v10.args)), (.slice a2 ((Tm.encL v1.args).length) c2, .sl 4 (Tm.encL v1.args))]⟩, fun x => x.1 ≤ N ∧ x.1 ≤ q31 ∧ subst_Short_L2 x.1 v10 v12 x.2 = some r, fun x => x.1, (n, 0), ⟨by omega, by omega, hr⟩, ⟨rfl, rfl, rfl, rfl, rfl, trivial⟩, (StLe.gen 1 [] [.old 0, .old 1] rfl rfl rfl rfl rfl rfl rfl), fun x _ => ⟨rfl, rfl⟩, ?_⟩
          rintro ⟨n, v30⟩ HH
          obtain ⟨hn, hbq31, hr⟩ : n ≤ N ∧ n ≤ q31 ∧ subst_Short_L2 n v10 v12 v30 = some r := HH
          rcases n with _ | n
          · exact no_some hr
          rw [subst_Short_L2.eq_2] at hr
          refine AtIf.mk (fun h32 => ?_) (fun h32 => ?_)
          · replace hr := cond_t h32 hr
            obtain ⟨v33, h34, hr⟩ := bind_some hr
            obtain ⟨h35, h36⟩ := idx_some h34
            refine at_index ttOK 0 rfl rfl rfl rfl h35 (Tm.encL_get h36) ?_
            intro a37 c37 _ _
            obtain ⟨v38, h39, hr⟩ := bind_some hr
            refine (ih n (by omega) v33 a37 c37 _ h39).atR [2] rfl rfl rfl ?_
            rintro _ _ ⟨rfl, rfl⟩
            refine AtIf.mk (fun h40 => ?_) (fun h40 => ?_)
            · replace hr := cond_t h40 hr
              replace hr := Option.some.inj hr
              subst hr
              exact AtRet.pureG [] [] rfl rfl ⟨rfl, rfl⟩
            · replace hr := cond_f h40 hr
              exact ⟨(n, (IntKind.i64.wrap (v30 + 1))), ⟨by omega, by omega, hr⟩, Nat.lt_succ_self _, ⟨rfl, rfl, rfl, rfl, rfl, trivial⟩, (StLe.gen 1 [] [.old 0, .old 1] rfl rfl rfl rfl rfl rfl rfl)⟩
          · replace hr := cond_f h32 hr
            refine AtIf.mk (fun h41 => ?_) (fun h41 => ?_)
            · replace hr := cond_t h41 hr
              replace hr := Option.some.inj hr
              subst hr
              exact AtRet.pureG [] [] rfl rfl ⟨rfl, rfl⟩
            · replace hr := cond_f h41 hr
              replace hr := Option.some.inj hr
              subst hr
              exact AtRet.pureG [] [] rfl rfl ⟨rfl, rfl⟩
theorem subst_Short_spec (n : Nat) (v1 : Tm) (a2 : Option Addr) (c2 : Nat) (r : Int × Int × Int) (hr : subst_Short n v1 = some r) : Pure Tryz.prog (.val (.fn (.func 149) [] [])) [(.agg [(.v (.int .i64 v1.op)), (.v (.int .i64 v1.hd)), (.v (.int .i64 v1.n)), (.v (.slice a2 ((Tm.encL v1.args).length) c2))])] [(.slice a2 ((Tm.encL v1.args).length) c2, .sl 4 (Tm.encL v1.args))] (fun r' out => r' = (.tup [(.v (.int .i64 r.1)), (.v (.int .i64 r.2.1)), (.v (.int .i64 r.2.2))]) ∧ out = []) := (subst_Short_specN n) n (Nat.le_refl _) v1 a2 c2 r hr
mutual
def mode_scope_pattern : Nat → (List Bool) → (List Tm) → Int → Option (Bool)
  | 0, _, _, _ => none
  | n + 1, v1, v3, v5 =>
    mode_scope_pattern_L1 n v3 v1 v5 ([]) 0
def mode_scope_pattern_L1 : Nat → (List Tm) → (List Bool) → Int → (List Int) → Int → Option (Bool)
  | 0, _, _, _, _, _ => none
  | n + 1, v3, v1, v5, v29, v31 =>
    cond (decide (v31 < ((Tm.encL v3).length : Int))) (
    (idx v3 v31).bind (fun v33 =>
    (subst_Short n v33).bind (fun v38 =>
    cond ((v38.2.2 != 0) || (v38.1 != 1)) (
    some (false)) (
    (slices_Contains n v29 v38.2.1).bind (fun v41 =>
    cond v41 (
    some (false)) (
    (mode_scope_level n v1 v38.2.1 v5).bind (fun v44 =>
    cond v44.2 (
    (idx v1 v44.1).bind (fun v47 =>
    cond v47 (
    some (false)) (
    cond (decide ((List.map (D.int .i64) (v29 ++ [v38.2.1])).length ≤ 1000000)) (
    mode_scope_pattern_L1 n v3 v1 v5 (v29 ++ [v38.2.1]) (IntKind.i64.wrap (v31 + 1))) none))) (
    cond (decide ((List.map (D.int .i64) (v29 ++ [v38.2.1])).length ≤ 1000000)) (
    mode_scope_pattern_L1 n v3 v1 v5 (v29 ++ [v38.2.1]) (IntKind.i64.wrap (v31 + 1))) none)))))))) (
    some (true))
 end
theorem mode_scope_pattern_spec (n : Nat) (v1 : (List Bool)) (v3 : (List Tm)) (v5 : Int) (a2 : Option Addr) (c2 : Nat) (a4 : Option Addr) (c4 : Nat) (r : Bool) (hr : mode_scope_pattern n v1 v3 v5 = some r) : Pure Tryz.prog (.val (.fn (.func 112) [] [])) [(.v (.slice a2 ((List.map D.bool v1).length) c2)), (.v (.slice a4 ((Tm.encL v3).length) c4)), (.v (.int .i64 v5))] [(.slice a2 ((List.map D.bool v1).length) c2, .sl 1 (List.map D.bool v1)), (.slice a4 ((Tm.encL v3).length) c4, .sl 4 (Tm.encL v3))] (fun r' out => r' = (.v (.bool r)) ∧ out = []) := by
  rcases n with _ | n
  · exact no_some hr
  rw [mode_scope_pattern.eq_2] at hr
  refine spec_of_body (N := 57) (m := 0) (dt := fun _ => none) [] ttOK Tryz.func112 rfl Tryz.call112 Tryz.ntmps112 rfl rfl rfl mixed (by kernel_rfl) ?_
  refine AtLoop.mk ⟨Nat × (List Int) × Option Addr × Nat × Int, fun x => [(0, (.v (.slice a2 ((List.map D.bool v1).length) c2))), (2, (.v (.int .i64 v5))), (7, (.v (.slice x.2.2.1 ((List.map (D.int .i64) x.2.1).length) x.2.2.2.1))), (15, (.v (.slice a4 ((Tm.encL v3).length) c4))), (16, (.v (.int .i64 ((Tm.encL v3).length : Int)))), (17, (.v (.int .i64 x.2.2.2.2)))], fun x => ⟨[], [⟨.slice x.2.2.1 ((List.map (D.int .i64) x.2.1).length) x.2.2.2.1, 1, 3, (List.map (D.int .i64) x.2.1)⟩], [(.slice a2 ((List.map D.bool v1).length) c2, .sl 1 (List.map D.bool v1)), (.slice a4 ((Tm.encL v3).length) c4, .sl 4 (Tm.encL v3))]⟩, fun x => mode_scope_pattern_L1 x.1 v3 v1 v5 x.2.1 x.2.2.2.2 = some r, fun x => x.1, (n, [], none, 0, 0), hr, ⟨rfl, rfl, rfl, rfl, rfl, rfl, trivial⟩, (StLe.gen 0 [.nil 1 3] [.old 0, .old 1] rfl rfl rfl rfl rfl rfl rfl), fun x _ => ⟨rfl, rfl⟩, ?_⟩
  rintro ⟨n, v29, a30, c30, v31⟩ HH
  have hr : mode_scope_pattern_L1 n v3 v1 v5 v29 v31 = some r := HH
  rcases n with _ | n
  · exact no_some hr
  rw [mode_scope_pattern_L1.eq_2] at hr
  refine AtIf.mk (fun h32 => ?_) (fun h32 => ?_)
  · replace hr := cond_t h32 hr
    obtain ⟨v33, h34, hr⟩ := bind_some hr
    obtain ⟨h35, h36⟩ := idx_some h34
    refine at_index ttOK 1 rfl rfl rfl rfl h35 (Tm.encL_get h36) ?_
    intro a37 c37 _ _
    obtain ⟨v38, h39, hr⟩ := bind_some hr
    refine (subst_Short_spec n v33 a37 c37 _ h39).atR [2] rfl rfl rfl ?_
    rintro _ _ ⟨rfl, rfl⟩
    refine AtGuard.mk (fun h40 => ?_) (fun h40 => ?_)
    · replace hr := cond_f h40 hr
      obtain ⟨v41, h42, hr⟩ := bind_some hr
      refine (slices_Contains_spec n v29 v38.2.1 a30 c30 _ h42).atB [.froz 0] rfl rfl rfl ?_
      rintro _ _ ⟨rfl, rfl⟩
      refine ⟨rfl, ?_⟩
      refine AtIf.mk (fun h43 => ?_) (fun h43 => ?_)
      · replace hr := cond_t h43 hr
        replace hr := Option.some.inj hr
        subst hr
        exact AtRet.pureG [] [] rfl rfl ⟨rfl, rfl⟩
      · replace hr := cond_f h43 hr
        obtain ⟨v44, h45, hr⟩ := bind_some hr
        refine (mode_scope_level_spec n v1 v38.2.1 v5 a2 c2 _ h45).atR [0] rfl rfl rfl ?_
        rintro _ _ ⟨rfl, rfl⟩
        refine AtGuard.mk (fun h46 => ?_) (fun h46 => ?_)
        · replace hr := cond_t h46 hr
          obtain ⟨v47, h48, hr⟩ := bind_some hr
          obtain ⟨h49, h50⟩ := idx_some h48
          refine at_index ttOK 0 rfl rfl rfl rfl h49 (map_get D.bool h50) ?_
          refine AtIf.mk (fun h51 => ?_) (fun h51 => ?_)
          · replace hr := cond_t h51 hr
            replace hr := Option.some.inj hr
            subst hr
            exact AtRet.pureG [] [] rfl rfl ⟨rfl, rfl⟩
          · replace hr := cond_f h51 hr
            refine at_buildG (n := 1) ttOK 8 [.int .i64 v38.2.1] (ds' := (List.map (D.int .i64) ([v38.2.1]))) rfl (by kernel_rfl) ⟨⟨rfl, rfl, rfl, rfl⟩, trivial⟩ rfl rfl (by decide) (by decide) ?_
            intro a52
            obtain ⟨h53, hr⟩ := cond_need hr
            refine at_appendG (ds' := (List.map (D.int .i64) (v29 ++ [v38.2.1]))) ttOK 8 0 3 rfl (by kernel_rfl) rfl rfl rfl rfl (by simp only [List.map_append]) h53 (by decide) ?_
            intro a54 c54
            exact ⟨(n, (v29 ++ [v38.2.1]), a54, c54, (IntKind.i64.wrap (v31 + 1))), hr, Nat.lt_succ_self _, ⟨rfl, rfl, rfl, rfl, rfl, rfl, trivial⟩, (StLe.gen 0 [.old 0] [.old 0, .old 1] rfl rfl rfl rfl rfl rfl rfl)⟩
        · replace hr := cond_f h46 hr
          refine AtIf.mk (fun h => ff h) (fun _ => ?_)
          refine at_buildG (n := 1) ttOK 8 [.int .i64 v38.2.1] (ds' := (List.map (D.int .i64) ([v38.2.1]))) rfl (by kernel_rfl) ⟨⟨rfl, rfl, rfl, rfl⟩, trivial⟩ rfl rfl (by decide) (by decide) ?_
          intro a55
          obtain ⟨h56, hr⟩ := cond_need hr
          refine at_appendG (ds' := (List.map (D.int .i64) (v29 ++ [v38.2.1]))) ttOK 8 0 3 rfl (by kernel_rfl) rfl rfl rfl rfl (by simp only [List.map_append]) h56 (by decide) ?_
          intro a57 c57
          exact ⟨(n, (v29 ++ [v38.2.1]), a57, c57, (IntKind.i64.wrap (v31 + 1))), hr, Nat.lt_succ_self _, ⟨rfl, rfl, rfl, rfl, rfl, rfl, trivial⟩, (StLe.gen 0 [.old 0] [.old 0, .old 1] rfl rfl rfl rfl rfl rfl rfl)⟩
    · replace hr := cond_t h40 hr
      refine AtIf.mk (fun _ => ?_) (fun h => tf h)
      replace hr := Option.some.inj hr
      subst hr
      exact AtRet.pureG [] [] rfl rfl ⟨rfl, rfl⟩
  · replace hr := cond_f h32 hr
    replace hr := Option.some.inj hr
    subst hr
    exact AtRet.pureG [] [] rfl rfl ⟨rfl, rfl⟩
mutual
def mode_scope_strict_1 : Nat → Tm → Int → (List Bool) → (List Int) → Option ((List Int))
  | 0, _, _, _, _ => none
  | n + 1, v1, v3, v4, v6 =>
    (mode_scope_level n v4 v1.n v3).bind (fun v8 =>
    cond (((v1.op == 4) && (v1.hd == 1)) && v8.2) (
    (idx v4 v8.1).bind (fun v11 =>
    cond v11 (
    (mode_scope_pattern n v4 v1.args v3).bind (fun v16 =>
    cond v16 (
    cond (decide ((List.map (D.int .i64) (v6 ++ [v8.1])).length ≤ 1000000)) (
    some ((v6 ++ [v8.1]))) none) (
    some (v6)))) (
    mode_scope_strict_1_L1 n v1 v3 v4 v6 0))) (
    mode_scope_strict_1_L1 n v1 v3 v4 v6 0))
def mode_scope_strict_1_L1 : Nat → Tm → Int → (List Bool) → (List Int) → Int → Option ((List Int))
  | 0, _, _, _, _, _ => none
  | n + 1, v1, v3, v4, v33, v35 =>
    cond (decide (v35 < ((Tm.encL v1.args).length : Int))) (
    (idx v1.args v35).bind (fun v37 =>
    (term_Under n v1 v35).bind (fun v42 =>
    (mode_scope_strict_1 n v37 (IntKind.i64.wrap (v3 + v42)) v4 v33).bind (fun v44 =>
    mode_scope_strict_1_L1 n v1 v3 v4 v44 (IntKind.i64.wrap (v35 + 1)))))) (
    some (v33))
 end
theorem mode_scope_strict_1_specN : ∀ (N : Nat), (∀ (n : Nat), n ≤ N → ∀ (v1 : Tm) (v3 : Int) (v4 : (List Bool)) (v6 : (List Int)) (a2 : Option Addr) (c2 : Nat) (a5 : Option Addr) (c5 : Nat) (a7 : Option Addr) (c7 : Nat) (r : (List Int)), mode_scope_strict_1 n v1 v3 v4 v6 = some r → Meets Tryz.prog (.val (.fn (.func 110) [] [(.loc 0 0), (.loc 1 0), (.loc 2 0)])) [(.agg [(.v (.int .i64 v1.op)), (.v (.int .i64 v1.hd)), (.v (.int .i64 v1.n)), (.v (.slice a2 ((Tm.encL v1.args).length) c2))]), (.v (.int .i64 v3))] ⟨[.cells 106 [(.v (.slice a5 ((List.map D.bool v4).length) c5))], .cells 29 [(.v (.slice a7 ((List.map (D.int .i64) v6).length) c7))], .cells 156 [(.fn (.func 110) [] [(.loc 0 0), (.loc 1 0), (.loc 2 0)])]], [⟨.slice a7 ((List.map (D.int .i64) v6).length) c7, 1, 3, (List.map (D.int .i64) v6)⟩], [(.slice a2 ((Tm.encL v1.args).length) c2, .sl 4 (Tm.encL v1.args)), (.slice a5 ((List.map D.bool v4).length) c5, .sl 1 (List.map D.bool v4))]⟩ (fun o S' => ∃ (b1 : Option Addr) (d1 : Nat), o = .ret (.tup []) ∧ S' = ⟨[.cells 106 [(.v (.slice a5 ((List.map D.bool v4).length) c5))], .cells 29 [(.v (.slice b1 ((List.map (D.int .i64) r).length) d1))], .cells 156 [(.fn (.func 110) [] [(.loc 0 0), (.loc 1 0), (.loc 2 0)])]], [⟨.slice b1 ((List.map (D.int .i64) r).length) d1, 1, 3, (List.map (D.int .i64) r)⟩], []⟩)) := by
  intro N
  induction N with
  | zero =>
    intro n hn v1 v3 v4 v6 a2 c2 a5 c5 a7 c7 r hr; obtain rfl : n = 0 := (by omega); exact no_some hr
  | succ N ih =>
    intro n hn v1 v3 v4 v6 a2 c2 a5 c5 a7 c7 r hr
    rcases n with _ | n
    · exact no_some hr
    replace hn : n ≤ N := by omega
    rw [mode_scope_strict_1.eq_2] at hr
    refine spec_of_body (N := 62) (m := 3) (dt := drawsOf [(8, .node [0, 1, 2, 3, 4] [(5, .node [6] [(7, .leaf [])])], [7], [])]) [] ttOK Tryz.func110 rfl Tryz.call110 Tryz.ntmps110 rfl rfl rfl mixed (by kernel_rfl) ?_
    obtain ⟨v8, h9, hr⟩ := bind_some hr
    refine (mode_scope_level_spec n v4 v1.n v3 a5 c5 _ h9).atR [1] rfl rfl rfl ?_
    rintro _ _ ⟨rfl, rfl⟩
    refine AtGuard.mk (fun h10 => ?_) (fun h10 => ?_)
    · replace hr := cond_t h10 hr
      obtain ⟨v11, h12, hr⟩ := bind_some hr
      obtain ⟨h13, h14⟩ := idx_some h12
      refine at_index ttOK 1 rfl rfl rfl rfl h13 (map_get D.bool h14) ?_
      refine AtIf.mk (fun h15 => ?_) (fun h15 => ?_)
      · replace hr := cond_t h15 hr
        obtain ⟨v16, h17, hr⟩ := bind_some hr
        refine (mode_scope_pattern_spec n v4 v1.args v3 a5 c5 a2 c2 _ h17).atR [1, 0] rfl rfl rfl ?_
        rintro _ _ ⟨rfl, rfl⟩
        refine AtIf.mk (fun h18 => ?_) (fun h18 => ?_)
        · replace hr := cond_t h18 hr
          refine at_buildG (n := 1) ttOK 8 [.int .i64 v8.1] (ds' := (List.map (D.int .i64) ([v8.1]))) rfl (by kernel_rfl) ⟨⟨rfl, rfl, rfl, rfl⟩, trivial⟩ rfl rfl (by decide) (by decide) ?_
          intro a19
          obtain ⟨h20, hr⟩ := cond_need hr
          refine at_appendG (ds' := (List.map (D.int .i64) (v6 ++ [v8.1]))) ttOK 8 0 2 rfl (by kernel_rfl) rfl rfl rfl rfl (by simp only [List.map_append]) h20 (by decide) ?_
          intro a21 c21
          replace hr := Option.some.inj hr
          subst hr
          exact AtRet.gen ⟨[.cells 106 [(.v (.slice a5 ((List.map D.bool v4).length) c5))], .cells 29 [(.v (.slice a21 ((List.map (D.int .i64) (v6 ++ [v8.1])).length) c21))], .cells 156 [(.fn (.func 110) [] [(.loc 0 0), (.loc 1 0), (.loc 2 0)])]], [⟨.slice a21 ((List.map (D.int .i64) (v6 ++ [v8.1])).length) c21, 1, 3, (List.map (D.int .i64) (v6 ++ [v8.1]))⟩], []⟩ (StLe.gen 3 [.old 0] [] rfl rfl rfl rfl rfl rfl rfl) rfl rfl ⟨a21, c21, rfl, rfl⟩
        · replace hr := cond_f h18 hr
          replace hr := Option.some.inj hr
          subst hr
          exact AtRet.gen ⟨[.cells 106 [(.v (.slice a5 ((List.map D.bool v4).length) c5))], .cells 29 [(.v (.slice a7 ((List.map (D.int .i64) v6).length) c7))], .cells 156 [(.fn (.func 110) [] [(.loc 0 0), (.loc 1 0), (.loc 2 0)])]], [⟨.slice a7 ((List.map (D.int .i64) v6).length) c7, 1, 3, (List.map (D.int .i64) v6)⟩], []⟩ (StLe.gen 3 [.old 0] [] rfl rfl rfl rfl rfl rfl rfl) rfl rfl ⟨a7, c7, rfl, rfl⟩
      · replace hr := cond_f h15 hr
        refine AtLoop.mk ⟨Nat × (List Int) × Option Addr × Nat × Int, fun x => [(1, (.v (.int .i64 v3))), (4, (.loc 2 0)), (5, (.loc 3 0)), (46, (.v (.slice a2 ((Tm.encL v1.args).length) c2))), (47, (.v (.int .i64 ((Tm.encL v1.args).length : Int)))), (48, (.v (.int .i64 x.2.2.2.2)))], fun x => ⟨[.cells 106 [(.v (.slice a5 ((List.map D.bool v4).length) c5))], .cells 29 [(.v (.slice x.2.2.1 ((List.map (D.int .i64) x.2.1).length) x.2.2.2.1))], .cells 156 [(.fn (.func 110) [] [(.loc 0 0), (.loc 1 0), (.loc 2 0)])], .cells 47 [(.v (.int .i64 v1.op)), (.v (.int .i64 v1.hd)), (.v (.int .i64 v1.n)), (.v (.slice a2 ((Tm.encL v1.args).length) c2))], .imm [(.v (.bool v11))]], [⟨.slice x.2.2.1 ((List.map (D.int .i64) x.2.1).length) x.2.2.2.1, 1, 3, (List.map (D.int .i64) x.2.1)⟩], [(.slice a2 ((Tm.encL v1.args).length) c2, .sl 4 (Tm.encL v1.args)), (.slice a5 ((List.map D.bool v4).length) c5, .sl 1 (List.map D.bool v4))]⟩, fun x => x.1 ≤ N ∧ mode_scope_strict_1_L1 x.1 v1 v3 v4 x.2.1 x.2.2.2.2 = some r, fun x => x.1, (n, v6, a7, c7, 0), ⟨by omega, hr⟩, ⟨rfl, rfl, rfl, rfl, rfl, rfl, trivial⟩, (StLe.gen 5 [.old 0] [.old 0, .old 1] rfl rfl rfl rfl rfl rfl rfl), fun x _ => ⟨rfl, rfl⟩, ?_⟩
        rintro ⟨n, v33, a34, c34, v35⟩ HH
        obtain ⟨hn, hr⟩ : n ≤ N ∧ mode_scope_strict_1_L1 n v1 v3 v4 v33 v35 = some r := HH
        rcases n with _ | n
        · exact no_some hr
        rw [mode_scope_strict_1_L1.eq_2] at hr
        refine AtIf.mk (fun h36 => ?_) (fun h36 => ?_)
        · replace hr := cond_t h36 hr
          obtain ⟨v37, h38, hr⟩ := bind_some hr
          obtain ⟨h39, h40⟩ := idx_some h38
          refine at_index ttOK 0 rfl rfl rfl rfl h39 (Tm.encL_get h40) ?_
          intro a41 c41 _ _
          obtain ⟨v42, h43, hr⟩ := bind_some hr
          refine (term_Under_spec n v1 v35 a2 c2 _ h43).atR [0] rfl rfl rfl ?_
          rintro _ _ ⟨rfl, rfl⟩
          refine ⟨fun _ _ h => h, ?_⟩
          obtain ⟨v44, h45, hr⟩ := bind_some hr
          refine (ih n (by omega) v37 (IntKind.i64.wrap (v3 + v42)) v4 v33 a41 c41 a5 c5 a34 c34 _ h45).frameRA [0, 1, 2] [0] [2, 1] rfl rfl rfl rfl rfl rfl rfl rfl rfl ?_
          rintro _ _ ⟨a46, c46, rfl, rfl⟩
          refine ⟨rfl, [.cells 106 [(.v (.slice a5 ((List.map D.bool v4).length) c5))], .cells 29 [(.v (.slice a46 ((List.map (D.int .i64) v44).length) c46))], .cells 156 [(.fn (.func 110) [] [(.loc 0 0), (.loc 1 0), (.loc 2 0)])]], rfl, ?_⟩
          exact ⟨(n, v44, a46, c46, (IntKind.i64.wrap (v35 + 1))), ⟨by omega, hr⟩, Nat.lt_succ_self _, ⟨rfl, rfl, rfl, rfl, rfl, rfl, trivial⟩, (StLe.gen 5 [.old 0] [.old 0, .old 1] rfl rfl rfl rfl rfl rfl rfl)⟩
        · replace hr := cond_f h36 hr
          replace hr := Option.some.inj hr
          subst hr
          exact AtRet.gen ⟨[.cells 106 [(.v (.slice a5 ((List.map D.bool v4).length) c5))], .cells 29 [(.v (.slice a34 ((List.map (D.int .i64) v33).length) c34))], .cells 156 [(.fn (.func 110) [] [(.loc 0 0), (.loc 1 0), (.loc 2 0)])]], [⟨.slice a34 ((List.map (D.int .i64) v33).length) c34, 1, 3, (List.map (D.int .i64) v33)⟩], []⟩ (StLe.gen 3 [.old 0] [] rfl rfl rfl rfl rfl rfl rfl) rfl rfl ⟨a34, c34, rfl, rfl⟩
    · replace hr := cond_f h10 hr
      refine AtIf.mk (fun h => ff h) (fun _ => ?_)
      refine AtLoop.mk ⟨Nat × (List Int) × Option Addr × Nat × Int, fun x => [(1, (.v (.int .i64 v3))), (4, (.loc 2 0)), (5, (.loc 3 0)), (46, (.v (.slice a2 ((Tm.encL v1.args).length) c2))), (47, (.v (.int .i64 ((Tm.encL v1.args).length : Int)))), (48, (.v (.int .i64 x.2.2.2.2)))], fun x => ⟨[.cells 106 [(.v (.slice a5 ((List.map D.bool v4).length) c5))], .cells 29 [(.v (.slice x.2.2.1 ((List.map (D.int .i64) x.2.1).length) x.2.2.2.1))], .cells 156 [(.fn (.func 110) [] [(.loc 0 0), (.loc 1 0), (.loc 2 0)])], .cells 47 [(.v (.int .i64 v1.op)), (.v (.int .i64 v1.hd)), (.v (.int .i64 v1.n)), (.v (.slice a2 ((Tm.encL v1.args).length) c2))]], [⟨.slice x.2.2.1 ((List.map (D.int .i64) x.2.1).length) x.2.2.2.1, 1, 3, (List.map (D.int .i64) x.2.1)⟩], [(.slice a2 ((Tm.encL v1.args).length) c2, .sl 4 (Tm.encL v1.args)), (.slice a5 ((List.map D.bool v4).length) c5, .sl 1 (List.map D.bool v4))]⟩, fun x => x.1 ≤ N ∧ mode_scope_strict_1_L1 x.1 v1 v3 v4 x.2.1 x.2.2.2.2 = some r, fun x => x.1, (n, v6, a7, c7, 0), ⟨by omega, hr⟩, ⟨rfl, rfl, rfl, rfl, rfl, rfl, trivial⟩, (StLe.gen 4 [.old 0] [.old 0, .old 1] rfl rfl rfl rfl rfl rfl rfl), fun x _ => ⟨rfl, rfl⟩, ?_⟩
      rintro ⟨n, v58, a59, c59, v60⟩ HH
      obtain ⟨hn, hr⟩ : n ≤ N ∧ mode_scope_strict_1_L1 n v1 v3 v4 v58 v60 = some r := HH
      rcases n with _ | n
      · exact no_some hr
      rw [mode_scope_strict_1_L1.eq_2] at hr
      refine AtIf.mk (fun h61 => ?_) (fun h61 => ?_)
      · replace hr := cond_t h61 hr
        obtain ⟨v62, h63, hr⟩ := bind_some hr
        obtain ⟨h64, h65⟩ := idx_some h63
        refine at_index ttOK 0 rfl rfl rfl rfl h64 (Tm.encL_get h65) ?_
        intro a66 c66 _ _
        obtain ⟨v67, h68, hr⟩ := bind_some hr
        refine (term_Under_spec n v1 v60 a2 c2 _ h68).atR [0] rfl rfl rfl ?_
        rintro _ _ ⟨rfl, rfl⟩
        refine ⟨fun _ _ h => h, ?_⟩
        obtain ⟨v69, h70, hr⟩ := bind_some hr
        refine (ih n (by omega) v62 (IntKind.i64.wrap (v3 + v67)) v4 v58 a66 c66 a5 c5 a59 c59 _ h70).frameRA [0, 1, 2] [0] [2, 1] rfl rfl rfl rfl rfl rfl rfl rfl rfl ?_
        rintro _ _ ⟨a71, c71, rfl, rfl⟩
        refine ⟨rfl, [.cells 106 [(.v (.slice a5 ((List.map D.bool v4).length) c5))], .cells 29 [(.v (.slice a71 ((List.map (D.int .i64) v69).length) c71))], .cells 156 [(.fn (.func 110) [] [(.loc 0 0), (.loc 1 0), (.loc 2 0)])]], rfl, ?_⟩
        exact ⟨(n, v69, a71, c71, (IntKind.i64.wrap (v60 + 1))), ⟨by omega, hr⟩, Nat.lt_succ_self _, ⟨rfl, rfl, rfl, rfl, rfl, rfl, trivial⟩, (StLe.gen 4 [.old 0] [.old 0, .old 1] rfl rfl rfl rfl rfl rfl rfl)⟩
      · replace hr := cond_f h61 hr
        replace hr := Option.some.inj hr
        subst hr
        exact AtRet.gen ⟨[.cells 106 [(.v (.slice a5 ((List.map D.bool v4).length) c5))], .cells 29 [(.v (.slice a59 ((List.map (D.int .i64) v58).length) c59))], .cells 156 [(.fn (.func 110) [] [(.loc 0 0), (.loc 1 0), (.loc 2 0)])]], [⟨.slice a59 ((List.map (D.int .i64) v58).length) c59, 1, 3, (List.map (D.int .i64) v58)⟩], []⟩ (StLe.gen 3 [.old 0] [] rfl rfl rfl rfl rfl rfl rfl) rfl rfl ⟨a59, c59, rfl, rfl⟩
theorem mode_scope_strict_1_spec (n : Nat) (v1 : Tm) (v3 : Int) (v4 : (List Bool)) (v6 : (List Int)) (a2 : Option Addr) (c2 : Nat) (a5 : Option Addr) (c5 : Nat) (a7 : Option Addr) (c7 : Nat) (r : (List Int)) (hr : mode_scope_strict_1 n v1 v3 v4 v6 = some r) : Meets Tryz.prog (.val (.fn (.func 110) [] [(.loc 0 0), (.loc 1 0), (.loc 2 0)])) [(.agg [(.v (.int .i64 v1.op)), (.v (.int .i64 v1.hd)), (.v (.int .i64 v1.n)), (.v (.slice a2 ((Tm.encL v1.args).length) c2))]), (.v (.int .i64 v3))] ⟨[.cells 106 [(.v (.slice a5 ((List.map D.bool v4).length) c5))], .cells 29 [(.v (.slice a7 ((List.map (D.int .i64) v6).length) c7))], .cells 156 [(.fn (.func 110) [] [(.loc 0 0), (.loc 1 0), (.loc 2 0)])]], [⟨.slice a7 ((List.map (D.int .i64) v6).length) c7, 1, 3, (List.map (D.int .i64) v6)⟩], [(.slice a2 ((Tm.encL v1.args).length) c2, .sl 4 (Tm.encL v1.args)), (.slice a5 ((List.map D.bool v4).length) c5, .sl 1 (List.map D.bool v4))]⟩ (fun o S' => ∃ (b1 : Option Addr) (d1 : Nat), o = .ret (.tup []) ∧ S' = ⟨[.cells 106 [(.v (.slice a5 ((List.map D.bool v4).length) c5))], .cells 29 [(.v (.slice b1 ((List.map (D.int .i64) r).length) d1))], .cells 156 [(.fn (.func 110) [] [(.loc 0 0), (.loc 1 0), (.loc 2 0)])]], [⟨.slice b1 ((List.map (D.int .i64) r).length) d1, 1, 3, (List.map (D.int .i64) r)⟩], []⟩) := (mode_scope_strict_1_specN n) n (Nat.le_refl _) v1 v3 v4 v6 a2 c2 a5 c5 a7 c7 r hr
def mode_scope_strict : Nat → (List Bool) → Tm → Option ((List Int))
  | 0, _, _ => none
  | n + 1, v1, v3 =>
    (mode_scope_strict_1 n v3 0 v1 ([])).bind (fun v5 =>
    some (v5))
theorem mode_scope_strict_spec (n : Nat) (v1 : (List Bool)) (v3 : Tm) (a2 : Option Addr) (c2 : Nat) (a4 : Option Addr) (c4 : Nat) (r : (List Int)) (hr : mode_scope_strict n v1 v3 = some r) : Pure Tryz.prog (.val (.fn (.func 65) [] [])) [(.v (.slice a2 ((List.map D.bool v1).length) c2)), (.agg [(.v (.int .i64 v3.op)), (.v (.int .i64 v3.hd)), (.v (.int .i64 v3.n)), (.v (.slice a4 ((Tm.encL v3.args).length) c4))])] [(.slice a2 ((List.map D.bool v1).length) c2, .sl 1 (List.map D.bool v1)), (.slice a4 ((Tm.encL v3.args).length) c4, .sl 4 (Tm.encL v3.args))] (fun r' out => ∃ (b1 : Option Addr) (d1 : Nat), r' = (.v (.slice b1 ((List.map (D.int .i64) r).length) d1)) ∧ out = [(.slice b1 ((List.map (D.int .i64) r).length) d1, .sl 1 (List.map (D.int .i64) r))]) := by
  rcases n with _ | n
  · exact no_some hr
  rw [mode_scope_strict.eq_2] at hr
  refine spec_of_body (N := 12) (m := 0) (dt := fun _ => none) [] ttOK Tryz.func65 rfl Tryz.call65 Tryz.ntmps65 rfl rfl rfl mixed (by kernel_rfl) ?_
  obtain ⟨v5, h6, hr⟩ := bind_some hr
  refine Meets.le (S' := ⟨[.cells 106 [(.v (.slice a2 ((List.map D.bool v1).length) c2))], .cells 47 [(.v (.int .i64 v3.op)), (.v (.int .i64 v3.hd)), (.v (.int .i64 v3.n)), (.v (.slice a4 ((Tm.encL v3.args).length) c4))], .cells 29 [(.v (.slice none 0 0))], .cells 156 [(.fn (.func 110) [] [(.loc 0 0), (.loc 2 0), (.loc 3 0)])]], [⟨.slice none 0 0, 1, 3, []⟩], [(.slice a2 ((List.map D.bool v1).length) c2, .sl 1 (List.map D.bool v1)), (.slice a4 ((Tm.encL v3.args).length) c4, .sl 4 (Tm.encL v3.args))]⟩) (StLe.gen 4 [.nil 1 3] [.old 0, .old 1] rfl rfl rfl rfl rfl rfl rfl) rfl ?_
  refine (mode_scope_strict_1_spec n v3 0 v1 ([]) a4 c4 a2 c2 none 0 _ h6).frameRA [0, 2, 3] [0] [1, 0] rfl rfl rfl rfl rfl rfl rfl rfl rfl ?_
  rintro _ _ ⟨a7, c7, rfl, rfl⟩
  refine ⟨rfl, [.cells 106 [(.v (.slice a2 ((List.map D.bool v1).length) c2))], .cells 29 [(.v (.slice a7 ((List.map (D.int .i64) v5).length) c7))], .cells 156 [(.fn (.func 110) [] [(.loc 0 0), (.loc 2 0), (.loc 3 0)])]], rfl, ?_⟩
  replace hr := Option.some.inj hr
  subst hr
  exact AtRet.pureG [.froz 0] [(.slice a7 ((List.map (D.int .i64) v5).length) c7, .sl 1 (List.map (D.int .i64) v5))] rfl rfl ⟨a7, c7, rfl, rfl⟩
def mode_Strict_1 : Nat → Int → Int → (List Int) → Option (Int)
  | 0, _, _, _ => none
  | n + 1, v1, v2, v3 =>
    cond (decide (v1 < v2)) (
    some (v1)) (
    (slices_Index n v3 v1).bind (fun v6 =>
    some ((IntKind.i64.wrap (v2 + v6)))))
theorem mode_Strict_1_spec (n : Nat) (v1 : Int) (v2 : Int) (v3 : (List Int)) (a4 : Option Addr) (c4 : Nat) (r : Int) (hr : mode_Strict_1 n v1 v2 v3 = some r) : Meets Tryz.prog (.val (.fn (.func 61) [] [(.loc 0 0), (.loc 1 0)])) [(.v (.int .i64 v1))] ⟨[.cells 3 [(.v (.int .i64 v2))], .cells 29 [(.v (.slice a4 ((List.map (D.int .i64) v3).length) c4))]], [], [(.slice a4 ((List.map (D.int .i64) v3).length) c4, .sl 1 (List.map (D.int .i64) v3))]⟩ (fun o S' => o = .ret (.v (.int .i64 r)) ∧ S' = ⟨[.cells 3 [(.v (.int .i64 v2))], .cells 29 [(.v (.slice a4 ((List.map (D.int .i64) v3).length) c4))]], [], []⟩) := by
  rcases n with _ | n
  · exact no_some hr
  rw [mode_Strict_1.eq_2] at hr
  refine spec_of_body (N := 14) (m := 2) (dt := drawsOf [(3, .node [0, 1, 2] [(3, .leaf [4, 5])], [], [])]) [] ttOK Tryz.func61 rfl Tryz.call61 Tryz.ntmps61 rfl rfl rfl mixed (by kernel_rfl) ?_
  refine AtIf.mk (fun h5 => ?_) (fun h5 => ?_)
  · replace hr := cond_t h5 hr
    replace hr := Option.some.inj hr
    subst hr
    exact AtRet.gen ⟨[.cells 3 [(.v (.int .i64 v2))], .cells 29 [(.v (.slice a4 ((List.map (D.int .i64) v3).length) c4))]], [], []⟩ (StLe.gen 2 [] [] rfl rfl rfl rfl rfl rfl rfl) rfl rfl ⟨rfl, rfl⟩
  · replace hr := cond_f h5 hr
    obtain ⟨v6, h7, hr⟩ := bind_some hr
    refine (slices_Index_spec n v3 v1 a4 c4 _ h7).atR [0] rfl rfl rfl ?_
    rintro _ _ ⟨rfl, rfl⟩
    refine ⟨fun _ _ h => h, ?_⟩
    replace hr := Option.some.inj hr
    subst hr
    exact AtRet.gen ⟨[.cells 3 [(.v (.int .i64 v2))], .cells 29 [(.v (.slice a4 ((List.map (D.int .i64) v3).length) c4))]], [], []⟩ (StLe.gen 2 [] [] rfl rfl rfl rfl rfl rfl rfl) rfl rfl ⟨rfl, rfl⟩
def mode_Strict_2 : Nat → Tm → Int → Int → (List Int) → Option (Tm)
  | 0, _, _, _, _ => none
  | n + 1, v1, v3, v4, v5 =>
    cond (((v1.op == 4) && (v1.hd == 1)) && (decide ((IntKind.i64.wrap (v1.n - v3)) ≥ 0))) (
    (mode_Strict_1 n (IntKind.i64.wrap (v1.n - v3)) v4 v5).bind (fun v8 =>
    some ((Tm.mk v1.op v1.hd (IntKind.i64.wrap (v8 + v3)) v1.args)))) (
    some (v1))
theorem mode_Strict_2_spec (n : Nat) (v1 : Tm) (v3 : Int) (v4 : Int) (v5 : (List Int)) (a2 : Option Addr) (c2 : Nat) (a6 : Option Addr) (c6 : Nat) (r : Tm) (hr : mode_Strict_2 n v1 v3 v4 v5 = some r) : Meets Tryz.prog (.val (.fn (.func 64) [] [(.loc 0 0)])) [(.agg [(.v (.int .i64 v1.op)), (.v (.int .i64 v1.hd)), (.v (.int .i64 v1.n)), (.v (.slice a2 ((Tm.encL v1.args).length) c2))]), (.v (.int .i64 v3))] ⟨[.cells 108 [(.fn (.func 61) [] [(.loc 1 0), (.loc 2 0)])], .cells 3 [(.v (.int .i64 v4))], .cells 29 [(.v (.slice a6 ((List.map (D.int .i64) v5).length) c6))]], [⟨.slice a2 ((Tm.encL v1.args).length) c2, 4, 47, (Tm.encL v1.args)⟩], [(.slice a6 ((List.map (D.int .i64) v5).length) c6, .sl 1 (List.map (D.int .i64) v5))]⟩ (fun o S' => ∃ (b1 : Option Addr) (d1 : Nat), o = .ret (.agg [(.v (.int .i64 r.op)), (.v (.int .i64 r.hd)), (.v (.int .i64 r.n)), (.v (.slice b1 ((Tm.encL r.args).length) d1))]) ∧ S' = ⟨[.cells 108 [(.fn (.func 61) [] [(.loc 1 0), (.loc 2 0)])], .cells 3 [(.v (.int .i64 v4))], .cells 29 [(.v (.slice a6 ((List.map (D.int .i64) v5).length) c6))]], [⟨.slice b1 ((Tm.encL r.args).length) d1, 4, 47, (Tm.encL r.args)⟩], []⟩) := by
  rcases n with _ | n
  · exact no_some hr
  rw [mode_Strict_2.eq_2] at hr
  refine spec_of_body (N := 30) (m := 3) (dt := fun _ => none) [] ttOK Tryz.func64 rfl Tryz.call64 Tryz.ntmps64 rfl rfl rfl mixed (by kernel_rfl) ?_
  refine AtIf.mk (fun h7 => ?_) (fun h7 => ?_)
  · replace hr := cond_t h7 hr
    obtain ⟨v8, h9, hr⟩ := bind_some hr
    refine (mode_Strict_1_spec n (IntKind.i64.wrap (v1.n - v3)) v4 v5 a6 c6 _ h9).frameR [1, 2] [0] rfl rfl rfl rfl rfl rfl rfl rfl ?_
    rintro _ _ ⟨rfl, rfl⟩
    refine ⟨rfl, rfl, [.cells 3 [(.v (.int .i64 v4))], .cells 29 [(.v (.slice a6 ((List.map (D.int .i64) v5).length) c6))]], rfl, ?_⟩
    replace hr := Option.some.inj hr
    subst hr
    exact AtRet.gen ⟨[.cells 108 [(.fn (.func 61) [] [(.loc 1 0), (.loc 2 0)])], .cells 3 [(.v (.int .i64 v4))], .cells 29 [(.v (.slice a6 ((List.map (D.int .i64) v5).length) c6))]], [⟨.slice a2 ((Tm.encL v1.args).length) c2, 4, 47, (Tm.encL v1.args)⟩], []⟩ (StLe.gen 3 [.old 0] [] rfl rfl rfl rfl rfl rfl rfl) rfl rfl ⟨a2, c2, rfl, rfl⟩
  · replace hr := cond_f h7 hr
    replace hr := Option.some.inj hr
    subst hr
    exact AtRet.gen ⟨[.cells 108 [(.fn (.func 61) [] [(.loc 1 0), (.loc 2 0)])], .cells 3 [(.v (.int .i64 v4))], .cells 29 [(.v (.slice a6 ((List.map (D.int .i64) v5).length) c6))]], [⟨.slice a2 ((Tm.encL v1.args).length) c2, 4, 47, (Tm.encL v1.args)⟩], []⟩ (StLe.gen 3 [.old 0] [] rfl rfl rfl rfl rfl rfl rfl) rfl rfl ⟨a2, c2, rfl, rfl⟩
mutual
def term_Map_mode_Strict_2 : Nat → Tm → Int → Int → (List Int) → Option (Tm)
  | 0, _, _, _, _ => none
  | n + 1, v1, v3, v4, v5 =>
    (mode_Strict_2 n (Tm.mk v1.op v1.hd v1.n ([])) v3 v4 v5).bind (fun v7 =>
    term_Map_mode_Strict_2_L1 n v1 v3 v4 v5 v7 0)
def term_Map_mode_Strict_2_L1 : Nat → Tm → Int → Int → (List Int) → Tm → Int → Option (Tm)
  | 0, _, _, _, _, _, _ => none
  | n + 1, v1, v3, v4, v5, v24, v26 =>
    cond (decide (v26 < ((Tm.encL v1.args).length : Int))) (
    (idx v1.args v26).bind (fun v28 =>
    (term_Under n v1 v26).bind (fun v33 =>
    (term_Map_mode_Strict_2 n v28 (IntKind.i64.wrap (v3 + v33)) v4 v5).bind (fun v35 =>
    cond (decide ((Tm.encL (v24.args ++ [v35])).length ≤ 1000000)) (
    term_Map_mode_Strict_2_L1 n v1 v3 v4 v5 (Tm.mk v24.op v24.hd v24.n (v24.args ++ [v35])) (IntKind.i64.wrap (v26 + 1))) none)))) (
    some (v24))
 end
theorem term_Map_mode_Strict_2_specN : ∀ (N : Nat), (∀ (n : Nat), n ≤ N → ∀ (v1 : Tm) (v3 : Int) (v4 : Int) (v5 : (List Int)) (a2 : Option Addr) (c2 : Nat) (a6 : Option Addr) (c6 : Nat) (r : Tm), term_Map_mode_Strict_2 n v1 v3 v4 v5 = some r → Meets Tryz.prog (.val (.fn (.func 63) [] [])) [(.agg [(.v (.int .i64 v1.op)), (.v (.int .i64 v1.hd)), (.v (.int .i64 v1.n)), (.v (.slice a2 ((Tm.encL v1.args).length) c2))]), (.v (.int .i64 v3)), (.fn (.func 64) [] [(.loc 0 0)])] ⟨[.cells 108 [(.fn (.func 61) [] [(.loc 1 0), (.loc 2 0)])], .cells 3 [(.v (.int .i64 v4))], .cells 29 [(.v (.slice a6 ((List.map (D.int .i64) v5).length) c6))]], [], [(.slice a2 ((Tm.encL v1.args).length) c2, .sl 4 (Tm.encL v1.args)), (.slice a6 ((List.map (D.int .i64) v5).length) c6, .sl 1 (List.map (D.int .i64) v5))]⟩ (fun o S' => ∃ (b1 : Option Addr) (d1 : Nat), o = .ret (.agg [(.v (.int .i64 r.op)), (.v (.int .i64 r.hd)), (.v (.int .i64 r.n)), (.v (.slice b1 ((Tm.encL r.args).length) d1))]) ∧ S' = ⟨[.cells 108 [(.fn (.func 61) [] [(.loc 1 0), (.loc 2 0)])], .cells 3 [(.v (.int .i64 v4))], .cells 29 [(.v (.slice a6 ((List.map (D.int .i64) v5).length) c6))]], [], [(.slice b1 ((Tm.encL r.args).length) d1, .sl 4 (Tm.encL r.args))]⟩)) := by
  intro N
  induction N with
  | zero =>
    intro n hn v1 v3 v4 v5 a2 c2 a6 c6 r hr; obtain rfl : n = 0 := (by omega); exact no_some hr
  | succ N ih =>
    intro n hn v1 v3 v4 v5 a2 c2 a6 c6 r hr
    rcases n with _ | n
    · exact no_some hr
    replace hn : n ≤ N := by omega
    rw [term_Map_mode_Strict_2.eq_2] at hr
    refine spec_of_body (N := 43) (m := 3) (dt := drawsOf [(5, .node [0, 1, 2, 3, 4, 5, 8] [(6, .node [7] [(9, .node [] [(10, .node [] [(11, .node [12] [(13, .leaf [])])])])])], [11, 13], [])]) [] ttOK Tryz.func63 rfl Tryz.call63 Tryz.ntmps63 rfl rfl rfl mixed (by kernel_rfl) ?_
    obtain ⟨v7, h8, hr⟩ := bind_some hr
    refine Meets.le (S' := ⟨[.cells 108 [(.fn (.func 61) [] [(.loc 1 0), (.loc 2 0)])], .cells 3 [(.v (.int .i64 v4))], .cells 29 [(.v (.slice a6 ((List.map (D.int .i64) v5).length) c6))], .cells 47 [(.v (.int .i64 v1.op)), (.v (.int .i64 v1.hd)), (.v (.int .i64 v1.n)), (.v (.slice a2 ((Tm.encL v1.args).length) c2))], .cells 47 [(.v (.int .i64 0)), (.v (.int .i64 0)), (.v (.int .i64 0)), (.v (.slice none 0 0))]], [⟨.slice none 0 0, 4, 47, []⟩], [(.slice a2 ((Tm.encL v1.args).length) c2, .sl 4 (Tm.encL v1.args)), (.slice a6 ((List.map (D.int .i64) v5).length) c6, .sl 1 (List.map (D.int .i64) v5))]⟩) (StLe.gen 5 [.nil 4 47] [.old 0, .old 1] rfl rfl rfl rfl rfl rfl rfl) rfl ?_
    refine (mode_Strict_2_spec n (Tm.mk v1.op v1.hd v1.n ([])) v3 v4 v5 none 0 a6 c6 _ h8).frameRA [0, 1, 2] [0] [1] rfl rfl rfl rfl rfl rfl rfl rfl rfl ?_
    rintro _ _ ⟨a9, c9, rfl, rfl⟩
    refine ⟨rfl, [.cells 108 [(.fn (.func 61) [] [(.loc 1 0), (.loc 2 0)])], .cells 3 [(.v (.int .i64 v4))], .cells 29 [(.v (.slice a6 ((List.map (D.int .i64) v5).length) c6))]], rfl, ?_⟩
    refine AtLoop.mk ⟨Nat × Tm × Option Addr × Nat × Int, fun x => [(1, (.v (.int .i64 v3))), (2, (.fn (.func 64) [] [(.loc 0 0)])), (3, (.loc 3 0)), (6, (.loc 4 0)), (7, (.loc 5 0)), (21, (.v (.slice a2 ((Tm.encL v1.args).length) c2))), (22, (.v (.int .i64 ((Tm.encL v1.args).length : Int)))), (23, (.v (.int .i64 x.2.2.2.2)))], fun x => ⟨[.cells 108 [(.fn (.func 61) [] [(.loc 1 0), (.loc 2 0)])], .cells 3 [(.v (.int .i64 v4))], .cells 29 [(.v (.slice a6 ((List.map (D.int .i64) v5).length) c6))], .cells 47 [(.v (.int .i64 v1.op)), (.v (.int .i64 v1.hd)), (.v (.int .i64 v1.n)), (.v (.slice a2 ((Tm.encL v1.args).length) c2))], .cells 47 [(.v (.int .i64 0)), (.v (.int .i64 0)), (.v (.int .i64 0)), (.v (.slice none 0 0))], .cells 47 [(.v (.int .i64 x.2.1.op)), (.v (.int .i64 x.2.1.hd)), (.v (.int .i64 x.2.1.n)), (.v (.slice x.2.2.1 ((Tm.encL x.2.1.args).length) x.2.2.2.1))]], [⟨.slice x.2.2.1 ((Tm.encL x.2.1.args).length) x.2.2.2.1, 4, 47, (Tm.encL x.2.1.args)⟩], [(.slice a2 ((Tm.encL v1.args).length) c2, .sl 4 (Tm.encL v1.args)), (.slice a6 ((List.map (D.int .i64) v5).length) c6, .sl 1 (List.map (D.int .i64) v5))]⟩, fun x => x.1 ≤ N ∧ term_Map_mode_Strict_2_L1 x.1 v1 v3 v4 v5 x.2.1 x.2.2.2.2 = some r, fun x => x.1, (n, v7, a9, c9, 0), ⟨by omega, hr⟩, ⟨rfl, rfl, rfl, rfl, rfl, rfl, rfl, rfl, trivial⟩, (StLe.gen 6 [.old 0] [.old 0, .old 1] rfl rfl rfl rfl rfl rfl rfl), fun x _ => ⟨rfl, rfl⟩, ?_⟩
    rintro ⟨n, v24, a25, c25, v26⟩ HH
    obtain ⟨hn, hr⟩ : n ≤ N ∧ term_Map_mode_Strict_2_L1 n v1 v3 v4 v5 v24 v26 = some r := HH
    rcases n with _ | n
    · exact no_some hr
    rw [term_Map_mode_Strict_2_L1.eq_2] at hr
    refine AtIf.mk (fun h27 => ?_) (fun h27 => ?_)
    · replace hr := cond_t h27 hr
      obtain ⟨v28, h29, hr⟩ := bind_some hr
      obtain ⟨h30, h31⟩ := idx_some h29
      refine at_index ttOK 0 rfl rfl rfl rfl h30 (Tm.encL_get h31) ?_
      intro a32 c32 _ _
      obtain ⟨v33, h34, hr⟩ := bind_some hr
      refine (term_Under_spec n v1 v26 a2 c2 _ h34).atR [0] rfl rfl rfl ?_
      rintro _ _ ⟨rfl, rfl⟩
      refine ⟨fun _ _ h => h, ?_⟩
      obtain ⟨v35, h36, hr⟩ := bind_some hr
      refine (ih n (by omega) v28 (IntKind.i64.wrap (v3 + v33)) v4 v5 a32 c32 a6 c6 _ h36).frameR [0, 1, 2] [2, 1] rfl rfl rfl rfl rfl rfl rfl rfl ?_
      rintro _ _ ⟨a37, c37, rfl, rfl⟩
      refine ⟨rfl, rfl, [.cells 108 [(.fn (.func 61) [] [(.loc 1 0), (.loc 2 0)])], .cells 3 [(.v (.int .i64 v4))], .cells 29 [(.v (.slice a6 ((List.map (D.int .i64) v5).length) c6))]], rfl, ?_⟩
      refine ⟨fun _ _ h => h, ?_⟩
      refine at_buildG (n := 1) ttOK 48 [.agg [.int .i64 v35.op, .int .i64 v35.hd, .int .i64 v35.n, .sl 4 (Tm.encL v35.args)]] (ds' := (Tm.encL ([v35]))) rfl (by kernel_rfl) ⟨⟨rfl, rfl, rfl, ⟨[(.v (.int .i64 v35.op))], _, rfl, rfl, ⟨[(.v (.int .i64 v35.hd))], _, rfl, rfl, ⟨[(.v (.int .i64 v35.n))], _, rfl, rfl, ⟨[(.v (.slice a37 ((Tm.encL v35.args).length) c37))], _, rfl, (.inl ⟨_, rfl, nth_mem (j := 3) rfl⟩), rfl⟩⟩⟩⟩⟩, trivial⟩ rfl (by simp only [Tm.encL_eq, List.map_cons, List.map_nil, Tm.enc_eq] <;> rfl) (by decide) (by decide) ?_
      intro a38
      refine ⟨fun _ _ h => h, ?_⟩
      obtain ⟨h39, hr⟩ := cond_need hr
      refine at_appendG (ds' := (Tm.encL (v24.args ++ [v35]))) ttOK 48 0 4 rfl (by kernel_rfl) rfl rfl rfl rfl (by simp only [Tm.encL_eq, List.map_append]) h39 (by decide) ?_
      intro a40 c40
      exact ⟨(n, (Tm.mk v24.op v24.hd v24.n (v24.args ++ [v35])), a40, c40, (IntKind.i64.wrap (v26 + 1))), ⟨by omega, hr⟩, Nat.lt_succ_self _, ⟨rfl, rfl, rfl, rfl, rfl, rfl, rfl, rfl, trivial⟩, (StLe.gen 6 [.old 0] [.old 0, .old 1] rfl rfl rfl rfl rfl rfl rfl)⟩
    · replace hr := cond_f h27 hr
      replace hr := Option.some.inj hr
      subst hr
      exact AtRet.gen ⟨[.cells 108 [(.fn (.func 61) [] [(.loc 1 0), (.loc 2 0)])], .cells 3 [(.v (.int .i64 v4))], .cells 29 [(.v (.slice a6 ((List.map (D.int .i64) v5).length) c6))]], [], [(.slice a25 ((Tm.encL v24.args).length) c25, .sl 4 (Tm.encL v24.args))]⟩ (StLe.gen 3 [] [.froz 0] rfl rfl rfl rfl rfl rfl rfl) rfl rfl ⟨a25, c25, rfl, rfl⟩
theorem term_Map_mode_Strict_2_spec (n : Nat) (v1 : Tm) (v3 : Int) (v4 : Int) (v5 : (List Int)) (a2 : Option Addr) (c2 : Nat) (a6 : Option Addr) (c6 : Nat) (r : Tm) (hr : term_Map_mode_Strict_2 n v1 v3 v4 v5 = some r) : Meets Tryz.prog (.val (.fn (.func 63) [] [])) [(.agg [(.v (.int .i64 v1.op)), (.v (.int .i64 v1.hd)), (.v (.int .i64 v1.n)), (.v (.slice a2 ((Tm.encL v1.args).length) c2))]), (.v (.int .i64 v3)), (.fn (.func 64) [] [(.loc 0 0)])] ⟨[.cells 108 [(.fn (.func 61) [] [(.loc 1 0), (.loc 2 0)])], .cells 3 [(.v (.int .i64 v4))], .cells 29 [(.v (.slice a6 ((List.map (D.int .i64) v5).length) c6))]], [], [(.slice a2 ((Tm.encL v1.args).length) c2, .sl 4 (Tm.encL v1.args)), (.slice a6 ((List.map (D.int .i64) v5).length) c6, .sl 1 (List.map (D.int .i64) v5))]⟩ (fun o S' => ∃ (b1 : Option Addr) (d1 : Nat), o = .ret (.agg [(.v (.int .i64 r.op)), (.v (.int .i64 r.hd)), (.v (.int .i64 r.n)), (.v (.slice b1 ((Tm.encL r.args).length) d1))]) ∧ S' = ⟨[.cells 108 [(.fn (.func 61) [] [(.loc 1 0), (.loc 2 0)])], .cells 3 [(.v (.int .i64 v4))], .cells 29 [(.v (.slice a6 ((List.map (D.int .i64) v5).length) c6))]], [], [(.slice b1 ((Tm.encL r.args).length) d1, .sl 4 (Tm.encL r.args))]⟩) := (term_Map_mode_Strict_2_specN n) n (Nat.le_refl _) v1 v3 v4 v5 a2 c2 a6 c6 r hr
mutual
def mode_copied : Nat → Tm → Option (Tm)
  | 0, _ => none
  | n + 1, v1 =>
    mode_copied_L1 n v1 ([]) 0
def mode_copied_L1 : Nat → Tm → (List Tm) → Int → Option (Tm)
  | 0, _, _, _ => none
  | n + 1, v1, v15, v17 =>
    cond (decide (v17 < ((Tm.encL v1.args).length : Int))) (
    (idx v1.args v17).bind (fun v19 =>
    (mode_copied n v19).bind (fun v24 =>
    cond (decide ((Tm.encL (v15 ++ [v24])).length ≤ 1000000)) (
    mode_copied_L1 n v1 (v15 ++ [v24]) (IntKind.i64.wrap (v17 + 1))) none))) (
    some ((Tm.mk v1.op v1.hd v1.n v15)))
 end
theorem mode_copied_specN : ∀ (N : Nat), (∀ (n : Nat), n ≤ N → ∀ (v1 : Tm) (a2 : Option Addr) (c2 : Nat) (r : Tm), mode_copied n v1 = some r → Pure Tryz.prog (.val (.fn (.func 74) [] [])) [(.agg [(.v (.int .i64 v1.op)), (.v (.int .i64 v1.hd)), (.v (.int .i64 v1.n)), (.v (.slice a2 ((Tm.encL v1.args).length) c2))])] [(.slice a2 ((Tm.encL v1.args).length) c2, .sl 4 (Tm.encL v1.args))] (fun r' out => ∃ (b1 : Option Addr) (d1 : Nat), r' = (.agg [(.v (.int .i64 r.op)), (.v (.int .i64 r.hd)), (.v (.int .i64 r.n)), (.v (.slice b1 ((Tm.encL r.args).length) d1))]) ∧ out = [(.slice b1 ((Tm.encL r.args).length) d1, .sl 4 (Tm.encL r.args))])) := by
  intro N
  induction N with
  | zero =>
    intro n hn v1 a2 c2 r hr; obtain rfl : n = 0 := (by omega); exact no_some hr
  | succ N ih =>
    intro n hn v1 a2 c2 r hr
    rcases n with _ | n
    · exact no_some hr
    replace hn : n ≤ N := by omega
    rw [mode_copied.eq_2] at hr
    refine spec_of_body (N := 22) (m := 0) (dt := fun _ => none) [] ttOK Tryz.func74 rfl Tryz.call74 Tryz.ntmps74 rfl rfl rfl mixed (by kernel_rfl) ?_
    refine AtLoop.mk ⟨Nat × (List Tm) × Option Addr × Nat × Int, fun x => [(1, (.loc 0 0)), (2, (.loc 1 0)), (3, (.v (.slice x.2.2.1 ((Tm.encL x.2.1).length) x.2.2.2.1))), (7, (.v (.slice a2 ((Tm.encL v1.args).length) c2))), (8, (.v (.int .i64 ((Tm.encL v1.args).length : Int)))), (9, (.v (.int .i64 x.2.2.2.2)))], fun x => ⟨[.cells 47 [(.v (.int .i64 v1.op)), (.v (.int .i64 v1.hd)), (.v (.int .i64 v1.n)), (.v (.slice a2 ((Tm.encL v1.args).length) c2))], .cells 47 [(.v (.int .i64 0)), (.v (.int .i64 0)), (.v (.int .i64 0)), (.v (.slice none 0 0))]], [⟨.slice x.2.2.1 ((Tm.encL x.2.1).length) x.2.2.2.1, 4, 47, (Tm.encL x.2.1)⟩], [(.slice a2 ((Tm.encL v1.args).length) c2, .sl 4 (Tm.encL v1.args))]⟩, fun x => x.1 ≤ N ∧ mode_copied_L1 x.1 v1 x.2.1 x.2.2.2.2 = some r, fun x => x.1, (n, [], none, 0, 0), ⟨by omega, hr⟩, ⟨rfl, rfl, rfl, rfl, rfl, rfl, trivial⟩, (StLe.gen 2 [.nil 4 47] [.old 0] rfl rfl rfl rfl rfl rfl rfl), fun x _ => ⟨rfl, rfl⟩, ?_⟩
    rintro ⟨n, v15, a16, c16, v17⟩ HH
    obtain ⟨hn, hr⟩ : n ≤ N ∧ mode_copied_L1 n v1 v15 v17 = some r := HH
    rcases n with _ | n
    · exact no_some hr
    rw [mode_copied_L1.eq_2] at hr
    refine AtIf.mk (fun h18 => ?_) (fun h18 => ?_)
    · replace hr := cond_t h18 hr
      obtain ⟨v19, h20, hr⟩ := bind_some hr
      obtain ⟨h21, h22⟩ := idx_some h20
      refine at_index ttOK 0 rfl rfl rfl rfl h21 (Tm.encL_get h22) ?_
      intro a23 c23 _ _
      obtain ⟨v24, h25, hr⟩ := bind_some hr
      refine (ih n (by omega) v19 a23 c23 _ h25).atR [1] rfl rfl rfl ?_
      rintro _ _ ⟨a26, c26, rfl, rfl⟩
      refine at_buildG (n := 1) ttOK 48 [.agg [.int .i64 v24.op, .int .i64 v24.hd, .int .i64 v24.n, .sl 4 (Tm.encL v24.args)]] (ds' := (Tm.encL ([v24]))) rfl (by kernel_rfl) ⟨⟨rfl, rfl, rfl, ⟨[(.v (.int .i64 v24.op))], _, rfl, rfl, ⟨[(.v (.int .i64 v24.hd))], _, rfl, rfl, ⟨[(.v (.int .i64 v24.n))], _, rfl, rfl, ⟨[(.v (.slice a26 ((Tm.encL v24.args).length) c26))], _, rfl, (.inl ⟨_, rfl, nth_mem (j := 2) rfl⟩), rfl⟩⟩⟩⟩⟩, trivial⟩ rfl (by simp only [Tm.encL_eq, List.map_cons, List.map_nil, Tm.enc_eq] <;> rfl) (by decide) (by decide) ?_
      intro a27
      obtain ⟨h28, hr⟩ := cond_need hr
      refine at_appendG (ds' := (Tm.encL (v15 ++ [v24]))) ttOK 48 0 3 rfl (by kernel_rfl) rfl rfl rfl rfl (by simp only [Tm.encL_eq, List.map_append]) h28 (by decide) ?_
      intro a29 c29
      exact ⟨(n, (v15 ++ [v24]), a29, c29, (IntKind.i64.wrap (v17 + 1))), ⟨by omega, hr⟩, Nat.lt_succ_self _, ⟨rfl, rfl, rfl, rfl, rfl, rfl, trivial⟩, (StLe.gen 2 [.old 0] [.old 0] rfl rfl rfl rfl rfl rfl rfl)⟩
    · replace hr := cond_f h18 hr
      replace hr := Option.some.inj hr
      subst hr
      exact AtRet.pureG [.froz 0] [(.slice a16 ((Tm.encL v15).length) c16, .sl 4 (Tm.encL v15))] rfl rfl ⟨a16, c16, rfl, rfl⟩
theorem mode_copied_spec (n : Nat) (v1 : Tm) (a2 : Option Addr) (c2 : Nat) (r : Tm) (hr : mode_copied n v1 = some r) : Pure Tryz.prog (.val (.fn (.func 74) [] [])) [(.agg [(.v (.int .i64 v1.op)), (.v (.int .i64 v1.hd)), (.v (.int .i64 v1.n)), (.v (.slice a2 ((Tm.encL v1.args).length) c2))])] [(.slice a2 ((Tm.encL v1.args).length) c2, .sl 4 (Tm.encL v1.args))] (fun r' out => ∃ (b1 : Option Addr) (d1 : Nat), r' = (.agg [(.v (.int .i64 r.op)), (.v (.int .i64 r.hd)), (.v (.int .i64 r.n)), (.v (.slice b1 ((Tm.encL r.args).length) d1))]) ∧ out = [(.slice b1 ((Tm.encL r.args).length) d1, .sl 4 (Tm.encL r.args))]) := (mode_copied_specN n) n (Nat.le_refl _) v1 a2 c2 r hr
def R03_Free : Nat → Tm → Option ((List Int))
  | 0, _ => none
  | n + 1, v1 =>
    cond (decide ((0 : Int) ≤ 0 ∧ (0 : Int) + (v1.height : Int) ≤ 1000000 ∧ ([] : List Int).length + v1.count ≤ 1000000)) (
    some ((headsF 1 v1 0 ([])))) none
theorem R03_Free_spec (n : Nat) (v1 : Tm) (a2 : Option Addr) (c2 : Nat) (r : (List Int)) (hr : R03_Free n v1 = some r) : Pure Tryz.prog (.val (.fn (.func 71) [] [])) [(.agg [(.v (.int .i64 v1.op)), (.v (.int .i64 v1.hd)), (.v (.int .i64 v1.n)), (.v (.slice a2 ((Tm.encL v1.args).length) c2))])] [(.slice a2 ((Tm.encL v1.args).length) c2, .sl 4 (Tm.encL v1.args))] (fun r' out => ∃ (b1 : Option Addr) (d1 : Nat), r' = (.v (.slice b1 ((List.map (D.int .i64) r).length) d1)) ∧ out = [(.slice b1 ((List.map (D.int .i64) r).length) d1, .sl 1 (List.map (D.int .i64) r))]) := by
  rcases n with _ | n
  · exact no_some hr
  rw [R03_Free.eq_2] at hr
  refine spec_of_body (N := 5) (m := 0) (dt := fun _ => none) [] ttOK Tryz.func71 rfl Tryz.call71 Tryz.ntmps71 rfl rfl rfl mixed (by kernel_rfl) ?_
  obtain ⟨h3, hr⟩ := cond_need hr
  refine Meets.nilRep 1 ?_
  refine (heads0 1 v1 0 ([]) a2 none c2 0 (of_decide_eq_true h3).1 (of_decide_eq_true h3).2.1 (of_decide_eq_true h3).2.2).atR [1, 0] rfl rfl rfl ?_
  rintro _ _ ⟨a4, c4, rfl, rfl⟩
  replace hr := Option.some.inj hr
  subst hr
  exact AtRet.pureG [.old 2] [(.slice a4 ((List.map (D.int .i64) (headsF 1 v1 0 ([]))).length) c4, .sl 1 (List.map (D.int .i64) (headsF 1 v1 0 ([]))))] rfl rfl ⟨a4, c4, rfl, rfl⟩
def R14_State_With : Nat → Sta → Bool → Option (Sta)
  | 0, _, _ => none
  | n + 1, v1, v4 =>
    cond (decide ((List.map D.bool v1.opn).length ≤ 1000000)) (
    cond (decide ((List.map D.bool v1.known).length ≤ 1000000)) (
    cond (decide ((List.map D.bool (v1.opn ++ [v4])).length ≤ 1000000)) (
    cond (decide ((List.map D.bool (v1.known ++ [false])).length ≤ 1000000)) (
    some ((Sta.mk (v1.opn ++ [v4]) (v1.known ++ [false])))) none) none) none) none
theorem R14_State_With_spec (n : Nat) (v1 : Sta) (v4 : Bool) (a2 : Option Addr) (c2 : Nat) (a3 : Option Addr) (c3 : Nat) (r : Sta) (hr : R14_State_With n v1 v4 = some r) : Pure Tryz.prog (.val (.fn (.func 72) [] [])) [(.agg [(.v (.slice a2 ((List.map D.bool v1.opn).length) c2)), (.v (.slice a3 ((List.map D.bool v1.known).length) c3))]), (.v (.bool v4))] [(.slice a2 ((List.map D.bool v1.opn).length) c2, .sl 1 (List.map D.bool v1.opn)), (.slice a3 ((List.map D.bool v1.known).length) c3, .sl 1 (List.map D.bool v1.known))] (fun r' out => ∃ (b1 : Option Addr) (d1 : Nat), ∃ (b2 : Option Addr) (d2 : Nat), r' = (.agg [(.v (.slice b1 ((List.map D.bool r.opn).length) d1)), (.v (.slice b2 ((List.map D.bool r.known).length) d2))]) ∧ out = [(.slice b1 ((List.map D.bool r.opn).length) d1, .sl 1 (List.map D.bool r.opn)), (.slice b2 ((List.map D.bool r.known).length) d2, .sl 1 (List.map D.bool r.known))]) := by
  rcases n with _ | n
  · exact no_some hr
  rw [R14_State_With.eq_2] at hr
  refine spec_of_body (N := 23) (m := 0) (dt := fun _ => none) [] ttOK Tryz.func72 rfl Tryz.call72 Tryz.ntmps72 rfl rfl rfl mixed (by kernel_rfl) ?_
  obtain ⟨h5, hr⟩ := cond_need hr
  refine AtSem.le (S' := ⟨[.cells 103 [(.v (.slice a2 ((List.map D.bool v1.opn).length) c2)), (.v (.slice a3 ((List.map D.bool v1.known).length) c3))], .cells 103 [(.v (.slice none 0 0)), (.v (.slice none 0 0))]], [⟨.slice none 0 0, 1, 4, []⟩], [(.slice a2 ((List.map D.bool v1.opn).length) c2, .sl 1 (List.map D.bool v1.opn)), (.slice a3 ((List.map D.bool v1.known).length) c3, .sl 1 (List.map D.bool v1.known))]⟩) (StLe.gen 2 [.nil 1 4] [.old 0, .old 1] rfl rfl rfl rfl rfl rfl rfl) rfl ?_
  refine at_appendG (ds' := (List.map D.bool v1.opn)) ttOK 1 0 0 rfl (by kernel_rfl) rfl rfl rfl rfl (List.nil_append _).symm h5 (by decide) ?_
  intro a6 c6
  obtain ⟨h7, hr⟩ := cond_need hr
  refine AtSem.le (S' := ⟨[.cells 103 [(.v (.slice a2 ((List.map D.bool v1.opn).length) c2)), (.v (.slice a3 ((List.map D.bool v1.known).length) c3))], .cells 103 [(.v (.slice none 0 0)), (.v (.slice none 0 0))]], [⟨.slice none 0 0, 1, 4, []⟩, ⟨.slice a6 ((List.map D.bool v1.opn).length) c6, 1, 4, (List.map D.bool v1.opn)⟩], [(.slice a2 ((List.map D.bool v1.opn).length) c2, .sl 1 (List.map D.bool v1.opn)), (.slice a3 ((List.map D.bool v1.known).length) c3, .sl 1 (List.map D.bool v1.known))]⟩) (StLe.gen 2 [.nil 1 4, .old 0] [.old 0, .old 1] rfl rfl rfl rfl rfl rfl rfl) rfl ?_
  refine at_appendG (ds' := (List.map D.bool v1.known)) ttOK 1 0 1 rfl (by kernel_rfl) rfl rfl rfl rfl (List.nil_append _).symm h7 (by decide) ?_
  intro a8 c8
  refine at_buildG (n := 1) ttOK 1 [.bool v4] (ds' := (List.map D.bool ([v4]))) rfl (by kernel_rfl) ⟨⟨rfl, rfl, rfl, rfl⟩, trivial⟩ rfl rfl (by decide) (by decide) ?_
  intro a9
  obtain ⟨h10, hr⟩ := cond_need hr
  refine at_appendG (ds' := (List.map D.bool (v1.opn ++ [v4]))) ttOK 1 1 2 rfl (by kernel_rfl) rfl rfl rfl rfl (by simp only [List.map_append]) h10 (by decide) ?_
  intro a11 c11
  refine at_buildG (n := 1) ttOK 1 [.bool false] (ds' := (List.map D.bool ([false]))) rfl (by kernel_rfl) ⟨⟨rfl, rfl, rfl, rfl⟩, trivial⟩ rfl rfl (by decide) (by decide) ?_
  intro a12
  obtain ⟨h13, hr⟩ := cond_need hr
  refine at_appendG (ds' := (List.map D.bool (v1.known ++ [false]))) ttOK 1 0 3 rfl (by kernel_rfl) rfl rfl rfl rfl (by simp only [List.map_append]) h13 (by decide) ?_
  intro a14 c14
  replace hr := Option.some.inj hr
  subst hr
  exact AtRet.pureG [.froz 1, .froz 0] [(.slice a11 ((List.map D.bool (v1.opn ++ [v4])).length) c11, .sl 1 (List.map D.bool (v1.opn ++ [v4]))), (.slice a14 ((List.map D.bool (v1.known ++ [false])).length) c14, .sl 1 (List.map D.bool (v1.known ++ [false])))] rfl rfl ⟨a11, c11, a14, c14, rfl, rfl⟩
def mode_isMode_1 : Nat → Int → Option (Bool)
  | 0, _ => none
  | n + 1, v1 =>
    some (((decide (v1 < 1)) || (decide (v1 > 3))))
theorem mode_isMode_1_spec (n : Nat) (v1 : Int)  (r : Bool) (hr : mode_isMode_1 n v1 = some r) : Pure Tryz.prog (.val (.fn (.func 136) [] [])) [(.v (.int .i64 v1))] [] (fun r' out => r' = (.v (.bool r)) ∧ out = []) := by
  rcases n with _ | n
  · exact no_some hr
  rw [mode_isMode_1.eq_2] at hr
  refine spec_of_body (N := 9) (m := 0) (dt := fun _ => none) [] ttOK Tryz.func136 rfl Tryz.call136 Tryz.ntmps136 rfl rfl rfl mixed (by kernel_rfl) ?_
  replace hr := Option.some.inj hr
  subst hr
  exact AtRet.pureG [] [] rfl rfl ⟨rfl, rfl⟩
mutual
def slices_IndexFunc_mode_isMode_1 : Nat → (List Int) → Option (Int)
  | 0, _ => none
  | n + 1, v1 =>
    slices_IndexFunc_mode_isMode_1_L1 n v1 0
def slices_IndexFunc_mode_isMode_1_L1 : Nat → (List Int) → Int → Option (Int)
  | 0, _, _ => none
  | n + 1, v1, v11 =>
    cond (decide (v11 < ((List.map (D.int .i64) v1).length : Int))) (
    (idx v1 v11).bind (fun v13 =>
    (mode_isMode_1 n v13).bind (fun v17 =>
    cond v17 (
    some (v11)) (
    slices_IndexFunc_mode_isMode_1_L1 n v1 (IntKind.i64.wrap (v11 + 1)))))) (
    some ((-1)))
 end
theorem slices_IndexFunc_mode_isMode_1_spec (n : Nat) (v1 : (List Int)) (a2 : Option Addr) (c2 : Nat) (r : Int) (hr : slices_IndexFunc_mode_isMode_1 n v1 = some r) : Pure Tryz.prog (.val (.fn (.func 169) [] [])) [(.v (.slice a2 ((List.map (D.int .i64) v1).length) c2)), (.fn (.func 136) [] [])] [(.slice a2 ((List.map (D.int .i64) v1).length) c2, .sl 1 (List.map (D.int .i64) v1))] (fun r' out => r' = (.v (.int .i64 r)) ∧ out = []) := by
  rcases n with _ | n
  · exact no_some hr
  rw [slices_IndexFunc_mode_isMode_1.eq_2] at hr
  refine spec_of_body (N := 19) (m := 0) (dt := fun _ => none) [] ttOK Tryz.func169 rfl Tryz.call169 Tryz.ntmps169 rfl rfl rfl mixed (by kernel_rfl) ?_
  refine AtLoop.mk ⟨Nat × Int, fun x => [(0, (.v (.slice a2 ((List.map (D.int .i64) v1).length) c2))), (1, (.fn (.func 136) [] [])), (7, (.v (.int .i64 ((List.map (D.int .i64) v1).length : Int)))), (8, (.v (.int .i64 x.2)))], fun x => ⟨[], [], [(.slice a2 ((List.map (D.int .i64) v1).length) c2, .sl 1 (List.map (D.int .i64) v1))]⟩, fun x => slices_IndexFunc_mode_isMode_1_L1 x.1 v1 x.2 = some r, fun x => x.1, (n, 0), hr, ⟨rfl, rfl, rfl, rfl, trivial⟩, (StLe.gen 0 [] [.old 0] rfl rfl rfl rfl rfl rfl rfl), fun x _ => ⟨rfl, rfl⟩, ?_⟩
  rintro ⟨n, v11⟩ HH
  have hr : slices_IndexFunc_mode_isMode_1_L1 n v1 v11 = some r := HH
  rcases n with _ | n
  · exact no_some hr
  rw [slices_IndexFunc_mode_isMode_1_L1.eq_2] at hr
  refine AtIf.mk (fun h12 => ?_) (fun h12 => ?_)
  · replace hr := cond_t h12 hr
    obtain ⟨v13, h14, hr⟩ := bind_some hr
    obtain ⟨h15, h16⟩ := idx_some h14
    refine at_index ttOK 0 rfl rfl rfl rfl h15 (map_get (D.int .i64) h16) ?_
    obtain ⟨v17, h18, hr⟩ := bind_some hr
    refine (mode_isMode_1_spec n v13 _ h18).atR [] rfl rfl rfl ?_
    rintro _ _ ⟨rfl, rfl⟩
    refine AtIf.mk (fun h19 => ?_) (fun h19 => ?_)
    · replace hr := cond_t h19 hr
      replace hr := Option.some.inj hr
      subst hr
      exact AtRet.pureG [] [] rfl rfl ⟨rfl, rfl⟩
    · replace hr := cond_f h19 hr
      exact ⟨(n, (IntKind.i64.wrap (v11 + 1))), hr, Nat.lt_succ_self _, ⟨rfl, rfl, rfl, rfl, trivial⟩, (StLe.gen 0 [] [.old 0] rfl rfl rfl rfl rfl rfl rfl)⟩
  · replace hr := cond_f h12 hr
    replace hr := Option.some.inj hr
    subst hr
    exact AtRet.pureG [] [] rfl rfl ⟨rfl, rfl⟩
def slices_ContainsFunc_mode_isMode_1 : Nat → (List Int) → Option (Bool)
  | 0, _ => none
  | n + 1, v1 =>
    (slices_IndexFunc_mode_isMode_1 n v1).bind (fun v3 =>
    some ((decide (v3 ≥ 0))))
theorem slices_ContainsFunc_mode_isMode_1_spec (n : Nat) (v1 : (List Int)) (a2 : Option Addr) (c2 : Nat) (r : Bool) (hr : slices_ContainsFunc_mode_isMode_1 n v1 = some r) : Pure Tryz.prog (.val (.fn (.func 135) [] [])) [(.v (.slice a2 ((List.map (D.int .i64) v1).length) c2)), (.fn (.func 136) [] [])] [(.slice a2 ((List.map (D.int .i64) v1).length) c2, .sl 1 (List.map (D.int .i64) v1))] (fun r' out => r' = (.v (.bool r)) ∧ out = []) := by
  rcases n with _ | n
  · exact no_some hr
  rw [slices_ContainsFunc_mode_isMode_1.eq_2] at hr
  refine spec_of_body (N := 9) (m := 0) (dt := fun _ => none) [] ttOK Tryz.func135 rfl Tryz.call135 Tryz.ntmps135 rfl rfl rfl mixed (by kernel_rfl) ?_
  obtain ⟨v3, h4, hr⟩ := bind_some hr
  refine (slices_IndexFunc_mode_isMode_1_spec n v1 a2 c2 _ h4).atR [0] rfl rfl rfl ?_
  rintro _ _ ⟨rfl, rfl⟩
  replace hr := Option.some.inj hr
  subst hr
  exact AtRet.pureG [] [] rfl rfl ⟨rfl, rfl⟩
def mode_isMode : Nat → (List Dc) → Md → Option (Bool)
  | 0, _, _ => none
  | n + 1, v1, v3 =>
    cond ((decide (v3.family < 0)) || (decide (v3.family ≥ ((Dc.encL v1).length : Int)))) (
    some (false)) (
    (sign_Family n v1 v3.family).bind (fun v6 =>
    cond (!v6) (
    some (false)) (
    (idx v1 v3.family).bind (fun v9 =>
    (term_Domains n v9.cls).bind (fun v14 =>
    cond (((Tm.encL v14.1).length : Int) == ((List.map (D.int .i64) v3.signs).length : Int)) (
    (slices_ContainsFunc_mode_isMode_1 n v3.signs).bind (fun v19 =>
    some ((!v19)))) (
    some (false)))))))
theorem mode_isMode_spec (n : Nat) (v1 : (List Dc)) (v3 : Md) (a2 : Option Addr) (c2 : Nat) (a4 : Option Addr) (c4 : Nat) (r : Bool) (hr : mode_isMode n v1 v3 = some r) : Pure Tryz.prog (.val (.fn (.func 96) [] [])) [(.v (.slice a2 ((Dc.encL v1).length) c2)), (.agg [(.v (.int .i64 v3.family)), (.v (.slice a4 ((List.map (D.int .i64) v3.signs).length) c4))])] [(.slice a2 ((Dc.encL v1).length) c2, .sl 6 (Dc.encL v1)), (.slice a4 ((List.map (D.int .i64) v3.signs).length) c4, .sl 1 (List.map (D.int .i64) v3.signs))] (fun r' out => r' = (.v (.bool r)) ∧ out = []) := by
  rcases n with _ | n
  · exact no_some hr
  rw [mode_isMode.eq_2] at hr
  refine spec_of_body (N := 46) (m := 0) (dt := fun _ => none) [] ttOK Tryz.func96 rfl Tryz.call96 Tryz.ntmps96 rfl rfl rfl mixed (by kernel_rfl) ?_
  refine AtGuard.mk (fun h5 => ?_) (fun h5 => ?_)
  · replace hr := cond_f h5 hr
    obtain ⟨v6, h7, hr⟩ := bind_some hr
    refine (sign_Family_spec n v1 v3.family a2 c2 _ h7).atR [0] rfl rfl rfl ?_
    rintro _ _ ⟨rfl, rfl⟩
    refine AtIf.mk (fun h8 => ?_) (fun h8 => ?_)
    · replace hr := cond_t h8 hr
      replace hr := Option.some.inj hr
      subst hr
      exact AtRet.pureG [] [] rfl rfl ⟨rfl, rfl⟩
    · replace hr := cond_f h8 hr
      obtain ⟨v9, h10, hr⟩ := bind_some hr
      obtain ⟨h11, h12⟩ := idx_some h10
      refine at_index ttOK 0 rfl rfl rfl rfl h11 (Dc.encL_get h12) ?_
      intro a13 c13 _ _
      obtain ⟨v14, h15, hr⟩ := bind_some hr
      refine (term_Domains_spec n v9.cls a13 c13 _ h15).atR [2] rfl rfl rfl ?_
      rintro _ _ ⟨a16, c16, a17, c17, rfl, rfl⟩
      refine AtGuard.mk (fun h18 => ?_) (fun h18 => ?_)
      · replace hr := cond_t h18 hr
        obtain ⟨v19, h20, hr⟩ := bind_some hr
        refine (slices_ContainsFunc_mode_isMode_1_spec n v3.signs a4 c4 _ h20).atR [1] rfl rfl rfl ?_
        rintro _ _ ⟨rfl, rfl⟩
        replace hr := Option.some.inj hr
        subst hr
        exact AtRet.pureG [] [] rfl rfl ⟨rfl, rfl⟩
      · replace hr := cond_f h18 hr
        replace hr := Option.some.inj hr
        subst hr
        exact AtRet.pureG [] [] rfl rfl ⟨rfl, rfl⟩
  · replace hr := cond_t h5 hr
    refine AtIf.mk (fun _ => ?_) (fun h => tf h)
    replace hr := Option.some.inj hr
    subst hr
    exact AtRet.pureG [] [] rfl rfl ⟨rfl, rfl⟩
mutual
def W14_ints : Nat → (List Int) → (List Int) → Option (Bool)
  | 0, _, _ => none
  | n + 1, v1, v3 =>
    cond (((List.map (D.int .i64) v1).length : Int) != ((List.map (D.int .i64) v3).length : Int)) (
    some (false)) (
    W14_ints_L1 n v1 v3 0)
def W14_ints_L1 : Nat → (List Int) → (List Int) → Int → Option (Bool)
  | 0, _, _, _ => none
  | n + 1, v1, v3, v16 =>
    cond (decide (v16 < ((List.map (D.int .i64) v1).length : Int))) (
    (idx v1 v16).bind (fun v18 =>
    (idx v3 v16).bind (fun v22 =>
    cond (v18 != v22) (
    some (false)) (
    W14_ints_L1 n v1 v3 (IntKind.i64.wrap (v16 + 1)))))) (
    some (true))
 end
theorem W14_ints_spec (n : Nat) (v1 : (List Int)) (v3 : (List Int)) (a2 : Option Addr) (c2 : Nat) (a4 : Option Addr) (c4 : Nat) (r : Bool) (hr : W14_ints n v1 v3 = some r) : Pure Tryz.prog (.val (.fn (.func 26) [] [])) [(.v (.slice a2 ((List.map (D.int .i64) v1).length) c2)), (.v (.slice a4 ((List.map (D.int .i64) v3).length) c4))] [(.slice a2 ((List.map (D.int .i64) v1).length) c2, .sl 1 (List.map (D.int .i64) v1)), (.slice a4 ((List.map (D.int .i64) v3).length) c4, .sl 1 (List.map (D.int .i64) v3))] (fun r' out => r' = (.v (.bool r)) ∧ out = []) := by
  rcases n with _ | n
  · exact no_some hr
  rw [W14_ints.eq_2] at hr
  refine spec_of_body (N := 26) (m := 0) (dt := drawsOf [(6, .leaf [0, 1, 2, 3, 4, 5, 6, 7, 8], [], [])]) [] ttOK Tryz.func26 rfl Tryz.call26 Tryz.ntmps26 rfl rfl rfl mixed (by kernel_rfl) ?_
  refine AtIf.mk (fun h5 => ?_) (fun h5 => ?_)
  · replace hr := cond_t h5 hr
    replace hr := Option.some.inj hr
    subst hr
    exact AtRet.pureG [] [] rfl rfl ⟨rfl, rfl⟩
  · replace hr := cond_f h5 hr
    refine AtLoop.mk ⟨Nat × Int, fun x => [(0, (.v (.slice a2 ((List.map (D.int .i64) v1).length) c2))), (1, (.v (.slice a4 ((List.map (D.int .i64) v3).length) c4))), (5, (.v (.int .i64 x.2)))], fun x => ⟨[], [], [(.slice a2 ((List.map (D.int .i64) v1).length) c2, .sl 1 (List.map (D.int .i64) v1)), (.slice a4 ((List.map (D.int .i64) v3).length) c4, .sl 1 (List.map (D.int .i64) v3))]⟩, fun x => W14_ints_L1 x.1 v1 v3 x.2 = some r, fun x => x.1, (n, 0), hr, ⟨rfl, rfl, rfl, trivial⟩, (StLe.gen 0 [] [.old 0, .old 1] rfl rfl rfl rfl rfl rfl rfl), fun x _ => ⟨rfl, rfl⟩, ?_⟩
    rintro ⟨n, v16⟩ HH
    have hr : W14_ints_L1 n v1 v3 v16 = some r := HH
    rcases n with _ | n
    · exact no_some hr
    rw [W14_ints_L1.eq_2] at hr
    refine AtIf.mk (fun h17 => ?_) (fun h17 => ?_)
    · replace hr := cond_t h17 hr
      obtain ⟨v18, h19, hr⟩ := bind_some hr
      obtain ⟨h20, h21⟩ := idx_some h19
      refine at_index ttOK 0 rfl rfl rfl rfl h20 (map_get (D.int .i64) h21) ?_
      obtain ⟨v22, h23, hr⟩ := bind_some hr
      obtain ⟨h24, h25⟩ := idx_some h23
      refine at_index ttOK 1 rfl rfl rfl rfl h24 (map_get (D.int .i64) h25) ?_
      refine AtIf.mk (fun h26 => ?_) (fun h26 => ?_)
      · replace hr := cond_t h26 hr
        replace hr := Option.some.inj hr
        subst hr
        exact AtRet.pureG [] [] rfl rfl ⟨rfl, rfl⟩
      · replace hr := cond_f h26 hr
        exact ⟨(n, (IntKind.i64.wrap (v16 + 1))), hr, Nat.lt_succ_self _, ⟨rfl, rfl, rfl, trivial⟩, (StLe.gen 0 [] [.old 0, .old 1] rfl rfl rfl rfl rfl rfl rfl)⟩
    · replace hr := cond_f h17 hr
      replace hr := Option.some.inj hr
      subst hr
      exact AtRet.pureG [] [] rfl rfl ⟨rfl, rfl⟩
end Go.Proofs.YtogicnodmgdnbaaGreat
end
