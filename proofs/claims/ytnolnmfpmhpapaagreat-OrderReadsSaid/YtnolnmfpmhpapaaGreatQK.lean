/- Merged texts: G2. Functions that OrderReads reaches, with fuel, and their contracts. Conditions stand in each. -/
import Derived.Test.YtnolnmfpmhpapaaGreatQJ
/-! G2 -/
section
namespace Go.Proofs.YtnolnmfpmhpapaaGreat
open Go.Tr Go
set_option maxRecDepth 10000
set_option linter.unusedVariables false

mutual
def term_Domains : Nat → Tm → Option ((List Tm) × Tm)
  | 0, _ => none
  | n + 1, v1 =>
    term_Domains_L1 n v1 ([])
def term_Domains_L1 : Nat → Tm → (List Tm) → Option ((List Tm) × Tm)
  | 0, _, _ => none
  | n + 1, v17, v19 =>
    cond (v17.op == 2) (
    (idx v17.args 0).bind (fun v22 =>
    cond (decide ((Tm.encL (v19 ++ [v22])).length ≤ 1000000)) (
    (idx v17.args 1).bind (fun v30 =>
    term_Domains_L1 n v30 (v19 ++ [v22]))) none)) (
    some (v19, v17))
 end
theorem term_Domains_spec (n : Nat) (v1 : Tm) (a2 : Option Addr) (c2 : Nat) (r : (List Tm) × Tm) (hr : term_Domains n v1 = some r) : Pure Tryz.prog (.val (.fn (.func 53) [] [])) [(.agg [(.v (.int .i64 v1.op)), (.v (.int .i64 v1.hd)), (.v (.int .i64 v1.n)), (.v (.slice a2 ((Tm.encL v1.args).length) c2))])] [(.slice a2 ((Tm.encL v1.args).length) c2, .sl 4 (Tm.encL v1.args))] (fun r' out => ∃ (b1 : Option Addr) (d1 : Nat), ∃ (b2 : Option Addr) (d2 : Nat), r' = (.tup [(.v (.slice b1 ((Tm.encL r.1).length) d1)), (.agg [(.v (.int .i64 r.2.op)), (.v (.int .i64 r.2.hd)), (.v (.int .i64 r.2.n)), (.v (.slice b2 ((Tm.encL r.2.args).length) d2))])]) ∧ out = [(.slice b1 ((Tm.encL r.1).length) d1, .sl 4 (Tm.encL r.1)), (.slice b2 ((Tm.encL r.2.args).length) d2, .sl 4 (Tm.encL r.2.args))]) := by
  rcases n with _ | n
  · exact no_some hr
  rw [term_Domains.eq_2] at hr
  refine spec_of_body (N := 21) (m := 0) (dt := drawsOf [(5, .node [0, 1, 2] [(3, .leaf [])], [3], [])]) [] ttOK Tryz.func53 rfl Tryz.call53 Tryz.ntmps53 rfl rfl rfl mixed (by kernel_rfl) ?_
  refine AtLoop.mk ⟨Nat × Tm × Option Addr × Nat × (List Tm) × Option Addr × Nat, fun x => [(1, (.loc 0 0)), (3, (.loc 1 0)), (4, (.v (.slice x.2.2.2.2.2.1 ((Tm.encL x.2.2.2.2.1).length) x.2.2.2.2.2.2)))], fun x => ⟨[.cells 72 [(.v (.int .i64 x.2.1.op)), (.v (.int .i64 x.2.1.hd)), (.v (.int .i64 x.2.1.n)), (.v (.slice x.2.2.1 ((Tm.encL x.2.1.args).length) x.2.2.2.1))], .cells 72 [(.v (.int .i64 0)), (.v (.int .i64 0)), (.v (.int .i64 0)), (.v (.slice none 0 0))]], [⟨.slice x.2.2.2.2.2.1 ((Tm.encL x.2.2.2.2.1).length) x.2.2.2.2.2.2, 4, 72, (Tm.encL x.2.2.2.2.1)⟩], [(.slice x.2.2.1 ((Tm.encL x.2.1.args).length) x.2.2.2.1, .sl 4 (Tm.encL x.2.1.args)), (.slice a2 ((Tm.encL v1.args).length) c2, .sl 4 (Tm.encL v1.args))]⟩, fun x => term_Domains_L1 x.1 x.2.1 x.2.2.2.2.1 = some r, fun x => x.1, (n, v1, a2, c2, [], none, 0), hr, ⟨rfl, rfl, rfl, trivial⟩, (StLe.gen 2 [.nil 4 72] [.old 0, .old 0] rfl rfl rfl rfl rfl rfl rfl), fun x _ => ⟨rfl, rfl⟩, ?_⟩
  rintro ⟨n, v17, a18, c18, v19, a20, c20⟩ HH
  have hr : term_Domains_L1 n v17 v19 = some r := HH
  rcases n with _ | n
  · exact no_some hr
  rw [term_Domains_L1.eq_2] at hr
  refine AtIf.mk (fun h21 => ?_) (fun h21 => ?_)
  · replace hr := cond_t h21 hr
    obtain ⟨v22, h23, hr⟩ := bind_some hr
    obtain ⟨h24, h25⟩ := idx_some h23
    refine at_index ttOK 0 rfl rfl rfl rfl h24 (Tm.encL_get h25) ?_
    intro a26 c26 _ _
    refine at_buildG (n := 1) ttOK 48 [.agg [.int .i64 v22.op, .int .i64 v22.hd, .int .i64 v22.n, .sl 4 (Tm.encL v22.args)]] (ds' := (Tm.encL ([v22]))) rfl (by kernel_rfl) ⟨⟨rfl, rfl, rfl, ⟨[(.v (.int .i64 v22.op))], _, rfl, rfl, ⟨[(.v (.int .i64 v22.hd))], _, rfl, rfl, ⟨[(.v (.int .i64 v22.n))], _, rfl, rfl, ⟨[(.v (.slice a26 ((Tm.encL v22.args).length) c26))], _, rfl, (.inl ⟨_, rfl, nth_mem (j := 2) rfl⟩), rfl⟩⟩⟩⟩⟩, trivial⟩ rfl (by simp only [Tm.encL_eq, List.map_cons, List.map_nil, Tm.enc_eq]) (by decide) (by decide) ?_
    intro a27
    obtain ⟨h28, hr⟩ := cond_need hr
    refine at_appendG (ds' := (Tm.encL (v19 ++ [v22]))) ttOK 48 0 3 rfl (by kernel_rfl) rfl rfl rfl rfl (by simp only [Tm.encL_eq, List.map_append]) h28 (by decide) ?_
    intro a29 c29
    obtain ⟨v30, h31, hr⟩ := bind_some hr
    obtain ⟨h32, h33⟩ := idx_some h31
    refine at_index ttOK 0 rfl rfl rfl rfl h32 (Tm.encL_get h33) ?_
    intro a34 c34 _ _
    exact ⟨(n, v30, a34, c34, (v19 ++ [v22]), a29, c29), hr, Nat.lt_succ_self _, ⟨rfl, rfl, rfl, trivial⟩, (StLe.gen 2 [.old 0] [.old 4, .old 1] rfl rfl rfl rfl rfl rfl rfl)⟩
  · replace hr := cond_f h21 hr
    replace hr := Option.some.inj hr
    subst hr
    exact AtRet.pureG [.froz 0, .old 0] [(.slice a20 ((Tm.encL v19).length) c20, .sl 4 (Tm.encL v19)), (.slice a18 ((Tm.encL v17.args).length) c18, .sl 4 (Tm.encL v17.args))] rfl rfl ⟨a20, c20, a18, c18, rfl, rfl⟩
def sign_kind : Nat → Tm → Option (Bool)
  | 0, _ => none
  | n + 1, v1 =>
    (term_Domains n v1).bind (fun v3 =>
    some ((v3.2.op == 1)))
theorem sign_kind_spec (n : Nat) (v1 : Tm) (a2 : Option Addr) (c2 : Nat) (r : Bool) (hr : sign_kind n v1 = some r) : Pure Tryz.prog (.val (.fn (.func 118) [] [])) [(.agg [(.v (.int .i64 v1.op)), (.v (.int .i64 v1.hd)), (.v (.int .i64 v1.n)), (.v (.slice a2 ((Tm.encL v1.args).length) c2))])] [(.slice a2 ((Tm.encL v1.args).length) c2, .sl 4 (Tm.encL v1.args))] (fun r' out => r' = (.v (.bool r)) ∧ out = []) := by
  rcases n with _ | n
  · exact no_some hr
  rw [sign_kind.eq_2] at hr
  refine spec_of_body (N := 13) (m := 0) (dt := fun _ => none) [] ttOK Tryz.func118 rfl Tryz.call118 Tryz.ntmps118 rfl rfl rfl mixed (by kernel_rfl) ?_
  obtain ⟨v3, h4, hr⟩ := bind_some hr
  refine (term_Domains_spec n v1 a2 c2 _ h4).atR [0] rfl rfl rfl ?_
  rintro _ _ ⟨a5, c5, a6, c6, rfl, rfl⟩
  replace hr := Option.some.inj hr
  subst hr
  exact AtRet.pureG [] [] rfl rfl ⟨rfl, rfl⟩
def sign_name : Nat → ByteArray → Option (Bool)
  | 0, _ => none
  | n + 1, v1 =>
    some (((isSmallF v1) && (!(v1.toList == (⟨#[116, 121, 112, 101]⟩ : ByteArray).toList))))
theorem sign_name_spec (n : Nat) (v1 : ByteArray)  (r : Bool) (hr : sign_name n v1 = some r) : Pure Tryz.prog (.val (.fn (.func 168) [] [])) [(.v (.string v1))] [] (fun r' out => r' = (.v (.bool r)) ∧ out = []) := by
  rcases n with _ | n
  · exact no_some hr
  rw [sign_name.eq_2] at hr
  refine spec_of_body (N := 9) (m := 0) (dt := fun _ => none) [] ttOK Tryz.func168 rfl Tryz.call168 Tryz.ntmps168 rfl rfl rfl mixed (by kernel_rfl) ?_
  refine (isSmall_spec v1).atR [] rfl rfl rfl ?_
  rintro _ _ ⟨rfl, rfl⟩
  replace hr := Option.some.inj hr
  subst hr
  exact AtRet.pureG [] [] rfl rfl ⟨rfl, rfl⟩
def term_Under : Nat → Tm → Int → Option (Int)
  | 0, _, _ => none
  | n + 1, v1, v3 =>
    cond ((v1.op == 3) || ((v1.op == 2) && (v3 == 1))) (
    some (1)) (
    some (0))
theorem term_Under_spec (n : Nat) (v1 : Tm) (v3 : Int) (a2 : Option Addr) (c2 : Nat) (r : Int) (hr : term_Under n v1 v3 = some r) : Pure Tryz.prog (.val (.fn (.func 158) [] [])) [(.agg [(.v (.int .i64 v1.op)), (.v (.int .i64 v1.hd)), (.v (.int .i64 v1.n)), (.v (.slice a2 ((Tm.encL v1.args).length) c2))]), (.v (.int .i64 v3))] [(.slice a2 ((Tm.encL v1.args).length) c2, .sl 4 (Tm.encL v1.args))] (fun r' out => r' = (.v (.int .i64 r)) ∧ out = []) := by
  rcases n with _ | n
  · exact no_some hr
  rw [term_Under.eq_2] at hr
  refine spec_of_body (N := 17) (m := 0) (dt := fun _ => none) [] ttOK Tryz.func158 rfl Tryz.call158 Tryz.ntmps158 rfl rfl rfl mixed (by kernel_rfl) ?_
  refine AtIf.mk (fun h4 => ?_) (fun h4 => ?_)
  · replace hr := cond_t h4 hr
    replace hr := Option.some.inj hr
    subst hr
    exact AtRet.pureG [] [] rfl rfl ⟨rfl, rfl⟩
  · replace hr := cond_f h4 hr
    replace hr := Option.some.inj hr
    subst hr
    exact AtRet.pureG [] [] rfl rfl ⟨rfl, rfl⟩
def sign_formed_1 : Nat → Tm → Int → Bool → (List Dc) → Option (Bool)
  | 0, _, _, _, _ => none
  | n + 1, v1, v3, v4, v5 =>
    cond (v1.op != 4) (
    some (v4)) (
    some ((((v4 && (v1.hd != 3)) && ((v1.hd != 1) || (decide (v1.n < v3)))) && ((v1.hd != 2) || (decide (v1.n < ((Dc.encL v5).length : Int)))))))
theorem sign_formed_1_spec (n : Nat) (v1 : Tm) (v3 : Int) (v4 : Bool) (v5 : (List Dc)) (a2 : Option Addr) (c2 : Nat) (a6 : Option Addr) (c6 : Nat) (r : Bool) (hr : sign_formed_1 n v1 v3 v4 v5 = some r) : Meets Tryz.prog (.val (.fn (.func 170) [] [(.loc 0 0), (.loc 1 0)])) [(.agg [(.v (.int .i64 v1.op)), (.v (.int .i64 v1.hd)), (.v (.int .i64 v1.n)), (.v (.slice a2 ((Tm.encL v1.args).length) c2))]), (.v (.int .i64 v3))] ⟨[.cells 4 [(.v (.bool v4))], .cells 22 [(.v (.slice a6 ((Dc.encL v5).length) c6))]], [], [(.slice a2 ((Tm.encL v1.args).length) c2, .sl 4 (Tm.encL v1.args)), (.slice a6 ((Dc.encL v5).length) c6, .sl 6 (Dc.encL v5))]⟩ (fun o S' => o = .ret (.tup []) ∧ S' = ⟨[.cells 4 [(.v (.bool r))], .cells 22 [(.v (.slice a6 ((Dc.encL v5).length) c6))]], [], []⟩) := by
  rcases n with _ | n
  · exact no_some hr
  rw [sign_formed_1.eq_2] at hr
  refine spec_of_body (N := 38) (m := 2) (dt := fun _ => none) [] ttOK Tryz.func170 rfl Tryz.call170 Tryz.ntmps170 rfl rfl rfl mixed (by kernel_rfl) ?_
  refine AtIf.mk (fun h7 => ?_) (fun h7 => ?_)
  · replace hr := cond_t h7 hr
    replace hr := Option.some.inj hr
    subst hr
    exact AtRet.gen ⟨[.cells 4 [(.v (.bool v4))], .cells 22 [(.v (.slice a6 ((Dc.encL v5).length) c6))]], [], []⟩ (StLe.gen 2 [] [] rfl rfl rfl rfl rfl rfl rfl) rfl rfl ⟨rfl, rfl⟩
  · replace hr := cond_f h7 hr
    replace hr := Option.some.inj hr
    subst hr
    exact AtRet.gen ⟨[.cells 4 [(.v (.bool (((v4 && (v1.hd != 3)) && ((v1.hd != 1) || (decide (v1.n < v3)))) && ((v1.hd != 2) || (decide (v1.n < ((Dc.encL v5).length : Int)))))))], .cells 22 [(.v (.slice a6 ((Dc.encL v5).length) c6))]], [], []⟩ (StLe.gen 2 [] [] rfl rfl rfl rfl rfl rfl rfl) rfl rfl ⟨rfl, rfl⟩
mutual
def term_Each_sign_formed_1 : Nat → Tm → Int → Bool → (List Dc) → Option (Bool)
  | 0, _, _, _, _ => none
  | n + 1, v1, v3, v4, v5 =>
    (sign_formed_1 n v1 v3 v4 v5).bind (fun v7 =>
    term_Each_sign_formed_1_L1 n v1 v3 v5 v7 0)
def term_Each_sign_formed_1_L1 : Nat → Tm → Int → (List Dc) → Bool → Int → Option (Bool)
  | 0, _, _, _, _, _ => none
  | n + 1, v1, v3, v5, v19, v20 =>
    cond (decide (v20 < ((Tm.encL v1.args).length : Int))) (
    (idx v1.args v20).bind (fun v22 =>
    (term_Under n v1 v20).bind (fun v27 =>
    (term_Each_sign_formed_1 n v22 (IntKind.i64.wrap (v3 + v27)) v19 v5).bind (fun v29 =>
    term_Each_sign_formed_1_L1 n v1 v3 v5 v29 (IntKind.i64.wrap (v20 + 1)))))) (
    some (v19))
 end
theorem term_Each_sign_formed_1_specN : ∀ (N : Nat), (∀ (n : Nat), n ≤ N → ∀ (v1 : Tm) (v3 : Int) (v4 : Bool) (v5 : (List Dc)) (a2 : Option Addr) (c2 : Nat) (a6 : Option Addr) (c6 : Nat) (r : Bool), term_Each_sign_formed_1 n v1 v3 v4 v5 = some r → Meets Tryz.prog (.val (.fn (.func 169) [] [])) [(.agg [(.v (.int .i64 v1.op)), (.v (.int .i64 v1.hd)), (.v (.int .i64 v1.n)), (.v (.slice a2 ((Tm.encL v1.args).length) c2))]), (.v (.int .i64 v3)), (.fn (.func 170) [] [(.loc 0 0), (.loc 1 0)])] ⟨[.cells 4 [(.v (.bool v4))], .cells 22 [(.v (.slice a6 ((Dc.encL v5).length) c6))]], [], [(.slice a2 ((Tm.encL v1.args).length) c2, .sl 4 (Tm.encL v1.args)), (.slice a6 ((Dc.encL v5).length) c6, .sl 6 (Dc.encL v5))]⟩ (fun o S' => o = .ret (.tup []) ∧ S' = ⟨[.cells 4 [(.v (.bool r))], .cells 22 [(.v (.slice a6 ((Dc.encL v5).length) c6))]], [], []⟩)) := by
  intro N
  induction N with
  | zero =>
    intro n hn v1 v3 v4 v5 a2 c2 a6 c6 r hr; obtain rfl : n = 0 := (by omega); exact no_some hr
  | succ N ih =>
    intro n hn v1 v3 v4 v5 a2 c2 a6 c6 r hr
    rcases n with _ | n
    · exact no_some hr
    replace hn : n ≤ N := by omega
    rw [term_Each_sign_formed_1.eq_2] at hr
    refine spec_of_body (N := 29) (m := 2) (dt := drawsOf [(5, .node [0, 1, 2, 3, 6] [(4, .node [5] [(7, .leaf [])])], [7], [])]) [] ttOK Tryz.func169 rfl Tryz.call169 Tryz.ntmps169 rfl rfl rfl mixed (by kernel_rfl) ?_
    obtain ⟨v7, h8, hr⟩ := bind_some hr
    refine (sign_formed_1_spec n v1 v3 v4 v5 a2 c2 a6 c6 _ h8).frameR [0, 1] [0, 1] rfl rfl rfl rfl rfl rfl rfl rfl ?_
    rintro _ _ ⟨rfl, rfl⟩
    refine ⟨rfl, rfl, [.cells 4 [(.v (.bool v7))], .cells 22 [(.v (.slice a6 ((Dc.encL v5).length) c6))]], rfl, ?_⟩
    refine AtLoop.mk ⟨Nat × Bool × Int, fun x => [(1, (.v (.int .i64 v3))), (2, (.fn (.func 170) [] [(.loc 0 0), (.loc 1 0)])), (3, (.loc 2 0)), (13, (.v (.slice a2 ((Tm.encL v1.args).length) c2))), (14, (.v (.int .i64 ((Tm.encL v1.args).length : Int)))), (15, (.v (.int .i64 x.2.2)))], fun x => ⟨[.cells 4 [(.v (.bool x.2.1))], .cells 22 [(.v (.slice a6 ((Dc.encL v5).length) c6))], .cells 72 [(.v (.int .i64 v1.op)), (.v (.int .i64 v1.hd)), (.v (.int .i64 v1.n)), (.v (.slice a2 ((Tm.encL v1.args).length) c2))]], [], [(.slice a2 ((Tm.encL v1.args).length) c2, .sl 4 (Tm.encL v1.args)), (.slice a6 ((Dc.encL v5).length) c6, .sl 6 (Dc.encL v5))]⟩, fun x => x.1 ≤ N ∧ term_Each_sign_formed_1_L1 x.1 v1 v3 v5 x.2.1 x.2.2 = some r, fun x => x.1, (n, v7, 0), ⟨by omega, hr⟩, ⟨rfl, rfl, rfl, rfl, rfl, rfl, trivial⟩, (StLe.gen 3 [] [.old 0, .old 1] rfl rfl rfl rfl rfl rfl rfl), fun x _ => ⟨rfl, rfl⟩, ?_⟩
    rintro ⟨n, v19, v20⟩ HH
    obtain ⟨hn, hr⟩ : n ≤ N ∧ term_Each_sign_formed_1_L1 n v1 v3 v5 v19 v20 = some r := HH
    rcases n with _ | n
    · exact no_some hr
    rw [term_Each_sign_formed_1_L1.eq_2] at hr
    refine AtIf.mk (fun h21 => ?_) (fun h21 => ?_)
    · replace hr := cond_t h21 hr
      obtain ⟨v22, h23, hr⟩ := bind_some hr
      obtain ⟨h24, h25⟩ := idx_some h23
      refine at_index ttOK 0 rfl rfl rfl rfl h24 (Tm.encL_get h25) ?_
      intro a26 c26 _ _
      obtain ⟨v27, h28, hr⟩ := bind_some hr
      refine (term_Under_spec n v1 v20 a2 c2 _ h28).atR [0] rfl rfl rfl ?_
      rintro _ _ ⟨rfl, rfl⟩
      refine ⟨fun _ _ h => h, ?_⟩
      obtain ⟨v29, h30, hr⟩ := bind_some hr
      refine (ih n (by omega) v22 (IntKind.i64.wrap (v3 + v27)) v19 v5 a26 c26 a6 c6 _ h30).frameR [0, 1] [2, 1] rfl rfl rfl rfl rfl rfl rfl rfl ?_
      rintro _ _ ⟨rfl, rfl⟩
      refine ⟨rfl, rfl, [.cells 4 [(.v (.bool v29))], .cells 22 [(.v (.slice a6 ((Dc.encL v5).length) c6))]], rfl, ?_⟩
      exact ⟨(n, v29, (IntKind.i64.wrap (v20 + 1))), ⟨by omega, hr⟩, Nat.lt_succ_self _, ⟨rfl, rfl, rfl, rfl, rfl, rfl, trivial⟩, (StLe.gen 3 [] [.old 0, .old 1] rfl rfl rfl rfl rfl rfl rfl)⟩
    · replace hr := cond_f h21 hr
      replace hr := Option.some.inj hr
      subst hr
      exact AtRet.gen ⟨[.cells 4 [(.v (.bool v19))], .cells 22 [(.v (.slice a6 ((Dc.encL v5).length) c6))]], [], []⟩ (StLe.gen 2 [] [] rfl rfl rfl rfl rfl rfl rfl) rfl rfl ⟨rfl, rfl⟩
theorem term_Each_sign_formed_1_spec (n : Nat) (v1 : Tm) (v3 : Int) (v4 : Bool) (v5 : (List Dc)) (a2 : Option Addr) (c2 : Nat) (a6 : Option Addr) (c6 : Nat) (r : Bool) (hr : term_Each_sign_formed_1 n v1 v3 v4 v5 = some r) : Meets Tryz.prog (.val (.fn (.func 169) [] [])) [(.agg [(.v (.int .i64 v1.op)), (.v (.int .i64 v1.hd)), (.v (.int .i64 v1.n)), (.v (.slice a2 ((Tm.encL v1.args).length) c2))]), (.v (.int .i64 v3)), (.fn (.func 170) [] [(.loc 0 0), (.loc 1 0)])] ⟨[.cells 4 [(.v (.bool v4))], .cells 22 [(.v (.slice a6 ((Dc.encL v5).length) c6))]], [], [(.slice a2 ((Tm.encL v1.args).length) c2, .sl 4 (Tm.encL v1.args)), (.slice a6 ((Dc.encL v5).length) c6, .sl 6 (Dc.encL v5))]⟩ (fun o S' => o = .ret (.tup []) ∧ S' = ⟨[.cells 4 [(.v (.bool r))], .cells 22 [(.v (.slice a6 ((Dc.encL v5).length) c6))]], [], []⟩) := (term_Each_sign_formed_1_specN n) n (Nat.le_refl _) v1 v3 v4 v5 a2 c2 a6 c6 r hr
def sign_target : Nat → Tm → Option (Int × Bool)
  | 0, _ => none
  | n + 1, v1 =>
    (term_Domains n v1).bind (fun v3 =>
    some (v3.2.n, ((v3.2.op == 4) && (v3.2.hd == 2))))
theorem sign_target_spec (n : Nat) (v1 : Tm) (a2 : Option Addr) (c2 : Nat) (r : Int × Bool) (hr : sign_target n v1 = some r) : Pure Tryz.prog (.val (.fn (.func 171) [] [])) [(.agg [(.v (.int .i64 v1.op)), (.v (.int .i64 v1.hd)), (.v (.int .i64 v1.n)), (.v (.slice a2 ((Tm.encL v1.args).length) c2))])] [(.slice a2 ((Tm.encL v1.args).length) c2, .sl 4 (Tm.encL v1.args))] (fun r' out => r' = (.tup [(.v (.int .i64 r.1)), (.v (.bool r.2))]) ∧ out = []) := by
  rcases n with _ | n
  · exact no_some hr
  rw [sign_target.eq_2] at hr
  refine spec_of_body (N := 21) (m := 0) (dt := drawsOf [(2, .leaf [0, 1, 2, 3, 4, 5, 6, 7, 8, 9, 10, 11], [], [])]) [] ttOK Tryz.func171 rfl Tryz.call171 Tryz.ntmps171 rfl rfl rfl mixed (by kernel_rfl) ?_
  obtain ⟨v3, h4, hr⟩ := bind_some hr
  refine (term_Domains_spec n v1 a2 c2 _ h4).atR [0] rfl rfl rfl ?_
  rintro _ _ ⟨a5, c5, a6, c6, rfl, rfl⟩
  replace hr := Option.some.inj hr
  subst hr
  exact AtRet.pureG [] [] rfl rfl ⟨rfl, rfl⟩
def sign_formed : Nat → (List Dc) → Dc → Option (Bool)
  | 0, _, _ => none
  | n + 1, v1, v3 =>
    cond ((if isProper v3.cls then (0 : Int) else 2) != 0) (
    some (false)) (
    (sign_name n v3.name).bind (fun v6 =>
    cond ((!v6) || (decide (v3.implicit < 0))) (
    some (false)) (
    (term_Domains n v3.cls).bind (fun v9 =>
    (term_Each_sign_formed_1 n v3.cls 0 (decide (v3.implicit ≤ ((Tm.encL v9.1).length : Int))) v1).bind (fun v13 =>
    (sign_kind n v3.cls).bind (fun v15 =>
    cond v15 (
    some (v13)) (
    (sign_target n v3.cls).bind (fun v18 =>
    cond (v13 && v18.2) (
    (idx v1 v18.1).bind (fun v21 =>
    (sign_kind n v21.cls).bind (fun v26 =>
    some (v26)))) (
    some (false))))))))))
theorem sign_formed_spec (n : Nat) (v1 : (List Dc)) (v3 : Dc) (a2 : Option Addr) (c2 : Nat) (a4 : Option Addr) (c4 : Nat) (r : Bool) (hr : sign_formed n v1 v3 = some r) : Pure Tryz.prog (.val (.fn (.func 112) [] [])) [(.v (.slice a2 ((Dc.encL v1).length) c2)), (.agg [(.v (.string v3.name)), (.v (.int .i64 v3.cls.op)), (.v (.int .i64 v3.cls.hd)), (.v (.int .i64 v3.cls.n)), (.v (.slice a4 ((Tm.encL v3.cls.args).length) c4)), (.v (.int .i64 v3.implicit))])] [(.slice a2 ((Dc.encL v1).length) c2, .sl 6 (Dc.encL v1)), (.slice a4 ((Tm.encL v3.cls.args).length) c4, .sl 4 (Tm.encL v3.cls.args))] (fun r' out => r' = (.v (.bool r)) ∧ out = []) := by
  rcases n with _ | n
  · exact no_some hr
  rw [sign_formed.eq_2] at hr
  refine spec_of_body (N := 62) (m := 0) (dt := fun _ => none) [] ttOK Tryz.func112 rfl Tryz.call112 Tryz.ntmps112 rfl rfl rfl mixed (by kernel_rfl) ?_
  refine (check_spec v3.cls a4 c4).atR [1] rfl rfl rfl ?_
  rintro _ _ ⟨rfl, rfl⟩
  refine AtGuard.mk (fun h5 => ?_) (fun h5 => ?_)
  · replace hr := cond_f h5 hr
    obtain ⟨v6, h7, hr⟩ := bind_some hr
    refine (sign_name_spec n v3.name _ h7).atR [] rfl rfl rfl ?_
    rintro _ _ ⟨rfl, rfl⟩
    refine AtIf.mk (fun h8 => ?_) (fun h8 => ?_)
    · replace hr := cond_t h8 hr
      replace hr := Option.some.inj hr
      subst hr
      exact AtRet.pureG [] [] rfl rfl ⟨rfl, rfl⟩
    · replace hr := cond_f h8 hr
      obtain ⟨v9, h10, hr⟩ := bind_some hr
      refine (term_Domains_spec n v3.cls a4 c4 _ h10).atR [1] rfl rfl rfl ?_
      rintro _ _ ⟨a11, c11, a12, c12, rfl, rfl⟩
      obtain ⟨v13, h14, hr⟩ := bind_some hr
      refine (term_Each_sign_formed_1_spec n v3.cls 0 (decide (v3.implicit ≤ ((Tm.encL v9.1).length : Int))) v1 a4 c4 a2 c2 _ h14).frameR [3, 0] [1, 0] rfl rfl rfl rfl rfl rfl rfl rfl ?_
      rintro _ _ ⟨rfl, rfl⟩
      refine ⟨rfl, rfl, [.cells 4 [(.v (.bool v13))], .cells 22 [(.v (.slice a2 ((Dc.encL v1).length) c2))]], rfl, ?_⟩
      obtain ⟨v15, h16, hr⟩ := bind_some hr
      refine (sign_kind_spec n v3.cls a4 c4 _ h16).atR [1] rfl rfl rfl ?_
      rintro _ _ ⟨rfl, rfl⟩
      refine AtIf.mk (fun h17 => ?_) (fun h17 => ?_)
      · replace hr := cond_t h17 hr
        replace hr := Option.some.inj hr
        subst hr
        exact AtRet.pureG [] [] rfl rfl ⟨rfl, rfl⟩
      · replace hr := cond_f h17 hr
        obtain ⟨v18, h19, hr⟩ := bind_some hr
        refine (sign_target_spec n v3.cls a4 c4 _ h19).atR [1] rfl rfl rfl ?_
        rintro _ _ ⟨rfl, rfl⟩
        refine AtGuard.mk (fun h20 => ?_) (fun h20 => ?_)
        · replace hr := cond_t h20 hr
          obtain ⟨v21, h22, hr⟩ := bind_some hr
          obtain ⟨h23, h24⟩ := idx_some h22
          refine at_index ttOK 0 rfl rfl rfl rfl h23 (Dc.encL_get h24) ?_
          intro a25 c25 _ _
          obtain ⟨v26, h27, hr⟩ := bind_some hr
          refine (sign_kind_spec n v21.cls a25 c25 _ h27).atR [4] rfl rfl rfl ?_
          rintro _ _ ⟨rfl, rfl⟩
          replace hr := Option.some.inj hr
          subst hr
          exact AtRet.pureG [] [] rfl rfl ⟨rfl, rfl⟩
        · replace hr := cond_f h20 hr
          replace hr := Option.some.inj hr
          subst hr
          exact AtRet.pureG [] [] rfl rfl ⟨rfl, rfl⟩
  · replace hr := cond_t h5 hr
    refine AtIf.mk (fun _ => ?_) (fun h => tf h)
    replace hr := Option.some.inj hr
    subst hr
    exact AtRet.pureG [] [] rfl rfl ⟨rfl, rfl⟩
mutual
def sign_Check : Nat → (List Dc) → Option (Int)
  | 0, _ => none
  | n + 1, v1 =>
    cond (decide (((Dc.encL v1).length : Int) > 100)) (
    some (2)) (
    sign_Check_L1 n v1 ([]) 0)
def sign_Check_L1 : Nat → (List Dc) → (List (ByteArray × Bool)) → Int → Option (Int)
  | 0, _, _, _ => none
  | n + 1, v1, v16, v17 =>
    cond (decide (v17 < ((Dc.encL v1).length : Int))) (
    (idx v1 v17).bind (fun v19 =>
    cond (decide ((0 : Int) ≤ (0 : Int) ∧ (0 : Int) ≤ v17 ∧ v17 ≤ ((Dc.encL v1).length : Int))) (
    cond ((mget v16 v19.name).getD false) (
    some (2)) (
    (sign_formed n (v1.take v17.toNat) v19).bind (fun v27 =>
    cond (!v27) (
    some (2)) (
    sign_Check_L1 n v1 (mput v19.name true v16) (IntKind.i64.wrap (v17 + 1)))))) none)) (
    some (0))
 end
theorem sign_Check_spec (n : Nat) (v1 : (List Dc)) (a2 : Option Addr) (c2 : Nat) (r : Int) (hr : sign_Check n v1 = some r) : Pure Tryz.prog (.val (.fn (.func 47) [] [])) [(.v (.slice a2 ((Dc.encL v1).length) c2))] [(.slice a2 ((Dc.encL v1).length) c2, .sl 6 (Dc.encL v1))] (fun r' out => r' = (.v (.int .i64 r)) ∧ out = []) := by
  rcases n with _ | n
  · exact no_some hr
  rw [sign_Check.eq_2] at hr
  refine spec_of_body (N := 27) (m := 0) (dt := fun _ => none) [] ttOK Tryz.func47 rfl Tryz.call47 Tryz.ntmps47 rfl rfl rfl mixed (by kernel_rfl) ?_
  refine AtIf.mk (fun h3 => ?_) (fun h3 => ?_)
  · replace hr := cond_t h3 hr
    replace hr := Option.some.inj hr
    subst hr
    exact AtRet.pureG [] [] rfl rfl ⟨rfl, rfl⟩
  · replace hr := cond_f h3 hr
    refine at_makeMapS ?_
    refine spec_of_body (N := 4) (m := 3) (dt := fun _ => none) [] ttOK Tryz.func111 rfl Tryz.call111 Tryz.ntmps111 rfl rfl rfl mixed (by kernel_rfl) ?_
    refine AtRet.gen _ (StLe.refl _) rfl rfl ?_
    refine AtRange.mk ⟨[(2, (.loc 0 0)), (3, (.loc 2 0))], ⟨rfl, rfl, trivial⟩, rfl, rfl, ⟨_, _, _, rfl, Tryz.call167⟩, ?_⟩
    refine spec_of_body (N := 20) (m := 5) (dt := drawsOf [(3, .node [0, 1, 2, 3, 4] [(5, .leaf [6])], [5], [])]) [] ttOK Tryz.func167 rfl Tryz.call167 Tryz.ntmps167 rfl rfl rfl mixed (by kernel_rfl) ?_
    refine AtLoop.mk ⟨Nat × (List (ByteArray × Bool)) × Int, fun x => [(0, (.yld 4)), (1, (.loc 3 0)), (5, (.v (.slice a2 ((Dc.encL v1).length) c2))), (6, (.v (.int .i64 ((Dc.encL v1).length : Int)))), (7, (.v (.int .i64 x.2.2)))], fun x => ⟨[.cells 34 [(.v (.int .i64 0))], .obj (mapS (encM Value.bool x.2.1)), .cells 162 [(.mp 1)], .cells 22 [(.v (.slice a2 ((Dc.encL v1).length) c2))], .lp ⟨27, [(2, (.loc 0 0)), (3, (.loc 2 0))], #[12, 13], rfAs Tryz.f47, rfBody Tryz.f47, .ready, none⟩], [], [(.slice a2 ((Dc.encL v1).length) c2, .sl 6 (Dc.encL v1))]⟩, fun x => sign_Check_L1 x.1 v1 x.2.1 x.2.2 = some r, fun x => x.1, (n, [], 0), hr, ⟨rfl, rfl, rfl, rfl, rfl, trivial⟩, (StLe.gen 5 [] [.old 0] rfl rfl rfl rfl rfl rfl rfl), fun x _ => ⟨rfl, rfl⟩, ?_⟩
    rintro ⟨n, v16, v17⟩ HH
    have hr : sign_Check_L1 n v1 v16 v17 = some r := HH
    rcases n with _ | n
    · exact no_some hr
    rw [sign_Check_L1.eq_2] at hr
    refine AtIf.mk (fun h18 => ?_) (fun h18 => ?_)
    · replace hr := cond_t h18 hr
      obtain ⟨v19, h20, hr⟩ := bind_some hr
      obtain ⟨h21, h22⟩ := idx_some h20
      refine at_index ttOK 0 rfl rfl rfl rfl h21 (Dc.encL_get h22) ?_
      intro a23 c23 _ _
      obtain ⟨h24, hr⟩ := cond_need hr
      refine at_sliceG ttOK 0 0 v17 (ds' := (Dc.encL (v1.take v17.toNat))) rfl rfl rfl (.inr ⟨rfl, rfl⟩) (.inl ⟨_, rfl⟩) h24 (by simp only [Dc.encL_eq]; exact sl_h ..) ?_
      intro a25 c25
      refine spec_of_round (N := 27) (m := 7) (dt := fun _ => none) [] ttOK rfl rfl rfl rfl rfl rfl mixed (by kernel_rfl) (by kernel_rfl) ?_
      refine at_lookupSG ttOK Value.bool false rfl Tryz.underlying9 rfl rfl rfl rfl ?_
      refine AtGuard.mk (fun h26 => ?_) (fun h26 => ?_)
      · replace hr := cond_f h26 hr
        obtain ⟨v27, h28, hr⟩ := bind_some hr
        refine (sign_formed_spec n (v1.take v17.toNat) v19 a25 c25 a23 c23 _ h28).atR [2, 1] rfl rfl rfl ?_
        rintro _ _ ⟨rfl, rfl⟩
        refine AtIf.mk (fun h29 => ?_) (fun h29 => ?_)
        · replace hr := cond_t h29 hr
          refine AtRet.gen _ (StLe.refl _) rfl rfl ?_
          refine AtIf.mk (fun _ => ?_) (fun h => tf h)
          refine AtRet.gen _ (StLe.refl _) rfl rfl ?_
          replace hr := Option.some.inj hr
          subst hr
          exact AtRet.pureG [] [] rfl rfl ⟨rfl, rfl⟩
        · replace hr := cond_f h29 hr
          refine at_mapPutS ttOK (.bool true) rfl Tryz.underlying9 rfl rfl rfl (fun _ => rfl) ?_
          rw [putS_enc]
          refine AtRet.gen _ (StLe.refl _) rfl rfl ?_
          refine AtIf.mk (fun h => ff h) (fun _ => ?_)
          exact ⟨(n, (mput v19.name true v16), (IntKind.i64.wrap (v17 + 1))), hr, Nat.lt_succ_self _, ⟨rfl, rfl, rfl, rfl, rfl, trivial⟩, (StLe.gen 5 [] [.old 0] rfl rfl rfl rfl rfl rfl rfl)⟩
      · replace hr := cond_t h26 hr
        refine AtIf.mk (fun _ => ?_) (fun h => tf h)
        refine AtRet.gen _ (StLe.refl _) rfl rfl ?_
        refine AtIf.mk (fun _ => ?_) (fun h => tf h)
        refine AtRet.gen _ (StLe.refl _) rfl rfl ?_
        replace hr := Option.some.inj hr
        subst hr
        exact AtRet.pureG [] [] rfl rfl ⟨rfl, rfl⟩
    · replace hr := cond_f h18 hr
      refine AtRet.gen _ (StLe.refl _) rfl rfl ?_
      replace hr := Option.some.inj hr
      subst hr
      exact AtRet.pureG [] [] rfl rfl ⟨rfl, rfl⟩
mutual
def order_ordered : Nat → Pt → Int → (List ByteArray) → Option (Od × Bool × (List ByteArray))
  | 0, _, _, _ => none
  | n + 1, v1, v4, v5 =>
    cond (v4 == 4) (
    some ((Od.mk 0 0 ([])), false, v5)) (
    cond (v1.op == 1) (
    cond (decide ((List.map D.str (v5 ++ [v1.name])).length ≤ 1000000)) (
    some ((Od.mk 1 (IntKind.i64.wrap (((List.map D.str (v5 ++ [v1.name])).length : Int) - 1)) ([])), true, (v5 ++ [v1.name]))) none) (
    cond (v1.op == 5) (
    cond (v1.op == 5) (
    cond (v1.op == 6) (
    cond ((((Pt.encL v1.parts).length : Int) == 0) || (decide (((Pt.encL v1.parts).length : Int) > 8))) (
    some ((Od.mk 3 0 ([])), false, v5)) (
    order_ordered_L1 n v1 v4 v5 (Od.mk 3 0 ([])) 0)) (
    cond ((((Pt.encL v1.parts).length : Int) == 0) || (decide (((Pt.encL v1.parts).length : Int) > 8))) (
    some ((Od.mk 2 0 ([])), false, v5)) (
    order_ordered_L1 n v1 v4 v5 (Od.mk 2 0 ([])) 0))) (
    some ((Od.mk 0 0 ([])), false, v5))) (
    cond (v1.op == 6) (
    cond (v1.op == 6) (
    cond ((((Pt.encL v1.parts).length : Int) == 0) || (decide (((Pt.encL v1.parts).length : Int) > 8))) (
    some ((Od.mk 3 0 ([])), false, v5)) (
    order_ordered_L1 n v1 v4 v5 (Od.mk 3 0 ([])) 0)) (
    cond ((((Pt.encL v1.parts).length : Int) == 0) || (decide (((Pt.encL v1.parts).length : Int) > 8))) (
    some ((Od.mk 2 0 ([])), false, v5)) (
    order_ordered_L1 n v1 v4 v5 (Od.mk 2 0 ([])) 0))) (
    some ((Od.mk 0 0 ([])), false, v5)))))
def order_ordered_L1 : Nat → Pt → Int → (List ByteArray) → Od → Int → Option (Od × Bool × (List ByteArray))
  | 0, _, _, _, _, _ => none
  | n + 1, v1, v4, v31, v33, v35 =>
    cond (decide (v35 < ((Pt.encL v1.parts).length : Int))) (
    (idx v1.parts v35).bind (fun v37 =>
    (order_ordered n v37 (IntKind.i64.wrap (v4 + 1)) v31).bind (fun v43 =>
    cond (!v43.2.1) (
    some (v33, false, v43.2.2)) (
    cond (decide ((Od.encL (v33.parts ++ [v43.1])).length ≤ 1000000)) (
    order_ordered_L1 n v1 v4 v43.2.2 (Od.mk v33.op v33.n (v33.parts ++ [v43.1])) (IntKind.i64.wrap (v35 + 1))) none)))) (
    some (v33, true, v31))
 end
theorem order_ordered_specN : ∀ (N : Nat), (∀ (n : Nat), n ≤ N → ∀ (v1 : Pt) (v4 : Int) (v5 : (List ByteArray)) (a2 : Option Addr) (c2 : Nat) (a3 : Option Addr) (c3 : Nat) (a6 : Option Addr) (c6 : Nat) (r : Od × Bool × (List ByteArray)), order_ordered n v1 v4 v5 = some r → Meets Tryz.prog (.val (.fn (.func 49) [] [])) [(.agg [(.v (.int .i64 v1.op)), (.v (.string v1.sign)), (.v (.string v1.name)), (.v (.int .i64 v1.n)), (.v (.int .i64 v1.raw.op)), (.v (.string v1.raw.name)), (.v (.slice a2 ((Rw.encL v1.raw.args).length) c2)), (.v (.slice a3 ((Pt.encL v1.parts).length) c3))]), (.loc 0 0), (.v (.int .i64 v4))] ⟨[.cells 95 [(.v (.slice a6 ((List.map D.str v5).length) c6))]], [⟨.slice a6 ((List.map D.str v5).length) c6, 1, 9, (List.map D.str v5)⟩], [(.slice a2 ((Rw.encL v1.raw.args).length) c2, .sl 3 (Rw.encL v1.raw.args)), (.slice a3 ((Pt.encL v1.parts).length) c3, .sl 8 (Pt.encL v1.parts))]⟩ (fun o S' => ∃ (b1 : Option Addr) (d1 : Nat), ∃ (b2 : Option Addr) (d2 : Nat), o = .ret (.tup [(.agg [(.v (.int .i64 r.1.op)), (.v (.int .i64 r.1.n)), (.v (.slice b1 ((Od.encL r.1.parts).length) d1))]), (.v (.bool r.2.1))]) ∧ S' = ⟨[.cells 95 [(.v (.slice b2 ((List.map D.str r.2.2).length) d2))]], [⟨.slice b2 ((List.map D.str r.2.2).length) d2, 1, 9, (List.map D.str r.2.2)⟩], [(.slice b1 ((Od.encL r.1.parts).length) d1, .sl 3 (Od.encL r.1.parts))]⟩)) := by
  intro N
  induction N with
  | zero =>
    intro n hn v1 v4 v5 a2 c2 a3 c3 a6 c6 r hr; obtain rfl : n = 0 := (by omega); exact no_some hr
  | succ N ih =>
    intro n hn v1 v4 v5 a2 c2 a3 c3 a6 c6 r hr
    rcases n with _ | n
    · exact no_some hr
    replace hn : n ≤ N := by omega
    rw [order_ordered.eq_2] at hr
    refine spec_of_body (N := 81) (m := 1) (dt := drawsOf [(5, .node [0, 1, 2, 3, 4, 5] [(6, .node [] [(7, .node [8] [(9, .leaf [])])])], [9], [])]) [] ttOK Tryz.func49 rfl Tryz.call49 Tryz.ntmps49 rfl rfl rfl mixed (by kernel_rfl) ?_
    refine AtIf.mk (fun h7 => ?_) (fun h7 => ?_)
    · replace hr := cond_t h7 hr
      replace hr := Option.some.inj hr
      subst hr
      exact AtRet.gen ⟨[.cells 95 [(.v (.slice a6 ((List.map D.str v5).length) c6))]], [⟨.slice a6 ((List.map D.str v5).length) c6, 1, 9, (List.map D.str v5)⟩], [(.slice none 0 0, .sl 3 [])]⟩ (StLe.gen 1 [.old 0] [.nil 3] rfl rfl rfl rfl rfl rfl rfl) rfl rfl ⟨none, 0, a6, c6, rfl, rfl⟩
    · replace hr := cond_f h7 hr
      refine AtIf.mk (fun h8 => ?_) (fun h8 => ?_)
      · replace hr := cond_t h8 hr
        refine at_buildG (n := 1) ttOK 16 [.str v1.name] (ds' := (List.map D.str ([v1.name]))) rfl (by kernel_rfl) ⟨⟨rfl, rfl, rfl, rfl⟩, trivial⟩ rfl rfl (by decide) (by decide) ?_
        intro a9
        refine ⟨fun _ _ h => h, ?_⟩
        obtain ⟨h10, hr⟩ := cond_need hr
        refine at_appendG (ds' := (List.map D.str (v5 ++ [v1.name]))) ttOK 16 0 2 rfl (by kernel_rfl) rfl rfl rfl rfl (by simp only [List.map_append]) h10 (by decide) ?_
        intro a11 c11
        refine ⟨fun _ _ h => h, ?_⟩
        replace hr := Option.some.inj hr
        subst hr
        exact AtRet.gen ⟨[.cells 95 [(.v (.slice a11 ((List.map D.str (v5 ++ [v1.name])).length) c11))]], [⟨.slice a11 ((List.map D.str (v5 ++ [v1.name])).length) c11, 1, 9, (List.map D.str (v5 ++ [v1.name]))⟩], [(.slice none 0 0, .sl 3 [])]⟩ (StLe.gen 1 [.old 0] [.nil 3] rfl rfl rfl rfl rfl rfl rfl) rfl rfl ⟨none, 0, a11, c11, rfl, rfl⟩
      · replace hr := cond_f h8 hr
        refine AtIf.mk (fun h12 => ?_) (fun h12 => ?_)
        · replace hr := cond_t h12 hr
          refine AtIf.mk (fun h13 => ?_) (fun h13 => ?_)
          · replace hr := cond_t h13 hr
            refine AtIf.mk (fun h14 => ?_) (fun h14 => ?_)
            · replace hr := cond_t h14 hr
              refine AtIf.mk (fun h15 => ?_) (fun h15 => ?_)
              · replace hr := cond_t h15 hr
                replace hr := Option.some.inj hr
                subst hr
                exact AtRet.gen ⟨[.cells 95 [(.v (.slice a6 ((List.map D.str v5).length) c6))]], [⟨.slice a6 ((List.map D.str v5).length) c6, 1, 9, (List.map D.str v5)⟩], [(.slice none 0 0, .sl 3 [])]⟩ (StLe.gen 1 [.old 0] [.nil 3] rfl rfl rfl rfl rfl rfl rfl) rfl rfl ⟨none, 0, a6, c6, rfl, rfl⟩
              · replace hr := cond_f h15 hr
                refine AtLoop.mk ⟨Nat × (List ByteArray) × Option Addr × Nat × Od × Option Addr × Nat × Int, fun x => [(1, (.loc 0 0)), (2, (.v (.int .i64 v4))), (6, (.loc 2 0)), (8, (.loc 3 0)), (55, (.v (.slice a3 ((Pt.encL v1.parts).length) c3))), (56, (.v (.int .i64 ((Pt.encL v1.parts).length : Int)))), (57, (.v (.int .i64 x.2.2.2.2.2.2.2)))], fun x => ⟨[.cells 95 [(.v (.slice x.2.2.1 ((List.map D.str x.2.1).length) x.2.2.2.1))], .cells 94 [(.v (.int .i64 v1.op)), (.v (.string v1.sign)), (.v (.string v1.name)), (.v (.int .i64 v1.n)), (.v (.int .i64 v1.raw.op)), (.v (.string v1.raw.name)), (.v (.slice a2 ((Rw.encL v1.raw.args).length) c2)), (.v (.slice a3 ((Pt.encL v1.parts).length) c3))], .cells 31 [(.v (.int .i64 0)), (.v (.int .i64 0)), (.v (.slice none 0 0))], .cells 31 [(.v (.int .i64 x.2.2.2.2.1.op)), (.v (.int .i64 x.2.2.2.2.1.n)), (.v (.slice x.2.2.2.2.2.1 ((Od.encL x.2.2.2.2.1.parts).length) x.2.2.2.2.2.2.1))]], [⟨.slice x.2.2.1 ((List.map D.str x.2.1).length) x.2.2.2.1, 1, 9, (List.map D.str x.2.1)⟩, ⟨.slice x.2.2.2.2.2.1 ((Od.encL x.2.2.2.2.1.parts).length) x.2.2.2.2.2.2.1, 3, 31, (Od.encL x.2.2.2.2.1.parts)⟩], [(.slice a2 ((Rw.encL v1.raw.args).length) c2, .sl 3 (Rw.encL v1.raw.args)), (.slice a3 ((Pt.encL v1.parts).length) c3, .sl 8 (Pt.encL v1.parts))]⟩, fun x => x.1 ≤ N ∧ order_ordered_L1 x.1 v1 v4 x.2.1 x.2.2.2.2.1 x.2.2.2.2.2.2.2 = some r, fun x => x.1, (n, v5, a6, c6, (Od.mk 3 0 ([])), none, 0, 0), ⟨by omega, hr⟩, ⟨rfl, rfl, rfl, rfl, rfl, rfl, rfl, trivial⟩, (StLe.gen 4 [.old 0, .nil 3 31] [.old 0, .old 1] rfl rfl rfl rfl rfl rfl rfl), fun x _ => ⟨rfl, rfl⟩, ?_⟩
                rintro ⟨n, v31, a32, c32, v33, a34, c34, v35⟩ HH
                obtain ⟨hn, hr⟩ : n ≤ N ∧ order_ordered_L1 n v1 v4 v31 v33 v35 = some r := HH
                rcases n with _ | n
                · exact no_some hr
                rw [order_ordered_L1.eq_2] at hr
                refine AtIf.mk (fun h36 => ?_) (fun h36 => ?_)
                · replace hr := cond_t h36 hr
                  obtain ⟨v37, h38, hr⟩ := bind_some hr
                  obtain ⟨h39, h40⟩ := idx_some h38
                  refine at_index ttOK 1 rfl rfl rfl rfl h39 (Pt.encL_get h40) ?_
                  intro a41 c41 _ _ a42 c42 _ _
                  obtain ⟨v43, h44, hr⟩ := bind_some hr
                  refine (ih n (by omega) v37 (IntKind.i64.wrap (v4 + 1)) v31 a41 c41 a42 c42 a32 c32 _ h44).frameRA [0] [0] [2, 3] rfl rfl rfl rfl rfl rfl rfl rfl rfl ?_
                  rintro _ _ ⟨a45, c45, a46, c46, rfl, rfl⟩
                  refine ⟨rfl, [.cells 95 [(.v (.slice a46 ((List.map D.str v43.2.2).length) c46))]], rfl, ?_⟩
                  refine AtIf.mk (fun h47 => ?_) (fun h47 => ?_)
                  · replace hr := cond_t h47 hr
                    replace hr := Option.some.inj hr
                    subst hr
                    exact AtRet.gen ⟨[.cells 95 [(.v (.slice a46 ((List.map D.str v43.2.2).length) c46))]], [⟨.slice a46 ((List.map D.str v43.2.2).length) c46, 1, 9, (List.map D.str v43.2.2)⟩], [(.slice a34 ((Od.encL v33.parts).length) c34, .sl 3 (Od.encL v33.parts))]⟩ (StLe.gen 1 [.old 0] [.froz 1] rfl rfl rfl rfl rfl rfl rfl) rfl rfl ⟨a34, c34, a46, c46, rfl, rfl⟩
                  · replace hr := cond_f h47 hr
                    refine at_buildG (n := 1) ttOK 40 [.agg [.int .i64 v43.1.op, .int .i64 v43.1.n, .sl 3 (Od.encL v43.1.parts)]] (ds' := (Od.encL ([v43.1]))) rfl (by kernel_rfl) ⟨⟨rfl, rfl, rfl, ⟨[(.v (.int .i64 v43.1.op))], _, rfl, rfl, ⟨[(.v (.int .i64 v43.1.n))], _, rfl, rfl, ⟨[(.v (.slice a45 ((Od.encL v43.1.parts).length) c45))], _, rfl, (.inl ⟨_, rfl, nth_mem (j := 4) rfl⟩), rfl⟩⟩⟩⟩, trivial⟩ rfl (by simp only [Od.encL_eq, List.map_cons, List.map_nil, Od.enc_eq]) (by decide) (by decide) ?_
                    intro a48
                    obtain ⟨h49, hr⟩ := cond_need hr
                    refine at_appendG (ds' := (Od.encL (v33.parts ++ [v43.1]))) ttOK 40 1 5 rfl (by kernel_rfl) rfl rfl rfl rfl (by simp only [Od.encL_eq, List.map_append]) h49 (by decide) ?_
                    intro a50 c50
                    exact ⟨(n, v43.2.2, a46, c46, (Od.mk v33.op v33.n (v33.parts ++ [v43.1])), a50, c50, (IntKind.i64.wrap (v35 + 1))), ⟨by omega, hr⟩, Nat.lt_succ_self _, ⟨rfl, rfl, rfl, rfl, rfl, rfl, rfl, trivial⟩, (StLe.gen 4 [.old 0, .old 1] [.old 0, .old 1] rfl rfl rfl rfl rfl rfl rfl)⟩
                · replace hr := cond_f h36 hr
                  replace hr := Option.some.inj hr
                  subst hr
                  exact AtRet.gen ⟨[.cells 95 [(.v (.slice a32 ((List.map D.str v31).length) c32))]], [⟨.slice a32 ((List.map D.str v31).length) c32, 1, 9, (List.map D.str v31)⟩], [(.slice a34 ((Od.encL v33.parts).length) c34, .sl 3 (Od.encL v33.parts))]⟩ (StLe.gen 1 [.old 0] [.froz 1] rfl rfl rfl rfl rfl rfl rfl) rfl rfl ⟨a34, c34, a32, c32, rfl, rfl⟩
            · replace hr := cond_f h14 hr
              refine AtIf.mk (fun h51 => ?_) (fun h51 => ?_)
              · replace hr := cond_t h51 hr
                replace hr := Option.some.inj hr
                subst hr
                exact AtRet.gen ⟨[.cells 95 [(.v (.slice a6 ((List.map D.str v5).length) c6))]], [⟨.slice a6 ((List.map D.str v5).length) c6, 1, 9, (List.map D.str v5)⟩], [(.slice none 0 0, .sl 3 [])]⟩ (StLe.gen 1 [.old 0] [.nil 3] rfl rfl rfl rfl rfl rfl rfl) rfl rfl ⟨none, 0, a6, c6, rfl, rfl⟩
              · replace hr := cond_f h51 hr
                refine AtLoop.mk ⟨Nat × (List ByteArray) × Option Addr × Nat × Od × Option Addr × Nat × Int, fun x => [(1, (.loc 0 0)), (2, (.v (.int .i64 v4))), (6, (.loc 2 0)), (8, (.loc 3 0)), (55, (.v (.slice a3 ((Pt.encL v1.parts).length) c3))), (56, (.v (.int .i64 ((Pt.encL v1.parts).length : Int)))), (57, (.v (.int .i64 x.2.2.2.2.2.2.2)))], fun x => ⟨[.cells 95 [(.v (.slice x.2.2.1 ((List.map D.str x.2.1).length) x.2.2.2.1))], .cells 94 [(.v (.int .i64 v1.op)), (.v (.string v1.sign)), (.v (.string v1.name)), (.v (.int .i64 v1.n)), (.v (.int .i64 v1.raw.op)), (.v (.string v1.raw.name)), (.v (.slice a2 ((Rw.encL v1.raw.args).length) c2)), (.v (.slice a3 ((Pt.encL v1.parts).length) c3))], .cells 31 [(.v (.int .i64 0)), (.v (.int .i64 0)), (.v (.slice none 0 0))], .cells 31 [(.v (.int .i64 x.2.2.2.2.1.op)), (.v (.int .i64 x.2.2.2.2.1.n)), (.v (.slice x.2.2.2.2.2.1 ((Od.encL x.2.2.2.2.1.parts).length) x.2.2.2.2.2.2.1))]], [⟨.slice x.2.2.1 ((List.map D.str x.2.1).length) x.2.2.2.1, 1, 9, (List.map D.str x.2.1)⟩, ⟨.slice x.2.2.2.2.2.1 ((Od.encL x.2.2.2.2.1.parts).length) x.2.2.2.2.2.2.1, 3, 31, (Od.encL x.2.2.2.2.1.parts)⟩], [(.slice a2 ((Rw.encL v1.raw.args).length) c2, .sl 3 (Rw.encL v1.raw.args)), (.slice a3 ((Pt.encL v1.parts).length) c3, .sl 8 (Pt.encL v1.parts))]⟩, fun x => x.1 ≤ N ∧ order_ordered_L1 x.1 v1 v4 x.2.1 x.2.2.2.2.1 x.2.2.2.2.2.2.2 = some r, fun x => x.1, (n, v5, a6, c6, (Od.mk 2 0 ([])), none, 0, 0), ⟨by omega, hr⟩, ⟨rfl, rfl, rfl, rfl, rfl, rfl, rfl, trivial⟩, (StLe.gen 4 [.old 0, .nil 3 31] [.old 0, .old 1] rfl rfl rfl rfl rfl rfl rfl), fun x _ => ⟨rfl, rfl⟩, ?_⟩
                rintro ⟨n, v67, a68, c68, v69, a70, c70, v71⟩ HH
                obtain ⟨hn, hr⟩ : n ≤ N ∧ order_ordered_L1 n v1 v4 v67 v69 v71 = some r := HH
                rcases n with _ | n
                · exact no_some hr
                rw [order_ordered_L1.eq_2] at hr
                refine AtIf.mk (fun h72 => ?_) (fun h72 => ?_)
                · replace hr := cond_t h72 hr
                  obtain ⟨v73, h74, hr⟩ := bind_some hr
                  obtain ⟨h75, h76⟩ := idx_some h74
                  refine at_index ttOK 1 rfl rfl rfl rfl h75 (Pt.encL_get h76) ?_
                  intro a77 c77 _ _ a78 c78 _ _
                  obtain ⟨v79, h80, hr⟩ := bind_some hr
                  refine (ih n (by omega) v73 (IntKind.i64.wrap (v4 + 1)) v67 a77 c77 a78 c78 a68 c68 _ h80).frameRA [0] [0] [2, 3] rfl rfl rfl rfl rfl rfl rfl rfl rfl ?_
                  rintro _ _ ⟨a81, c81, a82, c82, rfl, rfl⟩
                  refine ⟨rfl, [.cells 95 [(.v (.slice a82 ((List.map D.str v79.2.2).length) c82))]], rfl, ?_⟩
                  refine AtIf.mk (fun h83 => ?_) (fun h83 => ?_)
                  · replace hr := cond_t h83 hr
                    replace hr := Option.some.inj hr
                    subst hr
                    exact AtRet.gen ⟨[.cells 95 [(.v (.slice a82 ((List.map D.str v79.2.2).length) c82))]], [⟨.slice a82 ((List.map D.str v79.2.2).length) c82, 1, 9, (List.map D.str v79.2.2)⟩], [(.slice a70 ((Od.encL v69.parts).length) c70, .sl 3 (Od.encL v69.parts))]⟩ (StLe.gen 1 [.old 0] [.froz 1] rfl rfl rfl rfl rfl rfl rfl) rfl rfl ⟨a70, c70, a82, c82, rfl, rfl⟩
                  · replace hr := cond_f h83 hr
                    refine at_buildG (n := 1) ttOK 40 [.agg [.int .i64 v79.1.op, .int .i64 v79.1.n, .sl 3 (Od.encL v79.1.parts)]] (ds' := (Od.encL ([v79.1]))) rfl (by kernel_rfl) ⟨⟨rfl, rfl, rfl, ⟨[(.v (.int .i64 v79.1.op))], _, rfl, rfl, ⟨[(.v (.int .i64 v79.1.n))], _, rfl, rfl, ⟨[(.v (.slice a81 ((Od.encL v79.1.parts).length) c81))], _, rfl, (.inl ⟨_, rfl, nth_mem (j := 4) rfl⟩), rfl⟩⟩⟩⟩, trivial⟩ rfl (by simp only [Od.encL_eq, List.map_cons, List.map_nil, Od.enc_eq]) (by decide) (by decide) ?_
                    intro a84
                    obtain ⟨h85, hr⟩ := cond_need hr
                    refine at_appendG (ds' := (Od.encL (v69.parts ++ [v79.1]))) ttOK 40 1 5 rfl (by kernel_rfl) rfl rfl rfl rfl (by simp only [Od.encL_eq, List.map_append]) h85 (by decide) ?_
                    intro a86 c86
                    exact ⟨(n, v79.2.2, a82, c82, (Od.mk v69.op v69.n (v69.parts ++ [v79.1])), a86, c86, (IntKind.i64.wrap (v71 + 1))), ⟨by omega, hr⟩, Nat.lt_succ_self _, ⟨rfl, rfl, rfl, rfl, rfl, rfl, rfl, trivial⟩, (StLe.gen 4 [.old 0, .old 1] [.old 0, .old 1] rfl rfl rfl rfl rfl rfl rfl)⟩
                · replace hr := cond_f h72 hr
                  replace hr := Option.some.inj hr
                  subst hr
                  exact AtRet.gen ⟨[.cells 95 [(.v (.slice a68 ((List.map D.str v67).length) c68))]], [⟨.slice a68 ((List.map D.str v67).length) c68, 1, 9, (List.map D.str v67)⟩], [(.slice a70 ((Od.encL v69.parts).length) c70, .sl 3 (Od.encL v69.parts))]⟩ (StLe.gen 1 [.old 0] [.froz 1] rfl rfl rfl rfl rfl rfl rfl) rfl rfl ⟨a70, c70, a68, c68, rfl, rfl⟩
          · replace hr := cond_f h13 hr
            replace hr := Option.some.inj hr
            subst hr
            exact AtRet.gen ⟨[.cells 95 [(.v (.slice a6 ((List.map D.str v5).length) c6))]], [⟨.slice a6 ((List.map D.str v5).length) c6, 1, 9, (List.map D.str v5)⟩], [(.slice none 0 0, .sl 3 [])]⟩ (StLe.gen 1 [.old 0] [.nil 3] rfl rfl rfl rfl rfl rfl rfl) rfl rfl ⟨none, 0, a6, c6, rfl, rfl⟩
        · replace hr := cond_f h12 hr
          refine AtIf.mk (fun h87 => ?_) (fun h87 => ?_)
          · replace hr := cond_t h87 hr
            refine AtIf.mk (fun h88 => ?_) (fun h88 => ?_)
            · replace hr := cond_t h88 hr
              refine AtIf.mk (fun h89 => ?_) (fun h89 => ?_)
              · replace hr := cond_t h89 hr
                replace hr := Option.some.inj hr
                subst hr
                exact AtRet.gen ⟨[.cells 95 [(.v (.slice a6 ((List.map D.str v5).length) c6))]], [⟨.slice a6 ((List.map D.str v5).length) c6, 1, 9, (List.map D.str v5)⟩], [(.slice none 0 0, .sl 3 [])]⟩ (StLe.gen 1 [.old 0] [.nil 3] rfl rfl rfl rfl rfl rfl rfl) rfl rfl ⟨none, 0, a6, c6, rfl, rfl⟩
              · replace hr := cond_f h89 hr
                refine AtLoop.mk ⟨Nat × (List ByteArray) × Option Addr × Nat × Od × Option Addr × Nat × Int, fun x => [(1, (.loc 0 0)), (2, (.v (.int .i64 v4))), (6, (.loc 2 0)), (8, (.loc 3 0)), (55, (.v (.slice a3 ((Pt.encL v1.parts).length) c3))), (56, (.v (.int .i64 ((Pt.encL v1.parts).length : Int)))), (57, (.v (.int .i64 x.2.2.2.2.2.2.2)))], fun x => ⟨[.cells 95 [(.v (.slice x.2.2.1 ((List.map D.str x.2.1).length) x.2.2.2.1))], .cells 94 [(.v (.int .i64 v1.op)), (.v (.string v1.sign)), (.v (.string v1.name)), (.v (.int .i64 v1.n)), (.v (.int .i64 v1.raw.op)), (.v (.string v1.raw.name)), (.v (.slice a2 ((Rw.encL v1.raw.args).length) c2)), (.v (.slice a3 ((Pt.encL v1.parts).length) c3))], .cells 31 [(.v (.int .i64 0)), (.v (.int .i64 0)), (.v (.slice none 0 0))], .cells 31 [(.v (.int .i64 x.2.2.2.2.1.op)), (.v (.int .i64 x.2.2.2.2.1.n)), (.v (.slice x.2.2.2.2.2.1 ((Od.encL x.2.2.2.2.1.parts).length) x.2.2.2.2.2.2.1))]], [⟨.slice x.2.2.1 ((List.map D.str x.2.1).length) x.2.2.2.1, 1, 9, (List.map D.str x.2.1)⟩, ⟨.slice x.2.2.2.2.2.1 ((Od.encL x.2.2.2.2.1.parts).length) x.2.2.2.2.2.2.1, 3, 31, (Od.encL x.2.2.2.2.1.parts)⟩], [(.slice a2 ((Rw.encL v1.raw.args).length) c2, .sl 3 (Rw.encL v1.raw.args)), (.slice a3 ((Pt.encL v1.parts).length) c3, .sl 8 (Pt.encL v1.parts))]⟩, fun x => x.1 ≤ N ∧ order_ordered_L1 x.1 v1 v4 x.2.1 x.2.2.2.2.1 x.2.2.2.2.2.2.2 = some r, fun x => x.1, (n, v5, a6, c6, (Od.mk 3 0 ([])), none, 0, 0), ⟨by omega, hr⟩, ⟨rfl, rfl, rfl, rfl, rfl, rfl, rfl, trivial⟩, (StLe.gen 4 [.old 0, .nil 3 31] [.old 0, .old 1] rfl rfl rfl rfl rfl rfl rfl), fun x _ => ⟨rfl, rfl⟩, ?_⟩
                rintro ⟨n, v105, a106, c106, v107, a108, c108, v109⟩ HH
                obtain ⟨hn, hr⟩ : n ≤ N ∧ order_ordered_L1 n v1 v4 v105 v107 v109 = some r := HH
                rcases n with _ | n
                · exact no_some hr
                rw [order_ordered_L1.eq_2] at hr
                refine AtIf.mk (fun h110 => ?_) (fun h110 => ?_)
                · replace hr := cond_t h110 hr
                  obtain ⟨v111, h112, hr⟩ := bind_some hr
                  obtain ⟨h113, h114⟩ := idx_some h112
                  refine at_index ttOK 1 rfl rfl rfl rfl h113 (Pt.encL_get h114) ?_
                  intro a115 c115 _ _ a116 c116 _ _
                  obtain ⟨v117, h118, hr⟩ := bind_some hr
                  refine (ih n (by omega) v111 (IntKind.i64.wrap (v4 + 1)) v105 a115 c115 a116 c116 a106 c106 _ h118).frameRA [0] [0] [2, 3] rfl rfl rfl rfl rfl rfl rfl rfl rfl ?_
                  rintro _ _ ⟨a119, c119, a120, c120, rfl, rfl⟩
                  refine ⟨rfl, [.cells 95 [(.v (.slice a120 ((List.map D.str v117.2.2).length) c120))]], rfl, ?_⟩
                  refine AtIf.mk (fun h121 => ?_) (fun h121 => ?_)
                  · replace hr := cond_t h121 hr
                    replace hr := Option.some.inj hr
                    subst hr
                    exact AtRet.gen ⟨[.cells 95 [(.v (.slice a120 ((List.map D.str v117.2.2).length) c120))]], [⟨.slice a120 ((List.map D.str v117.2.2).length) c120, 1, 9, (List.map D.str v117.2.2)⟩], [(.slice a108 ((Od.encL v107.parts).length) c108, .sl 3 (Od.encL v107.parts))]⟩ (StLe.gen 1 [.old 0] [.froz 1] rfl rfl rfl rfl rfl rfl rfl) rfl rfl ⟨a108, c108, a120, c120, rfl, rfl⟩
                  · replace hr := cond_f h121 hr
                    refine at_buildG (n := 1) ttOK 40 [.agg [.int .i64 v117.1.op, .int .i64 v117.1.n, .sl 3 (Od.encL v117.1.parts)]] (ds' := (Od.encL ([v117.1]))) rfl (by kernel_rfl) ⟨⟨rfl, rfl, rfl, ⟨[(.v (.int .i64 v117.1.op))], _, rfl, rfl, ⟨[(.v (.int .i64 v117.1.n))], _, rfl, rfl, ⟨[(.v (.slice a119 ((Od.encL v117.1.parts).length) c119))], _, rfl, (.inl ⟨_, rfl, nth_mem (j := 4) rfl⟩), rfl⟩⟩⟩⟩, trivial⟩ rfl (by simp only [Od.encL_eq, List.map_cons, List.map_nil, Od.enc_eq]) (by decide) (by decide) ?_
                    intro a122
                    obtain ⟨h123, hr⟩ := cond_need hr
                    refine at_appendG (ds' := (Od.encL (v107.parts ++ [v117.1]))) ttOK 40 1 5 rfl (by kernel_rfl) rfl rfl rfl rfl (by simp only [Od.encL_eq, List.map_append]) h123 (by decide) ?_
                    intro a124 c124
                    exact ⟨(n, v117.2.2, a120, c120, (Od.mk v107.op v107.n (v107.parts ++ [v117.1])), a124, c124, (IntKind.i64.wrap (v109 + 1))), ⟨by omega, hr⟩, Nat.lt_succ_self _, ⟨rfl, rfl, rfl, rfl, rfl, rfl, rfl, trivial⟩, (StLe.gen 4 [.old 0, .old 1] [.old 0, .old 1] rfl rfl rfl rfl rfl rfl rfl)⟩
                · replace hr := cond_f h110 hr
                  replace hr := Option.some.inj hr
                  subst hr
                  exact AtRet.gen ⟨[.cells 95 [(.v (.slice a106 ((List.map D.str v105).length) c106))]], [⟨.slice a106 ((List.map D.str v105).length) c106, 1, 9, (List.map D.str v105)⟩], [(.slice a108 ((Od.encL v107.parts).length) c108, .sl 3 (Od.encL v107.parts))]⟩ (StLe.gen 1 [.old 0] [.froz 1] rfl rfl rfl rfl rfl rfl rfl) rfl rfl ⟨a108, c108, a106, c106, rfl, rfl⟩
            · replace hr := cond_f h88 hr
              refine AtIf.mk (fun h125 => ?_) (fun h125 => ?_)
              · replace hr := cond_t h125 hr
                replace hr := Option.some.inj hr
                subst hr
                exact AtRet.gen ⟨[.cells 95 [(.v (.slice a6 ((List.map D.str v5).length) c6))]], [⟨.slice a6 ((List.map D.str v5).length) c6, 1, 9, (List.map D.str v5)⟩], [(.slice none 0 0, .sl 3 [])]⟩ (StLe.gen 1 [.old 0] [.nil 3] rfl rfl rfl rfl rfl rfl rfl) rfl rfl ⟨none, 0, a6, c6, rfl, rfl⟩
              · replace hr := cond_f h125 hr
                refine AtLoop.mk ⟨Nat × (List ByteArray) × Option Addr × Nat × Od × Option Addr × Nat × Int, fun x => [(1, (.loc 0 0)), (2, (.v (.int .i64 v4))), (6, (.loc 2 0)), (8, (.loc 3 0)), (55, (.v (.slice a3 ((Pt.encL v1.parts).length) c3))), (56, (.v (.int .i64 ((Pt.encL v1.parts).length : Int)))), (57, (.v (.int .i64 x.2.2.2.2.2.2.2)))], fun x => ⟨[.cells 95 [(.v (.slice x.2.2.1 ((List.map D.str x.2.1).length) x.2.2.2.1))], .cells 94 [(.v (.int .i64 v1.op)), (.v (.string v1.sign)), (.v (.string v1.name)), (.v (.int .i64 v1.n)), (.v (.int .i64 v1.raw.op)), (.v (.string v1.raw.name)), (.v (.slice a2 ((Rw.encL v1.raw.args).length) c2)), (.v (.slice a3 ((Pt.encL v1.parts).length) c3))], .cells 31 [(.v (.int .i64 0)), (.v (.int .i64 0)), (.v (.slice none 0 0))], .cells 31 [(.v (.int .i64 x.2.2.2.2.1.op)), (.v (.int .i64 x.2.2.2.2.1.n)), (.v (.slice x.2.2.2.2.2.1 ((Od.encL x.2.2.2.2.1.parts).length) x.2.2.2.2.2.2.1))]], [⟨.slice x.2.2.1 ((List.map D.str x.2.1).length) x.2.2.2.1, 1, 9, (List.map D.str x.2.1)⟩, ⟨.slice x.2.2.2.2.2.1 ((Od.encL x.2.2.2.2.1.parts).length) x.2.2.2.2.2.2.1, 3, 31, (Od.encL x.2.2.2.2.1.parts)⟩], [(.slice a2 ((Rw.encL v1.raw.args).length) c2, .sl 3 (Rw.encL v1.raw.args)), (.slice a3 ((Pt.encL v1.parts).length) c3, .sl 8 (Pt.encL v1.parts))]⟩, fun x => x.1 ≤ N ∧ order_ordered_L1 x.1 v1 v4 x.2.1 x.2.2.2.2.1 x.2.2.2.2.2.2.2 = some r, fun x => x.1, (n, v5, a6, c6, (Od.mk 2 0 ([])), none, 0, 0), ⟨by omega, hr⟩, ⟨rfl, rfl, rfl, rfl, rfl, rfl, rfl, trivial⟩, (StLe.gen 4 [.old 0, .nil 3 31] [.old 0, .old 1] rfl rfl rfl rfl rfl rfl rfl), fun x _ => ⟨rfl, rfl⟩, ?_⟩
                rintro ⟨n, v141, a142, c142, v143, a144, c144, v145⟩ HH
                obtain ⟨hn, hr⟩ : n ≤ N ∧ order_ordered_L1 n v1 v4 v141 v143 v145 = some r := HH
                rcases n with _ | n
                · exact no_some hr
                rw [order_ordered_L1.eq_2] at hr
                refine AtIf.mk (fun h146 => ?_) (fun h146 => ?_)
                · replace hr := cond_t h146 hr
                  obtain ⟨v147, h148, hr⟩ := bind_some hr
                  obtain ⟨h149, h150⟩ := idx_some h148
                  refine at_index ttOK 1 rfl rfl rfl rfl h149 (Pt.encL_get h150) ?_
                  intro a151 c151 _ _ a152 c152 _ _
                  obtain ⟨v153, h154, hr⟩ := bind_some hr
                  refine (ih n (by omega) v147 (IntKind.i64.wrap (v4 + 1)) v141 a151 c151 a152 c152 a142 c142 _ h154).frameRA [0] [0] [2, 3] rfl rfl rfl rfl rfl rfl rfl rfl rfl ?_
                  rintro _ _ ⟨a155, c155, a156, c156, rfl, rfl⟩
                  refine ⟨rfl, [.cells 95 [(.v (.slice a156 ((List.map D.str v153.2.2).length) c156))]], rfl, ?_⟩
                  refine AtIf.mk (fun h157 => ?_) (fun h157 => ?_)
                  · replace hr := cond_t h157 hr
                    replace hr := Option.some.inj hr
                    subst hr
                    exact AtRet.gen ⟨[.cells 95 [(.v (.slice a156 ((List.map D.str v153.2.2).length) c156))]], [⟨.slice a156 ((List.map D.str v153.2.2).length) c156, 1, 9, (List.map D.str v153.2.2)⟩], [(.slice a144 ((Od.encL v143.parts).length) c144, .sl 3 (Od.encL v143.parts))]⟩ (StLe.gen 1 [.old 0] [.froz 1] rfl rfl rfl rfl rfl rfl rfl) rfl rfl ⟨a144, c144, a156, c156, rfl, rfl⟩
                  · replace hr := cond_f h157 hr
                    refine at_buildG (n := 1) ttOK 40 [.agg [.int .i64 v153.1.op, .int .i64 v153.1.n, .sl 3 (Od.encL v153.1.parts)]] (ds' := (Od.encL ([v153.1]))) rfl (by kernel_rfl) ⟨⟨rfl, rfl, rfl, ⟨[(.v (.int .i64 v153.1.op))], _, rfl, rfl, ⟨[(.v (.int .i64 v153.1.n))], _, rfl, rfl, ⟨[(.v (.slice a155 ((Od.encL v153.1.parts).length) c155))], _, rfl, (.inl ⟨_, rfl, nth_mem (j := 4) rfl⟩), rfl⟩⟩⟩⟩, trivial⟩ rfl (by simp only [Od.encL_eq, List.map_cons, List.map_nil, Od.enc_eq]) (by decide) (by decide) ?_
                    intro a158
                    obtain ⟨h159, hr⟩ := cond_need hr
                    refine at_appendG (ds' := (Od.encL (v143.parts ++ [v153.1]))) ttOK 40 1 5 rfl (by kernel_rfl) rfl rfl rfl rfl (by simp only [Od.encL_eq, List.map_append]) h159 (by decide) ?_
                    intro a160 c160
                    exact ⟨(n, v153.2.2, a156, c156, (Od.mk v143.op v143.n (v143.parts ++ [v153.1])), a160, c160, (IntKind.i64.wrap (v145 + 1))), ⟨by omega, hr⟩, Nat.lt_succ_self _, ⟨rfl, rfl, rfl, rfl, rfl, rfl, rfl, trivial⟩, (StLe.gen 4 [.old 0, .old 1] [.old 0, .old 1] rfl rfl rfl rfl rfl rfl rfl)⟩
                · replace hr := cond_f h146 hr
                  replace hr := Option.some.inj hr
                  subst hr
                  exact AtRet.gen ⟨[.cells 95 [(.v (.slice a142 ((List.map D.str v141).length) c142))]], [⟨.slice a142 ((List.map D.str v141).length) c142, 1, 9, (List.map D.str v141)⟩], [(.slice a144 ((Od.encL v143.parts).length) c144, .sl 3 (Od.encL v143.parts))]⟩ (StLe.gen 1 [.old 0] [.froz 1] rfl rfl rfl rfl rfl rfl rfl) rfl rfl ⟨a144, c144, a142, c142, rfl, rfl⟩
          · replace hr := cond_f h87 hr
            replace hr := Option.some.inj hr
            subst hr
            exact AtRet.gen ⟨[.cells 95 [(.v (.slice a6 ((List.map D.str v5).length) c6))]], [⟨.slice a6 ((List.map D.str v5).length) c6, 1, 9, (List.map D.str v5)⟩], [(.slice none 0 0, .sl 3 [])]⟩ (StLe.gen 1 [.old 0] [.nil 3] rfl rfl rfl rfl rfl rfl rfl) rfl rfl ⟨none, 0, a6, c6, rfl, rfl⟩
theorem order_ordered_spec (n : Nat) (v1 : Pt) (v4 : Int) (v5 : (List ByteArray)) (a2 : Option Addr) (c2 : Nat) (a3 : Option Addr) (c3 : Nat) (a6 : Option Addr) (c6 : Nat) (r : Od × Bool × (List ByteArray)) (hr : order_ordered n v1 v4 v5 = some r) : Meets Tryz.prog (.val (.fn (.func 49) [] [])) [(.agg [(.v (.int .i64 v1.op)), (.v (.string v1.sign)), (.v (.string v1.name)), (.v (.int .i64 v1.n)), (.v (.int .i64 v1.raw.op)), (.v (.string v1.raw.name)), (.v (.slice a2 ((Rw.encL v1.raw.args).length) c2)), (.v (.slice a3 ((Pt.encL v1.parts).length) c3))]), (.loc 0 0), (.v (.int .i64 v4))] ⟨[.cells 95 [(.v (.slice a6 ((List.map D.str v5).length) c6))]], [⟨.slice a6 ((List.map D.str v5).length) c6, 1, 9, (List.map D.str v5)⟩], [(.slice a2 ((Rw.encL v1.raw.args).length) c2, .sl 3 (Rw.encL v1.raw.args)), (.slice a3 ((Pt.encL v1.parts).length) c3, .sl 8 (Pt.encL v1.parts))]⟩ (fun o S' => ∃ (b1 : Option Addr) (d1 : Nat), ∃ (b2 : Option Addr) (d2 : Nat), o = .ret (.tup [(.agg [(.v (.int .i64 r.1.op)), (.v (.int .i64 r.1.n)), (.v (.slice b1 ((Od.encL r.1.parts).length) d1))]), (.v (.bool r.2.1))]) ∧ S' = ⟨[.cells 95 [(.v (.slice b2 ((List.map D.str r.2.2).length) d2))]], [⟨.slice b2 ((List.map D.str r.2.2).length) d2, 1, 9, (List.map D.str r.2.2)⟩], [(.slice b1 ((Od.encL r.1.parts).length) d1, .sl 3 (Od.encL r.1.parts))]⟩) := (order_ordered_specN n) n (Nat.le_refl _) v1 v4 v5 a2 c2 a3 c3 a6 c6 r hr
mutual
def order_call : Nat → Rw → Option (ByteArray × (List ByteArray) × Bool)
  | 0, _ => none
  | n + 1, v1 =>
    order_call_L1 n v1 ([])
def order_call_L1 : Nat → Rw → (List ByteArray) → Option (ByteArray × (List ByteArray) × Bool)
  | 0, _, _ => none
  | n + 1, v18, v20 =>
    cond (v18.op == 4) (
    (idx v18.args 1).bind (fun v23 =>
    cond ((v23.op != 2) && (v23.op != 3)) (
    some (⟨#[]⟩, [], false)) (
    cond (decide ((List.map D.str (v20 ++ [v23.name])).length ≤ 1000000)) (
    (idx v18.args 0).bind (fun v32 =>
    order_call_L1 n v32 (v20 ++ [v23.name]))) none))) (
    cond (decide ((List.map D.str v20).length ≤ 1000000)) (
    some (v18.name, v20.reverse, (v18.op == 2))) none)
 end
theorem order_call_spec (n : Nat) (v1 : Rw) (a2 : Option Addr) (c2 : Nat) (r : ByteArray × (List ByteArray) × Bool) (hr : order_call n v1 = some r) : Pure Tryz.prog (.val (.fn (.func 50) [] [])) [(.agg [(.v (.int .i64 v1.op)), (.v (.string v1.name)), (.v (.slice a2 ((Rw.encL v1.args).length) c2))])] [(.slice a2 ((Rw.encL v1.args).length) c2, .sl 3 (Rw.encL v1.args))] (fun r' out => ∃ (b1 : Option Addr) (d1 : Nat), r' = (.tup [(.v (.string r.1)), (.v (.slice b1 ((List.map D.str r.2.1).length) d1)), (.v (.bool r.2.2))]) ∧ out = [(.slice b1 ((List.map D.str r.2.1).length) d1, .sl 1 (List.map D.str r.2.1))]) := by
  rcases n with _ | n
  · exact no_some hr
  rw [order_call.eq_2] at hr
  refine spec_of_body (N := 39) (m := 0) (dt := drawsOf [(9, .leaf [0, 1, 2, 3, 4, 5, 6, 7, 8], [], [])]) [] ttOK Tryz.func50 rfl Tryz.call50 Tryz.ntmps50 rfl rfl rfl mixed (by kernel_rfl) ?_
  refine AtLoop.mk ⟨Nat × Rw × Option Addr × Nat × (List ByteArray) × Option Addr × Nat, fun x => [(1, (.loc 0 0)), (5, (.v (.slice x.2.2.2.2.2.1 ((List.map D.str x.2.2.2.2.1).length) x.2.2.2.2.2.2)))], fun x => ⟨[.cells 25 [(.v (.int .i64 x.2.1.op)), (.v (.string x.2.1.name)), (.v (.slice x.2.2.1 ((Rw.encL x.2.1.args).length) x.2.2.2.1))]], [⟨.slice x.2.2.2.2.2.1 ((List.map D.str x.2.2.2.2.1).length) x.2.2.2.2.2.2, 1, 9, (List.map D.str x.2.2.2.2.1)⟩], [(.slice x.2.2.1 ((Rw.encL x.2.1.args).length) x.2.2.2.1, .sl 3 (Rw.encL x.2.1.args)), (.slice a2 ((Rw.encL v1.args).length) c2, .sl 3 (Rw.encL v1.args))]⟩, fun x => order_call_L1 x.1 x.2.1 x.2.2.2.2.1 = some r, fun x => x.1, (n, v1, a2, c2, [], none, 0), hr, ⟨rfl, rfl, trivial⟩, (StLe.gen 1 [.nil 1 9] [.old 0, .old 0] rfl rfl rfl rfl rfl rfl rfl), fun x _ => ⟨rfl, rfl⟩, ?_⟩
  rintro ⟨n, v18, a19, c19, v20, a21, c21⟩ HH
  have hr : order_call_L1 n v18 v20 = some r := HH
  rcases n with _ | n
  · exact no_some hr
  rw [order_call_L1.eq_2] at hr
  refine AtIf.mk (fun h22 => ?_) (fun h22 => ?_)
  · replace hr := cond_t h22 hr
    obtain ⟨v23, h24, hr⟩ := bind_some hr
    obtain ⟨h25, h26⟩ := idx_some h24
    refine at_index ttOK 0 rfl rfl rfl rfl h25 (Rw.encL_get h26) ?_
    intro a27 c27 _ _
    refine AtIf.mk (fun h28 => ?_) (fun h28 => ?_)
    · replace hr := cond_t h28 hr
      replace hr := Option.some.inj hr
      subst hr
      exact AtRet.pureG [.nil 1] [(.slice none 0 0, .sl 1 [])] rfl rfl ⟨none, 0, rfl, rfl⟩
    · replace hr := cond_f h28 hr
      refine at_buildG (n := 1) ttOK 16 [.str v23.name] (ds' := (List.map D.str ([v23.name]))) rfl (by kernel_rfl) ⟨⟨rfl, rfl, rfl, rfl⟩, trivial⟩ rfl rfl (by decide) (by decide) ?_
      intro a29
      obtain ⟨h30, hr⟩ := cond_need hr
      refine at_appendG (ds' := (List.map D.str (v20 ++ [v23.name]))) ttOK 16 0 3 rfl (by kernel_rfl) rfl rfl rfl rfl (by simp only [List.map_append]) h30 (by decide) ?_
      intro a31 c31
      obtain ⟨v32, h33, hr⟩ := bind_some hr
      obtain ⟨h34, h35⟩ := idx_some h33
      refine at_index ttOK 0 rfl rfl rfl rfl h34 (Rw.encL_get h35) ?_
      intro a36 c36 _ _
      exact ⟨(n, v32, a36, c36, (v20 ++ [v23.name]), a31, c31), hr, Nat.lt_succ_self _, ⟨rfl, rfl, trivial⟩, (StLe.gen 1 [.old 0] [.old 4, .old 1] rfl rfl rfl rfl rfl rfl rfl)⟩
  · replace hr := cond_f h22 hr
    obtain ⟨h37, hr⟩ := cond_need hr
    obtain ⟨m38, h39⟩ : ∃ m38, m38 = (List.map D.str v20).length := ⟨_, rfl⟩
    try dsimp only
    rw [← h39]
    refine (reverse_spec v20 m38 a21 c21 (by rw [h39]; simp) (by simpa using of_decide_eq_true h37)).frameRA [] [0] [] rfl rfl rfl rfl rfl rfl rfl rfl rfl ?_
    rintro _ _ ⟨rfl, rfl⟩
    refine ⟨rfl, [], rfl, ?_⟩
    obtain rfl : m38 = (List.map D.str v20.reverse).length := by rw [h39]; simp
    replace hr := Option.some.inj hr
    subst hr
    exact AtRet.pureG [.froz 0] [(.slice a21 ((List.map D.str v20.reverse).length) c21, .sl 1 (List.map D.str v20.reverse))] rfl rfl ⟨a21, c21, rfl, rfl⟩
mutual
def sign_Find : Nat → (List Dc) → ByteArray → Option (Int × Int)
  | 0, _, _ => none
  | n + 1, v1, v3 =>
    (sign_Check n v1).bind (fun v4 =>
    cond (v4 != 0) (
    some (0, v4)) (
    sign_Find_L1 n v1 v3 0))
def sign_Find_L1 : Nat → (List Dc) → ByteArray → Int → Option (Int × Int)
  | 0, _, _, _ => none
  | n + 1, v1, v3, v14 =>
    cond (decide (v14 < ((Dc.encL v1).length : Int))) (
    (idx v1 v14).bind (fun v16 =>
    cond (v16.name.toList == v3.toList) (
    some (v14, 0)) (
    sign_Find_L1 n v1 v3 (IntKind.i64.wrap (v14 + 1))))) (
    some (0, 6))
 end
theorem sign_Find_spec (n : Nat) (v1 : (List Dc)) (v3 : ByteArray) (a2 : Option Addr) (c2 : Nat) (r : Int × Int) (hr : sign_Find n v1 v3 = some r) : Pure Tryz.prog (.val (.fn (.func 51) [] [])) [(.v (.slice a2 ((Dc.encL v1).length) c2)), (.v (.string v3))] [(.slice a2 ((Dc.encL v1).length) c2, .sl 6 (Dc.encL v1))] (fun r' out => r' = (.tup [(.v (.int .i64 r.1)), (.v (.int .i64 r.2))]) ∧ out = []) := by
  rcases n with _ | n
  · exact no_some hr
  rw [sign_Find.eq_2] at hr
  refine spec_of_body (N := 27) (m := 0) (dt := fun _ => none) [] ttOK Tryz.func51 rfl Tryz.call51 Tryz.ntmps51 rfl rfl rfl mixed (by kernel_rfl) ?_
  obtain ⟨v4, h5, hr⟩ := bind_some hr
  refine (sign_Check_spec n v1 a2 c2 _ h5).atR [0] rfl rfl rfl ?_
  rintro _ _ ⟨rfl, rfl⟩
  refine AtIf.mk (fun h6 => ?_) (fun h6 => ?_)
  · replace hr := cond_t h6 hr
    replace hr := Option.some.inj hr
    subst hr
    exact AtRet.pureG [] [] rfl rfl ⟨rfl, rfl⟩
  · replace hr := cond_f h6 hr
    refine AtLoop.mk ⟨Nat × Int, fun x => [(1, (.v (.string v3))), (14, (.v (.slice a2 ((Dc.encL v1).length) c2))), (15, (.v (.int .i64 ((Dc.encL v1).length : Int)))), (16, (.v (.int .i64 x.2)))], fun x => ⟨[], [], [(.slice a2 ((Dc.encL v1).length) c2, .sl 6 (Dc.encL v1))]⟩, fun x => sign_Find_L1 x.1 v1 v3 x.2 = some r, fun x => x.1, (n, 0), hr, ⟨rfl, rfl, rfl, rfl, trivial⟩, (StLe.gen 0 [] [.old 0] rfl rfl rfl rfl rfl rfl rfl), fun x _ => ⟨rfl, rfl⟩, ?_⟩
    rintro ⟨n, v14⟩ HH
    have hr : sign_Find_L1 n v1 v3 v14 = some r := HH
    rcases n with _ | n
    · exact no_some hr
    rw [sign_Find_L1.eq_2] at hr
    refine AtIf.mk (fun h15 => ?_) (fun h15 => ?_)
    · replace hr := cond_t h15 hr
      obtain ⟨v16, h17, hr⟩ := bind_some hr
      obtain ⟨h18, h19⟩ := idx_some h17
      refine at_index ttOK 0 rfl rfl rfl rfl h18 (Dc.encL_get h19) ?_
      intro a20 c20 _ _
      refine AtIf.mk (fun h21 => ?_) (fun h21 => ?_)
      · replace hr := cond_t h21 hr
        replace hr := Option.some.inj hr
        subst hr
        exact AtRet.pureG [] [] rfl rfl ⟨rfl, rfl⟩
      · replace hr := cond_f h21 hr
        exact ⟨(n, (IntKind.i64.wrap (v14 + 1))), hr, Nat.lt_succ_self _, ⟨rfl, rfl, rfl, rfl, trivial⟩, (StLe.gen 0 [] [.old 0] rfl rfl rfl rfl rfl rfl rfl)⟩
    · replace hr := cond_f h15 hr
      replace hr := Option.some.inj hr
      subst hr
      exact AtRet.pureG [] [] rfl rfl ⟨rfl, rfl⟩
def sign_Family : Nat → (List Dc) → Int → Option (Bool)
  | 0, _, _ => none
  | n + 1, v1, v3 =>
    (idx v1 v3).bind (fun v4 =>
    (sign_kind n v4.cls).bind (fun v9 =>
    some (v9)))
theorem sign_Family_spec (n : Nat) (v1 : (List Dc)) (v3 : Int) (a2 : Option Addr) (c2 : Nat) (r : Bool) (hr : sign_Family n v1 v3 = some r) : Pure Tryz.prog (.val (.fn (.func 52) [] [])) [(.v (.slice a2 ((Dc.encL v1).length) c2)), (.v (.int .i64 v3))] [(.slice a2 ((Dc.encL v1).length) c2, .sl 6 (Dc.encL v1))] (fun r' out => r' = (.v (.bool r)) ∧ out = []) := by
  rcases n with _ | n
  · exact no_some hr
  rw [sign_Family.eq_2] at hr
  refine spec_of_body (N := 11) (m := 0) (dt := fun _ => none) [] ttOK Tryz.func52 rfl Tryz.call52 Tryz.ntmps52 rfl rfl rfl mixed (by kernel_rfl) ?_
  obtain ⟨v4, h5, hr⟩ := bind_some hr
  obtain ⟨h6, h7⟩ := idx_some h5
  refine at_index ttOK 0 rfl rfl rfl rfl h6 (Dc.encL_get h7) ?_
  intro a8 c8 _ _
  obtain ⟨v9, h10, hr⟩ := bind_some hr
  refine (sign_kind_spec n v4.cls a8 c8 _ h10).atR [1] rfl rfl rfl ?_
  rintro _ _ ⟨rfl, rfl⟩
  replace hr := Option.some.inj hr
  subst hr
  exact AtRet.pureG [] [] rfl rfl ⟨rfl, rfl⟩
mutual
def order_renumbered : Nat → Od → (List Int) → Option (Od)
  | 0, _, _ => none
  | n + 1, v1, v3 =>
    cond (v1.op == 1) (
    (idx v3 v1.n).bind (fun v6 =>
    some ((Od.mk v1.op v6 v1.parts)))) (
    order_renumbered_L1 n v1 v3 ([]) 0)
def order_renumbered_L1 : Nat → Od → (List Int) → (List Od) → Int → Option (Od)
  | 0, _, _, _, _ => none
  | n + 1, v1, v3, v22, v24 =>
    cond (decide (v24 < ((Od.encL v1.parts).length : Int))) (
    (idx v1.parts v24).bind (fun v26 =>
    (order_renumbered n v26 v3).bind (fun v31 =>
    cond (decide ((Od.encL (v22 ++ [v31])).length ≤ 1000000)) (
    order_renumbered_L1 n v1 v3 (v22 ++ [v31]) (IntKind.i64.wrap (v24 + 1))) none))) (
    some ((Od.mk v1.op v1.n v22)))
 end
theorem order_renumbered_specN : ∀ (N : Nat), (∀ (n : Nat), n ≤ N → ∀ (v1 : Od) (v3 : (List Int)) (a2 : Option Addr) (c2 : Nat) (a4 : Option Addr) (c4 : Nat) (r : Od), order_renumbered n v1 v3 = some r → Pure Tryz.prog (.val (.fn (.func 56) [] [])) [(.agg [(.v (.int .i64 v1.op)), (.v (.int .i64 v1.n)), (.v (.slice a2 ((Od.encL v1.parts).length) c2))]), (.v (.slice a4 ((List.map (D.int .i64) v3).length) c4))] [(.slice a2 ((Od.encL v1.parts).length) c2, .sl 3 (Od.encL v1.parts)), (.slice a4 ((List.map (D.int .i64) v3).length) c4, .sl 1 (List.map (D.int .i64) v3))] (fun r' out => ∃ (b1 : Option Addr) (d1 : Nat), r' = (.agg [(.v (.int .i64 r.op)), (.v (.int .i64 r.n)), (.v (.slice b1 ((Od.encL r.parts).length) d1))]) ∧ out = [(.slice b1 ((Od.encL r.parts).length) d1, .sl 3 (Od.encL r.parts))])) := by
  intro N
  induction N with
  | zero =>
    intro n hn v1 v3 a2 c2 a4 c4 r hr; obtain rfl : n = 0 := (by omega); exact no_some hr
  | succ N ih =>
    intro n hn v1 v3 a2 c2 a4 c4 r hr
    rcases n with _ | n
    · exact no_some hr
    replace hn : n ≤ N := by omega
    rw [order_renumbered.eq_2] at hr
    refine spec_of_body (N := 35) (m := 0) (dt := fun _ => none) [] ttOK Tryz.func56 rfl Tryz.call56 Tryz.ntmps56 rfl rfl rfl mixed (by kernel_rfl) ?_
    refine AtIf.mk (fun h5 => ?_) (fun h5 => ?_)
    · replace hr := cond_t h5 hr
      obtain ⟨v6, h7, hr⟩ := bind_some hr
      obtain ⟨h8, h9⟩ := idx_some h7
      refine at_index ttOK 1 rfl rfl rfl rfl h8 (map_get (D.int .i64) h9) ?_
      replace hr := Option.some.inj hr
      subst hr
      exact AtRet.pureG [.old 0] [(.slice a2 ((Od.encL v1.parts).length) c2, .sl 3 (Od.encL v1.parts))] rfl rfl ⟨a2, c2, rfl, rfl⟩
    · replace hr := cond_f h5 hr
      refine AtLoop.mk ⟨Nat × (List Od) × Option Addr × Nat × Int, fun x => [(1, (.v (.slice a4 ((List.map (D.int .i64) v3).length) c4))), (2, (.loc 0 0)), (4, (.loc 1 0)), (5, (.v (.slice x.2.2.1 ((Od.encL x.2.1).length) x.2.2.2.1))), (19, (.v (.slice a2 ((Od.encL v1.parts).length) c2))), (20, (.v (.int .i64 ((Od.encL v1.parts).length : Int)))), (21, (.v (.int .i64 x.2.2.2.2)))], fun x => ⟨[.cells 31 [(.v (.int .i64 v1.op)), (.v (.int .i64 v1.n)), (.v (.slice a2 ((Od.encL v1.parts).length) c2))], .cells 31 [(.v (.int .i64 0)), (.v (.int .i64 0)), (.v (.slice none 0 0))]], [⟨.slice x.2.2.1 ((Od.encL x.2.1).length) x.2.2.2.1, 3, 31, (Od.encL x.2.1)⟩], [(.slice a2 ((Od.encL v1.parts).length) c2, .sl 3 (Od.encL v1.parts)), (.slice a4 ((List.map (D.int .i64) v3).length) c4, .sl 1 (List.map (D.int .i64) v3))]⟩, fun x => x.1 ≤ N ∧ order_renumbered_L1 x.1 v1 v3 x.2.1 x.2.2.2.2 = some r, fun x => x.1, (n, [], none, 0, 0), ⟨by omega, hr⟩, ⟨rfl, rfl, rfl, rfl, rfl, rfl, rfl, trivial⟩, (StLe.gen 2 [.nil 3 31] [.old 0, .old 1] rfl rfl rfl rfl rfl rfl rfl), fun x _ => ⟨rfl, rfl⟩, ?_⟩
      rintro ⟨n, v22, a23, c23, v24⟩ HH
      obtain ⟨hn, hr⟩ : n ≤ N ∧ order_renumbered_L1 n v1 v3 v22 v24 = some r := HH
      rcases n with _ | n
      · exact no_some hr
      rw [order_renumbered_L1.eq_2] at hr
      refine AtIf.mk (fun h25 => ?_) (fun h25 => ?_)
      · replace hr := cond_t h25 hr
        obtain ⟨v26, h27, hr⟩ := bind_some hr
        obtain ⟨h28, h29⟩ := idx_some h27
        refine at_index ttOK 0 rfl rfl rfl rfl h28 (Od.encL_get h29) ?_
        intro a30 c30 _ _
        obtain ⟨v31, h32, hr⟩ := bind_some hr
        refine (ih n (by omega) v26 v3 a30 c30 a4 c4 _ h32).atR [2, 1] rfl rfl rfl ?_
        rintro _ _ ⟨a33, c33, rfl, rfl⟩
        refine at_buildG (n := 1) ttOK 40 [.agg [.int .i64 v31.op, .int .i64 v31.n, .sl 3 (Od.encL v31.parts)]] (ds' := (Od.encL ([v31]))) rfl (by kernel_rfl) ⟨⟨rfl, rfl, rfl, ⟨[(.v (.int .i64 v31.op))], _, rfl, rfl, ⟨[(.v (.int .i64 v31.n))], _, rfl, rfl, ⟨[(.v (.slice a33 ((Od.encL v31.parts).length) c33))], _, rfl, (.inl ⟨_, rfl, nth_mem (j := 3) rfl⟩), rfl⟩⟩⟩⟩, trivial⟩ rfl (by simp only [Od.encL_eq, List.map_cons, List.map_nil, Od.enc_eq]) (by decide) (by decide) ?_
        intro a34
        obtain ⟨h35, hr⟩ := cond_need hr
        refine at_appendG (ds' := (Od.encL (v22 ++ [v31]))) ttOK 40 0 4 rfl (by kernel_rfl) rfl rfl rfl rfl (by simp only [Od.encL_eq, List.map_append]) h35 (by decide) ?_
        intro a36 c36
        exact ⟨(n, (v22 ++ [v31]), a36, c36, (IntKind.i64.wrap (v24 + 1))), ⟨by omega, hr⟩, Nat.lt_succ_self _, ⟨rfl, rfl, rfl, rfl, rfl, rfl, rfl, trivial⟩, (StLe.gen 2 [.old 0] [.old 0, .old 1] rfl rfl rfl rfl rfl rfl rfl)⟩
      · replace hr := cond_f h25 hr
        replace hr := Option.some.inj hr
        subst hr
        exact AtRet.pureG [.froz 0] [(.slice a23 ((Od.encL v22).length) c23, .sl 3 (Od.encL v22))] rfl rfl ⟨a23, c23, rfl, rfl⟩
theorem order_renumbered_spec (n : Nat) (v1 : Od) (v3 : (List Int)) (a2 : Option Addr) (c2 : Nat) (a4 : Option Addr) (c4 : Nat) (r : Od) (hr : order_renumbered n v1 v3 = some r) : Pure Tryz.prog (.val (.fn (.func 56) [] [])) [(.agg [(.v (.int .i64 v1.op)), (.v (.int .i64 v1.n)), (.v (.slice a2 ((Od.encL v1.parts).length) c2))]), (.v (.slice a4 ((List.map (D.int .i64) v3).length) c4))] [(.slice a2 ((Od.encL v1.parts).length) c2, .sl 3 (Od.encL v1.parts)), (.slice a4 ((List.map (D.int .i64) v3).length) c4, .sl 1 (List.map (D.int .i64) v3))] (fun r' out => ∃ (b1 : Option Addr) (d1 : Nat), r' = (.agg [(.v (.int .i64 r.op)), (.v (.int .i64 r.n)), (.v (.slice b1 ((Od.encL r.parts).length) d1))]) ∧ out = [(.slice b1 ((Od.encL r.parts).length) d1, .sl 3 (Od.encL r.parts))]) := (order_renumbered_specN n) n (Nat.le_refl _) v1 v3 a2 c2 a4 c4 r hr
mutual
def order_Read : Nat → (List Dc) → It → Option (Me × Int)
  | 0, _, _ => none
  | n + 1, v1, v3 =>
    (sign_Check n v1).bind (fun v6 =>
    cond (v6 != 0) (
    some ((Me.mk 0 (Od.mk 0 0 ([]))), 2)) (
    cond ((((if itemOK v3 then (0 : Int) else 2) != 0) || ((!(v3.word.toList == (⟨#[116, 111, 116, 97, 108]⟩ : ByteArray).toList)) && (!(v3.word.toList == (⟨#[116, 101, 114, 109, 105, 110, 97, 116, 101, 115]⟩ : ByteArray).toList)))) || (((Pt.encL v3.parts).length : Int) != 2)) (
    some ((Me.mk 0 (Od.mk 0 0 ([]))), 2)) (
    (idx v3.parts 1).bind (fun v10 =>
    cond (v10.op != 4) (
    some ((Me.mk 0 (Od.mk 0 0 ([]))), 2)) (
    (idx v3.parts 0).bind (fun v17 =>
    (order_ordered n v17 0 ([])).bind (fun v23 =>
    (idx v3.parts 1).bind (fun v27 =>
    (order_call n v27.raw).bind (fun v33 =>
    cond ((!v23.2.1) || (!v33.2.2)) (
    some ((Me.mk 0 (Od.mk 0 0 ([]))), 2)) (
    (sign_Find n v1 v33.1).bind (fun v37 =>
    cond (v37.2 != 0) (
    some ((Me.mk 0 (Od.mk 0 0 ([]))), 20)) (
    (sign_Family n v1 v37.1).bind (fun v40 =>
    cond (!v40) (
    some ((Me.mk 0 (Od.mk 0 0 ([]))), 22)) (
    (idx v1 v37.1).bind (fun v43 =>
    (term_Domains n v43.cls).bind (fun v48 =>
    (idx v1 v37.1).bind (fun v52 =>
    cond (((Tm.encL v48.1).length : Int) != (IntKind.i64.wrap (v52.implicit + ((List.map D.str v33.2.1).length : Int)))) (
    some ((Me.mk 0 (Od.mk 0 0 ([]))), 23)) (
    order_Read_L1 n v23 v33 v52 v37 ([]) 0))))))))))))))))))
def order_Read_L1 : Nat → (Od × Bool × (List ByteArray)) → (ByteArray × (List ByteArray) × Bool) → Dc → (Int × Int) → (List Int) → Int → Option (Me × Int)
  | 0, _, _, _, _, _, _ => none
  | n + 1, v23, v33, v52, v37, v71, v73 =>
    cond (decide (v73 < ((List.map D.str v23.2.2).length : Int))) (
    cond (decide (0 ≤ v73 ∧ (v73).toNat < (List.map D.str v23.2.2).length)) (
    (v23.2.2[(v73).toNat]?).bind (fun v78 =>
    cond (decide ((idxS v78 v33.2.1 0) < 0)) (
    some ((Me.mk 0 (Od.mk 0 0 ([]))), 20)) (
    cond (decide ((0 : Int) ≤ (IntKind.i64.wrap ((idxS v78 v33.2.1 0) + 1)) ∧ (IntKind.i64.wrap ((idxS v78 v33.2.1 0) + 1)) ≤ ((List.map D.str v33.2.1).length : Int) ∧ ((List.map D.str v33.2.1).length : Int) ≤ ((List.map D.str v33.2.1).length : Int))) (
    cond (hasS v78 (v33.2.1.drop (IntKind.i64.wrap ((idxS v78 v33.2.1 0) + 1)).toNat)) (
    some ((Me.mk 0 (Od.mk 0 0 ([]))), 20)) (
    cond (decide ((List.map (D.int .i64) (v71 ++ [(IntKind.i64.wrap (v52.implicit + (idxS v78 v33.2.1 0)))])).length ≤ 1000000)) (
    order_Read_L1 n v23 v33 v52 v37 (v71 ++ [(IntKind.i64.wrap (v52.implicit + (idxS v78 v33.2.1 0)))]) (IntKind.i64.wrap (v73 + 1))) none)) none))) none) (
    (order_renumbered n v23.1 v71).bind (fun v87 =>
    some ((Me.mk v37.1 v87), 0)))
 end
theorem order_Read_spec (n : Nat) (v1 : (List Dc)) (v3 : It) (a2 : Option Addr) (c2 : Nat) (a4 : Option Addr) (c4 : Nat) (a5 : Option Addr) (c5 : Nat) (r : Me × Int) (hr : order_Read n v1 v3 = some r) : Pure Tryz.prog (.val (.fn (.func 10) [] [])) [(.v (.slice a2 ((Dc.encL v1).length) c2)), (.agg [(.v (.string v3.word)), (.v (.string v3.name)), (.v (.int .i64 v3.raw.op)), (.v (.string v3.raw.name)), (.v (.slice a4 ((Rw.encL v3.raw.args).length) c4)), (.v (.slice a5 ((Pt.encL v3.parts).length) c5))])] [(.slice a2 ((Dc.encL v1).length) c2, .sl 6 (Dc.encL v1)), (.slice a4 ((Rw.encL v3.raw.args).length) c4, .sl 3 (Rw.encL v3.raw.args)), (.slice a5 ((Pt.encL v3.parts).length) c5, .sl 8 (Pt.encL v3.parts))] (fun r' out => ∃ (b1 : Option Addr) (d1 : Nat), r' = (.tup [(.agg [(.v (.int .i64 r.1.family)), (.v (.int .i64 r.1.order.op)), (.v (.int .i64 r.1.order.n)), (.v (.slice b1 ((Od.encL r.1.order.parts).length) d1))]), (.v (.int .i64 r.2))]) ∧ out = [(.slice b1 ((Od.encL r.1.order.parts).length) d1, .sl 3 (Od.encL r.1.order.parts))]) := by
  rcases n with _ | n
  · exact no_some hr
  rw [order_Read.eq_2] at hr
  refine spec_of_body (N := 149) (m := 0) (dt := fun _ => none) [] ttOK Tryz.func10 rfl Tryz.call10 Tryz.ntmps10 rfl rfl rfl mixed (by kernel_rfl) ?_
  obtain ⟨v6, h7, hr⟩ := bind_some hr
  refine (sign_Check_spec n v1 a2 c2 _ h7).atR [0] rfl rfl rfl ?_
  rintro _ _ ⟨rfl, rfl⟩
  refine AtGuard.mk (fun h8 => ?_) (fun h8 => ?_)
  · replace hr := cond_f h8 hr
    refine (checkItem_spec v3 a4 c4 a5 c5).atR [1, 2] rfl rfl rfl ?_
    rintro _ _ ⟨rfl, rfl⟩
    refine AtGuard.mk (fun h9 => ?_) (fun h9 => ?_)
    · replace hr := cond_f h9 hr
      obtain ⟨v10, h11, hr⟩ := bind_some hr
      obtain ⟨h12, h13⟩ := idx_some h11
      refine at_index ttOK 2 rfl rfl rfl rfl h12 (Pt.encL_get h13) ?_
      intro a14 c14 _ _ a15 c15 _ _
      refine AtIf.mk (fun h16 => ?_) (fun h16 => ?_)
      · replace hr := cond_t h16 hr
        replace hr := Option.some.inj hr
        subst hr
        exact AtRet.pureG [.nil 3] [(.slice none 0 0, .sl 3 [])] rfl rfl ⟨none, 0, rfl, rfl⟩
      · replace hr := cond_f h16 hr
        obtain ⟨v17, h18, hr⟩ := bind_some hr
        obtain ⟨h19, h20⟩ := idx_some h18
        refine at_index ttOK 2 rfl rfl rfl rfl h19 (Pt.encL_get h20) ?_
        intro a21 c21 _ _ a22 c22 _ _
        obtain ⟨v23, h24, hr⟩ := bind_some hr
        refine Meets.le (S' := ⟨[.cells 28 [(.v (.string v3.word)), (.v (.string v3.name)), (.v (.int .i64 v3.raw.op)), (.v (.string v3.raw.name)), (.v (.slice a4 ((Rw.encL v3.raw.args).length) c4)), (.v (.slice a5 ((Pt.encL v3.parts).length) c5))], .cells 33 [(.v (.int .i64 0)), (.v (.int .i64 0)), (.v (.int .i64 0)), (.v (.slice none 0 0))], .imm [(.v (.int .i64 v10.op)), (.v (.string v10.sign)), (.v (.string v10.name)), (.v (.int .i64 v10.n)), (.v (.int .i64 v10.raw.op)), (.v (.string v10.raw.name)), (.v (.slice a14 ((Rw.encL v10.raw.args).length) c14)), (.v (.slice a15 ((Pt.encL v10.parts).length) c15))], .cells 95 [(.v (.slice none 0 0))], .imm [(.v (.int .i64 v17.op)), (.v (.string v17.sign)), (.v (.string v17.name)), (.v (.int .i64 v17.n)), (.v (.int .i64 v17.raw.op)), (.v (.string v17.raw.name)), (.v (.slice a21 ((Rw.encL v17.raw.args).length) c21)), (.v (.slice a22 ((Pt.encL v17.parts).length) c22))]], [⟨.slice none 0 0, 1, 9, []⟩], [(.slice a2 ((Dc.encL v1).length) c2, .sl 6 (Dc.encL v1)), (.slice a4 ((Rw.encL v3.raw.args).length) c4, .sl 3 (Rw.encL v3.raw.args)), (.slice a5 ((Pt.encL v3.parts).length) c5, .sl 8 (Pt.encL v3.parts)), (.slice a14 ((Rw.encL v10.raw.args).length) c14, .sl 3 (Rw.encL v10.raw.args)), (.slice a15 ((Pt.encL v10.parts).length) c15, .sl 8 (Pt.encL v10.parts)), (.slice a21 ((Rw.encL v17.raw.args).length) c21, .sl 3 (Rw.encL v17.raw.args)), (.slice a22 ((Pt.encL v17.parts).length) c22, .sl 8 (Pt.encL v17.parts))]⟩) (StLe.gen 5 [.nil 1 9] [.old 0, .old 1, .old 2, .old 3, .old 4, .old 5, .old 6] rfl rfl rfl rfl rfl rfl rfl) rfl ?_
        refine (order_ordered_spec n v17 0 ([]) a21 c21 a22 c22 none 0 _ h24).frameRA [3] [0] [5, 6] rfl rfl rfl rfl rfl rfl rfl rfl rfl ?_
        rintro _ _ ⟨a25, c25, a26, c26, rfl, rfl⟩
        refine ⟨rfl, [.cells 95 [(.v (.slice a26 ((List.map D.str v23.2.2).length) c26))]], rfl, ?_⟩
        obtain ⟨v27, h28, hr⟩ := bind_some hr
        obtain ⟨h29, h30⟩ := idx_some h28
        refine at_index ttOK 2 rfl rfl rfl rfl h29 (Pt.encL_get h30) ?_
        intro a31 c31 _ _ a32 c32 _ _
        obtain ⟨v33, h34, hr⟩ := bind_some hr
        refine (order_call_spec n v27.raw a31 c31 _ h34).atR [8] rfl rfl rfl ?_
        rintro _ _ ⟨a35, c35, rfl, rfl⟩
        refine AtIf.mk (fun h36 => ?_) (fun h36 => ?_)
        · replace hr := cond_t h36 hr
          replace hr := Option.some.inj hr
          subst hr
          exact AtRet.pureG [.nil 3] [(.slice none 0 0, .sl 3 [])] rfl rfl ⟨none, 0, rfl, rfl⟩
        · replace hr := cond_f h36 hr
          obtain ⟨v37, h38, hr⟩ := bind_some hr
          refine (sign_Find_spec n v1 v33.1 a2 c2 _ h38).atR [0] rfl rfl rfl ?_
          rintro _ _ ⟨rfl, rfl⟩
          refine AtIf.mk (fun h39 => ?_) (fun h39 => ?_)
          · replace hr := cond_t h39 hr
            replace hr := Option.some.inj hr
            subst hr
            exact AtRet.pureG [.nil 3] [(.slice none 0 0, .sl 3 [])] rfl rfl ⟨none, 0, rfl, rfl⟩
          · replace hr := cond_f h39 hr
            obtain ⟨v40, h41, hr⟩ := bind_some hr
            refine (sign_Family_spec n v1 v37.1 a2 c2 _ h41).atR [0] rfl rfl rfl ?_
            rintro _ _ ⟨rfl, rfl⟩
            refine AtIf.mk (fun h42 => ?_) (fun h42 => ?_)
            · replace hr := cond_t h42 hr
              replace hr := Option.some.inj hr
              subst hr
              exact AtRet.pureG [.nil 3] [(.slice none 0 0, .sl 3 [])] rfl rfl ⟨none, 0, rfl, rfl⟩
            · replace hr := cond_f h42 hr
              obtain ⟨v43, h44, hr⟩ := bind_some hr
              obtain ⟨h45, h46⟩ := idx_some h44
              refine at_index ttOK 0 rfl rfl rfl rfl h45 (Dc.encL_get h46) ?_
              intro a47 c47 _ _
              obtain ⟨v48, h49, hr⟩ := bind_some hr
              refine (term_Domains_spec n v43.cls a47 c47 _ h49).atR [11] rfl rfl rfl ?_
              rintro _ _ ⟨a50, c50, a51, c51, rfl, rfl⟩
              obtain ⟨v52, h53, hr⟩ := bind_some hr
              obtain ⟨h54, h55⟩ := idx_some h53
              refine at_index ttOK 0 rfl rfl rfl rfl h54 (Dc.encL_get h55) ?_
              intro a56 c56 _ _
              refine AtIf.mk (fun h57 => ?_) (fun h57 => ?_)
              · replace hr := cond_t h57 hr
                replace hr := Option.some.inj hr
                subst hr
                exact AtRet.pureG [.nil 3] [(.slice none 0 0, .sl 3 [])] rfl rfl ⟨none, 0, rfl, rfl⟩
              · replace hr := cond_f h57 hr
                refine AtLoop.mk ⟨Nat × (List Int) × Option Addr × Nat × Int, fun x => [(4, (.loc 1 0)), (7, (.loc 5 0)), (10, (.v (.slice a35 ((List.map D.str v33.2.1).length) c35))), (12, (.v (.int .i64 v37.1))), (16, (.v (.int .i64 v52.implicit))), (17, (.v (.slice x.2.2.1 ((List.map (D.int .i64) x.2.1).length) x.2.2.2.1))), (117, (.v (.slice a26 ((List.map D.str v23.2.2).length) c26))), (118, (.v (.int .i64 ((List.map D.str v23.2.2).length : Int)))), (119, (.v (.int .i64 x.2.2.2.2)))], fun x => ⟨[.cells 28 [(.v (.string v3.word)), (.v (.string v3.name)), (.v (.int .i64 v3.raw.op)), (.v (.string v3.raw.name)), (.v (.slice a4 ((Rw.encL v3.raw.args).length) c4)), (.v (.slice a5 ((Pt.encL v3.parts).length) c5))], .cells 33 [(.v (.int .i64 0)), (.v (.int .i64 0)), (.v (.int .i64 0)), (.v (.slice none 0 0))], .imm [(.v (.int .i64 v10.op)), (.v (.string v10.sign)), (.v (.string v10.name)), (.v (.int .i64 v10.n)), (.v (.int .i64 v10.raw.op)), (.v (.string v10.raw.name)), (.v (.slice a14 ((Rw.encL v10.raw.args).length) c14)), (.v (.slice a15 ((Pt.encL v10.parts).length) c15))], .cells 95 [(.v (.slice a26 ((List.map D.str v23.2.2).length) c26))], .imm [(.v (.int .i64 v17.op)), (.v (.string v17.sign)), (.v (.string v17.name)), (.v (.int .i64 v17.n)), (.v (.int .i64 v17.raw.op)), (.v (.string v17.raw.name)), (.v (.slice a21 ((Rw.encL v17.raw.args).length) c21)), (.v (.slice a22 ((Pt.encL v17.parts).length) c22))], .cells 31 [(.v (.int .i64 v23.1.op)), (.v (.int .i64 v23.1.n)), (.v (.slice a25 ((Od.encL v23.1.parts).length) c25))], .imm [(.v (.int .i64 v27.op)), (.v (.string v27.sign)), (.v (.string v27.name)), (.v (.int .i64 v27.n)), (.v (.int .i64 v27.raw.op)), (.v (.string v27.raw.name)), (.v (.slice a31 ((Rw.encL v27.raw.args).length) c31)), (.v (.slice a32 ((Pt.encL v27.parts).length) c32))], .imm [(.v (.string v43.name)), (.v (.int .i64 v43.cls.op)), (.v (.int .i64 v43.cls.hd)), (.v (.int .i64 v43.cls.n)), (.v (.slice a47 ((Tm.encL v43.cls.args).length) c47)), (.v (.int .i64 v43.implicit))], .cells 72 [(.v (.int .i64 v48.2.op)), (.v (.int .i64 v48.2.hd)), (.v (.int .i64 v48.2.n)), (.v (.slice a51 ((Tm.encL v48.2.args).length) c51))], .imm [(.v (.string v52.name)), (.v (.int .i64 v52.cls.op)), (.v (.int .i64 v52.cls.hd)), (.v (.int .i64 v52.cls.n)), (.v (.slice a56 ((Tm.encL v52.cls.args).length) c56)), (.v (.int .i64 v52.implicit))]], [⟨.slice x.2.2.1 ((List.map (D.int .i64) x.2.1).length) x.2.2.2.1, 1, 3, (List.map (D.int .i64) x.2.1)⟩, ⟨.slice a26 ((List.map D.str v23.2.2).length) c26, 1, 9, (List.map D.str v23.2.2)⟩], [(.slice a2 ((Dc.encL v1).length) c2, .sl 6 (Dc.encL v1)), (.slice a4 ((Rw.encL v3.raw.args).length) c4, .sl 3 (Rw.encL v3.raw.args)), (.slice a5 ((Pt.encL v3.parts).length) c5, .sl 8 (Pt.encL v3.parts)), (.slice a14 ((Rw.encL v10.raw.args).length) c14, .sl 3 (Rw.encL v10.raw.args)), (.slice a15 ((Pt.encL v10.parts).length) c15, .sl 8 (Pt.encL v10.parts)), (.slice a21 ((Rw.encL v17.raw.args).length) c21, .sl 3 (Rw.encL v17.raw.args)), (.slice a22 ((Pt.encL v17.parts).length) c22, .sl 8 (Pt.encL v17.parts)), (.slice a25 ((Od.encL v23.1.parts).length) c25, .sl 3 (Od.encL v23.1.parts)), (.slice a31 ((Rw.encL v27.raw.args).length) c31, .sl 3 (Rw.encL v27.raw.args)), (.slice a32 ((Pt.encL v27.parts).length) c32, .sl 8 (Pt.encL v27.parts)), (.slice a35 ((List.map D.str v33.2.1).length) c35, .sl 1 (List.map D.str v33.2.1)), (.slice a47 ((Tm.encL v43.cls.args).length) c47, .sl 4 (Tm.encL v43.cls.args)), (.slice a50 ((Tm.encL v48.1).length) c50, .sl 4 (Tm.encL v48.1)), (.slice a51 ((Tm.encL v48.2.args).length) c51, .sl 4 (Tm.encL v48.2.args)), (.slice a56 ((Tm.encL v52.cls.args).length) c56, .sl 4 (Tm.encL v52.cls.args))]⟩, fun x => order_Read_L1 x.1 v23 v33 v52 v37 x.2.1 x.2.2.2.2 = some r, fun x => x.1, (n, [], none, 0, 0), hr, ⟨rfl, rfl, rfl, rfl, rfl, rfl, rfl, rfl, rfl, trivial⟩, (StLe.gen 10 [.nil 1 3, .old 0] [.old 0, .old 1, .old 2, .old 3, .old 4, .old 5, .old 6, .old 7, .old 8, .old 9, .old 10, .old 11, .old 12, .old 13, .old 14] rfl rfl rfl rfl rfl rfl rfl), fun x _ => ⟨rfl, rfl⟩, ?_⟩
                rintro ⟨n, v71, a72, c72, v73⟩ HH
                have hr : order_Read_L1 n v23 v33 v52 v37 v71 v73 = some r := HH
                rcases n with _ | n
                · exact no_some hr
                rw [order_Read_L1.eq_2] at hr
                refine AtIf.mk (fun h74 => ?_) (fun h74 => ?_)
                · replace hr := cond_t h74 hr
                  obtain ⟨h75, hr⟩ := cond_need hr
                  refine at_index_accG ttOK 1 rfl rfl rfl rfl h75 ?_
                  intro b76 h77
                  subst h77
                  obtain ⟨v78, h79, hr⟩ := bind_some hr
                  refine at_load_accG ttOK 1 rfl (map_get D.str h79) rfl (.inr rfl) rfl ?_
                  refine (indexS_spec v33.2.1 v78 a35 c35).atR [10] rfl rfl rfl ?_
                  rintro _ _ ⟨rfl, rfl⟩
                  refine AtGuard.mk (fun h80 => ?_) (fun h80 => ?_)
                  · replace hr := cond_f h80 hr
                    obtain ⟨h81, hr⟩ := cond_need hr
                    refine at_sliceG ttOK 10 (IntKind.i64.wrap ((idxS v78 v33.2.1 0) + 1)) ((List.map D.str v33.2.1).length : Int) (ds' := (List.map D.str (v33.2.1.drop (IntKind.i64.wrap ((idxS v78 v33.2.1 0) + 1)).toNat))) rfl rfl rfl (.inl ⟨_, rfl⟩) (.inr ⟨rfl, rfl⟩) h81 (sl_l ..) ?_
                    intro a82 c82
                    refine (containsS_spec (v33.2.1.drop (IntKind.i64.wrap ((idxS v78 v33.2.1 0) + 1)).toNat) v78 a82 c82).atR [15] rfl rfl rfl ?_
                    rintro _ _ ⟨rfl, rfl⟩
                    refine AtIf.mk (fun h83 => ?_) (fun h83 => ?_)
                    · replace hr := cond_t h83 hr
                      replace hr := Option.some.inj hr
                      subst hr
                      exact AtRet.pureG [.nil 3] [(.slice none 0 0, .sl 3 [])] rfl rfl ⟨none, 0, rfl, rfl⟩
                    · replace hr := cond_f h83 hr
                      refine at_buildG (n := 1) ttOK 8 [.int .i64 (IntKind.i64.wrap (v52.implicit + (idxS v78 v33.2.1 0)))] (ds' := (List.map (D.int .i64) ([(IntKind.i64.wrap (v52.implicit + (idxS v78 v33.2.1 0)))]))) rfl (by kernel_rfl) ⟨⟨rfl, rfl, rfl, rfl⟩, trivial⟩ rfl rfl (by decide) (by decide) ?_
                      intro a84
                      obtain ⟨h85, hr⟩ := cond_need hr
                      refine at_appendG (ds' := (List.map (D.int .i64) (v71 ++ [(IntKind.i64.wrap (v52.implicit + (idxS v78 v33.2.1 0)))]))) ttOK 8 0 16 rfl (by kernel_rfl) rfl rfl rfl rfl (by simp only [List.map_append]) h85 (by decide) ?_
                      intro a86 c86
                      exact ⟨(n, (v71 ++ [(IntKind.i64.wrap (v52.implicit + (idxS v78 v33.2.1 0)))]), a86, c86, (IntKind.i64.wrap (v73 + 1))), hr, Nat.lt_succ_self _, ⟨rfl, rfl, rfl, rfl, rfl, rfl, rfl, rfl, rfl, trivial⟩, (StLe.gen 10 [.old 0, .old 1] [.old 0, .old 1, .old 2, .old 3, .old 4, .old 5, .old 6, .old 7, .old 8, .old 9, .old 10, .old 11, .old 12, .old 13, .old 14] rfl rfl rfl rfl rfl rfl rfl)⟩
                  · replace hr := cond_t h80 hr
                    refine AtIf.mk (fun _ => ?_) (fun h => tf h)
                    replace hr := Option.some.inj hr
                    subst hr
                    exact AtRet.pureG [.nil 3] [(.slice none 0 0, .sl 3 [])] rfl rfl ⟨none, 0, rfl, rfl⟩
                · replace hr := cond_f h74 hr
                  obtain ⟨v87, h88, hr⟩ := bind_some hr
                  refine Meets.le (S' := ⟨[.cells 28 [(.v (.string v3.word)), (.v (.string v3.name)), (.v (.int .i64 v3.raw.op)), (.v (.string v3.raw.name)), (.v (.slice a4 ((Rw.encL v3.raw.args).length) c4)), (.v (.slice a5 ((Pt.encL v3.parts).length) c5))], .cells 33 [(.v (.int .i64 0)), (.v (.int .i64 0)), (.v (.int .i64 0)), (.v (.slice none 0 0))], .imm [(.v (.int .i64 v10.op)), (.v (.string v10.sign)), (.v (.string v10.name)), (.v (.int .i64 v10.n)), (.v (.int .i64 v10.raw.op)), (.v (.string v10.raw.name)), (.v (.slice a14 ((Rw.encL v10.raw.args).length) c14)), (.v (.slice a15 ((Pt.encL v10.parts).length) c15))], .cells 95 [(.v (.slice a26 ((List.map D.str v23.2.2).length) c26))], .imm [(.v (.int .i64 v17.op)), (.v (.string v17.sign)), (.v (.string v17.name)), (.v (.int .i64 v17.n)), (.v (.int .i64 v17.raw.op)), (.v (.string v17.raw.name)), (.v (.slice a21 ((Rw.encL v17.raw.args).length) c21)), (.v (.slice a22 ((Pt.encL v17.parts).length) c22))], .cells 31 [(.v (.int .i64 v23.1.op)), (.v (.int .i64 v23.1.n)), (.v (.slice a25 ((Od.encL v23.1.parts).length) c25))], .imm [(.v (.int .i64 v27.op)), (.v (.string v27.sign)), (.v (.string v27.name)), (.v (.int .i64 v27.n)), (.v (.int .i64 v27.raw.op)), (.v (.string v27.raw.name)), (.v (.slice a31 ((Rw.encL v27.raw.args).length) c31)), (.v (.slice a32 ((Pt.encL v27.parts).length) c32))], .imm [(.v (.string v43.name)), (.v (.int .i64 v43.cls.op)), (.v (.int .i64 v43.cls.hd)), (.v (.int .i64 v43.cls.n)), (.v (.slice a47 ((Tm.encL v43.cls.args).length) c47)), (.v (.int .i64 v43.implicit))], .cells 72 [(.v (.int .i64 v48.2.op)), (.v (.int .i64 v48.2.hd)), (.v (.int .i64 v48.2.n)), (.v (.slice a51 ((Tm.encL v48.2.args).length) c51))], .imm [(.v (.string v52.name)), (.v (.int .i64 v52.cls.op)), (.v (.int .i64 v52.cls.hd)), (.v (.int .i64 v52.cls.n)), (.v (.slice a56 ((Tm.encL v52.cls.args).length) c56)), (.v (.int .i64 v52.implicit))]], [⟨.slice a26 ((List.map D.str v23.2.2).length) c26, 1, 9, (List.map D.str v23.2.2)⟩], [(.slice a72 ((List.map (D.int .i64) v71).length) c72, .sl 1 (List.map (D.int .i64) v71)), (.slice a2 ((Dc.encL v1).length) c2, .sl 6 (Dc.encL v1)), (.slice a4 ((Rw.encL v3.raw.args).length) c4, .sl 3 (Rw.encL v3.raw.args)), (.slice a5 ((Pt.encL v3.parts).length) c5, .sl 8 (Pt.encL v3.parts)), (.slice a14 ((Rw.encL v10.raw.args).length) c14, .sl 3 (Rw.encL v10.raw.args)), (.slice a15 ((Pt.encL v10.parts).length) c15, .sl 8 (Pt.encL v10.parts)), (.slice a21 ((Rw.encL v17.raw.args).length) c21, .sl 3 (Rw.encL v17.raw.args)), (.slice a22 ((Pt.encL v17.parts).length) c22, .sl 8 (Pt.encL v17.parts)), (.slice a25 ((Od.encL v23.1.parts).length) c25, .sl 3 (Od.encL v23.1.parts)), (.slice a31 ((Rw.encL v27.raw.args).length) c31, .sl 3 (Rw.encL v27.raw.args)), (.slice a32 ((Pt.encL v27.parts).length) c32, .sl 8 (Pt.encL v27.parts)), (.slice a35 ((List.map D.str v33.2.1).length) c35, .sl 1 (List.map D.str v33.2.1)), (.slice a47 ((Tm.encL v43.cls.args).length) c47, .sl 4 (Tm.encL v43.cls.args)), (.slice a50 ((Tm.encL v48.1).length) c50, .sl 4 (Tm.encL v48.1)), (.slice a51 ((Tm.encL v48.2.args).length) c51, .sl 4 (Tm.encL v48.2.args)), (.slice a56 ((Tm.encL v52.cls.args).length) c56, .sl 4 (Tm.encL v52.cls.args))]⟩) (StLe.gen 10 [.old 1] [.froz 0, .old 0, .old 1, .old 2, .old 3, .old 4, .old 5, .old 6, .old 7, .old 8, .old 9, .old 10, .old 11, .old 12, .old 13, .old 14] rfl rfl rfl rfl rfl rfl rfl) rfl ?_
                  refine (order_renumbered_spec n v23.1 v71 a25 c25 a72 c72 _ h88).atR [8, 0] rfl rfl rfl ?_
                  rintro _ _ ⟨a89, c89, rfl, rfl⟩
                  replace hr := Option.some.inj hr
                  subst hr
                  exact AtRet.pureG [.old 16] [(.slice a89 ((Od.encL v87.parts).length) c89, .sl 3 (Od.encL v87.parts))] rfl rfl ⟨a89, c89, rfl, rfl⟩
    · replace hr := cond_t h9 hr
      refine AtIf.mk (fun _ => ?_) (fun h => tf h)
      replace hr := Option.some.inj hr
      subst hr
      exact AtRet.pureG [.nil 3] [(.slice none 0 0, .sl 3 [])] rfl rfl ⟨none, 0, rfl, rfl⟩
  · replace hr := cond_t h8 hr
    refine AtGuard.mk (fun h => tf h) (fun _ => ?_)
    refine AtIf.mk (fun _ => ?_) (fun h => tf h)
    replace hr := Option.some.inj hr
    subst hr
    exact AtRet.pureG [.nil 3] [(.slice none 0 0, .sl 3 [])] rfl rfl ⟨none, 0, rfl, rfl⟩
def R05_IsName : Nat → ByteArray → Option (Bool)
  | 0, _ => none
  | n + 1, v1 =>
    some (((isSmallF v1) && (!(v1.toList == (⟨#[116, 121, 112, 101]⟩ : ByteArray).toList))))
theorem R05_IsName_spec (n : Nat) (v1 : ByteArray)  (r : Bool) (hr : R05_IsName n v1 = some r) : Pure Tryz.prog (.val (.fn (.func 119) [] [])) [(.v (.string v1))] [] (fun r' out => r' = (.v (.bool r)) ∧ out = []) := by
  rcases n with _ | n
  · exact no_some hr
  rw [R05_IsName.eq_2] at hr
  refine spec_of_body (N := 9) (m := 0) (dt := fun _ => none) [] ttOK Tryz.func119 rfl Tryz.call119 Tryz.ntmps119 rfl rfl rfl mixed (by kernel_rfl) ?_
  refine (refIsSmall_spec v1).atR [] rfl rfl rfl ?_
  rintro _ _ ⟨rfl, rfl⟩
  replace hr := Option.some.inj hr
  subst hr
  exact AtRet.pureG [] [] rfl rfl ⟨rfl, rfl⟩
def R03_Free : Nat → Tm → Option ((List Int))
  | 0, _ => none
  | n + 1, v1 =>
    cond (decide ((0 : Int) ≤ 0 ∧ (0 : Int) + (v1.height : Int) ≤ 1000000 ∧ ([] : List Int).length + v1.count ≤ 1000000)) (
    some ((headsF 1 v1 0 ([])))) none
theorem R03_Free_spec (n : Nat) (v1 : Tm) (a2 : Option Addr) (c2 : Nat) (r : (List Int)) (hr : R03_Free n v1 = some r) : Pure Tryz.prog (.val (.fn (.func 106) [] [])) [(.agg [(.v (.int .i64 v1.op)), (.v (.int .i64 v1.hd)), (.v (.int .i64 v1.n)), (.v (.slice a2 ((Tm.encL v1.args).length) c2))])] [(.slice a2 ((Tm.encL v1.args).length) c2, .sl 4 (Tm.encL v1.args))] (fun r' out => ∃ (b1 : Option Addr) (d1 : Nat), r' = (.v (.slice b1 ((List.map (D.int .i64) r).length) d1)) ∧ out = [(.slice b1 ((List.map (D.int .i64) r).length) d1, .sl 1 (List.map (D.int .i64) r))]) := by
  rcases n with _ | n
  · exact no_some hr
  rw [R03_Free.eq_2] at hr
  refine spec_of_body (N := 5) (m := 0) (dt := fun _ => none) [] ttOK Tryz.func106 rfl Tryz.call106 Tryz.ntmps106 rfl rfl rfl mixed (by kernel_rfl) ?_
  obtain ⟨h3, hr⟩ := cond_need hr
  refine Meets.nilRep 1 ?_
  refine (heads0 1 v1 0 ([]) a2 none c2 0 (of_decide_eq_true h3).1 (of_decide_eq_true h3).2.1 (of_decide_eq_true h3).2.2).atR [1, 0] rfl rfl rfl ?_
  rintro _ _ ⟨a4, c4, rfl, rfl⟩
  replace hr := Option.some.inj hr
  subst hr
  exact AtRet.pureG [.old 2] [(.slice a4 ((List.map (D.int .i64) (headsF 1 v1 0 ([]))).length) c4, .sl 1 (List.map (D.int .i64) (headsF 1 v1 0 ([]))))] rfl rfl ⟨a4, c4, rfl, rfl⟩
def R03_Constants : Nat → Tm → Option ((List Int))
  | 0, _ => none
  | n + 1, v1 =>
    cond (decide ((0 : Int) ≤ 0 ∧ (0 : Int) + (v1.height : Int) ≤ 1000000 ∧ ([] : List Int).length + v1.count ≤ 1000000)) (
    some ((headsF 2 v1 0 ([])))) none
theorem R03_Constants_spec (n : Nat) (v1 : Tm) (a2 : Option Addr) (c2 : Nat) (r : (List Int)) (hr : R03_Constants n v1 = some r) : Pure Tryz.prog (.val (.fn (.func 176) [] [])) [(.agg [(.v (.int .i64 v1.op)), (.v (.int .i64 v1.hd)), (.v (.int .i64 v1.n)), (.v (.slice a2 ((Tm.encL v1.args).length) c2))])] [(.slice a2 ((Tm.encL v1.args).length) c2, .sl 4 (Tm.encL v1.args))] (fun r' out => ∃ (b1 : Option Addr) (d1 : Nat), r' = (.v (.slice b1 ((List.map (D.int .i64) r).length) d1)) ∧ out = [(.slice b1 ((List.map (D.int .i64) r).length) d1, .sl 1 (List.map (D.int .i64) r))]) := by
  rcases n with _ | n
  · exact no_some hr
  rw [R03_Constants.eq_2] at hr
  refine spec_of_body (N := 5) (m := 0) (dt := fun _ => none) [] ttOK Tryz.func176 rfl Tryz.call176 Tryz.ntmps176 rfl rfl rfl mixed (by kernel_rfl) ?_
  obtain ⟨h3, hr⟩ := cond_need hr
  refine Meets.nilRep 1 ?_
  refine (heads0 2 v1 0 ([]) a2 none c2 0 (of_decide_eq_true h3).1 (of_decide_eq_true h3).2.1 (of_decide_eq_true h3).2.2).atR [1, 0] rfl rfl rfl ?_
  rintro _ _ ⟨a4, c4, rfl, rfl⟩
  replace hr := Option.some.inj hr
  subst hr
  exact AtRet.pureG [.old 2] [(.slice a4 ((List.map (D.int .i64) (headsF 2 v1 0 ([]))).length) c4, .sl 1 (List.map (D.int .i64) (headsF 2 v1 0 ([]))))] rfl rfl ⟨a4, c4, rfl, rfl⟩
def R03_Metas : Nat → Tm → Option ((List Int))
  | 0, _ => none
  | n + 1, v1 =>
    cond (decide ((0 : Int) ≤ 0 ∧ (0 : Int) + (v1.height : Int) ≤ 1000000 ∧ ([] : List Int).length + v1.count ≤ 1000000)) (
    some ((headsF 3 v1 0 ([])))) none
theorem R03_Metas_spec (n : Nat) (v1 : Tm) (a2 : Option Addr) (c2 : Nat) (r : (List Int)) (hr : R03_Metas n v1 = some r) : Pure Tryz.prog (.val (.fn (.func 177) [] [])) [(.agg [(.v (.int .i64 v1.op)), (.v (.int .i64 v1.hd)), (.v (.int .i64 v1.n)), (.v (.slice a2 ((Tm.encL v1.args).length) c2))])] [(.slice a2 ((Tm.encL v1.args).length) c2, .sl 4 (Tm.encL v1.args))] (fun r' out => ∃ (b1 : Option Addr) (d1 : Nat), r' = (.v (.slice b1 ((List.map (D.int .i64) r).length) d1)) ∧ out = [(.slice b1 ((List.map (D.int .i64) r).length) d1, .sl 1 (List.map (D.int .i64) r))]) := by
  rcases n with _ | n
  · exact no_some hr
  rw [R03_Metas.eq_2] at hr
  refine spec_of_body (N := 5) (m := 0) (dt := fun _ => none) [] ttOK Tryz.func177 rfl Tryz.call177 Tryz.ntmps177 rfl rfl rfl mixed (by kernel_rfl) ?_
  obtain ⟨h3, hr⟩ := cond_need hr
  refine Meets.nilRep 1 ?_
  refine (heads0 3 v1 0 ([]) a2 none c2 0 (of_decide_eq_true h3).1 (of_decide_eq_true h3).2.1 (of_decide_eq_true h3).2.2).atR [1, 0] rfl rfl rfl ?_
  rintro _ _ ⟨a4, c4, rfl, rfl⟩
  replace hr := Option.some.inj hr
  subst hr
  exact AtRet.pureG [.old 2] [(.slice a4 ((List.map (D.int .i64) (headsF 3 v1 0 ([]))).length) c4, .sl 1 (List.map (D.int .i64) (headsF 3 v1 0 ([]))))] rfl rfl ⟨a4, c4, rfl, rfl⟩
def R05_closed : Nat → Tm → Int → Option (Bool)
  | 0, _, _ => none
  | n + 1, v1, v3 =>
    (R03_Constants n v1).bind (fun v4 =>
    (R03_Free n v1).bind (fun v7 =>
    cond (((List.map (D.int .i64) v7).length : Int) == 0) (
    (R03_Metas n v1).bind (fun v11 =>
    cond (((List.map (D.int .i64) v11).length : Int) == 0) (
    cond (((List.map (D.int .i64) v4).length : Int) == 0) (
    some (true)) (
    (idx v4 (IntKind.i64.wrap (((List.map (D.int .i64) v4).length : Int) - 1))).bind (fun v16 =>
    some ((decide (v16 < v3)))))) (
    some (false)))) (
    some (false))))
theorem R05_closed_spec (n : Nat) (v1 : Tm) (v3 : Int) (a2 : Option Addr) (c2 : Nat) (r : Bool) (hr : R05_closed n v1 v3 = some r) : Pure Tryz.prog (.val (.fn (.func 120) [] [])) [(.agg [(.v (.int .i64 v1.op)), (.v (.int .i64 v1.hd)), (.v (.int .i64 v1.n)), (.v (.slice a2 ((Tm.encL v1.args).length) c2))]), (.v (.int .i64 v3))] [(.slice a2 ((Tm.encL v1.args).length) c2, .sl 4 (Tm.encL v1.args))] (fun r' out => r' = (.v (.bool r)) ∧ out = []) := by
  rcases n with _ | n
  · exact no_some hr
  rw [R05_closed.eq_2] at hr
  refine spec_of_body (N := 33) (m := 0) (dt := fun _ => none) [] ttOK Tryz.func120 rfl Tryz.call120 Tryz.ntmps120 rfl rfl rfl mixed (by kernel_rfl) ?_
  obtain ⟨v4, h5, hr⟩ := bind_some hr
  refine (R03_Constants_spec n v1 a2 c2 _ h5).atR [0] rfl rfl rfl ?_
  rintro _ _ ⟨a6, c6, rfl, rfl⟩
  obtain ⟨v7, h8, hr⟩ := bind_some hr
  refine (R03_Free_spec n v1 a2 c2 _ h8).atR [0] rfl rfl rfl ?_
  rintro _ _ ⟨a9, c9, rfl, rfl⟩
  refine AtGuard.mk (fun h10 => ?_) (fun h10 => ?_)
  · replace hr := cond_t h10 hr
    obtain ⟨v11, h12, hr⟩ := bind_some hr
    refine (R03_Metas_spec n v1 a2 c2 _ h12).atR [0] rfl rfl rfl ?_
    rintro _ _ ⟨a13, c13, rfl, rfl⟩
    refine AtGuard.mk (fun h14 => ?_) (fun h14 => ?_)
    · replace hr := cond_t h14 hr
      refine AtGuard.mk (fun h15 => ?_) (fun h15 => ?_)
      · replace hr := cond_f h15 hr
        obtain ⟨v16, h17, hr⟩ := bind_some hr
        obtain ⟨h18, h19⟩ := idx_some h17
        refine at_index ttOK 1 rfl rfl rfl rfl h18 (map_get (D.int .i64) h19) ?_
        replace hr := Option.some.inj hr
        subst hr
        exact AtRet.pureG [] [] rfl rfl ⟨rfl, rfl⟩
      · replace hr := cond_t h15 hr
        replace hr := Option.some.inj hr
        subst hr
        exact AtRet.pureG [] [] rfl rfl ⟨rfl, rfl⟩
    · replace hr := cond_f h14 hr
      replace hr := Option.some.inj hr
      subst hr
      exact AtRet.pureG [] [] rfl rfl ⟨rfl, rfl⟩
  · replace hr := cond_f h10 hr
    refine AtGuard.mk (fun h => ff h) (fun _ => ?_)
    replace hr := Option.some.inj hr
    subst hr
    exact AtRet.pureG [] [] rfl rfl ⟨rfl, rfl⟩
mutual
def R05_formed : Nat → (List Dc) → Dc → Option (Bool)
  | 0, _, _ => none
  | n + 1, v1, v3 =>
    (R05_IsName n v3.name).bind (fun v5 =>
    cond (!v5) (
    some (false)) (
    cond (!(refProper v3.cls)) (
    some (false)) (
    (R05_closed n v3.cls ((Dc.encL v1).length : Int)).bind (fun v9 =>
    cond (!v9) (
    some (false)) (
    R05_formed_L1 n v1 v3 0)))))
def R05_formed_L1 : Nat → (List Dc) → Dc → Int → Option (Bool)
  | 0, _, _, _ => none
  | n + 1, v1, v3, v19 =>
    cond (decide (v19 < ((Dc.encL v1).length : Int))) (
    (idx v1 v19).bind (fun v21 =>
    cond (v21.name.toList == v3.name.toList) (
    some (false)) (
    R05_formed_L1 n v1 v3 (IntKind.i64.wrap (v19 + 1))))) (
    (R03_Split n v3.cls).bind (fun v27 =>
    cond (v27.2.op == 4) (
    cond (v27.2.hd != 2) (
    some (false)) (
    (R05_family n v1 v27.2.n).bind (fun v33 =>
    cond (!v33) (
    some (false)) (
    some (((((v27.2.op == 1) || (v27.2.op == 4)) && (decide (v3.implicit ≥ 0))) && (decide (v3.implicit ≤ ((Tm.encL v27.1).length : Int))))))))) (
    some (((((v27.2.op == 1) || (v27.2.op == 4)) && (decide (v3.implicit ≥ 0))) && (decide (v3.implicit ≤ ((Tm.encL v27.1).length : Int))))))))
 end
theorem R05_formed_spec (n : Nat) (v1 : (List Dc)) (v3 : Dc) (a2 : Option Addr) (c2 : Nat) (a4 : Option Addr) (c4 : Nat) (r : Bool) (hr : R05_formed n v1 v3 = some r) : Pure Tryz.prog (.val (.fn (.func 57) [] [])) [(.v (.slice a2 ((Dc.encL v1).length) c2)), (.agg [(.v (.string v3.name)), (.v (.int .i64 v3.cls.op)), (.v (.int .i64 v3.cls.hd)), (.v (.int .i64 v3.cls.n)), (.v (.slice a4 ((Tm.encL v3.cls.args).length) c4)), (.v (.int .i64 v3.implicit))])] [(.slice a2 ((Dc.encL v1).length) c2, .sl 6 (Dc.encL v1)), (.slice a4 ((Tm.encL v3.cls.args).length) c4, .sl 4 (Tm.encL v3.cls.args))] (fun r' out => r' = (.v (.bool r)) ∧ out = []) := by
  rcases n with _ | n
  · exact no_some hr
  rw [R05_formed.eq_2] at hr
  refine spec_of_body (N := 80) (m := 0) (dt := fun _ => none) [] ttOK Tryz.func57 rfl Tryz.call57 Tryz.ntmps57 rfl rfl rfl mixed (by kernel_rfl) ?_
  obtain ⟨v5, h6, hr⟩ := bind_some hr
  refine (R05_IsName_spec n v3.name _ h6).atR [] rfl rfl rfl ?_
  rintro _ _ ⟨rfl, rfl⟩
  refine AtGuard.mk (fun h7 => ?_) (fun h7 => ?_)
  · replace hr := cond_f h7 hr
    refine (refProper_spec v3.cls a4 c4).atR [1] rfl rfl rfl ?_
    rintro _ _ ⟨rfl, rfl⟩
    refine AtGuard.mk (fun h8 => ?_) (fun h8 => ?_)
    · replace hr := cond_f h8 hr
      obtain ⟨v9, h10, hr⟩ := bind_some hr
      refine (R05_closed_spec n v3.cls ((Dc.encL v1).length : Int) a4 c4 _ h10).atR [1] rfl rfl rfl ?_
      rintro _ _ ⟨rfl, rfl⟩
      refine AtIf.mk (fun h11 => ?_) (fun h11 => ?_)
      · replace hr := cond_t h11 hr
        replace hr := Option.some.inj hr
        subst hr
        exact AtRet.pureG [] [] rfl rfl ⟨rfl, rfl⟩
      · replace hr := cond_f h11 hr
        refine AtLoop.mk ⟨Nat × Int, fun x => [(0, (.v (.slice a2 ((Dc.encL v1).length) c2))), (3, (.loc 0 0)), (27, (.v (.slice a2 ((Dc.encL v1).length) c2))), (28, (.v (.int .i64 ((Dc.encL v1).length : Int)))), (29, (.v (.int .i64 x.2)))], fun x => ⟨[.cells 74 [(.v (.string v3.name)), (.v (.int .i64 v3.cls.op)), (.v (.int .i64 v3.cls.hd)), (.v (.int .i64 v3.cls.n)), (.v (.slice a4 ((Tm.encL v3.cls.args).length) c4)), (.v (.int .i64 v3.implicit))]], [], [(.slice a2 ((Dc.encL v1).length) c2, .sl 6 (Dc.encL v1)), (.slice a4 ((Tm.encL v3.cls.args).length) c4, .sl 4 (Tm.encL v3.cls.args))]⟩, fun x => R05_formed_L1 x.1 v1 v3 x.2 = some r, fun x => x.1, (n, 0), hr, ⟨rfl, rfl, rfl, rfl, rfl, trivial⟩, (StLe.gen 1 [] [.old 0, .old 1] rfl rfl rfl rfl rfl rfl rfl), fun x _ => ⟨rfl, rfl⟩, ?_⟩
        rintro ⟨n, v19⟩ HH
        have hr : R05_formed_L1 n v1 v3 v19 = some r := HH
        rcases n with _ | n
        · exact no_some hr
        rw [R05_formed_L1.eq_2] at hr
        refine AtIf.mk (fun h20 => ?_) (fun h20 => ?_)
        · replace hr := cond_t h20 hr
          obtain ⟨v21, h22, hr⟩ := bind_some hr
          obtain ⟨h23, h24⟩ := idx_some h22
          refine at_index ttOK 0 rfl rfl rfl rfl h23 (Dc.encL_get h24) ?_
          intro a25 c25 _ _
          refine AtIf.mk (fun h26 => ?_) (fun h26 => ?_)
          · replace hr := cond_t h26 hr
            replace hr := Option.some.inj hr
            subst hr
            exact AtRet.pureG [] [] rfl rfl ⟨rfl, rfl⟩
          · replace hr := cond_f h26 hr
            exact ⟨(n, (IntKind.i64.wrap (v19 + 1))), hr, Nat.lt_succ_self _, ⟨rfl, rfl, rfl, rfl, rfl, trivial⟩, (StLe.gen 1 [] [.old 0, .old 1] rfl rfl rfl rfl rfl rfl rfl)⟩
        · replace hr := cond_f h20 hr
          obtain ⟨v27, h28, hr⟩ := bind_some hr
          refine (R03_Split_spec n v3.cls a4 c4 _ h28).atR [1] rfl rfl rfl ?_
          rintro _ _ ⟨a29, c29, a30, c30, rfl, rfl⟩
          refine AtGuard.mk (fun h31 => ?_) (fun h31 => ?_)
          · replace hr := cond_t h31 hr
            refine AtGuard.mk (fun h32 => ?_) (fun h32 => ?_)
            · replace hr := cond_f h32 hr
              obtain ⟨v33, h34, hr⟩ := bind_some hr
              refine (R05_family_spec n v1 v27.2.n a2 c2 _ h34).atR [0] rfl rfl rfl ?_
              rintro _ _ ⟨rfl, rfl⟩
              refine AtIf.mk (fun h35 => ?_) (fun h35 => ?_)
              · replace hr := cond_t h35 hr
                replace hr := Option.some.inj hr
                subst hr
                exact AtRet.pureG [] [] rfl rfl ⟨rfl, rfl⟩
              · replace hr := cond_f h35 hr
                replace hr := Option.some.inj hr
                subst hr
                exact AtRet.pureG [] [] rfl rfl ⟨rfl, rfl⟩
            · replace hr := cond_t h32 hr
              refine AtIf.mk (fun _ => ?_) (fun h => tf h)
              replace hr := Option.some.inj hr
              subst hr
              exact AtRet.pureG [] [] rfl rfl ⟨rfl, rfl⟩
          · replace hr := cond_f h31 hr
            refine AtIf.mk (fun h => ff h) (fun _ => ?_)
            replace hr := Option.some.inj hr
            subst hr
            exact AtRet.pureG [] [] rfl rfl ⟨rfl, rfl⟩
    · replace hr := cond_t h8 hr
      refine AtIf.mk (fun _ => ?_) (fun h => tf h)
      replace hr := Option.some.inj hr
      subst hr
      exact AtRet.pureG [] [] rfl rfl ⟨rfl, rfl⟩
  · replace hr := cond_t h7 hr
    refine AtGuard.mk (fun h => tf h) (fun _ => ?_)
    refine AtIf.mk (fun _ => ?_) (fun h => tf h)
    replace hr := Option.some.inj hr
    subst hr
    exact AtRet.pureG [] [] rfl rfl ⟨rfl, rfl⟩
mutual
def R05_Formed : Nat → (List Dc) → Option (Bool)
  | 0, _ => none
  | n + 1, v1 =>
    R05_Formed_L1 n v1 0
def R05_Formed_L1 : Nat → (List Dc) → Int → Option (Bool)
  | 0, _, _ => none
  | n + 1, v1, v14 =>
    cond ((decide (v14 < ((Dc.encL v1).length : Int))) && (decide (((Dc.encL v1).length : Int) ≤ 100))) (
    cond (decide ((0 : Int) ≤ (0 : Int) ∧ (0 : Int) ≤ v14 ∧ v14 ≤ ((Dc.encL v1).length : Int))) (
    (idx v1 v14).bind (fun v18 =>
    (R05_formed n (v1.take v14.toNat) v18).bind (fun v23 =>
    cond (!v23) (
    some (false)) (
    R05_Formed_L1 n v1 (IntKind.i64.wrap (v14 + 1)))))) none) (
    some ((decide (((Dc.encL v1).length : Int) ≤ 100))))
 end
theorem R05_Formed_spec (n : Nat) (v1 : (List Dc)) (a2 : Option Addr) (c2 : Nat) (r : Bool) (hr : R05_Formed n v1 = some r) : Pure Tryz.prog (.val (.fn (.func 11) [] [])) [(.v (.slice a2 ((Dc.encL v1).length) c2))] [(.slice a2 ((Dc.encL v1).length) c2, .sl 6 (Dc.encL v1))] (fun r' out => r' = (.v (.bool r)) ∧ out = []) := by
  rcases n with _ | n
  · exact no_some hr
  rw [R05_Formed.eq_2] at hr
  refine spec_of_body (N := 27) (m := 0) (dt := drawsOf [(4, .node [0, 1, 2, 3, 4, 5, 6] [(7, .leaf [8])], [7], [])]) [] ttOK Tryz.func11 rfl Tryz.call11 Tryz.ntmps11 rfl rfl rfl mixed (by kernel_rfl) ?_
  refine AtLoop.mk ⟨Nat × Int, fun x => [(0, (.v (.slice a2 ((Dc.encL v1).length) c2))), (3, (.v (.int .i64 x.2)))], fun x => ⟨[], [], [(.slice a2 ((Dc.encL v1).length) c2, .sl 6 (Dc.encL v1))]⟩, fun x => R05_Formed_L1 x.1 v1 x.2 = some r, fun x => x.1, (n, 0), hr, ⟨rfl, rfl, trivial⟩, (StLe.gen 0 [] [.old 0] rfl rfl rfl rfl rfl rfl rfl), fun x _ => ⟨rfl, rfl⟩, ?_⟩
  rintro ⟨n, v14⟩ HH
  have hr : R05_Formed_L1 n v1 v14 = some r := HH
  rcases n with _ | n
  · exact no_some hr
  rw [R05_Formed_L1.eq_2] at hr
  refine AtIf.mk (fun h15 => ?_) (fun h15 => ?_)
  · replace hr := cond_t h15 hr
    obtain ⟨h16, hr⟩ := cond_need hr
    refine at_sliceG ttOK 0 0 v14 (ds' := (Dc.encL (v1.take v14.toNat))) rfl rfl rfl (.inr ⟨rfl, rfl⟩) (.inl ⟨_, rfl⟩) h16 (by simp only [Dc.encL_eq]; exact sl_h ..) ?_
    intro a17 c17
    obtain ⟨v18, h19, hr⟩ := bind_some hr
    obtain ⟨h20, h21⟩ := idx_some h19
    refine at_index ttOK 0 rfl rfl rfl rfl h20 (Dc.encL_get h21) ?_
    intro a22 c22 _ _
    obtain ⟨v23, h24, hr⟩ := bind_some hr
    refine (R05_formed_spec n (v1.take v14.toNat) v18 a17 c17 a22 c22 _ h24).atR [1, 2] rfl rfl rfl ?_
    rintro _ _ ⟨rfl, rfl⟩
    refine AtIf.mk (fun h25 => ?_) (fun h25 => ?_)
    · replace hr := cond_t h25 hr
      replace hr := Option.some.inj hr
      subst hr
      exact AtRet.pureG [] [] rfl rfl ⟨rfl, rfl⟩
    · replace hr := cond_f h25 hr
      exact ⟨(n, (IntKind.i64.wrap (v14 + 1))), hr, Nat.lt_succ_self _, ⟨rfl, rfl, trivial⟩, (StLe.gen 0 [] [.old 0] rfl rfl rfl rfl rfl rfl rfl)⟩
  · replace hr := cond_f h15 hr
    replace hr := Option.some.inj hr
    subst hr
    exact AtRet.pureG [] [] rfl rfl ⟨rfl, rfl⟩
mutual
def W15_valid : Nat → (List Dc) → Option (Bool)
  | 0, _ => none
  | n + 1, v1 =>
    W15_valid_L1 n v1 0 0
def W15_valid_L1 : Nat → (List Dc) → Int → Int → Option (Bool)
  | 0, _, _, _ => none
  | n + 1, v1, v11, v12 =>
    cond ((decide (v12 < ((Dc.encL v1).length : Int))) && (decide (v11 ≤ 3000))) (
    (idx v1 v12).bind (fun v14 =>
    (R03_Size n v14.cls).bind (fun v19 =>
    W15_valid_L1 n v1 (IntKind.i64.wrap (v11 + v19.1)) (IntKind.i64.wrap (v12 + 1))))) (
    cond (decide (v11 > 3000)) (
    some (false)) (
    (R05_Formed n v1).bind (fun v22 =>
    cond (!v22) (
    some (false)) (
    (R06_Signature n v1).bind (fun v25 =>
    some ((v25.2 == 0)))))))
 end
theorem W15_valid_spec (n : Nat) (v1 : (List Dc)) (a2 : Option Addr) (c2 : Nat) (r : Bool) (hr : W15_valid n v1 = some r) : Pure Tryz.prog (.val (.fn (.func 15) [] [])) [(.v (.slice a2 ((Dc.encL v1).length) c2))] [(.slice a2 ((Dc.encL v1).length) c2, .sl 6 (Dc.encL v1))] (fun r' out => r' = (.v (.bool r)) ∧ out = []) := by
  rcases n with _ | n
  · exact no_some hr
  rw [W15_valid.eq_2] at hr
  refine spec_of_body (N := 45) (m := 0) (dt := fun _ => none) [] ttOK Tryz.func15 rfl Tryz.call15 Tryz.ntmps15 rfl rfl rfl mixed (by kernel_rfl) ?_
  refine AtLoop.mk ⟨Nat × Int × Int, fun x => [(0, (.v (.slice a2 ((Dc.encL v1).length) c2))), (3, (.v (.int .i64 x.2.1))), (4, (.v (.int .i64 x.2.2)))], fun x => ⟨[], [], [(.slice a2 ((Dc.encL v1).length) c2, .sl 6 (Dc.encL v1))]⟩, fun x => W15_valid_L1 x.1 v1 x.2.1 x.2.2 = some r, fun x => x.1, (n, 0, 0), hr, ⟨rfl, rfl, rfl, trivial⟩, (StLe.gen 0 [] [.old 0] rfl rfl rfl rfl rfl rfl rfl), fun x _ => ⟨rfl, rfl⟩, ?_⟩
  rintro ⟨n, v11, v12⟩ HH
  have hr : W15_valid_L1 n v1 v11 v12 = some r := HH
  rcases n with _ | n
  · exact no_some hr
  rw [W15_valid_L1.eq_2] at hr
  refine AtIf.mk (fun h13 => ?_) (fun h13 => ?_)
  · replace hr := cond_t h13 hr
    obtain ⟨v14, h15, hr⟩ := bind_some hr
    obtain ⟨h16, h17⟩ := idx_some h15
    refine at_index ttOK 0 rfl rfl rfl rfl h16 (Dc.encL_get h17) ?_
    intro a18 c18 _ _
    obtain ⟨v19, h20, hr⟩ := bind_some hr
    refine (R03_Size_spec n v14.cls a18 c18 _ h20).atR [1] rfl rfl rfl ?_
    rintro _ _ ⟨rfl, rfl⟩
    exact ⟨(n, (IntKind.i64.wrap (v11 + v19.1)), (IntKind.i64.wrap (v12 + 1))), hr, Nat.lt_succ_self _, ⟨rfl, rfl, rfl, trivial⟩, (StLe.gen 0 [] [.old 0] rfl rfl rfl rfl rfl rfl rfl)⟩
  · replace hr := cond_f h13 hr
    refine AtGuard.mk (fun h21 => ?_) (fun h21 => ?_)
    · replace hr := cond_f h21 hr
      obtain ⟨v22, h23, hr⟩ := bind_some hr
      refine (R05_Formed_spec n v1 a2 c2 _ h23).atR [0] rfl rfl rfl ?_
      rintro _ _ ⟨rfl, rfl⟩
      refine AtIf.mk (fun h24 => ?_) (fun h24 => ?_)
      · replace hr := cond_t h24 hr
        replace hr := Option.some.inj hr
        subst hr
        exact AtRet.pureG [] [] rfl rfl ⟨rfl, rfl⟩
      · replace hr := cond_f h24 hr
        obtain ⟨v25, h26, hr⟩ := bind_some hr
        refine (R06_Signature_spec n v1 a2 c2 _ h26).atR [0] rfl rfl rfl ?_
        rintro _ _ ⟨rfl, rfl⟩
        replace hr := Option.some.inj hr
        subst hr
        exact AtRet.pureG [] [] rfl rfl ⟨rfl, rfl⟩
    · replace hr := cond_t h21 hr
      refine AtIf.mk (fun _ => ?_) (fun h => tf h)
      replace hr := Option.some.inj hr
      subst hr
      exact AtRet.pureG [] [] rfl rfl ⟨rfl, rfl⟩
def R03_below : Nat → Tm → Int → Option (Int)
  | 0, _, _ => none
  | n + 1, v1, v3 =>
    cond ((v1.op == 3) || ((v1.op == 2) && (v3 == 1))) (
    some (1)) (
    some (0))
theorem R03_below_spec (n : Nat) (v1 : Tm) (v3 : Int) (a2 : Option Addr) (c2 : Nat) (r : Int) (hr : R03_below n v1 v3 = some r) : Pure Tryz.prog (.val (.fn (.func 164) [] [])) [(.agg [(.v (.int .i64 v1.op)), (.v (.int .i64 v1.hd)), (.v (.int .i64 v1.n)), (.v (.slice a2 ((Tm.encL v1.args).length) c2))]), (.v (.int .i64 v3))] [(.slice a2 ((Tm.encL v1.args).length) c2, .sl 4 (Tm.encL v1.args))] (fun r' out => r' = (.v (.int .i64 r)) ∧ out = []) := by
  rcases n with _ | n
  · exact no_some hr
  rw [R03_below.eq_2] at hr
  refine spec_of_body (N := 17) (m := 0) (dt := fun _ => none) [] ttOK Tryz.func164 rfl Tryz.call164 Tryz.ntmps164 rfl rfl rfl mixed (by kernel_rfl) ?_
  refine AtIf.mk (fun h4 => ?_) (fun h4 => ?_)
  · replace hr := cond_t h4 hr
    replace hr := Option.some.inj hr
    subst hr
    exact AtRet.pureG [] [] rfl rfl ⟨rfl, rfl⟩
  · replace hr := cond_f h4 hr
    replace hr := Option.some.inj hr
    subst hr
    exact AtRet.pureG [] [] rfl rfl ⟨rfl, rfl⟩
mutual
def R03_low : Nat → Tm → Int → Int → Option (Bool)
  | 0, _, _, _ => none
  | n + 1, v1, v3, v4 =>
    cond ((((v1.op == 4) && (v1.hd == 1)) && (decide (v1.n ≥ v3))) && (decide (v1.n ≤ v4))) (
    some (true)) (
    R03_low_L1 n v1 v3 v4 0)
def R03_low_L1 : Nat → Tm → Int → Int → Int → Option (Bool)
  | 0, _, _, _, _ => none
  | n + 1, v1, v3, v4, v17 =>
    cond (decide (v17 < ((Tm.encL v1.args).length : Int))) (
    (R03_below n v1 v17).bind (fun v19 =>
    (idx v1.args v17).bind (fun v21 =>
    (R03_low n v21 (IntKind.i64.wrap (v3 + v19)) (IntKind.i64.wrap (v4 + v19))).bind (fun v26 =>
    cond v26 (
    some (true)) (
    R03_low_L1 n v1 v3 v4 (IntKind.i64.wrap (v17 + 1))))))) (
    some (false))
 end
theorem R03_low_specN : ∀ (N : Nat), (∀ (n : Nat), n ≤ N → ∀ (v1 : Tm) (v3 : Int) (v4 : Int) (a2 : Option Addr) (c2 : Nat) (r : Bool), R03_low n v1 v3 v4 = some r → Pure Tryz.prog (.val (.fn (.func 103) [] [])) [(.agg [(.v (.int .i64 v1.op)), (.v (.int .i64 v1.hd)), (.v (.int .i64 v1.n)), (.v (.slice a2 ((Tm.encL v1.args).length) c2))]), (.v (.int .i64 v3)), (.v (.int .i64 v4))] [(.slice a2 ((Tm.encL v1.args).length) c2, .sl 4 (Tm.encL v1.args))] (fun r' out => r' = (.v (.bool r)) ∧ out = [])) := by
  intro N
  induction N with
  | zero =>
    intro n hn v1 v3 v4 a2 c2 r hr; obtain rfl : n = 0 := (by omega); exact no_some hr
  | succ N ih =>
    intro n hn v1 v3 v4 a2 c2 r hr
    rcases n with _ | n
    · exact no_some hr
    replace hn : n ≤ N := by omega
    rw [R03_low.eq_2] at hr
    refine spec_of_body (N := 51) (m := 0) (dt := fun _ => none) [] ttOK Tryz.func103 rfl Tryz.call103 Tryz.ntmps103 rfl rfl rfl mixed (by kernel_rfl) ?_
    refine AtIf.mk (fun h5 => ?_) (fun h5 => ?_)
    · replace hr := cond_t h5 hr
      replace hr := Option.some.inj hr
      subst hr
      exact AtRet.pureG [] [] rfl rfl ⟨rfl, rfl⟩
    · replace hr := cond_f h5 hr
      refine AtLoop.mk ⟨Nat × Int, fun x => [(1, (.v (.int .i64 v3))), (2, (.v (.int .i64 v4))), (3, (.loc 0 0)), (7, (.v (.int .i64 x.2)))], fun x => ⟨[.cells 72 [(.v (.int .i64 v1.op)), (.v (.int .i64 v1.hd)), (.v (.int .i64 v1.n)), (.v (.slice a2 ((Tm.encL v1.args).length) c2))]], [], [(.slice a2 ((Tm.encL v1.args).length) c2, .sl 4 (Tm.encL v1.args))]⟩, fun x => x.1 ≤ N ∧ R03_low_L1 x.1 v1 v3 v4 x.2 = some r, fun x => x.1, (n, 0), ⟨by omega, hr⟩, ⟨rfl, rfl, rfl, rfl, trivial⟩, (StLe.gen 1 [] [.old 0] rfl rfl rfl rfl rfl rfl rfl), fun x _ => ⟨rfl, rfl⟩, ?_⟩
      rintro ⟨n, v17⟩ HH
      obtain ⟨hn, hr⟩ : n ≤ N ∧ R03_low_L1 n v1 v3 v4 v17 = some r := HH
      rcases n with _ | n
      · exact no_some hr
      rw [R03_low_L1.eq_2] at hr
      refine AtIf.mk (fun h18 => ?_) (fun h18 => ?_)
      · replace hr := cond_t h18 hr
        obtain ⟨v19, h20, hr⟩ := bind_some hr
        refine (R03_below_spec n v1 v17 a2 c2 _ h20).atR [0] rfl rfl rfl ?_
        rintro _ _ ⟨rfl, rfl⟩
        obtain ⟨v21, h22, hr⟩ := bind_some hr
        obtain ⟨h23, h24⟩ := idx_some h22
        refine at_index ttOK 0 rfl rfl rfl rfl h23 (Tm.encL_get h24) ?_
        intro a25 c25 _ _
        obtain ⟨v26, h27, hr⟩ := bind_some hr
        refine (ih n (by omega) v21 (IntKind.i64.wrap (v3 + v19)) (IntKind.i64.wrap (v4 + v19)) a25 c25 _ h27).atR [1] rfl rfl rfl ?_
        rintro _ _ ⟨rfl, rfl⟩
        refine AtIf.mk (fun h28 => ?_) (fun h28 => ?_)
        · replace hr := cond_t h28 hr
          replace hr := Option.some.inj hr
          subst hr
          exact AtRet.pureG [] [] rfl rfl ⟨rfl, rfl⟩
        · replace hr := cond_f h28 hr
          exact ⟨(n, (IntKind.i64.wrap (v17 + 1))), ⟨by omega, hr⟩, Nat.lt_succ_self _, ⟨rfl, rfl, rfl, rfl, trivial⟩, (StLe.gen 1 [] [.old 0] rfl rfl rfl rfl rfl rfl rfl)⟩
      · replace hr := cond_f h18 hr
        replace hr := Option.some.inj hr
        subst hr
        exact AtRet.pureG [] [] rfl rfl ⟨rfl, rfl⟩
theorem R03_low_spec (n : Nat) (v1 : Tm) (v3 : Int) (v4 : Int) (a2 : Option Addr) (c2 : Nat) (r : Bool) (hr : R03_low n v1 v3 v4 = some r) : Pure Tryz.prog (.val (.fn (.func 103) [] [])) [(.agg [(.v (.int .i64 v1.op)), (.v (.int .i64 v1.hd)), (.v (.int .i64 v1.n)), (.v (.slice a2 ((Tm.encL v1.args).length) c2))]), (.v (.int .i64 v3)), (.v (.int .i64 v4))] [(.slice a2 ((Tm.encL v1.args).length) c2, .sl 4 (Tm.encL v1.args))] (fun r' out => r' = (.v (.bool r)) ∧ out = []) := (R03_low_specN n) n (Nat.le_refl _) v1 v3 v4 a2 c2 r hr
def R03_Occurs : Nat → Tm → Int → Option (Bool)
  | 0, _, _ => none
  | n + 1, v1, v3 =>
    cond (decide (v3 ≥ 0)) (
    (R03_low n v1 v3 v3).bind (fun v5 =>
    some (v5))) (
    some (false))
theorem R03_Occurs_spec (n : Nat) (v1 : Tm) (v3 : Int) (a2 : Option Addr) (c2 : Nat) (r : Bool) (hr : R03_Occurs n v1 v3 = some r) : Pure Tryz.prog (.val (.fn (.func 40) [] [])) [(.agg [(.v (.int .i64 v1.op)), (.v (.int .i64 v1.hd)), (.v (.int .i64 v1.n)), (.v (.slice a2 ((Tm.encL v1.args).length) c2))]), (.v (.int .i64 v3))] [(.slice a2 ((Tm.encL v1.args).length) c2, .sl 4 (Tm.encL v1.args))] (fun r' out => r' = (.v (.bool r)) ∧ out = []) := by
  rcases n with _ | n
  · exact no_some hr
  rw [R03_Occurs.eq_2] at hr
  refine spec_of_body (N := 13) (m := 0) (dt := fun _ => none) [] ttOK Tryz.func40 rfl Tryz.call40 Tryz.ntmps40 rfl rfl rfl mixed (by kernel_rfl) ?_
  refine AtGuard.mk (fun h4 => ?_) (fun h4 => ?_)
  · replace hr := cond_t h4 hr
    obtain ⟨v5, h6, hr⟩ := bind_some hr
    refine (R03_low_spec n v1 v3 v3 a2 c2 _ h6).atR [0] rfl rfl rfl ?_
    rintro _ _ ⟨rfl, rfl⟩
    replace hr := Option.some.inj hr
    subst hr
    exact AtRet.pureG [] [] rfl rfl ⟨rfl, rfl⟩
  · replace hr := cond_f h4 hr
    replace hr := Option.some.inj hr
    subst hr
    exact AtRet.pureG [] [] rfl rfl ⟨rfl, rfl⟩
mutual
def R13_Dependent : Nat → Tm → Option ((List Bool))
  | 0, _ => none
  | n + 1, v1 =>
    R13_Dependent_L1 n v1 ([])
def R13_Dependent_L1 : Nat → Tm → (List Bool) → Option ((List Bool))
  | 0, _, _ => none
  | n + 1, v19, v21 =>
    cond (v19.op == 2) (
    (idx v19.args 1).bind (fun v24 =>
    (R03_Occurs n v24 0).bind (fun v29 =>
    cond (decide ((List.map D.bool (v21 ++ [v29])).length ≤ 1000000)) (
    (idx v19.args 1).bind (fun v34 =>
    R13_Dependent_L1 n v34 (v21 ++ [v29]))) none))) (
    some (v21))
 end
theorem R13_Dependent_spec (n : Nat) (v1 : Tm) (a2 : Option Addr) (c2 : Nat) (r : (List Bool)) (hr : R13_Dependent n v1 = some r) : Pure Tryz.prog (.val (.fn (.func 86) [] [])) [(.agg [(.v (.int .i64 v1.op)), (.v (.int .i64 v1.hd)), (.v (.int .i64 v1.n)), (.v (.slice a2 ((Tm.encL v1.args).length) c2))])] [(.slice a2 ((Tm.encL v1.args).length) c2, .sl 4 (Tm.encL v1.args))] (fun r' out => ∃ (b1 : Option Addr) (d1 : Nat), r' = (.v (.slice b1 ((List.map D.bool r).length) d1)) ∧ out = [(.slice b1 ((List.map D.bool r).length) d1, .sl 1 (List.map D.bool r))]) := by
  rcases n with _ | n
  · exact no_some hr
  rw [R13_Dependent.eq_2] at hr
  refine spec_of_body (N := 23) (m := 0) (dt := fun _ => none) [] ttOK Tryz.func86 rfl Tryz.call86 Tryz.ntmps86 rfl rfl rfl mixed (by kernel_rfl) ?_
  refine AtLoop.mkR ⟨Nat × Tm × Option Addr × Nat × (List Bool) × Option Addr × Nat, fun x => [(3, (.v (.slice x.2.2.2.2.2.1 ((List.map D.bool x.2.2.2.2.1).length) x.2.2.2.2.2.2))), (4, (.loc 1 0))], fun x => ⟨[.cells 72 [(.v (.int .i64 v1.op)), (.v (.int .i64 v1.hd)), (.v (.int .i64 v1.n)), (.v (.slice a2 ((Tm.encL v1.args).length) c2))], .cells 72 [(.v (.int .i64 x.2.1.op)), (.v (.int .i64 x.2.1.hd)), (.v (.int .i64 x.2.1.n)), (.v (.slice x.2.2.1 ((Tm.encL x.2.1.args).length) x.2.2.2.1))]], [⟨.slice x.2.2.2.2.2.1 ((List.map D.bool x.2.2.2.2.1).length) x.2.2.2.2.2.2, 1, 4, (List.map D.bool x.2.2.2.2.1)⟩], [(.slice x.2.2.1 ((Tm.encL x.2.1.args).length) x.2.2.2.1, .sl 4 (Tm.encL x.2.1.args)), (.slice a2 ((Tm.encL v1.args).length) c2, .sl 4 (Tm.encL v1.args))]⟩, fun x => R13_Dependent_L1 x.1 x.2.1 x.2.2.2.2.1 = some r, fun x => x.1, (n, v1, a2, c2, [], none, 0), hr, ⟨rfl, rfl, trivial⟩, (StLe.gen 2 [.nil 1 4] [.old 0, .old 0] rfl rfl rfl rfl rfl rfl rfl), fun x _ => ⟨rfl, rfl⟩, ?_⟩
  rintro ⟨n, v19, a20, c20, v21, a22, c22⟩ HH
  have hr : R13_Dependent_L1 n v19 v21 = some r := HH
  rcases n with _ | n
  · exact no_some hr
  rw [R13_Dependent_L1.eq_2] at hr
  refine AtIf.mk (fun h23 => ?_) (fun h23 => ?_)
  · replace hr := cond_t h23 hr
    obtain ⟨v24, h25, hr⟩ := bind_some hr
    obtain ⟨h26, h27⟩ := idx_some h25
    refine at_index ttOK 0 rfl rfl rfl rfl h26 (Tm.encL_get h27) ?_
    intro a28 c28 _ _
    obtain ⟨v29, h30, hr⟩ := bind_some hr
    refine (R03_Occurs_spec n v24 0 a28 c28 _ h30).atR [2] rfl rfl rfl ?_
    rintro _ _ ⟨rfl, rfl⟩
    refine at_buildG (n := 1) ttOK 1 [.bool v29] (ds' := (List.map D.bool ([v29]))) rfl (by kernel_rfl) ⟨⟨rfl, rfl, rfl, rfl⟩, trivial⟩ rfl rfl (by decide) (by decide) ?_
    intro a31
    obtain ⟨h32, hr⟩ := cond_need hr
    refine at_appendG (ds' := (List.map D.bool (v21 ++ [v29]))) ttOK 1 0 3 rfl (by kernel_rfl) rfl rfl rfl rfl (by simp only [List.map_append]) h32 (by decide) ?_
    intro a33 c33
    obtain ⟨v34, h35, hr⟩ := bind_some hr
    obtain ⟨h36, h37⟩ := idx_some h35
    refine at_index ttOK 0 rfl rfl rfl rfl h36 (Tm.encL_get h37) ?_
    intro a38 c38 _ _
    exact ⟨(n, v34, a38, c38, (v21 ++ [v29]), a33, c33), [0, 3], hr, Nat.lt_succ_self _, ⟨rfl, rfl, trivial⟩, (StLeR.gen [0, 3] [.old 0] [.old 4, .old 1] rfl rfl rfl rfl rfl rfl rfl), rfl⟩
  · replace hr := cond_f h23 hr
    replace hr := Option.some.inj hr
    subst hr
    exact AtRet.pureG [.froz 0] [(.slice a22 ((List.map D.bool v21).length) c22, .sl 1 (List.map D.bool v21))] rfl rfl ⟨a22, c22, rfl, rfl⟩
def R14_Dependent : Nat → Tm → Option ((List Bool))
  | 0, _ => none
  | n + 1, v1 =>
    (R13_Dependent n v1).bind (fun v3 =>
    some (v3))
theorem R14_Dependent_spec (n : Nat) (v1 : Tm) (a2 : Option Addr) (c2 : Nat) (r : (List Bool)) (hr : R14_Dependent n v1 = some r) : Pure Tryz.prog (.val (.fn (.func 33) [] [])) [(.agg [(.v (.int .i64 v1.op)), (.v (.int .i64 v1.hd)), (.v (.int .i64 v1.n)), (.v (.slice a2 ((Tm.encL v1.args).length) c2))])] [(.slice a2 ((Tm.encL v1.args).length) c2, .sl 4 (Tm.encL v1.args))] (fun r' out => ∃ (b1 : Option Addr) (d1 : Nat), r' = (.v (.slice b1 ((List.map D.bool r).length) d1)) ∧ out = [(.slice b1 ((List.map D.bool r).length) d1, .sl 1 (List.map D.bool r))]) := by
  rcases n with _ | n
  · exact no_some hr
  rw [R14_Dependent.eq_2] at hr
  refine spec_of_body (N := 5) (m := 0) (dt := fun _ => none) [] ttOK Tryz.func33 rfl Tryz.call33 Tryz.ntmps33 rfl rfl rfl mixed (by kernel_rfl) ?_
  obtain ⟨v3, h4, hr⟩ := bind_some hr
  refine (R13_Dependent_spec n v1 a2 c2 _ h4).atR [0] rfl rfl rfl ?_
  rintro _ _ ⟨a5, c5, rfl, rfl⟩
  replace hr := Option.some.inj hr
  subst hr
  exact AtRet.pureG [.old 1] [(.slice a5 ((List.map D.bool v3).length) c5, .sl 1 (List.map D.bool v3))] rfl rfl ⟨a5, c5, rfl, rfl⟩
def R15_spine : Nat → Rw → Option (ByteArray × (List ByteArray) × Bool)
  | 0, _ => none
  | n + 1, v1 =>
    cond (v1.op == 2) (
    some (v1.name, [], true)) (
    cond ((v1.op != 4) || (((Rw.encL v1.args).length : Int) != 2)) (
    some (⟨#[]⟩, [], false)) (
    (idx v1.args 1).bind (fun v5 =>
    cond (v5.op != 2) (
    (idx v1.args 1).bind (fun v11 =>
    cond (v11.op != 3) (
    some (⟨#[]⟩, [], false)) (
    (idx v1.args 0).bind (fun v17 =>
    (R15_spine n v17).bind (fun v22 =>
    (idx v1.args 1).bind (fun v25 =>
    cond (decide ((List.map D.str (v22.2.1 ++ [v25.name])).length ≤ 1000000)) (
    some (v22.1, (v22.2.1 ++ [v25.name]), v22.2.2)) none)))))) (
    (idx v1.args 0).bind (fun v33 =>
    (R15_spine n v33).bind (fun v38 =>
    (idx v1.args 1).bind (fun v41 =>
    cond (decide ((List.map D.str (v38.2.1 ++ [v41.name])).length ≤ 1000000)) (
    some (v38.1, (v38.2.1 ++ [v41.name]), v38.2.2)) none)))))))
theorem R15_spine_specN : ∀ (N : Nat), (∀ (n : Nat), n ≤ N → ∀ (v1 : Rw) (a2 : Option Addr) (c2 : Nat) (r : ByteArray × (List ByteArray) × Bool), R15_spine n v1 = some r → Meets Tryz.prog (.val (.fn (.func 68) [] [])) [(.agg [(.v (.int .i64 v1.op)), (.v (.string v1.name)), (.v (.slice a2 ((Rw.encL v1.args).length) c2))])] ⟨[], [], [(.slice a2 ((Rw.encL v1.args).length) c2, .sl 3 (Rw.encL v1.args))]⟩ (fun o S' => ∃ (b1 : Option Addr) (d1 : Nat), o = .ret (.tup [(.v (.string r.1)), (.v (.slice b1 ((List.map D.str r.2.1).length) d1)), (.v (.bool r.2.2))]) ∧ S' = ⟨[], [⟨.slice b1 ((List.map D.str r.2.1).length) d1, 1, 9, (List.map D.str r.2.1)⟩], []⟩)) := by
  intro N
  induction N with
  | zero =>
    intro n hn v1 a2 c2 r hr; obtain rfl : n = 0 := (by omega); exact no_some hr
  | succ N ih =>
    intro n hn v1 a2 c2 r hr
    rcases n with _ | n
    · exact no_some hr
    replace hn : n ≤ N := by omega
    rw [R15_spine.eq_2] at hr
    refine spec_of_body (N := 57) (m := 0) (dt := fun _ => none) [] ttOK Tryz.func68 rfl Tryz.call68 Tryz.ntmps68 rfl rfl rfl mixed (by kernel_rfl) ?_
    refine AtIf.mk (fun h3 => ?_) (fun h3 => ?_)
    · replace hr := cond_t h3 hr
      replace hr := Option.some.inj hr
      subst hr
      exact AtRet.gen ⟨[], [⟨.slice none 0 0, 1, 9, []⟩], []⟩ (StLe.gen 0 [.nil 1 9] [] rfl rfl rfl rfl rfl rfl rfl) rfl rfl ⟨none, 0, rfl, rfl⟩
    · replace hr := cond_f h3 hr
      refine AtGuard.mk (fun h4 => ?_) (fun h4 => ?_)
      · replace hr := cond_f h4 hr
        obtain ⟨v5, h6, hr⟩ := bind_some hr
        obtain ⟨h7, h8⟩ := idx_some h6
        refine at_index ttOK 0 rfl rfl rfl rfl h7 (Rw.encL_get h8) ?_
        intro a9 c9 _ _
        refine AtGuard.mk (fun h10 => ?_) (fun h10 => ?_)
        · replace hr := cond_t h10 hr
          obtain ⟨v11, h12, hr⟩ := bind_some hr
          obtain ⟨h13, h14⟩ := idx_some h12
          refine at_index ttOK 0 rfl rfl rfl rfl h13 (Rw.encL_get h14) ?_
          intro a15 c15 _ _
          refine AtIf.mk (fun h16 => ?_) (fun h16 => ?_)
          · replace hr := cond_t h16 hr
            replace hr := Option.some.inj hr
            subst hr
            exact AtRet.gen ⟨[], [⟨.slice none 0 0, 1, 9, []⟩], []⟩ (StLe.gen 0 [.nil 1 9] [] rfl rfl rfl rfl rfl rfl rfl) rfl rfl ⟨none, 0, rfl, rfl⟩
          · replace hr := cond_f h16 hr
            obtain ⟨v17, h18, hr⟩ := bind_some hr
            obtain ⟨h19, h20⟩ := idx_some h18
            refine at_index ttOK 0 rfl rfl rfl rfl h19 (Rw.encL_get h20) ?_
            intro a21 c21 _ _
            obtain ⟨v22, h23, hr⟩ := bind_some hr
            refine (ih n (by omega) v17 a21 c21 _ h23).frameRA [] [] [3] rfl rfl rfl rfl rfl rfl rfl rfl rfl ?_
            rintro _ _ ⟨a24, c24, rfl, rfl⟩
            refine ⟨rfl, [], rfl, ?_⟩
            obtain ⟨v25, h26, hr⟩ := bind_some hr
            obtain ⟨h27, h28⟩ := idx_some h26
            refine at_index ttOK 0 rfl rfl rfl rfl h27 (Rw.encL_get h28) ?_
            intro a29 c29 _ _
            refine at_buildG (n := 1) ttOK 16 [.str v25.name] (ds' := (List.map D.str ([v25.name]))) rfl (by kernel_rfl) ⟨⟨rfl, rfl, rfl, rfl⟩, trivial⟩ rfl rfl (by decide) (by decide) ?_
            intro a30
            obtain ⟨h31, hr⟩ := cond_need hr
            refine at_appendG (ds' := (List.map D.str (v22.2.1 ++ [v25.name]))) ttOK 16 0 5 rfl (by kernel_rfl) rfl rfl rfl rfl (by simp only [List.map_append]) h31 (by decide) ?_
            intro a32 c32
            replace hr := Option.some.inj hr
            subst hr
            exact AtRet.gen ⟨[], [⟨.slice a32 ((List.map D.str (v22.2.1 ++ [v25.name])).length) c32, 1, 9, (List.map D.str (v22.2.1 ++ [v25.name]))⟩], []⟩ (StLe.gen 0 [.old 0] [] rfl rfl rfl rfl rfl rfl rfl) rfl rfl ⟨a32, c32, rfl, rfl⟩
        · replace hr := cond_f h10 hr
          refine AtIf.mk (fun h => ff h) (fun _ => ?_)
          obtain ⟨v33, h34, hr⟩ := bind_some hr
          obtain ⟨h35, h36⟩ := idx_some h34
          refine at_index ttOK 0 rfl rfl rfl rfl h35 (Rw.encL_get h36) ?_
          intro a37 c37 _ _
          obtain ⟨v38, h39, hr⟩ := bind_some hr
          refine (ih n (by omega) v33 a37 c37 _ h39).frameRA [] [] [2] rfl rfl rfl rfl rfl rfl rfl rfl rfl ?_
          rintro _ _ ⟨a40, c40, rfl, rfl⟩
          refine ⟨rfl, [], rfl, ?_⟩
          obtain ⟨v41, h42, hr⟩ := bind_some hr
          obtain ⟨h43, h44⟩ := idx_some h42
          refine at_index ttOK 0 rfl rfl rfl rfl h43 (Rw.encL_get h44) ?_
          intro a45 c45 _ _
          refine at_buildG (n := 1) ttOK 16 [.str v41.name] (ds' := (List.map D.str ([v41.name]))) rfl (by kernel_rfl) ⟨⟨rfl, rfl, rfl, rfl⟩, trivial⟩ rfl rfl (by decide) (by decide) ?_
          intro a46
          obtain ⟨h47, hr⟩ := cond_need hr
          refine at_appendG (ds' := (List.map D.str (v38.2.1 ++ [v41.name]))) ttOK 16 0 4 rfl (by kernel_rfl) rfl rfl rfl rfl (by simp only [List.map_append]) h47 (by decide) ?_
          intro a48 c48
          replace hr := Option.some.inj hr
          subst hr
          exact AtRet.gen ⟨[], [⟨.slice a48 ((List.map D.str (v38.2.1 ++ [v41.name])).length) c48, 1, 9, (List.map D.str (v38.2.1 ++ [v41.name]))⟩], []⟩ (StLe.gen 0 [.old 0] [] rfl rfl rfl rfl rfl rfl rfl) rfl rfl ⟨a48, c48, rfl, rfl⟩
      · replace hr := cond_t h4 hr
        refine AtIf.mk (fun _ => ?_) (fun h => tf h)
        replace hr := Option.some.inj hr
        subst hr
        exact AtRet.gen ⟨[], [⟨.slice none 0 0, 1, 9, []⟩], []⟩ (StLe.gen 0 [.nil 1 9] [] rfl rfl rfl rfl rfl rfl rfl) rfl rfl ⟨none, 0, rfl, rfl⟩
theorem R15_spine_spec (n : Nat) (v1 : Rw) (a2 : Option Addr) (c2 : Nat) (r : ByteArray × (List ByteArray) × Bool) (hr : R15_spine n v1 = some r) : Meets Tryz.prog (.val (.fn (.func 68) [] [])) [(.agg [(.v (.int .i64 v1.op)), (.v (.string v1.name)), (.v (.slice a2 ((Rw.encL v1.args).length) c2))])] ⟨[], [], [(.slice a2 ((Rw.encL v1.args).length) c2, .sl 3 (Rw.encL v1.args))]⟩ (fun o S' => ∃ (b1 : Option Addr) (d1 : Nat), o = .ret (.tup [(.v (.string r.1)), (.v (.slice b1 ((List.map D.str r.2.1).length) d1)), (.v (.bool r.2.2))]) ∧ S' = ⟨[], [⟨.slice b1 ((List.map D.str r.2.1).length) d1, 1, 9, (List.map D.str r.2.1)⟩], []⟩) := (R15_spine_specN n) n (Nat.le_refl _) v1 a2 c2 r hr
mutual
def R05_Find : Nat → (List Dc) → ByteArray → Option (Int)
  | 0, _, _ => none
  | n + 1, v1, v3 =>
    R05_Find_L1 n v1 v3 0
def R05_Find_L1 : Nat → (List Dc) → ByteArray → Int → Option (Int)
  | 0, _, _, _ => none
  | n + 1, v1, v3, v11 =>
    cond (decide (v11 < ((Dc.encL v1).length : Int))) (
    (idx v1 v11).bind (fun v13 =>
    cond (v13.name.toList == v3.toList) (
    some (v11)) (
    R05_Find_L1 n v1 v3 (IntKind.i64.wrap (v11 + 1))))) (
    some ((-1)))
 end
theorem R05_Find_spec (n : Nat) (v1 : (List Dc)) (v3 : ByteArray) (a2 : Option Addr) (c2 : Nat) (r : Int) (hr : R05_Find n v1 v3 = some r) : Pure Tryz.prog (.val (.fn (.func 69) [] [])) [(.v (.slice a2 ((Dc.encL v1).length) c2)), (.v (.string v3))] [(.slice a2 ((Dc.encL v1).length) c2, .sl 6 (Dc.encL v1))] (fun r' out => r' = (.v (.int .i64 r)) ∧ out = []) := by
  rcases n with _ | n
  · exact no_some hr
  rw [R05_Find.eq_2] at hr
  refine spec_of_body (N := 20) (m := 0) (dt := fun _ => none) [] ttOK Tryz.func69 rfl Tryz.call69 Tryz.ntmps69 rfl rfl rfl mixed (by kernel_rfl) ?_
  refine AtLoop.mk ⟨Nat × Int, fun x => [(1, (.v (.string v3))), (7, (.v (.slice a2 ((Dc.encL v1).length) c2))), (8, (.v (.int .i64 ((Dc.encL v1).length : Int)))), (9, (.v (.int .i64 x.2)))], fun x => ⟨[], [], [(.slice a2 ((Dc.encL v1).length) c2, .sl 6 (Dc.encL v1))]⟩, fun x => R05_Find_L1 x.1 v1 v3 x.2 = some r, fun x => x.1, (n, 0), hr, ⟨rfl, rfl, rfl, rfl, trivial⟩, (StLe.gen 0 [] [.old 0] rfl rfl rfl rfl rfl rfl rfl), fun x _ => ⟨rfl, rfl⟩, ?_⟩
  rintro ⟨n, v11⟩ HH
  have hr : R05_Find_L1 n v1 v3 v11 = some r := HH
  rcases n with _ | n
  · exact no_some hr
  rw [R05_Find_L1.eq_2] at hr
  refine AtIf.mk (fun h12 => ?_) (fun h12 => ?_)
  · replace hr := cond_t h12 hr
    obtain ⟨v13, h14, hr⟩ := bind_some hr
    obtain ⟨h15, h16⟩ := idx_some h14
    refine at_index ttOK 0 rfl rfl rfl rfl h15 (Dc.encL_get h16) ?_
    intro a17 c17 _ _
    refine AtIf.mk (fun h18 => ?_) (fun h18 => ?_)
    · replace hr := cond_t h18 hr
      replace hr := Option.some.inj hr
      subst hr
      exact AtRet.pureG [] [] rfl rfl ⟨rfl, rfl⟩
    · replace hr := cond_f h18 hr
      exact ⟨(n, (IntKind.i64.wrap (v11 + 1))), hr, Nat.lt_succ_self _, ⟨rfl, rfl, rfl, rfl, trivial⟩, (StLe.gen 0 [] [.old 0] rfl rfl rfl rfl rfl rfl rfl)⟩
  · replace hr := cond_f h12 hr
    replace hr := Option.some.inj hr
    subst hr
    exact AtRet.pureG [] [] rfl rfl ⟨rfl, rfl⟩
mutual
def R15_order : Nat → Pt → (List ByteArray) → Int → Option (Od × Bool)
  | 0, _, _, _ => none
  | n + 1, v1, v4, v6 =>
    cond (v1.op == 1) (
    R15_order_L1 n v4 v1 v6 0 0 0) (
    cond (v1.op == 6) (
    R15_order_L2 n v1 v4 v6 (Od.mk 3 0 ([])) 0) (
    R15_order_L2 n v1 v4 v6 (Od.mk 2 0 ([])) 0))
def R15_order_L1 : Nat → (List ByteArray) → Pt → Int → Int → Int → Int → Option (Od × Bool)
  | 0, _, _, _, _, _, _ => none
  | n + 1, v4, v1, v6, v22, v23, v24 =>
    cond (decide (v24 < ((List.map D.str v4).length : Int))) (
    (idx v4 v24).bind (fun v26 =>
    cond (v26.toList == v1.name.toList) (
    R15_order_L1 n v4 v1 v6 v24 (IntKind.i64.wrap (v23 + 1)) (IntKind.i64.wrap (v24 + 1))) (
    R15_order_L1 n v4 v1 v6 v22 v23 (IntKind.i64.wrap (v24 + 1))))) (
    some ((Od.mk 1 (IntKind.i64.wrap (v6 + v22)) ([])), (v23 == 1)))
def R15_order_L2 : Nat → Pt → (List ByteArray) → Int → Od → Int → Option (Od × Bool)
  | 0, _, _, _, _, _ => none
  | n + 1, v1, v4, v6, v46, v48 =>
    cond (decide (v48 < ((Pt.encL v1.parts).length : Int))) (
    (idx v1.parts v48).bind (fun v50 =>
    (R15_order n v50 v4 v6).bind (fun v56 =>
    cond (!v56.2) (
    some ((Od.mk 0 0 ([])), false)) (
    cond (decide ((Od.encL (v46.parts ++ [v56.1])).length ≤ 1000000)) (
    R15_order_L2 n v1 v4 v6 (Od.mk v46.op v46.n (v46.parts ++ [v56.1])) (IntKind.i64.wrap (v48 + 1))) none)))) (
    some (v46, true))
 end
theorem R15_order_specN : ∀ (N : Nat), (∀ (n : Nat), n ≤ N → ∀ (v1 : Pt) (v4 : (List ByteArray)) (v6 : Int) (a2 : Option Addr) (c2 : Nat) (a3 : Option Addr) (c3 : Nat) (a5 : Option Addr) (c5 : Nat) (r : Od × Bool), R15_order n v1 v4 v6 = some r → Pure Tryz.prog (.val (.fn (.func 70) [] [])) [(.agg [(.v (.int .i64 v1.op)), (.v (.string v1.sign)), (.v (.string v1.name)), (.v (.int .i64 v1.n)), (.v (.int .i64 v1.raw.op)), (.v (.string v1.raw.name)), (.v (.slice a2 ((Rw.encL v1.raw.args).length) c2)), (.v (.slice a3 ((Pt.encL v1.parts).length) c3))]), (.v (.slice a5 ((List.map D.str v4).length) c5)), (.v (.int .i64 v6))] [(.slice a2 ((Rw.encL v1.raw.args).length) c2, .sl 3 (Rw.encL v1.raw.args)), (.slice a3 ((Pt.encL v1.parts).length) c3, .sl 8 (Pt.encL v1.parts)), (.slice a5 ((List.map D.str v4).length) c5, .sl 1 (List.map D.str v4))] (fun r' out => ∃ (b1 : Option Addr) (d1 : Nat), r' = (.tup [(.agg [(.v (.int .i64 r.1.op)), (.v (.int .i64 r.1.n)), (.v (.slice b1 ((Od.encL r.1.parts).length) d1))]), (.v (.bool r.2))]) ∧ out = [(.slice b1 ((Od.encL r.1.parts).length) d1, .sl 3 (Od.encL r.1.parts))])) := by
  intro N
  induction N with
  | zero =>
    intro n hn v1 v4 v6 a2 c2 a3 c3 a5 c5 r hr; obtain rfl : n = 0 := (by omega); exact no_some hr
  | succ N ih =>
    intro n hn v1 v4 v6 a2 c2 a3 c3 a5 c5 r hr
    rcases n with _ | n
    · exact no_some hr
    replace hn : n ≤ N := by omega
    rw [R15_order.eq_2] at hr
    refine spec_of_body (N := 75) (m := 0) (dt := drawsOf [(6, .leaf [0, 1, 2, 3, 4, 5, 6], [], [])]) [] ttOK Tryz.func70 rfl Tryz.call70 Tryz.ntmps70 rfl rfl rfl mixed (by kernel_rfl) ?_
    refine AtIf.mk (fun h7 => ?_) (fun h7 => ?_)
    · replace hr := cond_t h7 hr
      refine AtLoop.mk ⟨Nat × Int × Int × Int, fun x => [(1, (.v (.slice a5 ((List.map D.str v4).length) c5))), (2, (.v (.int .i64 v6))), (3, (.loc 0 0)), (6, (.loc 1 0)), (8, (.v (.int .i64 x.2.1))), (9, (.v (.int .i64 x.2.2.1))), (10, (.v (.int .i64 x.2.2.2)))], fun x => ⟨[.cells 94 [(.v (.int .i64 v1.op)), (.v (.string v1.sign)), (.v (.string v1.name)), (.v (.int .i64 v1.n)), (.v (.int .i64 v1.raw.op)), (.v (.string v1.raw.name)), (.v (.slice a2 ((Rw.encL v1.raw.args).length) c2)), (.v (.slice a3 ((Pt.encL v1.parts).length) c3))], .cells 31 [(.v (.int .i64 0)), (.v (.int .i64 0)), (.v (.slice none 0 0))]], [], [(.slice a2 ((Rw.encL v1.raw.args).length) c2, .sl 3 (Rw.encL v1.raw.args)), (.slice a3 ((Pt.encL v1.parts).length) c3, .sl 8 (Pt.encL v1.parts)), (.slice a5 ((List.map D.str v4).length) c5, .sl 1 (List.map D.str v4))]⟩, fun x => x.1 ≤ N ∧ R15_order_L1 x.1 v4 v1 v6 x.2.1 x.2.2.1 x.2.2.2 = some r, fun x => x.1, (n, 0, 0, 0), ⟨by omega, hr⟩, ⟨rfl, rfl, rfl, rfl, rfl, rfl, rfl, trivial⟩, (StLe.gen 2 [] [.old 0, .old 1, .old 2] rfl rfl rfl rfl rfl rfl rfl), fun x _ => ⟨rfl, rfl⟩, ?_⟩
      rintro ⟨n, v22, v23, v24⟩ HH
      obtain ⟨hn, hr⟩ : n ≤ N ∧ R15_order_L1 n v4 v1 v6 v22 v23 v24 = some r := HH
      rcases n with _ | n
      · exact no_some hr
      rw [R15_order_L1.eq_2] at hr
      refine AtIf.mk (fun h25 => ?_) (fun h25 => ?_)
      · replace hr := cond_t h25 hr
        obtain ⟨v26, h27, hr⟩ := bind_some hr
        obtain ⟨h28, h29⟩ := idx_some h27
        refine at_index ttOK 2 rfl rfl rfl rfl h28 (map_get D.str h29) ?_
        refine AtIf.mk (fun h30 => ?_) (fun h30 => ?_)
        · replace hr := cond_t h30 hr
          exact ⟨(n, v24, (IntKind.i64.wrap (v23 + 1)), (IntKind.i64.wrap (v24 + 1))), ⟨by omega, hr⟩, Nat.lt_succ_self _, ⟨rfl, rfl, rfl, rfl, rfl, rfl, rfl, trivial⟩, (StLe.gen 2 [] [.old 0, .old 1, .old 2] rfl rfl rfl rfl rfl rfl rfl)⟩
        · replace hr := cond_f h30 hr
          exact ⟨(n, v22, v23, (IntKind.i64.wrap (v24 + 1))), ⟨by omega, hr⟩, Nat.lt_succ_self _, ⟨rfl, rfl, rfl, rfl, rfl, rfl, rfl, trivial⟩, (StLe.gen 2 [] [.old 0, .old 1, .old 2] rfl rfl rfl rfl rfl rfl rfl)⟩
      · replace hr := cond_f h25 hr
        replace hr := Option.some.inj hr
        subst hr
        exact AtRet.pureG [.nil 3] [(.slice none 0 0, .sl 3 [])] rfl rfl ⟨none, 0, rfl, rfl⟩
    · replace hr := cond_f h7 hr
      refine AtIf.mk (fun h31 => ?_) (fun h31 => ?_)
      · replace hr := cond_t h31 hr
        refine AtLoop.mk ⟨Nat × Od × Option Addr × Nat × Int, fun x => [(1, (.v (.slice a5 ((List.map D.str v4).length) c5))), (2, (.v (.int .i64 v6))), (3, (.loc 0 0)), (6, (.loc 1 0)), (11, (.loc 2 0)), (12, (.v (.int .i64 x.2.2.2.2)))], fun x => ⟨[.cells 94 [(.v (.int .i64 v1.op)), (.v (.string v1.sign)), (.v (.string v1.name)), (.v (.int .i64 v1.n)), (.v (.int .i64 v1.raw.op)), (.v (.string v1.raw.name)), (.v (.slice a2 ((Rw.encL v1.raw.args).length) c2)), (.v (.slice a3 ((Pt.encL v1.parts).length) c3))], .cells 31 [(.v (.int .i64 0)), (.v (.int .i64 0)), (.v (.slice none 0 0))], .cells 31 [(.v (.int .i64 x.2.1.op)), (.v (.int .i64 x.2.1.n)), (.v (.slice x.2.2.1 ((Od.encL x.2.1.parts).length) x.2.2.2.1))]], [⟨.slice x.2.2.1 ((Od.encL x.2.1.parts).length) x.2.2.2.1, 3, 31, (Od.encL x.2.1.parts)⟩], [(.slice a2 ((Rw.encL v1.raw.args).length) c2, .sl 3 (Rw.encL v1.raw.args)), (.slice a3 ((Pt.encL v1.parts).length) c3, .sl 8 (Pt.encL v1.parts)), (.slice a5 ((List.map D.str v4).length) c5, .sl 1 (List.map D.str v4))]⟩, fun x => x.1 ≤ N ∧ R15_order_L2 x.1 v1 v4 v6 x.2.1 x.2.2.2.2 = some r, fun x => x.1, (n, (Od.mk 3 0 ([])), none, 0, 0), ⟨by omega, hr⟩, ⟨rfl, rfl, rfl, rfl, rfl, rfl, trivial⟩, (StLe.gen 3 [.nil 3 31] [.old 0, .old 1, .old 2] rfl rfl rfl rfl rfl rfl rfl), fun x _ => ⟨rfl, rfl⟩, ?_⟩
        rintro ⟨n, v46, a47, c47, v48⟩ HH
        obtain ⟨hn, hr⟩ : n ≤ N ∧ R15_order_L2 n v1 v4 v6 v46 v48 = some r := HH
        rcases n with _ | n
        · exact no_some hr
        rw [R15_order_L2.eq_2] at hr
        refine AtIf.mk (fun h49 => ?_) (fun h49 => ?_)
        · replace hr := cond_t h49 hr
          obtain ⟨v50, h51, hr⟩ := bind_some hr
          obtain ⟨h52, h53⟩ := idx_some h51
          refine at_index ttOK 1 rfl rfl rfl rfl h52 (Pt.encL_get h53) ?_
          intro a54 c54 _ _ a55 c55 _ _
          obtain ⟨v56, h57, hr⟩ := bind_some hr
          refine (ih n (by omega) v50 v4 v6 a54 c54 a55 c55 a5 c5 _ h57).atR [3, 4, 2] rfl rfl rfl ?_
          rintro _ _ ⟨a58, c58, rfl, rfl⟩
          refine AtIf.mk (fun h59 => ?_) (fun h59 => ?_)
          · replace hr := cond_t h59 hr
            replace hr := Option.some.inj hr
            subst hr
            exact AtRet.pureG [.nil 3] [(.slice none 0 0, .sl 3 [])] rfl rfl ⟨none, 0, rfl, rfl⟩
          · replace hr := cond_f h59 hr
            refine at_buildG (n := 1) ttOK 40 [.agg [.int .i64 v56.1.op, .int .i64 v56.1.n, .sl 3 (Od.encL v56.1.parts)]] (ds' := (Od.encL ([v56.1]))) rfl (by kernel_rfl) ⟨⟨rfl, rfl, rfl, ⟨[(.v (.int .i64 v56.1.op))], _, rfl, rfl, ⟨[(.v (.int .i64 v56.1.n))], _, rfl, rfl, ⟨[(.v (.slice a58 ((Od.encL v56.1.parts).length) c58))], _, rfl, (.inl ⟨_, rfl, nth_mem (j := 5) rfl⟩), rfl⟩⟩⟩⟩, trivial⟩ rfl (by simp only [Od.encL_eq, List.map_cons, List.map_nil, Od.enc_eq]) (by decide) (by decide) ?_
            intro a60
            obtain ⟨h61, hr⟩ := cond_need hr
            refine at_appendG (ds' := (Od.encL (v46.parts ++ [v56.1]))) ttOK 40 0 6 rfl (by kernel_rfl) rfl rfl rfl rfl (by simp only [Od.encL_eq, List.map_append]) h61 (by decide) ?_
            intro a62 c62
            exact ⟨(n, (Od.mk v46.op v46.n (v46.parts ++ [v56.1])), a62, c62, (IntKind.i64.wrap (v48 + 1))), ⟨by omega, hr⟩, Nat.lt_succ_self _, ⟨rfl, rfl, rfl, rfl, rfl, rfl, trivial⟩, (StLe.gen 3 [.old 0] [.old 0, .old 1, .old 2] rfl rfl rfl rfl rfl rfl rfl)⟩
        · replace hr := cond_f h49 hr
          replace hr := Option.some.inj hr
          subst hr
          exact AtRet.pureG [.froz 0] [(.slice a47 ((Od.encL v46.parts).length) c47, .sl 3 (Od.encL v46.parts))] rfl rfl ⟨a47, c47, rfl, rfl⟩
      · replace hr := cond_f h31 hr
        refine AtLoop.mk ⟨Nat × Od × Option Addr × Nat × Int, fun x => [(1, (.v (.slice a5 ((List.map D.str v4).length) c5))), (2, (.v (.int .i64 v6))), (3, (.loc 0 0)), (6, (.loc 1 0)), (11, (.loc 2 0)), (12, (.v (.int .i64 x.2.2.2.2)))], fun x => ⟨[.cells 94 [(.v (.int .i64 v1.op)), (.v (.string v1.sign)), (.v (.string v1.name)), (.v (.int .i64 v1.n)), (.v (.int .i64 v1.raw.op)), (.v (.string v1.raw.name)), (.v (.slice a2 ((Rw.encL v1.raw.args).length) c2)), (.v (.slice a3 ((Pt.encL v1.parts).length) c3))], .cells 31 [(.v (.int .i64 0)), (.v (.int .i64 0)), (.v (.slice none 0 0))], .cells 31 [(.v (.int .i64 x.2.1.op)), (.v (.int .i64 x.2.1.n)), (.v (.slice x.2.2.1 ((Od.encL x.2.1.parts).length) x.2.2.2.1))]], [⟨.slice x.2.2.1 ((Od.encL x.2.1.parts).length) x.2.2.2.1, 3, 31, (Od.encL x.2.1.parts)⟩], [(.slice a2 ((Rw.encL v1.raw.args).length) c2, .sl 3 (Rw.encL v1.raw.args)), (.slice a3 ((Pt.encL v1.parts).length) c3, .sl 8 (Pt.encL v1.parts)), (.slice a5 ((List.map D.str v4).length) c5, .sl 1 (List.map D.str v4))]⟩, fun x => x.1 ≤ N ∧ R15_order_L2 x.1 v1 v4 v6 x.2.1 x.2.2.2.2 = some r, fun x => x.1, (n, (Od.mk 2 0 ([])), none, 0, 0), ⟨by omega, hr⟩, ⟨rfl, rfl, rfl, rfl, rfl, rfl, trivial⟩, (StLe.gen 3 [.nil 3 31] [.old 0, .old 1, .old 2] rfl rfl rfl rfl rfl rfl rfl), fun x _ => ⟨rfl, rfl⟩, ?_⟩
        rintro ⟨n, v77, a78, c78, v79⟩ HH
        obtain ⟨hn, hr⟩ : n ≤ N ∧ R15_order_L2 n v1 v4 v6 v77 v79 = some r := HH
        rcases n with _ | n
        · exact no_some hr
        rw [R15_order_L2.eq_2] at hr
        refine AtIf.mk (fun h80 => ?_) (fun h80 => ?_)
        · replace hr := cond_t h80 hr
          obtain ⟨v81, h82, hr⟩ := bind_some hr
          obtain ⟨h83, h84⟩ := idx_some h82
          refine at_index ttOK 1 rfl rfl rfl rfl h83 (Pt.encL_get h84) ?_
          intro a85 c85 _ _ a86 c86 _ _
          obtain ⟨v87, h88, hr⟩ := bind_some hr
          refine (ih n (by omega) v81 v4 v6 a85 c85 a86 c86 a5 c5 _ h88).atR [3, 4, 2] rfl rfl rfl ?_
          rintro _ _ ⟨a89, c89, rfl, rfl⟩
          refine AtIf.mk (fun h90 => ?_) (fun h90 => ?_)
          · replace hr := cond_t h90 hr
            replace hr := Option.some.inj hr
            subst hr
            exact AtRet.pureG [.nil 3] [(.slice none 0 0, .sl 3 [])] rfl rfl ⟨none, 0, rfl, rfl⟩
          · replace hr := cond_f h90 hr
            refine at_buildG (n := 1) ttOK 40 [.agg [.int .i64 v87.1.op, .int .i64 v87.1.n, .sl 3 (Od.encL v87.1.parts)]] (ds' := (Od.encL ([v87.1]))) rfl (by kernel_rfl) ⟨⟨rfl, rfl, rfl, ⟨[(.v (.int .i64 v87.1.op))], _, rfl, rfl, ⟨[(.v (.int .i64 v87.1.n))], _, rfl, rfl, ⟨[(.v (.slice a89 ((Od.encL v87.1.parts).length) c89))], _, rfl, (.inl ⟨_, rfl, nth_mem (j := 5) rfl⟩), rfl⟩⟩⟩⟩, trivial⟩ rfl (by simp only [Od.encL_eq, List.map_cons, List.map_nil, Od.enc_eq]) (by decide) (by decide) ?_
            intro a91
            obtain ⟨h92, hr⟩ := cond_need hr
            refine at_appendG (ds' := (Od.encL (v77.parts ++ [v87.1]))) ttOK 40 0 6 rfl (by kernel_rfl) rfl rfl rfl rfl (by simp only [Od.encL_eq, List.map_append]) h92 (by decide) ?_
            intro a93 c93
            exact ⟨(n, (Od.mk v77.op v77.n (v77.parts ++ [v87.1])), a93, c93, (IntKind.i64.wrap (v79 + 1))), ⟨by omega, hr⟩, Nat.lt_succ_self _, ⟨rfl, rfl, rfl, rfl, rfl, rfl, trivial⟩, (StLe.gen 3 [.old 0] [.old 0, .old 1, .old 2] rfl rfl rfl rfl rfl rfl rfl)⟩
        · replace hr := cond_f h80 hr
          replace hr := Option.some.inj hr
          subst hr
          exact AtRet.pureG [.froz 0] [(.slice a78 ((Od.encL v77.parts).length) c78, .sl 3 (Od.encL v77.parts))] rfl rfl ⟨a78, c78, rfl, rfl⟩
theorem R15_order_spec (n : Nat) (v1 : Pt) (v4 : (List ByteArray)) (v6 : Int) (a2 : Option Addr) (c2 : Nat) (a3 : Option Addr) (c3 : Nat) (a5 : Option Addr) (c5 : Nat) (r : Od × Bool) (hr : R15_order n v1 v4 v6 = some r) : Pure Tryz.prog (.val (.fn (.func 70) [] [])) [(.agg [(.v (.int .i64 v1.op)), (.v (.string v1.sign)), (.v (.string v1.name)), (.v (.int .i64 v1.n)), (.v (.int .i64 v1.raw.op)), (.v (.string v1.raw.name)), (.v (.slice a2 ((Rw.encL v1.raw.args).length) c2)), (.v (.slice a3 ((Pt.encL v1.parts).length) c3))]), (.v (.slice a5 ((List.map D.str v4).length) c5)), (.v (.int .i64 v6))] [(.slice a2 ((Rw.encL v1.raw.args).length) c2, .sl 3 (Rw.encL v1.raw.args)), (.slice a3 ((Pt.encL v1.parts).length) c3, .sl 8 (Pt.encL v1.parts)), (.slice a5 ((List.map D.str v4).length) c5, .sl 1 (List.map D.str v4))] (fun r' out => ∃ (b1 : Option Addr) (d1 : Nat), r' = (.tup [(.agg [(.v (.int .i64 r.1.op)), (.v (.int .i64 r.1.n)), (.v (.slice b1 ((Od.encL r.1.parts).length) d1))]), (.v (.bool r.2))]) ∧ out = [(.slice b1 ((Od.encL r.1.parts).length) d1, .sl 3 (Od.encL r.1.parts))]) := (R15_order_specN n) n (Nat.le_refl _) v1 v4 v6 a2 c2 a3 c3 a5 c5 r hr
def R15_Read : Nat → (List Dc) → It → Option (Me × Int)
  | 0, _, _ => none
  | n + 1, v1, v3 =>
    cond (((!(v3.word.toList == (⟨#[116, 111, 116, 97, 108]⟩ : ByteArray).toList)) && (!(v3.word.toList == (⟨#[116, 101, 114, 109, 105, 110, 97, 116, 101, 115]⟩ : ByteArray).toList))) || (((Pt.encL v3.parts).length : Int) != 2)) (
    some ((Me.mk 0 (Od.mk 0 0 ([]))), 2)) (
    (idx v3.parts 0).bind (fun v7 =>
    (R15_form n v7 1).bind (fun v13 =>
    cond (!v13) (
    some ((Me.mk 0 (Od.mk 0 0 ([]))), 2)) (
    (idx v3.parts 1).bind (fun v16 =>
    cond (v16.op != 4) (
    some ((Me.mk 0 (Od.mk 0 0 ([]))), 2)) (
    (idx v3.parts 1).bind (fun v23 =>
    (R15_spine n v23.raw).bind (fun v29 =>
    cond (!v29.2.2) (
    some ((Me.mk 0 (Od.mk 0 0 ([]))), 2)) (
    (R05_Find n v1 v29.1).bind (fun v33 =>
    cond (decide (v33 < 0)) (
    some ((Me.mk 0 (Od.mk 0 0 ([]))), 20)) (
    (R05_IsFamily n v1 v33).bind (fun v36 =>
    cond (!v36) (
    some ((Me.mk 0 (Od.mk 0 0 ([]))), 22)) (
    (idx v1 v33).bind (fun v39 =>
    (idx v1 v33).bind (fun v44 =>
    (R14_Dependent n v39.cls).bind (fun v49 =>
    cond (((List.map D.bool v49).length : Int) != (IntKind.i64.wrap (v44.implicit + ((List.map D.str v29.2.1).length : Int)))) (
    some ((Me.mk 0 (Od.mk 0 0 ([]))), 23)) (
    (idx v3.parts 0).bind (fun v53 =>
    (idx v1 v33).bind (fun v59 =>
    (R15_order n v53 v29.2.1 v59.implicit).bind (fun v64 =>
    cond (!v64.2) (
    some ((Me.mk 0 (Od.mk 0 0 ([]))), 20)) (
    some ((Me.mk v33 v64.1), 0))))))))))))))))))))))
theorem R15_Read_spec (n : Nat) (v1 : (List Dc)) (v3 : It) (a2 : Option Addr) (c2 : Nat) (a4 : Option Addr) (c4 : Nat) (a5 : Option Addr) (c5 : Nat) (r : Me × Int) (hr : R15_Read n v1 v3 = some r) : Pure Tryz.prog (.val (.fn (.func 16) [] [])) [(.v (.slice a2 ((Dc.encL v1).length) c2)), (.agg [(.v (.string v3.word)), (.v (.string v3.name)), (.v (.int .i64 v3.raw.op)), (.v (.string v3.raw.name)), (.v (.slice a4 ((Rw.encL v3.raw.args).length) c4)), (.v (.slice a5 ((Pt.encL v3.parts).length) c5))])] [(.slice a2 ((Dc.encL v1).length) c2, .sl 6 (Dc.encL v1)), (.slice a4 ((Rw.encL v3.raw.args).length) c4, .sl 3 (Rw.encL v3.raw.args)), (.slice a5 ((Pt.encL v3.parts).length) c5, .sl 8 (Pt.encL v3.parts))] (fun r' out => ∃ (b1 : Option Addr) (d1 : Nat), r' = (.tup [(.agg [(.v (.int .i64 r.1.family)), (.v (.int .i64 r.1.order.op)), (.v (.int .i64 r.1.order.n)), (.v (.slice b1 ((Od.encL r.1.order.parts).length) d1))]), (.v (.int .i64 r.2))]) ∧ out = [(.slice b1 ((Od.encL r.1.order.parts).length) d1, .sl 3 (Od.encL r.1.order.parts))]) := by
  rcases n with _ | n
  · exact no_some hr
  rw [R15_Read.eq_2] at hr
  refine spec_of_body (N := 106) (m := 0) (dt := drawsOf [(11, .node [0, 1, 2, 3, 4, 7, 8, 9, 10, 11, 12, 13, 14] [(5, .leaf [6, 15, 16])], [], []), (13, .node [0, 1, 2, 3, 4, 5, 6, 7, 8, 9] [(10, .node [11, 12, 13] [(14, .node [] [(15, .leaf [16])])]), (14, .node [] [(10, .node [11, 12, 13] [(15, .leaf [16])])])], [10], [9])]) [] ttOK Tryz.func16 rfl Tryz.call16 Tryz.ntmps16 rfl rfl rfl mixed (by kernel_rfl) ?_
  refine AtGuard.mk (fun h6 => ?_) (fun h6 => ?_)
  · replace hr := cond_f h6 hr
    obtain ⟨v7, h8, hr⟩ := bind_some hr
    obtain ⟨h9, h10⟩ := idx_some h8
    refine at_index ttOK 2 rfl rfl rfl rfl h9 (Pt.encL_get h10) ?_
    intro a11 c11 _ _ a12 c12 _ _
    obtain ⟨v13, h14, hr⟩ := bind_some hr
    refine (R15_form_spec n v7 1 a11 c11 a12 c12 _ h14).atR [3, 4] rfl rfl rfl ?_
    rintro _ _ ⟨rfl, rfl⟩
    refine AtGuard.mk (fun h15 => ?_) (fun h15 => ?_)
    · replace hr := cond_f h15 hr
      obtain ⟨v16, h17, hr⟩ := bind_some hr
      obtain ⟨h18, h19⟩ := idx_some h17
      refine at_index ttOK 2 rfl rfl rfl rfl h18 (Pt.encL_get h19) ?_
      intro a20 c20 _ _ a21 c21 _ _
      refine AtIf.mk (fun h22 => ?_) (fun h22 => ?_)
      · replace hr := cond_t h22 hr
        replace hr := Option.some.inj hr
        subst hr
        exact AtRet.pureG [.nil 3] [(.slice none 0 0, .sl 3 [])] rfl rfl ⟨none, 0, rfl, rfl⟩
      · replace hr := cond_f h22 hr
        obtain ⟨v23, h24, hr⟩ := bind_some hr
        obtain ⟨h25, h26⟩ := idx_some h24
        refine at_index ttOK 2 rfl rfl rfl rfl h25 (Pt.encL_get h26) ?_
        intro a27 c27 _ _ a28 c28 _ _
        obtain ⟨v29, h30, hr⟩ := bind_some hr
        refine (R15_spine_spec n v23.raw a27 c27 _ h30).frameRA [] [] [7] rfl rfl rfl rfl rfl rfl rfl rfl rfl ?_
        rintro _ _ ⟨a31, c31, rfl, rfl⟩
        refine ⟨rfl, [], rfl, ?_⟩
        refine AtIf.mk (fun h32 => ?_) (fun h32 => ?_)
        · replace hr := cond_t h32 hr
          replace hr := Option.some.inj hr
          subst hr
          exact AtRet.pureG [.nil 3] [(.slice none 0 0, .sl 3 [])] rfl rfl ⟨none, 0, rfl, rfl⟩
        · replace hr := cond_f h32 hr
          obtain ⟨v33, h34, hr⟩ := bind_some hr
          refine (R05_Find_spec n v1 v29.1 a2 c2 _ h34).atR [0] rfl rfl rfl ?_
          rintro _ _ ⟨rfl, rfl⟩
          refine AtIf.mk (fun h35 => ?_) (fun h35 => ?_)
          · replace hr := cond_t h35 hr
            replace hr := Option.some.inj hr
            subst hr
            exact AtRet.pureG [.nil 3] [(.slice none 0 0, .sl 3 [])] rfl rfl ⟨none, 0, rfl, rfl⟩
          · replace hr := cond_f h35 hr
            obtain ⟨v36, h37, hr⟩ := bind_some hr
            refine (R05_IsFamily_spec n v1 v33 a2 c2 _ h37).atR [0] rfl rfl rfl ?_
            rintro _ _ ⟨rfl, rfl⟩
            refine AtIf.mk (fun h38 => ?_) (fun h38 => ?_)
            · replace hr := cond_t h38 hr
              replace hr := Option.some.inj hr
              subst hr
              exact AtRet.pureG [.nil 3] [(.slice none 0 0, .sl 3 [])] rfl rfl ⟨none, 0, rfl, rfl⟩
            · replace hr := cond_f h38 hr
              obtain ⟨v39, h40, hr⟩ := bind_some hr
              obtain ⟨h41, h42⟩ := idx_some h40
              refine at_index ttOK 0 rfl rfl rfl rfl h41 (Dc.encL_get h42) ?_
              intro a43 c43 _ _
              obtain ⟨v44, h45, hr⟩ := bind_some hr
              obtain ⟨h46, h47⟩ := idx_some h45
              refine at_index ttOK 0 rfl rfl rfl rfl h46 (Dc.encL_get h47) ?_
              intro a48 c48 _ _
              obtain ⟨v49, h50, hr⟩ := bind_some hr
              refine (R14_Dependent_spec n v39.cls a43 c43 _ h50).atR [9] rfl rfl rfl ?_
              rintro _ _ ⟨a51, c51, rfl, rfl⟩
              refine ⟨fun _ _ h => h, ?_⟩
              refine AtIf.mk (fun h52 => ?_) (fun h52 => ?_)
              · replace hr := cond_t h52 hr
                replace hr := Option.some.inj hr
                subst hr
                exact AtRet.pureG [.nil 3] [(.slice none 0 0, .sl 3 [])] rfl rfl ⟨none, 0, rfl, rfl⟩
              · replace hr := cond_f h52 hr
                obtain ⟨v53, h54, hr⟩ := bind_some hr
                obtain ⟨h55, h56⟩ := idx_some h54
                obtain ⟨v59, h60, hr⟩ := bind_some hr
                obtain ⟨h61, h62⟩ := idx_some h60
                obtain ⟨v64, h65, hr⟩ := bind_some hr
                refine at_index ttOK 2 rfl rfl rfl rfl h55 (Pt.encL_get h56) ?_
                intro a67 c67 _ _ a68 c68 _ _
                refine at_index ttOK 0 rfl rfl rfl rfl h61 (Dc.encL_get h62) ?_
                intro a69 c69 _ _
                refine ⟨?_, ?_⟩
                ·
                  refine Meets.le (S' := ⟨[.cells 28 [(.v (.string v3.word)), (.v (.string v3.name)), (.v (.int .i64 v3.raw.op)), (.v (.string v3.raw.name)), (.v (.slice a4 ((Rw.encL v3.raw.args).length) c4)), (.v (.slice a5 ((Pt.encL v3.parts).length) c5))], .cells 33 [(.v (.int .i64 0)), (.v (.int .i64 0)), (.v (.int .i64 0)), (.v (.slice none 0 0))], .imm [(.v (.int .i64 v7.op)), (.v (.string v7.sign)), (.v (.string v7.name)), (.v (.int .i64 v7.n)), (.v (.int .i64 v7.raw.op)), (.v (.string v7.raw.name)), (.v (.slice a11 ((Rw.encL v7.raw.args).length) c11)), (.v (.slice a12 ((Pt.encL v7.parts).length) c12))], .imm [(.v (.int .i64 v16.op)), (.v (.string v16.sign)), (.v (.string v16.name)), (.v (.int .i64 v16.n)), (.v (.int .i64 v16.raw.op)), (.v (.string v16.raw.name)), (.v (.slice a20 ((Rw.encL v16.raw.args).length) c20)), (.v (.slice a21 ((Pt.encL v16.parts).length) c21))], .imm [(.v (.int .i64 v23.op)), (.v (.string v23.sign)), (.v (.string v23.name)), (.v (.int .i64 v23.n)), (.v (.int .i64 v23.raw.op)), (.v (.string v23.raw.name)), (.v (.slice a27 ((Rw.encL v23.raw.args).length) c27)), (.v (.slice a28 ((Pt.encL v23.parts).length) c28))], .imm [(.v (.string v39.name)), (.v (.int .i64 v39.cls.op)), (.v (.int .i64 v39.cls.hd)), (.v (.int .i64 v39.cls.n)), (.v (.slice a43 ((Tm.encL v39.cls.args).length) c43)), (.v (.int .i64 v39.implicit))], .imm [(.v (.string v44.name)), (.v (.int .i64 v44.cls.op)), (.v (.int .i64 v44.cls.hd)), (.v (.int .i64 v44.cls.n)), (.v (.slice a48 ((Tm.encL v44.cls.args).length) c48)), (.v (.int .i64 v44.implicit))], .imm [(.v (.int .i64 v53.op)), (.v (.string v53.sign)), (.v (.string v53.name)), (.v (.int .i64 v53.n)), (.v (.int .i64 v53.raw.op)), (.v (.string v53.raw.name)), (.v (.slice a67 ((Rw.encL v53.raw.args).length) c67)), (.v (.slice a68 ((Pt.encL v53.parts).length) c68))], .imm [(.v (.string v59.name)), (.v (.int .i64 v59.cls.op)), (.v (.int .i64 v59.cls.hd)), (.v (.int .i64 v59.cls.n)), (.v (.slice a69 ((Tm.encL v59.cls.args).length) c69)), (.v (.int .i64 v59.implicit))]], [], [(.slice a31 ((List.map D.str v29.2.1).length) c31, .sl 1 (List.map D.str v29.2.1)), (.slice a2 ((Dc.encL v1).length) c2, .sl 6 (Dc.encL v1)), (.slice a4 ((Rw.encL v3.raw.args).length) c4, .sl 3 (Rw.encL v3.raw.args)), (.slice a5 ((Pt.encL v3.parts).length) c5, .sl 8 (Pt.encL v3.parts)), (.slice a11 ((Rw.encL v7.raw.args).length) c11, .sl 3 (Rw.encL v7.raw.args)), (.slice a12 ((Pt.encL v7.parts).length) c12, .sl 8 (Pt.encL v7.parts)), (.slice a20 ((Rw.encL v16.raw.args).length) c20, .sl 3 (Rw.encL v16.raw.args)), (.slice a21 ((Pt.encL v16.parts).length) c21, .sl 8 (Pt.encL v16.parts)), (.slice a27 ((Rw.encL v23.raw.args).length) c27, .sl 3 (Rw.encL v23.raw.args)), (.slice a28 ((Pt.encL v23.parts).length) c28, .sl 8 (Pt.encL v23.parts)), (.slice a43 ((Tm.encL v39.cls.args).length) c43, .sl 4 (Tm.encL v39.cls.args)), (.slice a48 ((Tm.encL v44.cls.args).length) c48, .sl 4 (Tm.encL v44.cls.args)), (.slice a51 ((List.map D.bool v49).length) c51, .sl 1 (List.map D.bool v49)), (.slice a67 ((Rw.encL v53.raw.args).length) c67, .sl 3 (Rw.encL v53.raw.args)), (.slice a68 ((Pt.encL v53.parts).length) c68, .sl 8 (Pt.encL v53.parts)), (.slice a69 ((Tm.encL v59.cls.args).length) c69, .sl 4 (Tm.encL v59.cls.args))]⟩) (StLe.gen 9 [] [.froz 0, .old 0, .old 1, .old 2, .old 3, .old 4, .old 5, .old 6, .old 7, .old 8, .old 9, .old 10, .old 11, .old 12, .old 13, .old 14] rfl rfl rfl rfl rfl rfl rfl) rfl ?_
                  refine (R15_order_spec n v53 v29.2.1 v59.implicit a67 c67 a68 c68 a31 c31 _ h65).atR [13, 14, 0] rfl rfl rfl ?_
                  rintro _ _ ⟨a70, c70, rfl, rfl⟩
                  refine ⟨OwnKeptBut.append, ?_⟩
                  refine ⟨fun _ _ h => h, ?_⟩
                  refine AtIf.mk (fun h71 => ?_) (fun h71 => ?_)
                  · replace hr := cond_t h71 hr
                    replace hr := Option.some.inj hr
                    subst hr
                    exact AtRet.pureG [.nil 3] [(.slice none 0 0, .sl 3 [])] rfl rfl ⟨none, 0, rfl, rfl⟩
                  · replace hr := cond_f h71 hr
                    replace hr := Option.some.inj hr
                    subst hr
                    exact AtRet.pureG [.old 16] [(.slice a70 ((Od.encL v64.1.parts).length) c70, .sl 3 (Od.encL v64.1.parts))] rfl rfl ⟨a70, c70, rfl, rfl⟩
                ·
                  refine ⟨OwnKeptBut.append, ?_⟩
                  refine Meets.le (S' := ⟨[.cells 28 [(.v (.string v3.word)), (.v (.string v3.name)), (.v (.int .i64 v3.raw.op)), (.v (.string v3.raw.name)), (.v (.slice a4 ((Rw.encL v3.raw.args).length) c4)), (.v (.slice a5 ((Pt.encL v3.parts).length) c5))], .cells 33 [(.v (.int .i64 0)), (.v (.int .i64 0)), (.v (.int .i64 0)), (.v (.slice none 0 0))], .imm [(.v (.int .i64 v7.op)), (.v (.string v7.sign)), (.v (.string v7.name)), (.v (.int .i64 v7.n)), (.v (.int .i64 v7.raw.op)), (.v (.string v7.raw.name)), (.v (.slice a11 ((Rw.encL v7.raw.args).length) c11)), (.v (.slice a12 ((Pt.encL v7.parts).length) c12))], .imm [(.v (.int .i64 v16.op)), (.v (.string v16.sign)), (.v (.string v16.name)), (.v (.int .i64 v16.n)), (.v (.int .i64 v16.raw.op)), (.v (.string v16.raw.name)), (.v (.slice a20 ((Rw.encL v16.raw.args).length) c20)), (.v (.slice a21 ((Pt.encL v16.parts).length) c21))], .imm [(.v (.int .i64 v23.op)), (.v (.string v23.sign)), (.v (.string v23.name)), (.v (.int .i64 v23.n)), (.v (.int .i64 v23.raw.op)), (.v (.string v23.raw.name)), (.v (.slice a27 ((Rw.encL v23.raw.args).length) c27)), (.v (.slice a28 ((Pt.encL v23.parts).length) c28))], .imm [(.v (.string v39.name)), (.v (.int .i64 v39.cls.op)), (.v (.int .i64 v39.cls.hd)), (.v (.int .i64 v39.cls.n)), (.v (.slice a43 ((Tm.encL v39.cls.args).length) c43)), (.v (.int .i64 v39.implicit))], .imm [(.v (.string v44.name)), (.v (.int .i64 v44.cls.op)), (.v (.int .i64 v44.cls.hd)), (.v (.int .i64 v44.cls.n)), (.v (.slice a48 ((Tm.encL v44.cls.args).length) c48)), (.v (.int .i64 v44.implicit))], .imm [(.v (.int .i64 v53.op)), (.v (.string v53.sign)), (.v (.string v53.name)), (.v (.int .i64 v53.n)), (.v (.int .i64 v53.raw.op)), (.v (.string v53.raw.name)), (.v (.slice a67 ((Rw.encL v53.raw.args).length) c67)), (.v (.slice a68 ((Pt.encL v53.parts).length) c68))], .imm [(.v (.string v59.name)), (.v (.int .i64 v59.cls.op)), (.v (.int .i64 v59.cls.hd)), (.v (.int .i64 v59.cls.n)), (.v (.slice a69 ((Tm.encL v59.cls.args).length) c69)), (.v (.int .i64 v59.implicit))], .cells 31 [(.v (.int .i64 0)), (.v (.int .i64 0)), (.v (.slice none 0 0))]], [], [(.slice a31 ((List.map D.str v29.2.1).length) c31, .sl 1 (List.map D.str v29.2.1)), (.slice a2 ((Dc.encL v1).length) c2, .sl 6 (Dc.encL v1)), (.slice a4 ((Rw.encL v3.raw.args).length) c4, .sl 3 (Rw.encL v3.raw.args)), (.slice a5 ((Pt.encL v3.parts).length) c5, .sl 8 (Pt.encL v3.parts)), (.slice a11 ((Rw.encL v7.raw.args).length) c11, .sl 3 (Rw.encL v7.raw.args)), (.slice a12 ((Pt.encL v7.parts).length) c12, .sl 8 (Pt.encL v7.parts)), (.slice a20 ((Rw.encL v16.raw.args).length) c20, .sl 3 (Rw.encL v16.raw.args)), (.slice a21 ((Pt.encL v16.parts).length) c21, .sl 8 (Pt.encL v16.parts)), (.slice a27 ((Rw.encL v23.raw.args).length) c27, .sl 3 (Rw.encL v23.raw.args)), (.slice a28 ((Pt.encL v23.parts).length) c28, .sl 8 (Pt.encL v23.parts)), (.slice a43 ((Tm.encL v39.cls.args).length) c43, .sl 4 (Tm.encL v39.cls.args)), (.slice a48 ((Tm.encL v44.cls.args).length) c48, .sl 4 (Tm.encL v44.cls.args)), (.slice a51 ((List.map D.bool v49).length) c51, .sl 1 (List.map D.bool v49)), (.slice a67 ((Rw.encL v53.raw.args).length) c67, .sl 3 (Rw.encL v53.raw.args)), (.slice a68 ((Pt.encL v53.parts).length) c68, .sl 8 (Pt.encL v53.parts)), (.slice a69 ((Tm.encL v59.cls.args).length) c69, .sl 4 (Tm.encL v59.cls.args))]⟩) (StLe.gen 10 [] [.froz 0, .old 0, .old 1, .old 2, .old 3, .old 4, .old 5, .old 6, .old 7, .old 8, .old 9, .old 10, .old 11, .old 12, .old 13, .old 14] rfl rfl rfl rfl rfl rfl rfl) rfl ?_
                  refine (R15_order_spec n v53 v29.2.1 v59.implicit a67 c67 a68 c68 a31 c31 _ h65).atR [13, 14, 0] rfl rfl rfl ?_
                  rintro _ _ ⟨a72, c72, rfl, rfl⟩
                  refine ⟨fun _ _ h => h, ?_⟩
                  refine AtIf.mk (fun h71 => ?_) (fun h71 => ?_)
                  · replace hr := cond_t h71 hr
                    replace hr := Option.some.inj hr
                    subst hr
                    exact AtRet.pureG [.nil 3] [(.slice none 0 0, .sl 3 [])] rfl rfl ⟨none, 0, rfl, rfl⟩
                  · replace hr := cond_f h71 hr
                    replace hr := Option.some.inj hr
                    subst hr
                    exact AtRet.pureG [.old 16] [(.slice a72 ((Od.encL v64.1.parts).length) c72, .sl 3 (Od.encL v64.1.parts))] rfl rfl ⟨a72, c72, rfl, rfl⟩
    · replace hr := cond_t h15 hr
      refine AtIf.mk (fun _ => ?_) (fun h => tf h)
      replace hr := Option.some.inj hr
      subst hr
      exact AtRet.pureG [.nil 3] [(.slice none 0 0, .sl 3 [])] rfl rfl ⟨none, 0, rfl, rfl⟩
  · replace hr := cond_t h6 hr
    refine AtGuard.mk (fun h => tf h) (fun _ => ?_)
    refine AtIf.mk (fun _ => ?_) (fun h => tf h)
    replace hr := Option.some.inj hr
    subst hr
    exact AtRet.pureG [.nil 3] [(.slice none 0 0, .sl 3 [])] rfl rfl ⟨none, 0, rfl, rfl⟩
def W15_OrderReads : Nat → (List Dc) → It → Option (Bool)
  | 0, _, _ => none
  | n + 1, v1, v3 =>
    (order_Read n v1 v3).bind (fun v6 =>
    (R05_Formed n v1).bind (fun v9 =>
    cond (!v9) (
    cond (v6.1.family == 0) (
    (W15_same n v6.1.order (Od.mk 0 0 ([]))).bind (fun v28 =>
    cond (v28 && (v6.2 == 2)) (
    some (true)) (
    some (false)))) (
    some (false))) (
    cond (!(itemOK v3)) (
    cond (v6.1.family == 0) (
    (W15_same n v6.1.order (Od.mk 0 0 ([]))).bind (fun v14 =>
    cond (v14 && (v6.2 == 2)) (
    some (true)) (
    some (false)))) (
    some (false))) (
    (W15_valid n v1).bind (fun v17 =>
    cond (!v17) (
    some (true)) (
    (R15_Read n v1 v3).bind (fun v20 =>
    cond (v6.1.family == v20.1.family) (
    (W15_same n v6.1.order v20.1.order).bind (fun v24 =>
    cond (v24 && (v6.2 == v20.2)) (
    some (true)) (
    some (false)))) (
    some (false)))))))))
theorem W15_OrderReads_spec (n : Nat) (v1 : (List Dc)) (v3 : It) (a2 : Option Addr) (c2 : Nat) (a4 : Option Addr) (c4 : Nat) (a5 : Option Addr) (c5 : Nat) (r : Bool) (hr : W15_OrderReads n v1 v3 = some r) : Pure Tryz.prog (.val (.fn (.func 3) [] [])) [(.v (.slice a2 ((Dc.encL v1).length) c2)), (.agg [(.v (.string v3.word)), (.v (.string v3.name)), (.v (.int .i64 v3.raw.op)), (.v (.string v3.raw.name)), (.v (.slice a4 ((Rw.encL v3.raw.args).length) c4)), (.v (.slice a5 ((Pt.encL v3.parts).length) c5))])] [(.slice a2 ((Dc.encL v1).length) c2, .sl 6 (Dc.encL v1)), (.slice a4 ((Rw.encL v3.raw.args).length) c4, .sl 3 (Rw.encL v3.raw.args)), (.slice a5 ((Pt.encL v3.parts).length) c5, .sl 8 (Pt.encL v3.parts))] (fun r' out => r' = (.v (.bool r)) ∧ out = []) := by
  rcases n with _ | n
  · exact no_some hr
  rw [W15_OrderReads.eq_2] at hr
  refine spec_of_body (N := 69) (m := 0) (dt := fun _ => none) [] ttOK Tryz.func3 rfl Tryz.call3 Tryz.ntmps3 rfl rfl rfl mixed (by kernel_rfl) ?_
  obtain ⟨v6, h7, hr⟩ := bind_some hr
  refine (order_Read_spec n v1 v3 a2 c2 a4 c4 a5 c5 _ h7).atR [0, 1, 2] rfl rfl rfl ?_
  rintro _ _ ⟨a8, c8, rfl, rfl⟩
  obtain ⟨v9, h10, hr⟩ := bind_some hr
  refine (R05_Formed_spec n v1 a2 c2 _ h10).atR [0] rfl rfl rfl ?_
  rintro _ _ ⟨rfl, rfl⟩
  refine AtGuard.mk (fun h11 => ?_) (fun h11 => ?_)
  · replace hr := cond_f h11 hr
    refine (wellItem_spec v3 a4 c4 a5 c5).atR [1, 2] rfl rfl rfl ?_
    rintro _ _ ⟨rfl, rfl⟩
    refine AtIf.mk (fun h12 => ?_) (fun h12 => ?_)
    · replace hr := cond_t h12 hr
      refine AtGuard.mk (fun h13 => ?_) (fun h13 => ?_)
      · replace hr := cond_t h13 hr
        obtain ⟨v14, h15, hr⟩ := bind_some hr
        refine Meets.nilRep 3 ?_
        refine (W15_same_spec n v6.1.order (Od.mk 0 0 ([])) a8 c8 none 0 _ h15).atR [4, 0] rfl rfl rfl ?_
        rintro _ _ ⟨rfl, rfl⟩
        refine AtGuard.mk (fun h16 => ?_) (fun h16 => ?_)
        · replace hr := cond_t h16 hr
          refine (awake_spec ).atR [] rfl rfl rfl ?_
          rintro _ _ ⟨rfl, rfl⟩
          replace hr := Option.some.inj hr
          subst hr
          exact AtRet.pureG [] [] rfl rfl ⟨rfl, rfl⟩
        · replace hr := cond_f h16 hr
          replace hr := Option.some.inj hr
          subst hr
          exact AtRet.pureG [] [] rfl rfl ⟨rfl, rfl⟩
      · replace hr := cond_f h13 hr
        refine AtGuard.mk (fun h => ff h) (fun _ => ?_)
        replace hr := Option.some.inj hr
        subst hr
        exact AtRet.pureG [] [] rfl rfl ⟨rfl, rfl⟩
    · replace hr := cond_f h12 hr
      obtain ⟨v17, h18, hr⟩ := bind_some hr
      refine (W15_valid_spec n v1 a2 c2 _ h18).atR [0] rfl rfl rfl ?_
      rintro _ _ ⟨rfl, rfl⟩
      refine AtIf.mk (fun h19 => ?_) (fun h19 => ?_)
      · replace hr := cond_t h19 hr
        refine (awake_spec ).atR [] rfl rfl rfl ?_
        rintro _ _ ⟨rfl, rfl⟩
        replace hr := Option.some.inj hr
        subst hr
        exact AtRet.pureG [] [] rfl rfl ⟨rfl, rfl⟩
      · replace hr := cond_f h19 hr
        obtain ⟨v20, h21, hr⟩ := bind_some hr
        refine (R15_Read_spec n v1 v3 a2 c2 a4 c4 a5 c5 _ h21).atR [0, 1, 2] rfl rfl rfl ?_
        rintro _ _ ⟨a22, c22, rfl, rfl⟩
        refine AtGuard.mk (fun h23 => ?_) (fun h23 => ?_)
        · replace hr := cond_t h23 hr
          obtain ⟨v24, h25, hr⟩ := bind_some hr
          refine (W15_same_spec n v6.1.order v20.1.order a8 c8 a22 c22 _ h25).atR [3, 4] rfl rfl rfl ?_
          rintro _ _ ⟨rfl, rfl⟩
          refine AtGuard.mk (fun h26 => ?_) (fun h26 => ?_)
          · replace hr := cond_t h26 hr
            refine (awake_spec ).atR [] rfl rfl rfl ?_
            rintro _ _ ⟨rfl, rfl⟩
            replace hr := Option.some.inj hr
            subst hr
            exact AtRet.pureG [] [] rfl rfl ⟨rfl, rfl⟩
          · replace hr := cond_f h26 hr
            replace hr := Option.some.inj hr
            subst hr
            exact AtRet.pureG [] [] rfl rfl ⟨rfl, rfl⟩
        · replace hr := cond_f h23 hr
          refine AtGuard.mk (fun h => ff h) (fun _ => ?_)
          replace hr := Option.some.inj hr
          subst hr
          exact AtRet.pureG [] [] rfl rfl ⟨rfl, rfl⟩
  · replace hr := cond_t h11 hr
    refine AtIf.mk (fun _ => ?_) (fun h => tf h)
    refine AtGuard.mk (fun h27 => ?_) (fun h27 => ?_)
    · replace hr := cond_t h27 hr
      obtain ⟨v28, h29, hr⟩ := bind_some hr
      refine Meets.nilRep 3 ?_
      refine (W15_same_spec n v6.1.order (Od.mk 0 0 ([])) a8 c8 none 0 _ h29).atR [4, 0] rfl rfl rfl ?_
      rintro _ _ ⟨rfl, rfl⟩
      refine AtGuard.mk (fun h30 => ?_) (fun h30 => ?_)
      · replace hr := cond_t h30 hr
        refine (awake_spec ).atR [] rfl rfl rfl ?_
        rintro _ _ ⟨rfl, rfl⟩
        replace hr := Option.some.inj hr
        subst hr
        exact AtRet.pureG [] [] rfl rfl ⟨rfl, rfl⟩
      · replace hr := cond_f h30 hr
        replace hr := Option.some.inj hr
        subst hr
        exact AtRet.pureG [] [] rfl rfl ⟨rfl, rfl⟩
    · replace hr := cond_f h27 hr
      refine AtGuard.mk (fun h => ff h) (fun _ => ?_)
      replace hr := Option.some.inj hr
      subst hr
      exact AtRet.pureG [] [] rfl rfl ⟨rfl, rfl⟩
end Go.Proofs.YtnolnmfpmhpapaaGreat
end
