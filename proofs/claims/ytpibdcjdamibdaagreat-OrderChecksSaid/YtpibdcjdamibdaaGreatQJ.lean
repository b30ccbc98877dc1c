/- Merged texts: G2. OrderChecks with fuel, and its contract. Conditions stand in each. -/
import Derived.Test.YtpibdcjdamibdaaGreatQI
/-! G2 -/
section
namespace Go.Proofs.YtpibdcjdamibdaaGreat
open Go.Tr Go
set_option maxRecDepth 10000
set_option linter.unusedVariables false
set_option linter.unusedSimpArgs false

abbrev Od.gk (x : Od) (a : Option Addr) (c : Nat) : SV := .agg [(.v (.int .i64 x.op)), (.v (.int .i64 x.n)), (.v (.slice a ((Od.encL x.parts).length) c))]
abbrev Od.gv : GE Od → Value := fun (x, a, c) => .agg #[(.int .i64 x.op), (.int .i64 x.n), (.slice a ((Od.encL x.parts).length) c)]
abbrev Od.gp (x : Od) : List D := (Od.encL x.parts)
mutual
def term_Domains : Nat → Tm → Option ((List Tm) × Tm)
  | 0, _ => none
  | n + 1, v1 =>
    term_Domains_L1 n v1 ([])
def term_Domains_L1 : Nat → Tm → (List Tm) → Option ((List Tm) × Tm)
  | 0, _, _ => none
  | n + 1, v17, v19 =>
    cond (v17.op == 2) (
    (idx v17.args 0).bind (fun v22 =>
    cond (decide ((Tm.encL (v19 ++ [v22])).length ≤ 1000000)) (
    (idx v17.args 1).bind (fun v30 =>
    term_Domains_L1 n v30 (v19 ++ [v22]))) none)) (
    some (v19, v17))
 end
theorem term_Domains_spec (n : Nat) (v1 : Tm) (a2 : Option Addr) (c2 : Nat) (r : (List Tm) × Tm) (hr : term_Domains n v1 = some r) : Pure Tryz.prog (.val (.fn (.func 43) [] [])) [(.agg [(.v (.int .i64 v1.op)), (.v (.int .i64 v1.hd)), (.v (.int .i64 v1.n)), (.v (.slice a2 ((Tm.encL v1.args).length) c2))])] [(.slice a2 ((Tm.encL v1.args).length) c2, .sl 4 (Tm.encL v1.args))] (fun r' out => ∃ (b1 : Option Addr) (d1 : Nat), ∃ (b2 : Option Addr) (d2 : Nat), r' = (.tup [(.v (.slice b1 ((Tm.encL r.1).length) d1)), (.agg [(.v (.int .i64 r.2.op)), (.v (.int .i64 r.2.hd)), (.v (.int .i64 r.2.n)), (.v (.slice b2 ((Tm.encL r.2.args).length) d2))])]) ∧ out = [(.slice b1 ((Tm.encL r.1).length) d1, .sl 4 (Tm.encL r.1)), (.slice b2 ((Tm.encL r.2.args).length) d2, .sl 4 (Tm.encL r.2.args))]) := by
  rcases n with _ | n
  · exact no_some hr
  rw [term_Domains.eq_2] at hr
  refine spec_of_body (N := 21) (m := 0) (dt := drawsOf [(5, .node [0, 1, 2] [(3, .leaf [])], [3], [])]) [] ttOK Tryz.func43 rfl Tryz.call43 Tryz.ntmps43 rfl rfl rfl mixed (by kernel_rfl) ?_
  refine AtLoop.mk ⟨Nat × Tm × Option Addr × Nat × (List Tm) × Option Addr × Nat, fun x => [(1, (.loc 0 0)), (3, (.loc 1 0)), (4, (.v (.slice x.2.2.2.2.2.1 ((Tm.encL x.2.2.2.2.1).length) x.2.2.2.2.2.2)))], fun x => ⟨[.cells 51 [(.v (.int .i64 x.2.1.op)), (.v (.int .i64 x.2.1.hd)), (.v (.int .i64 x.2.1.n)), (.v (.slice x.2.2.1 ((Tm.encL x.2.1.args).length) x.2.2.2.1))], .cells 51 [(.v (.int .i64 0)), (.v (.int .i64 0)), (.v (.int .i64 0)), (.v (.slice none 0 0))]], [⟨.slice x.2.2.2.2.2.1 ((Tm.encL x.2.2.2.2.1).length) x.2.2.2.2.2.2, 4, 51, (Tm.encL x.2.2.2.2.1)⟩], [(.slice x.2.2.1 ((Tm.encL x.2.1.args).length) x.2.2.2.1, .sl 4 (Tm.encL x.2.1.args)), (.slice a2 ((Tm.encL v1.args).length) c2, .sl 4 (Tm.encL v1.args))]⟩, fun x => term_Domains_L1 x.1 x.2.1 x.2.2.2.2.1 = some r, fun x => x.1, (n, v1, a2, c2, [], none, 0), hr, ⟨rfl, rfl, rfl, trivial⟩, (StLe.gen 2 [.nil 4 51] [.old 0, .old 0] rfl rfl rfl rfl rfl rfl rfl), fun x _ => ⟨rfl, rfl⟩, ?_⟩
  rintro ⟨n, v17, a18, c18, v19, a20, c20⟩ HH
  have hr : term_Domains_L1 n v17 v19 = some r := HH
  rcases n with _ | n
  · exact no_some hr
  rw [term_Domains_L1.eq_2] at hr
  refine AtIf.mk (fun h21 => ?_) (fun h21 => ?_)
  · replace hr := cond_t h21 hr
    obtain ⟨v22, h23, hr⟩ := bind_some hr
    obtain ⟨h24, h25⟩ := idx_some h23
    refine at_index ttOK 0 rfl rfl rfl rfl h24 (Tm.encL_get h25) ?_
    intro a26 c26 _ _
    refine at_buildG (n := 1) ttOK 48 [.agg [.int .i64 v22.op, .int .i64 v22.hd, .int .i64 v22.n, .sl 4 (Tm.encL v22.args)]] (ds' := (Tm.encL ([v22]))) rfl (by kernel_rfl) ⟨⟨rfl, rfl, rfl, ⟨[(.v (.int .i64 v22.op))], _, rfl, rfl, ⟨[(.v (.int .i64 v22.hd))], _, rfl, rfl, ⟨[(.v (.int .i64 v22.n))], _, rfl, rfl, ⟨[(.v (.slice a26 ((Tm.encL v22.args).length) c26))], _, rfl, (.inl ⟨_, rfl, nth_mem (j := 2) rfl⟩), rfl⟩⟩⟩⟩⟩, trivial⟩ rfl (by simp only [Tm.encL_eq, List.map_cons, List.map_nil, Tm.enc_eq] <;> rfl) (by decide) (by decide) ?_
    intro a27
    obtain ⟨h28, hr⟩ := cond_need hr
    refine at_appendG (ds' := (Tm.encL (v19 ++ [v22]))) ttOK 48 0 3 rfl (by kernel_rfl) rfl rfl rfl rfl (by simp only [Tm.encL_eq, List.map_append]) h28 (by decide) ?_
    intro a29 c29
    obtain ⟨v30, h31, hr⟩ := bind_some hr
    obtain ⟨h32, h33⟩ := idx_some h31
    refine at_index ttOK 0 rfl rfl rfl rfl h32 (Tm.encL_get h33) ?_
    intro a34 c34 _ _
    exact ⟨(n, v30, a34, c34, (v19 ++ [v22]), a29, c29), hr, Nat.lt_succ_self _, ⟨rfl, rfl, rfl, trivial⟩, (StLe.gen 2 [.old 0] [.old 4, .old 1] rfl rfl rfl rfl rfl rfl rfl)⟩
  · replace hr := cond_f h21 hr
    replace hr := Option.some.inj hr
    subst hr
    exact AtRet.pureG [.froz 0, .old 0] [(.slice a20 ((Tm.encL v19).length) c20, .sl 4 (Tm.encL v19)), (.slice a18 ((Tm.encL v17.args).length) c18, .sl 4 (Tm.encL v17.args))] rfl rfl ⟨a20, c20, a18, c18, rfl, rfl⟩
mutual
def slices_Index : Nat → (List Int) → Int → Option (Int)
  | 0, _, _ => none
  | n + 1, v1, v3 =>
    slices_Index_L1 n v1 v3 0
def slices_Index_L1 : Nat → (List Int) → Int → Int → Option (Int)
  | 0, _, _, _ => none
  | n + 1, v1, v3, v10 =>
    cond (decide (v10 < ((List.map (D.int .i64) v1).length : Int))) (
    (idx v1 v10).bind (fun v12 =>
    cond (v3 == v12) (
    some (v10)) (
    slices_Index_L1 n v1 v3 (IntKind.i64.wrap (v10 + 1))))) (
    some ((-1)))
 end
theorem slices_Index_spec (n : Nat) (v1 : (List Int)) (v3 : Int) (a2 : Option Addr) (c2 : Nat) (r : Int) (hr : slices_Index n v1 v3 = some r) : Pure Tryz.prog (.val (.fn (.func 134) [] [])) [(.v (.slice a2 ((List.map (D.int .i64) v1).length) c2)), (.v (.int .i64 v3))] [(.slice a2 ((List.map (D.int .i64) v1).length) c2, .sl 1 (List.map (D.int .i64) v1))] (fun r' out => r' = (.v (.int .i64 r)) ∧ out = []) := by
  rcases n with _ | n
  · exact no_some hr
  rw [slices_Index.eq_2] at hr
  refine spec_of_body (N := 19) (m := 0) (dt := fun _ => none) [] ttOK Tryz.func134 rfl Tryz.call134 Tryz.ntmps134 rfl rfl rfl mixed (by kernel_rfl) ?_
  refine AtLoop.mk ⟨Nat × Int, fun x => [(0, (.v (.slice a2 ((List.map (D.int .i64) v1).length) c2))), (1, (.v (.int .i64 v3))), (7, (.v (.int .i64 ((List.map (D.int .i64) v1).length : Int)))), (8, (.v (.int .i64 x.2)))], fun x => ⟨[], [], [(.slice a2 ((List.map (D.int .i64) v1).length) c2, .sl 1 (List.map (D.int .i64) v1))]⟩, fun x => slices_Index_L1 x.1 v1 v3 x.2 = some r, fun x => x.1, (n, 0), hr, ⟨rfl, rfl, rfl, rfl, trivial⟩, (StLe.gen 0 [] [.old 0] rfl rfl rfl rfl rfl rfl rfl), fun x _ => ⟨rfl, rfl⟩, ?_⟩
  rintro ⟨n, v10⟩ HH
  have hr : slices_Index_L1 n v1 v3 v10 = some r := HH
  rcases n with _ | n
  · exact no_some hr
  rw [slices_Index_L1.eq_2] at hr
  refine AtIf.mk (fun h11 => ?_) (fun h11 => ?_)
  · replace hr := cond_t h11 hr
    obtain ⟨v12, h13, hr⟩ := bind_some hr
    obtain ⟨h14, h15⟩ := idx_some h13
    refine at_index ttOK 0 rfl rfl rfl rfl h14 (map_get (D.int .i64) h15) ?_
    refine AtIf.mk (fun h16 => ?_) (fun h16 => ?_)
    · replace hr := cond_t h16 hr
      replace hr := Option.some.inj hr
      subst hr
      exact AtRet.pureG [] [] rfl rfl ⟨rfl, rfl⟩
    · replace hr := cond_f h16 hr
      exact ⟨(n, (IntKind.i64.wrap (v10 + 1))), hr, Nat.lt_succ_self _, ⟨rfl, rfl, rfl, rfl, trivial⟩, (StLe.gen 0 [] [.old 0] rfl rfl rfl rfl rfl rfl rfl)⟩
  · replace hr := cond_f h11 hr
    replace hr := Option.some.inj hr
    subst hr
    exact AtRet.pureG [] [] rfl rfl ⟨rfl, rfl⟩
def slices_Contains : Nat → (List Int) → Int → Option (Bool)
  | 0, _, _ => none
  | n + 1, v1, v3 =>
    (slices_Index n v1 v3).bind (fun v4 =>
    some ((decide (v4 ≥ 0))))
theorem slices_Contains_spec (n : Nat) (v1 : (List Int)) (v3 : Int) (a2 : Option Addr) (c2 : Nat) (r : Bool) (hr : slices_Contains n v1 v3 = some r) : Pure Tryz.prog (.val (.fn (.func 120) [] [])) [(.v (.slice a2 ((List.map (D.int .i64) v1).length) c2)), (.v (.int .i64 v3))] [(.slice a2 ((List.map (D.int .i64) v1).length) c2, .sl 1 (List.map (D.int .i64) v1))] (fun r' out => r' = (.v (.bool r)) ∧ out = []) := by
  rcases n with _ | n
  · exact no_some hr
  rw [slices_Contains.eq_2] at hr
  refine spec_of_body (N := 9) (m := 0) (dt := fun _ => none) [] ttOK Tryz.func120 rfl Tryz.call120 Tryz.ntmps120 rfl rfl rfl mixed (by kernel_rfl) ?_
  obtain ⟨v4, h5, hr⟩ := bind_some hr
  refine (slices_Index_spec n v1 v3 a2 c2 _ h5).atR [0] rfl rfl rfl ?_
  rintro _ _ ⟨rfl, rfl⟩
  replace hr := Option.some.inj hr
  subst hr
  exact AtRet.pureG [] [] rfl rfl ⟨rfl, rfl⟩
def term_Occurs : Nat → Tm → Int → Option (Bool × Int)
  | 0, _, _ => none
  | n + 1, v1, v3 =>
    (slices_Contains n (freeL v1) v3).bind (fun v5 =>
    some (v5, (freeE v1)))
theorem term_Occurs_spec (n : Nat) (v1 : Tm) (v3 : Int) (a2 : Option Addr) (c2 : Nat) (r : Bool × Int) (hr : term_Occurs n v1 v3 = some r) : Pure Tryz.prog (.val (.fn (.func 103) [] [])) [(.agg [(.v (.int .i64 v1.op)), (.v (.int .i64 v1.hd)), (.v (.int .i64 v1.n)), (.v (.slice a2 ((Tm.encL v1.args).length) c2))]), (.v (.int .i64 v3))] [(.slice a2 ((Tm.encL v1.args).length) c2, .sl 4 (Tm.encL v1.args))] (fun r' out => r' = (.tup [(.v (.bool r.1)), (.v (.int .i64 r.2))]) ∧ out = []) := by
  rcases n with _ | n
  · exact no_some hr
  rw [term_Occurs.eq_2] at hr
  refine spec_of_body (N := 17) (m := 0) (dt := fun _ => none) [] ttOK Tryz.func103 rfl Tryz.call103 Tryz.ntmps103 rfl rfl rfl mixed (by kernel_rfl) ?_
  refine (free0 v1 a2 c2).atR [0] rfl rfl rfl ?_
  rintro _ _ ⟨a4, c4, rfl, rfl⟩
  obtain ⟨v5, h6, hr⟩ := bind_some hr
  refine (slices_Contains_spec n (freeL v1) v3 a4 c4 _ h6).atR [1] rfl rfl rfl ?_
  rintro _ _ ⟨rfl, rfl⟩
  replace hr := Option.some.inj hr
  subst hr
  exact AtRet.pureG [] [] rfl rfl ⟨rfl, rfl⟩
def search_isPremise : Nat → Tm → Option (Bool)
  | 0, _ => none
  | n + 1, v1 =>
    (idx v1.args 1).bind (fun v3 =>
    (term_Occurs n v3 0).bind (fun v8 =>
    some ((!v8.1))))
theorem search_isPremise_spec (n : Nat) (v1 : Tm) (a2 : Option Addr) (c2 : Nat) (r : Bool) (hr : search_isPremise n v1 = some r) : Pure Tryz.prog (.val (.fn (.func 72) [] [])) [(.agg [(.v (.int .i64 v1.op)), (.v (.int .i64 v1.hd)), (.v (.int .i64 v1.n)), (.v (.slice a2 ((Tm.encL v1.args).length) c2))])] [(.slice a2 ((Tm.encL v1.args).length) c2, .sl 4 (Tm.encL v1.args))] (fun r' out => r' = (.v (.bool r)) ∧ out = []) := by
  rcases n with _ | n
  · exact no_some hr
  rw [search_isPremise.eq_2] at hr
  refine spec_of_body (N := 15) (m := 0) (dt := fun _ => none) [] ttOK Tryz.func72 rfl Tryz.call72 Tryz.ntmps72 rfl rfl rfl mixed (by kernel_rfl) ?_
  obtain ⟨v3, h4, hr⟩ := bind_some hr
  obtain ⟨h5, h6⟩ := idx_some h4
  refine at_index ttOK 0 rfl rfl rfl rfl h5 (Tm.encL_get h6) ?_
  intro a7 c7 _ _
  obtain ⟨v8, h9, hr⟩ := bind_some hr
  refine (term_Occurs_spec n v3 0 a7 c7 _ h9).atR [1] rfl rfl rfl ?_
  rintro _ _ ⟨rfl, rfl⟩
  replace hr := Option.some.inj hr
  subst hr
  exact AtRet.pureG [] [] rfl rfl ⟨rfl, rfl⟩
mutual
def search_Positions : Nat → Tm → Option (Cl)
  | 0, _ => none
  | n + 1, v1 =>
    search_Positions_L1 n v1 (Cl.mk ([]) ([])) 0
def search_Positions_L1 : Nat → Tm → Cl → Int → Option (Cl)
  | 0, _, _, _ => none
  | n + 1, v34, v36, v39 =>
    cond (v34.op == 2) (
    (search_isPremise n v34).bind (fun v41 =>
    cond v41 (
    cond (decide ((List.map (D.int .i64) (v36.premises ++ [v39])).length ≤ 1000000)) (
    (idx v34.args 1).bind (fun v47 =>
    search_Positions_L1 n v47 (Cl.mk v36.dependent (v36.premises ++ [v39])) (IntKind.i64.wrap (v39 + 1)))) none) (
    cond (decide ((List.map (D.int .i64) (v36.dependent ++ [v39])).length ≤ 1000000)) (
    (idx v34.args 1).bind (fun v55 =>
    search_Positions_L1 n v55 (Cl.mk (v36.dependent ++ [v39]) v36.premises) (IntKind.i64.wrap (v39 + 1)))) none))) (
    some (v36))
 end
theorem search_Positions_spec (n : Nat) (v1 : Tm) (a2 : Option Addr) (c2 : Nat) (r : Cl) (hr : search_Positions n v1 = some r) : Pure Tryz.prog (.val (.fn (.func 44) [] [])) [(.agg [(.v (.int .i64 v1.op)), (.v (.int .i64 v1.hd)), (.v (.int .i64 v1.n)), (.v (.slice a2 ((Tm.encL v1.args).length) c2))])] [(.slice a2 ((Tm.encL v1.args).length) c2, .sl 4 (Tm.encL v1.args))] (fun r' out => ∃ (b1 : Option Addr) (d1 : Nat), ∃ (b2 : Option Addr) (d2 : Nat), r' = (.agg [(.v (.slice b1 ((List.map (D.int .i64) r.dependent).length) d1)), (.v (.slice b2 ((List.map (D.int .i64) r.premises).length) d2))]) ∧ out = [(.slice b1 ((List.map (D.int .i64) r.dependent).length) d1, .sl 1 (List.map (D.int .i64) r.dependent)), (.slice b2 ((List.map (D.int .i64) r.premises).length) d2, .sl 1 (List.map (D.int .i64) r.premises))]) := by
  rcases n with _ | n
  · exact no_some hr
  rw [search_Positions.eq_2] at hr
  refine spec_of_body (N := 29) (m := 0) (dt := fun _ => none) [] ttOK Tryz.func44 rfl Tryz.call44 Tryz.ntmps44 rfl rfl rfl mixed (by kernel_rfl) ?_
  refine AtLoop.mk ⟨Nat × Tm × Option Addr × Nat × Cl × Option Addr × Nat × Option Addr × Nat × Int, fun x => [(1, (.loc 0 0)), (2, (.loc 1 0)), (3, (.loc 2 0)), (4, (.v (.int .i64 x.2.2.2.2.2.2.2.2.2)))], fun x => ⟨[.cells 51 [(.v (.int .i64 x.2.1.op)), (.v (.int .i64 x.2.1.hd)), (.v (.int .i64 x.2.1.n)), (.v (.slice x.2.2.1 ((Tm.encL x.2.1.args).length) x.2.2.2.1))], .cells 85 [(.v (.slice none 0 0)), (.v (.slice none 0 0))], .cells 85 [(.v (.slice x.2.2.2.2.2.1 ((List.map (D.int .i64) x.2.2.2.2.1.dependent).length) x.2.2.2.2.2.2.1)), (.v (.slice x.2.2.2.2.2.2.2.1 ((List.map (D.int .i64) x.2.2.2.2.1.premises).length) x.2.2.2.2.2.2.2.2.1))]], [⟨.slice x.2.2.2.2.2.1 ((List.map (D.int .i64) x.2.2.2.2.1.dependent).length) x.2.2.2.2.2.2.1, 1, 3, (List.map (D.int .i64) x.2.2.2.2.1.dependent)⟩, ⟨.slice x.2.2.2.2.2.2.2.1 ((List.map (D.int .i64) x.2.2.2.2.1.premises).length) x.2.2.2.2.2.2.2.2.1, 1, 3, (List.map (D.int .i64) x.2.2.2.2.1.premises)⟩], [(.slice x.2.2.1 ((Tm.encL x.2.1.args).length) x.2.2.2.1, .sl 4 (Tm.encL x.2.1.args)), (.slice a2 ((Tm.encL v1.args).length) c2, .sl 4 (Tm.encL v1.args))]⟩, fun x => search_Positions_L1 x.1 x.2.1 x.2.2.2.2.1 x.2.2.2.2.2.2.2.2.2 = some r, fun x => x.1, (n, v1, a2, c2, (Cl.mk ([]) ([])), none, 0, none, 0, 0), hr, ⟨rfl, rfl, rfl, rfl, trivial⟩, (StLe.gen 3 [.nil 1 3, .nil 1 3] [.old 0, .old 0] rfl rfl rfl rfl rfl rfl rfl), fun x _ => ⟨rfl, rfl⟩, ?_⟩
  rintro ⟨n, v34, a35, c35, v36, a37, c37, a38, c38, v39⟩ HH
  have hr : search_Positions_L1 n v34 v36 v39 = some r := HH
  rcases n with _ | n
  · exact no_some hr
  rw [search_Positions_L1.eq_2] at hr
  refine AtIf.mk (fun h40 => ?_) (fun h40 => ?_)
  · replace hr := cond_t h40 hr
    obtain ⟨v41, h42, hr⟩ := bind_some hr
    refine (search_isPremise_spec n v34 a35 c35 _ h42).atR [0] rfl rfl rfl ?_
    rintro _ _ ⟨rfl, rfl⟩
    refine AtIf.mk (fun h43 => ?_) (fun h43 => ?_)
    · replace hr := cond_t h43 hr
      refine at_buildG (n := 1) ttOK 8 [.int .i64 v39] (ds' := (List.map (D.int .i64) ([v39]))) rfl (by kernel_rfl) ⟨⟨rfl, rfl, rfl, rfl⟩, trivial⟩ rfl rfl (by decide) (by decide) ?_
      intro a44
      obtain ⟨h45, hr⟩ := cond_need hr
      refine at_appendG (ds' := (List.map (D.int .i64) (v36.premises ++ [v39]))) ttOK 8 1 2 rfl (by kernel_rfl) rfl rfl rfl rfl (by simp only [List.map_append]) h45 (by decide) ?_
      intro a46 c46
      obtain ⟨v47, h48, hr⟩ := bind_some hr
      obtain ⟨h49, h50⟩ := idx_some h48
      refine at_index ttOK 0 rfl rfl rfl rfl h49 (Tm.encL_get h50) ?_
      intro a51 c51 _ _
      exact ⟨(n, v47, a51, c51, (Cl.mk v36.dependent (v36.premises ++ [v39])), a37, c37, a46, c46, (IntKind.i64.wrap (v39 + 1))), hr, Nat.lt_succ_self _, ⟨rfl, rfl, rfl, rfl, trivial⟩, (StLe.gen 3 [.old 0, .old 1] [.old 3, .old 1] rfl rfl rfl rfl rfl rfl rfl)⟩
    · replace hr := cond_f h43 hr
      refine at_buildG (n := 1) ttOK 8 [.int .i64 v39] (ds' := (List.map (D.int .i64) ([v39]))) rfl (by kernel_rfl) ⟨⟨rfl, rfl, rfl, rfl⟩, trivial⟩ rfl rfl (by decide) (by decide) ?_
      intro a52
      obtain ⟨h53, hr⟩ := cond_need hr
      refine at_appendG (ds' := (List.map (D.int .i64) (v36.dependent ++ [v39]))) ttOK 8 0 2 rfl (by kernel_rfl) rfl rfl rfl rfl (by simp only [List.map_append]) h53 (by decide) ?_
      intro a54 c54
      obtain ⟨v55, h56, hr⟩ := bind_some hr
      obtain ⟨h57, h58⟩ := idx_some h56
      refine at_index ttOK 0 rfl rfl rfl rfl h57 (Tm.encL_get h58) ?_
      intro a59 c59 _ _
      exact ⟨(n, v55, a59, c59, (Cl.mk (v36.dependent ++ [v39]) v36.premises), a54, c54, a38, c38, (IntKind.i64.wrap (v39 + 1))), hr, Nat.lt_succ_self _, ⟨rfl, rfl, rfl, rfl, trivial⟩, (StLe.gen 3 [.old 0, .old 1] [.old 3, .old 1] rfl rfl rfl rfl rfl rfl rfl)⟩
  · replace hr := cond_f h40 hr
    replace hr := Option.some.inj hr
    subst hr
    exact AtRet.pureG [.froz 0, .froz 1] [(.slice a37 ((List.map (D.int .i64) v36.dependent).length) c37, .sl 1 (List.map (D.int .i64) v36.dependent)), (.slice a38 ((List.map (D.int .i64) v36.premises).length) c38, .sl 1 (List.map (D.int .i64) v36.premises))] rfl rfl ⟨a37, c37, a38, c38, rfl, rfl⟩
mutual
def order_calls : Nat → (List Dc) → Int → (List (Int × Od)) → Option ((List Int))
  | 0, _, _, _ => none
  | n + 1, v1, v3, v4 =>
    (idx v1 v3).bind (fun v6 =>
    (term_Domains n v6.cls).bind (fun v11 =>
    (idx v1 v3).bind (fun v15 =>
    (search_Positions n v15.cls).bind (fun v20 =>
    order_calls_L1 n v20 v11 v4 ([]) 0))))
def order_calls_L1 : Nat → Cl → ((List Tm) × Tm) → (List (Int × Od)) → (List Int) → Int → Option ((List Int))
  | 0, _, _, _, _, _ => none
  | n + 1, v20, v11, v4, v43, v45 =>
    cond (decide (v45 < ((List.map (D.int .i64) v20.premises).length : Int))) (
    (idx v20.premises v45).bind (fun v47 =>
    (idx v11.1 v47).bind (fun v51 =>
    (term_Domains n v51).bind (fun v56 =>
    cond (((mget v4 v56.2.n).isSome) && (v56.2.hd == 2)) (
    cond (decide ((List.map (D.int .i64) (v43 ++ [v47])).length ≤ 1000000)) (
    order_calls_L1 n v20 v11 v4 (v43 ++ [v47]) (IntKind.i64.wrap (v45 + 1))) none) (
    order_calls_L1 n v20 v11 v4 v43 (IntKind.i64.wrap (v45 + 1))))))) (
    some (v43))
 end
theorem order_calls_spec (n : Nat) (v1 : (List Dc)) (v3 : Int) (g5 : (List (Int × GE Od))) (a2 : Option Addr) (c2 : Nat) (r : (List Int)) (hr : order_calls n v1 v3 (er g5) = some r) : Meets Tryz.prog (.val (.fn (.func 23) [] [])) [(.v (.slice a2 ((Dc.encL v1).length) c2)), (.mp 0), (.v (.int .i64 v3))] ⟨[.obj (mapO .i64 (encM Od.gv g5))], [], [(.slice a2 ((Dc.encL v1).length) c2, .sl 6 (Dc.encL v1)), (agV 3 Od.gp g5, agD 3 Od.gp g5)]⟩ (fun o S' => ∃ (b1 : Option Addr) (d1 : Nat), o = .ret (.v (.slice b1 ((List.map (D.int .i64) r).length) d1)) ∧ S' = ⟨[.obj (mapO .i64 (encM Od.gv g5))], [], [(.slice b1 ((List.map (D.int .i64) r).length) d1, .sl 1 (List.map (D.int .i64) r))]⟩) := by
  rcases n with _ | n
  · exact no_some hr
  rw [order_calls.eq_2] at hr
  refine spec_of_body (N := 64) (m := 1) (dt := fun _ => none) [] ttOK Tryz.func23 rfl Tryz.call23 Tryz.ntmps23 rfl rfl rfl mixed (by kernel_rfl) ?_
  obtain ⟨v6, h7, hr⟩ := bind_some hr
  obtain ⟨h8, h9⟩ := idx_some h7
  refine at_index ttOK 0 rfl rfl rfl rfl h8 (Dc.encL_get h9) ?_
  intro a10 c10 _ _
  obtain ⟨v11, h12, hr⟩ := bind_some hr
  refine (term_Domains_spec n v6.cls a10 c10 _ h12).atR [2] rfl rfl rfl ?_
  rintro _ _ ⟨a13, c13, a14, c14, rfl, rfl⟩
  obtain ⟨v15, h16, hr⟩ := bind_some hr
  obtain ⟨h17, h18⟩ := idx_some h16
  refine at_index ttOK 0 rfl rfl rfl rfl h17 (Dc.encL_get h18) ?_
  intro a19 c19 _ _
  obtain ⟨v20, h21, hr⟩ := bind_some hr
  refine (search_Positions_spec n v15.cls a19 c19 _ h21).atR [5] rfl rfl rfl ?_
  rintro _ _ ⟨a22, c22, a23, c23, rfl, rfl⟩
  refine at_field Tryz.underlying85 rfl Tryz.isAgg31 rfl rfl rfl ?_
  refine AtLoop.mk ⟨Nat × (List Int) × Option Addr × Nat × Int, fun x => [(1, (.mp 0)), (7, (.v (.slice a13 ((Tm.encL v11.1).length) c13))), (9, (.v (.slice x.2.2.1 ((List.map (D.int .i64) x.2.1).length) x.2.2.2.1))), (31, (.v (.slice a23 ((List.map (D.int .i64) v20.premises).length) c23))), (32, (.v (.int .i64 ((List.map (D.int .i64) v20.premises).length : Int)))), (33, (.v (.int .i64 x.2.2.2.2)))], fun x => ⟨[.obj (mapO .i64 (encM Od.gv g5)), .imm [(.v (.string v6.name)), (.v (.int .i64 v6.cls.op)), (.v (.int .i64 v6.cls.hd)), (.v (.int .i64 v6.cls.n)), (.v (.slice a10 ((Tm.encL v6.cls.args).length) c10)), (.v (.int .i64 v6.implicit))], .cells 51 [(.v (.int .i64 v11.2.op)), (.v (.int .i64 v11.2.hd)), (.v (.int .i64 v11.2.n)), (.v (.slice a14 ((Tm.encL v11.2.args).length) c14))], .imm [(.v (.string v15.name)), (.v (.int .i64 v15.cls.op)), (.v (.int .i64 v15.cls.hd)), (.v (.int .i64 v15.cls.n)), (.v (.slice a19 ((Tm.encL v15.cls.args).length) c19)), (.v (.int .i64 v15.implicit))]], [⟨.slice x.2.2.1 ((List.map (D.int .i64) x.2.1).length) x.2.2.2.1, 1, 3, (List.map (D.int .i64) x.2.1)⟩], [(.slice a2 ((Dc.encL v1).length) c2, .sl 6 (Dc.encL v1)), (agV 3 Od.gp g5, agD 3 Od.gp g5), (.slice a10 ((Tm.encL v6.cls.args).length) c10, .sl 4 (Tm.encL v6.cls.args)), (.slice a13 ((Tm.encL v11.1).length) c13, .sl 4 (Tm.encL v11.1)), (.slice a14 ((Tm.encL v11.2.args).length) c14, .sl 4 (Tm.encL v11.2.args)), (.slice a19 ((Tm.encL v15.cls.args).length) c19, .sl 4 (Tm.encL v15.cls.args)), (.slice a22 ((List.map (D.int .i64) v20.dependent).length) c22, .sl 1 (List.map (D.int .i64) v20.dependent)), (.slice a23 ((List.map (D.int .i64) v20.premises).length) c23, .sl 1 (List.map (D.int .i64) v20.premises))]⟩, fun x => order_calls_L1 x.1 v20 v11 (er g5) x.2.1 x.2.2.2.2 = some r, fun x => x.1, (n, [], none, 0, 0), hr, ⟨rfl, rfl, rfl, rfl, rfl, rfl, trivial⟩, (StLe.gen 4 [.nil 1 3] [.old 0, .old 1, .old 2, .old 3, .old 4, .old 5, .old 6, .old 7] rfl rfl rfl rfl rfl rfl rfl), fun x _ => ⟨rfl, rfl⟩, ?_⟩
  rintro ⟨n, v43, a44, c44, v45⟩ HH
  have hr : order_calls_L1 n v20 v11 (er g5) v43 v45 = some r := HH
  rcases n with _ | n
  · exact no_some hr
  rw [order_calls_L1.eq_2] at hr
  refine AtIf.mk (fun h46 => ?_) (fun h46 => ?_)
  · replace hr := cond_t h46 hr
    obtain ⟨v47, h48, hr⟩ := bind_some hr
    obtain ⟨h49, h50⟩ := idx_some h48
    refine at_index ttOK 7 rfl rfl rfl rfl h49 (map_get (D.int .i64) h50) ?_
    obtain ⟨v51, h52, hr⟩ := bind_some hr
    obtain ⟨h53, h54⟩ := idx_some h52
    refine at_index ttOK 3 rfl rfl rfl rfl h53 (Tm.encL_get h54) ?_
    intro a55 c55 _ _
    obtain ⟨v56, h57, hr⟩ := bind_some hr
    refine (term_Domains_spec n v51 a55 c55 _ h57).atR [8] rfl rfl rfl ?_
    rintro _ _ ⟨a58, c58, a59, c59, rfl, rfl⟩
    refine at_lookupGE ttOK Od.gv Od.gk 3 Od.gp (Od.mk 0 0 ([])) _ 1 rfl Tryz.underlying3 Tryz.zeroValue27 rfl rfl (fun _ _ _ _ => rfl) (fun _ _ _ _ => rfl) rfl rfl rfl rfl ?_
    intro a60 c60
    refine AtIf.mk (fun h61 => ?_) (fun h61 => ?_)
    · replace hr := cond_t h61 hr
      refine at_buildG (n := 1) ttOK 8 [.int .i64 v47] (ds' := (List.map (D.int .i64) ([v47]))) rfl (by kernel_rfl) ⟨⟨rfl, rfl, rfl, rfl⟩, trivial⟩ rfl rfl (by decide) (by decide) ?_
      intro a62
      obtain ⟨h63, hr⟩ := cond_need hr
      refine at_appendG (ds' := (List.map (D.int .i64) (v43 ++ [v47]))) ttOK 8 0 12 rfl (by kernel_rfl) rfl rfl rfl rfl (by simp only [List.map_append]) h63 (by decide) ?_
      intro a64 c64
      exact ⟨(n, (v43 ++ [v47]), a64, c64, (IntKind.i64.wrap (v45 + 1))), hr, Nat.lt_succ_self _, ⟨rfl, rfl, rfl, rfl, rfl, rfl, trivial⟩, (StLe.gen 4 [.old 0] [.old 0, .old 1, .old 2, .old 3, .old 4, .old 5, .old 6, .old 7] rfl rfl rfl rfl rfl rfl rfl)⟩
    · replace hr := cond_f h61 hr
      exact ⟨(n, v43, a44, c44, (IntKind.i64.wrap (v45 + 1))), hr, Nat.lt_succ_self _, ⟨rfl, rfl, rfl, rfl, rfl, rfl, trivial⟩, (StLe.gen 4 [.old 0] [.old 0, .old 1, .old 2, .old 3, .old 4, .old 5, .old 6, .old 7] rfl rfl rfl rfl rfl rfl rfl)⟩
  · replace hr := cond_f h46 hr
    replace hr := Option.some.inj hr
    subst hr
    exact AtRet.gen ⟨[.obj (mapO .i64 (encM Od.gv g5))], [], [(.slice a44 ((List.map (D.int .i64) v43).length) c44, .sl 1 (List.map (D.int .i64) v43))]⟩ (StLe.gen 1 [] [.froz 0] rfl rfl rfl rfl rfl rfl rfl) rfl rfl ⟨a44, c44, rfl, rfl⟩
def term_Under : Nat → Tm → Int → Option (Int)
  | 0, _, _ => none
  | n + 1, v1, v3 =>
    cond ((v1.op == 3) || ((v1.op == 2) && (v3 == 1))) (
    some (1)) (
    some (0))
theorem term_Under_spec (n : Nat) (v1 : Tm) (v3 : Int) (a2 : Option Addr) (c2 : Nat) (r : Int) (hr : term_Under n v1 v3 = some r) : Pure Tryz.prog (.val (.fn (.func 102) [] [])) [(.agg [(.v (.int .i64 v1.op)), (.v (.int .i64 v1.hd)), (.v (.int .i64 v1.n)), (.v (.slice a2 ((Tm.encL v1.args).length) c2))]), (.v (.int .i64 v3))] [(.slice a2 ((Tm.encL v1.args).length) c2, .sl 4 (Tm.encL v1.args))] (fun r' out => r' = (.v (.int .i64 r)) ∧ out = []) := by
  rcases n with _ | n
  · exact no_some hr
  rw [term_Under.eq_2] at hr
  refine spec_of_body (N := 17) (m := 0) (dt := fun _ => none) [] ttOK Tryz.func102 rfl Tryz.call102 Tryz.ntmps102 rfl rfl rfl mixed (by kernel_rfl) ?_
  refine AtIf.mk (fun h4 => ?_) (fun h4 => ?_)
  · replace hr := cond_t h4 hr
    replace hr := Option.some.inj hr
    subst hr
    exact AtRet.pureG [] [] rfl rfl ⟨rfl, rfl⟩
  · replace hr := cond_f h4 hr
    replace hr := Option.some.inj hr
    subst hr
    exact AtRet.pureG [] [] rfl rfl ⟨rfl, rfl⟩
mutual
def term_Map_term_Moved_1 : Nat → Tm → Int → Int → Int → Option (Tm)
  | 0, _, _, _, _ => none
  | n + 1, v1, v3, v4, v5 =>
    cond (((v1.op == 4) && (v1.hd == 1)) && (decide ((IntKind.i64.wrap (v1.n - v3)) ≥ v4))) (
    term_Map_term_Moved_1_L1 n v1 v3 v4 v5 (Tm.mk v1.op v1.hd (IntKind.i64.wrap (v1.n + v5)) ([])) 0) (
    term_Map_term_Moved_1_L1 n v1 v3 v4 v5 (Tm.mk v1.op v1.hd v1.n ([])) 0)
def term_Map_term_Moved_1_L1 : Nat → Tm → Int → Int → Int → Tm → Int → Option (Tm)
  | 0, _, _, _, _, _, _ => none
  | n + 1, v1, v3, v4, v5, v21, v23 =>
    cond (decide (v23 < ((Tm.encL v1.args).length : Int))) (
    (idx v1.args v23).bind (fun v25 =>
    (term_Under n v1 v23).bind (fun v30 =>
    (term_Map_term_Moved_1 n v25 (IntKind.i64.wrap (v3 + v30)) v4 v5).bind (fun v32 =>
    cond (decide ((Tm.encL (v21.args ++ [v32])).length ≤ 1000000)) (
    term_Map_term_Moved_1_L1 n v1 v3 v4 v5 (Tm.mk v21.op v21.hd v21.n (v21.args ++ [v32])) (IntKind.i64.wrap (v23 + 1))) none)))) (
    some (v21))
 end
theorem term_Map_term_Moved_1_specN : ∀ (N : Nat), (∀ (n : Nat), n ≤ N → ∀ (v1 : Tm) (v3 : Int) (v4 : Int) (v5 : Int) (a2 : Option Addr) (c2 : Nat) (r : Tm), term_Map_term_Moved_1 n v1 v3 v4 v5 = some r → Meets Tryz.prog (.val (.fn (.func 104) [] [])) [(.agg [(.v (.int .i64 v1.op)), (.v (.int .i64 v1.hd)), (.v (.int .i64 v1.n)), (.v (.slice a2 ((Tm.encL v1.args).length) c2))]), (.v (.int .i64 v3)), (.fn (.func 105) [] [(.loc 0 0), (.loc 1 0)])] ⟨[.cells 3 [(.v (.int .i64 v4))], .cells 3 [(.v (.int .i64 v5))]], [], [(.slice a2 ((Tm.encL v1.args).length) c2, .sl 4 (Tm.encL v1.args))]⟩ (fun o S' => ∃ (b1 : Option Addr) (d1 : Nat), o = .ret (.agg [(.v (.int .i64 r.op)), (.v (.int .i64 r.hd)), (.v (.int .i64 r.n)), (.v (.slice b1 ((Tm.encL r.args).length) d1))]) ∧ S' = ⟨[.cells 3 [(.v (.int .i64 v4))], .cells 3 [(.v (.int .i64 v5))]], [], [(.slice b1 ((Tm.encL r.args).length) d1, .sl 4 (Tm.encL r.args))]⟩)) := by
  intro N
  induction N with
  | zero =>
    intro n hn v1 v3 v4 v5 a2 c2 r hr; obtain rfl : n = 0 := (by omega); exact no_some hr
  | succ N ih =>
    intro n hn v1 v3 v4 v5 a2 c2 r hr
    rcases n with _ | n
    · exact no_some hr
    replace hn : n ≤ N := by omega
    rw [term_Map_term_Moved_1.eq_2] at hr
    refine spec_of_body (N := 43) (m := 2) (dt := drawsOf [(5, .node [0, 1, 2, 3, 4, 5, 8] [(6, .node [7] [(9, .node [] [(10, .node [] [(11, .node [12] [(13, .leaf [])])])])])], [11, 13], [])]) [] ttOK Tryz.func104 rfl Tryz.call104 Tryz.ntmps104 rfl rfl rfl mixed (by kernel_rfl) ?_
    refine spec_of_body (N := 29) (m := 4) (dt := fun _ => none) [] ttOK Tryz.func105 rfl Tryz.call105 Tryz.ntmps105 rfl rfl rfl mixed (by kernel_rfl) ?_
    refine AtIf.mk (fun h6 => ?_) (fun h6 => ?_)
    · replace hr := cond_t h6 hr
      refine AtRet.gen _ (StLe.refl _) rfl rfl ?_
      refine AtLoop.mk ⟨Nat × Tm × Option Addr × Nat × Int, fun x => [(1, (.v (.int .i64 v3))), (2, (.fn (.func 105) [] [(.loc 0 0), (.loc 1 0)])), (3, (.loc 2 0)), (6, (.loc 3 0)), (7, (.loc 6 0)), (21, (.v (.slice a2 ((Tm.encL v1.args).length) c2))), (22, (.v (.int .i64 ((Tm.encL v1.args).length : Int)))), (23, (.v (.int .i64 x.2.2.2.2)))], fun x => ⟨[.cells 3 [(.v (.int .i64 v4))], .cells 3 [(.v (.int .i64 v5))], .cells 51 [(.v (.int .i64 v1.op)), (.v (.int .i64 v1.hd)), (.v (.int .i64 v1.n)), (.v (.slice a2 ((Tm.encL v1.args).length) c2))], .cells 51 [(.v (.int .i64 0)), (.v (.int .i64 0)), (.v (.int .i64 0)), (.v (.slice none 0 0))], .cells 51 [(.v (.int .i64 v1.op)), (.v (.int .i64 v1.hd)), (.v (.int .i64 (IntKind.i64.wrap (v1.n + v5)))), (.v (.slice none 0 0))], .cells 51 [(.v (.int .i64 v1.op)), (.v (.int .i64 v1.hd)), (.v (.int .i64 (IntKind.i64.wrap (v1.n + v5)))), (.v (.slice none 0 0))], .cells 51 [(.v (.int .i64 x.2.1.op)), (.v (.int .i64 x.2.1.hd)), (.v (.int .i64 x.2.1.n)), (.v (.slice x.2.2.1 ((Tm.encL x.2.1.args).length) x.2.2.2.1))]], [⟨.slice x.2.2.1 ((Tm.encL x.2.1.args).length) x.2.2.2.1, 4, 51, (Tm.encL x.2.1.args)⟩], [(.slice a2 ((Tm.encL v1.args).length) c2, .sl 4 (Tm.encL v1.args))]⟩, fun x => x.1 ≤ N ∧ term_Map_term_Moved_1_L1 x.1 v1 v3 v4 v5 x.2.1 x.2.2.2.2 = some r, fun x => x.1, (n, (Tm.mk v1.op v1.hd (IntKind.i64.wrap (v1.n + v5)) ([])), none, 0, 0), ⟨by omega, hr⟩, ⟨rfl, rfl, rfl, rfl, rfl, rfl, rfl, rfl, trivial⟩, (StLe.gen 7 [.nil 4 51] [.old 0] rfl rfl rfl rfl rfl rfl rfl), fun x _ => ⟨rfl, rfl⟩, ?_⟩
      rintro ⟨n, v21, a22, c22, v23⟩ HH
      obtain ⟨hn, hr⟩ : n ≤ N ∧ term_Map_term_Moved_1_L1 n v1 v3 v4 v5 v21 v23 = some r := HH
      rcases n with _ | n
      · exact no_some hr
      rw [term_Map_term_Moved_1_L1.eq_2] at hr
      refine AtIf.mk (fun h24 => ?_) (fun h24 => ?_)
      · replace hr := cond_t h24 hr
        obtain ⟨v25, h26, hr⟩ := bind_some hr
        obtain ⟨h27, h28⟩ := idx_some h26
        refine at_index ttOK 0 rfl rfl rfl rfl h27 (Tm.encL_get h28) ?_
        intro a29 c29 _ _
        obtain ⟨v30, h31, hr⟩ := bind_some hr
        refine (term_Under_spec n v1 v23 a2 c2 _ h31).atR [0] rfl rfl rfl ?_
        rintro _ _ ⟨rfl, rfl⟩
        refine ⟨fun _ _ h => h, ?_⟩
        obtain ⟨v32, h33, hr⟩ := bind_some hr
        refine (ih n (by omega) v25 (IntKind.i64.wrap (v3 + v30)) v4 v5 a29 c29 _ h33).frameR [0, 1] [1] rfl rfl rfl rfl rfl rfl rfl rfl ?_
        rintro _ _ ⟨a34, c34, rfl, rfl⟩
        refine ⟨rfl, rfl, [.cells 3 [(.v (.int .i64 v4))], .cells 3 [(.v (.int .i64 v5))]], rfl, ?_⟩
        refine ⟨fun _ _ h => h, ?_⟩
        refine at_buildG (n := 1) ttOK 48 [.agg [.int .i64 v32.op, .int .i64 v32.hd, .int .i64 v32.n, .sl 4 (Tm.encL v32.args)]] (ds' := (Tm.encL ([v32]))) rfl (by kernel_rfl) ⟨⟨rfl, rfl, rfl, ⟨[(.v (.int .i64 v32.op))], _, rfl, rfl, ⟨[(.v (.int .i64 v32.hd))], _, rfl, rfl, ⟨[(.v (.int .i64 v32.n))], _, rfl, rfl, ⟨[(.v (.slice a34 ((Tm.encL v32.args).length) c34))], _, rfl, (.inl ⟨_, rfl, nth_mem (j := 2) rfl⟩), rfl⟩⟩⟩⟩⟩, trivial⟩ rfl (by simp only [Tm.encL_eq, List.map_cons, List.map_nil, Tm.enc_eq] <;> rfl) (by decide) (by decide) ?_
        intro a35
        refine ⟨fun _ _ h => h, ?_⟩
        obtain ⟨h36, hr⟩ := cond_need hr
        refine at_appendG (ds' := (Tm.encL (v21.args ++ [v32]))) ttOK 48 0 3 rfl (by kernel_rfl) rfl rfl rfl rfl (by simp only [Tm.encL_eq, List.map_append]) h36 (by decide) ?_
        intro a37 c37
        exact ⟨(n, (Tm.mk v21.op v21.hd v21.n (v21.args ++ [v32])), a37, c37, (IntKind.i64.wrap (v23 + 1))), ⟨by omega, hr⟩, Nat.lt_succ_self _, ⟨rfl, rfl, rfl, rfl, rfl, rfl, rfl, rfl, trivial⟩, (StLe.gen 7 [.old 0] [.old 0] rfl rfl rfl rfl rfl rfl rfl)⟩
      · replace hr := cond_f h24 hr
        replace hr := Option.some.inj hr
        subst hr
        exact AtRet.gen ⟨[.cells 3 [(.v (.int .i64 v4))], .cells 3 [(.v (.int .i64 v5))]], [], [(.slice a22 ((Tm.encL v21.args).length) c22, .sl 4 (Tm.encL v21.args))]⟩ (StLe.gen 2 [] [.froz 0] rfl rfl rfl rfl rfl rfl rfl) rfl rfl ⟨a22, c22, rfl, rfl⟩
    · replace hr := cond_f h6 hr
      refine AtRet.gen _ (StLe.refl _) rfl rfl ?_
      refine AtLoop.mk ⟨Nat × Tm × Option Addr × Nat × Int, fun x => [(1, (.v (.int .i64 v3))), (2, (.fn (.func 105) [] [(.loc 0 0), (.loc 1 0)])), (3, (.loc 2 0)), (6, (.loc 3 0)), (7, (.loc 6 0)), (21, (.v (.slice a2 ((Tm.encL v1.args).length) c2))), (22, (.v (.int .i64 ((Tm.encL v1.args).length : Int)))), (23, (.v (.int .i64 x.2.2.2.2)))], fun x => ⟨[.cells 3 [(.v (.int .i64 v4))], .cells 3 [(.v (.int .i64 v5))], .cells 51 [(.v (.int .i64 v1.op)), (.v (.int .i64 v1.hd)), (.v (.int .i64 v1.n)), (.v (.slice a2 ((Tm.encL v1.args).length) c2))], .cells 51 [(.v (.int .i64 0)), (.v (.int .i64 0)), (.v (.int .i64 0)), (.v (.slice none 0 0))], .cells 51 [(.v (.int .i64 v1.op)), (.v (.int .i64 v1.hd)), (.v (.int .i64 v1.n)), (.v (.slice none 0 0))], .cells 51 [(.v (.int .i64 v1.op)), (.v (.int .i64 v1.hd)), (.v (.int .i64 v1.n)), (.v (.slice none 0 0))], .cells 51 [(.v (.int .i64 x.2.1.op)), (.v (.int .i64 x.2.1.hd)), (.v (.int .i64 x.2.1.n)), (.v (.slice x.2.2.1 ((Tm.encL x.2.1.args).length) x.2.2.2.1))]], [⟨.slice x.2.2.1 ((Tm.encL x.2.1.args).length) x.2.2.2.1, 4, 51, (Tm.encL x.2.1.args)⟩], [(.slice a2 ((Tm.encL v1.args).length) c2, .sl 4 (Tm.encL v1.args))]⟩, fun x => x.1 ≤ N ∧ term_Map_term_Moved_1_L1 x.1 v1 v3 v4 v5 x.2.1 x.2.2.2.2 = some r, fun x => x.1, (n, (Tm.mk v1.op v1.hd v1.n ([])), none, 0, 0), ⟨by omega, hr⟩, ⟨rfl, rfl, rfl, rfl, rfl, rfl, rfl, rfl, trivial⟩, (StLe.gen 7 [.nil 4 51] [.old 0] rfl rfl rfl rfl rfl rfl rfl), fun x _ => ⟨rfl, rfl⟩, ?_⟩
      rintro ⟨n, v52, a53, c53, v54⟩ HH
      obtain ⟨hn, hr⟩ : n ≤ N ∧ term_Map_term_Moved_1_L1 n v1 v3 v4 v5 v52 v54 = some r := HH
      rcases n with _ | n
      · exact no_some hr
      rw [term_Map_term_Moved_1_L1.eq_2] at hr
      refine AtIf.mk (fun h55 => ?_) (fun h55 => ?_)
      · replace hr := cond_t h55 hr
        obtain ⟨v56, h57, hr⟩ := bind_some hr
        obtain ⟨h58, h59⟩ := idx_some h57
        refine at_index ttOK 0 rfl rfl rfl rfl h58 (Tm.encL_get h59) ?_
        intro a60 c60 _ _
        obtain ⟨v61, h62, hr⟩ := bind_some hr
        refine (term_Under_spec n v1 v54 a2 c2 _ h62).atR [0] rfl rfl rfl ?_
        rintro _ _ ⟨rfl, rfl⟩
        refine ⟨fun _ _ h => h, ?_⟩
        obtain ⟨v63, h64, hr⟩ := bind_some hr
        refine (ih n (by omega) v56 (IntKind.i64.wrap (v3 + v61)) v4 v5 a60 c60 _ h64).frameR [0, 1] [1] rfl rfl rfl rfl rfl rfl rfl rfl ?_
        rintro _ _ ⟨a65, c65, rfl, rfl⟩
        refine ⟨rfl, rfl, [.cells 3 [(.v (.int .i64 v4))], .cells 3 [(.v (.int .i64 v5))]], rfl, ?_⟩
        refine ⟨fun _ _ h => h, ?_⟩
        refine at_buildG (n := 1) ttOK 48 [.agg [.int .i64 v63.op, .int .i64 v63.hd, .int .i64 v63.n, .sl 4 (Tm.encL v63.args)]] (ds' := (Tm.encL ([v63]))) rfl (by kernel_rfl) ⟨⟨rfl, rfl, rfl, ⟨[(.v (.int .i64 v63.op))], _, rfl, rfl, ⟨[(.v (.int .i64 v63.hd))], _, rfl, rfl, ⟨[(.v (.int .i64 v63.n))], _, rfl, rfl, ⟨[(.v (.slice a65 ((Tm.encL v63.args).length) c65))], _, rfl, (.inl ⟨_, rfl, nth_mem (j := 2) rfl⟩), rfl⟩⟩⟩⟩⟩, trivial⟩ rfl (by simp only [Tm.encL_eq, List.map_cons, List.map_nil, Tm.enc_eq] <;> rfl) (by decide) (by decide) ?_
        intro a66
        refine ⟨fun _ _ h => h, ?_⟩
        obtain ⟨h67, hr⟩ := cond_need hr
        refine at_appendG (ds' := (Tm.encL (v52.args ++ [v63]))) ttOK 48 0 3 rfl (by kernel_rfl) rfl rfl rfl rfl (by simp only [Tm.encL_eq, List.map_append]) h67 (by decide) ?_
        intro a68 c68
        exact ⟨(n, (Tm.mk v52.op v52.hd v52.n (v52.args ++ [v63])), a68, c68, (IntKind.i64.wrap (v54 + 1))), ⟨by omega, hr⟩, Nat.lt_succ_self _, ⟨rfl, rfl, rfl, rfl, rfl, rfl, rfl, rfl, trivial⟩, (StLe.gen 7 [.old 0] [.old 0] rfl rfl rfl rfl rfl rfl rfl)⟩
      · replace hr := cond_f h55 hr
        replace hr := Option.some.inj hr
        subst hr
        exact AtRet.gen ⟨[.cells 3 [(.v (.int .i64 v4))], .cells 3 [(.v (.int .i64 v5))]], [], [(.slice a53 ((Tm.encL v52.args).length) c53, .sl 4 (Tm.encL v52.args))]⟩ (StLe.gen 2 [] [.froz 0] rfl rfl rfl rfl rfl rfl rfl) rfl rfl ⟨a53, c53, rfl, rfl⟩
theorem term_Map_term_Moved_1_spec (n : Nat) (v1 : Tm) (v3 : Int) (v4 : Int) (v5 : Int) (a2 : Option Addr) (c2 : Nat) (r : Tm) (hr : term_Map_term_Moved_1 n v1 v3 v4 v5 = some r) : Meets Tryz.prog (.val (.fn (.func 104) [] [])) [(.agg [(.v (.int .i64 v1.op)), (.v (.int .i64 v1.hd)), (.v (.int .i64 v1.n)), (.v (.slice a2 ((Tm.encL v1.args).length) c2))]), (.v (.int .i64 v3)), (.fn (.func 105) [] [(.loc 0 0), (.loc 1 0)])] ⟨[.cells 3 [(.v (.int .i64 v4))], .cells 3 [(.v (.int .i64 v5))]], [], [(.slice a2 ((Tm.encL v1.args).length) c2, .sl 4 (Tm.encL v1.args))]⟩ (fun o S' => ∃ (b1 : Option Addr) (d1 : Nat), o = .ret (.agg [(.v (.int .i64 r.op)), (.v (.int .i64 r.hd)), (.v (.int .i64 r.n)), (.v (.slice b1 ((Tm.encL r.args).length) d1))]) ∧ S' = ⟨[.cells 3 [(.v (.int .i64 v4))], .cells 3 [(.v (.int .i64 v5))]], [], [(.slice b1 ((Tm.encL r.args).length) d1, .sl 4 (Tm.encL r.args))]⟩) := (term_Map_term_Moved_1_specN n) n (Nat.le_refl _) v1 v3 v4 v5 a2 c2 r hr
def term_Moved : Nat → Tm → Int → Int → Option (Tm)
  | 0, _, _, _ => none
  | n + 1, v1, v3, v4 =>
    (term_Map_term_Moved_1 n v1 0 v4 v3).bind (fun v5 =>
    some (v5))
theorem term_Moved_spec (n : Nat) (v1 : Tm) (v3 : Int) (v4 : Int) (a2 : Option Addr) (c2 : Nat) (r : Tm) (hr : term_Moved n v1 v3 v4 = some r) : Pure Tryz.prog (.val (.fn (.func 74) [] [])) [(.agg [(.v (.int .i64 v1.op)), (.v (.int .i64 v1.hd)), (.v (.int .i64 v1.n)), (.v (.slice a2 ((Tm.encL v1.args).length) c2))]), (.v (.int .i64 v3)), (.v (.int .i64 v4))] [(.slice a2 ((Tm.encL v1.args).length) c2, .sl 4 (Tm.encL v1.args))] (fun r' out => ∃ (b1 : Option Addr) (d1 : Nat), r' = (.agg [(.v (.int .i64 r.op)), (.v (.int .i64 r.hd)), (.v (.int .i64 r.n)), (.v (.slice b1 ((Tm.encL r.args).length) d1))]) ∧ out = [(.slice b1 ((Tm.encL r.args).length) d1, .sl 4 (Tm.encL r.args))]) := by
  rcases n with _ | n
  · exact no_some hr
  rw [term_Moved.eq_2] at hr
  refine spec_of_body (N := 10) (m := 0) (dt := fun _ => none) [] ttOK Tryz.func74 rfl Tryz.call74 Tryz.ntmps74 rfl rfl rfl mixed (by kernel_rfl) ?_
  obtain ⟨v5, h6, hr⟩ := bind_some hr
  refine (term_Map_term_Moved_1_spec n v1 0 v4 v3 a2 c2 _ h6).frameR [2, 1] [0] rfl rfl rfl rfl rfl rfl rfl rfl ?_
  rintro _ _ ⟨a7, c7, rfl, rfl⟩
  refine ⟨rfl, rfl, [.cells 3 [(.v (.int .i64 v4))], .cells 3 [(.v (.int .i64 v3))]], rfl, ?_⟩
  replace hr := Option.some.inj hr
  subst hr
  exact AtRet.pureG [.old 1] [(.slice a7 ((Tm.encL v5.args).length) c7, .sl 4 (Tm.encL v5.args))] rfl rfl ⟨a7, c7, rfl, rfl⟩
mutual
def order_pair : Nat → Od → Od → Cmp → (List Tm) → (List Tm) → Option (Int)
  | 0, _, _, _, _, _ => none
  | n + 1, v1, v3, v5, v6, v8 =>
    cond (v1.op == 1) (
    cond ((decide (v1.n ≥ ((Tm.encL v6).length : Int))) || (decide (v3.n ≥ ((Tm.encL v8).length : Int)))) (
    some (0)) (
    (idx v6 v1.n).bind (fun v12 =>
    (idx v8 v3.n).bind (fun v17 =>
    cond (decide (lamOK v17 = true ∧ v17.height ≤ 1000000)) (
    some ((compareF v5.fixed v12 v17))) none)))) (
    order_pair_L1 n v1 v3 v5 v6 v8 1 0)
def order_pair_L1 : Nat → Od → Od → Cmp → (List Tm) → (List Tm) → Int → Int → Option (Int)
  | 0, _, _, _, _, _, _, _ => none
  | n + 1, v1, v3, v5, v6, v8, v38, v39 =>
    cond (decide (v39 < ((Od.encL v1.parts).length : Int))) (
    (idx v1.parts v39).bind (fun v41 =>
    (idx v3.parts v39).bind (fun v46 =>
    (order_pair n v41 v46 v5 v6 v8).bind (fun v51 =>
    cond ((v1.op == 2) && (v51 != 1)) (
    some (v51)) (
    cond (v51 == 0) (
    some (0)) (
    order_pair_L1 n v1 v3 v5 v6 v8 (if v51 > v38 then v51 else v38) (IntKind.i64.wrap (v39 + 1)))))))) (
    some (v38))
 end
theorem order_pair_specN : ∀ (N : Nat), (∀ (n : Nat), n ≤ N → ∀ (v1 : Od) (v3 : Od) (v5 : Cmp) (v6 : (List Tm)) (v8 : (List Tm)) (a2 : Option Addr) (c2 : Nat) (a4 : Option Addr) (c4 : Nat) (a7 : Option Addr) (c7 : Nat) (a9 : Option Addr) (c9 : Nat) (r : Int), order_pair n v1 v3 v5 v6 v8 = some r → Pure Tryz.prog (.val (.fn (.func 75) [] [])) [(.agg [(.v (.int .i64 v1.op)), (.v (.int .i64 v1.n)), (.v (.slice a2 ((Od.encL v1.parts).length) c2))]), (.agg [(.v (.int .i64 v3.op)), (.v (.int .i64 v3.n)), (.v (.slice a4 ((Od.encL v3.parts).length) c4))]), (.agg [(.v (.int .i64 v5.n)), (.v (.int .i64 v5.fixed))]), (.v (.slice a7 ((Tm.encL v6).length) c7)), (.v (.slice a9 ((Tm.encL v8).length) c9))] [(.slice a2 ((Od.encL v1.parts).length) c2, .sl 3 (Od.encL v1.parts)), (.slice a4 ((Od.encL v3.parts).length) c4, .sl 3 (Od.encL v3.parts)), (.slice a7 ((Tm.encL v6).length) c7, .sl 4 (Tm.encL v6)), (.slice a9 ((Tm.encL v8).length) c9, .sl 4 (Tm.encL v8))] (fun r' out => r' = (.v (.int .i64 r)) ∧ out = [])) := by
  intro N
  induction N with
  | zero =>
    intro n hn v1 v3 v5 v6 v8 a2 c2 a4 c4 a7 c7 a9 c9 r hr; obtain rfl : n = 0 := (by omega); exact no_some hr
  | succ N ih =>
    intro n hn v1 v3 v5 v6 v8 a2 c2 a4 c4 a7 c7 a9 c9 r hr
    rcases n with _ | n
    · exact no_some hr
    replace hn : n ≤ N := by omega
    rw [order_pair.eq_2] at hr
    refine spec_of_body (N := 77) (m := 0) (dt := drawsOf [(4, .node [0, 1, 2, 3, 4, 5, 6, 7, 8, 9, 10] [(11, .leaf [12])], [11], []), (9, .node [0, 1, 2, 3, 4, 5, 6, 7, 8] [(9, .leaf [10])], [9], [])]) [] ttOK Tryz.func75 rfl Tryz.call75 Tryz.ntmps75 rfl rfl rfl mixed (by kernel_rfl) ?_
    refine AtIf.mk (fun h10 => ?_) (fun h10 => ?_)
    · replace hr := cond_t h10 hr
      refine AtIf.mk (fun h11 => ?_) (fun h11 => ?_)
      · replace hr := cond_t h11 hr
        replace hr := Option.some.inj hr
        subst hr
        exact AtRet.pureG [] [] rfl rfl ⟨rfl, rfl⟩
      · replace hr := cond_f h11 hr
        obtain ⟨v12, h13, hr⟩ := bind_some hr
        obtain ⟨h14, h15⟩ := idx_some h13
        refine at_index ttOK 2 rfl rfl rfl rfl h14 (Tm.encL_get h15) ?_
        intro a16 c16 _ _
        obtain ⟨v17, h18, hr⟩ := bind_some hr
        obtain ⟨h19, h20⟩ := idx_some h18
        refine at_index ttOK 3 rfl rfl rfl rfl h19 (Tm.encL_get h20) ?_
        intro a21 c21 _ _
        obtain ⟨h22, hr⟩ := cond_need hr
        refine (compareG v5 v12 v17 a16 a21 c16 c21 (of_decide_eq_true h22).1 (of_decide_eq_true h22).2).atR [4, 5] rfl rfl rfl ?_
        rintro _ _ ⟨rfl, rfl⟩
        replace hr := Option.some.inj hr
        subst hr
        exact AtRet.pureG [] [] rfl rfl ⟨rfl, rfl⟩
    · replace hr := cond_f h10 hr
      refine AtLoop.mk ⟨Nat × Int × Int, fun x => [(3, (.v (.slice a7 ((Tm.encL v6).length) c7))), (4, (.v (.slice a9 ((Tm.encL v8).length) c9))), (5, (.loc 0 0)), (6, (.loc 1 0)), (7, (.loc 2 0)), (11, (.v (.int .i64 x.2.1))), (43, (.v (.slice a2 ((Od.encL v1.parts).length) c2))), (44, (.v (.int .i64 ((Od.encL v1.parts).length : Int)))), (45, (.v (.int .i64 x.2.2)))], fun x => ⟨[.cells 27 [(.v (.int .i64 v1.op)), (.v (.int .i64 v1.n)), (.v (.slice a2 ((Od.encL v1.parts).length) c2))], .cells 27 [(.v (.int .i64 v3.op)), (.v (.int .i64 v3.n)), (.v (.slice a4 ((Od.encL v3.parts).length) c4))], .cells 81 [(.v (.int .i64 v5.n)), (.v (.int .i64 v5.fixed))]], [], [(.slice a2 ((Od.encL v1.parts).length) c2, .sl 3 (Od.encL v1.parts)), (.slice a4 ((Od.encL v3.parts).length) c4, .sl 3 (Od.encL v3.parts)), (.slice a7 ((Tm.encL v6).length) c7, .sl 4 (Tm.encL v6)), (.slice a9 ((Tm.encL v8).length) c9, .sl 4 (Tm.encL v8))]⟩, fun x => x.1 ≤ N ∧ order_pair_L1 x.1 v1 v3 v5 v6 v8 x.2.1 x.2.2 = some r, fun x => x.1, (n, 1, 0), ⟨by omega, hr⟩, ⟨rfl, rfl, rfl, rfl, rfl, rfl, rfl, rfl, rfl, trivial⟩, (StLe.gen 3 [] [.old 0, .old 1, .old 2, .old 3] rfl rfl rfl rfl rfl rfl rfl), fun x _ => ⟨rfl, rfl⟩, ?_⟩
      rintro ⟨n, v38, v39⟩ HH
      obtain ⟨hn, hr⟩ : n ≤ N ∧ order_pair_L1 n v1 v3 v5 v6 v8 v38 v39 = some r := HH
      rcases n with _ | n
      · exact no_some hr
      rw [order_pair_L1.eq_2] at hr
      refine AtIf.mk (fun h40 => ?_) (fun h40 => ?_)
      · replace hr := cond_t h40 hr
        obtain ⟨v41, h42, hr⟩ := bind_some hr
        obtain ⟨h43, h44⟩ := idx_some h42
        refine at_index ttOK 0 rfl rfl rfl rfl h43 (Od.encL_get h44) ?_
        intro a45 c45 _ _
        obtain ⟨v46, h47, hr⟩ := bind_some hr
        obtain ⟨h48, h49⟩ := idx_some h47
        refine at_index ttOK 1 rfl rfl rfl rfl h48 (Od.encL_get h49) ?_
        intro a50 c50 _ _
        obtain ⟨v51, h52, hr⟩ := bind_some hr
        refine (ih n (by omega) v41 v46 v5 v6 v8 a45 c45 a50 c50 a7 c7 a9 c9 _ h52).atR [4, 5, 2, 3] rfl rfl rfl ?_
        rintro _ _ ⟨rfl, rfl⟩
        refine AtIf.mk (fun h53 => ?_) (fun h53 => ?_)
        · replace hr := cond_t h53 hr
          replace hr := Option.some.inj hr
          subst hr
          exact AtRet.pureG [] [] rfl rfl ⟨rfl, rfl⟩
        · replace hr := cond_f h53 hr
          refine AtIf.mk (fun h54 => ?_) (fun h54 => ?_)
          · replace hr := cond_t h54 hr
            replace hr := Option.some.inj hr
            subst hr
            exact AtRet.pureG [] [] rfl rfl ⟨rfl, rfl⟩
          · replace hr := cond_f h54 hr
            refine at_max ?_
            exact ⟨(n, (if v51 > v38 then v51 else v38), (IntKind.i64.wrap (v39 + 1))), ⟨by omega, hr⟩, Nat.lt_succ_self _, ⟨rfl, rfl, rfl, rfl, rfl, rfl, rfl, rfl, rfl, trivial⟩, (StLe.gen 3 [] [.old 0, .old 1, .old 2, .old 3] rfl rfl rfl rfl rfl rfl rfl)⟩
      · replace hr := cond_f h40 hr
        replace hr := Option.some.inj hr
        subst hr
        exact AtRet.pureG [] [] rfl rfl ⟨rfl, rfl⟩
theorem order_pair_spec (n : Nat) (v1 : Od) (v3 : Od) (v5 : Cmp) (v6 : (List Tm)) (v8 : (List Tm)) (a2 : Option Addr) (c2 : Nat) (a4 : Option Addr) (c4 : Nat) (a7 : Option Addr) (c7 : Nat) (a9 : Option Addr) (c9 : Nat) (r : Int) (hr : order_pair n v1 v3 v5 v6 v8 = some r) : Pure Tryz.prog (.val (.fn (.func 75) [] [])) [(.agg [(.v (.int .i64 v1.op)), (.v (.int .i64 v1.n)), (.v (.slice a2 ((Od.encL v1.parts).length) c2))]), (.agg [(.v (.int .i64 v3.op)), (.v (.int .i64 v3.n)), (.v (.slice a4 ((Od.encL v3.parts).length) c4))]), (.agg [(.v (.int .i64 v5.n)), (.v (.int .i64 v5.fixed))]), (.v (.slice a7 ((Tm.encL v6).length) c7)), (.v (.slice a9 ((Tm.encL v8).length) c9))] [(.slice a2 ((Od.encL v1.parts).length) c2, .sl 3 (Od.encL v1.parts)), (.slice a4 ((Od.encL v3.parts).length) c4, .sl 3 (Od.encL v3.parts)), (.slice a7 ((Tm.encL v6).length) c7, .sl 4 (Tm.encL v6)), (.slice a9 ((Tm.encL v8).length) c9, .sl 4 (Tm.encL v8))] (fun r' out => r' = (.v (.int .i64 r)) ∧ out = []) := (order_pair_specN n) n (Nat.le_refl _) v1 v3 v5 v6 v8 a2 c2 a4 c4 a7 c7 a9 c9 r hr
def order_smaller : Nat → (List Dc) → Int → Int → (List (Int × Od)) → Option (Bool)
  | 0, _, _, _, _ => none
  | n + 1, v1, v3, v4, v5 =>
    (idx v1 v3).bind (fun v7 =>
    (term_Domains n v7.cls).bind (fun v12 =>
    (idx v12.1 v4).bind (fun v16 =>
    (term_Domains n v16).bind (fun v21 =>
    cond (!(simF ((mget v5 v21.2.n).getD (Od.mk 0 0 ([]))) ((mget v5 v12.2.n).getD (Od.mk 0 0 ([]))))) (
    some (false)) (
    (term_Moved n v21.2 (IntKind.i64.wrap (((Tm.encL v12.1).length : Int) - v4)) ((Tm.encL v21.1).length : Int)).bind (fun v30 =>
    (term_Moved n v12.2 ((Tm.encL v21.1).length : Int) 0).bind (fun v33 =>
    (order_pair n ((mget v5 v21.2.n).getD (Od.mk 0 0 ([]))) ((mget v5 v12.2.n).getD (Od.mk 0 0 ([]))) (Cmp.mk (IntKind.i64.wrap (((Tm.encL v12.1).length : Int) + ((Tm.encL v21.1).length : Int))) ((Tm.encL v21.1).length : Int)) v30.args v33.args).bind (fun v36 =>
    some ((v36 == 2))))))))))
set_option maxHeartbeats 4000000 in
theorem order_smaller_spec (n : Nat) (v1 : (List Dc)) (v3 : Int) (v4 : Int) (g6 : (List (Int × GE Od))) (a2 : Option Addr) (c2 : Nat) (r : Bool) (hr : order_smaller n v1 v3 v4 (er g6) = some r) : Meets Tryz.prog (.val (.fn (.func 46) [] [])) [(.v (.slice a2 ((Dc.encL v1).length) c2)), (.mp 0), (.v (.int .i64 v3)), (.v (.int .i64 v4))] ⟨[.obj (mapO .i64 (encM Od.gv g6))], [], [(.slice a2 ((Dc.encL v1).length) c2, .sl 6 (Dc.encL v1)), (agV 3 Od.gp g6, agD 3 Od.gp g6)]⟩ (fun o S' => o = .ret (.v (.bool r)) ∧ S' = ⟨[.obj (mapO .i64 (encM Od.gv g6))], [], []⟩) := by
  rcases n with _ | n
  · exact no_some hr
  rw [order_smaller.eq_2] at hr
  refine spec_of_body (N := 75) (m := 1) (dt := drawsOf [(3, .node [0, 1, 2, 4, 5, 6] [(3, .node [] [(7, .node [] [(8, .node [] [(9, .node [] [(10, .node [] [(11, .leaf [])])])]), (9, .node [] [(8, .node [] [(10, .node [] [(11, .leaf [])])])])]), (8, .node [] [(7, .node [] [(9, .node [] [(10, .node [] [(11, .leaf [])])])]), (9, .node [] [(7, .node [] [(10, .node [] [(11, .leaf [])])]), (10, .node [] [(7, .node [] [(11, .leaf [])])])])]), (9, .node [] [(7, .node [] [(8, .node [] [(10, .node [] [(11, .leaf [])])])]), (8, .node [] [(7, .node [] [(10, .node [] [(11, .leaf [])])]), (10, .node [] [(7, .node [] [(11, .leaf [])])])])])]), (7, .node [] [(3, .node [] [(8, .node [] [(9, .node [] [(10, .node [] [(11, .leaf [])])])]), (9, .node [] [(8, .node [] [(10, .node [] [(11, .leaf [])])])])]), (8, .node [] [(3, .node [] [(9, .node [] [(10, .node [] [(11, .leaf [])])])]), (9, .node [] [(3, .node [] [(10, .node [] [(11, .leaf [])])])])]), (9, .node [] [(3, .node [] [(8, .node [] [(10, .node [] [(11, .leaf [])])])]), (8, .node [] [(3, .node [] [(10, .node [] [(11, .leaf [])])])])])]), (8, .node [] [(3, .node [] [(7, .node [] [(9, .node [] [(10, .node [] [(11, .leaf [])])])]), (9, .node [] [(7, .node [] [(10, .node [] [(11, .leaf [])])]), (10, .node [] [(7, .node [] [(11, .leaf [])])])])]), (7, .node [] [(3, .node [] [(9, .node [] [(10, .node [] [(11, .leaf [])])])]), (9, .node [] [(3, .node [] [(10, .node [] [(11, .leaf [])])])])]), (9, .node [] [(3, .node [] [(7, .node [] [(10, .node [] [(11, .leaf [])])]), (10, .node [] [(7, .node [] [(11, .leaf [])])])]), (7, .node [] [(3, .node [] [(10, .node [] [(11, .leaf [])])])])])]), (9, .node [] [(3, .node [] [(7, .node [] [(8, .node [] [(10, .node [] [(11, .leaf [])])])]), (8, .node [] [(7, .node [] [(10, .node [] [(11, .leaf [])])]), (10, .node [] [(7, .node [] [(11, .leaf [])])])])]), (7, .node [] [(3, .node [] [(8, .node [] [(10, .node [] [(11, .leaf [])])])]), (8, .node [] [(3, .node [] [(10, .node [] [(11, .leaf [])])])])]), (8, .node [] [(3, .node [] [(7, .node [] [(10, .node [] [(11, .leaf [])])]), (10, .node [] [(7, .node [] [(11, .leaf [])])])]), (7, .node [] [(3, .node [] [(10, .node [] [(11, .leaf [])])])])])])], [11], [5, 6])]) [] ttOK Tryz.func46 rfl Tryz.call46 Tryz.ntmps46 rfl rfl rfl mixed (by kernel_rfl) ?_
  obtain ⟨v7, h8, hr⟩ := bind_some hr
  obtain ⟨h9, h10⟩ := idx_some h8
  refine at_index ttOK 0 rfl rfl rfl rfl h9 (Dc.encL_get h10) ?_
  intro a11 c11 _ _
  obtain ⟨v12, h13, hr⟩ := bind_some hr
  refine (term_Domains_spec n v7.cls a11 c11 _ h13).atR [2] rfl rfl rfl ?_
  rintro _ _ ⟨a14, c14, a15, c15, rfl, rfl⟩
  obtain ⟨v16, h17, hr⟩ := bind_some hr
  obtain ⟨h18, h19⟩ := idx_some h17
  refine at_index ttOK 3 rfl rfl rfl rfl h18 (Tm.encL_get h19) ?_
  intro a20 c20 _ _
  obtain ⟨v21, h22, hr⟩ := bind_some hr
  refine (term_Domains_spec n v16 a20 c20 _ h22).atR [5] rfl rfl rfl ?_
  rintro _ _ ⟨a23, c23, a24, c24, rfl, rfl⟩
  refine ⟨?_, ?_⟩
  ·
    refine at_lookupGE ttOK Od.gv Od.gk 3 Od.gp (Od.mk 0 0 ([])) _ 1 rfl Tryz.underlying3 Tryz.zeroValue27 rfl rfl (fun _ _ _ _ => rfl) (fun _ _ _ _ => rfl) rfl rfl rfl rfl ?_
    intro a27 c27
    refine ⟨fun _ _ h => h, ?_⟩
    refine ⟨?_, ?_⟩
    ·
      refine at_lookupGE ttOK Od.gv Od.gk 3 Od.gp (Od.mk 0 0 ([])) _ 1 rfl Tryz.underlying3 Tryz.zeroValue27 rfl rfl (fun _ _ _ _ => rfl) (fun _ _ _ _ => rfl) rfl rfl rfl rfl ?_
      intro a28 c28
      refine ⟨fun _ _ h => h, ?_⟩
      refine ⟨?_, ?_⟩
      ·
        refine ⟨OwnKeptBut.append, ?_⟩
        refine ⟨OwnKeptBut.append, ?_⟩
        refine ⟨fun _ _ h => h, ?_⟩
        refine (similar0 ((mget (er g6) v21.2.n).getD (Od.mk 0 0 ([]))) ((mget (er g6) v12.2.n).getD (Od.mk 0 0 ([]))) a27 c27 a28 c28).atR [8, 9] rfl rfl rfl ?_
        rintro _ _ ⟨rfl, rfl⟩
        refine AtIf.mk (fun h29 => ?_) (fun h29 => ?_)
        · replace hr := cond_t h29 hr
          replace hr := Option.some.inj hr
          subst hr
          exact AtRet.gen ⟨[.obj (mapO .i64 (encM Od.gv g6))], [], []⟩ (StLe.gen 1 [] [] rfl rfl rfl rfl rfl rfl rfl) rfl rfl ⟨rfl, rfl⟩
        · replace hr := cond_f h29 hr
          obtain ⟨v30, h31, hr⟩ := bind_some hr
          refine (term_Moved_spec n v21.2 (IntKind.i64.wrap (((Tm.encL v12.1).length : Int) - v4)) ((Tm.encL v21.1).length : Int) a24 c24 _ h31).atR [7] rfl rfl rfl ?_
          rintro _ _ ⟨a32, c32, rfl, rfl⟩
          obtain ⟨v33, h34, hr⟩ := bind_some hr
          refine (term_Moved_spec n v12.2 ((Tm.encL v21.1).length : Int) 0 a15 c15 _ h34).atR [4] rfl rfl rfl ?_
          rintro _ _ ⟨a35, c35, rfl, rfl⟩
          obtain ⟨v36, h37, hr⟩ := bind_some hr
          refine (order_pair_spec n ((mget (er g6) v21.2.n).getD (Od.mk 0 0 ([]))) ((mget (er g6) v12.2.n).getD (Od.mk 0 0 ([]))) (Cmp.mk (IntKind.i64.wrap (((Tm.encL v12.1).length : Int) + ((Tm.encL v21.1).length : Int))) ((Tm.encL v21.1).length : Int)) v30.args v33.args a27 c27 a28 c28 a32 c32 a35 c35 _ h37).atR [8, 9, 10, 11] rfl rfl rfl ?_
          rintro _ _ ⟨rfl, rfl⟩
          replace hr := Option.some.inj hr
          subst hr
          exact AtRet.gen ⟨[.obj (mapO .i64 (encM Od.gv g6))], [], []⟩ (StLe.gen 1 [] [] rfl rfl rfl rfl rfl rfl rfl) rfl rfl ⟨rfl, rfl⟩
      ·
        refine ⟨OwnKeptBut.append, ?_⟩
        refine ⟨OwnKeptBut.append, ?_⟩
        refine ⟨fun _ _ h => h, ?_⟩
        refine (similar0 ((mget (er g6) v21.2.n).getD (Od.mk 0 0 ([]))) ((mget (er g6) v12.2.n).getD (Od.mk 0 0 ([]))) a27 c27 a28 c28).atR [8, 9] rfl rfl rfl ?_
        rintro _ _ ⟨rfl, rfl⟩
        refine AtIf.mk (fun h29 => ?_) (fun h29 => ?_)
        · replace hr := cond_t h29 hr
          replace hr := Option.some.inj hr
          subst hr
          exact AtRet.gen ⟨[.obj (mapO .i64 (encM Od.gv g6))], [], []⟩ (StLe.gen 1 [] [] rfl rfl rfl rfl rfl rfl rfl) rfl rfl ⟨rfl, rfl⟩
        · replace hr := cond_f h29 hr
          obtain ⟨v30, h31, hr⟩ := bind_some hr
          refine (term_Moved_spec n v21.2 (IntKind.i64.wrap (((Tm.encL v12.1).length : Int) - v4)) ((Tm.encL v21.1).length : Int) a24 c24 _ h31).atR [7] rfl rfl rfl ?_
          rintro _ _ ⟨a32, c32, rfl, rfl⟩
          obtain ⟨v33, h34, hr⟩ := bind_some hr
          refine (term_Moved_spec n v12.2 ((Tm.encL v21.1).length : Int) 0 a15 c15 _ h34).atR [4] rfl rfl rfl ?_
          rintro _ _ ⟨a35, c35, rfl, rfl⟩
          obtain ⟨v36, h37, hr⟩ := bind_some hr
          refine (order_pair_spec n ((mget (er g6) v21.2.n).getD (Od.mk 0 0 ([]))) ((mget (er g6) v12.2.n).getD (Od.mk 0 0 ([]))) (Cmp.mk (IntKind.i64.wrap (((Tm.encL v12.1).length : Int) + ((Tm.encL v21.1).length : Int))) ((Tm.encL v21.1).length : Int)) v30.args v33.args a27 c27 a28 c28 a32 c32 a35 c35 _ h37).atR [8, 9, 10, 11] rfl rfl rfl ?_
          rintro _ _ ⟨rfl, rfl⟩
          replace hr := Option.some.inj hr
          subst hr
          exact AtRet.gen ⟨[.obj (mapO .i64 (encM Od.gv g6))], [], []⟩ (StLe.gen 1 [] [] rfl rfl rfl rfl rfl rfl rfl) rfl rfl ⟨rfl, rfl⟩
    refine ⟨?_, ?_⟩
    ·
      refine ⟨OwnKeptBut.append, ?_⟩
      refine ⟨?_, ?_⟩
      ·
        refine at_lookupGE ttOK Od.gv Od.gk 3 Od.gp (Od.mk 0 0 ([])) _ 1 rfl Tryz.underlying3 Tryz.zeroValue27 rfl rfl (fun _ _ _ _ => rfl) (fun _ _ _ _ => rfl) rfl rfl rfl rfl ?_
        intro a38 c38
        refine ⟨fun _ _ h => h, ?_⟩
        refine ⟨OwnKeptBut.append, ?_⟩
        refine ⟨fun _ _ h => h, ?_⟩
        refine (similar0 ((mget (er g6) v21.2.n).getD (Od.mk 0 0 ([]))) ((mget (er g6) v12.2.n).getD (Od.mk 0 0 ([]))) a27 c27 a38 c38).atR [8, 9] rfl rfl rfl ?_
        rintro _ _ ⟨rfl, rfl⟩
        refine AtIf.mk (fun h29 => ?_) (fun h29 => ?_)
        · replace hr := cond_t h29 hr
          replace hr := Option.some.inj hr
          subst hr
          exact AtRet.gen ⟨[.obj (mapO .i64 (encM Od.gv g6))], [], []⟩ (StLe.gen 1 [] [] rfl rfl rfl rfl rfl rfl rfl) rfl rfl ⟨rfl, rfl⟩
        · replace hr := cond_f h29 hr
          obtain ⟨v30, h31, hr⟩ := bind_some hr
          refine (term_Moved_spec n v21.2 (IntKind.i64.wrap (((Tm.encL v12.1).length : Int) - v4)) ((Tm.encL v21.1).length : Int) a24 c24 _ h31).atR [7] rfl rfl rfl ?_
          rintro _ _ ⟨a32, c32, rfl, rfl⟩
          obtain ⟨v33, h34, hr⟩ := bind_some hr
          refine (term_Moved_spec n v12.2 ((Tm.encL v21.1).length : Int) 0 a15 c15 _ h34).atR [4] rfl rfl rfl ?_
          rintro _ _ ⟨a35, c35, rfl, rfl⟩
          obtain ⟨v36, h37, hr⟩ := bind_some hr
          refine (order_pair_spec n ((mget (er g6) v21.2.n).getD (Od.mk 0 0 ([]))) ((mget (er g6) v12.2.n).getD (Od.mk 0 0 ([]))) (Cmp.mk (IntKind.i64.wrap (((Tm.encL v12.1).length : Int) + ((Tm.encL v21.1).length : Int))) ((Tm.encL v21.1).length : Int)) v30.args v33.args a27 c27 a38 c38 a32 c32 a35 c35 _ h37).atR [8, 9, 10, 11] rfl rfl rfl ?_
          rintro _ _ ⟨rfl, rfl⟩
          replace hr := Option.some.inj hr
          subst hr
          exact AtRet.gen ⟨[.obj (mapO .i64 (encM Od.gv g6))], [], []⟩ (StLe.gen 1 [] [] rfl rfl rfl rfl rfl rfl rfl) rfl rfl ⟨rfl, rfl⟩
      ·
        refine ⟨OwnKeptBut.append, ?_⟩
        refine ⟨?_, ?_⟩
        ·
          refine at_lookupGE ttOK Od.gv Od.gk 3 Od.gp (Od.mk 0 0 ([])) _ 1 rfl Tryz.underlying3 Tryz.zeroValue27 rfl rfl (fun _ _ _ _ => rfl) (fun _ _ _ _ => rfl) rfl rfl rfl rfl ?_
          intro a39 c39
          refine ⟨fun _ _ h => h, ?_⟩
          refine ⟨fun _ _ h => h, ?_⟩
          refine (similar0 ((mget (er g6) v21.2.n).getD (Od.mk 0 0 ([]))) ((mget (er g6) v12.2.n).getD (Od.mk 0 0 ([]))) a27 c27 a39 c39).atR [8, 9] rfl rfl rfl ?_
          rintro _ _ ⟨rfl, rfl⟩
          refine AtIf.mk (fun h29 => ?_) (fun h29 => ?_)
          · replace hr := cond_t h29 hr
            replace hr := Option.some.inj hr
            subst hr
            exact AtRet.gen ⟨[.obj (mapO .i64 (encM Od.gv g6))], [], []⟩ (StLe.gen 1 [] [] rfl rfl rfl rfl rfl rfl rfl) rfl rfl ⟨rfl, rfl⟩
          · replace hr := cond_f h29 hr
            obtain ⟨v30, h31, hr⟩ := bind_some hr
            refine (term_Moved_spec n v21.2 (IntKind.i64.wrap (((Tm.encL v12.1).length : Int) - v4)) ((Tm.encL v21.1).length : Int) a24 c24 _ h31).atR [7] rfl rfl rfl ?_
            rintro _ _ ⟨a32, c32, rfl, rfl⟩
            obtain ⟨v33, h34, hr⟩ := bind_some hr
            refine (term_Moved_spec n v12.2 ((Tm.encL v21.1).length : Int) 0 a15 c15 _ h34).atR [4] rfl rfl rfl ?_
            rintro _ _ ⟨a35, c35, rfl, rfl⟩
            obtain ⟨v36, h37, hr⟩ := bind_some hr
            refine (order_pair_spec n ((mget (er g6) v21.2.n).getD (Od.mk 0 0 ([]))) ((mget (er g6) v12.2.n).getD (Od.mk 0 0 ([]))) (Cmp.mk (IntKind.i64.wrap (((Tm.encL v12.1).length : Int) + ((Tm.encL v21.1).length : Int))) ((Tm.encL v21.1).length : Int)) v30.args v33.args a27 c27 a39 c39 a32 c32 a35 c35 _ h37).atR [8, 9, 10, 11] rfl rfl rfl ?_
            rintro _ _ ⟨rfl, rfl⟩
            replace hr := Option.some.inj hr
            subst hr
            exact AtRet.gen ⟨[.obj (mapO .i64 (encM Od.gv g6))], [], []⟩ (StLe.gen 1 [] [] rfl rfl rfl rfl rfl rfl rfl) rfl rfl ⟨rfl, rfl⟩
        ·
          refine ⟨fun _ _ h => h, ?_⟩
          refine at_lookupGE ttOK Od.gv Od.gk 3 Od.gp (Od.mk 0 0 ([])) _ 1 rfl Tryz.underlying3 Tryz.zeroValue27 rfl rfl (fun _ _ _ _ => rfl) (fun _ _ _ _ => rfl) rfl rfl rfl rfl ?_
          intro a40 c40
          refine ⟨fun _ _ h => h, ?_⟩
          refine (similar0 ((mget (er g6) v21.2.n).getD (Od.mk 0 0 ([]))) ((mget (er g6) v12.2.n).getD (Od.mk 0 0 ([]))) a27 c27 a40 c40).atR [8, 9] rfl rfl rfl ?_
          rintro _ _ ⟨rfl, rfl⟩
          refine AtIf.mk (fun h29 => ?_) (fun h29 => ?_)
          · replace hr := cond_t h29 hr
            replace hr := Option.some.inj hr
            subst hr
            exact AtRet.gen ⟨[.obj (mapO .i64 (encM Od.gv g6))], [], []⟩ (StLe.gen 1 [] [] rfl rfl rfl rfl rfl rfl rfl) rfl rfl ⟨rfl, rfl⟩
          · replace hr := cond_f h29 hr
            obtain ⟨v30, h31, hr⟩ := bind_some hr
            refine (term_Moved_spec n v21.2 (IntKind.i64.wrap (((Tm.encL v12.1).length : Int) - v4)) ((Tm.encL v21.1).length : Int) a24 c24 _ h31).atR [7] rfl rfl rfl ?_
            rintro _ _ ⟨a32, c32, rfl, rfl⟩
            obtain ⟨v33, h34, hr⟩ := bind_some hr
            refine (term_Moved_spec n v12.2 ((Tm.encL v21.1).length : Int) 0 a15 c15 _ h34).atR [4] rfl rfl rfl ?_
            rintro _ _ ⟨a35, c35, rfl, rfl⟩
            obtain ⟨v36, h37, hr⟩ := bind_some hr
            refine (order_pair_spec n ((mget (er g6) v21.2.n).getD (Od.mk 0 0 ([]))) ((mget (er g6) v12.2.n).getD (Od.mk 0 0 ([]))) (Cmp.mk (IntKind.i64.wrap (((Tm.encL v12.1).length : Int) + ((Tm.encL v21.1).length : Int))) ((Tm.encL v21.1).length : Int)) v30.args v33.args a27 c27 a40 c40 a32 c32 a35 c35 _ h37).atR [8, 9, 10, 11] rfl rfl rfl ?_
            rintro _ _ ⟨rfl, rfl⟩
            replace hr := Option.some.inj hr
            subst hr
            exact AtRet.gen ⟨[.obj (mapO .i64 (encM Od.gv g6))], [], []⟩ (StLe.gen 1 [] [] rfl rfl rfl rfl rfl rfl rfl) rfl rfl ⟨rfl, rfl⟩
    ·
      refine ⟨OwnKeptBut.append, ?_⟩
      refine ⟨?_, ?_⟩
      ·
        refine at_lookupGE ttOK Od.gv Od.gk 3 Od.gp (Od.mk 0 0 ([])) _ 1 rfl Tryz.underlying3 Tryz.zeroValue27 rfl rfl (fun _ _ _ _ => rfl) (fun _ _ _ _ => rfl) rfl rfl rfl rfl ?_
        intro a41 c41
        refine ⟨fun _ _ h => h, ?_⟩
        refine ⟨OwnKeptBut.append, ?_⟩
        refine ⟨fun _ _ h => h, ?_⟩
        refine (similar0 ((mget (er g6) v21.2.n).getD (Od.mk 0 0 ([]))) ((mget (er g6) v12.2.n).getD (Od.mk 0 0 ([]))) a27 c27 a41 c41).atR [8, 9] rfl rfl rfl ?_
        rintro _ _ ⟨rfl, rfl⟩
        refine AtIf.mk (fun h29 => ?_) (fun h29 => ?_)
        · replace hr := cond_t h29 hr
          replace hr := Option.some.inj hr
          subst hr
          exact AtRet.gen ⟨[.obj (mapO .i64 (encM Od.gv g6))], [], []⟩ (StLe.gen 1 [] [] rfl rfl rfl rfl rfl rfl rfl) rfl rfl ⟨rfl, rfl⟩
        · replace hr := cond_f h29 hr
          obtain ⟨v30, h31, hr⟩ := bind_some hr
          refine (term_Moved_spec n v21.2 (IntKind.i64.wrap (((Tm.encL v12.1).length : Int) - v4)) ((Tm.encL v21.1).length : Int) a24 c24 _ h31).atR [7] rfl rfl rfl ?_
          rintro _ _ ⟨a32, c32, rfl, rfl⟩
          obtain ⟨v33, h34, hr⟩ := bind_some hr
          refine (term_Moved_spec n v12.2 ((Tm.encL v21.1).length : Int) 0 a15 c15 _ h34).atR [4] rfl rfl rfl ?_
          rintro _ _ ⟨a35, c35, rfl, rfl⟩
          obtain ⟨v36, h37, hr⟩ := bind_some hr
          refine (order_pair_spec n ((mget (er g6) v21.2.n).getD (Od.mk 0 0 ([]))) ((mget (er g6) v12.2.n).getD (Od.mk 0 0 ([]))) (Cmp.mk (IntKind.i64.wrap (((Tm.encL v12.1).length : Int) + ((Tm.encL v21.1).length : Int))) ((Tm.encL v21.1).length : Int)) v30.args v33.args a27 c27 a41 c41 a32 c32 a35 c35 _ h37).atR [8, 9, 10, 11] rfl rfl rfl ?_
          rintro _ _ ⟨rfl, rfl⟩
          replace hr := Option.some.inj hr
          subst hr
          exact AtRet.gen ⟨[.obj (mapO .i64 (encM Od.gv g6))], [], []⟩ (StLe.gen 1 [] [] rfl rfl rfl rfl rfl rfl rfl) rfl rfl ⟨rfl, rfl⟩
      ·
        refine ⟨OwnKeptBut.append, ?_⟩
        refine ⟨?_, ?_⟩
        ·
          refine at_lookupGE ttOK Od.gv Od.gk 3 Od.gp (Od.mk 0 0 ([])) _ 1 rfl Tryz.underlying3 Tryz.zeroValue27 rfl rfl (fun _ _ _ _ => rfl) (fun _ _ _ _ => rfl) rfl rfl rfl rfl ?_
          intro a42 c42
          refine ⟨fun _ _ h => h, ?_⟩
          refine ⟨fun _ _ h => h, ?_⟩
          refine (similar0 ((mget (er g6) v21.2.n).getD (Od.mk 0 0 ([]))) ((mget (er g6) v12.2.n).getD (Od.mk 0 0 ([]))) a27 c27 a42 c42).atR [8, 9] rfl rfl rfl ?_
          rintro _ _ ⟨rfl, rfl⟩
          refine AtIf.mk (fun h29 => ?_) (fun h29 => ?_)
          · replace hr := cond_t h29 hr
            replace hr := Option.some.inj hr
            subst hr
            exact AtRet.gen ⟨[.obj (mapO .i64 (encM Od.gv g6))], [], []⟩ (StLe.gen 1 [] [] rfl rfl rfl rfl rfl rfl rfl) rfl rfl ⟨rfl, rfl⟩
          · replace hr := cond_f h29 hr
            obtain ⟨v30, h31, hr⟩ := bind_some hr
            refine (term_Moved_spec n v21.2 (IntKind.i64.wrap (((Tm.encL v12.1).length : Int) - v4)) ((Tm.encL v21.1).length : Int) a24 c24 _ h31).atR [7] rfl rfl rfl ?_
            rintro _ _ ⟨a32, c32, rfl, rfl⟩
            obtain ⟨v33, h34, hr⟩ := bind_some hr
            refine (term_Moved_spec n v12.2 ((Tm.encL v21.1).length : Int) 0 a15 c15 _ h34).atR [4] rfl rfl rfl ?_
            rintro _ _ ⟨a35, c35, rfl, rfl⟩
            obtain ⟨v36, h37, hr⟩ := bind_some hr
            refine (order_pair_spec n ((mget (er g6) v21.2.n).getD (Od.mk 0 0 ([]))) ((mget (er g6) v12.2.n).getD (Od.mk 0 0 ([]))) (Cmp.mk (IntKind.i64.wrap (((Tm.encL v12.1).length : Int) + ((Tm.encL v21.1).length : Int))) ((Tm.encL v21.1).length : Int)) v30.args v33.args a27 c27 a42 c42 a32 c32 a35 c35 _ h37).atR [8, 9, 10, 11] rfl rfl rfl ?_
            rintro _ _ ⟨rfl, rfl⟩
            replace hr := Option.some.inj hr
            subst hr
            exact AtRet.gen ⟨[.obj (mapO .i64 (encM Od.gv g6))], [], []⟩ (StLe.gen 1 [] [] rfl rfl rfl rfl rfl rfl rfl) rfl rfl ⟨rfl, rfl⟩
        ·
          refine ⟨fun _ _ h => h, ?_⟩
          refine at_lookupGE ttOK Od.gv Od.gk 3 Od.gp (Od.mk 0 0 ([])) _ 1 rfl Tryz.underlying3 Tryz.zeroValue27 rfl rfl (fun _ _ _ _ => rfl) (fun _ _ _ _ => rfl) rfl rfl rfl rfl ?_
          intro a43 c43
          refine ⟨fun _ _ h => h, ?_⟩
          refine (similar0 ((mget (er g6) v21.2.n).getD (Od.mk 0 0 ([]))) ((mget (er g6) v12.2.n).getD (Od.mk 0 0 ([]))) a27 c27 a43 c43).atR [8, 9] rfl rfl rfl ?_
          rintro _ _ ⟨rfl, rfl⟩
          refine AtIf.mk (fun h29 => ?_) (fun h29 => ?_)
          · replace hr := cond_t h29 hr
            replace hr := Option.some.inj hr
            subst hr
            exact AtRet.gen ⟨[.obj (mapO .i64 (encM Od.gv g6))], [], []⟩ (StLe.gen 1 [] [] rfl rfl rfl rfl rfl rfl rfl) rfl rfl ⟨rfl, rfl⟩
          · replace hr := cond_f h29 hr
            obtain ⟨v30, h31, hr⟩ := bind_some hr
            refine (term_Moved_spec n v21.2 (IntKind.i64.wrap (((Tm.encL v12.1).length : Int) - v4)) ((Tm.encL v21.1).length : Int) a24 c24 _ h31).atR [7] rfl rfl rfl ?_
            rintro _ _ ⟨a32, c32, rfl, rfl⟩
            obtain ⟨v33, h34, hr⟩ := bind_some hr
            refine (term_Moved_spec n v12.2 ((Tm.encL v21.1).length : Int) 0 a15 c15 _ h34).atR [4] rfl rfl rfl ?_
            rintro _ _ ⟨a35, c35, rfl, rfl⟩
            obtain ⟨v36, h37, hr⟩ := bind_some hr
            refine (order_pair_spec n ((mget (er g6) v21.2.n).getD (Od.mk 0 0 ([]))) ((mget (er g6) v12.2.n).getD (Od.mk 0 0 ([]))) (Cmp.mk (IntKind.i64.wrap (((Tm.encL v12.1).length : Int) + ((Tm.encL v21.1).length : Int))) ((Tm.encL v21.1).length : Int)) v30.args v33.args a27 c27 a43 c43 a32 c32 a35 c35 _ h37).atR [8, 9, 10, 11] rfl rfl rfl ?_
            rintro _ _ ⟨rfl, rfl⟩
            replace hr := Option.some.inj hr
            subst hr
            exact AtRet.gen ⟨[.obj (mapO .i64 (encM Od.gv g6))], [], []⟩ (StLe.gen 1 [] [] rfl rfl rfl rfl rfl rfl rfl) rfl rfl ⟨rfl, rfl⟩
  refine ⟨?_, ?_⟩
  ·
    refine at_lookupGE ttOK Od.gv Od.gk 3 Od.gp (Od.mk 0 0 ([])) _ 1 rfl Tryz.underlying3 Tryz.zeroValue27 rfl rfl (fun _ _ _ _ => rfl) (fun _ _ _ _ => rfl) rfl rfl rfl rfl ?_
    intro a44 c44
    refine ⟨fun _ _ h => h, ?_⟩
    refine ⟨?_, ?_⟩
    ·
      refine at_lookupGE ttOK Od.gv Od.gk 3 Od.gp (Od.mk 0 0 ([])) _ 1 rfl Tryz.underlying3 Tryz.zeroValue27 rfl rfl (fun _ _ _ _ => rfl) (fun _ _ _ _ => rfl) rfl rfl rfl rfl ?_
      intro a45 c45
      refine ⟨fun _ _ h => h, ?_⟩
      refine ⟨?_, ?_⟩
      ·
        refine ⟨OwnKeptBut.append, ?_⟩
        refine ⟨OwnKeptBut.append, ?_⟩
        refine ⟨fun _ _ h => h, ?_⟩
        refine (similar0 ((mget (er g6) v21.2.n).getD (Od.mk 0 0 ([]))) ((mget (er g6) v12.2.n).getD (Od.mk 0 0 ([]))) a45 c45 a44 c44).atR [9, 8] rfl rfl rfl ?_
        rintro _ _ ⟨rfl, rfl⟩
        refine AtIf.mk (fun h29 => ?_) (fun h29 => ?_)
        · replace hr := cond_t h29 hr
          replace hr := Option.some.inj hr
          subst hr
          exact AtRet.gen ⟨[.obj (mapO .i64 (encM Od.gv g6))], [], []⟩ (StLe.gen 1 [] [] rfl rfl rfl rfl rfl rfl rfl) rfl rfl ⟨rfl, rfl⟩
        · replace hr := cond_f h29 hr
          obtain ⟨v30, h31, hr⟩ := bind_some hr
          refine (term_Moved_spec n v21.2 (IntKind.i64.wrap (((Tm.encL v12.1).length : Int) - v4)) ((Tm.encL v21.1).length : Int) a24 c24 _ h31).atR [7] rfl rfl rfl ?_
          rintro _ _ ⟨a32, c32, rfl, rfl⟩
          obtain ⟨v33, h34, hr⟩ := bind_some hr
          refine (term_Moved_spec n v12.2 ((Tm.encL v21.1).length : Int) 0 a15 c15 _ h34).atR [4] rfl rfl rfl ?_
          rintro _ _ ⟨a35, c35, rfl, rfl⟩
          obtain ⟨v36, h37, hr⟩ := bind_some hr
          refine (order_pair_spec n ((mget (er g6) v21.2.n).getD (Od.mk 0 0 ([]))) ((mget (er g6) v12.2.n).getD (Od.mk 0 0 ([]))) (Cmp.mk (IntKind.i64.wrap (((Tm.encL v12.1).length : Int) + ((Tm.encL v21.1).length : Int))) ((Tm.encL v21.1).length : Int)) v30.args v33.args a45 c45 a44 c44 a32 c32 a35 c35 _ h37).atR [9, 8, 10, 11] rfl rfl rfl ?_
          rintro _ _ ⟨rfl, rfl⟩
          replace hr := Option.some.inj hr
          subst hr
          exact AtRet.gen ⟨[.obj (mapO .i64 (encM Od.gv g6))], [], []⟩ (StLe.gen 1 [] [] rfl rfl rfl rfl rfl rfl rfl) rfl rfl ⟨rfl, rfl⟩
      ·
        refine ⟨OwnKeptBut.append, ?_⟩
        refine ⟨OwnKeptBut.append, ?_⟩
        refine ⟨fun _ _ h => h, ?_⟩
        refine (similar0 ((mget (er g6) v21.2.n).getD (Od.mk 0 0 ([]))) ((mget (er g6) v12.2.n).getD (Od.mk 0 0 ([]))) a45 c45 a44 c44).atR [9, 8] rfl rfl rfl ?_
        rintro _ _ ⟨rfl, rfl⟩
        refine AtIf.mk (fun h29 => ?_) (fun h29 => ?_)
        · replace hr := cond_t h29 hr
          replace hr := Option.some.inj hr
          subst hr
          exact AtRet.gen ⟨[.obj (mapO .i64 (encM Od.gv g6))], [], []⟩ (StLe.gen 1 [] [] rfl rfl rfl rfl rfl rfl rfl) rfl rfl ⟨rfl, rfl⟩
        · replace hr := cond_f h29 hr
          obtain ⟨v30, h31, hr⟩ := bind_some hr
          refine (term_Moved_spec n v21.2 (IntKind.i64.wrap (((Tm.encL v12.1).length : Int) - v4)) ((Tm.encL v21.1).length : Int) a24 c24 _ h31).atR [7] rfl rfl rfl ?_
          rintro _ _ ⟨a32, c32, rfl, rfl⟩
          obtain ⟨v33, h34, hr⟩ := bind_some hr
          refine (term_Moved_spec n v12.2 ((Tm.encL v21.1).length : Int) 0 a15 c15 _ h34).atR [4] rfl rfl rfl ?_
          rintro _ _ ⟨a35, c35, rfl, rfl⟩
          obtain ⟨v36, h37, hr⟩ := bind_some hr
          refine (order_pair_spec n ((mget (er g6) v21.2.n).getD (Od.mk 0 0 ([]))) ((mget (er g6) v12.2.n).getD (Od.mk 0 0 ([]))) (Cmp.mk (IntKind.i64.wrap (((Tm.encL v12.1).length : Int) + ((Tm.encL v21.1).length : Int))) ((Tm.encL v21.1).length : Int)) v30.args v33.args a45 c45 a44 c44 a32 c32 a35 c35 _ h37).atR [9, 8, 10, 11] rfl rfl rfl ?_
          rintro _ _ ⟨rfl, rfl⟩
          replace hr := Option.some.inj hr
          subst hr
          exact AtRet.gen ⟨[.obj (mapO .i64 (encM Od.gv g6))], [], []⟩ (StLe.gen 1 [] [] rfl rfl rfl rfl rfl rfl rfl) rfl rfl ⟨rfl, rfl⟩
    refine ⟨?_, ?_⟩
    ·
      refine ⟨OwnKeptBut.append, ?_⟩
      refine ⟨?_, ?_⟩
      ·
        refine at_lookupGE ttOK Od.gv Od.gk 3 Od.gp (Od.mk 0 0 ([])) _ 1 rfl Tryz.underlying3 Tryz.zeroValue27 rfl rfl (fun _ _ _ _ => rfl) (fun _ _ _ _ => rfl) rfl rfl rfl rfl ?_
        intro a46 c46
        refine ⟨fun _ _ h => h, ?_⟩
        refine ⟨OwnKeptBut.append, ?_⟩
        refine ⟨fun _ _ h => h, ?_⟩
        refine (similar0 ((mget (er g6) v21.2.n).getD (Od.mk 0 0 ([]))) ((mget (er g6) v12.2.n).getD (Od.mk 0 0 ([]))) a46 c46 a44 c44).atR [9, 8] rfl rfl rfl ?_
        rintro _ _ ⟨rfl, rfl⟩
        refine AtIf.mk (fun h29 => ?_) (fun h29 => ?_)
        · replace hr := cond_t h29 hr
          replace hr := Option.some.inj hr
          subst hr
          exact AtRet.gen ⟨[.obj (mapO .i64 (encM Od.gv g6))], [], []⟩ (StLe.gen 1 [] [] rfl rfl rfl rfl rfl rfl rfl) rfl rfl ⟨rfl, rfl⟩
        · replace hr := cond_f h29 hr
          obtain ⟨v30, h31, hr⟩ := bind_some hr
          refine (term_Moved_spec n v21.2 (IntKind.i64.wrap (((Tm.encL v12.1).length : Int) - v4)) ((Tm.encL v21.1).length : Int) a24 c24 _ h31).atR [7] rfl rfl rfl ?_
          rintro _ _ ⟨a32, c32, rfl, rfl⟩
          obtain ⟨v33, h34, hr⟩ := bind_some hr
          refine (term_Moved_spec n v12.2 ((Tm.encL v21.1).length : Int) 0 a15 c15 _ h34).atR [4] rfl rfl rfl ?_
          rintro _ _ ⟨a35, c35, rfl, rfl⟩
          obtain ⟨v36, h37, hr⟩ := bind_some hr
          refine (order_pair_spec n ((mget (er g6) v21.2.n).getD (Od.mk 0 0 ([]))) ((mget (er g6) v12.2.n).getD (Od.mk 0 0 ([]))) (Cmp.mk (IntKind.i64.wrap (((Tm.encL v12.1).length : Int) + ((Tm.encL v21.1).length : Int))) ((Tm.encL v21.1).length : Int)) v30.args v33.args a46 c46 a44 c44 a32 c32 a35 c35 _ h37).atR [9, 8, 10, 11] rfl rfl rfl ?_
          rintro _ _ ⟨rfl, rfl⟩
          replace hr := Option.some.inj hr
          subst hr
          exact AtRet.gen ⟨[.obj (mapO .i64 (encM Od.gv g6))], [], []⟩ (StLe.gen 1 [] [] rfl rfl rfl rfl rfl rfl rfl) rfl rfl ⟨rfl, rfl⟩
      ·
        refine ⟨OwnKeptBut.append, ?_⟩
        refine at_lookupGE ttOK Od.gv Od.gk 3 Od.gp (Od.mk 0 0 ([])) _ 1 rfl Tryz.underlying3 Tryz.zeroValue27 rfl rfl (fun _ _ _ _ => rfl) (fun _ _ _ _ => rfl) rfl rfl rfl rfl ?_
        intro a47 c47
        refine ⟨fun _ _ h => h, ?_⟩
        refine ⟨fun _ _ h => h, ?_⟩
        refine (similar0 ((mget (er g6) v21.2.n).getD (Od.mk 0 0 ([]))) ((mget (er g6) v12.2.n).getD (Od.mk 0 0 ([]))) a47 c47 a44 c44).atR [9, 8] rfl rfl rfl ?_
        rintro _ _ ⟨rfl, rfl⟩
        refine AtIf.mk (fun h29 => ?_) (fun h29 => ?_)
        · replace hr := cond_t h29 hr
          replace hr := Option.some.inj hr
          subst hr
          exact AtRet.gen ⟨[.obj (mapO .i64 (encM Od.gv g6))], [], []⟩ (StLe.gen 1 [] [] rfl rfl rfl rfl rfl rfl rfl) rfl rfl ⟨rfl, rfl⟩
        · replace hr := cond_f h29 hr
          obtain ⟨v30, h31, hr⟩ := bind_some hr
          refine (term_Moved_spec n v21.2 (IntKind.i64.wrap (((Tm.encL v12.1).length : Int) - v4)) ((Tm.encL v21.1).length : Int) a24 c24 _ h31).atR [7] rfl rfl rfl ?_
          rintro _ _ ⟨a32, c32, rfl, rfl⟩
          obtain ⟨v33, h34, hr⟩ := bind_some hr
          refine (term_Moved_spec n v12.2 ((Tm.encL v21.1).length : Int) 0 a15 c15 _ h34).atR [4] rfl rfl rfl ?_
          rintro _ _ ⟨a35, c35, rfl, rfl⟩
          obtain ⟨v36, h37, hr⟩ := bind_some hr
          refine (order_pair_spec n ((mget (er g6) v21.2.n).getD (Od.mk 0 0 ([]))) ((mget (er g6) v12.2.n).getD (Od.mk 0 0 ([]))) (Cmp.mk (IntKind.i64.wrap (((Tm.encL v12.1).length : Int) + ((Tm.encL v21.1).length : Int))) ((Tm.encL v21.1).length : Int)) v30.args v33.args a47 c47 a44 c44 a32 c32 a35 c35 _ h37).atR [9, 8, 10, 11] rfl rfl rfl ?_
          rintro _ _ ⟨rfl, rfl⟩
          replace hr := Option.some.inj hr
          subst hr
          exact AtRet.gen ⟨[.obj (mapO .i64 (encM Od.gv g6))], [], []⟩ (StLe.gen 1 [] [] rfl rfl rfl rfl rfl rfl rfl) rfl rfl ⟨rfl, rfl⟩
    ·
      refine ⟨OwnKeptBut.append, ?_⟩
      refine ⟨?_, ?_⟩
      ·
        refine at_lookupGE ttOK Od.gv Od.gk 3 Od.gp (Od.mk 0 0 ([])) _ 1 rfl Tryz.underlying3 Tryz.zeroValue27 rfl rfl (fun _ _ _ _ => rfl) (fun _ _ _ _ => rfl) rfl rfl rfl rfl ?_
        intro a48 c48
        refine ⟨fun _ _ h => h, ?_⟩
        refine ⟨OwnKeptBut.append, ?_⟩
        refine ⟨fun _ _ h => h, ?_⟩
        refine (similar0 ((mget (er g6) v21.2.n).getD (Od.mk 0 0 ([]))) ((mget (er g6) v12.2.n).getD (Od.mk 0 0 ([]))) a48 c48 a44 c44).atR [9, 8] rfl rfl rfl ?_
        rintro _ _ ⟨rfl, rfl⟩
        refine AtIf.mk (fun h29 => ?_) (fun h29 => ?_)
        · replace hr := cond_t h29 hr
          replace hr := Option.some.inj hr
          subst hr
          exact AtRet.gen ⟨[.obj (mapO .i64 (encM Od.gv g6))], [], []⟩ (StLe.gen 1 [] [] rfl rfl rfl rfl rfl rfl rfl) rfl rfl ⟨rfl, rfl⟩
        · replace hr := cond_f h29 hr
          obtain ⟨v30, h31, hr⟩ := bind_some hr
          refine (term_Moved_spec n v21.2 (IntKind.i64.wrap (((Tm.encL v12.1).length : Int) - v4)) ((Tm.encL v21.1).length : Int) a24 c24 _ h31).atR [7] rfl rfl rfl ?_
          rintro _ _ ⟨a32, c32, rfl, rfl⟩
          obtain ⟨v33, h34, hr⟩ := bind_some hr
          refine (term_Moved_spec n v12.2 ((Tm.encL v21.1).length : Int) 0 a15 c15 _ h34).atR [4] rfl rfl rfl ?_
          rintro _ _ ⟨a35, c35, rfl, rfl⟩
          obtain ⟨v36, h37, hr⟩ := bind_some hr
          refine (order_pair_spec n ((mget (er g6) v21.2.n).getD (Od.mk 0 0 ([]))) ((mget (er g6) v12.2.n).getD (Od.mk 0 0 ([]))) (Cmp.mk (IntKind.i64.wrap (((Tm.encL v12.1).length : Int) + ((Tm.encL v21.1).length : Int))) ((Tm.encL v21.1).length : Int)) v30.args v33.args a48 c48 a44 c44 a32 c32 a35 c35 _ h37).atR [9, 8, 10, 11] rfl rfl rfl ?_
          rintro _ _ ⟨rfl, rfl⟩
          replace hr := Option.some.inj hr
          subst hr
          exact AtRet.gen ⟨[.obj (mapO .i64 (encM Od.gv g6))], [], []⟩ (StLe.gen 1 [] [] rfl rfl rfl rfl rfl rfl rfl) rfl rfl ⟨rfl, rfl⟩
      ·
        refine ⟨OwnKeptBut.append, ?_⟩
        refine at_lookupGE ttOK Od.gv Od.gk 3 Od.gp (Od.mk 0 0 ([])) _ 1 rfl Tryz.underlying3 Tryz.zeroValue27 rfl rfl (fun _ _ _ _ => rfl) (fun _ _ _ _ => rfl) rfl rfl rfl rfl ?_
        intro a49 c49
        refine ⟨fun _ _ h => h, ?_⟩
        refine ⟨fun _ _ h => h, ?_⟩
        refine (similar0 ((mget (er g6) v21.2.n).getD (Od.mk 0 0 ([]))) ((mget (er g6) v12.2.n).getD (Od.mk 0 0 ([]))) a49 c49 a44 c44).atR [9, 8] rfl rfl rfl ?_
        rintro _ _ ⟨rfl, rfl⟩
        refine AtIf.mk (fun h29 => ?_) (fun h29 => ?_)
        · replace hr := cond_t h29 hr
          replace hr := Option.some.inj hr
          subst hr
          exact AtRet.gen ⟨[.obj (mapO .i64 (encM Od.gv g6))], [], []⟩ (StLe.gen 1 [] [] rfl rfl rfl rfl rfl rfl rfl) rfl rfl ⟨rfl, rfl⟩
        · replace hr := cond_f h29 hr
          obtain ⟨v30, h31, hr⟩ := bind_some hr
          refine (term_Moved_spec n v21.2 (IntKind.i64.wrap (((Tm.encL v12.1).length : Int) - v4)) ((Tm.encL v21.1).length : Int) a24 c24 _ h31).atR [7] rfl rfl rfl ?_
          rintro _ _ ⟨a32, c32, rfl, rfl⟩
          obtain ⟨v33, h34, hr⟩ := bind_some hr
          refine (term_Moved_spec n v12.2 ((Tm.encL v21.1).length : Int) 0 a15 c15 _ h34).atR [4] rfl rfl rfl ?_
          rintro _ _ ⟨a35, c35, rfl, rfl⟩
          obtain ⟨v36, h37, hr⟩ := bind_some hr
          refine (order_pair_spec n ((mget (er g6) v21.2.n).getD (Od.mk 0 0 ([]))) ((mget (er g6) v12.2.n).getD (Od.mk 0 0 ([]))) (Cmp.mk (IntKind.i64.wrap (((Tm.encL v12.1).length : Int) + ((Tm.encL v21.1).length : Int))) ((Tm.encL v21.1).length : Int)) v30.args v33.args a49 c49 a44 c44 a32 c32 a35 c35 _ h37).atR [9, 8, 10, 11] rfl rfl rfl ?_
          rintro _ _ ⟨rfl, rfl⟩
          replace hr := Option.some.inj hr
          subst hr
          exact AtRet.gen ⟨[.obj (mapO .i64 (encM Od.gv g6))], [], []⟩ (StLe.gen 1 [] [] rfl rfl rfl rfl rfl rfl rfl) rfl rfl ⟨rfl, rfl⟩
  refine ⟨?_, ?_⟩
  ·
    refine ⟨OwnKeptBut.append, ?_⟩
    refine ⟨?_, ?_⟩
    ·
      refine at_lookupGE ttOK Od.gv Od.gk 3 Od.gp (Od.mk 0 0 ([])) _ 1 rfl Tryz.underlying3 Tryz.zeroValue27 rfl rfl (fun _ _ _ _ => rfl) (fun _ _ _ _ => rfl) rfl rfl rfl rfl ?_
      intro a50 c50
      refine ⟨fun _ _ h => h, ?_⟩
      refine ⟨?_, ?_⟩
      ·
        refine at_lookupGE ttOK Od.gv Od.gk 3 Od.gp (Od.mk 0 0 ([])) _ 1 rfl Tryz.underlying3 Tryz.zeroValue27 rfl rfl (fun _ _ _ _ => rfl) (fun _ _ _ _ => rfl) rfl rfl rfl rfl ?_
        intro a51 c51
        refine ⟨fun _ _ h => h, ?_⟩
        refine ⟨OwnKeptBut.append, ?_⟩
        refine ⟨fun _ _ h => h, ?_⟩
        refine (similar0 ((mget (er g6) v21.2.n).getD (Od.mk 0 0 ([]))) ((mget (er g6) v12.2.n).getD (Od.mk 0 0 ([]))) a50 c50 a51 c51).atR [8, 9] rfl rfl rfl ?_
        rintro _ _ ⟨rfl, rfl⟩
        refine AtIf.mk (fun h29 => ?_) (fun h29 => ?_)
        · replace hr := cond_t h29 hr
          replace hr := Option.some.inj hr
          subst hr
          exact AtRet.gen ⟨[.obj (mapO .i64 (encM Od.gv g6))], [], []⟩ (StLe.gen 1 [] [] rfl rfl rfl rfl rfl rfl rfl) rfl rfl ⟨rfl, rfl⟩
        · replace hr := cond_f h29 hr
          obtain ⟨v30, h31, hr⟩ := bind_some hr
          refine (term_Moved_spec n v21.2 (IntKind.i64.wrap (((Tm.encL v12.1).length : Int) - v4)) ((Tm.encL v21.1).length : Int) a24 c24 _ h31).atR [7] rfl rfl rfl ?_
          rintro _ _ ⟨a32, c32, rfl, rfl⟩
          obtain ⟨v33, h34, hr⟩ := bind_some hr
          refine (term_Moved_spec n v12.2 ((Tm.encL v21.1).length : Int) 0 a15 c15 _ h34).atR [4] rfl rfl rfl ?_
          rintro _ _ ⟨a35, c35, rfl, rfl⟩
          obtain ⟨v36, h37, hr⟩ := bind_some hr
          refine (order_pair_spec n ((mget (er g6) v21.2.n).getD (Od.mk 0 0 ([]))) ((mget (er g6) v12.2.n).getD (Od.mk 0 0 ([]))) (Cmp.mk (IntKind.i64.wrap (((Tm.encL v12.1).length : Int) + ((Tm.encL v21.1).length : Int))) ((Tm.encL v21.1).length : Int)) v30.args v33.args a50 c50 a51 c51 a32 c32 a35 c35 _ h37).atR [8, 9, 10, 11] rfl rfl rfl ?_
          rintro _ _ ⟨rfl, rfl⟩
          replace hr := Option.some.inj hr
          subst hr
          exact AtRet.gen ⟨[.obj (mapO .i64 (encM Od.gv g6))], [], []⟩ (StLe.gen 1 [] [] rfl rfl rfl rfl rfl rfl rfl) rfl rfl ⟨rfl, rfl⟩
      ·
        refine ⟨OwnKeptBut.append, ?_⟩
        refine ⟨?_, ?_⟩
        ·
          refine at_lookupGE ttOK Od.gv Od.gk 3 Od.gp (Od.mk 0 0 ([])) _ 1 rfl Tryz.underlying3 Tryz.zeroValue27 rfl rfl (fun _ _ _ _ => rfl) (fun _ _ _ _ => rfl) rfl rfl rfl rfl ?_
          intro a52 c52
          refine ⟨fun _ _ h => h, ?_⟩
          refine ⟨fun _ _ h => h, ?_⟩
          refine (similar0 ((mget (er g6) v21.2.n).getD (Od.mk 0 0 ([]))) ((mget (er g6) v12.2.n).getD (Od.mk 0 0 ([]))) a50 c50 a52 c52).atR [8, 9] rfl rfl rfl ?_
          rintro _ _ ⟨rfl, rfl⟩
          refine AtIf.mk (fun h29 => ?_) (fun h29 => ?_)
          · replace hr := cond_t h29 hr
            replace hr := Option.some.inj hr
            subst hr
            exact AtRet.gen ⟨[.obj (mapO .i64 (encM Od.gv g6))], [], []⟩ (StLe.gen 1 [] [] rfl rfl rfl rfl rfl rfl rfl) rfl rfl ⟨rfl, rfl⟩
          · replace hr := cond_f h29 hr
            obtain ⟨v30, h31, hr⟩ := bind_some hr
            refine (term_Moved_spec n v21.2 (IntKind.i64.wrap (((Tm.encL v12.1).length : Int) - v4)) ((Tm.encL v21.1).length : Int) a24 c24 _ h31).atR [7] rfl rfl rfl ?_
            rintro _ _ ⟨a32, c32, rfl, rfl⟩
            obtain ⟨v33, h34, hr⟩ := bind_some hr
            refine (term_Moved_spec n v12.2 ((Tm.encL v21.1).length : Int) 0 a15 c15 _ h34).atR [4] rfl rfl rfl ?_
            rintro _ _ ⟨a35, c35, rfl, rfl⟩
            obtain ⟨v36, h37, hr⟩ := bind_some hr
            refine (order_pair_spec n ((mget (er g6) v21.2.n).getD (Od.mk 0 0 ([]))) ((mget (er g6) v12.2.n).getD (Od.mk 0 0 ([]))) (Cmp.mk (IntKind.i64.wrap (((Tm.encL v12.1).length : Int) + ((Tm.encL v21.1).length : Int))) ((Tm.encL v21.1).length : Int)) v30.args v33.args a50 c50 a52 c52 a32 c32 a35 c35 _ h37).atR [8, 9, 10, 11] rfl rfl rfl ?_
            rintro _ _ ⟨rfl, rfl⟩
            replace hr := Option.some.inj hr
            subst hr
            exact AtRet.gen ⟨[.obj (mapO .i64 (encM Od.gv g6))], [], []⟩ (StLe.gen 1 [] [] rfl rfl rfl rfl rfl rfl rfl) rfl rfl ⟨rfl, rfl⟩
        ·
          refine ⟨fun _ _ h => h, ?_⟩
          refine at_lookupGE ttOK Od.gv Od.gk 3 Od.gp (Od.mk 0 0 ([])) _ 1 rfl Tryz.underlying3 Tryz.zeroValue27 rfl rfl (fun _ _ _ _ => rfl) (fun _ _ _ _ => rfl) rfl rfl rfl rfl ?_
          intro a53 c53
          refine ⟨fun _ _ h => h, ?_⟩
          refine (similar0 ((mget (er g6) v21.2.n).getD (Od.mk 0 0 ([]))) ((mget (er g6) v12.2.n).getD (Od.mk 0 0 ([]))) a50 c50 a53 c53).atR [8, 9] rfl rfl rfl ?_
          rintro _ _ ⟨rfl, rfl⟩
          refine AtIf.mk (fun h29 => ?_) (fun h29 => ?_)
          · replace hr := cond_t h29 hr
            replace hr := Option.some.inj hr
            subst hr
            exact AtRet.gen ⟨[.obj (mapO .i64 (encM Od.gv g6))], [], []⟩ (StLe.gen 1 [] [] rfl rfl rfl rfl rfl rfl rfl) rfl rfl ⟨rfl, rfl⟩
          · replace hr := cond_f h29 hr
            obtain ⟨v30, h31, hr⟩ := bind_some hr
            refine (term_Moved_spec n v21.2 (IntKind.i64.wrap (((Tm.encL v12.1).length : Int) - v4)) ((Tm.encL v21.1).length : Int) a24 c24 _ h31).atR [7] rfl rfl rfl ?_
            rintro _ _ ⟨a32, c32, rfl, rfl⟩
            obtain ⟨v33, h34, hr⟩ := bind_some hr
            refine (term_Moved_spec n v12.2 ((Tm.encL v21.1).length : Int) 0 a15 c15 _ h34).atR [4] rfl rfl rfl ?_
            rintro _ _ ⟨a35, c35, rfl, rfl⟩
            obtain ⟨v36, h37, hr⟩ := bind_some hr
            refine (order_pair_spec n ((mget (er g6) v21.2.n).getD (Od.mk 0 0 ([]))) ((mget (er g6) v12.2.n).getD (Od.mk 0 0 ([]))) (Cmp.mk (IntKind.i64.wrap (((Tm.encL v12.1).length : Int) + ((Tm.encL v21.1).length : Int))) ((Tm.encL v21.1).length : Int)) v30.args v33.args a50 c50 a53 c53 a32 c32 a35 c35 _ h37).atR [8, 9, 10, 11] rfl rfl rfl ?_
            rintro _ _ ⟨rfl, rfl⟩
            replace hr := Option.some.inj hr
            subst hr
            exact AtRet.gen ⟨[.obj (mapO .i64 (encM Od.gv g6))], [], []⟩ (StLe.gen 1 [] [] rfl rfl rfl rfl rfl rfl rfl) rfl rfl ⟨rfl, rfl⟩
    refine ⟨?_, ?_⟩
    ·
      refine at_lookupGE ttOK Od.gv Od.gk 3 Od.gp (Od.mk 0 0 ([])) _ 1 rfl Tryz.underlying3 Tryz.zeroValue27 rfl rfl (fun _ _ _ _ => rfl) (fun _ _ _ _ => rfl) rfl rfl rfl rfl ?_
      intro a54 c54
      refine ⟨fun _ _ h => h, ?_⟩
      refine ⟨?_, ?_⟩
      ·
        refine at_lookupGE ttOK Od.gv Od.gk 3 Od.gp (Od.mk 0 0 ([])) _ 1 rfl Tryz.underlying3 Tryz.zeroValue27 rfl rfl (fun _ _ _ _ => rfl) (fun _ _ _ _ => rfl) rfl rfl rfl rfl ?_
        intro a55 c55
        refine ⟨fun _ _ h => h, ?_⟩
        refine ⟨OwnKeptBut.append, ?_⟩
        refine ⟨fun _ _ h => h, ?_⟩
        refine (similar0 ((mget (er g6) v21.2.n).getD (Od.mk 0 0 ([]))) ((mget (er g6) v12.2.n).getD (Od.mk 0 0 ([]))) a55 c55 a54 c54).atR [9, 8] rfl rfl rfl ?_
        rintro _ _ ⟨rfl, rfl⟩
        refine AtIf.mk (fun h29 => ?_) (fun h29 => ?_)
        · replace hr := cond_t h29 hr
          replace hr := Option.some.inj hr
          subst hr
          exact AtRet.gen ⟨[.obj (mapO .i64 (encM Od.gv g6))], [], []⟩ (StLe.gen 1 [] [] rfl rfl rfl rfl rfl rfl rfl) rfl rfl ⟨rfl, rfl⟩
        · replace hr := cond_f h29 hr
          obtain ⟨v30, h31, hr⟩ := bind_some hr
          refine (term_Moved_spec n v21.2 (IntKind.i64.wrap (((Tm.encL v12.1).length : Int) - v4)) ((Tm.encL v21.1).length : Int) a24 c24 _ h31).atR [7] rfl rfl rfl ?_
          rintro _ _ ⟨a32, c32, rfl, rfl⟩
          obtain ⟨v33, h34, hr⟩ := bind_some hr
          refine (term_Moved_spec n v12.2 ((Tm.encL v21.1).length : Int) 0 a15 c15 _ h34).atR [4] rfl rfl rfl ?_
          rintro _ _ ⟨a35, c35, rfl, rfl⟩
          obtain ⟨v36, h37, hr⟩ := bind_some hr
          refine (order_pair_spec n ((mget (er g6) v21.2.n).getD (Od.mk 0 0 ([]))) ((mget (er g6) v12.2.n).getD (Od.mk 0 0 ([]))) (Cmp.mk (IntKind.i64.wrap (((Tm.encL v12.1).length : Int) + ((Tm.encL v21.1).length : Int))) ((Tm.encL v21.1).length : Int)) v30.args v33.args a55 c55 a54 c54 a32 c32 a35 c35 _ h37).atR [9, 8, 10, 11] rfl rfl rfl ?_
          rintro _ _ ⟨rfl, rfl⟩
          replace hr := Option.some.inj hr
          subst hr
          exact AtRet.gen ⟨[.obj (mapO .i64 (encM Od.gv g6))], [], []⟩ (StLe.gen 1 [] [] rfl rfl rfl rfl rfl rfl rfl) rfl rfl ⟨rfl, rfl⟩
      ·
        refine ⟨OwnKeptBut.append, ?_⟩
        refine at_lookupGE ttOK Od.gv Od.gk 3 Od.gp (Od.mk 0 0 ([])) _ 1 rfl Tryz.underlying3 Tryz.zeroValue27 rfl rfl (fun _ _ _ _ => rfl) (fun _ _ _ _ => rfl) rfl rfl rfl rfl ?_
        intro a56 c56
        refine ⟨fun _ _ h => h, ?_⟩
        refine ⟨fun _ _ h => h, ?_⟩
        refine (similar0 ((mget (er g6) v21.2.n).getD (Od.mk 0 0 ([]))) ((mget (er g6) v12.2.n).getD (Od.mk 0 0 ([]))) a56 c56 a54 c54).atR [9, 8] rfl rfl rfl ?_
        rintro _ _ ⟨rfl, rfl⟩
        refine AtIf.mk (fun h29 => ?_) (fun h29 => ?_)
        · replace hr := cond_t h29 hr
          replace hr := Option.some.inj hr
          subst hr
          exact AtRet.gen ⟨[.obj (mapO .i64 (encM Od.gv g6))], [], []⟩ (StLe.gen 1 [] [] rfl rfl rfl rfl rfl rfl rfl) rfl rfl ⟨rfl, rfl⟩
        · replace hr := cond_f h29 hr
          obtain ⟨v30, h31, hr⟩ := bind_some hr
          refine (term_Moved_spec n v21.2 (IntKind.i64.wrap (((Tm.encL v12.1).length : Int) - v4)) ((Tm.encL v21.1).length : Int) a24 c24 _ h31).atR [7] rfl rfl rfl ?_
          rintro _ _ ⟨a32, c32, rfl, rfl⟩
          obtain ⟨v33, h34, hr⟩ := bind_some hr
          refine (term_Moved_spec n v12.2 ((Tm.encL v21.1).length : Int) 0 a15 c15 _ h34).atR [4] rfl rfl rfl ?_
          rintro _ _ ⟨a35, c35, rfl, rfl⟩
          obtain ⟨v36, h37, hr⟩ := bind_some hr
          refine (order_pair_spec n ((mget (er g6) v21.2.n).getD (Od.mk 0 0 ([]))) ((mget (er g6) v12.2.n).getD (Od.mk 0 0 ([]))) (Cmp.mk (IntKind.i64.wrap (((Tm.encL v12.1).length : Int) + ((Tm.encL v21.1).length : Int))) ((Tm.encL v21.1).length : Int)) v30.args v33.args a56 c56 a54 c54 a32 c32 a35 c35 _ h37).atR [9, 8, 10, 11] rfl rfl rfl ?_
          rintro _ _ ⟨rfl, rfl⟩
          replace hr := Option.some.inj hr
          subst hr
          exact AtRet.gen ⟨[.obj (mapO .i64 (encM Od.gv g6))], [], []⟩ (StLe.gen 1 [] [] rfl rfl rfl rfl rfl rfl rfl) rfl rfl ⟨rfl, rfl⟩
    ·
      refine ⟨OwnKeptBut.append, ?_⟩
      refine ⟨?_, ?_⟩
      ·
        refine at_lookupGE ttOK Od.gv Od.gk 3 Od.gp (Od.mk 0 0 ([])) _ 1 rfl Tryz.underlying3 Tryz.zeroValue27 rfl rfl (fun _ _ _ _ => rfl) (fun _ _ _ _ => rfl) rfl rfl rfl rfl ?_
        intro a57 c57
        refine ⟨fun _ _ h => h, ?_⟩
        refine ⟨?_, ?_⟩
        ·
          refine at_lookupGE ttOK Od.gv Od.gk 3 Od.gp (Od.mk 0 0 ([])) _ 1 rfl Tryz.underlying3 Tryz.zeroValue27 rfl rfl (fun _ _ _ _ => rfl) (fun _ _ _ _ => rfl) rfl rfl rfl rfl ?_
          intro a58 c58
          refine ⟨fun _ _ h => h, ?_⟩
          refine ⟨fun _ _ h => h, ?_⟩
          refine (similar0 ((mget (er g6) v21.2.n).getD (Od.mk 0 0 ([]))) ((mget (er g6) v12.2.n).getD (Od.mk 0 0 ([]))) a57 c57 a58 c58).atR [8, 9] rfl rfl rfl ?_
          rintro _ _ ⟨rfl, rfl⟩
          refine AtIf.mk (fun h29 => ?_) (fun h29 => ?_)
          · replace hr := cond_t h29 hr
            replace hr := Option.some.inj hr
            subst hr
            exact AtRet.gen ⟨[.obj (mapO .i64 (encM Od.gv g6))], [], []⟩ (StLe.gen 1 [] [] rfl rfl rfl rfl rfl rfl rfl) rfl rfl ⟨rfl, rfl⟩
          · replace hr := cond_f h29 hr
            obtain ⟨v30, h31, hr⟩ := bind_some hr
            refine (term_Moved_spec n v21.2 (IntKind.i64.wrap (((Tm.encL v12.1).length : Int) - v4)) ((Tm.encL v21.1).length : Int) a24 c24 _ h31).atR [7] rfl rfl rfl ?_
            rintro _ _ ⟨a32, c32, rfl, rfl⟩
            obtain ⟨v33, h34, hr⟩ := bind_some hr
            refine (term_Moved_spec n v12.2 ((Tm.encL v21.1).length : Int) 0 a15 c15 _ h34).atR [4] rfl rfl rfl ?_
            rintro _ _ ⟨a35, c35, rfl, rfl⟩
            obtain ⟨v36, h37, hr⟩ := bind_some hr
            refine (order_pair_spec n ((mget (er g6) v21.2.n).getD (Od.mk 0 0 ([]))) ((mget (er g6) v12.2.n).getD (Od.mk 0 0 ([]))) (Cmp.mk (IntKind.i64.wrap (((Tm.encL v12.1).length : Int) + ((Tm.encL v21.1).length : Int))) ((Tm.encL v21.1).length : Int)) v30.args v33.args a57 c57 a58 c58 a32 c32 a35 c35 _ h37).atR [8, 9, 10, 11] rfl rfl rfl ?_
            rintro _ _ ⟨rfl, rfl⟩
            replace hr := Option.some.inj hr
            subst hr
            exact AtRet.gen ⟨[.obj (mapO .i64 (encM Od.gv g6))], [], []⟩ (StLe.gen 1 [] [] rfl rfl rfl rfl rfl rfl rfl) rfl rfl ⟨rfl, rfl⟩
        ·
          refine ⟨fun _ _ h => h, ?_⟩
          refine at_lookupGE ttOK Od.gv Od.gk 3 Od.gp (Od.mk 0 0 ([])) _ 1 rfl Tryz.underlying3 Tryz.zeroValue27 rfl rfl (fun _ _ _ _ => rfl) (fun _ _ _ _ => rfl) rfl rfl rfl rfl ?_
          intro a59 c59
          refine ⟨fun _ _ h => h, ?_⟩
          refine (similar0 ((mget (er g6) v21.2.n).getD (Od.mk 0 0 ([]))) ((mget (er g6) v12.2.n).getD (Od.mk 0 0 ([]))) a57 c57 a59 c59).atR [8, 9] rfl rfl rfl ?_
          rintro _ _ ⟨rfl, rfl⟩
          refine AtIf.mk (fun h29 => ?_) (fun h29 => ?_)
          · replace hr := cond_t h29 hr
            replace hr := Option.some.inj hr
            subst hr
            exact AtRet.gen ⟨[.obj (mapO .i64 (encM Od.gv g6))], [], []⟩ (StLe.gen 1 [] [] rfl rfl rfl rfl rfl rfl rfl) rfl rfl ⟨rfl, rfl⟩
          · replace hr := cond_f h29 hr
            obtain ⟨v30, h31, hr⟩ := bind_some hr
            refine (term_Moved_spec n v21.2 (IntKind.i64.wrap (((Tm.encL v12.1).length : Int) - v4)) ((Tm.encL v21.1).length : Int) a24 c24 _ h31).atR [7] rfl rfl rfl ?_
            rintro _ _ ⟨a32, c32, rfl, rfl⟩
            obtain ⟨v33, h34, hr⟩ := bind_some hr
            refine (term_Moved_spec n v12.2 ((Tm.encL v21.1).length : Int) 0 a15 c15 _ h34).atR [4] rfl rfl rfl ?_
            rintro _ _ ⟨a35, c35, rfl, rfl⟩
            obtain ⟨v36, h37, hr⟩ := bind_some hr
            refine (order_pair_spec n ((mget (er g6) v21.2.n).getD (Od.mk 0 0 ([]))) ((mget (er g6) v12.2.n).getD (Od.mk 0 0 ([]))) (Cmp.mk (IntKind.i64.wrap (((Tm.encL v12.1).length : Int) + ((Tm.encL v21.1).length : Int))) ((Tm.encL v21.1).length : Int)) v30.args v33.args a57 c57 a59 c59 a32 c32 a35 c35 _ h37).atR [8, 9, 10, 11] rfl rfl rfl ?_
            rintro _ _ ⟨rfl, rfl⟩
            replace hr := Option.some.inj hr
            subst hr
            exact AtRet.gen ⟨[.obj (mapO .i64 (encM Od.gv g6))], [], []⟩ (StLe.gen 1 [] [] rfl rfl rfl rfl rfl rfl rfl) rfl rfl ⟨rfl, rfl⟩
      ·
        refine at_lookupGE ttOK Od.gv Od.gk 3 Od.gp (Od.mk 0 0 ([])) _ 1 rfl Tryz.underlying3 Tryz.zeroValue27 rfl rfl (fun _ _ _ _ => rfl) (fun _ _ _ _ => rfl) rfl rfl rfl rfl ?_
        intro a60 c60
        refine ⟨fun _ _ h => h, ?_⟩
        refine at_lookupGE ttOK Od.gv Od.gk 3 Od.gp (Od.mk 0 0 ([])) _ 1 rfl Tryz.underlying3 Tryz.zeroValue27 rfl rfl (fun _ _ _ _ => rfl) (fun _ _ _ _ => rfl) rfl rfl rfl rfl ?_
        intro a61 c61
        refine ⟨fun _ _ h => h, ?_⟩
        refine ⟨fun _ _ h => h, ?_⟩
        refine (similar0 ((mget (er g6) v21.2.n).getD (Od.mk 0 0 ([]))) ((mget (er g6) v12.2.n).getD (Od.mk 0 0 ([]))) a61 c61 a60 c60).atR [9, 8] rfl rfl rfl ?_
        rintro _ _ ⟨rfl, rfl⟩
        refine AtIf.mk (fun h29 => ?_) (fun h29 => ?_)
        · replace hr := cond_t h29 hr
          replace hr := Option.some.inj hr
          subst hr
          exact AtRet.gen ⟨[.obj (mapO .i64 (encM Od.gv g6))], [], []⟩ (StLe.gen 1 [] [] rfl rfl rfl rfl rfl rfl rfl) rfl rfl ⟨rfl, rfl⟩
        · replace hr := cond_f h29 hr
          obtain ⟨v30, h31, hr⟩ := bind_some hr
          refine (term_Moved_spec n v21.2 (IntKind.i64.wrap (((Tm.encL v12.1).length : Int) - v4)) ((Tm.encL v21.1).length : Int) a24 c24 _ h31).atR [7] rfl rfl rfl ?_
          rintro _ _ ⟨a32, c32, rfl, rfl⟩
          obtain ⟨v33, h34, hr⟩ := bind_some hr
          refine (term_Moved_spec n v12.2 ((Tm.encL v21.1).length : Int) 0 a15 c15 _ h34).atR [4] rfl rfl rfl ?_
          rintro _ _ ⟨a35, c35, rfl, rfl⟩
          obtain ⟨v36, h37, hr⟩ := bind_some hr
          refine (order_pair_spec n ((mget (er g6) v21.2.n).getD (Od.mk 0 0 ([]))) ((mget (er g6) v12.2.n).getD (Od.mk 0 0 ([]))) (Cmp.mk (IntKind.i64.wrap (((Tm.encL v12.1).length : Int) + ((Tm.encL v21.1).length : Int))) ((Tm.encL v21.1).length : Int)) v30.args v33.args a61 c61 a60 c60 a32 c32 a35 c35 _ h37).atR [9, 8, 10, 11] rfl rfl rfl ?_
          rintro _ _ ⟨rfl, rfl⟩
          replace hr := Option.some.inj hr
          subst hr
          exact AtRet.gen ⟨[.obj (mapO .i64 (encM Od.gv g6))], [], []⟩ (StLe.gen 1 [] [] rfl rfl rfl rfl rfl rfl rfl) rfl rfl ⟨rfl, rfl⟩
  ·
    refine ⟨OwnKeptBut.append, ?_⟩
    refine ⟨?_, ?_⟩
    ·
      refine at_lookupGE ttOK Od.gv Od.gk 3 Od.gp (Od.mk 0 0 ([])) _ 1 rfl Tryz.underlying3 Tryz.zeroValue27 rfl rfl (fun _ _ _ _ => rfl) (fun _ _ _ _ => rfl) rfl rfl rfl rfl ?_
      intro a62 c62
      refine ⟨fun _ _ h => h, ?_⟩
      refine ⟨?_, ?_⟩
      ·
        refine at_lookupGE ttOK Od.gv Od.gk 3 Od.gp (Od.mk 0 0 ([])) _ 1 rfl Tryz.underlying3 Tryz.zeroValue27 rfl rfl (fun _ _ _ _ => rfl) (fun _ _ _ _ => rfl) rfl rfl rfl rfl ?_
        intro a63 c63
        refine ⟨fun _ _ h => h, ?_⟩
        refine ⟨OwnKeptBut.append, ?_⟩
        refine ⟨fun _ _ h => h, ?_⟩
        refine (similar0 ((mget (er g6) v21.2.n).getD (Od.mk 0 0 ([]))) ((mget (er g6) v12.2.n).getD (Od.mk 0 0 ([]))) a62 c62 a63 c63).atR [8, 9] rfl rfl rfl ?_
        rintro _ _ ⟨rfl, rfl⟩
        refine AtIf.mk (fun h29 => ?_) (fun h29 => ?_)
        · replace hr := cond_t h29 hr
          replace hr := Option.some.inj hr
          subst hr
          exact AtRet.gen ⟨[.obj (mapO .i64 (encM Od.gv g6))], [], []⟩ (StLe.gen 1 [] [] rfl rfl rfl rfl rfl rfl rfl) rfl rfl ⟨rfl, rfl⟩
        · replace hr := cond_f h29 hr
          obtain ⟨v30, h31, hr⟩ := bind_some hr
          refine (term_Moved_spec n v21.2 (IntKind.i64.wrap (((Tm.encL v12.1).length : Int) - v4)) ((Tm.encL v21.1).length : Int) a24 c24 _ h31).atR [7] rfl rfl rfl ?_
          rintro _ _ ⟨a32, c32, rfl, rfl⟩
          obtain ⟨v33, h34, hr⟩ := bind_some hr
          refine (term_Moved_spec n v12.2 ((Tm.encL v21.1).length : Int) 0 a15 c15 _ h34).atR [4] rfl rfl rfl ?_
          rintro _ _ ⟨a35, c35, rfl, rfl⟩
          obtain ⟨v36, h37, hr⟩ := bind_some hr
          refine (order_pair_spec n ((mget (er g6) v21.2.n).getD (Od.mk 0 0 ([]))) ((mget (er g6) v12.2.n).getD (Od.mk 0 0 ([]))) (Cmp.mk (IntKind.i64.wrap (((Tm.encL v12.1).length : Int) + ((Tm.encL v21.1).length : Int))) ((Tm.encL v21.1).length : Int)) v30.args v33.args a62 c62 a63 c63 a32 c32 a35 c35 _ h37).atR [8, 9, 10, 11] rfl rfl rfl ?_
          rintro _ _ ⟨rfl, rfl⟩
          replace hr := Option.some.inj hr
          subst hr
          exact AtRet.gen ⟨[.obj (mapO .i64 (encM Od.gv g6))], [], []⟩ (StLe.gen 1 [] [] rfl rfl rfl rfl rfl rfl rfl) rfl rfl ⟨rfl, rfl⟩
      ·
        refine ⟨OwnKeptBut.append, ?_⟩
        refine ⟨?_, ?_⟩
        ·
          refine at_lookupGE ttOK Od.gv Od.gk 3 Od.gp (Od.mk 0 0 ([])) _ 1 rfl Tryz.underlying3 Tryz.zeroValue27 rfl rfl (fun _ _ _ _ => rfl) (fun _ _ _ _ => rfl) rfl rfl rfl rfl ?_
          intro a64 c64
          refine ⟨fun _ _ h => h, ?_⟩
          refine ⟨fun _ _ h => h, ?_⟩
          refine (similar0 ((mget (er g6) v21.2.n).getD (Od.mk 0 0 ([]))) ((mget (er g6) v12.2.n).getD (Od.mk 0 0 ([]))) a62 c62 a64 c64).atR [8, 9] rfl rfl rfl ?_
          rintro _ _ ⟨rfl, rfl⟩
          refine AtIf.mk (fun h29 => ?_) (fun h29 => ?_)
          · replace hr := cond_t h29 hr
            replace hr := Option.some.inj hr
            subst hr
            exact AtRet.gen ⟨[.obj (mapO .i64 (encM Od.gv g6))], [], []⟩ (StLe.gen 1 [] [] rfl rfl rfl rfl rfl rfl rfl) rfl rfl ⟨rfl, rfl⟩
          · replace hr := cond_f h29 hr
            obtain ⟨v30, h31, hr⟩ := bind_some hr
            refine (term_Moved_spec n v21.2 (IntKind.i64.wrap (((Tm.encL v12.1).length : Int) - v4)) ((Tm.encL v21.1).length : Int) a24 c24 _ h31).atR [7] rfl rfl rfl ?_
            rintro _ _ ⟨a32, c32, rfl, rfl⟩
            obtain ⟨v33, h34, hr⟩ := bind_some hr
            refine (term_Moved_spec n v12.2 ((Tm.encL v21.1).length : Int) 0 a15 c15 _ h34).atR [4] rfl rfl rfl ?_
            rintro _ _ ⟨a35, c35, rfl, rfl⟩
            obtain ⟨v36, h37, hr⟩ := bind_some hr
            refine (order_pair_spec n ((mget (er g6) v21.2.n).getD (Od.mk 0 0 ([]))) ((mget (er g6) v12.2.n).getD (Od.mk 0 0 ([]))) (Cmp.mk (IntKind.i64.wrap (((Tm.encL v12.1).length : Int) + ((Tm.encL v21.1).length : Int))) ((Tm.encL v21.1).length : Int)) v30.args v33.args a62 c62 a64 c64 a32 c32 a35 c35 _ h37).atR [8, 9, 10, 11] rfl rfl rfl ?_
            rintro _ _ ⟨rfl, rfl⟩
            replace hr := Option.some.inj hr
            subst hr
            exact AtRet.gen ⟨[.obj (mapO .i64 (encM Od.gv g6))], [], []⟩ (StLe.gen 1 [] [] rfl rfl rfl rfl rfl rfl rfl) rfl rfl ⟨rfl, rfl⟩
        ·
          refine ⟨fun _ _ h => h, ?_⟩
          refine at_lookupGE ttOK Od.gv Od.gk 3 Od.gp (Od.mk 0 0 ([])) _ 1 rfl Tryz.underlying3 Tryz.zeroValue27 rfl rfl (fun _ _ _ _ => rfl) (fun _ _ _ _ => rfl) rfl rfl rfl rfl ?_
          intro a65 c65
          refine ⟨fun _ _ h => h, ?_⟩
          refine (similar0 ((mget (er g6) v21.2.n).getD (Od.mk 0 0 ([]))) ((mget (er g6) v12.2.n).getD (Od.mk 0 0 ([]))) a62 c62 a65 c65).atR [8, 9] rfl rfl rfl ?_
          rintro _ _ ⟨rfl, rfl⟩
          refine AtIf.mk (fun h29 => ?_) (fun h29 => ?_)
          · replace hr := cond_t h29 hr
            replace hr := Option.some.inj hr
            subst hr
            exact AtRet.gen ⟨[.obj (mapO .i64 (encM Od.gv g6))], [], []⟩ (StLe.gen 1 [] [] rfl rfl rfl rfl rfl rfl rfl) rfl rfl ⟨rfl, rfl⟩
          · replace hr := cond_f h29 hr
            obtain ⟨v30, h31, hr⟩ := bind_some hr
            refine (term_Moved_spec n v21.2 (IntKind.i64.wrap (((Tm.encL v12.1).length : Int) - v4)) ((Tm.encL v21.1).length : Int) a24 c24 _ h31).atR [7] rfl rfl rfl ?_
            rintro _ _ ⟨a32, c32, rfl, rfl⟩
            obtain ⟨v33, h34, hr⟩ := bind_some hr
            refine (term_Moved_spec n v12.2 ((Tm.encL v21.1).length : Int) 0 a15 c15 _ h34).atR [4] rfl rfl rfl ?_
            rintro _ _ ⟨a35, c35, rfl, rfl⟩
            obtain ⟨v36, h37, hr⟩ := bind_some hr
            refine (order_pair_spec n ((mget (er g6) v21.2.n).getD (Od.mk 0 0 ([]))) ((mget (er g6) v12.2.n).getD (Od.mk 0 0 ([]))) (Cmp.mk (IntKind.i64.wrap (((Tm.encL v12.1).length : Int) + ((Tm.encL v21.1).length : Int))) ((Tm.encL v21.1).length : Int)) v30.args v33.args a62 c62 a65 c65 a32 c32 a35 c35 _ h37).atR [8, 9, 10, 11] rfl rfl rfl ?_
            rintro _ _ ⟨rfl, rfl⟩
            replace hr := Option.some.inj hr
            subst hr
            exact AtRet.gen ⟨[.obj (mapO .i64 (encM Od.gv g6))], [], []⟩ (StLe.gen 1 [] [] rfl rfl rfl rfl rfl rfl rfl) rfl rfl ⟨rfl, rfl⟩
    refine ⟨?_, ?_⟩
    ·
      refine at_lookupGE ttOK Od.gv Od.gk 3 Od.gp (Od.mk 0 0 ([])) _ 1 rfl Tryz.underlying3 Tryz.zeroValue27 rfl rfl (fun _ _ _ _ => rfl) (fun _ _ _ _ => rfl) rfl rfl rfl rfl ?_
      intro a66 c66
      refine ⟨fun _ _ h => h, ?_⟩
      refine ⟨?_, ?_⟩
      ·
        refine at_lookupGE ttOK Od.gv Od.gk 3 Od.gp (Od.mk 0 0 ([])) _ 1 rfl Tryz.underlying3 Tryz.zeroValue27 rfl rfl (fun _ _ _ _ => rfl) (fun _ _ _ _ => rfl) rfl rfl rfl rfl ?_
        intro a67 c67
        refine ⟨fun _ _ h => h, ?_⟩
        refine ⟨OwnKeptBut.append, ?_⟩
        refine ⟨fun _ _ h => h, ?_⟩
        refine (similar0 ((mget (er g6) v21.2.n).getD (Od.mk 0 0 ([]))) ((mget (er g6) v12.2.n).getD (Od.mk 0 0 ([]))) a67 c67 a66 c66).atR [9, 8] rfl rfl rfl ?_
        rintro _ _ ⟨rfl, rfl⟩
        refine AtIf.mk (fun h29 => ?_) (fun h29 => ?_)
        · replace hr := cond_t h29 hr
          replace hr := Option.some.inj hr
          subst hr
          exact AtRet.gen ⟨[.obj (mapO .i64 (encM Od.gv g6))], [], []⟩ (StLe.gen 1 [] [] rfl rfl rfl rfl rfl rfl rfl) rfl rfl ⟨rfl, rfl⟩
        · replace hr := cond_f h29 hr
          obtain ⟨v30, h31, hr⟩ := bind_some hr
          refine (term_Moved_spec n v21.2 (IntKind.i64.wrap (((Tm.encL v12.1).length : Int) - v4)) ((Tm.encL v21.1).length : Int) a24 c24 _ h31).atR [7] rfl rfl rfl ?_
          rintro _ _ ⟨a32, c32, rfl, rfl⟩
          obtain ⟨v33, h34, hr⟩ := bind_some hr
          refine (term_Moved_spec n v12.2 ((Tm.encL v21.1).length : Int) 0 a15 c15 _ h34).atR [4] rfl rfl rfl ?_
          rintro _ _ ⟨a35, c35, rfl, rfl⟩
          obtain ⟨v36, h37, hr⟩ := bind_some hr
          refine (order_pair_spec n ((mget (er g6) v21.2.n).getD (Od.mk 0 0 ([]))) ((mget (er g6) v12.2.n).getD (Od.mk 0 0 ([]))) (Cmp.mk (IntKind.i64.wrap (((Tm.encL v12.1).length : Int) + ((Tm.encL v21.1).length : Int))) ((Tm.encL v21.1).length : Int)) v30.args v33.args a67 c67 a66 c66 a32 c32 a35 c35 _ h37).atR [9, 8, 10, 11] rfl rfl rfl ?_
          rintro _ _ ⟨rfl, rfl⟩
          replace hr := Option.some.inj hr
          subst hr
          exact AtRet.gen ⟨[.obj (mapO .i64 (encM Od.gv g6))], [], []⟩ (StLe.gen 1 [] [] rfl rfl rfl rfl rfl rfl rfl) rfl rfl ⟨rfl, rfl⟩
      ·
        refine ⟨OwnKeptBut.append, ?_⟩
        refine at_lookupGE ttOK Od.gv Od.gk 3 Od.gp (Od.mk 0 0 ([])) _ 1 rfl Tryz.underlying3 Tryz.zeroValue27 rfl rfl (fun _ _ _ _ => rfl) (fun _ _ _ _ => rfl) rfl rfl rfl rfl ?_
        intro a68 c68
        refine ⟨fun _ _ h => h, ?_⟩
        refine ⟨fun _ _ h => h, ?_⟩
        refine (similar0 ((mget (er g6) v21.2.n).getD (Od.mk 0 0 ([]))) ((mget (er g6) v12.2.n).getD (Od.mk 0 0 ([]))) a68 c68 a66 c66).atR [9, 8] rfl rfl rfl ?_
        rintro _ _ ⟨rfl, rfl⟩
        refine AtIf.mk (fun h29 => ?_) (fun h29 => ?_)
        · replace hr := cond_t h29 hr
          replace hr := Option.some.inj hr
          subst hr
          exact AtRet.gen ⟨[.obj (mapO .i64 (encM Od.gv g6))], [], []⟩ (StLe.gen 1 [] [] rfl rfl rfl rfl rfl rfl rfl) rfl rfl ⟨rfl, rfl⟩
        · replace hr := cond_f h29 hr
          obtain ⟨v30, h31, hr⟩ := bind_some hr
          refine (term_Moved_spec n v21.2 (IntKind.i64.wrap (((Tm.encL v12.1).length : Int) - v4)) ((Tm.encL v21.1).length : Int) a24 c24 _ h31).atR [7] rfl rfl rfl ?_
          rintro _ _ ⟨a32, c32, rfl, rfl⟩
          obtain ⟨v33, h34, hr⟩ := bind_some hr
          refine (term_Moved_spec n v12.2 ((Tm.encL v21.1).length : Int) 0 a15 c15 _ h34).atR [4] rfl rfl rfl ?_
          rintro _ _ ⟨a35, c35, rfl, rfl⟩
          obtain ⟨v36, h37, hr⟩ := bind_some hr
          refine (order_pair_spec n ((mget (er g6) v21.2.n).getD (Od.mk 0 0 ([]))) ((mget (er g6) v12.2.n).getD (Od.mk 0 0 ([]))) (Cmp.mk (IntKind.i64.wrap (((Tm.encL v12.1).length : Int) + ((Tm.encL v21.1).length : Int))) ((Tm.encL v21.1).length : Int)) v30.args v33.args a68 c68 a66 c66 a32 c32 a35 c35 _ h37).atR [9, 8, 10, 11] rfl rfl rfl ?_
          rintro _ _ ⟨rfl, rfl⟩
          replace hr := Option.some.inj hr
          subst hr
          exact AtRet.gen ⟨[.obj (mapO .i64 (encM Od.gv g6))], [], []⟩ (StLe.gen 1 [] [] rfl rfl rfl rfl rfl rfl rfl) rfl rfl ⟨rfl, rfl⟩
    ·
      refine ⟨OwnKeptBut.append, ?_⟩
      refine ⟨?_, ?_⟩
      ·
        refine at_lookupGE ttOK Od.gv Od.gk 3 Od.gp (Od.mk 0 0 ([])) _ 1 rfl Tryz.underlying3 Tryz.zeroValue27 rfl rfl (fun _ _ _ _ => rfl) (fun _ _ _ _ => rfl) rfl rfl rfl rfl ?_
        intro a69 c69
        refine ⟨fun _ _ h => h, ?_⟩
        refine ⟨?_, ?_⟩
        ·
          refine at_lookupGE ttOK Od.gv Od.gk 3 Od.gp (Od.mk 0 0 ([])) _ 1 rfl Tryz.underlying3 Tryz.zeroValue27 rfl rfl (fun _ _ _ _ => rfl) (fun _ _ _ _ => rfl) rfl rfl rfl rfl ?_
          intro a70 c70
          refine ⟨fun _ _ h => h, ?_⟩
          refine ⟨fun _ _ h => h, ?_⟩
          refine (similar0 ((mget (er g6) v21.2.n).getD (Od.mk 0 0 ([]))) ((mget (er g6) v12.2.n).getD (Od.mk 0 0 ([]))) a69 c69 a70 c70).atR [8, 9] rfl rfl rfl ?_
          rintro _ _ ⟨rfl, rfl⟩
          refine AtIf.mk (fun h29 => ?_) (fun h29 => ?_)
          · replace hr := cond_t h29 hr
            replace hr := Option.some.inj hr
            subst hr
            exact AtRet.gen ⟨[.obj (mapO .i64 (encM Od.gv g6))], [], []⟩ (StLe.gen 1 [] [] rfl rfl rfl rfl rfl rfl rfl) rfl rfl ⟨rfl, rfl⟩
          · replace hr := cond_f h29 hr
            obtain ⟨v30, h31, hr⟩ := bind_some hr
            refine (term_Moved_spec n v21.2 (IntKind.i64.wrap (((Tm.encL v12.1).length : Int) - v4)) ((Tm.encL v21.1).length : Int) a24 c24 _ h31).atR [7] rfl rfl rfl ?_
            rintro _ _ ⟨a32, c32, rfl, rfl⟩
            obtain ⟨v33, h34, hr⟩ := bind_some hr
            refine (term_Moved_spec n v12.2 ((Tm.encL v21.1).length : Int) 0 a15 c15 _ h34).atR [4] rfl rfl rfl ?_
            rintro _ _ ⟨a35, c35, rfl, rfl⟩
            obtain ⟨v36, h37, hr⟩ := bind_some hr
            refine (order_pair_spec n ((mget (er g6) v21.2.n).getD (Od.mk 0 0 ([]))) ((mget (er g6) v12.2.n).getD (Od.mk 0 0 ([]))) (Cmp.mk (IntKind.i64.wrap (((Tm.encL v12.1).length : Int) + ((Tm.encL v21.1).length : Int))) ((Tm.encL v21.1).length : Int)) v30.args v33.args a69 c69 a70 c70 a32 c32 a35 c35 _ h37).atR [8, 9, 10, 11] rfl rfl rfl ?_
            rintro _ _ ⟨rfl, rfl⟩
            replace hr := Option.some.inj hr
            subst hr
            exact AtRet.gen ⟨[.obj (mapO .i64 (encM Od.gv g6))], [], []⟩ (StLe.gen 1 [] [] rfl rfl rfl rfl rfl rfl rfl) rfl rfl ⟨rfl, rfl⟩
        ·
          refine ⟨fun _ _ h => h, ?_⟩
          refine at_lookupGE ttOK Od.gv Od.gk 3 Od.gp (Od.mk 0 0 ([])) _ 1 rfl Tryz.underlying3 Tryz.zeroValue27 rfl rfl (fun _ _ _ _ => rfl) (fun _ _ _ _ => rfl) rfl rfl rfl rfl ?_
          intro a71 c71
          refine ⟨fun _ _ h => h, ?_⟩
          refine (similar0 ((mget (er g6) v21.2.n).getD (Od.mk 0 0 ([]))) ((mget (er g6) v12.2.n).getD (Od.mk 0 0 ([]))) a69 c69 a71 c71).atR [8, 9] rfl rfl rfl ?_
          rintro _ _ ⟨rfl, rfl⟩
          refine AtIf.mk (fun h29 => ?_) (fun h29 => ?_)
          · replace hr := cond_t h29 hr
            replace hr := Option.some.inj hr
            subst hr
            exact AtRet.gen ⟨[.obj (mapO .i64 (encM Od.gv g6))], [], []⟩ (StLe.gen 1 [] [] rfl rfl rfl rfl rfl rfl rfl) rfl rfl ⟨rfl, rfl⟩
          · replace hr := cond_f h29 hr
            obtain ⟨v30, h31, hr⟩ := bind_some hr
            refine (term_Moved_spec n v21.2 (IntKind.i64.wrap (((Tm.encL v12.1).length : Int) - v4)) ((Tm.encL v21.1).length : Int) a24 c24 _ h31).atR [7] rfl rfl rfl ?_
            rintro _ _ ⟨a32, c32, rfl, rfl⟩
            obtain ⟨v33, h34, hr⟩ := bind_some hr
            refine (term_Moved_spec n v12.2 ((Tm.encL v21.1).length : Int) 0 a15 c15 _ h34).atR [4] rfl rfl rfl ?_
            rintro _ _ ⟨a35, c35, rfl, rfl⟩
            obtain ⟨v36, h37, hr⟩ := bind_some hr
            refine (order_pair_spec n ((mget (er g6) v21.2.n).getD (Od.mk 0 0 ([]))) ((mget (er g6) v12.2.n).getD (Od.mk 0 0 ([]))) (Cmp.mk (IntKind.i64.wrap (((Tm.encL v12.1).length : Int) + ((Tm.encL v21.1).length : Int))) ((Tm.encL v21.1).length : Int)) v30.args v33.args a69 c69 a71 c71 a32 c32 a35 c35 _ h37).atR [8, 9, 10, 11] rfl rfl rfl ?_
            rintro _ _ ⟨rfl, rfl⟩
            replace hr := Option.some.inj hr
            subst hr
            exact AtRet.gen ⟨[.obj (mapO .i64 (encM Od.gv g6))], [], []⟩ (StLe.gen 1 [] [] rfl rfl rfl rfl rfl rfl rfl) rfl rfl ⟨rfl, rfl⟩
      ·
        refine at_lookupGE ttOK Od.gv Od.gk 3 Od.gp (Od.mk 0 0 ([])) _ 1 rfl Tryz.underlying3 Tryz.zeroValue27 rfl rfl (fun _ _ _ _ => rfl) (fun _ _ _ _ => rfl) rfl rfl rfl rfl ?_
        intro a72 c72
        refine ⟨fun _ _ h => h, ?_⟩
        refine at_lookupGE ttOK Od.gv Od.gk 3 Od.gp (Od.mk 0 0 ([])) _ 1 rfl Tryz.underlying3 Tryz.zeroValue27 rfl rfl (fun _ _ _ _ => rfl) (fun _ _ _ _ => rfl) rfl rfl rfl rfl ?_
        intro a73 c73
        refine ⟨fun _ _ h => h, ?_⟩
        refine ⟨fun _ _ h => h, ?_⟩
        refine (similar0 ((mget (er g6) v21.2.n).getD (Od.mk 0 0 ([]))) ((mget (er g6) v12.2.n).getD (Od.mk 0 0 ([]))) a73 c73 a72 c72).atR [9, 8] rfl rfl rfl ?_
        rintro _ _ ⟨rfl, rfl⟩
        refine AtIf.mk (fun h29 => ?_) (fun h29 => ?_)
        · replace hr := cond_t h29 hr
          replace hr := Option.some.inj hr
          subst hr
          exact AtRet.gen ⟨[.obj (mapO .i64 (encM Od.gv g6))], [], []⟩ (StLe.gen 1 [] [] rfl rfl rfl rfl rfl rfl rfl) rfl rfl ⟨rfl, rfl⟩
        · replace hr := cond_f h29 hr
          obtain ⟨v30, h31, hr⟩ := bind_some hr
          refine (term_Moved_spec n v21.2 (IntKind.i64.wrap (((Tm.encL v12.1).length : Int) - v4)) ((Tm.encL v21.1).length : Int) a24 c24 _ h31).atR [7] rfl rfl rfl ?_
          rintro _ _ ⟨a32, c32, rfl, rfl⟩
          obtain ⟨v33, h34, hr⟩ := bind_some hr
          refine (term_Moved_spec n v12.2 ((Tm.encL v21.1).length : Int) 0 a15 c15 _ h34).atR [4] rfl rfl rfl ?_
          rintro _ _ ⟨a35, c35, rfl, rfl⟩
          obtain ⟨v36, h37, hr⟩ := bind_some hr
          refine (order_pair_spec n ((mget (er g6) v21.2.n).getD (Od.mk 0 0 ([]))) ((mget (er g6) v12.2.n).getD (Od.mk 0 0 ([]))) (Cmp.mk (IntKind.i64.wrap (((Tm.encL v12.1).length : Int) + ((Tm.encL v21.1).length : Int))) ((Tm.encL v21.1).length : Int)) v30.args v33.args a73 c73 a72 c72 a32 c32 a35 c35 _ h37).atR [9, 8, 10, 11] rfl rfl rfl ?_
          rintro _ _ ⟨rfl, rfl⟩
          replace hr := Option.some.inj hr
          subst hr
          exact AtRet.gen ⟨[.obj (mapO .i64 (encM Od.gv g6))], [], []⟩ (StLe.gen 1 [] [] rfl rfl rfl rfl rfl rfl rfl) rfl rfl ⟨rfl, rfl⟩
mutual
def order_check : Nat → (List Dc) → Int → (List (Int × Od)) → Option (Int × Int)
  | 0, _, _, _ => none
  | n + 1, v1, v3, v4 =>
    (idx v1 v3).bind (fun v6 =>
    (term_Domains n v6.cls).bind (fun v11 =>
    (order_calls n v1 v3 v4).bind (fun v15 =>
    order_check_L1 n v15 v4 v11 v1 v3 (IntKind.i64.wrap (((List.map (D.int .i64) v15).length : Int) - 1)))))
def order_check_L1 : Nat → (List Int) → (List (Int × Od)) → ((List Tm) × Tm) → (List Dc) → Int → Int → Option (Int × Int)
  | 0, _, _, _, _, _, _ => none
  | n + 1, v15, v4, v11, v1, v3, v28 =>
    cond (decide (v28 ≥ 0)) (
    (idx v15 v28).bind (fun v30 =>
    cond (!((mget v4 v11.2.n).isSome)) (
    some (v30, 32)) (
    (order_smaller n v1 v3 v30 v4).bind (fun v36 =>
    cond (!v36) (
    some (v30, 32)) (
    order_check_L1 n v15 v4 v11 v1 v3 (IntKind.i64.wrap (v28 - 1))))))) (
    some (0, 0))
 end
theorem order_check_spec (n : Nat) (v1 : (List Dc)) (v3 : Int) (g5 : (List (Int × GE Od))) (a2 : Option Addr) (c2 : Nat) (r : Int × Int) (hr : order_check n v1 v3 (er g5) = some r) : Meets Tryz.prog (.val (.fn (.func 24) [] [])) [(.v (.slice a2 ((Dc.encL v1).length) c2)), (.mp 0), (.v (.int .i64 v3))] ⟨[.obj (mapO .i64 (encM Od.gv g5))], [], [(.slice a2 ((Dc.encL v1).length) c2, .sl 6 (Dc.encL v1)), (agV 3 Od.gp g5, agD 3 Od.gp g5)]⟩ (fun o S' => o = .ret (.tup [(.v (.int .i64 r.1)), (.v (.int .i64 r.2))]) ∧ S' = ⟨[.obj (mapO .i64 (encM Od.gv g5))], [], []⟩) := by
  rcases n with _ | n
  · exact no_some hr
  rw [order_check.eq_2] at hr
  refine spec_of_body (N := 48) (m := 1) (dt := fun _ => none) [] ttOK Tryz.func24 rfl Tryz.call24 Tryz.ntmps24 rfl rfl rfl mixed (by kernel_rfl) ?_
  obtain ⟨v6, h7, hr⟩ := bind_some hr
  obtain ⟨h8, h9⟩ := idx_some h7
  refine at_index ttOK 0 rfl rfl rfl rfl h8 (Dc.encL_get h9) ?_
  intro a10 c10 _ _
  obtain ⟨v11, h12, hr⟩ := bind_some hr
  refine (term_Domains_spec n v6.cls a10 c10 _ h12).atR [2] rfl rfl rfl ?_
  rintro _ _ ⟨a13, c13, a14, c14, rfl, rfl⟩
  obtain ⟨v15, h16, hr⟩ := bind_some hr
  refine (order_calls_spec n v1 v3 g5 a2 c2 _ h16).frameR [0] [0, 1] rfl rfl rfl rfl rfl rfl rfl rfl ?_
  rintro _ _ ⟨a17, c17, rfl, rfl⟩
  refine ⟨rfl, rfl, [.obj (mapO .i64 (encM Od.gv g5))], rfl, ?_⟩
  refine spec_of_body (N := 4) (m := 8) (dt := fun _ => none) [] ttOK Tryz.func45 rfl Tryz.call45 Tryz.ntmps45 rfl rfl rfl mixed (by kernel_rfl) ?_
  refine AtRet.gen _ (StLe.refl _) rfl rfl ?_
  refine AtRange.mk ⟨[(3, (.loc 1 0)), (4, (.loc 2 0)), (5, (.loc 3 0)), (6, (.loc 4 0)), (7, (.loc 5 0)), (9, (.loc 7 0))], ⟨rfl, rfl, rfl, rfl, rfl, rfl, trivial⟩, rfl, rfl, ⟨_, _, _, rfl, Tryz.call73⟩, ?_⟩
  refine spec_of_body (N := 19) (m := 10) (dt := fun _ => none) [] ttOK Tryz.func73 rfl Tryz.call73 Tryz.ntmps73 rfl rfl rfl mixed (by kernel_rfl) ?_
  refine AtLoop.mk ⟨Nat × Int, fun x => [(0, (.yld 9)), (1, (.loc 8 0)), (3, (.v (.int .i64 x.2))), (6, (.v (.int .i64 (IntKind.i64.wrap (((List.map (D.int .i64) v15).length : Int) - 1)))))], fun x => ⟨[.obj (mapO .i64 (encM Od.gv g5)), .cells 22 [(.v (.slice a2 ((Dc.encL v1).length) c2))], .cells 55 [(.mp 0)], .cells 3 [(.v (.int .i64 v3))], .cells 3 [(.v (.int .i64 0))], .cells 32 [(.v (.int .i64 0))], .imm [(.v (.string v6.name)), (.v (.int .i64 v6.cls.op)), (.v (.int .i64 v6.cls.hd)), (.v (.int .i64 v6.cls.n)), (.v (.slice a10 ((Tm.encL v6.cls.args).length) c10)), (.v (.int .i64 v6.implicit))], .cells 51 [(.v (.int .i64 v11.2.op)), (.v (.int .i64 v11.2.hd)), (.v (.int .i64 v11.2.n)), (.v (.slice a14 ((Tm.encL v11.2.args).length) c14))], .cells 31 [(.v (.slice a17 ((List.map (D.int .i64) v15).length) c17))], .lp ⟨48, [(3, (.loc 1 0)), (4, (.loc 2 0)), (5, (.loc 3 0)), (6, (.loc 4 0)), (7, (.loc 5 0)), (9, (.loc 7 0))], #[28, 29], rfAs Tryz.f24, rfBody Tryz.f24, .ready, none⟩], [], [(.slice a2 ((Dc.encL v1).length) c2, .sl 6 (Dc.encL v1)), (agV 3 Od.gp g5, agD 3 Od.gp g5), (.slice a10 ((Tm.encL v6.cls.args).length) c10, .sl 4 (Tm.encL v6.cls.args)), (.slice a13 ((Tm.encL v11.1).length) c13, .sl 4 (Tm.encL v11.1)), (.slice a14 ((Tm.encL v11.2.args).length) c14, .sl 4 (Tm.encL v11.2.args)), (.slice a17 ((List.map (D.int .i64) v15).length) c17, .sl 1 (List.map (D.int .i64) v15))]⟩, fun x => order_check_L1 x.1 v15 (er g5) v11 v1 v3 x.2 = some r, fun x => x.1, (n, (IntKind.i64.wrap (((List.map (D.int .i64) v15).length : Int) - 1))), hr, ⟨rfl, rfl, rfl, rfl, trivial⟩, (StLe.gen 10 [] [.old 0, .old 1, .old 2, .old 3, .old 4, .old 5] rfl rfl rfl rfl rfl rfl rfl), fun x _ => ⟨rfl, rfl⟩, ?_⟩
  rintro ⟨n, v28⟩ HH
  have hr : order_check_L1 n v15 (er g5) v11 v1 v3 v28 = some r := HH
  rcases n with _ | n
  · exact no_some hr
  rw [order_check_L1.eq_2] at hr
  refine AtIf.mk (fun h29 => ?_) (fun h29 => ?_)
  · replace hr := cond_t h29 hr
    obtain ⟨v30, h31, hr⟩ := bind_some hr
    obtain ⟨h32, h33⟩ := idx_some h31
    refine at_index ttOK 5 rfl rfl rfl rfl h32 (map_get (D.int .i64) h33) ?_
    refine spec_of_round (N := 48) (m := 11) (dt := fun _ => none) [] ttOK rfl rfl rfl rfl rfl rfl mixed (by kernel_rfl) (by kernel_rfl) ?_
    refine at_lookupGE ttOK Od.gv Od.gk 3 Od.gp (Od.mk 0 0 ([])) _ 1 rfl Tryz.underlying3 Tryz.zeroValue27 rfl rfl (fun _ _ _ _ => rfl) (fun _ _ _ _ => rfl) rfl rfl rfl rfl ?_
    intro a34 c34
    refine AtGuard.mk (fun h35 => ?_) (fun h35 => ?_)
    · replace hr := cond_f h35 hr
      obtain ⟨v36, h37, hr⟩ := bind_some hr
      refine (order_smaller_spec n v1 v3 v30 g5 a2 c2 _ h37).frameR [0] [0, 1] rfl rfl rfl rfl rfl rfl rfl rfl ?_
      rintro _ _ ⟨rfl, rfl⟩
      refine ⟨rfl, rfl, [.obj (mapO .i64 (encM Od.gv g5))], rfl, ?_⟩
      refine AtIf.mk (fun h38 => ?_) (fun h38 => ?_)
      · replace hr := cond_t h38 hr
        refine AtRet.gen _ (StLe.refl _) rfl rfl ?_
        refine AtIf.mk (fun _ => ?_) (fun h => tf h)
        refine AtRet.gen _ (StLe.refl _) rfl rfl ?_
        replace hr := Option.some.inj hr
        subst hr
        exact AtRet.gen ⟨[.obj (mapO .i64 (encM Od.gv g5))], [], []⟩ (StLe.gen 1 [] [] rfl rfl rfl rfl rfl rfl rfl) rfl rfl ⟨rfl, rfl⟩
      · replace hr := cond_f h38 hr
        refine AtRet.gen _ (StLe.refl _) rfl rfl ?_
        refine AtIf.mk (fun h => ff h) (fun _ => ?_)
        exact ⟨(n, (IntKind.i64.wrap (v28 - 1))), hr, Nat.lt_succ_self _, ⟨rfl, rfl, rfl, rfl, trivial⟩, (StLe.gen 10 [] [.old 0, .old 1, .old 2, .old 3, .old 4, .old 5] rfl rfl rfl rfl rfl rfl rfl)⟩
    · replace hr := cond_t h35 hr
      refine AtIf.mk (fun _ => ?_) (fun h => tf h)
      refine AtRet.gen _ (StLe.refl _) rfl rfl ?_
      refine AtIf.mk (fun _ => ?_) (fun h => tf h)
      refine AtRet.gen _ (StLe.refl _) rfl rfl ?_
      replace hr := Option.some.inj hr
      subst hr
      exact AtRet.gen ⟨[.obj (mapO .i64 (encM Od.gv g5))], [], []⟩ (StLe.gen 1 [] [] rfl rfl rfl rfl rfl rfl rfl) rfl rfl ⟨rfl, rfl⟩
  · replace hr := cond_f h29 hr
    refine AtRet.gen _ (StLe.refl _) rfl rfl ?_
    replace hr := Option.some.inj hr
    subst hr
    exact AtRet.gen ⟨[.obj (mapO .i64 (encM Od.gv g5))], [], []⟩ (StLe.gen 1 [] [] rfl rfl rfl rfl rfl rfl rfl) rfl rfl ⟨rfl, rfl⟩
mutual
def W15_many : Nat → Od → Int → Option (Int)
  | 0, _, _ => none
  | n + 1, v1, v3 =>
    cond (decide (v3 > 30)) (
    some (1000)) (
    W15_many_L1 n v1 v3 1 0)
def W15_many_L1 : Nat → Od → Int → Int → Int → Option (Int)
  | 0, _, _, _, _ => none
  | n + 1, v1, v3, v13, v14 =>
    cond ((decide (v14 < ((Od.encL v1.parts).length : Int))) && (decide (v13 ≤ 400))) (
    (idx v1.parts v14).bind (fun v16 =>
    (W15_many n v16 (IntKind.i64.wrap (v3 + 1))).bind (fun v21 =>
    W15_many_L1 n v1 v3 (IntKind.i64.wrap (v13 + v21)) (IntKind.i64.wrap (v14 + 1))))) (
    some (v13))
 end
theorem W15_many_specN : ∀ (N : Nat), (∀ (n : Nat), n ≤ N → ∀ (v1 : Od) (v3 : Int) (a2 : Option Addr) (c2 : Nat) (r : Int), W15_many n v1 v3 = some r → Pure Tryz.prog (.val (.fn (.func 18) [] [])) [(.agg [(.v (.int .i64 v1.op)), (.v (.int .i64 v1.n)), (.v (.slice a2 ((Od.encL v1.parts).length) c2))]), (.v (.int .i64 v3))] [(.slice a2 ((Od.encL v1.parts).length) c2, .sl 3 (Od.encL v1.parts))] (fun r' out => r' = (.v (.int .i64 r)) ∧ out = [])) := by
  intro N
  induction N with
  | zero =>
    intro n hn v1 v3 a2 c2 r hr; obtain rfl : n = 0 := (by omega); exact no_some hr
  | succ N ih =>
    intro n hn v1 v3 a2 c2 r hr
    rcases n with _ | n
    · exact no_some hr
    replace hn : n ≤ N := by omega
    rw [W15_many.eq_2] at hr
    refine spec_of_body (N := 31) (m := 0) (dt := fun _ => none) [] ttOK Tryz.func18 rfl Tryz.call18 Tryz.ntmps18 rfl rfl rfl mixed (by kernel_rfl) ?_
    refine AtIf.mk (fun h4 => ?_) (fun h4 => ?_)
    · replace hr := cond_t h4 hr
      replace hr := Option.some.inj hr
      subst hr
      exact AtRet.pureG [] [] rfl rfl ⟨rfl, rfl⟩
    · replace hr := cond_f h4 hr
      refine AtLoop.mk ⟨Nat × Int × Int, fun x => [(1, (.v (.int .i64 v3))), (2, (.loc 0 0)), (5, (.v (.int .i64 x.2.1))), (6, (.v (.int .i64 x.2.2)))], fun x => ⟨[.cells 27 [(.v (.int .i64 v1.op)), (.v (.int .i64 v1.n)), (.v (.slice a2 ((Od.encL v1.parts).length) c2))]], [], [(.slice a2 ((Od.encL v1.parts).length) c2, .sl 3 (Od.encL v1.parts))]⟩, fun x => x.1 ≤ N ∧ W15_many_L1 x.1 v1 v3 x.2.1 x.2.2 = some r, fun x => x.1, (n, 1, 0), ⟨by omega, hr⟩, ⟨rfl, rfl, rfl, rfl, trivial⟩, (StLe.gen 1 [] [.old 0] rfl rfl rfl rfl rfl rfl rfl), fun x _ => ⟨rfl, rfl⟩, ?_⟩
      rintro ⟨n, v13, v14⟩ HH
      obtain ⟨hn, hr⟩ : n ≤ N ∧ W15_many_L1 n v1 v3 v13 v14 = some r := HH
      rcases n with _ | n
      · exact no_some hr
      rw [W15_many_L1.eq_2] at hr
      refine AtIf.mk (fun h15 => ?_) (fun h15 => ?_)
      · replace hr := cond_t h15 hr
        obtain ⟨v16, h17, hr⟩ := bind_some hr
        obtain ⟨h18, h19⟩ := idx_some h17
        refine at_index ttOK 0 rfl rfl rfl rfl h18 (Od.encL_get h19) ?_
        intro a20 c20 _ _
        obtain ⟨v21, h22, hr⟩ := bind_some hr
        refine (ih n (by omega) v16 (IntKind.i64.wrap (v3 + 1)) a20 c20 _ h22).atR [1] rfl rfl rfl ?_
        rintro _ _ ⟨rfl, rfl⟩
        exact ⟨(n, (IntKind.i64.wrap (v13 + v21)), (IntKind.i64.wrap (v14 + 1))), ⟨by omega, hr⟩, Nat.lt_succ_self _, ⟨rfl, rfl, rfl, rfl, trivial⟩, (StLe.gen 1 [] [.old 0] rfl rfl rfl rfl rfl rfl rfl)⟩
      · replace hr := cond_f h15 hr
        replace hr := Option.some.inj hr
        subst hr
        exact AtRet.pureG [] [] rfl rfl ⟨rfl, rfl⟩
theorem W15_many_spec (n : Nat) (v1 : Od) (v3 : Int) (a2 : Option Addr) (c2 : Nat) (r : Int) (hr : W15_many n v1 v3 = some r) : Pure Tryz.prog (.val (.fn (.func 18) [] [])) [(.agg [(.v (.int .i64 v1.op)), (.v (.int .i64 v1.n)), (.v (.slice a2 ((Od.encL v1.parts).length) c2))]), (.v (.int .i64 v3))] [(.slice a2 ((Od.encL v1.parts).length) c2, .sl 3 (Od.encL v1.parts))] (fun r' out => r' = (.v (.int .i64 r)) ∧ out = []) := (W15_many_specN n) n (Nat.le_refl _) v1 v3 a2 c2 r hr
def W15_small : Nat → Od → Option (Bool)
  | 0, _ => none
  | n + 1, v1 =>
    (W15_many n v1 0).bind (fun v3 =>
    some ((decide (v3 ≤ 400))))
theorem W15_small_spec (n : Nat) (v1 : Od) (a2 : Option Addr) (c2 : Nat) (r : Bool) (hr : W15_small n v1 = some r) : Pure Tryz.prog (.val (.fn (.func 4) [] [])) [(.agg [(.v (.int .i64 v1.op)), (.v (.int .i64 v1.n)), (.v (.slice a2 ((Od.encL v1.parts).length) c2))])] [(.slice a2 ((Od.encL v1.parts).length) c2, .sl 3 (Od.encL v1.parts))] (fun r' out => r' = (.v (.bool r)) ∧ out = []) := by
  rcases n with _ | n
  · exact no_some hr
  rw [W15_small.eq_2] at hr
  refine spec_of_body (N := 6) (m := 0) (dt := fun _ => none) [] ttOK Tryz.func4 rfl Tryz.call4 Tryz.ntmps4 rfl rfl rfl mixed (by kernel_rfl) ?_
  obtain ⟨v3, h4, hr⟩ := bind_some hr
  refine (W15_many_spec n v1 0 a2 c2 _ h4).atR [0] rfl rfl rfl ?_
  rintro _ _ ⟨rfl, rfl⟩
  replace hr := Option.some.inj hr
  subst hr
  exact AtRet.pureG [] [] rfl rfl ⟨rfl, rfl⟩
mutual
def W15_ints : Nat → (List Int) → (List Int) → Option (Bool)
  | 0, _, _ => none
  | n + 1, v1, v3 =>
    cond (((List.map (D.int .i64) v1).length : Int) != ((List.map (D.int .i64) v3).length : Int)) (
    some (false)) (
    W15_ints_L1 n v1 v3 0)
def W15_ints_L1 : Nat → (List Int) → (List Int) → Int → Option (Bool)
  | 0, _, _, _ => none
  | n + 1, v1, v3, v16 =>
    cond (decide (v16 < ((List.map (D.int .i64) v1).length : Int))) (
    (idx v1 v16).bind (fun v18 =>
    (idx v3 v16).bind (fun v22 =>
    cond (v18 != v22) (
    some (false)) (
    W15_ints_L1 n v1 v3 (IntKind.i64.wrap (v16 + 1)))))) (
    some (true))
 end
theorem W15_ints_spec (n : Nat) (v1 : (List Int)) (v3 : (List Int)) (a2 : Option Addr) (c2 : Nat) (a4 : Option Addr) (c4 : Nat) (r : Bool) (hr : W15_ints n v1 v3 = some r) : Pure Tryz.prog (.val (.fn (.func 16) [] [])) [(.v (.slice a2 ((List.map (D.int .i64) v1).length) c2)), (.v (.slice a4 ((List.map (D.int .i64) v3).length) c4))] [(.slice a2 ((List.map (D.int .i64) v1).length) c2, .sl 1 (List.map (D.int .i64) v1)), (.slice a4 ((List.map (D.int .i64) v3).length) c4, .sl 1 (List.map (D.int .i64) v3))] (fun r' out => r' = (.v (.bool r)) ∧ out = []) := by
  rcases n with _ | n
  · exact no_some hr
  rw [W15_ints.eq_2] at hr
  refine spec_of_body (N := 26) (m := 0) (dt := drawsOf [(6, .leaf [0, 1, 2, 3, 4, 5, 6, 7, 8], [], [])]) [] ttOK Tryz.func16 rfl Tryz.call16 Tryz.ntmps16 rfl rfl rfl mixed (by kernel_rfl) ?_
  refine AtIf.mk (fun h5 => ?_) (fun h5 => ?_)
  · replace hr := cond_t h5 hr
    replace hr := Option.some.inj hr
    subst hr
    exact AtRet.pureG [] [] rfl rfl ⟨rfl, rfl⟩
  · replace hr := cond_f h5 hr
    refine AtLoop.mk ⟨Nat × Int, fun x => [(0, (.v (.slice a2 ((List.map (D.int .i64) v1).length) c2))), (1, (.v (.slice a4 ((List.map (D.int .i64) v3).length) c4))), (5, (.v (.int .i64 x.2)))], fun x => ⟨[], [], [(.slice a2 ((List.map (D.int .i64) v1).length) c2, .sl 1 (List.map (D.int .i64) v1)), (.slice a4 ((List.map (D.int .i64) v3).length) c4, .sl 1 (List.map (D.int .i64) v3))]⟩, fun x => W15_ints_L1 x.1 v1 v3 x.2 = some r, fun x => x.1, (n, 0), hr, ⟨rfl, rfl, rfl, trivial⟩, (StLe.gen 0 [] [.old 0, .old 1] rfl rfl rfl rfl rfl rfl rfl), fun x _ => ⟨rfl, rfl⟩, ?_⟩
    rintro ⟨n, v16⟩ HH
    have hr : W15_ints_L1 n v1 v3 v16 = some r := HH
    rcases n with _ | n
    · exact no_some hr
    rw [W15_ints_L1.eq_2] at hr
    refine AtIf.mk (fun h17 => ?_) (fun h17 => ?_)
    · replace hr := cond_t h17 hr
      obtain ⟨v18, h19, hr⟩ := bind_some hr
      obtain ⟨h20, h21⟩ := idx_some h19
      refine at_index ttOK 0 rfl rfl rfl rfl h20 (map_get (D.int .i64) h21) ?_
      obtain ⟨v22, h23, hr⟩ := bind_some hr
      obtain ⟨h24, h25⟩ := idx_some h23
      refine at_index ttOK 1 rfl rfl rfl rfl h24 (map_get (D.int .i64) h25) ?_
      refine AtIf.mk (fun h26 => ?_) (fun h26 => ?_)
      · replace hr := cond_t h26 hr
        replace hr := Option.some.inj hr
        subst hr
        exact AtRet.pureG [] [] rfl rfl ⟨rfl, rfl⟩
      · replace hr := cond_f h26 hr
        exact ⟨(n, (IntKind.i64.wrap (v16 + 1))), hr, Nat.lt_succ_self _, ⟨rfl, rfl, rfl, trivial⟩, (StLe.gen 0 [] [.old 0, .old 1] rfl rfl rfl rfl rfl rfl rfl)⟩
    · replace hr := cond_f h17 hr
      replace hr := Option.some.inj hr
      subst hr
      exact AtRet.pureG [] [] rfl rfl ⟨rfl, rfl⟩
def R05_IsName : Nat → ByteArray → Option (Bool)
  | 0, _ => none
  | n + 1, v1 =>
    some (((isSmallF v1) && (!(v1.toList == (⟨#[116, 121, 112, 101]⟩ : ByteArray).toList))))
theorem R05_IsName_spec (n : Nat) (v1 : ByteArray)  (r : Bool) (hr : R05_IsName n v1 = some r) : Pure Tryz.prog (.val (.fn (.func 52) [] [])) [(.v (.string v1))] [] (fun r' out => r' = (.v (.bool r)) ∧ out = []) := by
  rcases n with _ | n
  · exact no_some hr
  rw [R05_IsName.eq_2] at hr
  refine spec_of_body (N := 9) (m := 0) (dt := fun _ => none) [] ttOK Tryz.func52 rfl Tryz.call52 Tryz.ntmps52 rfl rfl rfl mixed (by kernel_rfl) ?_
  refine (refIsSmall_spec v1).atR [] rfl rfl rfl ?_
  rintro _ _ ⟨rfl, rfl⟩
  replace hr := Option.some.inj hr
  subst hr
  exact AtRet.pureG [] [] rfl rfl ⟨rfl, rfl⟩
def R03_Constants : Nat → Tm → Option ((List Int))
  | 0, _ => none
  | n + 1, v1 =>
    cond (decide ((0 : Int) ≤ 0 ∧ (0 : Int) + (v1.height : Int) ≤ 1000000 ∧ ([] : List Int).length + v1.count ≤ 1000000)) (
    some ((headsF 2 v1 0 ([])))) none
theorem R03_Constants_spec (n : Nat) (v1 : Tm) (a2 : Option Addr) (c2 : Nat) (r : (List Int)) (hr : R03_Constants n v1 = some r) : Pure Tryz.prog (.val (.fn (.func 86) [] [])) [(.agg [(.v (.int .i64 v1.op)), (.v (.int .i64 v1.hd)), (.v (.int .i64 v1.n)), (.v (.slice a2 ((Tm.encL v1.args).length) c2))])] [(.slice a2 ((Tm.encL v1.args).length) c2, .sl 4 (Tm.encL v1.args))] (fun r' out => ∃ (b1 : Option Addr) (d1 : Nat), r' = (.v (.slice b1 ((List.map (D.int .i64) r).length) d1)) ∧ out = [(.slice b1 ((List.map (D.int .i64) r).length) d1, .sl 1 (List.map (D.int .i64) r))]) := by
  rcases n with _ | n
  · exact no_some hr
  rw [R03_Constants.eq_2] at hr
  refine spec_of_body (N := 5) (m := 0) (dt := fun _ => none) [] ttOK Tryz.func86 rfl Tryz.call86 Tryz.ntmps86 rfl rfl rfl mixed (by kernel_rfl) ?_
  obtain ⟨h3, hr⟩ := cond_need hr
  refine Meets.nilRep 1 ?_
  refine (heads0 2 v1 0 ([]) a2 none c2 0 (of_decide_eq_true h3).1 (of_decide_eq_true h3).2.1 (of_decide_eq_true h3).2.2).atR [1, 0] rfl rfl rfl ?_
  rintro _ _ ⟨a4, c4, rfl, rfl⟩
  replace hr := Option.some.inj hr
  subst hr
  exact AtRet.pureG [.old 2] [(.slice a4 ((List.map (D.int .i64) (headsF 2 v1 0 ([]))).length) c4, .sl 1 (List.map (D.int .i64) (headsF 2 v1 0 ([]))))] rfl rfl ⟨a4, c4, rfl, rfl⟩
def R03_Free : Nat → Tm → Option ((List Int))
  | 0, _ => none
  | n + 1, v1 =>
    cond (decide ((0 : Int) ≤ 0 ∧ (0 : Int) + (v1.height : Int) ≤ 1000000 ∧ ([] : List Int).length + v1.count ≤ 1000000)) (
    some ((headsF 1 v1 0 ([])))) none
theorem R03_Free_spec (n : Nat) (v1 : Tm) (a2 : Option Addr) (c2 : Nat) (r : (List Int)) (hr : R03_Free n v1 = some r) : Pure Tryz.prog (.val (.fn (.func 87) [] [])) [(.agg [(.v (.int .i64 v1.op)), (.v (.int .i64 v1.hd)), (.v (.int .i64 v1.n)), (.v (.slice a2 ((Tm.encL v1.args).length) c2))])] [(.slice a2 ((Tm.encL v1.args).length) c2, .sl 4 (Tm.encL v1.args))] (fun r' out => ∃ (b1 : Option Addr) (d1 : Nat), r' = (.v (.slice b1 ((List.map (D.int .i64) r).length) d1)) ∧ out = [(.slice b1 ((List.map (D.int .i64) r).length) d1, .sl 1 (List.map (D.int .i64) r))]) := by
  rcases n with _ | n
  · exact no_some hr
  rw [R03_Free.eq_2] at hr
  refine spec_of_body (N := 5) (m := 0) (dt := fun _ => none) [] ttOK Tryz.func87 rfl Tryz.call87 Tryz.ntmps87 rfl rfl rfl mixed (by kernel_rfl) ?_
  obtain ⟨h3, hr⟩ := cond_need hr
  refine Meets.nilRep 1 ?_
  refine (heads0 1 v1 0 ([]) a2 none c2 0 (of_decide_eq_true h3).1 (of_decide_eq_true h3).2.1 (of_decide_eq_true h3).2.2).atR [1, 0] rfl rfl rfl ?_
  rintro _ _ ⟨a4, c4, rfl, rfl⟩
  replace hr := Option.some.inj hr
  subst hr
  exact AtRet.pureG [.old 2] [(.slice a4 ((List.map (D.int .i64) (headsF 1 v1 0 ([]))).length) c4, .sl 1 (List.map (D.int .i64) (headsF 1 v1 0 ([]))))] rfl rfl ⟨a4, c4, rfl, rfl⟩
def R03_Metas : Nat → Tm → Option ((List Int))
  | 0, _ => none
  | n + 1, v1 =>
    cond (decide ((0 : Int) ≤ 0 ∧ (0 : Int) + (v1.height : Int) ≤ 1000000 ∧ ([] : List Int).length + v1.count ≤ 1000000)) (
    some ((headsF 3 v1 0 ([])))) none
theorem R03_Metas_spec (n : Nat) (v1 : Tm) (a2 : Option Addr) (c2 : Nat) (r : (List Int)) (hr : R03_Metas n v1 = some r) : Pure Tryz.prog (.val (.fn (.func 88) [] [])) [(.agg [(.v (.int .i64 v1.op)), (.v (.int .i64 v1.hd)), (.v (.int .i64 v1.n)), (.v (.slice a2 ((Tm.encL v1.args).length) c2))])] [(.slice a2 ((Tm.encL v1.args).length) c2, .sl 4 (Tm.encL v1.args))] (fun r' out => ∃ (b1 : Option Addr) (d1 : Nat), r' = (.v (.slice b1 ((List.map (D.int .i64) r).length) d1)) ∧ out = [(.slice b1 ((List.map (D.int .i64) r).length) d1, .sl 1 (List.map (D.int .i64) r))]) := by
  rcases n with _ | n
  · exact no_some hr
  rw [R03_Metas.eq_2] at hr
  refine spec_of_body (N := 5) (m := 0) (dt := fun _ => none) [] ttOK Tryz.func88 rfl Tryz.call88 Tryz.ntmps88 rfl rfl rfl mixed (by kernel_rfl) ?_
  obtain ⟨h3, hr⟩ := cond_need hr
  refine Meets.nilRep 1 ?_
  refine (heads0 3 v1 0 ([]) a2 none c2 0 (of_decide_eq_true h3).1 (of_decide_eq_true h3).2.1 (of_decide_eq_true h3).2.2).atR [1, 0] rfl rfl rfl ?_
  rintro _ _ ⟨a4, c4, rfl, rfl⟩
  replace hr := Option.some.inj hr
  subst hr
  exact AtRet.pureG [.old 2] [(.slice a4 ((List.map (D.int .i64) (headsF 3 v1 0 ([]))).length) c4, .sl 1 (List.map (D.int .i64) (headsF 3 v1 0 ([]))))] rfl rfl ⟨a4, c4, rfl, rfl⟩
def R05_closed : Nat → Tm → Int → Option (Bool)
  | 0, _, _ => none
  | n + 1, v1, v3 =>
    (R03_Constants n v1).bind (fun v4 =>
    (R03_Free n v1).bind (fun v7 =>
    cond (((List.map (D.int .i64) v7).length : Int) == 0) (
    (R03_Metas n v1).bind (fun v11 =>
    cond (((List.map (D.int .i64) v11).length : Int) == 0) (
    cond (((List.map (D.int .i64) v4).length : Int) == 0) (
    some (true)) (
    (idx v4 (IntKind.i64.wrap (((List.map (D.int .i64) v4).length : Int) - 1))).bind (fun v16 =>
    some ((decide (v16 < v3)))))) (
    some (false)))) (
    some (false))))
theorem R05_closed_spec (n : Nat) (v1 : Tm) (v3 : Int) (a2 : Option Addr) (c2 : Nat) (r : Bool) (hr : R05_closed n v1 v3 = some r) : Pure Tryz.prog (.val (.fn (.func 54) [] [])) [(.agg [(.v (.int .i64 v1.op)), (.v (.int .i64 v1.hd)), (.v (.int .i64 v1.n)), (.v (.slice a2 ((Tm.encL v1.args).length) c2))]), (.v (.int .i64 v3))] [(.slice a2 ((Tm.encL v1.args).length) c2, .sl 4 (Tm.encL v1.args))] (fun r' out => r' = (.v (.bool r)) ∧ out = []) := by
  rcases n with _ | n
  · exact no_some hr
  rw [R05_closed.eq_2] at hr
  refine spec_of_body (N := 33) (m := 0) (dt := fun _ => none) [] ttOK Tryz.func54 rfl Tryz.call54 Tryz.ntmps54 rfl rfl rfl mixed (by kernel_rfl) ?_
  obtain ⟨v4, h5, hr⟩ := bind_some hr
  refine (R03_Constants_spec n v1 a2 c2 _ h5).atR [0] rfl rfl rfl ?_
  rintro _ _ ⟨a6, c6, rfl, rfl⟩
  obtain ⟨v7, h8, hr⟩ := bind_some hr
  refine (R03_Free_spec n v1 a2 c2 _ h8).atR [0] rfl rfl rfl ?_
  rintro _ _ ⟨a9, c9, rfl, rfl⟩
  refine AtGuard.mk (fun h10 => ?_) (fun h10 => ?_)
  · replace hr := cond_t h10 hr
    obtain ⟨v11, h12, hr⟩ := bind_some hr
    refine (R03_Metas_spec n v1 a2 c2 _ h12).atR [0] rfl rfl rfl ?_
    rintro _ _ ⟨a13, c13, rfl, rfl⟩
    refine AtGuard.mk (fun h14 => ?_) (fun h14 => ?_)
    · replace hr := cond_t h14 hr
      refine AtGuard.mk (fun h15 => ?_) (fun h15 => ?_)
      · replace hr := cond_f h15 hr
        obtain ⟨v16, h17, hr⟩ := bind_some hr
        obtain ⟨h18, h19⟩ := idx_some h17
        refine at_index ttOK 1 rfl rfl rfl rfl h18 (map_get (D.int .i64) h19) ?_
        replace hr := Option.some.inj hr
        subst hr
        exact AtRet.pureG [] [] rfl rfl ⟨rfl, rfl⟩
      · replace hr := cond_t h15 hr
        replace hr := Option.some.inj hr
        subst hr
        exact AtRet.pureG [] [] rfl rfl ⟨rfl, rfl⟩
    · replace hr := cond_f h14 hr
      replace hr := Option.some.inj hr
      subst hr
      exact AtRet.pureG [] [] rfl rfl ⟨rfl, rfl⟩
  · replace hr := cond_f h10 hr
    refine AtGuard.mk (fun h => ff h) (fun _ => ?_)
    replace hr := Option.some.inj hr
    subst hr
    exact AtRet.pureG [] [] rfl rfl ⟨rfl, rfl⟩
mutual
def R05_formed : Nat → (List Dc) → Dc → Option (Bool)
  | 0, _, _ => none
  | n + 1, v1, v3 =>
    (R05_IsName n v3.name).bind (fun v5 =>
    cond (!v5) (
    some (false)) (
    cond (!(refProper v3.cls)) (
    some (false)) (
    (R05_closed n v3.cls ((Dc.encL v1).length : Int)).bind (fun v9 =>
    cond (!v9) (
    some (false)) (
    R05_formed_L1 n v1 v3 0)))))
def R05_formed_L1 : Nat → (List Dc) → Dc → Int → Option (Bool)
  | 0, _, _, _ => none
  | n + 1, v1, v3, v19 =>
    cond (decide (v19 < ((Dc.encL v1).length : Int))) (
    (idx v1 v19).bind (fun v21 =>
    cond (v21.name.toList == v3.name.toList) (
    some (false)) (
    R05_formed_L1 n v1 v3 (IntKind.i64.wrap (v19 + 1))))) (
    (R03_Split n v3.cls).bind (fun v27 =>
    cond (v27.2.op == 4) (
    cond (v27.2.hd != 2) (
    some (false)) (
    (R05_family n v1 v27.2.n).bind (fun v33 =>
    cond (!v33) (
    some (false)) (
    some (((((v27.2.op == 1) || (v27.2.op == 4)) && (decide (v3.implicit ≥ 0))) && (decide (v3.implicit ≤ ((Tm.encL v27.1).length : Int))))))))) (
    some (((((v27.2.op == 1) || (v27.2.op == 4)) && (decide (v3.implicit ≥ 0))) && (decide (v3.implicit ≤ ((Tm.encL v27.1).length : Int))))))))
 end
theorem R05_formed_spec (n : Nat) (v1 : (List Dc)) (v3 : Dc) (a2 : Option Addr) (c2 : Nat) (a4 : Option Addr) (c4 : Nat) (r : Bool) (hr : R05_formed n v1 v3 = some r) : Pure Tryz.prog (.val (.fn (.func 28) [] [])) [(.v (.slice a2 ((Dc.encL v1).length) c2)), (.agg [(.v (.string v3.name)), (.v (.int .i64 v3.cls.op)), (.v (.int .i64 v3.cls.hd)), (.v (.int .i64 v3.cls.n)), (.v (.slice a4 ((Tm.encL v3.cls.args).length) c4)), (.v (.int .i64 v3.implicit))])] [(.slice a2 ((Dc.encL v1).length) c2, .sl 6 (Dc.encL v1)), (.slice a4 ((Tm.encL v3.cls.args).length) c4, .sl 4 (Tm.encL v3.cls.args))] (fun r' out => r' = (.v (.bool r)) ∧ out = []) := by
  rcases n with _ | n
  · exact no_some hr
  rw [R05_formed.eq_2] at hr
  refine spec_of_body (N := 80) (m := 0) (dt := fun _ => none) [] ttOK Tryz.func28 rfl Tryz.call28 Tryz.ntmps28 rfl rfl rfl mixed (by kernel_rfl) ?_
  obtain ⟨v5, h6, hr⟩ := bind_some hr
  refine (R05_IsName_spec n v3.name _ h6).atR [] rfl rfl rfl ?_
  rintro _ _ ⟨rfl, rfl⟩
  refine AtGuard.mk (fun h7 => ?_) (fun h7 => ?_)
  · replace hr := cond_f h7 hr
    refine (refProper_spec v3.cls a4 c4).atR [1] rfl rfl rfl ?_
    rintro _ _ ⟨rfl, rfl⟩
    refine AtGuard.mk (fun h8 => ?_) (fun h8 => ?_)
    · replace hr := cond_f h8 hr
      obtain ⟨v9, h10, hr⟩ := bind_some hr
      refine (R05_closed_spec n v3.cls ((Dc.encL v1).length : Int) a4 c4 _ h10).atR [1] rfl rfl rfl ?_
      rintro _ _ ⟨rfl, rfl⟩
      refine AtIf.mk (fun h11 => ?_) (fun h11 => ?_)
      · replace hr := cond_t h11 hr
        replace hr := Option.some.inj hr
        subst hr
        exact AtRet.pureG [] [] rfl rfl ⟨rfl, rfl⟩
      · replace hr := cond_f h11 hr
        refine AtLoop.mk ⟨Nat × Int, fun x => [(0, (.v (.slice a2 ((Dc.encL v1).length) c2))), (3, (.loc 0 0)), (27, (.v (.slice a2 ((Dc.encL v1).length) c2))), (28, (.v (.int .i64 ((Dc.encL v1).length : Int)))), (29, (.v (.int .i64 x.2)))], fun x => ⟨[.cells 66 [(.v (.string v3.name)), (.v (.int .i64 v3.cls.op)), (.v (.int .i64 v3.cls.hd)), (.v (.int .i64 v3.cls.n)), (.v (.slice a4 ((Tm.encL v3.cls.args).length) c4)), (.v (.int .i64 v3.implicit))]], [], [(.slice a2 ((Dc.encL v1).length) c2, .sl 6 (Dc.encL v1)), (.slice a4 ((Tm.encL v3.cls.args).length) c4, .sl 4 (Tm.encL v3.cls.args))]⟩, fun x => R05_formed_L1 x.1 v1 v3 x.2 = some r, fun x => x.1, (n, 0), hr, ⟨rfl, rfl, rfl, rfl, rfl, trivial⟩, (StLe.gen 1 [] [.old 0, .old 1] rfl rfl rfl rfl rfl rfl rfl), fun x _ => ⟨rfl, rfl⟩, ?_⟩
        rintro ⟨n, v19⟩ HH
        have hr : R05_formed_L1 n v1 v3 v19 = some r := HH
        rcases n with _ | n
        · exact no_some hr
        rw [R05_formed_L1.eq_2] at hr
        refine AtIf.mk (fun h20 => ?_) (fun h20 => ?_)
        · replace hr := cond_t h20 hr
          obtain ⟨v21, h22, hr⟩ := bind_some hr
          obtain ⟨h23, h24⟩ := idx_some h22
          refine at_index ttOK 0 rfl rfl rfl rfl h23 (Dc.encL_get h24) ?_
          intro a25 c25 _ _
          refine AtIf.mk (fun h26 => ?_) (fun h26 => ?_)
          · replace hr := cond_t h26 hr
            replace hr := Option.some.inj hr
            subst hr
            exact AtRet.pureG [] [] rfl rfl ⟨rfl, rfl⟩
          · replace hr := cond_f h26 hr
            exact ⟨(n, (IntKind.i64.wrap (v19 + 1))), hr, Nat.lt_succ_self _, ⟨rfl, rfl, rfl, rfl, rfl, trivial⟩, (StLe.gen 1 [] [.old 0, .old 1] rfl rfl rfl rfl rfl rfl rfl)⟩
        · replace hr := cond_f h20 hr
          obtain ⟨v27, h28, hr⟩ := bind_some hr
          refine (R03_Split_spec n v3.cls a4 c4 _ h28).atR [1] rfl rfl rfl ?_
          rintro _ _ ⟨a29, c29, a30, c30, rfl, rfl⟩
          refine AtGuard.mk (fun h31 => ?_) (fun h31 => ?_)
          · replace hr := cond_t h31 hr
            refine AtGuard.mk (fun h32 => ?_) (fun h32 => ?_)
            · replace hr := cond_f h32 hr
              obtain ⟨v33, h34, hr⟩ := bind_some hr
              refine (R05_family_spec n v1 v27.2.n a2 c2 _ h34).atR [0] rfl rfl rfl ?_
              rintro _ _ ⟨rfl, rfl⟩
              refine AtIf.mk (fun h35 => ?_) (fun h35 => ?_)
              · replace hr := cond_t h35 hr
                replace hr := Option.some.inj hr
                subst hr
                exact AtRet.pureG [] [] rfl rfl ⟨rfl, rfl⟩
              · replace hr := cond_f h35 hr
                replace hr := Option.some.inj hr
                subst hr
                exact AtRet.pureG [] [] rfl rfl ⟨rfl, rfl⟩
            · replace hr := cond_t h32 hr
              refine AtIf.mk (fun _ => ?_) (fun h => tf h)
              replace hr := Option.some.inj hr
              subst hr
              exact AtRet.pureG [] [] rfl rfl ⟨rfl, rfl⟩
          · replace hr := cond_f h31 hr
            refine AtIf.mk (fun h => ff h) (fun _ => ?_)
            replace hr := Option.some.inj hr
            subst hr
            exact AtRet.pureG [] [] rfl rfl ⟨rfl, rfl⟩
    · replace hr := cond_t h8 hr
      refine AtIf.mk (fun _ => ?_) (fun h => tf h)
      replace hr := Option.some.inj hr
      subst hr
      exact AtRet.pureG [] [] rfl rfl ⟨rfl, rfl⟩
  · replace hr := cond_t h7 hr
    refine AtGuard.mk (fun h => tf h) (fun _ => ?_)
    refine AtIf.mk (fun _ => ?_) (fun h => tf h)
    replace hr := Option.some.inj hr
    subst hr
    exact AtRet.pureG [] [] rfl rfl ⟨rfl, rfl⟩
mutual
def R05_Formed : Nat → (List Dc) → Option (Bool)
  | 0, _ => none
  | n + 1, v1 =>
    R05_Formed_L1 n v1 0
def R05_Formed_L1 : Nat → (List Dc) → Int → Option (Bool)
  | 0, _, _ => none
  | n + 1, v1, v14 =>
    cond ((decide (v14 < ((Dc.encL v1).length : Int))) && (decide (((Dc.encL v1).length : Int) ≤ 100))) (
    cond (decide ((0 : Int) ≤ (0 : Int) ∧ (0 : Int) ≤ v14 ∧ v14 ≤ ((Dc.encL v1).length : Int))) (
    (idx v1 v14).bind (fun v18 =>
    (R05_formed n (v1.take v14.toNat) v18).bind (fun v23 =>
    cond (!v23) (
    some (false)) (
    R05_Formed_L1 n v1 (IntKind.i64.wrap (v14 + 1)))))) none) (
    some ((decide (((Dc.encL v1).length : Int) ≤ 100))))
 end
theorem R05_Formed_spec (n : Nat) (v1 : (List Dc)) (a2 : Option Addr) (c2 : Nat) (r : Bool) (hr : R05_Formed n v1 = some r) : Pure Tryz.prog (.val (.fn (.func 9) [] [])) [(.v (.slice a2 ((Dc.encL v1).length) c2))] [(.slice a2 ((Dc.encL v1).length) c2, .sl 6 (Dc.encL v1))] (fun r' out => r' = (.v (.bool r)) ∧ out = []) := by
  rcases n with _ | n
  · exact no_some hr
  rw [R05_Formed.eq_2] at hr
  refine spec_of_body (N := 27) (m := 0) (dt := drawsOf [(4, .node [0, 1, 2, 3, 4, 5, 6] [(7, .leaf [8])], [7], [])]) [] ttOK Tryz.func9 rfl Tryz.call9 Tryz.ntmps9 rfl rfl rfl mixed (by kernel_rfl) ?_
  refine AtLoop.mk ⟨Nat × Int, fun x => [(0, (.v (.slice a2 ((Dc.encL v1).length) c2))), (3, (.v (.int .i64 x.2)))], fun x => ⟨[], [], [(.slice a2 ((Dc.encL v1).length) c2, .sl 6 (Dc.encL v1))]⟩, fun x => R05_Formed_L1 x.1 v1 x.2 = some r, fun x => x.1, (n, 0), hr, ⟨rfl, rfl, trivial⟩, (StLe.gen 0 [] [.old 0] rfl rfl rfl rfl rfl rfl rfl), fun x _ => ⟨rfl, rfl⟩, ?_⟩
  rintro ⟨n, v14⟩ HH
  have hr : R05_Formed_L1 n v1 v14 = some r := HH
  rcases n with _ | n
  · exact no_some hr
  rw [R05_Formed_L1.eq_2] at hr
  refine AtIf.mk (fun h15 => ?_) (fun h15 => ?_)
  · replace hr := cond_t h15 hr
    obtain ⟨h16, hr⟩ := cond_need hr
    refine at_sliceG ttOK 0 0 v14 (ds' := (Dc.encL (v1.take v14.toNat))) rfl rfl rfl (.inr ⟨rfl, rfl⟩) (.inl ⟨_, rfl⟩) h16 (by simp only [Dc.encL_eq]; exact sl_h ..) ?_
    intro a17 c17
    obtain ⟨v18, h19, hr⟩ := bind_some hr
    obtain ⟨h20, h21⟩ := idx_some h19
    refine at_index ttOK 0 rfl rfl rfl rfl h20 (Dc.encL_get h21) ?_
    intro a22 c22 _ _
    obtain ⟨v23, h24, hr⟩ := bind_some hr
    refine (R05_formed_spec n (v1.take v14.toNat) v18 a17 c17 a22 c22 _ h24).atR [1, 2] rfl rfl rfl ?_
    rintro _ _ ⟨rfl, rfl⟩
    refine AtIf.mk (fun h25 => ?_) (fun h25 => ?_)
    · replace hr := cond_t h25 hr
      replace hr := Option.some.inj hr
      subst hr
      exact AtRet.pureG [] [] rfl rfl ⟨rfl, rfl⟩
    · replace hr := cond_f h25 hr
      exact ⟨(n, (IntKind.i64.wrap (v14 + 1))), hr, Nat.lt_succ_self _, ⟨rfl, rfl, trivial⟩, (StLe.gen 0 [] [.old 0] rfl rfl rfl rfl rfl rfl rfl)⟩
  · replace hr := cond_f h15 hr
    replace hr := Option.some.inj hr
    subst hr
    exact AtRet.pureG [] [] rfl rfl ⟨rfl, rfl⟩
mutual
def W15_valid : Nat → (List Dc) → Option (Bool)
  | 0, _ => none
  | n + 1, v1 =>
    W15_valid_L1 n v1 0 0
def W15_valid_L1 : Nat → (List Dc) → Int → Int → Option (Bool)
  | 0, _, _, _ => none
  | n + 1, v1, v11, v12 =>
    cond ((decide (v12 < ((Dc.encL v1).length : Int))) && (decide (v11 ≤ 3000))) (
    (idx v1 v12).bind (fun v14 =>
    (R03_Size n v14.cls).bind (fun v19 =>
    W15_valid_L1 n v1 (IntKind.i64.wrap (v11 + v19.1)) (IntKind.i64.wrap (v12 + 1))))) (
    cond (decide (v11 > 3000)) (
    some (false)) (
    (R05_Formed n v1).bind (fun v22 =>
    cond (!v22) (
    some (false)) (
    (R06_Signature n v1).bind (fun v25 =>
    some ((v25.2 == 0)))))))
 end
theorem W15_valid_spec (n : Nat) (v1 : (List Dc)) (a2 : Option Addr) (c2 : Nat) (r : Bool) (hr : W15_valid n v1 = some r) : Pure Tryz.prog (.val (.fn (.func 11) [] [])) [(.v (.slice a2 ((Dc.encL v1).length) c2))] [(.slice a2 ((Dc.encL v1).length) c2, .sl 6 (Dc.encL v1))] (fun r' out => r' = (.v (.bool r)) ∧ out = []) := by
  rcases n with _ | n
  · exact no_some hr
  rw [W15_valid.eq_2] at hr
  refine spec_of_body (N := 45) (m := 0) (dt := fun _ => none) [] ttOK Tryz.func11 rfl Tryz.call11 Tryz.ntmps11 rfl rfl rfl mixed (by kernel_rfl) ?_
  refine AtLoop.mk ⟨Nat × Int × Int, fun x => [(0, (.v (.slice a2 ((Dc.encL v1).length) c2))), (3, (.v (.int .i64 x.2.1))), (4, (.v (.int .i64 x.2.2)))], fun x => ⟨[], [], [(.slice a2 ((Dc.encL v1).length) c2, .sl 6 (Dc.encL v1))]⟩, fun x => W15_valid_L1 x.1 v1 x.2.1 x.2.2 = some r, fun x => x.1, (n, 0, 0), hr, ⟨rfl, rfl, rfl, trivial⟩, (StLe.gen 0 [] [.old 0] rfl rfl rfl rfl rfl rfl rfl), fun x _ => ⟨rfl, rfl⟩, ?_⟩
  rintro ⟨n, v11, v12⟩ HH
  have hr : W15_valid_L1 n v1 v11 v12 = some r := HH
  rcases n with _ | n
  · exact no_some hr
  rw [W15_valid_L1.eq_2] at hr
  refine AtIf.mk (fun h13 => ?_) (fun h13 => ?_)
  · replace hr := cond_t h13 hr
    obtain ⟨v14, h15, hr⟩ := bind_some hr
    obtain ⟨h16, h17⟩ := idx_some h15
    refine at_index ttOK 0 rfl rfl rfl rfl h16 (Dc.encL_get h17) ?_
    intro a18 c18 _ _
    obtain ⟨v19, h20, hr⟩ := bind_some hr
    refine (R03_Size_spec n v14.cls a18 c18 _ h20).atR [1] rfl rfl rfl ?_
    rintro _ _ ⟨rfl, rfl⟩
    exact ⟨(n, (IntKind.i64.wrap (v11 + v19.1)), (IntKind.i64.wrap (v12 + 1))), hr, Nat.lt_succ_self _, ⟨rfl, rfl, rfl, trivial⟩, (StLe.gen 0 [] [.old 0] rfl rfl rfl rfl rfl rfl rfl)⟩
  · replace hr := cond_f h13 hr
    refine AtGuard.mk (fun h21 => ?_) (fun h21 => ?_)
    · replace hr := cond_f h21 hr
      obtain ⟨v22, h23, hr⟩ := bind_some hr
      refine (R05_Formed_spec n v1 a2 c2 _ h23).atR [0] rfl rfl rfl ?_
      rintro _ _ ⟨rfl, rfl⟩
      refine AtIf.mk (fun h24 => ?_) (fun h24 => ?_)
      · replace hr := cond_t h24 hr
        replace hr := Option.some.inj hr
        subst hr
        exact AtRet.pureG [] [] rfl rfl ⟨rfl, rfl⟩
      · replace hr := cond_f h24 hr
        obtain ⟨v25, h26, hr⟩ := bind_some hr
        refine (R06_Signature_spec n v1 a2 c2 _ h26).atR [0] rfl rfl rfl ?_
        rintro _ _ ⟨rfl, rfl⟩
        replace hr := Option.some.inj hr
        subst hr
        exact AtRet.pureG [] [] rfl rfl ⟨rfl, rfl⟩
    · replace hr := cond_t h21 hr
      refine AtIf.mk (fun _ => ?_) (fun h => tf h)
      replace hr := Option.some.inj hr
      subst hr
      exact AtRet.pureG [] [] rfl rfl ⟨rfl, rfl⟩
def R03_below : Nat → Tm → Int → Option (Int)
  | 0, _, _ => none
  | n + 1, v1, v3 =>
    cond ((v1.op == 3) || ((v1.op == 2) && (v3 == 1))) (
    some (1)) (
    some (0))
theorem R03_below_spec (n : Nat) (v1 : Tm) (v3 : Int) (a2 : Option Addr) (c2 : Nat) (r : Int) (hr : R03_below n v1 v3 = some r) : Pure Tryz.prog (.val (.fn (.func 114) [] [])) [(.agg [(.v (.int .i64 v1.op)), (.v (.int .i64 v1.hd)), (.v (.int .i64 v1.n)), (.v (.slice a2 ((Tm.encL v1.args).length) c2))]), (.v (.int .i64 v3))] [(.slice a2 ((Tm.encL v1.args).length) c2, .sl 4 (Tm.encL v1.args))] (fun r' out => r' = (.v (.int .i64 r)) ∧ out = []) := by
  rcases n with _ | n
  · exact no_some hr
  rw [R03_below.eq_2] at hr
  refine spec_of_body (N := 17) (m := 0) (dt := fun _ => none) [] ttOK Tryz.func114 rfl Tryz.call114 Tryz.ntmps114 rfl rfl rfl mixed (by kernel_rfl) ?_
  refine AtIf.mk (fun h4 => ?_) (fun h4 => ?_)
  · replace hr := cond_t h4 hr
    replace hr := Option.some.inj hr
    subst hr
    exact AtRet.pureG [] [] rfl rfl ⟨rfl, rfl⟩
  · replace hr := cond_f h4 hr
    replace hr := Option.some.inj hr
    subst hr
    exact AtRet.pureG [] [] rfl rfl ⟨rfl, rfl⟩
mutual
def R03_low : Nat → Tm → Int → Int → Option (Bool)
  | 0, _, _, _ => none
  | n + 1, v1, v3, v4 =>
    cond ((((v1.op == 4) && (v1.hd == 1)) && (decide (v1.n ≥ v3))) && (decide (v1.n ≤ v4))) (
    some (true)) (
    R03_low_L1 n v1 v3 v4 0)
def R03_low_L1 : Nat → Tm → Int → Int → Int → Option (Bool)
  | 0, _, _, _, _ => none
  | n + 1, v1, v3, v4, v17 =>
    cond (decide (v17 < ((Tm.encL v1.args).length : Int))) (
    (R03_below n v1 v17).bind (fun v19 =>
    (idx v1.args v17).bind (fun v21 =>
    (R03_low n v21 (IntKind.i64.wrap (v3 + v19)) (IntKind.i64.wrap (v4 + v19))).bind (fun v26 =>
    cond v26 (
    some (true)) (
    R03_low_L1 n v1 v3 v4 (IntKind.i64.wrap (v17 + 1))))))) (
    some (false))
 end
theorem R03_low_specN : ∀ (N : Nat), (∀ (n : Nat), n ≤ N → ∀ (v1 : Tm) (v3 : Int) (v4 : Int) (a2 : Option Addr) (c2 : Nat) (r : Bool), R03_low n v1 v3 v4 = some r → Pure Tryz.prog (.val (.fn (.func 93) [] [])) [(.agg [(.v (.int .i64 v1.op)), (.v (.int .i64 v1.hd)), (.v (.int .i64 v1.n)), (.v (.slice a2 ((Tm.encL v1.args).length) c2))]), (.v (.int .i64 v3)), (.v (.int .i64 v4))] [(.slice a2 ((Tm.encL v1.args).length) c2, .sl 4 (Tm.encL v1.args))] (fun r' out => r' = (.v (.bool r)) ∧ out = [])) := by
  intro N
  induction N with
  | zero =>
    intro n hn v1 v3 v4 a2 c2 r hr; obtain rfl : n = 0 := (by omega); exact no_some hr
  | succ N ih =>
    intro n hn v1 v3 v4 a2 c2 r hr
    rcases n with _ | n
    · exact no_some hr
    replace hn : n ≤ N := by omega
    rw [R03_low.eq_2] at hr
    refine spec_of_body (N := 51) (m := 0) (dt := fun _ => none) [] ttOK Tryz.func93 rfl Tryz.call93 Tryz.ntmps93 rfl rfl rfl mixed (by kernel_rfl) ?_
    refine AtIf.mk (fun h5 => ?_) (fun h5 => ?_)
    · replace hr := cond_t h5 hr
      replace hr := Option.some.inj hr
      subst hr
      exact AtRet.pureG [] [] rfl rfl ⟨rfl, rfl⟩
    · replace hr := cond_f h5 hr
      refine AtLoop.mk ⟨Nat × Int, fun x => [(1, (.v (.int .i64 v3))), (2, (.v (.int .i64 v4))), (3, (.loc 0 0)), (7, (.v (.int .i64 x.2)))], fun x => ⟨[.cells 51 [(.v (.int .i64 v1.op)), (.v (.int .i64 v1.hd)), (.v (.int .i64 v1.n)), (.v (.slice a2 ((Tm.encL v1.args).length) c2))]], [], [(.slice a2 ((Tm.encL v1.args).length) c2, .sl 4 (Tm.encL v1.args))]⟩, fun x => x.1 ≤ N ∧ R03_low_L1 x.1 v1 v3 v4 x.2 = some r, fun x => x.1, (n, 0), ⟨by omega, hr⟩, ⟨rfl, rfl, rfl, rfl, trivial⟩, (StLe.gen 1 [] [.old 0] rfl rfl rfl rfl rfl rfl rfl), fun x _ => ⟨rfl, rfl⟩, ?_⟩
      rintro ⟨n, v17⟩ HH
      obtain ⟨hn, hr⟩ : n ≤ N ∧ R03_low_L1 n v1 v3 v4 v17 = some r := HH
      rcases n with _ | n
      · exact no_some hr
      rw [R03_low_L1.eq_2] at hr
      refine AtIf.mk (fun h18 => ?_) (fun h18 => ?_)
      · replace hr := cond_t h18 hr
        obtain ⟨v19, h20, hr⟩ := bind_some hr
        refine (R03_below_spec n v1 v17 a2 c2 _ h20).atR [0] rfl rfl rfl ?_
        rintro _ _ ⟨rfl, rfl⟩
        obtain ⟨v21, h22, hr⟩ := bind_some hr
        obtain ⟨h23, h24⟩ := idx_some h22
        refine at_index ttOK 0 rfl rfl rfl rfl h23 (Tm.encL_get h24) ?_
        intro a25 c25 _ _
        obtain ⟨v26, h27, hr⟩ := bind_some hr
        refine (ih n (by omega) v21 (IntKind.i64.wrap (v3 + v19)) (IntKind.i64.wrap (v4 + v19)) a25 c25 _ h27).atR [1] rfl rfl rfl ?_
        rintro _ _ ⟨rfl, rfl⟩
        refine AtIf.mk (fun h28 => ?_) (fun h28 => ?_)
        · replace hr := cond_t h28 hr
          replace hr := Option.some.inj hr
          subst hr
          exact AtRet.pureG [] [] rfl rfl ⟨rfl, rfl⟩
        · replace hr := cond_f h28 hr
          exact ⟨(n, (IntKind.i64.wrap (v17 + 1))), ⟨by omega, hr⟩, Nat.lt_succ_self _, ⟨rfl, rfl, rfl, rfl, trivial⟩, (StLe.gen 1 [] [.old 0] rfl rfl rfl rfl rfl rfl rfl)⟩
      · replace hr := cond_f h18 hr
        replace hr := Option.some.inj hr
        subst hr
        exact AtRet.pureG [] [] rfl rfl ⟨rfl, rfl⟩
theorem R03_low_spec (n : Nat) (v1 : Tm) (v3 : Int) (v4 : Int) (a2 : Option Addr) (c2 : Nat) (r : Bool) (hr : R03_low n v1 v3 v4 = some r) : Pure Tryz.prog (.val (.fn (.func 93) [] [])) [(.agg [(.v (.int .i64 v1.op)), (.v (.int .i64 v1.hd)), (.v (.int .i64 v1.n)), (.v (.slice a2 ((Tm.encL v1.args).length) c2))]), (.v (.int .i64 v3)), (.v (.int .i64 v4))] [(.slice a2 ((Tm.encL v1.args).length) c2, .sl 4 (Tm.encL v1.args))] (fun r' out => r' = (.v (.bool r)) ∧ out = []) := (R03_low_specN n) n (Nat.le_refl _) v1 v3 v4 a2 c2 r hr
def R03_Occurs : Nat → Tm → Int → Option (Bool)
  | 0, _, _ => none
  | n + 1, v1, v3 =>
    cond (decide (v3 ≥ 0)) (
    (R03_low n v1 v3 v3).bind (fun v5 =>
    some (v5))) (
    some (false))
theorem R03_Occurs_spec (n : Nat) (v1 : Tm) (v3 : Int) (a2 : Option Addr) (c2 : Nat) (r : Bool) (hr : R03_Occurs n v1 v3 = some r) : Pure Tryz.prog (.val (.fn (.func 89) [] [])) [(.agg [(.v (.int .i64 v1.op)), (.v (.int .i64 v1.hd)), (.v (.int .i64 v1.n)), (.v (.slice a2 ((Tm.encL v1.args).length) c2))]), (.v (.int .i64 v3))] [(.slice a2 ((Tm.encL v1.args).length) c2, .sl 4 (Tm.encL v1.args))] (fun r' out => r' = (.v (.bool r)) ∧ out = []) := by
  rcases n with _ | n
  · exact no_some hr
  rw [R03_Occurs.eq_2] at hr
  refine spec_of_body (N := 13) (m := 0) (dt := fun _ => none) [] ttOK Tryz.func89 rfl Tryz.call89 Tryz.ntmps89 rfl rfl rfl mixed (by kernel_rfl) ?_
  refine AtGuard.mk (fun h4 => ?_) (fun h4 => ?_)
  · replace hr := cond_t h4 hr
    obtain ⟨v5, h6, hr⟩ := bind_some hr
    refine (R03_low_spec n v1 v3 v3 a2 c2 _ h6).atR [0] rfl rfl rfl ?_
    rintro _ _ ⟨rfl, rfl⟩
    replace hr := Option.some.inj hr
    subst hr
    exact AtRet.pureG [] [] rfl rfl ⟨rfl, rfl⟩
  · replace hr := cond_f h4 hr
    replace hr := Option.some.inj hr
    subst hr
    exact AtRet.pureG [] [] rfl rfl ⟨rfl, rfl⟩
mutual
def R13_Dependent : Nat → Tm → Option ((List Bool))
  | 0, _ => none
  | n + 1, v1 =>
    R13_Dependent_L1 n v1 ([])
def R13_Dependent_L1 : Nat → Tm → (List Bool) → Option ((List Bool))
  | 0, _, _ => none
  | n + 1, v19, v21 =>
    cond (v19.op == 2) (
    (idx v19.args 1).bind (fun v24 =>
    (R03_Occurs n v24 0).bind (fun v29 =>
    cond (decide ((List.map D.bool (v21 ++ [v29])).length ≤ 1000000)) (
    (idx v19.args 1).bind (fun v34 =>
    R13_Dependent_L1 n v34 (v21 ++ [v29]))) none))) (
    some (v21))
 end
theorem R13_Dependent_spec (n : Nat) (v1 : Tm) (a2 : Option Addr) (c2 : Nat) (r : (List Bool)) (hr : R13_Dependent n v1 = some r) : Pure Tryz.prog (.val (.fn (.func 56) [] [])) [(.agg [(.v (.int .i64 v1.op)), (.v (.int .i64 v1.hd)), (.v (.int .i64 v1.n)), (.v (.slice a2 ((Tm.encL v1.args).length) c2))])] [(.slice a2 ((Tm.encL v1.args).length) c2, .sl 4 (Tm.encL v1.args))] (fun r' out => ∃ (b1 : Option Addr) (d1 : Nat), r' = (.v (.slice b1 ((List.map D.bool r).length) d1)) ∧ out = [(.slice b1 ((List.map D.bool r).length) d1, .sl 1 (List.map D.bool r))]) := by
  rcases n with _ | n
  · exact no_some hr
  rw [R13_Dependent.eq_2] at hr
  refine spec_of_body (N := 23) (m := 0) (dt := fun _ => none) [] ttOK Tryz.func56 rfl Tryz.call56 Tryz.ntmps56 rfl rfl rfl mixed (by kernel_rfl) ?_
  refine AtLoop.mkR ⟨Nat × Tm × Option Addr × Nat × (List Bool) × Option Addr × Nat, fun x => [(3, (.v (.slice x.2.2.2.2.2.1 ((List.map D.bool x.2.2.2.2.1).length) x.2.2.2.2.2.2))), (4, (.loc 1 0))], fun x => ⟨[.cells 51 [(.v (.int .i64 v1.op)), (.v (.int .i64 v1.hd)), (.v (.int .i64 v1.n)), (.v (.slice a2 ((Tm.encL v1.args).length) c2))], .cells 51 [(.v (.int .i64 x.2.1.op)), (.v (.int .i64 x.2.1.hd)), (.v (.int .i64 x.2.1.n)), (.v (.slice x.2.2.1 ((Tm.encL x.2.1.args).length) x.2.2.2.1))]], [⟨.slice x.2.2.2.2.2.1 ((List.map D.bool x.2.2.2.2.1).length) x.2.2.2.2.2.2, 1, 4, (List.map D.bool x.2.2.2.2.1)⟩], [(.slice x.2.2.1 ((Tm.encL x.2.1.args).length) x.2.2.2.1, .sl 4 (Tm.encL x.2.1.args)), (.slice a2 ((Tm.encL v1.args).length) c2, .sl 4 (Tm.encL v1.args))]⟩, fun x => R13_Dependent_L1 x.1 x.2.1 x.2.2.2.2.1 = some r, fun x => x.1, (n, v1, a2, c2, [], none, 0), hr, ⟨rfl, rfl, trivial⟩, (StLe.gen 2 [.nil 1 4] [.old 0, .old 0] rfl rfl rfl rfl rfl rfl rfl), fun x _ => ⟨rfl, rfl⟩, ?_⟩
  rintro ⟨n, v19, a20, c20, v21, a22, c22⟩ HH
  have hr : R13_Dependent_L1 n v19 v21 = some r := HH
  rcases n with _ | n
  · exact no_some hr
  rw [R13_Dependent_L1.eq_2] at hr
  refine AtIf.mk (fun h23 => ?_) (fun h23 => ?_)
  · replace hr := cond_t h23 hr
    obtain ⟨v24, h25, hr⟩ := bind_some hr
    obtain ⟨h26, h27⟩ := idx_some h25
    refine at_index ttOK 0 rfl rfl rfl rfl h26 (Tm.encL_get h27) ?_
    intro a28 c28 _ _
    obtain ⟨v29, h30, hr⟩ := bind_some hr
    refine (R03_Occurs_spec n v24 0 a28 c28 _ h30).atR [2] rfl rfl rfl ?_
    rintro _ _ ⟨rfl, rfl⟩
    refine at_buildG (n := 1) ttOK 1 [.bool v29] (ds' := (List.map D.bool ([v29]))) rfl (by kernel_rfl) ⟨⟨rfl, rfl, rfl, rfl⟩, trivial⟩ rfl rfl (by decide) (by decide) ?_
    intro a31
    obtain ⟨h32, hr⟩ := cond_need hr
    refine at_appendG (ds' := (List.map D.bool (v21 ++ [v29]))) ttOK 1 0 3 rfl (by kernel_rfl) rfl rfl rfl rfl (by simp only [List.map_append]) h32 (by decide) ?_
    intro a33 c33
    obtain ⟨v34, h35, hr⟩ := bind_some hr
    obtain ⟨h36, h37⟩ := idx_some h35
    refine at_index ttOK 0 rfl rfl rfl rfl h36 (Tm.encL_get h37) ?_
    intro a38 c38 _ _
    exact ⟨(n, v34, a38, c38, (v21 ++ [v29]), a33, c33), [0, 3], hr, Nat.lt_succ_self _, ⟨rfl, rfl, trivial⟩, (StLeR.gen [0, 3] [.old 0] [.old 4, .old 1] rfl rfl rfl rfl rfl rfl rfl), rfl⟩
  · replace hr := cond_f h23 hr
    replace hr := Option.some.inj hr
    subst hr
    exact AtRet.pureG [.froz 0] [(.slice a22 ((List.map D.bool v21).length) c22, .sl 1 (List.map D.bool v21))] rfl rfl ⟨a22, c22, rfl, rfl⟩
def R14_Dependent : Nat → Tm → Option ((List Bool))
  | 0, _ => none
  | n + 1, v1 =>
    (R13_Dependent n v1).bind (fun v3 =>
    some (v3))
theorem R14_Dependent_spec (n : Nat) (v1 : Tm) (a2 : Option Addr) (c2 : Nat) (r : (List Bool)) (hr : R14_Dependent n v1 = some r) : Pure Tryz.prog (.val (.fn (.func 31) [] [])) [(.agg [(.v (.int .i64 v1.op)), (.v (.int .i64 v1.hd)), (.v (.int .i64 v1.n)), (.v (.slice a2 ((Tm.encL v1.args).length) c2))])] [(.slice a2 ((Tm.encL v1.args).length) c2, .sl 4 (Tm.encL v1.args))] (fun r' out => ∃ (b1 : Option Addr) (d1 : Nat), r' = (.v (.slice b1 ((List.map D.bool r).length) d1)) ∧ out = [(.slice b1 ((List.map D.bool r).length) d1, .sl 1 (List.map D.bool r))]) := by
  rcases n with _ | n
  · exact no_some hr
  rw [R14_Dependent.eq_2] at hr
  refine spec_of_body (N := 5) (m := 0) (dt := fun _ => none) [] ttOK Tryz.func31 rfl Tryz.call31 Tryz.ntmps31 rfl rfl rfl mixed (by kernel_rfl) ?_
  obtain ⟨v3, h4, hr⟩ := bind_some hr
  refine (R13_Dependent_spec n v1 a2 c2 _ h4).atR [0] rfl rfl rfl ?_
  rintro _ _ ⟨a5, c5, rfl, rfl⟩
  replace hr := Option.some.inj hr
  subst hr
  exact AtRet.pureG [.old 1] [(.slice a5 ((List.map D.bool v3).length) c5, .sl 1 (List.map D.bool v3))] rfl rfl ⟨a5, c5, rfl, rfl⟩
mutual
def R15_Calls : Nat → (List Dc) → (List Me) → Int → Option ((List Int))
  | 0, _, _, _ => none
  | n + 1, v1, v3, v5 =>
    (idx v1 v5).bind (fun v6 =>
    (R03_Split n v6.cls).bind (fun v11 =>
    (idx v1 v5).bind (fun v15 =>
    (R14_Dependent n v15.cls).bind (fun v20 =>
    R15_Calls_L1 n v11 v20 v3 ([]) 0))))
def R15_Calls_L1 : Nat → ((List Tm) × Tm) → (List Bool) → (List Me) → (List Int) → Int → Option ((List Int))
  | 0, _, _, _, _, _ => none
  | n + 1, v11, v20, v3, v44, v46 =>
    cond (decide (v46 < ((Tm.encL v11.1).length : Int))) (
    (idx v11.1 v46).bind (fun v48 =>
    (R03_Split n v48).bind (fun v53 =>
    (idx v20 v46).bind (fun v57 =>
    cond (!v57) (
    (R15_Find n v3 v53.2.n).bind (fun v62 =>
    cond (decide (v62 ≥ 0)) (
    cond (decide ((List.map (D.int .i64) (v44 ++ [v46])).length ≤ 1000000)) (
    R15_Calls_L1 n v11 v20 v3 (v44 ++ [v46]) (IntKind.i64.wrap (v46 + 1))) none) (
    R15_Calls_L1 n v11 v20 v3 v44 (IntKind.i64.wrap (v46 + 1))))) (
    R15_Calls_L1 n v11 v20 v3 v44 (IntKind.i64.wrap (v46 + 1))))))) (
    some (v44))
 end
theorem R15_Calls_spec (n : Nat) (v1 : (List Dc)) (v3 : (List Me)) (v5 : Int) (a2 : Option Addr) (c2 : Nat) (a4 : Option Addr) (c4 : Nat) (r : (List Int)) (hr : R15_Calls n v1 v3 v5 = some r) : Pure Tryz.prog (.val (.fn (.func 17) [] [])) [(.v (.slice a2 ((Dc.encL v1).length) c2)), (.v (.slice a4 ((Me.encL v3).length) c4)), (.v (.int .i64 v5))] [(.slice a2 ((Dc.encL v1).length) c2, .sl 6 (Dc.encL v1)), (.slice a4 ((Me.encL v3).length) c4, .sl 4 (Me.encL v3))] (fun r' out => ∃ (b1 : Option Addr) (d1 : Nat), r' = (.v (.slice b1 ((List.map (D.int .i64) r).length) d1)) ∧ out = [(.slice b1 ((List.map (D.int .i64) r).length) d1, .sl 1 (List.map (D.int .i64) r))]) := by
  rcases n with _ | n
  · exact no_some hr
  rw [R15_Calls.eq_2] at hr
  refine spec_of_body (N := 60) (m := 0) (dt := fun _ => none) [] ttOK Tryz.func17 rfl Tryz.call17 Tryz.ntmps17 rfl rfl rfl mixed (by kernel_rfl) ?_
  obtain ⟨v6, h7, hr⟩ := bind_some hr
  obtain ⟨h8, h9⟩ := idx_some h7
  refine at_index ttOK 0 rfl rfl rfl rfl h8 (Dc.encL_get h9) ?_
  intro a10 c10 _ _
  obtain ⟨v11, h12, hr⟩ := bind_some hr
  refine (R03_Split_spec n v6.cls a10 c10 _ h12).atR [2] rfl rfl rfl ?_
  rintro _ _ ⟨a13, c13, a14, c14, rfl, rfl⟩
  obtain ⟨v15, h16, hr⟩ := bind_some hr
  obtain ⟨h17, h18⟩ := idx_some h16
  refine at_index ttOK 0 rfl rfl rfl rfl h17 (Dc.encL_get h18) ?_
  intro a19 c19 _ _
  obtain ⟨v20, h21, hr⟩ := bind_some hr
  refine (R14_Dependent_spec n v15.cls a19 c19 _ h21).atR [5] rfl rfl rfl ?_
  rintro _ _ ⟨a22, c22, rfl, rfl⟩
  refine AtLoop.mk ⟨Nat × (List Int) × Option Addr × Nat × Int, fun x => [(1, (.v (.slice a4 ((Me.encL v3).length) c4))), (7, (.v (.slice a13 ((Tm.encL v11.1).length) c13))), (9, (.v (.slice a22 ((List.map D.bool v20).length) c22))), (10, (.v (.slice x.2.2.1 ((List.map (D.int .i64) x.2.1).length) x.2.2.2.1))), (11, (.v (.int .i64 x.2.2.2.2)))], fun x => ⟨[.imm [(.v (.string v6.name)), (.v (.int .i64 v6.cls.op)), (.v (.int .i64 v6.cls.hd)), (.v (.int .i64 v6.cls.n)), (.v (.slice a10 ((Tm.encL v6.cls.args).length) c10)), (.v (.int .i64 v6.implicit))], .cells 51 [(.v (.int .i64 v11.2.op)), (.v (.int .i64 v11.2.hd)), (.v (.int .i64 v11.2.n)), (.v (.slice a14 ((Tm.encL v11.2.args).length) c14))], .imm [(.v (.string v15.name)), (.v (.int .i64 v15.cls.op)), (.v (.int .i64 v15.cls.hd)), (.v (.int .i64 v15.cls.n)), (.v (.slice a19 ((Tm.encL v15.cls.args).length) c19)), (.v (.int .i64 v15.implicit))]], [⟨.slice x.2.2.1 ((List.map (D.int .i64) x.2.1).length) x.2.2.2.1, 1, 3, (List.map (D.int .i64) x.2.1)⟩], [(.slice a2 ((Dc.encL v1).length) c2, .sl 6 (Dc.encL v1)), (.slice a4 ((Me.encL v3).length) c4, .sl 4 (Me.encL v3)), (.slice a10 ((Tm.encL v6.cls.args).length) c10, .sl 4 (Tm.encL v6.cls.args)), (.slice a13 ((Tm.encL v11.1).length) c13, .sl 4 (Tm.encL v11.1)), (.slice a14 ((Tm.encL v11.2.args).length) c14, .sl 4 (Tm.encL v11.2.args)), (.slice a19 ((Tm.encL v15.cls.args).length) c19, .sl 4 (Tm.encL v15.cls.args)), (.slice a22 ((List.map D.bool v20).length) c22, .sl 1 (List.map D.bool v20))]⟩, fun x => R15_Calls_L1 x.1 v11 v20 v3 x.2.1 x.2.2.2.2 = some r, fun x => x.1, (n, [], none, 0, 0), hr, ⟨rfl, rfl, rfl, rfl, rfl, trivial⟩, (StLe.gen 3 [.nil 1 3] [.old 0, .old 1, .old 2, .old 3, .old 4, .old 5, .old 6] rfl rfl rfl rfl rfl rfl rfl), fun x _ => ⟨rfl, rfl⟩, ?_⟩
  rintro ⟨n, v44, a45, c45, v46⟩ HH
  have hr : R15_Calls_L1 n v11 v20 v3 v44 v46 = some r := HH
  rcases n with _ | n
  · exact no_some hr
  rw [R15_Calls_L1.eq_2] at hr
  refine AtIf.mk (fun h47 => ?_) (fun h47 => ?_)
  · replace hr := cond_t h47 hr
    obtain ⟨v48, h49, hr⟩ := bind_some hr
    obtain ⟨h50, h51⟩ := idx_some h49
    refine at_index ttOK 3 rfl rfl rfl rfl h50 (Tm.encL_get h51) ?_
    intro a52 c52 _ _
    obtain ⟨v53, h54, hr⟩ := bind_some hr
    refine (R03_Split_spec n v48 a52 c52 _ h54).atR [7] rfl rfl rfl ?_
    rintro _ _ ⟨a55, c55, a56, c56, rfl, rfl⟩
    obtain ⟨v57, h58, hr⟩ := bind_some hr
    obtain ⟨h59, h60⟩ := idx_some h58
    refine at_index ttOK 6 rfl rfl rfl rfl h59 (map_get D.bool h60) ?_
    refine AtGuard.mk (fun h61 => ?_) (fun h61 => ?_)
    · replace hr := cond_t h61 hr
      obtain ⟨v62, h63, hr⟩ := bind_some hr
      refine (R15_Find_spec n v3 v53.2.n a4 c4 _ h63).atR [1] rfl rfl rfl ?_
      rintro _ _ ⟨rfl, rfl⟩
      refine AtIf.mk (fun h64 => ?_) (fun h64 => ?_)
      · replace hr := cond_t h64 hr
        refine at_buildG (n := 1) ttOK 8 [.int .i64 v46] (ds' := (List.map (D.int .i64) ([v46]))) rfl (by kernel_rfl) ⟨⟨rfl, rfl, rfl, rfl⟩, trivial⟩ rfl rfl (by decide) (by decide) ?_
        intro a65
        obtain ⟨h66, hr⟩ := cond_need hr
        refine at_appendG (ds' := (List.map (D.int .i64) (v44 ++ [v46]))) ttOK 8 0 10 rfl (by kernel_rfl) rfl rfl rfl rfl (by simp only [List.map_append]) h66 (by decide) ?_
        intro a67 c67
        exact ⟨(n, (v44 ++ [v46]), a67, c67, (IntKind.i64.wrap (v46 + 1))), hr, Nat.lt_succ_self _, ⟨rfl, rfl, rfl, rfl, rfl, trivial⟩, (StLe.gen 3 [.old 0] [.old 0, .old 1, .old 2, .old 3, .old 4, .old 5, .old 6] rfl rfl rfl rfl rfl rfl rfl)⟩
      · replace hr := cond_f h64 hr
        exact ⟨(n, v44, a45, c45, (IntKind.i64.wrap (v46 + 1))), hr, Nat.lt_succ_self _, ⟨rfl, rfl, rfl, rfl, rfl, trivial⟩, (StLe.gen 3 [.old 0] [.old 0, .old 1, .old 2, .old 3, .old 4, .old 5, .old 6] rfl rfl rfl rfl rfl rfl rfl)⟩
    · replace hr := cond_f h61 hr
      refine AtIf.mk (fun h => ff h) (fun _ => ?_)
      exact ⟨(n, v44, a45, c45, (IntKind.i64.wrap (v46 + 1))), hr, Nat.lt_succ_self _, ⟨rfl, rfl, rfl, rfl, rfl, trivial⟩, (StLe.gen 3 [.old 0] [.old 0, .old 1, .old 2, .old 3, .old 4, .old 5, .old 6] rfl rfl rfl rfl rfl rfl rfl)⟩
  · replace hr := cond_f h47 hr
    replace hr := Option.some.inj hr
    subst hr
    exact AtRet.pureG [.froz 0] [(.slice a45 ((List.map (D.int .i64) v44).length) c45, .sl 1 (List.map (D.int .i64) v44))] rfl rfl ⟨a45, c45, rfl, rfl⟩
def R03_Pi : Nat → Tm → Tm → Option (Tm)
  | 0, _, _ => none
  | n + 1, v1, v3 =>
    some ((Tm.mk 2 0 0 ([v1, v3])))
theorem R03_Pi_spec (n : Nat) (v1 : Tm) (v3 : Tm) (a2 : Option Addr) (c2 : Nat) (a4 : Option Addr) (c4 : Nat) (r : Tm) (hr : R03_Pi n v1 v3 = some r) : Pure Tryz.prog (.val (.fn (.func 92) [] [])) [(.agg [(.v (.int .i64 v1.op)), (.v (.int .i64 v1.hd)), (.v (.int .i64 v1.n)), (.v (.slice a2 ((Tm.encL v1.args).length) c2))]), (.agg [(.v (.int .i64 v3.op)), (.v (.int .i64 v3.hd)), (.v (.int .i64 v3.n)), (.v (.slice a4 ((Tm.encL v3.args).length) c4))])] [(.slice a2 ((Tm.encL v1.args).length) c2, .sl 4 (Tm.encL v1.args)), (.slice a4 ((Tm.encL v3.args).length) c4, .sl 4 (Tm.encL v3.args))] (fun r' out => ∃ (b1 : Option Addr) (d1 : Nat), r' = (.agg [(.v (.int .i64 r.op)), (.v (.int .i64 r.hd)), (.v (.int .i64 r.n)), (.v (.slice b1 ((Tm.encL r.args).length) d1))]) ∧ out = [(.slice b1 ((Tm.encL r.args).length) d1, .sl 4 (Tm.encL r.args))]) := by
  rcases n with _ | n
  · exact no_some hr
  rw [R03_Pi.eq_2] at hr
  refine spec_of_body (N := 9) (m := 0) (dt := fun _ => none) [] ttOK Tryz.func92 rfl Tryz.call92 Tryz.ntmps92 rfl rfl rfl mixed (by kernel_rfl) ?_
  refine at_buildG (n := 2) ttOK 48 [.agg [.int .i64 v1.op, .int .i64 v1.hd, .int .i64 v1.n, .sl 4 (Tm.encL v1.args)], .agg [.int .i64 v3.op, .int .i64 v3.hd, .int .i64 v3.n, .sl 4 (Tm.encL v3.args)]] (ds' := (Tm.encL ([v1, v3]))) rfl (by kernel_rfl) ⟨⟨rfl, rfl, rfl, ⟨[(.v (.int .i64 v1.op))], _, rfl, rfl, ⟨[(.v (.int .i64 v1.hd))], _, rfl, rfl, ⟨[(.v (.int .i64 v1.n))], _, rfl, rfl, ⟨[(.v (.slice a2 ((Tm.encL v1.args).length) c2))], _, rfl, (.inl ⟨_, rfl, nth_mem (j := 0) rfl⟩), rfl⟩⟩⟩⟩⟩, ⟨⟨rfl, rfl, rfl, ⟨[(.v (.int .i64 v3.op))], _, rfl, rfl, ⟨[(.v (.int .i64 v3.hd))], _, rfl, rfl, ⟨[(.v (.int .i64 v3.n))], _, rfl, rfl, ⟨[(.v (.slice a4 ((Tm.encL v3.args).length) c4))], _, rfl, (.inl ⟨_, rfl, nth_mem (j := 1) rfl⟩), rfl⟩⟩⟩⟩⟩, trivial⟩⟩ rfl (by simp only [Tm.encL_eq, List.map_cons, List.map_nil, Tm.enc_eq] <;> rfl) (by decide) (by decide) ?_
  intro a5
  replace hr := Option.some.inj hr
  subst hr
  exact AtRet.pureG [.old 2] [(.slice a5 ((Tm.encL ([v1, v3])).length) 2, .sl 4 (Tm.encL ([v1, v3])))] rfl rfl ⟨a5, 2, rfl, rfl⟩
mutual
def R03_Join : Nat → (List Tm) → Tm → Option (Tm × Int)
  | 0, _, _ => none
  | n + 1, v1, v3 =>
    R03_Join_L1 n v1 v3 0
def R03_Join_L2 : Nat → (List Tm) → Tm → Int → Option (Tm × Int)
  | 0, _, _, _ => none
  | n + 1, v1, v31, v33 =>
    cond (decide (v33 ≥ 0)) (
    (idx v1 v33).bind (fun v35 =>
    (R03_Pi n v35 v31).bind (fun v40 =>
    R03_Join_L2 n v1 v40 (IntKind.i64.wrap (v33 - 1))))) (
    cond (!(refProper v31)) (
    some ((Tm.mk 0 0 0 ([])), 5)) (
    some (v31, 0)))
def R03_Join_L1 : Nat → (List Tm) → Tm → Int → Option (Tm × Int)
  | 0, _, _, _ => none
  | n + 1, v1, v3, v12 =>
    cond (decide (v12 < ((Tm.encL v1).length : Int))) (
    (idx v1 v12).bind (fun v14 =>
    cond (!(refProper v14)) (
    some ((Tm.mk 0 0 0 ([])), 2)) (
    R03_Join_L1 n v1 v3 (IntKind.i64.wrap (v12 + 1))))) (
    cond (!(refProper v3)) (
    some ((Tm.mk 0 0 0 ([])), 2)) (
    cond (decide (((Tm.encL v1).length : Int) > 40)) (
    some ((Tm.mk 0 0 0 ([])), 5)) (
    R03_Join_L2 n v1 v3 (IntKind.i64.wrap (((Tm.encL v1).length : Int) - 1)))))
 end
theorem R03_Join_spec (n : Nat) (v1 : (List Tm)) (v3 : Tm) (a2 : Option Addr) (c2 : Nat) (a4 : Option Addr) (c4 : Nat) (r : Tm × Int) (hr : R03_Join n v1 v3 = some r) : Pure Tryz.prog (.val (.fn (.func 62) [] [])) [(.v (.slice a2 ((Tm.encL v1).length) c2)), (.agg [(.v (.int .i64 v3.op)), (.v (.int .i64 v3.hd)), (.v (.int .i64 v3.n)), (.v (.slice a4 ((Tm.encL v3.args).length) c4))])] [(.slice a2 ((Tm.encL v1).length) c2, .sl 4 (Tm.encL v1)), (.slice a4 ((Tm.encL v3.args).length) c4, .sl 4 (Tm.encL v3.args))] (fun r' out => ∃ (b1 : Option Addr) (d1 : Nat), r' = (.tup [(.agg [(.v (.int .i64 r.1.op)), (.v (.int .i64 r.1.hd)), (.v (.int .i64 r.1.n)), (.v (.slice b1 ((Tm.encL r.1.args).length) d1))]), (.v (.int .i64 r.2))]) ∧ out = [(.slice b1 ((Tm.encL r.1.args).length) d1, .sl 4 (Tm.encL r.1.args))]) := by
  rcases n with _ | n
  · exact no_some hr
  rw [R03_Join.eq_2] at hr
  refine spec_of_body (N := 47) (m := 0) (dt := drawsOf [(13, .node [0, 1, 2, 3, 4] [(5, .node [] [(6, .leaf [])])], [5, 6], [])]) [] ttOK Tryz.func62 rfl Tryz.call62 Tryz.ntmps62 rfl rfl rfl mixed (by kernel_rfl) ?_
  refine AtLoop.mk ⟨Nat × Int, fun x => [(0, (.v (.slice a2 ((Tm.encL v1).length) c2))), (3, (.loc 0 0)), (4, (.loc 1 0)), (6, (.v (.int .i64 x.2)))], fun x => ⟨[.cells 51 [(.v (.int .i64 v3.op)), (.v (.int .i64 v3.hd)), (.v (.int .i64 v3.n)), (.v (.slice a4 ((Tm.encL v3.args).length) c4))], .cells 51 [(.v (.int .i64 0)), (.v (.int .i64 0)), (.v (.int .i64 0)), (.v (.slice none 0 0))]], [], [(.slice a2 ((Tm.encL v1).length) c2, .sl 4 (Tm.encL v1)), (.slice a4 ((Tm.encL v3.args).length) c4, .sl 4 (Tm.encL v3.args))]⟩, fun x => R03_Join_L1 x.1 v1 v3 x.2 = some r, fun x => x.1, (n, 0), hr, ⟨rfl, rfl, rfl, rfl, trivial⟩, (StLe.gen 2 [] [.old 0, .old 1] rfl rfl rfl rfl rfl rfl rfl), fun x _ => ⟨rfl, rfl⟩, ?_⟩
  rintro ⟨n, v12⟩ HH
  have hr : R03_Join_L1 n v1 v3 v12 = some r := HH
  rcases n with _ | n
  · exact no_some hr
  rw [R03_Join_L1.eq_2] at hr
  refine AtIf.mk (fun h13 => ?_) (fun h13 => ?_)
  · replace hr := cond_t h13 hr
    obtain ⟨v14, h15, hr⟩ := bind_some hr
    obtain ⟨h16, h17⟩ := idx_some h15
    refine at_index ttOK 0 rfl rfl rfl rfl h16 (Tm.encL_get h17) ?_
    intro a18 c18 _ _
    refine (refProper_spec v14 a18 c18).atR [2] rfl rfl rfl ?_
    rintro _ _ ⟨rfl, rfl⟩
    refine AtIf.mk (fun h19 => ?_) (fun h19 => ?_)
    · replace hr := cond_t h19 hr
      replace hr := Option.some.inj hr
      subst hr
      exact AtRet.pureG [.nil 4] [(.slice none 0 0, .sl 4 [])] rfl rfl ⟨none, 0, rfl, rfl⟩
    · replace hr := cond_f h19 hr
      exact ⟨(n, (IntKind.i64.wrap (v12 + 1))), hr, Nat.lt_succ_self _, ⟨rfl, rfl, rfl, rfl, trivial⟩, (StLe.gen 2 [] [.old 0, .old 1] rfl rfl rfl rfl rfl rfl rfl)⟩
  · replace hr := cond_f h13 hr
    refine (refProper_spec v3 a4 c4).atR [1] rfl rfl rfl ?_
    rintro _ _ ⟨rfl, rfl⟩
    refine AtIf.mk (fun h20 => ?_) (fun h20 => ?_)
    · replace hr := cond_t h20 hr
      replace hr := Option.some.inj hr
      subst hr
      exact AtRet.pureG [.nil 4] [(.slice none 0 0, .sl 4 [])] rfl rfl ⟨none, 0, rfl, rfl⟩
    · replace hr := cond_f h20 hr
      refine AtIf.mk (fun h21 => ?_) (fun h21 => ?_)
      · replace hr := cond_t h21 hr
        replace hr := Option.some.inj hr
        subst hr
        exact AtRet.pureG [.nil 4] [(.slice none 0 0, .sl 4 [])] rfl rfl ⟨none, 0, rfl, rfl⟩
      · replace hr := cond_f h21 hr
        refine AtLoop.mk ⟨Nat × Tm × Option Addr × Nat × Int, fun x => [(0, (.v (.slice a2 ((Tm.encL v1).length) c2))), (3, (.loc 0 0)), (4, (.loc 1 0)), (7, (.v (.int .i64 x.2.2.2.2)))], fun x => ⟨[.cells 51 [(.v (.int .i64 x.2.1.op)), (.v (.int .i64 x.2.1.hd)), (.v (.int .i64 x.2.1.n)), (.v (.slice x.2.2.1 ((Tm.encL x.2.1.args).length) x.2.2.2.1))], .cells 51 [(.v (.int .i64 0)), (.v (.int .i64 0)), (.v (.int .i64 0)), (.v (.slice none 0 0))]], [], [(.slice x.2.2.1 ((Tm.encL x.2.1.args).length) x.2.2.2.1, .sl 4 (Tm.encL x.2.1.args)), (.slice a2 ((Tm.encL v1).length) c2, .sl 4 (Tm.encL v1)), (.slice a4 ((Tm.encL v3.args).length) c4, .sl 4 (Tm.encL v3.args))]⟩, fun x => R03_Join_L2 x.1 v1 x.2.1 x.2.2.2.2 = some r, fun x => x.1, (n, v3, a4, c4, (IntKind.i64.wrap (((Tm.encL v1).length : Int) - 1))), hr, ⟨rfl, rfl, rfl, rfl, trivial⟩, (StLe.gen 2 [] [.old 1, .old 0, .old 1] rfl rfl rfl rfl rfl rfl rfl), fun x _ => ⟨rfl, rfl⟩, ?_⟩
        rintro ⟨n, v31, a32, c32, v33⟩ HH
        have hr : R03_Join_L2 n v1 v31 v33 = some r := HH
        rcases n with _ | n
        · exact no_some hr
        rw [R03_Join_L2.eq_2] at hr
        refine AtIf.mk (fun h34 => ?_) (fun h34 => ?_)
        · replace hr := cond_t h34 hr
          obtain ⟨v35, h36, hr⟩ := bind_some hr
          obtain ⟨h37, h38⟩ := idx_some h36
          refine at_index ttOK 1 rfl rfl rfl rfl h37 (Tm.encL_get h38) ?_
          intro a39 c39 _ _
          obtain ⟨v40, h41, hr⟩ := bind_some hr
          refine (R03_Pi_spec n v35 v31 a39 c39 a32 c32 _ h41).atR [3, 0] rfl rfl rfl ?_
          rintro _ _ ⟨a42, c42, rfl, rfl⟩
          exact ⟨(n, v40, a42, c42, (IntKind.i64.wrap (v33 - 1))), hr, Nat.lt_succ_self _, ⟨rfl, rfl, rfl, rfl, trivial⟩, (StLe.gen 2 [] [.old 4, .old 1, .old 2] rfl rfl rfl rfl rfl rfl rfl)⟩
        · replace hr := cond_f h34 hr
          refine (refProper_spec v31 a32 c32).atR [0] rfl rfl rfl ?_
          rintro _ _ ⟨rfl, rfl⟩
          refine AtIf.mk (fun h43 => ?_) (fun h43 => ?_)
          · replace hr := cond_t h43 hr
            replace hr := Option.some.inj hr
            subst hr
            exact AtRet.pureG [.nil 4] [(.slice none 0 0, .sl 4 [])] rfl rfl ⟨none, 0, rfl, rfl⟩
          · replace hr := cond_f h43 hr
            replace hr := Option.some.inj hr
            subst hr
            exact AtRet.pureG [.old 0] [(.slice a32 ((Tm.encL v31.args).length) c32, .sl 4 (Tm.encL v31.args))] rfl rfl ⟨a32, c32, rfl, rfl⟩
mutual
def R15_Lists : Nat → Od → Od → Int → (List Tm) → (List Tm) → Option (Int)
  | 0, _, _, _, _, _ => none
  | n + 1, v1, v3, v5, v6, v8 =>
    cond (v1.op == 1) (
    (idx v6 v1.n).bind (fun v11 =>
    (idx v8 v3.n).bind (fun v16 =>
    cond (decide (okAll v11 = true ∧ v11.height ≤ 1000000 ∧ okAll v16 = true ∧ v16.height ≤ 1000000 ∧ (0 : Int) ≤ v5 ∧ v5 ≤ (1000000 : Int))) (
    some ((cmpF v5 v11 v16))) none))) (
    R15_Lists_L1 n v1 v3 v5 v6 v8 false 0)
def R15_Lists_L1 : Nat → Od → Od → Int → (List Tm) → (List Tm) → Bool → Int → Option (Int)
  | 0, _, _, _, _, _, _, _ => none
  | n + 1, v1, v3, v5, v6, v8, v38, v39 =>
    cond (decide (v39 < ((Od.encL v1.parts).length : Int))) (
    (idx v1.parts v39).bind (fun v41 =>
    (idx v3.parts v39).bind (fun v46 =>
    (R15_Lists n v41 v46 v5 v6 v8).bind (fun v51 =>
    cond ((v1.op == 2) && (v51 != 1)) (
    some (v51)) (
    cond (v51 == 0) (
    some (0)) (
    cond (v51 == 2) (
    R15_Lists_L1 n v1 v3 v5 v6 v8 true (IntKind.i64.wrap (v39 + 1))) (
    R15_Lists_L1 n v1 v3 v5 v6 v8 v38 (IntKind.i64.wrap (v39 + 1))))))))) (
    cond v38 (
    some (2)) (
    some (1)))
 end
theorem R15_Lists_specN : ∀ (N : Nat), (∀ (n : Nat), n ≤ N → ∀ (v1 : Od) (v3 : Od) (v5 : Int) (v6 : (List Tm)) (v8 : (List Tm)) (a2 : Option Addr) (c2 : Nat) (a4 : Option Addr) (c4 : Nat) (a7 : Option Addr) (c7 : Nat) (a9 : Option Addr) (c9 : Nat) (r : Int), R15_Lists n v1 v3 v5 v6 v8 = some r → Pure Tryz.prog (.val (.fn (.func 64) [] [])) [(.agg [(.v (.int .i64 v1.op)), (.v (.int .i64 v1.n)), (.v (.slice a2 ((Od.encL v1.parts).length) c2))]), (.agg [(.v (.int .i64 v3.op)), (.v (.int .i64 v3.n)), (.v (.slice a4 ((Od.encL v3.parts).length) c4))]), (.v (.int .i64 v5)), (.v (.slice a7 ((Tm.encL v6).length) c7)), (.v (.slice a9 ((Tm.encL v8).length) c9))] [(.slice a2 ((Od.encL v1.parts).length) c2, .sl 3 (Od.encL v1.parts)), (.slice a4 ((Od.encL v3.parts).length) c4, .sl 3 (Od.encL v3.parts)), (.slice a7 ((Tm.encL v6).length) c7, .sl 4 (Tm.encL v6)), (.slice a9 ((Tm.encL v8).length) c9, .sl 4 (Tm.encL v8))] (fun r' out => r' = (.v (.int .i64 r)) ∧ out = [])) := by
  intro N
  induction N with
  | zero =>
    intro n hn v1 v3 v5 v6 v8 a2 c2 a4 c4 a7 c7 a9 c9 r hr; obtain rfl : n = 0 := (by omega); exact no_some hr
  | succ N ih =>
    intro n hn v1 v3 v5 v6 v8 a2 c2 a4 c4 a7 c7 a9 c9 r hr
    rcases n with _ | n
    · exact no_some hr
    replace hn : n ≤ N := by omega
    rw [R15_Lists.eq_2] at hr
    refine spec_of_body (N := 66) (m := 0) (dt := drawsOf [(2, .node [0, 1, 2, 3, 4, 5, 6, 7, 8, 9, 10] [(11, .leaf [12])], [11], []), (7, .node [0, 1, 2, 3, 4, 5, 6, 7, 8, 9, 10, 11, 12] [(13, .leaf [14])], [13], [])]) [] ttOK Tryz.func64 rfl Tryz.call64 Tryz.ntmps64 rfl rfl rfl mixed (by kernel_rfl) ?_
    refine AtIf.mk (fun h10 => ?_) (fun h10 => ?_)
    · replace hr := cond_t h10 hr
      obtain ⟨v11, h12, hr⟩ := bind_some hr
      obtain ⟨h13, h14⟩ := idx_some h12
      refine at_index ttOK 2 rfl rfl rfl rfl h13 (Tm.encL_get h14) ?_
      intro a15 c15 _ _
      obtain ⟨v16, h17, hr⟩ := bind_some hr
      obtain ⟨h18, h19⟩ := idx_some h17
      refine at_index ttOK 3 rfl rfl rfl rfl h18 (Tm.encL_get h19) ?_
      intro a20 c20 _ _
      obtain ⟨h21, hr⟩ := cond_need hr
      refine (refCompareG v5 v11 v16 a15 a20 c15 c20 h21).atR [4, 5] rfl rfl rfl ?_
      rintro _ _ ⟨rfl, rfl⟩
      replace hr := Option.some.inj hr
      subst hr
      exact AtRet.pureG [] [] rfl rfl ⟨rfl, rfl⟩
    · replace hr := cond_f h10 hr
      refine AtLoop.mk ⟨Nat × Bool × Int, fun x => [(2, (.v (.int .i64 v5))), (3, (.v (.slice a7 ((Tm.encL v6).length) c7))), (4, (.v (.slice a9 ((Tm.encL v8).length) c9))), (5, (.loc 0 0)), (6, (.loc 1 0)), (11, (.v (.bool x.2.1))), (12, (.v (.int .i64 x.2.2)))], fun x => ⟨[.cells 27 [(.v (.int .i64 v1.op)), (.v (.int .i64 v1.n)), (.v (.slice a2 ((Od.encL v1.parts).length) c2))], .cells 27 [(.v (.int .i64 v3.op)), (.v (.int .i64 v3.n)), (.v (.slice a4 ((Od.encL v3.parts).length) c4))]], [], [(.slice a2 ((Od.encL v1.parts).length) c2, .sl 3 (Od.encL v1.parts)), (.slice a4 ((Od.encL v3.parts).length) c4, .sl 3 (Od.encL v3.parts)), (.slice a7 ((Tm.encL v6).length) c7, .sl 4 (Tm.encL v6)), (.slice a9 ((Tm.encL v8).length) c9, .sl 4 (Tm.encL v8))]⟩, fun x => x.1 ≤ N ∧ R15_Lists_L1 x.1 v1 v3 v5 v6 v8 x.2.1 x.2.2 = some r, fun x => x.1, (n, false, 0), ⟨by omega, hr⟩, ⟨rfl, rfl, rfl, rfl, rfl, rfl, rfl, trivial⟩, (StLe.gen 2 [] [.old 0, .old 1, .old 2, .old 3] rfl rfl rfl rfl rfl rfl rfl), fun x _ => ⟨rfl, rfl⟩, ?_⟩
      rintro ⟨n, v38, v39⟩ HH
      obtain ⟨hn, hr⟩ : n ≤ N ∧ R15_Lists_L1 n v1 v3 v5 v6 v8 v38 v39 = some r := HH
      rcases n with _ | n
      · exact no_some hr
      rw [R15_Lists_L1.eq_2] at hr
      refine AtIf.mk (fun h40 => ?_) (fun h40 => ?_)
      · replace hr := cond_t h40 hr
        obtain ⟨v41, h42, hr⟩ := bind_some hr
        obtain ⟨h43, h44⟩ := idx_some h42
        refine at_index ttOK 0 rfl rfl rfl rfl h43 (Od.encL_get h44) ?_
        intro a45 c45 _ _
        obtain ⟨v46, h47, hr⟩ := bind_some hr
        obtain ⟨h48, h49⟩ := idx_some h47
        refine at_index ttOK 1 rfl rfl rfl rfl h48 (Od.encL_get h49) ?_
        intro a50 c50 _ _
        obtain ⟨v51, h52, hr⟩ := bind_some hr
        refine (ih n (by omega) v41 v46 v5 v6 v8 a45 c45 a50 c50 a7 c7 a9 c9 _ h52).atR [4, 5, 2, 3] rfl rfl rfl ?_
        rintro _ _ ⟨rfl, rfl⟩
        refine AtIf.mk (fun h53 => ?_) (fun h53 => ?_)
        · replace hr := cond_t h53 hr
          replace hr := Option.some.inj hr
          subst hr
          exact AtRet.pureG [] [] rfl rfl ⟨rfl, rfl⟩
        · replace hr := cond_f h53 hr
          refine AtIf.mk (fun h54 => ?_) (fun h54 => ?_)
          · replace hr := cond_t h54 hr
            replace hr := Option.some.inj hr
            subst hr
            exact AtRet.pureG [] [] rfl rfl ⟨rfl, rfl⟩
          · replace hr := cond_f h54 hr
            refine AtIf.mk (fun h55 => ?_) (fun h55 => ?_)
            · replace hr := cond_t h55 hr
              exact ⟨(n, true, (IntKind.i64.wrap (v39 + 1))), ⟨by omega, hr⟩, Nat.lt_succ_self _, ⟨rfl, rfl, rfl, rfl, rfl, rfl, rfl, trivial⟩, (StLe.gen 2 [] [.old 0, .old 1, .old 2, .old 3] rfl rfl rfl rfl rfl rfl rfl)⟩
            · replace hr := cond_f h55 hr
              exact ⟨(n, v38, (IntKind.i64.wrap (v39 + 1))), ⟨by omega, hr⟩, Nat.lt_succ_self _, ⟨rfl, rfl, rfl, rfl, rfl, rfl, rfl, trivial⟩, (StLe.gen 2 [] [.old 0, .old 1, .old 2, .old 3] rfl rfl rfl rfl rfl rfl rfl)⟩
      · replace hr := cond_f h40 hr
        refine AtIf.mk (fun h56 => ?_) (fun h56 => ?_)
        · replace hr := cond_t h56 hr
          replace hr := Option.some.inj hr
          subst hr
          exact AtRet.pureG [] [] rfl rfl ⟨rfl, rfl⟩
        · replace hr := cond_f h56 hr
          replace hr := Option.some.inj hr
          subst hr
          exact AtRet.pureG [] [] rfl rfl ⟨rfl, rfl⟩
theorem R15_Lists_spec (n : Nat) (v1 : Od) (v3 : Od) (v5 : Int) (v6 : (List Tm)) (v8 : (List Tm)) (a2 : Option Addr) (c2 : Nat) (a4 : Option Addr) (c4 : Nat) (a7 : Option Addr) (c7 : Nat) (a9 : Option Addr) (c9 : Nat) (r : Int) (hr : R15_Lists n v1 v3 v5 v6 v8 = some r) : Pure Tryz.prog (.val (.fn (.func 64) [] [])) [(.agg [(.v (.int .i64 v1.op)), (.v (.int .i64 v1.n)), (.v (.slice a2 ((Od.encL v1.parts).length) c2))]), (.agg [(.v (.int .i64 v3.op)), (.v (.int .i64 v3.n)), (.v (.slice a4 ((Od.encL v3.parts).length) c4))]), (.v (.int .i64 v5)), (.v (.slice a7 ((Tm.encL v6).length) c7)), (.v (.slice a9 ((Tm.encL v8).length) c9))] [(.slice a2 ((Od.encL v1.parts).length) c2, .sl 3 (Od.encL v1.parts)), (.slice a4 ((Od.encL v3.parts).length) c4, .sl 3 (Od.encL v3.parts)), (.slice a7 ((Tm.encL v6).length) c7, .sl 4 (Tm.encL v6)), (.slice a9 ((Tm.encL v8).length) c9, .sl 4 (Tm.encL v8))] (fun r' out => r' = (.v (.int .i64 r)) ∧ out = []) := (R15_Lists_specN n) n (Nat.le_refl _) v1 v3 v5 v6 v8 a2 c2 a4 c4 a7 c7 a9 c9 r hr
mutual
def R15_moved : Nat → (List Tm) → Int → Option ((List Tm))
  | 0, _, _ => none
  | n + 1, v1, v3 =>
    R15_moved_L1 n v1 v3 ([]) 0
def R15_moved_L1 : Nat → (List Tm) → Int → (List Tm) → Int → Option ((List Tm))
  | 0, _, _, _, _ => none
  | n + 1, v1, v3, v14, v16 =>
    cond (decide (v16 < ((Tm.encL v1).length : Int))) (
    (idx v1 v16).bind (fun v18 =>
    cond (decide ((Tm.encL (v14 ++ [((shiftF v18 v3 0).1)])).length ≤ 1000000)) (
    R15_moved_L1 n v1 v3 (v14 ++ [((shiftF v18 v3 0).1)]) (IntKind.i64.wrap (v16 + 1))) none)) (
    some (v14))
 end
theorem R15_moved_spec (n : Nat) (v1 : (List Tm)) (v3 : Int) (a2 : Option Addr) (c2 : Nat) (r : (List Tm)) (hr : R15_moved n v1 v3 = some r) : Pure Tryz.prog (.val (.fn (.func 65) [] [])) [(.v (.slice a2 ((Tm.encL v1).length) c2)), (.v (.int .i64 v3))] [(.slice a2 ((Tm.encL v1).length) c2, .sl 4 (Tm.encL v1))] (fun r' out => ∃ (b1 : Option Addr) (d1 : Nat), r' = (.v (.slice b1 ((Tm.encL r).length) d1)) ∧ out = [(.slice b1 ((Tm.encL r).length) d1, .sl 4 (Tm.encL r))]) := by
  rcases n with _ | n
  · exact no_some hr
  rw [R15_moved.eq_2] at hr
  refine spec_of_body (N := 29) (m := 0) (dt := fun _ => none) [] ttOK Tryz.func65 rfl Tryz.call65 Tryz.ntmps65 rfl rfl rfl mixed (by kernel_rfl) ?_
  refine AtLoop.mk ⟨Nat × (List Tm) × Option Addr × Nat × Int, fun x => [(0, (.v (.slice a2 ((Tm.encL v1).length) c2))), (1, (.v (.int .i64 v3))), (5, (.v (.slice x.2.2.1 ((Tm.encL x.2.1).length) x.2.2.2.1))), (6, (.v (.int .i64 x.2.2.2.2)))], fun x => ⟨[], [⟨.slice x.2.2.1 ((Tm.encL x.2.1).length) x.2.2.2.1, 4, 51, (Tm.encL x.2.1)⟩], [(.slice a2 ((Tm.encL v1).length) c2, .sl 4 (Tm.encL v1))]⟩, fun x => R15_moved_L1 x.1 v1 v3 x.2.1 x.2.2.2.2 = some r, fun x => x.1, (n, [], none, 0, 0), hr, ⟨rfl, rfl, rfl, rfl, trivial⟩, (StLe.gen 0 [.nil 4 51] [.old 0] rfl rfl rfl rfl rfl rfl rfl), fun x _ => ⟨rfl, rfl⟩, ?_⟩
  rintro ⟨n, v14, a15, c15, v16⟩ HH
  have hr : R15_moved_L1 n v1 v3 v14 v16 = some r := HH
  rcases n with _ | n
  · exact no_some hr
  rw [R15_moved_L1.eq_2] at hr
  refine AtIf.mk (fun h17 => ?_) (fun h17 => ?_)
  · replace hr := cond_t h17 hr
    obtain ⟨v18, h19, hr⟩ := bind_some hr
    obtain ⟨h20, h21⟩ := idx_some h19
    refine at_index ttOK 0 rfl rfl rfl rfl h20 (Tm.encL_get h21) ?_
    intro a22 c22 _ _
    refine (shift_spec v18 v3 0 a22 c22).atR [1] rfl rfl rfl ?_
    rintro _ _ ⟨a23, c23, rfl, rfl⟩
    refine at_buildG (n := 1) ttOK 48 [.agg [.int .i64 (((shiftF v18 v3 0).1).op), .int .i64 (((shiftF v18 v3 0).1).hd), .int .i64 (((shiftF v18 v3 0).1).n), .sl 4 (Tm.encL (((shiftF v18 v3 0).1).args))]] (ds' := (Tm.encL ([((shiftF v18 v3 0).1)]))) rfl (by kernel_rfl) ⟨⟨rfl, rfl, rfl, ⟨[(.v (.int .i64 (((shiftF v18 v3 0).1).op)))], _, rfl, rfl, ⟨[(.v (.int .i64 (((shiftF v18 v3 0).1).hd)))], _, rfl, rfl, ⟨[(.v (.int .i64 (((shiftF v18 v3 0).1).n)))], _, rfl, rfl, ⟨[(.v (.slice a23 ((Tm.encL (((shiftF v18 v3 0).1).args)).length) c23))], _, rfl, (.inl ⟨_, rfl, nth_mem (j := 2) rfl⟩), rfl⟩⟩⟩⟩⟩, trivial⟩ rfl (by simp only [Tm.encL_eq, List.map_cons, List.map_nil, Tm.enc_eq] <;> rfl) (by decide) (by decide) ?_
    intro a24
    obtain ⟨h25, hr⟩ := cond_need hr
    refine at_appendG (ds' := (Tm.encL (v14 ++ [((shiftF v18 v3 0).1)]))) ttOK 48 0 3 rfl (by kernel_rfl) rfl rfl rfl rfl (by simp only [Tm.encL_eq, List.map_append]) h25 (by decide) ?_
    intro a26 c26
    exact ⟨(n, (v14 ++ [((shiftF v18 v3 0).1)]), a26, c26, (IntKind.i64.wrap (v16 + 1))), hr, Nat.lt_succ_self _, ⟨rfl, rfl, rfl, rfl, trivial⟩, (StLe.gen 0 [.old 0] [.old 0] rfl rfl rfl rfl rfl rfl rfl)⟩
  · replace hr := cond_f h17 hr
    replace hr := Option.some.inj hr
    subst hr
    exact AtRet.pureG [.froz 0] [(.slice a15 ((Tm.encL v14).length) c15, .sl 4 (Tm.encL v14))] rfl rfl ⟨a15, c15, rfl, rfl⟩
def R15_Smaller : Nat → (List Dc) → (List Me) → Int → Int → Option (Bool)
  | 0, _, _, _, _ => none
  | n + 1, v1, v3, v5, v6 =>
    (idx v1 v5).bind (fun v7 =>
    (R03_Split n v7.cls).bind (fun v12 =>
    (idx v12.1 v6).bind (fun v16 =>
    (R03_Split n v16).bind (fun v21 =>
    (R15_Find n v3 v12.2.n).bind (fun v25 =>
    (R15_Find n v3 v21.2.n).bind (fun v27 =>
    cond (decide (v25 < 0)) (
    some (false)) (
    (idx v3 v27).bind (fun v30 =>
    (idx v3 v25).bind (fun v35 =>
    cond (!(simF v30.order v35.order)) (
    some (false)) (
    (R03_Join n v21.1 v21.2).bind (fun v41 =>
    (R03_Split n ((shiftF v41.1 (IntKind.i64.wrap (((Tm.encL v12.1).length : Int) - v6)) 0).1)).bind (fun v45 =>
    (idx v3 v27).bind (fun v49 =>
    (idx v3 v25).bind (fun v54 =>
    (R15_moved n v12.2.args ((Tm.encL v21.1).length : Int)).bind (fun v59 =>
    (R15_Lists n v49.order v54.order ((Tm.encL v21.1).length : Int) v45.2.args v59).bind (fun v62 =>
    some ((v62 == 2))))))))))))))))))
theorem R15_Smaller_spec (n : Nat) (v1 : (List Dc)) (v3 : (List Me)) (v5 : Int) (v6 : Int) (a2 : Option Addr) (c2 : Nat) (a4 : Option Addr) (c4 : Nat) (r : Bool) (hr : R15_Smaller n v1 v3 v5 v6 = some r) : Pure Tryz.prog (.val (.fn (.func 36) [] [])) [(.v (.slice a2 ((Dc.encL v1).length) c2)), (.v (.slice a4 ((Me.encL v3).length) c4)), (.v (.int .i64 v5)), (.v (.int .i64 v6))] [(.slice a2 ((Dc.encL v1).length) c2, .sl 6 (Dc.encL v1)), (.slice a4 ((Me.encL v3).length) c4, .sl 4 (Me.encL v3))] (fun r' out => r' = (.v (.bool r)) ∧ out = []) := by
  rcases n with _ | n
  · exact no_some hr
  rw [R15_Smaller.eq_2] at hr
  refine spec_of_body (N := 99) (m := 0) (dt := drawsOf [(3, .node [0, 1, 2, 4, 5, 6] [(3, .node [] [(7, .leaf [8, 9])])], [7], []), (4, .node [0, 1, 2, 3, 4, 5, 6, 7, 8, 9, 10, 11, 12] [(13, .leaf [14, 15])], [13], []), (9, .node [0, 1, 2, 3, 4, 5, 6, 7, 8, 9, 10, 11, 12, 13, 14, 15, 16, 17] [(18, .node [] [(19, .leaf [20, 21])])], [19], [])]) [] ttOK Tryz.func36 rfl Tryz.call36 Tryz.ntmps36 rfl rfl rfl mixed (by kernel_rfl) ?_
  obtain ⟨v7, h8, hr⟩ := bind_some hr
  obtain ⟨h9, h10⟩ := idx_some h8
  refine at_index ttOK 0 rfl rfl rfl rfl h9 (Dc.encL_get h10) ?_
  intro a11 c11 _ _
  obtain ⟨v12, h13, hr⟩ := bind_some hr
  refine (R03_Split_spec n v7.cls a11 c11 _ h13).atR [2] rfl rfl rfl ?_
  rintro _ _ ⟨a14, c14, a15, c15, rfl, rfl⟩
  obtain ⟨v16, h17, hr⟩ := bind_some hr
  obtain ⟨h18, h19⟩ := idx_some h17
  refine at_index ttOK 3 rfl rfl rfl rfl h18 (Tm.encL_get h19) ?_
  intro a20 c20 _ _
  obtain ⟨v21, h22, hr⟩ := bind_some hr
  refine (R03_Split_spec n v16 a20 c20 _ h22).atR [5] rfl rfl rfl ?_
  rintro _ _ ⟨a23, c23, a24, c24, rfl, rfl⟩
  obtain ⟨v25, h26, hr⟩ := bind_some hr
  refine (R15_Find_spec n v3 v12.2.n a4 c4 _ h26).atR [1] rfl rfl rfl ?_
  rintro _ _ ⟨rfl, rfl⟩
  refine ⟨fun _ _ h => h, ?_⟩
  obtain ⟨v27, h28, hr⟩ := bind_some hr
  refine (R15_Find_spec n v3 v21.2.n a4 c4 _ h28).atR [1] rfl rfl rfl ?_
  rintro _ _ ⟨rfl, rfl⟩
  refine AtGuard.mk (fun h29 => ?_) (fun h29 => ?_)
  · replace hr := cond_f h29 hr
    obtain ⟨v30, h31, hr⟩ := bind_some hr
    obtain ⟨h32, h33⟩ := idx_some h31
    refine at_index ttOK 1 rfl rfl rfl rfl h32 (Me.encL_get h33) ?_
    intro a34 c34 _ _
    obtain ⟨v35, h36, hr⟩ := bind_some hr
    obtain ⟨h37, h38⟩ := idx_some h36
    refine at_index ttOK 1 rfl rfl rfl rfl h37 (Me.encL_get h38) ?_
    intro a39 c39 _ _
    refine (refSimilar0 v30.order v35.order a34 c34 a39 c39).atR [8, 9] rfl rfl rfl ?_
    rintro _ _ ⟨rfl, rfl⟩
    refine AtIf.mk (fun h40 => ?_) (fun h40 => ?_)
    · replace hr := cond_t h40 hr
      replace hr := Option.some.inj hr
      subst hr
      exact AtRet.pureG [] [] rfl rfl ⟨rfl, rfl⟩
    · replace hr := cond_f h40 hr
      obtain ⟨v41, h42, hr⟩ := bind_some hr
      refine (R03_Join_spec n v21.1 v21.2 a23 c23 a24 c24 _ h42).atR [6, 7] rfl rfl rfl ?_
      rintro _ _ ⟨a43, c43, rfl, rfl⟩
      refine (shift_spec v41.1 (IntKind.i64.wrap (((Tm.encL v12.1).length : Int) - v6)) 0 a43 c43).atR [10] rfl rfl rfl ?_
      rintro _ _ ⟨a44, c44, rfl, rfl⟩
      obtain ⟨v45, h46, hr⟩ := bind_some hr
      refine (R03_Split_spec n ((shiftF v41.1 (IntKind.i64.wrap (((Tm.encL v12.1).length : Int) - v6)) 0).1) a44 c44 _ h46).atR [11] rfl rfl rfl ?_
      rintro _ _ ⟨a47, c47, a48, c48, rfl, rfl⟩
      obtain ⟨v49, h50, hr⟩ := bind_some hr
      obtain ⟨h51, h52⟩ := idx_some h50
      refine at_index ttOK 1 rfl rfl rfl rfl h51 (Me.encL_get h52) ?_
      intro a53 c53 _ _
      obtain ⟨v54, h55, hr⟩ := bind_some hr
      obtain ⟨h56, h57⟩ := idx_some h55
      refine at_index ttOK 1 rfl rfl rfl rfl h56 (Me.encL_get h57) ?_
      intro a58 c58 _ _
      obtain ⟨v59, h60, hr⟩ := bind_some hr
      refine (R15_moved_spec n v12.2.args ((Tm.encL v21.1).length : Int) a15 c15 _ h60).atR [4] rfl rfl rfl ?_
      rintro _ _ ⟨a61, c61, rfl, rfl⟩
      refine ⟨fun _ _ h => h, ?_⟩
      obtain ⟨v62, h63, hr⟩ := bind_some hr
      refine (R15_Lists_spec n v49.order v54.order ((Tm.encL v21.1).length : Int) v45.2.args v59 a53 c53 a58 c58 a48 c48 a61 c61 _ h63).atR [14, 15, 13, 16] rfl rfl rfl ?_
      rintro _ _ ⟨rfl, rfl⟩
      replace hr := Option.some.inj hr
      subst hr
      exact AtRet.pureG [] [] rfl rfl ⟨rfl, rfl⟩
  · replace hr := cond_t h29 hr
    refine AtIf.mk (fun _ => ?_) (fun h => tf h)
    replace hr := Option.some.inj hr
    subst hr
    exact AtRet.pureG [] [] rfl rfl ⟨rfl, rfl⟩
mutual
def R15_Check : Nat → (List Dc) → (List Me) → Int → Option (Int)
  | 0, _, _, _ => none
  | n + 1, v1, v3, v5 =>
    (R15_Calls n v1 v3 v5).bind (fun v6 =>
    R15_Check_L1 n v6 v1 v3 v5 (IntKind.i64.wrap (((List.map (D.int .i64) v6).length : Int) - 1)))
def R15_Check_L1 : Nat → (List Int) → (List Dc) → (List Me) → Int → Int → Option (Int)
  | 0, _, _, _, _, _ => none
  | n + 1, v6, v1, v3, v5, v21 =>
    cond (decide (v21 ≥ 0)) (
    (idx v6 v21).bind (fun v23 =>
    (R15_Smaller n v1 v3 v5 v23).bind (fun v27 =>
    cond (!v27) (
    (idx v6 v21).bind (fun v30 =>
    some (v30))) (
    R15_Check_L1 n v6 v1 v3 v5 (IntKind.i64.wrap (v21 - 1)))))) (
    some ((-1)))
 end
theorem R15_Check_spec (n : Nat) (v1 : (List Dc)) (v3 : (List Me)) (v5 : Int) (a2 : Option Addr) (c2 : Nat) (a4 : Option Addr) (c4 : Nat) (r : Int) (hr : R15_Check n v1 v3 v5 = some r) : Pure Tryz.prog (.val (.fn (.func 15) [] [])) [(.v (.slice a2 ((Dc.encL v1).length) c2)), (.v (.slice a4 ((Me.encL v3).length) c4)), (.v (.int .i64 v5))] [(.slice a2 ((Dc.encL v1).length) c2, .sl 6 (Dc.encL v1)), (.slice a4 ((Me.encL v3).length) c4, .sl 4 (Me.encL v3))] (fun r' out => r' = (.v (.int .i64 r)) ∧ out = []) := by
  rcases n with _ | n
  · exact no_some hr
  rw [R15_Check.eq_2] at hr
  refine spec_of_body (N := 33) (m := 0) (dt := fun _ => none) [] ttOK Tryz.func15 rfl Tryz.call15 Tryz.ntmps15 rfl rfl rfl mixed (by kernel_rfl) ?_
  obtain ⟨v6, h7, hr⟩ := bind_some hr
  refine (R15_Calls_spec n v1 v3 v5 a2 c2 a4 c4 _ h7).atR [0, 1] rfl rfl rfl ?_
  rintro _ _ ⟨a8, c8, rfl, rfl⟩
  refine AtLoop.mk ⟨Nat × Int, fun x => [(0, (.v (.slice a2 ((Dc.encL v1).length) c2))), (1, (.v (.slice a4 ((Me.encL v3).length) c4))), (2, (.v (.int .i64 v5))), (7, (.v (.slice a8 ((List.map (D.int .i64) v6).length) c8))), (8, (.v (.int .i64 x.2)))], fun x => ⟨[], [], [(.slice a2 ((Dc.encL v1).length) c2, .sl 6 (Dc.encL v1)), (.slice a4 ((Me.encL v3).length) c4, .sl 4 (Me.encL v3)), (.slice a8 ((List.map (D.int .i64) v6).length) c8, .sl 1 (List.map (D.int .i64) v6))]⟩, fun x => R15_Check_L1 x.1 v6 v1 v3 v5 x.2 = some r, fun x => x.1, (n, (IntKind.i64.wrap (((List.map (D.int .i64) v6).length : Int) - 1))), hr, ⟨rfl, rfl, rfl, rfl, rfl, trivial⟩, (StLe.gen 0 [] [.old 0, .old 1, .old 2] rfl rfl rfl rfl rfl rfl rfl), fun x _ => ⟨rfl, rfl⟩, ?_⟩
  rintro ⟨n, v21⟩ HH
  have hr : R15_Check_L1 n v6 v1 v3 v5 v21 = some r := HH
  rcases n with _ | n
  · exact no_some hr
  rw [R15_Check_L1.eq_2] at hr
  refine AtIf.mk (fun h22 => ?_) (fun h22 => ?_)
  · replace hr := cond_t h22 hr
    obtain ⟨v23, h24, hr⟩ := bind_some hr
    obtain ⟨h25, h26⟩ := idx_some h24
    refine at_index ttOK 2 rfl rfl rfl rfl h25 (map_get (D.int .i64) h26) ?_
    obtain ⟨v27, h28, hr⟩ := bind_some hr
    refine (R15_Smaller_spec n v1 v3 v5 v23 a2 c2 a4 c4 _ h28).atR [0, 1] rfl rfl rfl ?_
    rintro _ _ ⟨rfl, rfl⟩
    refine AtIf.mk (fun h29 => ?_) (fun h29 => ?_)
    · replace hr := cond_t h29 hr
      obtain ⟨v30, h31, hr⟩ := bind_some hr
      obtain ⟨h32, h33⟩ := idx_some h31
      refine at_index ttOK 2 rfl rfl rfl rfl h32 (map_get (D.int .i64) h33) ?_
      replace hr := Option.some.inj hr
      subst hr
      exact AtRet.pureG [] [] rfl rfl ⟨rfl, rfl⟩
    · replace hr := cond_f h29 hr
      exact ⟨(n, (IntKind.i64.wrap (v21 - 1))), hr, Nat.lt_succ_self _, ⟨rfl, rfl, rfl, rfl, rfl, trivial⟩, (StLe.gen 0 [] [.old 0, .old 1, .old 2] rfl rfl rfl rfl rfl rfl rfl)⟩
  · replace hr := cond_f h22 hr
    replace hr := Option.some.inj hr
    subst hr
    exact AtRet.pureG [] [] rfl rfl ⟨rfl, rfl⟩
mutual
def R05_Of : Nat → (List Dc) → Int → Option ((List Int))
  | 0, _, _ => none
  | n + 1, v1, v3 =>
    R05_Of_L1 n v1 v3 ([]) 0
def R05_Of_L1 : Nat → (List Dc) → Int → (List Int) → Int → Option ((List Int))
  | 0, _, _, _, _ => none
  | n + 1, v1, v3, v14, v16 =>
    cond (decide (v16 < ((Dc.encL v1).length : Int))) (
    (R05_family n v1 v16).bind (fun v18 =>
    cond (!v18) (
    (R05_Target n v1 v16).bind (fun v21 =>
    cond (v21 == v3) (
    cond (decide ((List.map (D.int .i64) (v14 ++ [v16])).length ≤ 1000000)) (
    R05_Of_L1 n v1 v3 (v14 ++ [v16]) (IntKind.i64.wrap (v16 + 1))) none) (
    R05_Of_L1 n v1 v3 v14 (IntKind.i64.wrap (v16 + 1))))) (
    R05_Of_L1 n v1 v3 v14 (IntKind.i64.wrap (v16 + 1))))) (
    some (v14))
 end
theorem R05_Of_spec (n : Nat) (v1 : (List Dc)) (v3 : Int) (a2 : Option Addr) (c2 : Nat) (r : (List Int)) (hr : R05_Of n v1 v3 = some r) : Pure Tryz.prog (.val (.fn (.func 35) [] [])) [(.v (.slice a2 ((Dc.encL v1).length) c2)), (.v (.int .i64 v3))] [(.slice a2 ((Dc.encL v1).length) c2, .sl 6 (Dc.encL v1))] (fun r' out => ∃ (b1 : Option Addr) (d1 : Nat), r' = (.v (.slice b1 ((List.map (D.int .i64) r).length) d1)) ∧ out = [(.slice b1 ((List.map (D.int .i64) r).length) d1, .sl 1 (List.map (D.int .i64) r))]) := by
  rcases n with _ | n
  · exact no_some hr
  rw [R05_Of.eq_2] at hr
  refine spec_of_body (N := 29) (m := 0) (dt := fun _ => none) [] ttOK Tryz.func35 rfl Tryz.call35 Tryz.ntmps35 rfl rfl rfl mixed (by kernel_rfl) ?_
  refine AtLoop.mk ⟨Nat × (List Int) × Option Addr × Nat × Int, fun x => [(0, (.v (.slice a2 ((Dc.encL v1).length) c2))), (1, (.v (.int .i64 v3))), (5, (.v (.slice x.2.2.1 ((List.map (D.int .i64) x.2.1).length) x.2.2.2.1))), (8, (.v (.int .i64 ((Dc.encL v1).length : Int)))), (9, (.v (.int .i64 x.2.2.2.2)))], fun x => ⟨[], [⟨.slice x.2.2.1 ((List.map (D.int .i64) x.2.1).length) x.2.2.2.1, 1, 3, (List.map (D.int .i64) x.2.1)⟩], [(.slice a2 ((Dc.encL v1).length) c2, .sl 6 (Dc.encL v1))]⟩, fun x => R05_Of_L1 x.1 v1 v3 x.2.1 x.2.2.2.2 = some r, fun x => x.1, (n, [], none, 0, 0), hr, ⟨rfl, rfl, rfl, rfl, rfl, trivial⟩, (StLe.gen 0 [.nil 1 3] [.old 0] rfl rfl rfl rfl rfl rfl rfl), fun x _ => ⟨rfl, rfl⟩, ?_⟩
  rintro ⟨n, v14, a15, c15, v16⟩ HH
  have hr : R05_Of_L1 n v1 v3 v14 v16 = some r := HH
  rcases n with _ | n
  · exact no_some hr
  rw [R05_Of_L1.eq_2] at hr
  refine AtIf.mk (fun h17 => ?_) (fun h17 => ?_)
  · replace hr := cond_t h17 hr
    obtain ⟨v18, h19, hr⟩ := bind_some hr
    refine (R05_family_spec n v1 v16 a2 c2 _ h19).atR [0] rfl rfl rfl ?_
    rintro _ _ ⟨rfl, rfl⟩
    refine AtGuard.mk (fun h20 => ?_) (fun h20 => ?_)
    · replace hr := cond_t h20 hr
      obtain ⟨v21, h22, hr⟩ := bind_some hr
      refine (R05_Target_spec n v1 v16 a2 c2 _ h22).atR [0] rfl rfl rfl ?_
      rintro _ _ ⟨rfl, rfl⟩
      refine AtIf.mk (fun h23 => ?_) (fun h23 => ?_)
      · replace hr := cond_t h23 hr
        refine at_buildG (n := 1) ttOK 8 [.int .i64 v16] (ds' := (List.map (D.int .i64) ([v16]))) rfl (by kernel_rfl) ⟨⟨rfl, rfl, rfl, rfl⟩, trivial⟩ rfl rfl (by decide) (by decide) ?_
        intro a24
        obtain ⟨h25, hr⟩ := cond_need hr
        refine at_appendG (ds' := (List.map (D.int .i64) (v14 ++ [v16]))) ttOK 8 0 1 rfl (by kernel_rfl) rfl rfl rfl rfl (by simp only [List.map_append]) h25 (by decide) ?_
        intro a26 c26
        exact ⟨(n, (v14 ++ [v16]), a26, c26, (IntKind.i64.wrap (v16 + 1))), hr, Nat.lt_succ_self _, ⟨rfl, rfl, rfl, rfl, rfl, trivial⟩, (StLe.gen 0 [.old 0] [.old 0] rfl rfl rfl rfl rfl rfl rfl)⟩
      · replace hr := cond_f h23 hr
        exact ⟨(n, v14, a15, c15, (IntKind.i64.wrap (v16 + 1))), hr, Nat.lt_succ_self _, ⟨rfl, rfl, rfl, rfl, rfl, trivial⟩, (StLe.gen 0 [.old 0] [.old 0] rfl rfl rfl rfl rfl rfl rfl)⟩
    · replace hr := cond_f h20 hr
      refine AtIf.mk (fun h => ff h) (fun _ => ?_)
      exact ⟨(n, v14, a15, c15, (IntKind.i64.wrap (v16 + 1))), hr, Nat.lt_succ_self _, ⟨rfl, rfl, rfl, rfl, rfl, trivial⟩, (StLe.gen 0 [.old 0] [.old 0] rfl rfl rfl rfl rfl rfl rfl)⟩
  · replace hr := cond_f h17 hr
    replace hr := Option.some.inj hr
    subst hr
    exact AtRet.pureG [.froz 0] [(.slice a15 ((List.map (D.int .i64) v14).length) c15, .sl 1 (List.map (D.int .i64) v14))] rfl rfl ⟨a15, c15, rfl, rfl⟩
mutual
def R15_All : Nat → (List Dc) → (List Me) → Int → Option (Int × Int × Bool)
  | 0, _, _, _ => none
  | n + 1, v1, v3, v5 =>
    (R05_Of n v1 v5).bind (fun v6 =>
    R15_All_L1 n v6 v1 v3 0)
def R15_All_L1 : Nat → (List Int) → (List Dc) → (List Me) → Int → Option (Int × Int × Bool)
  | 0, _, _, _, _ => none
  | n + 1, v6, v1, v3, v21 =>
    cond (decide (v21 < ((List.map (D.int .i64) v6).length : Int))) (
    (idx v6 v21).bind (fun v23 =>
    (R15_Check n v1 v3 v23).bind (fun v27 =>
    cond (decide (v27 ≥ 0)) (
    (idx v6 v21).bind (fun v30 =>
    some (v30, v27, true))) (
    R15_All_L1 n v6 v1 v3 (IntKind.i64.wrap (v21 + 1)))))) (
    some (0, 0, false))
 end
theorem R15_All_spec (n : Nat) (v1 : (List Dc)) (v3 : (List Me)) (v5 : Int) (a2 : Option Addr) (c2 : Nat) (a4 : Option Addr) (c4 : Nat) (r : Int × Int × Bool) (hr : R15_All n v1 v3 v5 = some r) : Pure Tryz.prog (.val (.fn (.func 14) [] [])) [(.v (.slice a2 ((Dc.encL v1).length) c2)), (.v (.slice a4 ((Me.encL v3).length) c4)), (.v (.int .i64 v5))] [(.slice a2 ((Dc.encL v1).length) c2, .sl 6 (Dc.encL v1)), (.slice a4 ((Me.encL v3).length) c4, .sl 4 (Me.encL v3))] (fun r' out => r' = (.tup [(.v (.int .i64 r.1)), (.v (.int .i64 r.2.1)), (.v (.bool r.2.2))]) ∧ out = []) := by
  rcases n with _ | n
  · exact no_some hr
  rw [R15_All.eq_2] at hr
  refine spec_of_body (N := 35) (m := 0) (dt := fun _ => none) [] ttOK Tryz.func14 rfl Tryz.call14 Tryz.ntmps14 rfl rfl rfl mixed (by kernel_rfl) ?_
  obtain ⟨v6, h7, hr⟩ := bind_some hr
  refine (R05_Of_spec n v1 v5 a2 c2 _ h7).atR [0] rfl rfl rfl ?_
  rintro _ _ ⟨a8, c8, rfl, rfl⟩
  refine AtLoop.mk ⟨Nat × Int, fun x => [(0, (.v (.slice a2 ((Dc.encL v1).length) c2))), (1, (.v (.slice a4 ((Me.encL v3).length) c4))), (9, (.v (.slice a8 ((List.map (D.int .i64) v6).length) c8))), (10, (.v (.int .i64 x.2)))], fun x => ⟨[], [], [(.slice a2 ((Dc.encL v1).length) c2, .sl 6 (Dc.encL v1)), (.slice a4 ((Me.encL v3).length) c4, .sl 4 (Me.encL v3)), (.slice a8 ((List.map (D.int .i64) v6).length) c8, .sl 1 (List.map (D.int .i64) v6))]⟩, fun x => R15_All_L1 x.1 v6 v1 v3 x.2 = some r, fun x => x.1, (n, 0), hr, ⟨rfl, rfl, rfl, rfl, trivial⟩, (StLe.gen 0 [] [.old 0, .old 1, .old 2] rfl rfl rfl rfl rfl rfl rfl), fun x _ => ⟨rfl, rfl⟩, ?_⟩
  rintro ⟨n, v21⟩ HH
  have hr : R15_All_L1 n v6 v1 v3 v21 = some r := HH
  rcases n with _ | n
  · exact no_some hr
  rw [R15_All_L1.eq_2] at hr
  refine AtIf.mk (fun h22 => ?_) (fun h22 => ?_)
  · replace hr := cond_t h22 hr
    obtain ⟨v23, h24, hr⟩ := bind_some hr
    obtain ⟨h25, h26⟩ := idx_some h24
    refine at_index ttOK 2 rfl rfl rfl rfl h25 (map_get (D.int .i64) h26) ?_
    obtain ⟨v27, h28, hr⟩ := bind_some hr
    refine (R15_Check_spec n v1 v3 v23 a2 c2 a4 c4 _ h28).atR [0, 1] rfl rfl rfl ?_
    rintro _ _ ⟨rfl, rfl⟩
    refine AtIf.mk (fun h29 => ?_) (fun h29 => ?_)
    · replace hr := cond_t h29 hr
      obtain ⟨v30, h31, hr⟩ := bind_some hr
      obtain ⟨h32, h33⟩ := idx_some h31
      refine at_index ttOK 2 rfl rfl rfl rfl h32 (map_get (D.int .i64) h33) ?_
      replace hr := Option.some.inj hr
      subst hr
      exact AtRet.pureG [] [] rfl rfl ⟨rfl, rfl⟩
    · replace hr := cond_f h29 hr
      exact ⟨(n, (IntKind.i64.wrap (v21 + 1))), hr, Nat.lt_succ_self _, ⟨rfl, rfl, rfl, rfl, trivial⟩, (StLe.gen 0 [] [.old 0, .old 1, .old 2] rfl rfl rfl rfl rfl rfl rfl)⟩
  · replace hr := cond_f h22 hr
    replace hr := Option.some.inj hr
    subst hr
    exact AtRet.pureG [] [] rfl rfl ⟨rfl, rfl⟩
mutual
def R15_right : Nat → Od → Int → Int → Option (Bool)
  | 0, _, _, _ => none
  | n + 1, v1, v3, v4 =>
    cond (v1.op == 1) (
    some (((((decide (v1.n ≥ 0)) && (decide (v1.n < v3))) && (((Od.encL v1.parts).length : Int) == 0)) && (decide (v4 ≤ 4))))) (
    cond ((((((v1.op != 2) && (v1.op != 3)) || (v1.n != 0)) || (decide (((Od.encL v1.parts).length : Int) < 1))) || (decide (((Od.encL v1.parts).length : Int) > 8))) || (decide (v4 > 4))) (
    some (false)) (
    R15_right_L1 n v1 v3 v4 0))
def R15_right_L1 : Nat → Od → Int → Int → Int → Option (Bool)
  | 0, _, _, _, _ => none
  | n + 1, v1, v3, v4, v16 =>
    cond (decide (v16 < ((Od.encL v1.parts).length : Int))) (
    (idx v1.parts v16).bind (fun v18 =>
    (R15_right n v18 v3 (IntKind.i64.wrap (v4 + 1))).bind (fun v23 =>
    cond (!v23) (
    some (false)) (
    R15_right_L1 n v1 v3 v4 (IntKind.i64.wrap (v16 + 1)))))) (
    some (true))
 end
theorem R15_right_specN : ∀ (N : Nat), (∀ (n : Nat), n ≤ N → ∀ (v1 : Od) (v3 : Int) (v4 : Int) (a2 : Option Addr) (c2 : Nat) (r : Bool), R15_right n v1 v3 v4 = some r → Pure Tryz.prog (.val (.fn (.func 55) [] [])) [(.agg [(.v (.int .i64 v1.op)), (.v (.int .i64 v1.n)), (.v (.slice a2 ((Od.encL v1.parts).length) c2))]), (.v (.int .i64 v3)), (.v (.int .i64 v4))] [(.slice a2 ((Od.encL v1.parts).length) c2, .sl 3 (Od.encL v1.parts))] (fun r' out => r' = (.v (.bool r)) ∧ out = [])) := by
  intro N
  induction N with
  | zero =>
    intro n hn v1 v3 v4 a2 c2 r hr; obtain rfl : n = 0 := (by omega); exact no_some hr
  | succ N ih =>
    intro n hn v1 v3 v4 a2 c2 r hr
    rcases n with _ | n
    · exact no_some hr
    replace hn : n ≤ N := by omega
    rw [R15_right.eq_2] at hr
    refine spec_of_body (N := 76) (m := 0) (dt := fun _ => none) [] ttOK Tryz.func55 rfl Tryz.call55 Tryz.ntmps55 rfl rfl rfl mixed (by kernel_rfl) ?_
    refine AtIf.mk (fun h5 => ?_) (fun h5 => ?_)
    · replace hr := cond_t h5 hr
      replace hr := Option.some.inj hr
      subst hr
      exact AtRet.pureG [] [] rfl rfl ⟨rfl, rfl⟩
    · replace hr := cond_f h5 hr
      refine AtIf.mk (fun h6 => ?_) (fun h6 => ?_)
      · replace hr := cond_t h6 hr
        replace hr := Option.some.inj hr
        subst hr
        exact AtRet.pureG [] [] rfl rfl ⟨rfl, rfl⟩
      · replace hr := cond_f h6 hr
        refine AtLoop.mk ⟨Nat × Int, fun x => [(1, (.v (.int .i64 v3))), (2, (.v (.int .i64 v4))), (3, (.loc 0 0)), (7, (.v (.int .i64 x.2)))], fun x => ⟨[.cells 27 [(.v (.int .i64 v1.op)), (.v (.int .i64 v1.n)), (.v (.slice a2 ((Od.encL v1.parts).length) c2))]], [], [(.slice a2 ((Od.encL v1.parts).length) c2, .sl 3 (Od.encL v1.parts))]⟩, fun x => x.1 ≤ N ∧ R15_right_L1 x.1 v1 v3 v4 x.2 = some r, fun x => x.1, (n, 0), ⟨by omega, hr⟩, ⟨rfl, rfl, rfl, rfl, trivial⟩, (StLe.gen 1 [] [.old 0] rfl rfl rfl rfl rfl rfl rfl), fun x _ => ⟨rfl, rfl⟩, ?_⟩
        rintro ⟨n, v16⟩ HH
        obtain ⟨hn, hr⟩ : n ≤ N ∧ R15_right_L1 n v1 v3 v4 v16 = some r := HH
        rcases n with _ | n
        · exact no_some hr
        rw [R15_right_L1.eq_2] at hr
        refine AtIf.mk (fun h17 => ?_) (fun h17 => ?_)
        · replace hr := cond_t h17 hr
          obtain ⟨v18, h19, hr⟩ := bind_some hr
          obtain ⟨h20, h21⟩ := idx_some h19
          refine at_index ttOK 0 rfl rfl rfl rfl h20 (Od.encL_get h21) ?_
          intro a22 c22 _ _
          obtain ⟨v23, h24, hr⟩ := bind_some hr
          refine (ih n (by omega) v18 v3 (IntKind.i64.wrap (v4 + 1)) a22 c22 _ h24).atR [1] rfl rfl rfl ?_
          rintro _ _ ⟨rfl, rfl⟩
          refine AtIf.mk (fun h25 => ?_) (fun h25 => ?_)
          · replace hr := cond_t h25 hr
            replace hr := Option.some.inj hr
            subst hr
            exact AtRet.pureG [] [] rfl rfl ⟨rfl, rfl⟩
          · replace hr := cond_f h25 hr
            exact ⟨(n, (IntKind.i64.wrap (v16 + 1))), ⟨by omega, hr⟩, Nat.lt_succ_self _, ⟨rfl, rfl, rfl, rfl, trivial⟩, (StLe.gen 1 [] [.old 0] rfl rfl rfl rfl rfl rfl rfl)⟩
        · replace hr := cond_f h17 hr
          replace hr := Option.some.inj hr
          subst hr
          exact AtRet.pureG [] [] rfl rfl ⟨rfl, rfl⟩
theorem R15_right_spec (n : Nat) (v1 : Od) (v3 : Int) (v4 : Int) (a2 : Option Addr) (c2 : Nat) (r : Bool) (hr : R15_right n v1 v3 v4 = some r) : Pure Tryz.prog (.val (.fn (.func 55) [] [])) [(.agg [(.v (.int .i64 v1.op)), (.v (.int .i64 v1.n)), (.v (.slice a2 ((Od.encL v1.parts).length) c2))]), (.v (.int .i64 v3)), (.v (.int .i64 v4))] [(.slice a2 ((Od.encL v1.parts).length) c2, .sl 3 (Od.encL v1.parts))] (fun r' out => r' = (.v (.bool r)) ∧ out = []) := (R15_right_specN n) n (Nat.le_refl _) v1 v3 v4 a2 c2 r hr
def R15_Right : Nat → Od → Int → Option (Bool)
  | 0, _, _ => none
  | n + 1, v1, v3 =>
    (R15_right n v1 v3 1).bind (fun v4 =>
    some (v4))
theorem R15_Right_spec (n : Nat) (v1 : Od) (v3 : Int) (a2 : Option Addr) (c2 : Nat) (r : Bool) (hr : R15_Right n v1 v3 = some r) : Pure Tryz.prog (.val (.fn (.func 30) [] [])) [(.agg [(.v (.int .i64 v1.op)), (.v (.int .i64 v1.n)), (.v (.slice a2 ((Od.encL v1.parts).length) c2))]), (.v (.int .i64 v3))] [(.slice a2 ((Od.encL v1.parts).length) c2, .sl 3 (Od.encL v1.parts))] (fun r' out => r' = (.v (.bool r)) ∧ out = []) := by
  rcases n with _ | n
  · exact no_some hr
  rw [R15_Right.eq_2] at hr
  refine spec_of_body (N := 8) (m := 0) (dt := fun _ => none) [] ttOK Tryz.func30 rfl Tryz.call30 Tryz.ntmps30 rfl rfl rfl mixed (by kernel_rfl) ?_
  obtain ⟨v4, h5, hr⟩ := bind_some hr
  refine (R15_right_spec n v1 v3 1 a2 c2 _ h5).atR [0] rfl rfl rfl ?_
  rintro _ _ ⟨rfl, rfl⟩
  replace hr := Option.some.inj hr
  subst hr
  exact AtRet.pureG [] [] rfl rfl ⟨rfl, rfl⟩
mutual
def R15_Measures : Nat → (List Dc) → (List Me) → Option (Bool)
  | 0, _, _ => none
  | n + 1, v1, v3 =>
    cond (decide (((Me.encL v3).length : Int) > 40)) (
    some (false)) (
    R15_Measures_L1 n v3 v1 0)
def R15_Measures_L1 : Nat → (List Me) → (List Dc) → Int → Option (Bool)
  | 0, _, _, _ => none
  | n + 1, v3, v1, v52 =>
    cond (decide (v52 < ((Me.encL v3).length : Int))) (
    (idx v3 v52).bind (fun v54 =>
    (R05_Has n v1 v54.family).bind (fun v59 =>
    cond (!v59) (
    some (false)) (
    (idx v3 v52).bind (fun v62 =>
    (R05_IsFamily n v1 v62.family).bind (fun v67 =>
    cond (!v67) (
    some (false)) (
    (idx v3 v52).bind (fun v70 =>
    (R15_Find n v3 v70.family).bind (fun v75 =>
    cond (decide (v75 < v52)) (
    some (false)) (
    (idx v3 v52).bind (fun v78 =>
    (idx v3 v52).bind (fun v83 =>
    (idx v1 v83.family).bind (fun v88 =>
    (R14_Dependent n v88.cls).bind (fun v93 =>
    (R15_Right n v78.order ((List.map D.bool v93).length : Int)).bind (fun v96 =>
    cond (!v96) (
    some (false)) (
    R15_Measures_L1 n v3 v1 (IntKind.i64.wrap (v52 + 1)))))))))))))))))) (
    some (true))
 end
theorem R15_Measures_spec (n : Nat) (v1 : (List Dc)) (v3 : (List Me)) (a2 : Option Addr) (c2 : Nat) (a4 : Option Addr) (c4 : Nat) (r : Bool) (hr : R15_Measures n v1 v3 = some r) : Pure Tryz.prog (.val (.fn (.func 10) [] [])) [(.v (.slice a2 ((Dc.encL v1).length) c2)), (.v (.slice a4 ((Me.encL v3).length) c4))] [(.slice a2 ((Dc.encL v1).length) c2, .sl 6 (Dc.encL v1)), (.slice a4 ((Me.encL v3).length) c4, .sl 4 (Me.encL v3))] (fun r' out => r' = (.v (.bool r)) ∧ out = []) := by
  rcases n with _ | n
  · exact no_some hr
  rw [R15_Measures.eq_2] at hr
  refine spec_of_body (N := 64) (m := 0) (dt := drawsOf [(6, .node [0, 1, 2, 3, 4, 5] [(6, .node [7, 8, 9, 10, 11, 12, 13, 14] [(15, .node [16, 17, 18, 19, 20, 21, 22, 23, 24, 26] [(25, .node [27, 28, 29, 30, 31, 32, 33, 34, 35, 36, 37, 38, 39, 40, 41, 42, 43] [(44, .node [45] [(46, .leaf [47, 48])])])])])], [6, 15, 46], [])]) [] ttOK Tryz.func10 rfl Tryz.call10 Tryz.ntmps10 rfl rfl rfl mixed (by kernel_rfl) ?_
  refine AtIf.mk (fun h5 => ?_) (fun h5 => ?_)
  · replace hr := cond_t h5 hr
    replace hr := Option.some.inj hr
    subst hr
    exact AtRet.pureG [] [] rfl rfl ⟨rfl, rfl⟩
  · replace hr := cond_f h5 hr
    refine AtLoop.mk ⟨Nat × Int, fun x => [(0, (.v (.slice a2 ((Dc.encL v1).length) c2))), (1, (.v (.slice a4 ((Me.encL v3).length) c4))), (5, (.v (.int .i64 x.2)))], fun x => ⟨[], [], [(.slice a2 ((Dc.encL v1).length) c2, .sl 6 (Dc.encL v1)), (.slice a4 ((Me.encL v3).length) c4, .sl 4 (Me.encL v3))]⟩, fun x => R15_Measures_L1 x.1 v3 v1 x.2 = some r, fun x => x.1, (n, 0), hr, ⟨rfl, rfl, rfl, trivial⟩, (StLe.gen 0 [] [.old 0, .old 1] rfl rfl rfl rfl rfl rfl rfl), fun x _ => ⟨rfl, rfl⟩, ?_⟩
    rintro ⟨n, v52⟩ HH
    have hr : R15_Measures_L1 n v3 v1 v52 = some r := HH
    rcases n with _ | n
    · exact no_some hr
    rw [R15_Measures_L1.eq_2] at hr
    refine AtIf.mk (fun h53 => ?_) (fun h53 => ?_)
    · replace hr := cond_t h53 hr
      obtain ⟨v54, h55, hr⟩ := bind_some hr
      obtain ⟨h56, h57⟩ := idx_some h55
      refine at_index ttOK 1 rfl rfl rfl rfl h56 (Me.encL_get h57) ?_
      intro a58 c58 _ _
      obtain ⟨v59, h60, hr⟩ := bind_some hr
      refine (R05_Has_spec n v1 v54.family a2 c2 _ h60).atR [0] rfl rfl rfl ?_
      rintro _ _ ⟨rfl, rfl⟩
      refine AtGuard.mk (fun h61 => ?_) (fun h61 => ?_)
      · replace hr := cond_f h61 hr
        obtain ⟨v62, h63, hr⟩ := bind_some hr
        obtain ⟨h64, h65⟩ := idx_some h63
        refine at_index ttOK 1 rfl rfl rfl rfl h64 (Me.encL_get h65) ?_
        intro a66 c66 _ _
        obtain ⟨v67, h68, hr⟩ := bind_some hr
        refine (R05_IsFamily_spec n v1 v62.family a2 c2 _ h68).atR [0] rfl rfl rfl ?_
        rintro _ _ ⟨rfl, rfl⟩
        refine AtGuard.mk (fun h69 => ?_) (fun h69 => ?_)
        · replace hr := cond_f h69 hr
          obtain ⟨v70, h71, hr⟩ := bind_some hr
          obtain ⟨h72, h73⟩ := idx_some h71
          refine at_index ttOK 1 rfl rfl rfl rfl h72 (Me.encL_get h73) ?_
          intro a74 c74 _ _
          obtain ⟨v75, h76, hr⟩ := bind_some hr
          refine (R15_Find_spec n v3 v70.family a4 c4 _ h76).atR [1] rfl rfl rfl ?_
          rintro _ _ ⟨rfl, rfl⟩
          refine ⟨fun _ _ h => h, ?_⟩
          refine AtGuard.mk (fun h77 => ?_) (fun h77 => ?_)
          · replace hr := cond_f h77 hr
            obtain ⟨v78, h79, hr⟩ := bind_some hr
            obtain ⟨h80, h81⟩ := idx_some h79
            refine at_index ttOK 1 rfl rfl rfl rfl h80 (Me.encL_get h81) ?_
            intro a82 c82 _ _
            obtain ⟨v83, h84, hr⟩ := bind_some hr
            obtain ⟨h85, h86⟩ := idx_some h84
            refine at_index ttOK 1 rfl rfl rfl rfl h85 (Me.encL_get h86) ?_
            intro a87 c87 _ _
            obtain ⟨v88, h89, hr⟩ := bind_some hr
            obtain ⟨h90, h91⟩ := idx_some h89
            refine at_index ttOK 0 rfl rfl rfl rfl h90 (Dc.encL_get h91) ?_
            intro a92 c92 _ _
            obtain ⟨v93, h94, hr⟩ := bind_some hr
            refine (R14_Dependent_spec n v88.cls a92 c92 _ h94).atR [7] rfl rfl rfl ?_
            rintro _ _ ⟨a95, c95, rfl, rfl⟩
            refine ⟨fun _ _ h => h, ?_⟩
            obtain ⟨v96, h97, hr⟩ := bind_some hr
            refine (R15_Right_spec n v78.order ((List.map D.bool v93).length : Int) a82 c82 _ h97).atR [5] rfl rfl rfl ?_
            rintro _ _ ⟨rfl, rfl⟩
            refine AtIf.mk (fun h98 => ?_) (fun h98 => ?_)
            · replace hr := cond_t h98 hr
              replace hr := Option.some.inj hr
              subst hr
              exact AtRet.pureG [] [] rfl rfl ⟨rfl, rfl⟩
            · replace hr := cond_f h98 hr
              exact ⟨(n, (IntKind.i64.wrap (v52 + 1))), hr, Nat.lt_succ_self _, ⟨rfl, rfl, rfl, trivial⟩, (StLe.gen 0 [] [.old 0, .old 1] rfl rfl rfl rfl rfl rfl rfl)⟩
          · replace hr := cond_t h77 hr
            refine AtIf.mk (fun _ => ?_) (fun h => tf h)
            replace hr := Option.some.inj hr
            subst hr
            exact AtRet.pureG [] [] rfl rfl ⟨rfl, rfl⟩
        · replace hr := cond_t h69 hr
          refine AtGuard.mk (fun h => tf h) (fun _ => ?_)
          refine AtIf.mk (fun _ => ?_) (fun h => tf h)
          replace hr := Option.some.inj hr
          subst hr
          exact AtRet.pureG [] [] rfl rfl ⟨rfl, rfl⟩
      · replace hr := cond_t h61 hr
        refine AtGuard.mk (fun h => tf h) (fun _ => ?_)
        refine AtGuard.mk (fun h => tf h) (fun _ => ?_)
        refine AtIf.mk (fun _ => ?_) (fun h => tf h)
        replace hr := Option.some.inj hr
        subst hr
        exact AtRet.pureG [] [] rfl rfl ⟨rfl, rfl⟩
    · replace hr := cond_f h53 hr
      replace hr := Option.some.inj hr
      subst hr
      exact AtRet.pureG [] [] rfl rfl ⟨rfl, rfl⟩
end Go.Proofs.YtpibdcjdamibdaaGreat
end
