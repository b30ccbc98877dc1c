/- Merged texts: U3 GrowTLay HandW GroN Gro. Conditions stand in each rule. -/
import Derived.Test.YthkgcfplebgolaaGreatQI
import Derived.Shelf.Spec.SlicesGrow
set_option linter.unusedSimpArgs false
set_option linter.unusedVariables false

namespace Go.Proofs.YthkgcfplebgolaaGreat
section
open Go.Tr Go Go.Proofs.Tryz
set_option maxRecDepth 10000
structure Rsv where
 metas : (List Mt)
structure Scn where
 m : Int
 vars : (List Int)
 met : Bool
 none0 : Bool
 e : Int
 k : Int
 n : Int
 positions : (List Int)
 cuts : Bool
abbrev Tm.gv : GE Tm → Value := fun (x, a, c) => .agg #[(.int .i64 x.op), (.int .i64 x.hd), (.int .i64 x.n), (.slice a ((Tm.encL x.args).length) c)]
abbrev Tm.gp (x : Tm) : List D := (Tm.encL x.args)
def sign_name : Nat → ByteArray → Option (Bool)
 | 0, _ => none
 | n + 1, v1 =>
  some (((isSmallF v1) && (!(v1.toList == (⟨#[116, 121, 112, 101]⟩ : ByteArray).toList))))
theorem qlb (n : Nat) (v1 : ByteArray)  (r : Bool) (hr : sign_name n v1 = some r) : Pure Tryz.prog (.val (.fn (.func 258) [] [])) [(sS v1)] [] (fun r' out => r' = (bS r) ∧ out = []) := by
 rcases n with _ | n
 ·exact qe hr
 rw [sign_name.eq_2] at hr
 refine qb (N := 9) (m := 0) (dt := fun _ => none) [] ttOK func258 rfl call258 ntmps258 rfl rfl rfl mixed (by kernel_rfl) ?_
 refine (qod v1).atR [] rfl rfl rfl ?_
 rintro _ _ ⟨rfl, rfl⟩
 replace hr := osi hr; subst hr
 exact qa [] [] rfl rfl ⟨rfl, rfl⟩
def sign_formed_1 : Nat → Tm → Int → Bool → (List Dc) → Option (Bool)
 | 0, _, _, _, _ => none
 | n + 1, v1, v3, v4, v5 =>
  cond (v1.op != 4) (
  some (v4)) (
  some ((((v4 && (v1.hd != 3)) && ((v1.hd != 1) || (decide (v1.n < v3)))) && ((v1.hd != 2) || (decide (v1.n < ((Dc.encL v5).length : Int)))))))
theorem qg8 (n : Nat) (v1 : Tm) (v3 : Int) (v4 : Bool) (v5 : (List Dc)) (a2 : OA) (c2 : Nat) (a6 : OA) (c6 : Nat) (r : Bool) (hr : sign_formed_1 n v1 v3 v4 v5 = some r) : Meets Tryz.prog (.val (.fn (.func 260) [] [(.loc 0 0), (.loc 1 0)])) [(.agg [(iS v1.op), (iS v1.hd), (iS v1.n), (tU v1.args a2 c2)]), (iS v3)] ⟨[.cells 4 [(bS v4)], .cells 22 [(.v (.slice a6 ((Dc.encL v5).length) c6))]], [], [(tQ v1.args a2 c2), (.slice a6 ((Dc.encL v5).length) c6, .sl 6 (Dc.encL v5))]⟩ (fun o S' => o = .ret (.tup []) ∧ S' = ⟨[.cells 4 [(bS r)], .cells 22 [(.v (.slice a6 ((Dc.encL v5).length) c6))]], [], []⟩) := by
 rcases n with _ | n
 ·exact qe hr
 rw [sign_formed_1.eq_2] at hr
 refine qb (N := 38) (m := 2) (dt := fun _ => none) [] ttOK func260 rfl call260 ntmps260 rfl rfl rfl mixed (by kernel_rfl) ?_
 refine AtIf.mk (fun h7 => ?_) (fun h7 => ?_)
 ·replace hr := qg h7 hr
  replace hr := osi hr; subst hr
  exact AtRet.gen ⟨[.cells 4 [(bS v4)], .cells 22 [(.v (.slice a6 ((Dc.encL v5).length) c6))]], [], []⟩ (StLe.gen 2 [] [] rfl rfl rfl rfl rfl rfl rfl) rfl rfl ⟨rfl, rfl⟩
 ·replace hr := qf h7 hr
  replace hr := osi hr; subst hr
  exact AtRet.gen ⟨[.cells 4 [(bS (((v4 && (v1.hd != 3)) && ((v1.hd != 1) || (decide (v1.n < v3)))) && ((v1.hd != 2) || (decide (v1.n < ((Dc.encL v5).length : Int))))))], .cells 22 [(.v (.slice a6 ((Dc.encL v5).length) c6))]], [], []⟩ (StLe.gen 2 [] [] rfl rfl rfl rfl rfl rfl rfl) rfl rfl ⟨rfl, rfl⟩
mutual
def term_Each_sign_formed_1 : Nat → Tm → Int → Bool → (List Dc) → Option (Bool)
 | 0, _, _, _, _ => none
 | n + 1, v1, v3, v4, v5 =>
  (sign_formed_1 n v1 v3 v4 v5).bind (fun v7 =>
  term_Each_sign_formed_1_L1 n v1 v3 v5 v7 0)
def term_Each_sign_formed_1_L1 : Nat → Tm → Int → (List Dc) → Bool → Int → Option (Bool)
 | 0, _, _, _, _, _ => none
 | n + 1, v1, v3, v5, v9, v10 =>
  cond (decide (v10 < ((Tm.encL v1.args).length : Int))) (
  (idx v1.args v10).bind (fun v12 =>
  (term_Under n v1 v10).bind (fun v17 =>
  (term_Each_sign_formed_1 n v12 (IntKind.i64.wrap (v3 + v17)) v9 v5).bind (fun v19 =>
  term_Each_sign_formed_1_L1 n v1 v3 v5 v19 (IntKind.i64.wrap (v10 + 1)))))) (
  some (v9))
 end
theorem qcq : ∀ (N : Nat), (∀ (n : Nat), n ≤ N → ∀ (v1 : Tm) (v3 : Int) (v4 : Bool) (v5 : (List Dc)) (a2 : OA) (c2 : Nat) (a6 : OA) (c6 : Nat) (r : Bool), term_Each_sign_formed_1 n v1 v3 v4 v5 = some r → Meets Tryz.prog (.val (.fn (.func 259) [] [])) [(.agg [(iS v1.op), (iS v1.hd), (iS v1.n), (tU v1.args a2 c2)]), (iS v3), (.fn (.func 260) [] [(.loc 0 0), (.loc 1 0)])] ⟨[.cells 4 [(bS v4)], .cells 22 [(.v (.slice a6 ((Dc.encL v5).length) c6))]], [], [(tQ v1.args a2 c2), (.slice a6 ((Dc.encL v5).length) c6, .sl 6 (Dc.encL v5))]⟩ (fun o S' => o = .ret (.tup []) ∧ S' = ⟨[.cells 4 [(bS r)], .cells 22 [(.v (.slice a6 ((Dc.encL v5).length) c6))]], [], []⟩)) := by
 intro N
 induction N with
 | zero =>
  intro n hn v1 v3 v4 v5 a2 c2 a6 c6 r hr; obtain rfl : n = 0 := (by omega); exact qe hr
 | succ N ih =>
  intro n hn v1 v3 v4 v5 a2 c2 a6 c6 r hr
  rcases n with _ | n
  ·exact qe hr
  replace hn : n ≤ N := by omega
  rw [term_Each_sign_formed_1.eq_2] at hr
  refine qb (N := 29) (m := 2) (dt := drawsOf [(5, .node [0, 1, 2, 3, 6] [(4, .node [5] [(7, .leaf [])])], [7], [])]) [] ttOK func259 rfl call259 ntmps259 rfl rfl rfl mixed (by kernel_rfl) ?_
  obtain ⟨v7, h8, hr⟩ := bind_some hr
  refine (qg8 n v1 v3 v4 v5 a2 c2 a6 c6 _ h8).frameR [0, 1] [0, 1] rfl rfl rfl rfl rfl rfl rfl rfl ?_
  rintro _ _ ⟨rfl, rfl⟩
  refine ⟨rfl, rfl, [.cells 4 [(bS v7)], .cells 22 [(.v (.slice a6 ((Dc.encL v5).length) c6))]], rfl, ?_⟩
  refine AtLoop.mk ⟨Nat × Bool × Int, fun x => [(1, (iS v3)), (2, (.fn (.func 260) [] [(.loc 0 0), (.loc 1 0)])), (3, (.loc 2 0)), (13, (tU v1.args a2 c2)), (14, (iS ((Tm.encL v1.args).length : Int))), (15, (iS x.2.2))], fun x => ⟨[.cells 4 [(bS x.2.1)], .cells 22 [(.v (.slice a6 ((Dc.encL v5).length) c6))], .cells 41 [(iS v1.op), (iS v1.hd), (iS v1.n), (tU v1.args a2 c2)]], [], [(tQ v1.args a2 c2), (.slice a6 ((Dc.encL v5).length) c6, .sl 6 (Dc.encL v5))]⟩, fun x => x.1 ≤ N ∧ term_Each_sign_formed_1_L1 x.1 v1 v3 v5 x.2.1 x.2.2 = some r, fun x => x.1, (n, v7, 0), ⟨by omega, hr⟩, ⟨rfl, rfl, rfl, rfl, rfl, rfl, trivial⟩, (StLe.gen 3 [] [.old 0, .old 1] rfl rfl rfl rfl rfl rfl rfl), fun x _ => ⟨rfl, rfl⟩, ?_⟩
  rintro ⟨n, v9, v10⟩ HH
  obtain ⟨hn, hr⟩ : n ≤ N ∧ term_Each_sign_formed_1_L1 n v1 v3 v5 v9 v10 = some r := HH
  rcases n with _ | n
  ·exact qe hr
  rw [term_Each_sign_formed_1_L1.eq_2] at hr
  refine AtIf.mk (fun h11 => ?_) (fun h11 => ?_)
  ·replace hr := qg h11 hr
   obtain ⟨v12, h13, hr⟩ := bind_some hr
   obtain ⟨h14, h15⟩ := qi h13
   refine qh ttOK 0 rfl rfl rfl rfl h14 (Tm.encL_get h15) ?_
   intro a16 c16 _ _
   obtain ⟨v17, h18, hr⟩ := bind_some hr
   refine (qba n v1 v10 a2 c2 _ h18).atR [0] rfl rfl rfl ?_
   rintro _ _ ⟨rfl, rfl⟩
   refine ⟨fun _ _ h => h, ?_⟩
   obtain ⟨v19, h20, hr⟩ := bind_some hr
   refine (ih n (by omega) v12 (IntKind.i64.wrap (v3 + v17)) v9 v5 a16 c16 a6 c6 _ h20).frameR [0, 1] [2, 1] rfl rfl rfl rfl rfl rfl rfl rfl ?_
   rintro _ _ ⟨rfl, rfl⟩
   refine ⟨rfl, rfl, [.cells 4 [(bS v19)], .cells 22 [(.v (.slice a6 ((Dc.encL v5).length) c6))]], rfl, ?_⟩
   exact ⟨(n, v19, (IntKind.i64.wrap (v10 + 1))), ⟨by omega, hr⟩, Nat.lt_succ_self _, ⟨rfl, rfl, rfl, rfl, rfl, rfl, trivial⟩, (StLe.gen 3 [] [.old 0, .old 1] rfl rfl rfl rfl rfl rfl rfl)⟩
  ·replace hr := qf h11 hr
   replace hr := osi hr; subst hr
   exact AtRet.gen ⟨[.cells 4 [(bS v9)], .cells 22 [(.v (.slice a6 ((Dc.encL v5).length) c6))]], [], []⟩ (StLe.gen 2 [] [] rfl rfl rfl rfl rfl rfl rfl) rfl rfl ⟨rfl, rfl⟩
theorem qct (n : Nat) (v1 : Tm) (v3 : Int) (v4 : Bool) (v5 : (List Dc)) (a2 : OA) (c2 : Nat) (a6 : OA) (c6 : Nat) (r : Bool) (hr : term_Each_sign_formed_1 n v1 v3 v4 v5 = some r) : Meets Tryz.prog (.val (.fn (.func 259) [] [])) [(.agg [(iS v1.op), (iS v1.hd), (iS v1.n), (tU v1.args a2 c2)]), (iS v3), (.fn (.func 260) [] [(.loc 0 0), (.loc 1 0)])] ⟨[.cells 4 [(bS v4)], .cells 22 [(.v (.slice a6 ((Dc.encL v5).length) c6))]], [], [(tQ v1.args a2 c2), (.slice a6 ((Dc.encL v5).length) c6, .sl 6 (Dc.encL v5))]⟩ (fun o S' => o = .ret (.tup []) ∧ S' = ⟨[.cells 4 [(bS r)], .cells 22 [(.v (.slice a6 ((Dc.encL v5).length) c6))]], [], []⟩) := (qcq n) n (Nat.le_refl _) v1 v3 v4 v5 a2 c2 a6 c6 r hr
def sign_kind : Nat → Tm → Option (Bool)
 | 0, _ => none
 | n + 1, v1 =>
  (term_Domains n v1).bind (fun v3 =>
  some ((v3.2.op == 1)))
theorem qdq (n : Nat) (v1 : Tm) (a2 : OA) (c2 : Nat) (r : Bool) (hr : sign_kind n v1 = some r) : Pure Tryz.prog (.val (.fn (.func 261) [] [])) [(.agg [(iS v1.op), (iS v1.hd), (iS v1.n), (tU v1.args a2 c2)])] [(tQ v1.args a2 c2)] (fun r' out => r' = (bS r) ∧ out = []) := by
 rcases n with _ | n
 ·exact qe hr
 rw [sign_kind.eq_2] at hr
 refine qb (N := 13) (m := 0) (dt := fun _ => none) [] ttOK func261 rfl call261 ntmps261 rfl rfl rfl mixed (by kernel_rfl) ?_
 obtain ⟨v3, h4, hr⟩ := bind_some hr
 refine (qbf n v1 a2 c2 _ h4).atR [0] rfl rfl rfl ?_
 rintro _ _ ⟨a5, c5, a6, c6, rfl, rfl⟩
 replace hr := osi hr; subst hr
 exact qa [] [] rfl rfl ⟨rfl, rfl⟩
def sign_target : Nat → Tm → Option (Int × Bool)
 | 0, _ => none
 | n + 1, v1 =>
  (term_Domains n v1).bind (fun v3 =>
  some (v3.2.n, ((v3.2.op == 4) && (v3.2.hd == 2))))
theorem qim (n : Nat) (v1 : Tm) (a2 : OA) (c2 : Nat) (r : Int × Bool) (hr : sign_target n v1 = some r) : Pure Tryz.prog (.val (.fn (.func 262) [] [])) [(.agg [(iS v1.op), (iS v1.hd), (iS v1.n), (tU v1.args a2 c2)])] [(tQ v1.args a2 c2)] (fun r' out => r' = (.tup [(iS r.1), (bS r.2)]) ∧ out = []) := by
 rcases n with _ | n
 ·exact qe hr
 rw [sign_target.eq_2] at hr
 refine qb (N := 21) (m := 0) (dt := drawsOf [(2, .leaf [0, 1, 2, 3, 4, 5, 6, 7, 8, 9, 10, 11], [], [])]) [] ttOK func262 rfl call262 ntmps262 rfl rfl rfl mixed (by kernel_rfl) ?_
 obtain ⟨v3, h4, hr⟩ := bind_some hr
 refine (qbf n v1 a2 c2 _ h4).atR [0] rfl rfl rfl ?_
 rintro _ _ ⟨a5, c5, a6, c6, rfl, rfl⟩
 replace hr := osi hr; subst hr
 exact qa [] [] rfl rfl ⟨rfl, rfl⟩
def sign_formed : Nat → (List Dc) → Dc → Option (Bool)
 | 0, _, _ => none
 | n + 1, v1, v3 =>
  cond ((if isProper v3.cls then (0 : Int) else 2) != 0) (
  some (false)) (
  (sign_name n v3.name).bind (fun v6 =>
  cond ((!v6) || (decide (v3.implicit < 0))) (
  some (false)) (
  (term_Domains n v3.cls).bind (fun v9 =>
  (term_Each_sign_formed_1 n v3.cls 0 (decide (v3.implicit ≤ ((Tm.encL v9.1).length : Int))) v1).bind (fun v13 =>
  (sign_kind n v3.cls).bind (fun v15 =>
  cond v15 (
  some (v13)) (
  (sign_target n v3.cls).bind (fun v18 =>
  cond (v13 && v18.2) (
  (idx v1 v18.1).bind (fun v21 =>
  (sign_kind n v21.cls).bind (fun v26 =>
  some (v26)))) (
  some (false))))))))))
theorem qin (n : Nat) (v1 : (List Dc)) (v3 : Dc) (a2 : OA) (c2 : Nat) (a4 : OA) (c4 : Nat) (r : Bool) (hr : sign_formed n v1 v3 = some r) : Pure Tryz.prog (.val (.fn (.func 191) [] [])) [(.v (.slice a2 ((Dc.encL v1).length) c2)), (.agg [(sS v3.name), (iS v3.cls.op), (iS v3.cls.hd), (iS v3.cls.n), (tU v3.cls.args a4 c4), (iS v3.implicit)])] [(.slice a2 ((Dc.encL v1).length) c2, .sl 6 (Dc.encL v1)), (tQ v3.cls.args a4 c4)] (fun r' out => r' = (bS r) ∧ out = []) := by
 rcases n with _ | n
 ·exact qe hr
 rw [sign_formed.eq_2] at hr
 refine qb (N := 62) (m := 0) (dt := fun _ => none) [] ttOK func191 rfl call191 ntmps191 rfl rfl rfl mixed (by kernel_rfl) ?_
 refine (qb7 v3.cls a4 c4).atR [1] rfl rfl rfl ?_
 rintro _ _ ⟨rfl, rfl⟩
 refine AtGuard.mk (fun h5 => ?_) (fun h5 => ?_)
 ·replace hr := qf h5 hr
  obtain ⟨v6, h7, hr⟩ := bind_some hr
  refine (qlb n v3.name _ h7).atR [] rfl rfl rfl ?_
  rintro _ _ ⟨rfl, rfl⟩
  refine AtIf.mk (fun h8 => ?_) (fun h8 => ?_)
  ·replace hr := qg h8 hr
   replace hr := osi hr; subst hr
   exact qa [] [] rfl rfl ⟨rfl, rfl⟩
  ·replace hr := qf h8 hr
   obtain ⟨v9, h10, hr⟩ := bind_some hr
   refine (qbf n v3.cls a4 c4 _ h10).atR [1] rfl rfl rfl ?_
   rintro _ _ ⟨a11, c11, a12, c12, rfl, rfl⟩
   obtain ⟨v13, h14, hr⟩ := bind_some hr
   refine (qct n v3.cls 0 (decide (v3.implicit ≤ ((Tm.encL v9.1).length : Int))) v1 a4 c4 a2 c2 _ h14).frameR [3, 0] [1, 0] rfl rfl rfl rfl rfl rfl rfl rfl ?_
   rintro _ _ ⟨rfl, rfl⟩
   refine ⟨rfl, rfl, [.cells 4 [(bS v13)], .cells 22 [(.v (.slice a2 ((Dc.encL v1).length) c2))]], rfl, ?_⟩
   obtain ⟨v15, h16, hr⟩ := bind_some hr
   refine (qdq n v3.cls a4 c4 _ h16).atR [1] rfl rfl rfl ?_
   rintro _ _ ⟨rfl, rfl⟩
   refine AtIf.mk (fun h17 => ?_) (fun h17 => ?_)
   ·replace hr := qg h17 hr
    replace hr := osi hr; subst hr
    exact qa [] [] rfl rfl ⟨rfl, rfl⟩
   ·replace hr := qf h17 hr
    obtain ⟨v18, h19, hr⟩ := bind_some hr
    refine (qim n v3.cls a4 c4 _ h19).atR [1] rfl rfl rfl ?_
    rintro _ _ ⟨rfl, rfl⟩
    refine AtGuard.mk (fun h20 => ?_) (fun h20 => ?_)
    ·replace hr := qg h20 hr
     obtain ⟨v21, h22, hr⟩ := bind_some hr
     obtain ⟨h23, h24⟩ := qi h22
     refine qh ttOK 0 rfl rfl rfl rfl h23 (Dc.encL_get h24) ?_
     intro a25 c25 _ _
     obtain ⟨v26, h27, hr⟩ := bind_some hr
     refine (qdq n v21.cls a25 c25 _ h27).atR [4] rfl rfl rfl ?_
     rintro _ _ ⟨rfl, rfl⟩
     replace hr := osi hr; subst hr
     exact qa [] [] rfl rfl ⟨rfl, rfl⟩
    ·replace hr := qf h20 hr
     replace hr := osi hr; subst hr
     exact qa [] [] rfl rfl ⟨rfl, rfl⟩
 ·replace hr := qg h5 hr
  refine AtIf.mk (fun _ => ?_) (fun h => tf h)
  replace hr := osi hr; subst hr
  exact qa [] [] rfl rfl ⟨rfl, rfl⟩
mutual
def sign_Check : Nat → (List Dc) → Option (Int)
 | 0, _ => none
 | n + 1, v1 =>
  cond (decide (((Dc.encL v1).length : Int) > 100)) (
  some (2)) (
  sign_Check_L1 n v1 ([]) 0)
def sign_Check_L1 : Nat → (List Dc) → (List (ByteArray × Bool)) → Int → Option (Int)
 | 0, _, _, _ => none
 | n + 1, v1, v4, v5 =>
  cond (decide (v5 < ((Dc.encL v1).length : Int))) (
  (idx v1 v5).bind (fun v7 =>
  cond (decide ((0 : Int) ≤ (0 : Int) ∧ (0 : Int) ≤ v5 ∧ v5 ≤ ((Dc.encL v1).length : Int))) (
  cond ((mget v4 v7.name).getD false) (
  some (2)) (
  (sign_formed n (v1.take v5.toNat) v7).bind (fun v15 =>
  cond (!v15) (
  some (2)) (
  sign_Check_L1 n v1 (mput v7.name true v4) (IntKind.i64.wrap (v5 + 1)))))) none)) (
  some (0))
 end
theorem qe4 (n : Nat) (v1 : (List Dc)) (a2 : OA) (c2 : Nat) (r : Int) (hr : sign_Check n v1 = some r) : Pure Tryz.prog (.val (.fn (.func 119) [] [])) [(.v (.slice a2 ((Dc.encL v1).length) c2))] [(.slice a2 ((Dc.encL v1).length) c2, .sl 6 (Dc.encL v1))] (fun r' out => r' = (iS r) ∧ out = []) := by
 rcases n with _ | n
 ·exact qe hr
 rw [sign_Check.eq_2] at hr
 refine qb (N := 27) (m := 0) (dt := fun _ => none) [] ttOK func119 rfl call119 ntmps119 rfl rfl rfl mixed (by kernel_rfl) ?_
 refine AtIf.mk (fun h3 => ?_) (fun h3 => ?_)
 ·replace hr := qg h3 hr
  replace hr := osi hr; subst hr
  exact qa [] [] rfl rfl ⟨rfl, rfl⟩
 ·replace hr := qf h3 hr
  refine qjw ?_
  refine qb (N := 4) (m := 3) (dt := fun _ => none) [] ttOK func190 rfl call190 ntmps190 rfl rfl rfl mixed (by kernel_rfl) ?_
  refine AtRet.gen _ (StLe.refl _) rfl rfl ?_
  refine AtRange.mk ⟨[(2, (.loc 0 0)), (3, (.loc 2 0))], ⟨rfl, rfl, trivial⟩, rfl, rfl, ⟨_, _, _, rfl, call257⟩, ?_⟩
  refine qb (N := 20) (m := 5) (dt := drawsOf [(3, .node [0, 1, 2, 3, 4] [(5, .leaf [6])], [5], [])]) [] ttOK func257 rfl call257 ntmps257 rfl rfl rfl mixed (by kernel_rfl) ?_
  refine AtLoop.mk ⟨Nat × (List (ByteArray × Bool)) × Int, fun x => [(0, (.yld 4)), (1, (.loc 3 0)), (5, (.v (.slice a2 ((Dc.encL v1).length) c2))), (6, (iS ((Dc.encL v1).length : Int))), (7, (iS x.2.2))], fun x => ⟨[.cells 29 [(iS 0)], .obj (mapS (encM Value.bool x.2.1)), .cells 241 [(.mp 1)], .cells 22 [(.v (.slice a2 ((Dc.encL v1).length) c2))], .lp ⟨27, [(2, (.loc 0 0)), (3, (.loc 2 0))], #[12, 13], rfAs Tryz.f119, rfBody Tryz.f119, .ready, none, exF Tryz.prog⟩], [], [(.slice a2 ((Dc.encL v1).length) c2, .sl 6 (Dc.encL v1))]⟩, fun x => sign_Check_L1 x.1 v1 x.2.1 x.2.2 = some r, fun x => x.1, (n, [], 0), hr, ⟨rfl, rfl, rfl, rfl, rfl, trivial⟩, (StLe.gen 5 [] [.old 0] rfl rfl rfl rfl rfl rfl rfl), fun x _ => ⟨rfl, rfl⟩, ?_⟩
  rintro ⟨n, v4, v5⟩ HH
  have hr : sign_Check_L1 n v1 v4 v5 = some r := HH
  rcases n with _ | n
  ·exact qe hr
  rw [sign_Check_L1.eq_2] at hr
  refine AtIf.mk (fun h6 => ?_) (fun h6 => ?_)
  ·replace hr := qg h6 hr
   obtain ⟨v7, h8, hr⟩ := bind_some hr
   obtain ⟨h9, h10⟩ := qi h8
   refine qh ttOK 0 rfl rfl rfl rfl h9 (Dc.encL_get h10) ?_
   intro a11 c11 _ _
   obtain ⟨h12, hr⟩ := qj hr
   refine qaa ttOK 0 0 v5 (ds' := (Dc.encL (v1.take v5.toNat))) rfl rfl rfl (.inr ⟨rfl, rfl⟩) (.inl ⟨_, rfl⟩) h12 (by simp only [Dc.encL_eq]; exact sl_h ..) ?_
   intro a13 c13
   refine qcv (N := 27) (m := 7) (dt := fun _ => none) [] ttOK rfl rfl rfl rfl rfl rfl mixed (by kernel_rfl) (by kernel_rfl) ?_
   refine qoo ttOK Value.bool false rfl underlying9 rfl rfl rfl rfl ?_
   refine AtGuard.mk (fun h14 => ?_) (fun h14 => ?_)
   ·replace hr := qf h14 hr
    obtain ⟨v15, h16, hr⟩ := bind_some hr
    refine (qin n (v1.take v5.toNat) v7 a13 c13 a11 c11 _ h16).atR [2, 1] rfl rfl rfl ?_
    rintro _ _ ⟨rfl, rfl⟩
    refine AtIf.mk (fun h17 => ?_) (fun h17 => ?_)
    ·replace hr := qg h17 hr
     refine AtRet.gen _ (StLe.refl _) rfl rfl ?_
     refine AtIf.mk (fun _ => ?_) (fun h => tf h)
     refine AtRet.gen _ (StLe.refl _) rfl rfl ?_
     replace hr := osi hr; subst hr
     exact qa [] [] rfl rfl ⟨rfl, rfl⟩
    ·replace hr := qf h17 hr
     refine at_mapPutS (l := encM Value.bool v4) ttOK (.bool true) rfl underlying9 rfl rfl rfl (fun _ => rfl) ?_
     rw [putS_enc Value.bool v7.name true v4]
     refine AtRet.gen _ (StLe.refl _) rfl rfl ?_
     refine AtIf.mk (fun h => ff h) (fun _ => ?_)
     exact ⟨(n, (mput v7.name true v4), (IntKind.i64.wrap (v5 + 1))), hr, Nat.lt_succ_self _, ⟨rfl, rfl, rfl, rfl, rfl, trivial⟩, (StLe.gen 5 [] [.old 0] rfl rfl rfl rfl rfl rfl rfl)⟩
   ·replace hr := qg h14 hr
    refine AtIf.mk (fun _ => ?_) (fun h => tf h)
    refine AtRet.gen _ (StLe.refl _) rfl rfl ?_
    refine AtIf.mk (fun _ => ?_) (fun h => tf h)
    refine AtRet.gen _ (StLe.refl _) rfl rfl ?_
    replace hr := osi hr; subst hr
    exact qa [] [] rfl rfl ⟨rfl, rfl⟩
  ·replace hr := qf h6 hr
   refine AtRet.gen _ (StLe.refl _) rfl rfl ?_
   replace hr := osi hr; subst hr
   exact qa [] [] rfl rfl ⟨rfl, rfl⟩
mutual
def unify_spines : Nat → (List Dc) → (List Tm) → Tm → Tm → Option (PR ((List Qn)))
 | 0, _, _, _, _ => none
 | n + 1, v1, v3, v5, v7 =>
  cond ((v5.hd != v7.hd) || (v5.n != v7.n)) (
  some (.pan 26)) (
  cond (v5.hd == 2) (
  cond (decide (v5.n ≥ ((Dc.encL v1).length : Int))) (
  some (.pan 27)) (
  cond (((Tm.encL v5.args).length : Int) != ((Tm.encL v7.args).length : Int)) (
  some (.pan 23)) (
  cond (v5.hd == 2) (
  (idx v1 v5.n).bind (fun v14 =>
  unify_spines_L1 n v5 v14 v7 v3)) (
  (idx v3 (IntKind.i64.wrap ((IntKind.i64.wrap (((Tm.encL v3).length : Int) - 1)) - v5.n))).bind (fun v40 =>
  cond (decide (((Tm.encL v5.args).length : Int) > 0)) (
  (term_Shift n v40 (IntKind.i64.wrap (v5.n + 1)) 0).bind (fun v46 =>
  cond (v46.2 != 0) (
  some (.pan v46.2)) (
  unify_spines_L2 n v5 v46 v7 v3))) (
  unify_spines_L3 n v5 v40 v7 v3)))))) (
  cond (decide (v5.n ≥ ((Tm.encL v3).length : Int))) (
  some (.pan 27)) (
  cond (((Tm.encL v5.args).length : Int) != ((Tm.encL v7.args).length : Int)) (
  some (.pan 23)) (
  cond (v5.hd == 2) (
  (idx v1 v5.n).bind (fun v95 =>
  unify_spines_L1 n v5 v95 v7 v3)) (
  (idx v3 (IntKind.i64.wrap ((IntKind.i64.wrap (((Tm.encL v3).length : Int) - 1)) - v5.n))).bind (fun v121 =>
  cond (decide (((Tm.encL v5.args).length : Int) > 0)) (
  (term_Shift n v121 (IntKind.i64.wrap (v5.n + 1)) 0).bind (fun v127 =>
  cond (v127.2 != 0) (
  some (.pan v127.2)) (
  unify_spines_L2 n v5 v127 v7 v3))) (
  unify_spines_L3 n v5 v121 v7 v3)))))))
def unify_spines_L1 : Nat → Tm → Dc → Tm → (List Tm) → Option (PR ((List Qn)))
 | 0, _, _, _, _ => none
 | n + 1, v5, v14, v7, v3 =>
  cond (decide ((0 : Int) < ((Tm.encL v5.args).length : Int))) (
  (idx v5.args 0).bind (fun v20 =>
  cond (v14.cls.op != 2) (
  some (.pan 23)) (
  (idx v7.args 0).bind (fun v26 =>
  (idx v14.cls.args 0).bind (fun v31 =>
  cond (decide ((Qn.encL ([(Qn.mk v3 v20 v26 v31)])).length ≤ 1000000)) (
  none) none))))) (
  some (.ok ([])))
def unify_spines_L2 : Nat → Tm → (Tm × Int) → Tm → (List Tm) → Option (PR ((List Qn)))
 | 0, _, _, _, _ => none
 | n + 1, v5, v46, v7, v3 =>
  cond (decide ((0 : Int) < ((Tm.encL v5.args).length : Int))) (
  (idx v5.args 0).bind (fun v51 =>
  cond (v46.1.op != 2) (
  some (.pan 23)) (
  (idx v7.args 0).bind (fun v57 =>
  (idx v46.1.args 0).bind (fun v62 =>
  cond (decide ((Qn.encL ([(Qn.mk v3 v51 v57 v62)])).length ≤ 1000000)) (
  none) none))))) (
  some (.ok ([])))
def unify_spines_L3 : Nat → Tm → Tm → Tm → (List Tm) → Option (PR ((List Qn)))
 | 0, _, _, _, _ => none
 | n + 1, v5, v40, v7, v3 =>
  cond (decide ((0 : Int) < ((Tm.encL v5.args).length : Int))) (
  (idx v5.args 0).bind (fun v72 =>
  cond (v40.op != 2) (
  some (.pan 23)) (
  (idx v7.args 0).bind (fun v78 =>
  (idx v40.args 0).bind (fun v83 =>
  cond (decide ((Qn.encL ([(Qn.mk v3 v72 v78 v83)])).length ≤ 1000000)) (
  none) none))))) (
  some (.ok ([])))
 end
set_option maxHeartbeats 40000000 in
theorem qdv (n : Nat) (v1 : (List Dc)) (v3 : (List Tm)) (v5 : Tm) (v7 : Tm) (a2 : OA) (c2 : Nat) (a4 : OA) (c4 : Nat) (a6 : OA) (c6 : Nat) (a8 : OA) (c8 : Nat) (r : PR ((List Qn))) (hr : unify_spines n v1 v3 v5 v7 = some r) : Meets Tryz.prog (.val (.fn (.func 237) [] [])) [(.v (.slice a2 ((Dc.encL v1).length) c2)), (tU v3 a4 c4), (.agg [(iS v5.op), (iS v5.hd), (iS v5.n), (tU v5.args a6 c6)]), (.agg [(iS v7.op), (iS v7.hd), (iS v7.n), (tU v7.args a8 c8)])] ⟨[], [], [(.slice a2 ((Dc.encL v1).length) c2, .sl 6 (Dc.encL v1)), (tQ v3 a4 c4), (tQ v5.args a6 c6), (tQ v7.args a8 c8)]⟩ (PanR r (fun r o S' => ∃ (b1 : OA) (d1 : Nat), o = .ret (.v (.slice b1 ((Qn.encL r).length) d1)) ∧ S' = ⟨[], [], [(.slice b1 ((Qn.encL r).length) d1, .sl 13 (Qn.encL r))]⟩) (fun e o S' => o = .pan (panV 303 e) ∧ S' = ⟨[], [], []⟩)) := by
 rcases n with _ | n
 ·exact qe hr
 rw [unify_spines.eq_2] at hr
 refine qb (N := 115) (m := 0) (dt := drawsOf [(22, .node [0, 1, 2, 3, 4, 5, 6, 7, 8, 9, 10, 11, 12] [(13, .node [] [(14, .leaf [15])])], [13, 14], [])]) [] ttOK func237 rfl call237 ntmps237 rfl rfl rfl mixed (by kernel_rfl) ?_
 refine AtIf.mk (fun h9 => ?_) (fun h9 => ?_)
 ·replace hr := qg h9 hr
  refine qb (N := 5) (m := 2) (dt := fun _ => none) [] ttOK func165 rfl call165 ntmps165 rfl rfl rfl mixed (by kernel_rfl) ?_
  refine qae rfl rfl ?_
  refine AtRet.gen _ (StLe.refl _) rfl rfl ?_
  replace hr := osi hr; subst hr
  exact qt [] _ _ rfl rfl rfl rfl rfl rfl ⟨rfl, rfl⟩
 ·replace hr := qf h9 hr
  refine AtIf.mk (fun h10 => ?_) (fun h10 => ?_)
  ·replace hr := qg h10 hr
   refine AtIf.mk (fun h11 => ?_) (fun h11 => ?_)
   ·replace hr := qg h11 hr
    refine qb (N := 5) (m := 2) (dt := fun _ => none) [] ttOK func165 rfl call165 ntmps165 rfl rfl rfl mixed (by kernel_rfl) ?_
    refine qae rfl rfl ?_
    refine AtRet.gen _ (StLe.refl _) rfl rfl ?_
    replace hr := osi hr; subst hr
    exact qt [] _ _ rfl rfl rfl rfl rfl rfl ⟨rfl, rfl⟩
   ·replace hr := qf h11 hr
    refine AtIf.mk (fun h12 => ?_) (fun h12 => ?_)
    ·replace hr := qg h12 hr
     refine qb (N := 5) (m := 2) (dt := fun _ => none) [] ttOK func165 rfl call165 ntmps165 rfl rfl rfl mixed (by kernel_rfl) ?_
     refine qae rfl rfl ?_
     refine AtRet.gen _ (StLe.refl _) rfl rfl ?_
     replace hr := osi hr; subst hr
     exact qt [] _ _ rfl rfl rfl rfl rfl rfl ⟨rfl, rfl⟩
    ·replace hr := qf h12 hr
     refine AtIf.mk (fun h13 => ?_) (fun h13 => ?_)
     ·replace hr := qg h13 hr
      obtain ⟨v14, h15, hr⟩ := bind_some hr
      obtain ⟨h16, h17⟩ := qi h15
      refine qh ttOK 0 rfl rfl rfl rfl h16 (Dc.encL_get h17) ?_
      intro a18 c18 _ _
      refine AtLoop.mk ⟨Nat, fun x => [(1, (tU v3 a4 c4)), (7, (.loc 1 0)), (10, (.loc 2 0)), (11, (.v (.slice none 0 0))), (80, (tU v5.args a6 c6)), (81, (iS ((Tm.encL v5.args).length : Int))), (82, (iS 0))], fun x => ⟨[.cells 41 [(iS v5.op), (iS v5.hd), (iS v5.n), (tU v5.args a6 c6)], .cells 41 [(iS v7.op), (iS v7.hd), (iS v7.n), (tU v7.args a8 c8)], .cells 41 [(iS v14.cls.op), (iS v14.cls.hd), (iS v14.cls.n), (tU v14.cls.args a18 c18)], .imm [(sS v14.name), (iS v14.cls.op), (iS v14.cls.hd), (iS v14.cls.n), (tU v14.cls.args a18 c18), (iS v14.implicit)]], [], [(.slice a2 ((Dc.encL v1).length) c2, .sl 6 (Dc.encL v1)), (tQ v3 a4 c4), (tQ v5.args a6 c6), (tQ v7.args a8 c8), (tQ v14.cls.args a18 c18)]⟩, fun x => unify_spines_L1 x v5 v14 v7 v3 = some r, fun x => x, n, hr, ⟨rfl, rfl, rfl, rfl, rfl, rfl, rfl, trivial⟩, (StLe.gen 4 [] [.old 0, .old 1, .old 2, .old 3, .old 4] rfl rfl rfl rfl rfl rfl rfl), fun x _ => ⟨rfl, rfl⟩, ?_⟩
      rintro n HH
      have hr : unify_spines_L1 n v5 v14 v7 v3 = some r := HH
      rcases n with _ | n
      ·exact qe hr
      rw [unify_spines_L1.eq_2] at hr
      refine AtIf.mk (fun h19 => ?_) (fun h19 => ?_)
      ·replace hr := qg h19 hr
       obtain ⟨v20, h21, hr⟩ := bind_some hr
       obtain ⟨h22, h23⟩ := qi h21
       refine qh ttOK 2 rfl rfl rfl rfl h22 (Tm.encL_get h23) ?_
       intro a24 c24 _ _
       refine AtIf.mk (fun h25 => ?_) (fun h25 => ?_)
       ·replace hr := qg h25 hr
        refine qb (N := 5) (m := 6) (dt := fun _ => none) [] ttOK func165 rfl call165 ntmps165 rfl rfl rfl mixed (by kernel_rfl) ?_
        refine qae rfl rfl ?_
        refine AtRet.gen _ (StLe.refl _) rfl rfl ?_
        replace hr := osi hr; subst hr
        exact qt [] _ _ rfl rfl rfl rfl rfl rfl ⟨rfl, rfl⟩
       ·replace hr := qf h25 hr
        obtain ⟨v26, h27, hr⟩ := bind_some hr
        obtain ⟨h28, h29⟩ := qi h27
        refine qh ttOK 3 rfl rfl rfl rfl h28 (Tm.encL_get h29) ?_
        intro a30 c30 _ _
        obtain ⟨v31, h32, hr⟩ := bind_some hr
        obtain ⟨h33, h34⟩ := qi h32
        refine qh ttOK 4 rfl rfl rfl rfl h33 (Tm.encL_get h34) ?_
        intro a35 c35 _ _
        refine qk (n := 1) ttOK 168 [.agg [.sl 4 (Tm.encL v3), .agg [.int .i64 v20.op, .int .i64 v20.hd, .int .i64 v20.n, .sl 4 (Tm.encL v20.args)], .agg [.int .i64 v26.op, .int .i64 v26.hd, .int .i64 v26.n, .sl 4 (Tm.encL v26.args)], .agg [.int .i64 v31.op, .int .i64 v31.hd, .int .i64 v31.n, .sl 4 (Tm.encL v31.args)]]] (ds' := (Qn.encL ([(Qn.mk v3 v20 v26 v31)]))) rfl (by kernel_rfl) ⟨⟨rfl, rfl, rfl, ⟨[(tU v3 a4 c4)], _, rfl, (.inl ⟨_, rfl, ql (j := 1) rfl⟩), ⟨[(iS v20.op), (iS v20.hd), (iS v20.n), (tU v20.args a24 c24)], _, rfl, ⟨[(iS v20.op)], _, rfl, rfl, ⟨[(iS v20.hd)], _, rfl, rfl, ⟨[(iS v20.n)], _, rfl, rfl, ⟨[(tU v20.args a24 c24)], _, rfl, (.inl ⟨_, rfl, ql (j := 5) rfl⟩), rfl⟩⟩⟩⟩, ⟨[(iS v26.op), (iS v26.hd), (iS v26.n), (tU v26.args a30 c30)], _, rfl, ⟨[(iS v26.op)], _, rfl, rfl, ⟨[(iS v26.hd)], _, rfl, rfl, ⟨[(iS v26.n)], _, rfl, rfl, ⟨[(tU v26.args a30 c30)], _, rfl, (.inl ⟨_, rfl, ql (j := 6) rfl⟩), rfl⟩⟩⟩⟩, ⟨[(iS v31.op), (iS v31.hd), (iS v31.n), (tU v31.args a35 c35)], _, rfl, ⟨[(iS v31.op)], _, rfl, rfl, ⟨[(iS v31.hd)], _, rfl, rfl, ⟨[(iS v31.n)], _, rfl, rfl, ⟨[(tU v31.args a35 c35)], _, rfl, (.inl ⟨_, rfl, ql (j := 7) rfl⟩), rfl⟩⟩⟩⟩, rfl⟩⟩⟩⟩⟩, trivial⟩ rfl (by simp only [Qn.encL_eq, List.map_cons, List.map_nil, Qn.enc_eq] <;> rfl) (by decide) (by decide) ?_
        intro a36
        obtain ⟨h37, hr⟩ := qj hr
        refine AtSem.le (S' := ⟨[.cells 41 [(iS v5.op), (iS v5.hd), (iS v5.n), (tU v5.args a6 c6)], .cells 41 [(iS v7.op), (iS v7.hd), (iS v7.n), (tU v7.args a8 c8)], .cells 41 [(iS v14.cls.op), (iS v14.cls.hd), (iS v14.cls.n), (tU v14.cls.args a18 c18)], .imm [(sS v14.name), (iS v14.cls.op), (iS v14.cls.hd), (iS v14.cls.n), (tU v14.cls.args a18 c18), (iS v14.implicit)], .imm [(iS v20.op), (iS v20.hd), (iS v20.n), (tU v20.args a24 c24)], .cells 41 [(iS v20.op), (iS v20.hd), (iS v20.n), (tU v20.args a24 c24)], .imm [(iS v26.op), (iS v26.hd), (iS v26.n), (tU v26.args a30 c30)], .imm [(iS v31.op), (iS v31.hd), (iS v31.n), (tU v31.args a35 c35)]], [⟨.slice none 0 0, 13, 46, []⟩], [(.slice a2 ((Dc.encL v1).length) c2, .sl 6 (Dc.encL v1)), (tQ v3 a4 c4), (tQ v5.args a6 c6), (tQ v7.args a8 c8), (tQ v14.cls.args a18 c18), (tQ v20.args a24 c24), (tQ v26.args a30 c30), (tQ v31.args a35 c35), (.slice a36 ((Qn.encL ([(Qn.mk v3 v20 v26 v31)])).length) 1, .sl 13 (Qn.encL ([(Qn.mk v3 v20 v26 v31)])))]⟩) (StLe.gen 8 [.nil 13 46] [.old 0, .old 1, .old 2, .old 3, .old 4, .old 5, .old 6, .old 7, .old 8] rfl rfl rfl rfl rfl rfl rfl) rfl ?_
        refine qm (ds' := (Qn.encL ([(Qn.mk v3 v20 v26 v31)]))) ttOK 168 0 8 rfl (by kernel_rfl) rfl rfl rfl rfl (List.nil_append _).symm h37 (by decide) ?_
        intro a38 c38
        refine qk (n := 1) ttOK 48 [.agg [.int .i64 v20.op, .int .i64 v20.hd, .int .i64 v20.n, .sl 4 (Tm.encL v20.args)]] (ds' := (Tm.encL ([v20]))) rfl (by kernel_rfl) ⟨⟨rfl, rfl, rfl, ⟨[(iS v20.op)], _, rfl, rfl, ⟨[(iS v20.hd)], _, rfl, rfl, ⟨[(iS v20.n)], _, rfl, rfl, ⟨[(tU v20.args a24 c24)], _, rfl, (.inl ⟨_, rfl, ql (j := 5) rfl⟩), rfl⟩⟩⟩⟩⟩, trivial⟩ rfl (by simp only [Tm.encL_eq, List.map_cons, List.map_nil, Tm.enc_eq] <;> rfl) (by decide) (by decide) ?_
        intro a39
        exact qe hr
      ·replace hr := qf h19 hr
       replace hr := osi hr; subst hr
       exact AtRet.gen ⟨[], [], [(.slice none 0 0, .sl 13 [])]⟩ (StLe.gen 0 [] [.nil 13] rfl rfl rfl rfl rfl rfl rfl) rfl rfl ⟨none, 0, rfl, rfl⟩
     ·replace hr := qf h13 hr
      obtain ⟨v40, h41, hr⟩ := bind_some hr
      obtain ⟨h42, h43⟩ := qi h41
      refine qh ttOK 1 rfl rfl rfl rfl h42 (Tm.encL_get h43) ?_
      intro a44 c44 _ _
      refine AtIf.mk (fun h45 => ?_) (fun h45 => ?_)
      ·replace hr := qg h45 hr
       obtain ⟨v46, h47, hr⟩ := bind_some hr
       refine (qb4 n v40 (IntKind.i64.wrap (v5.n + 1)) 0 a44 c44 _ h47).atR [4] rfl rfl rfl ?_
       rintro _ _ ⟨a48, c48, rfl, rfl⟩
       refine qb (N := 10) (m := 4) (dt := fun _ => none) [] ttOK func227 rfl call227 ntmps227 rfl rfl rfl mixed (by kernel_rfl) ?_
       refine AtIf.mk (fun h49 => ?_) (fun h49 => ?_)
       ·replace hr := qg h49 hr
        refine qb (N := 5) (m := 6) (dt := fun _ => none) [] ttOK func165 rfl call165 ntmps165 rfl rfl rfl mixed (by kernel_rfl) ?_
        refine qae rfl rfl ?_
        refine AtRet.gen _ (StLe.refl _) rfl rfl ?_
        refine AtRet.gen _ (StLe.refl _) rfl rfl ?_
        replace hr := osi hr; subst hr
        exact qt [] _ _ rfl rfl rfl rfl rfl rfl ⟨rfl, rfl⟩
       ·replace hr := qf h49 hr
        refine AtRet.gen _ (StLe.refl _) rfl rfl ?_
        refine AtLoop.mk ⟨Nat, fun x => [(1, (tU v3 a4 c4)), (7, (.loc 1 0)), (10, (.loc 2 0)), (11, (.v (.slice none 0 0))), (80, (tU v5.args a6 c6)), (81, (iS ((Tm.encL v5.args).length : Int))), (82, (iS 0))], fun x => ⟨[.cells 41 [(iS v5.op), (iS v5.hd), (iS v5.n), (tU v5.args a6 c6)], .cells 41 [(iS v7.op), (iS v7.hd), (iS v7.n), (tU v7.args a8 c8)], .cells 41 [(iS v46.1.op), (iS v46.1.hd), (iS v46.1.n), (tU v46.1.args a48 c48)], .imm [(iS v40.op), (iS v40.hd), (iS v40.n), (tU v40.args a44 c44)], .cells 41 [(iS v46.1.op), (iS v46.1.hd), (iS v46.1.n), (tU v46.1.args a48 c48)], .cells 41 [(iS v46.1.op), (iS v46.1.hd), (iS v46.1.n), (tU v46.1.args a48 c48)]], [], [(.slice a2 ((Dc.encL v1).length) c2, .sl 6 (Dc.encL v1)), (tQ v3 a4 c4), (tQ v5.args a6 c6), (tQ v7.args a8 c8), (tQ v40.args a44 c44), (tQ v46.1.args a48 c48)]⟩, fun x => unify_spines_L2 x v5 v46 v7 v3 = some r, fun x => x, n, hr, ⟨rfl, rfl, rfl, rfl, rfl, rfl, rfl, trivial⟩, (StLe.gen 6 [] [.old 0, .old 1, .old 2, .old 3, .old 4, .old 5] rfl rfl rfl rfl rfl rfl rfl), fun x _ => ⟨rfl, rfl⟩, ?_⟩
        rintro n HH
        have hr : unify_spines_L2 n v5 v46 v7 v3 = some r := HH
        rcases n with _ | n
        ·exact qe hr
        rw [unify_spines_L2.eq_2] at hr
        refine AtIf.mk (fun h50 => ?_) (fun h50 => ?_)
        ·replace hr := qg h50 hr
         obtain ⟨v51, h52, hr⟩ := bind_some hr
         obtain ⟨h53, h54⟩ := qi h52
         refine qh ttOK 2 rfl rfl rfl rfl h53 (Tm.encL_get h54) ?_
         intro a55 c55 _ _
         refine AtIf.mk (fun h56 => ?_) (fun h56 => ?_)
         ·replace hr := qg h56 hr
          refine qb (N := 5) (m := 8) (dt := fun _ => none) [] ttOK func165 rfl call165 ntmps165 rfl rfl rfl mixed (by kernel_rfl) ?_
          refine qae rfl rfl ?_
          refine AtRet.gen _ (StLe.refl _) rfl rfl ?_
          replace hr := osi hr; subst hr
          exact qt [] _ _ rfl rfl rfl rfl rfl rfl ⟨rfl, rfl⟩
         ·replace hr := qf h56 hr
          obtain ⟨v57, h58, hr⟩ := bind_some hr
          obtain ⟨h59, h60⟩ := qi h58
          refine qh ttOK 3 rfl rfl rfl rfl h59 (Tm.encL_get h60) ?_
          intro a61 c61 _ _
          obtain ⟨v62, h63, hr⟩ := bind_some hr
          obtain ⟨h64, h65⟩ := qi h63
          refine qh ttOK 5 rfl rfl rfl rfl h64 (Tm.encL_get h65) ?_
          intro a66 c66 _ _
          refine qk (n := 1) ttOK 168 [.agg [.sl 4 (Tm.encL v3), .agg [.int .i64 v51.op, .int .i64 v51.hd, .int .i64 v51.n, .sl 4 (Tm.encL v51.args)], .agg [.int .i64 v57.op, .int .i64 v57.hd, .int .i64 v57.n, .sl 4 (Tm.encL v57.args)], .agg [.int .i64 v62.op, .int .i64 v62.hd, .int .i64 v62.n, .sl 4 (Tm.encL v62.args)]]] (ds' := (Qn.encL ([(Qn.mk v3 v51 v57 v62)]))) rfl (by kernel_rfl) ⟨⟨rfl, rfl, rfl, ⟨[(tU v3 a4 c4)], _, rfl, (.inl ⟨_, rfl, ql (j := 1) rfl⟩), ⟨[(iS v51.op), (iS v51.hd), (iS v51.n), (tU v51.args a55 c55)], _, rfl, ⟨[(iS v51.op)], _, rfl, rfl, ⟨[(iS v51.hd)], _, rfl, rfl, ⟨[(iS v51.n)], _, rfl, rfl, ⟨[(tU v51.args a55 c55)], _, rfl, (.inl ⟨_, rfl, ql (j := 6) rfl⟩), rfl⟩⟩⟩⟩, ⟨[(iS v57.op), (iS v57.hd), (iS v57.n), (tU v57.args a61 c61)], _, rfl, ⟨[(iS v57.op)], _, rfl, rfl, ⟨[(iS v57.hd)], _, rfl, rfl, ⟨[(iS v57.n)], _, rfl, rfl, ⟨[(tU v57.args a61 c61)], _, rfl, (.inl ⟨_, rfl, ql (j := 7) rfl⟩), rfl⟩⟩⟩⟩, ⟨[(iS v62.op), (iS v62.hd), (iS v62.n), (tU v62.args a66 c66)], _, rfl, ⟨[(iS v62.op)], _, rfl, rfl, ⟨[(iS v62.hd)], _, rfl, rfl, ⟨[(iS v62.n)], _, rfl, rfl, ⟨[(tU v62.args a66 c66)], _, rfl, (.inl ⟨_, rfl, ql (j := 8) rfl⟩), rfl⟩⟩⟩⟩, rfl⟩⟩⟩⟩⟩, trivial⟩ rfl (by simp only [Qn.encL_eq, List.map_cons, List.map_nil, Qn.enc_eq] <;> rfl) (by decide) (by decide) ?_
          intro a67
          obtain ⟨h68, hr⟩ := qj hr
          refine AtSem.le (S' := ⟨[.cells 41 [(iS v5.op), (iS v5.hd), (iS v5.n), (tU v5.args a6 c6)], .cells 41 [(iS v7.op), (iS v7.hd), (iS v7.n), (tU v7.args a8 c8)], .cells 41 [(iS v46.1.op), (iS v46.1.hd), (iS v46.1.n), (tU v46.1.args a48 c48)], .imm [(iS v40.op), (iS v40.hd), (iS v40.n), (tU v40.args a44 c44)], .cells 41 [(iS v46.1.op), (iS v46.1.hd), (iS v46.1.n), (tU v46.1.args a48 c48)], .cells 41 [(iS v46.1.op), (iS v46.1.hd), (iS v46.1.n), (tU v46.1.args a48 c48)], .imm [(iS v51.op), (iS v51.hd), (iS v51.n), (tU v51.args a55 c55)], .cells 41 [(iS v51.op), (iS v51.hd), (iS v51.n), (tU v51.args a55 c55)], .imm [(iS v57.op), (iS v57.hd), (iS v57.n), (tU v57.args a61 c61)], .imm [(iS v62.op), (iS v62.hd), (iS v62.n), (tU v62.args a66 c66)]], [⟨.slice none 0 0, 13, 46, []⟩], [(.slice a2 ((Dc.encL v1).length) c2, .sl 6 (Dc.encL v1)), (tQ v3 a4 c4), (tQ v5.args a6 c6), (tQ v7.args a8 c8), (tQ v40.args a44 c44), (tQ v46.1.args a48 c48), (tQ v51.args a55 c55), (tQ v57.args a61 c61), (tQ v62.args a66 c66), (.slice a67 ((Qn.encL ([(Qn.mk v3 v51 v57 v62)])).length) 1, .sl 13 (Qn.encL ([(Qn.mk v3 v51 v57 v62)])))]⟩) (StLe.gen 10 [.nil 13 46] [.old 0, .old 1, .old 2, .old 3, .old 4, .old 5, .old 6, .old 7, .old 8, .old 9] rfl rfl rfl rfl rfl rfl rfl) rfl ?_
          refine qm (ds' := (Qn.encL ([(Qn.mk v3 v51 v57 v62)]))) ttOK 168 0 9 rfl (by kernel_rfl) rfl rfl rfl rfl (List.nil_append _).symm h68 (by decide) ?_
          intro a69 c69
          refine qk (n := 1) ttOK 48 [.agg [.int .i64 v51.op, .int .i64 v51.hd, .int .i64 v51.n, .sl 4 (Tm.encL v51.args)]] (ds' := (Tm.encL ([v51]))) rfl (by kernel_rfl) ⟨⟨rfl, rfl, rfl, ⟨[(iS v51.op)], _, rfl, rfl, ⟨[(iS v51.hd)], _, rfl, rfl, ⟨[(iS v51.n)], _, rfl, rfl, ⟨[(tU v51.args a55 c55)], _, rfl, (.inl ⟨_, rfl, ql (j := 6) rfl⟩), rfl⟩⟩⟩⟩⟩, trivial⟩ rfl (by simp only [Tm.encL_eq, List.map_cons, List.map_nil, Tm.enc_eq] <;> rfl) (by decide) (by decide) ?_
          intro a70
          exact qe hr
        ·replace hr := qf h50 hr
         replace hr := osi hr; subst hr
         exact AtRet.gen ⟨[], [], [(.slice none 0 0, .sl 13 [])]⟩ (StLe.gen 0 [] [.nil 13] rfl rfl rfl rfl rfl rfl rfl) rfl rfl ⟨none, 0, rfl, rfl⟩
      ·replace hr := qf h45 hr
       refine AtLoop.mk ⟨Nat, fun x => [(1, (tU v3 a4 c4)), (7, (.loc 1 0)), (10, (.loc 2 0)), (11, (.v (.slice none 0 0))), (80, (tU v5.args a6 c6)), (81, (iS ((Tm.encL v5.args).length : Int))), (82, (iS 0))], fun x => ⟨[.cells 41 [(iS v5.op), (iS v5.hd), (iS v5.n), (tU v5.args a6 c6)], .cells 41 [(iS v7.op), (iS v7.hd), (iS v7.n), (tU v7.args a8 c8)], .cells 41 [(iS v40.op), (iS v40.hd), (iS v40.n), (tU v40.args a44 c44)], .imm [(iS v40.op), (iS v40.hd), (iS v40.n), (tU v40.args a44 c44)]], [], [(.slice a2 ((Dc.encL v1).length) c2, .sl 6 (Dc.encL v1)), (tQ v3 a4 c4), (tQ v5.args a6 c6), (tQ v7.args a8 c8), (tQ v40.args a44 c44)]⟩, fun x => unify_spines_L3 x v5 v40 v7 v3 = some r, fun x => x, n, hr, ⟨rfl, rfl, rfl, rfl, rfl, rfl, rfl, trivial⟩, (StLe.gen 4 [] [.old 0, .old 1, .old 2, .old 3, .old 4] rfl rfl rfl rfl rfl rfl rfl), fun x _ => ⟨rfl, rfl⟩, ?_⟩
       rintro n HH
       have hr : unify_spines_L3 n v5 v40 v7 v3 = some r := HH
       rcases n with _ | n
       ·exact qe hr
       rw [unify_spines_L3.eq_2] at hr
       refine AtIf.mk (fun h71 => ?_) (fun h71 => ?_)
       ·replace hr := qg h71 hr
        obtain ⟨v72, h73, hr⟩ := bind_some hr
        obtain ⟨h74, h75⟩ := qi h73
        refine qh ttOK 2 rfl rfl rfl rfl h74 (Tm.encL_get h75) ?_
        intro a76 c76 _ _
        refine AtIf.mk (fun h77 => ?_) (fun h77 => ?_)
        ·replace hr := qg h77 hr
         refine qb (N := 5) (m := 6) (dt := fun _ => none) [] ttOK func165 rfl call165 ntmps165 rfl rfl rfl mixed (by kernel_rfl) ?_
         refine qae rfl rfl ?_
         refine AtRet.gen _ (StLe.refl _) rfl rfl ?_
         replace hr := osi hr; subst hr
         exact qt [] _ _ rfl rfl rfl rfl rfl rfl ⟨rfl, rfl⟩
        ·replace hr := qf h77 hr
         obtain ⟨v78, h79, hr⟩ := bind_some hr
         obtain ⟨h80, h81⟩ := qi h79
         refine qh ttOK 3 rfl rfl rfl rfl h80 (Tm.encL_get h81) ?_
         intro a82 c82 _ _
         obtain ⟨v83, h84, hr⟩ := bind_some hr
         obtain ⟨h85, h86⟩ := qi h84
         refine qh ttOK 4 rfl rfl rfl rfl h85 (Tm.encL_get h86) ?_
         intro a87 c87 _ _
         refine qk (n := 1) ttOK 168 [.agg [.sl 4 (Tm.encL v3), .agg [.int .i64 v72.op, .int .i64 v72.hd, .int .i64 v72.n, .sl 4 (Tm.encL v72.args)], .agg [.int .i64 v78.op, .int .i64 v78.hd, .int .i64 v78.n, .sl 4 (Tm.encL v78.args)], .agg [.int .i64 v83.op, .int .i64 v83.hd, .int .i64 v83.n, .sl 4 (Tm.encL v83.args)]]] (ds' := (Qn.encL ([(Qn.mk v3 v72 v78 v83)]))) rfl (by kernel_rfl) ⟨⟨rfl, rfl, rfl, ⟨[(tU v3 a4 c4)], _, rfl, (.inl ⟨_, rfl, ql (j := 1) rfl⟩), ⟨[(iS v72.op), (iS v72.hd), (iS v72.n), (tU v72.args a76 c76)], _, rfl, ⟨[(iS v72.op)], _, rfl, rfl, ⟨[(iS v72.hd)], _, rfl, rfl, ⟨[(iS v72.n)], _, rfl, rfl, ⟨[(tU v72.args a76 c76)], _, rfl, (.inl ⟨_, rfl, ql (j := 5) rfl⟩), rfl⟩⟩⟩⟩, ⟨[(iS v78.op), (iS v78.hd), (iS v78.n), (tU v78.args a82 c82)], _, rfl, ⟨[(iS v78.op)], _, rfl, rfl, ⟨[(iS v78.hd)], _, rfl, rfl, ⟨[(iS v78.n)], _, rfl, rfl, ⟨[(tU v78.args a82 c82)], _, rfl, (.inl ⟨_, rfl, ql (j := 6) rfl⟩), rfl⟩⟩⟩⟩, ⟨[(iS v83.op), (iS v83.hd), (iS v83.n), (tU v83.args a87 c87)], _, rfl, ⟨[(iS v83.op)], _, rfl, rfl, ⟨[(iS v83.hd)], _, rfl, rfl, ⟨[(iS v83.n)], _, rfl, rfl, ⟨[(tU v83.args a87 c87)], _, rfl, (.inl ⟨_, rfl, ql (j := 7) rfl⟩), rfl⟩⟩⟩⟩, rfl⟩⟩⟩⟩⟩, trivial⟩ rfl (by simp only [Qn.encL_eq, List.map_cons, List.map_nil, Qn.enc_eq] <;> rfl) (by decide) (by decide) ?_
         intro a88
         obtain ⟨h89, hr⟩ := qj hr
         refine AtSem.le (S' := ⟨[.cells 41 [(iS v5.op), (iS v5.hd), (iS v5.n), (tU v5.args a6 c6)], .cells 41 [(iS v7.op), (iS v7.hd), (iS v7.n), (tU v7.args a8 c8)], .cells 41 [(iS v40.op), (iS v40.hd), (iS v40.n), (tU v40.args a44 c44)], .imm [(iS v40.op), (iS v40.hd), (iS v40.n), (tU v40.args a44 c44)], .imm [(iS v72.op), (iS v72.hd), (iS v72.n), (tU v72.args a76 c76)], .cells 41 [(iS v72.op), (iS v72.hd), (iS v72.n), (tU v72.args a76 c76)], .imm [(iS v78.op), (iS v78.hd), (iS v78.n), (tU v78.args a82 c82)], .imm [(iS v83.op), (iS v83.hd), (iS v83.n), (tU v83.args a87 c87)]], [⟨.slice none 0 0, 13, 46, []⟩], [(.slice a2 ((Dc.encL v1).length) c2, .sl 6 (Dc.encL v1)), (tQ v3 a4 c4), (tQ v5.args a6 c6), (tQ v7.args a8 c8), (tQ v40.args a44 c44), (tQ v72.args a76 c76), (tQ v78.args a82 c82), (tQ v83.args a87 c87), (.slice a88 ((Qn.encL ([(Qn.mk v3 v72 v78 v83)])).length) 1, .sl 13 (Qn.encL ([(Qn.mk v3 v72 v78 v83)])))]⟩) (StLe.gen 8 [.nil 13 46] [.old 0, .old 1, .old 2, .old 3, .old 4, .old 5, .old 6, .old 7, .old 8] rfl rfl rfl rfl rfl rfl rfl) rfl ?_
         refine qm (ds' := (Qn.encL ([(Qn.mk v3 v72 v78 v83)]))) ttOK 168 0 8 rfl (by kernel_rfl) rfl rfl rfl rfl (List.nil_append _).symm h89 (by decide) ?_
         intro a90 c90
         refine qk (n := 1) ttOK 48 [.agg [.int .i64 v72.op, .int .i64 v72.hd, .int .i64 v72.n, .sl 4 (Tm.encL v72.args)]] (ds' := (Tm.encL ([v72]))) rfl (by kernel_rfl) ⟨⟨rfl, rfl, rfl, ⟨[(iS v72.op)], _, rfl, rfl, ⟨[(iS v72.hd)], _, rfl, rfl, ⟨[(iS v72.n)], _, rfl, rfl, ⟨[(tU v72.args a76 c76)], _, rfl, (.inl ⟨_, rfl, ql (j := 5) rfl⟩), rfl⟩⟩⟩⟩⟩, trivial⟩ rfl (by simp only [Tm.encL_eq, List.map_cons, List.map_nil, Tm.enc_eq] <;> rfl) (by decide) (by decide) ?_
         intro a91
         exact qe hr
       ·replace hr := qf h71 hr
        replace hr := osi hr; subst hr
        exact AtRet.gen ⟨[], [], [(.slice none 0 0, .sl 13 [])]⟩ (StLe.gen 0 [] [.nil 13] rfl rfl rfl rfl rfl rfl rfl) rfl rfl ⟨none, 0, rfl, rfl⟩
  ·replace hr := qf h10 hr
   refine AtIf.mk (fun h92 => ?_) (fun h92 => ?_)
   ·replace hr := qg h92 hr
    refine qb (N := 5) (m := 2) (dt := fun _ => none) [] ttOK func165 rfl call165 ntmps165 rfl rfl rfl mixed (by kernel_rfl) ?_
    refine qae rfl rfl ?_
    refine AtRet.gen _ (StLe.refl _) rfl rfl ?_
    replace hr := osi hr; subst hr
    exact qt [] _ _ rfl rfl rfl rfl rfl rfl ⟨rfl, rfl⟩
   ·replace hr := qf h92 hr
    refine AtIf.mk (fun h93 => ?_) (fun h93 => ?_)
    ·replace hr := qg h93 hr
     refine qb (N := 5) (m := 2) (dt := fun _ => none) [] ttOK func165 rfl call165 ntmps165 rfl rfl rfl mixed (by kernel_rfl) ?_
     refine qae rfl rfl ?_
     refine AtRet.gen _ (StLe.refl _) rfl rfl ?_
     replace hr := osi hr; subst hr
     exact qt [] _ _ rfl rfl rfl rfl rfl rfl ⟨rfl, rfl⟩
    ·replace hr := qf h93 hr
     refine AtIf.mk (fun h94 => ?_) (fun h94 => ?_)
     ·replace hr := qg h94 hr
      obtain ⟨v95, h96, hr⟩ := bind_some hr
      obtain ⟨h97, h98⟩ := qi h96
      refine qh ttOK 0 rfl rfl rfl rfl h97 (Dc.encL_get h98) ?_
      intro a99 c99 _ _
      refine AtLoop.mk ⟨Nat, fun x => [(1, (tU v3 a4 c4)), (7, (.loc 1 0)), (10, (.loc 2 0)), (11, (.v (.slice none 0 0))), (80, (tU v5.args a6 c6)), (81, (iS ((Tm.encL v5.args).length : Int))), (82, (iS 0))], fun x => ⟨[.cells 41 [(iS v5.op), (iS v5.hd), (iS v5.n), (tU v5.args a6 c6)], .cells 41 [(iS v7.op), (iS v7.hd), (iS v7.n), (tU v7.args a8 c8)], .cells 41 [(iS v95.cls.op), (iS v95.cls.hd), (iS v95.cls.n), (tU v95.cls.args a99 c99)], .imm [(sS v95.name), (iS v95.cls.op), (iS v95.cls.hd), (iS v95.cls.n), (tU v95.cls.args a99 c99), (iS v95.implicit)]], [], [(.slice a2 ((Dc.encL v1).length) c2, .sl 6 (Dc.encL v1)), (tQ v3 a4 c4), (tQ v5.args a6 c6), (tQ v7.args a8 c8), (tQ v95.cls.args a99 c99)]⟩, fun x => unify_spines_L1 x v5 v95 v7 v3 = some r, fun x => x, n, hr, ⟨rfl, rfl, rfl, rfl, rfl, rfl, rfl, trivial⟩, (StLe.gen 4 [] [.old 0, .old 1, .old 2, .old 3, .old 4] rfl rfl rfl rfl rfl rfl rfl), fun x _ => ⟨rfl, rfl⟩, ?_⟩
      rintro n HH
      have hr : unify_spines_L1 n v5 v95 v7 v3 = some r := HH
      rcases n with _ | n
      ·exact qe hr
      rw [unify_spines_L1.eq_2] at hr
      refine AtIf.mk (fun h100 => ?_) (fun h100 => ?_)
      ·replace hr := qg h100 hr
       obtain ⟨v101, h102, hr⟩ := bind_some hr
       obtain ⟨h103, h104⟩ := qi h102
       refine qh ttOK 2 rfl rfl rfl rfl h103 (Tm.encL_get h104) ?_
       intro a105 c105 _ _
       refine AtIf.mk (fun h106 => ?_) (fun h106 => ?_)
       ·replace hr := qg h106 hr
        refine qb (N := 5) (m := 6) (dt := fun _ => none) [] ttOK func165 rfl call165 ntmps165 rfl rfl rfl mixed (by kernel_rfl) ?_
        refine qae rfl rfl ?_
        refine AtRet.gen _ (StLe.refl _) rfl rfl ?_
        replace hr := osi hr; subst hr
        exact qt [] _ _ rfl rfl rfl rfl rfl rfl ⟨rfl, rfl⟩
       ·replace hr := qf h106 hr
        obtain ⟨v107, h108, hr⟩ := bind_some hr
        obtain ⟨h109, h110⟩ := qi h108
        refine qh ttOK 3 rfl rfl rfl rfl h109 (Tm.encL_get h110) ?_
        intro a111 c111 _ _
        obtain ⟨v112, h113, hr⟩ := bind_some hr
        obtain ⟨h114, h115⟩ := qi h113
        refine qh ttOK 4 rfl rfl rfl rfl h114 (Tm.encL_get h115) ?_
        intro a116 c116 _ _
        refine qk (n := 1) ttOK 168 [.agg [.sl 4 (Tm.encL v3), .agg [.int .i64 v101.op, .int .i64 v101.hd, .int .i64 v101.n, .sl 4 (Tm.encL v101.args)], .agg [.int .i64 v107.op, .int .i64 v107.hd, .int .i64 v107.n, .sl 4 (Tm.encL v107.args)], .agg [.int .i64 v112.op, .int .i64 v112.hd, .int .i64 v112.n, .sl 4 (Tm.encL v112.args)]]] (ds' := (Qn.encL ([(Qn.mk v3 v101 v107 v112)]))) rfl (by kernel_rfl) ⟨⟨rfl, rfl, rfl, ⟨[(tU v3 a4 c4)], _, rfl, (.inl ⟨_, rfl, ql (j := 1) rfl⟩), ⟨[(iS v101.op), (iS v101.hd), (iS v101.n), (tU v101.args a105 c105)], _, rfl, ⟨[(iS v101.op)], _, rfl, rfl, ⟨[(iS v101.hd)], _, rfl, rfl, ⟨[(iS v101.n)], _, rfl, rfl, ⟨[(tU v101.args a105 c105)], _, rfl, (.inl ⟨_, rfl, ql (j := 5) rfl⟩), rfl⟩⟩⟩⟩, ⟨[(iS v107.op), (iS v107.hd), (iS v107.n), (tU v107.args a111 c111)], _, rfl, ⟨[(iS v107.op)], _, rfl, rfl, ⟨[(iS v107.hd)], _, rfl, rfl, ⟨[(iS v107.n)], _, rfl, rfl, ⟨[(tU v107.args a111 c111)], _, rfl, (.inl ⟨_, rfl, ql (j := 6) rfl⟩), rfl⟩⟩⟩⟩, ⟨[(iS v112.op), (iS v112.hd), (iS v112.n), (tU v112.args a116 c116)], _, rfl, ⟨[(iS v112.op)], _, rfl, rfl, ⟨[(iS v112.hd)], _, rfl, rfl, ⟨[(iS v112.n)], _, rfl, rfl, ⟨[(tU v112.args a116 c116)], _, rfl, (.inl ⟨_, rfl, ql (j := 7) rfl⟩), rfl⟩⟩⟩⟩, rfl⟩⟩⟩⟩⟩, trivial⟩ rfl (by simp only [Qn.encL_eq, List.map_cons, List.map_nil, Qn.enc_eq] <;> rfl) (by decide) (by decide) ?_
        intro a117
        obtain ⟨h118, hr⟩ := qj hr
        refine AtSem.le (S' := ⟨[.cells 41 [(iS v5.op), (iS v5.hd), (iS v5.n), (tU v5.args a6 c6)], .cells 41 [(iS v7.op), (iS v7.hd), (iS v7.n), (tU v7.args a8 c8)], .cells 41 [(iS v95.cls.op), (iS v95.cls.hd), (iS v95.cls.n), (tU v95.cls.args a99 c99)], .imm [(sS v95.name), (iS v95.cls.op), (iS v95.cls.hd), (iS v95.cls.n), (tU v95.cls.args a99 c99), (iS v95.implicit)], .imm [(iS v101.op), (iS v101.hd), (iS v101.n), (tU v101.args a105 c105)], .cells 41 [(iS v101.op), (iS v101.hd), (iS v101.n), (tU v101.args a105 c105)], .imm [(iS v107.op), (iS v107.hd), (iS v107.n), (tU v107.args a111 c111)], .imm [(iS v112.op), (iS v112.hd), (iS v112.n), (tU v112.args a116 c116)]], [⟨.slice none 0 0, 13, 46, []⟩], [(.slice a2 ((Dc.encL v1).length) c2, .sl 6 (Dc.encL v1)), (tQ v3 a4 c4), (tQ v5.args a6 c6), (tQ v7.args a8 c8), (tQ v95.cls.args a99 c99), (tQ v101.args a105 c105), (tQ v107.args a111 c111), (tQ v112.args a116 c116), (.slice a117 ((Qn.encL ([(Qn.mk v3 v101 v107 v112)])).length) 1, .sl 13 (Qn.encL ([(Qn.mk v3 v101 v107 v112)])))]⟩) (StLe.gen 8 [.nil 13 46] [.old 0, .old 1, .old 2, .old 3, .old 4, .old 5, .old 6, .old 7, .old 8] rfl rfl rfl rfl rfl rfl rfl) rfl ?_
        refine qm (ds' := (Qn.encL ([(Qn.mk v3 v101 v107 v112)]))) ttOK 168 0 8 rfl (by kernel_rfl) rfl rfl rfl rfl (List.nil_append _).symm h118 (by decide) ?_
        intro a119 c119
        refine qk (n := 1) ttOK 48 [.agg [.int .i64 v101.op, .int .i64 v101.hd, .int .i64 v101.n, .sl 4 (Tm.encL v101.args)]] (ds' := (Tm.encL ([v101]))) rfl (by kernel_rfl) ⟨⟨rfl, rfl, rfl, ⟨[(iS v101.op)], _, rfl, rfl, ⟨[(iS v101.hd)], _, rfl, rfl, ⟨[(iS v101.n)], _, rfl, rfl, ⟨[(tU v101.args a105 c105)], _, rfl, (.inl ⟨_, rfl, ql (j := 5) rfl⟩), rfl⟩⟩⟩⟩⟩, trivial⟩ rfl (by simp only [Tm.encL_eq, List.map_cons, List.map_nil, Tm.enc_eq] <;> rfl) (by decide) (by decide) ?_
        intro a120
        exact qe hr
      ·replace hr := qf h100 hr
       replace hr := osi hr; subst hr
       exact AtRet.gen ⟨[], [], [(.slice none 0 0, .sl 13 [])]⟩ (StLe.gen 0 [] [.nil 13] rfl rfl rfl rfl rfl rfl rfl) rfl rfl ⟨none, 0, rfl, rfl⟩
     ·replace hr := qf h94 hr
      obtain ⟨v121, h122, hr⟩ := bind_some hr
      obtain ⟨h123, h124⟩ := qi h122
      refine qh ttOK 1 rfl rfl rfl rfl h123 (Tm.encL_get h124) ?_
      intro a125 c125 _ _
      refine AtIf.mk (fun h126 => ?_) (fun h126 => ?_)
      ·replace hr := qg h126 hr
       obtain ⟨v127, h128, hr⟩ := bind_some hr
       refine (qb4 n v121 (IntKind.i64.wrap (v5.n + 1)) 0 a125 c125 _ h128).atR [4] rfl rfl rfl ?_
       rintro _ _ ⟨a129, c129, rfl, rfl⟩
       refine qb (N := 10) (m := 4) (dt := fun _ => none) [] ttOK func227 rfl call227 ntmps227 rfl rfl rfl mixed (by kernel_rfl) ?_
       refine AtIf.mk (fun h130 => ?_) (fun h130 => ?_)
       ·replace hr := qg h130 hr
        refine qb (N := 5) (m := 6) (dt := fun _ => none) [] ttOK func165 rfl call165 ntmps165 rfl rfl rfl mixed (by kernel_rfl) ?_
        refine qae rfl rfl ?_
        refine AtRet.gen _ (StLe.refl _) rfl rfl ?_
        refine AtRet.gen _ (StLe.refl _) rfl rfl ?_
        replace hr := osi hr; subst hr
        exact qt [] _ _ rfl rfl rfl rfl rfl rfl ⟨rfl, rfl⟩
       ·replace hr := qf h130 hr
        refine AtRet.gen _ (StLe.refl _) rfl rfl ?_
        refine AtLoop.mk ⟨Nat, fun x => [(1, (tU v3 a4 c4)), (7, (.loc 1 0)), (10, (.loc 2 0)), (11, (.v (.slice none 0 0))), (80, (tU v5.args a6 c6)), (81, (iS ((Tm.encL v5.args).length : Int))), (82, (iS 0))], fun x => ⟨[.cells 41 [(iS v5.op), (iS v5.hd), (iS v5.n), (tU v5.args a6 c6)], .cells 41 [(iS v7.op), (iS v7.hd), (iS v7.n), (tU v7.args a8 c8)], .cells 41 [(iS v127.1.op), (iS v127.1.hd), (iS v127.1.n), (tU v127.1.args a129 c129)], .imm [(iS v121.op), (iS v121.hd), (iS v121.n), (tU v121.args a125 c125)], .cells 41 [(iS v127.1.op), (iS v127.1.hd), (iS v127.1.n), (tU v127.1.args a129 c129)], .cells 41 [(iS v127.1.op), (iS v127.1.hd), (iS v127.1.n), (tU v127.1.args a129 c129)]], [], [(.slice a2 ((Dc.encL v1).length) c2, .sl 6 (Dc.encL v1)), (tQ v3 a4 c4), (tQ v5.args a6 c6), (tQ v7.args a8 c8), (tQ v121.args a125 c125), (tQ v127.1.args a129 c129)]⟩, fun x => unify_spines_L2 x v5 v127 v7 v3 = some r, fun x => x, n, hr, ⟨rfl, rfl, rfl, rfl, rfl, rfl, rfl, trivial⟩, (StLe.gen 6 [] [.old 0, .old 1, .old 2, .old 3, .old 4, .old 5] rfl rfl rfl rfl rfl rfl rfl), fun x _ => ⟨rfl, rfl⟩, ?_⟩
        rintro n HH
        have hr : unify_spines_L2 n v5 v127 v7 v3 = some r := HH
        rcases n with _ | n
        ·exact qe hr
        rw [unify_spines_L2.eq_2] at hr
        refine AtIf.mk (fun h131 => ?_) (fun h131 => ?_)
        ·replace hr := qg h131 hr
         obtain ⟨v132, h133, hr⟩ := bind_some hr
         obtain ⟨h134, h135⟩ := qi h133
         refine qh ttOK 2 rfl rfl rfl rfl h134 (Tm.encL_get h135) ?_
         intro a136 c136 _ _
         refine AtIf.mk (fun h137 => ?_) (fun h137 => ?_)
         ·replace hr := qg h137 hr
          refine qb (N := 5) (m := 8) (dt := fun _ => none) [] ttOK func165 rfl call165 ntmps165 rfl rfl rfl mixed (by kernel_rfl) ?_
          refine qae rfl rfl ?_
          refine AtRet.gen _ (StLe.refl _) rfl rfl ?_
          replace hr := osi hr; subst hr
          exact qt [] _ _ rfl rfl rfl rfl rfl rfl ⟨rfl, rfl⟩
         ·replace hr := qf h137 hr
          obtain ⟨v138, h139, hr⟩ := bind_some hr
          obtain ⟨h140, h141⟩ := qi h139
          refine qh ttOK 3 rfl rfl rfl rfl h140 (Tm.encL_get h141) ?_
          intro a142 c142 _ _
          obtain ⟨v143, h144, hr⟩ := bind_some hr
          obtain ⟨h145, h146⟩ := qi h144
          refine qh ttOK 5 rfl rfl rfl rfl h145 (Tm.encL_get h146) ?_
          intro a147 c147 _ _
          refine qk (n := 1) ttOK 168 [.agg [.sl 4 (Tm.encL v3), .agg [.int .i64 v132.op, .int .i64 v132.hd, .int .i64 v132.n, .sl 4 (Tm.encL v132.args)], .agg [.int .i64 v138.op, .int .i64 v138.hd, .int .i64 v138.n, .sl 4 (Tm.encL v138.args)], .agg [.int .i64 v143.op, .int .i64 v143.hd, .int .i64 v143.n, .sl 4 (Tm.encL v143.args)]]] (ds' := (Qn.encL ([(Qn.mk v3 v132 v138 v143)]))) rfl (by kernel_rfl) ⟨⟨rfl, rfl, rfl, ⟨[(tU v3 a4 c4)], _, rfl, (.inl ⟨_, rfl, ql (j := 1) rfl⟩), ⟨[(iS v132.op), (iS v132.hd), (iS v132.n), (tU v132.args a136 c136)], _, rfl, ⟨[(iS v132.op)], _, rfl, rfl, ⟨[(iS v132.hd)], _, rfl, rfl, ⟨[(iS v132.n)], _, rfl, rfl, ⟨[(tU v132.args a136 c136)], _, rfl, (.inl ⟨_, rfl, ql (j := 6) rfl⟩), rfl⟩⟩⟩⟩, ⟨[(iS v138.op), (iS v138.hd), (iS v138.n), (tU v138.args a142 c142)], _, rfl, ⟨[(iS v138.op)], _, rfl, rfl, ⟨[(iS v138.hd)], _, rfl, rfl, ⟨[(iS v138.n)], _, rfl, rfl, ⟨[(tU v138.args a142 c142)], _, rfl, (.inl ⟨_, rfl, ql (j := 7) rfl⟩), rfl⟩⟩⟩⟩, ⟨[(iS v143.op), (iS v143.hd), (iS v143.n), (tU v143.args a147 c147)], _, rfl, ⟨[(iS v143.op)], _, rfl, rfl, ⟨[(iS v143.hd)], _, rfl, rfl, ⟨[(iS v143.n)], _, rfl, rfl, ⟨[(tU v143.args a147 c147)], _, rfl, (.inl ⟨_, rfl, ql (j := 8) rfl⟩), rfl⟩⟩⟩⟩, rfl⟩⟩⟩⟩⟩, trivial⟩ rfl (by simp only [Qn.encL_eq, List.map_cons, List.map_nil, Qn.enc_eq] <;> rfl) (by decide) (by decide) ?_
          intro a148
          obtain ⟨h149, hr⟩ := qj hr
          refine AtSem.le (S' := ⟨[.cells 41 [(iS v5.op), (iS v5.hd), (iS v5.n), (tU v5.args a6 c6)], .cells 41 [(iS v7.op), (iS v7.hd), (iS v7.n), (tU v7.args a8 c8)], .cells 41 [(iS v127.1.op), (iS v127.1.hd), (iS v127.1.n), (tU v127.1.args a129 c129)], .imm [(iS v121.op), (iS v121.hd), (iS v121.n), (tU v121.args a125 c125)], .cells 41 [(iS v127.1.op), (iS v127.1.hd), (iS v127.1.n), (tU v127.1.args a129 c129)], .cells 41 [(iS v127.1.op), (iS v127.1.hd), (iS v127.1.n), (tU v127.1.args a129 c129)], .imm [(iS v132.op), (iS v132.hd), (iS v132.n), (tU v132.args a136 c136)], .cells 41 [(iS v132.op), (iS v132.hd), (iS v132.n), (tU v132.args a136 c136)], .imm [(iS v138.op), (iS v138.hd), (iS v138.n), (tU v138.args a142 c142)], .imm [(iS v143.op), (iS v143.hd), (iS v143.n), (tU v143.args a147 c147)]], [⟨.slice none 0 0, 13, 46, []⟩], [(.slice a2 ((Dc.encL v1).length) c2, .sl 6 (Dc.encL v1)), (tQ v3 a4 c4), (tQ v5.args a6 c6), (tQ v7.args a8 c8), (tQ v121.args a125 c125), (tQ v127.1.args a129 c129), (tQ v132.args a136 c136), (tQ v138.args a142 c142), (tQ v143.args a147 c147), (.slice a148 ((Qn.encL ([(Qn.mk v3 v132 v138 v143)])).length) 1, .sl 13 (Qn.encL ([(Qn.mk v3 v132 v138 v143)])))]⟩) (StLe.gen 10 [.nil 13 46] [.old 0, .old 1, .old 2, .old 3, .old 4, .old 5, .old 6, .old 7, .old 8, .old 9] rfl rfl rfl rfl rfl rfl rfl) rfl ?_
          refine qm (ds' := (Qn.encL ([(Qn.mk v3 v132 v138 v143)]))) ttOK 168 0 9 rfl (by kernel_rfl) rfl rfl rfl rfl (List.nil_append _).symm h149 (by decide) ?_
          intro a150 c150
          refine qk (n := 1) ttOK 48 [.agg [.int .i64 v132.op, .int .i64 v132.hd, .int .i64 v132.n, .sl 4 (Tm.encL v132.args)]] (ds' := (Tm.encL ([v132]))) rfl (by kernel_rfl) ⟨⟨rfl, rfl, rfl, ⟨[(iS v132.op)], _, rfl, rfl, ⟨[(iS v132.hd)], _, rfl, rfl, ⟨[(iS v132.n)], _, rfl, rfl, ⟨[(tU v132.args a136 c136)], _, rfl, (.inl ⟨_, rfl, ql (j := 6) rfl⟩), rfl⟩⟩⟩⟩⟩, trivial⟩ rfl (by simp only [Tm.encL_eq, List.map_cons, List.map_nil, Tm.enc_eq] <;> rfl) (by decide) (by decide) ?_
          intro a151
          exact qe hr
        ·replace hr := qf h131 hr
         replace hr := osi hr; subst hr
         exact AtRet.gen ⟨[], [], [(.slice none 0 0, .sl 13 [])]⟩ (StLe.gen 0 [] [.nil 13] rfl rfl rfl rfl rfl rfl rfl) rfl rfl ⟨none, 0, rfl, rfl⟩
      ·replace hr := qf h126 hr
       refine AtLoop.mk ⟨Nat, fun x => [(1, (tU v3 a4 c4)), (7, (.loc 1 0)), (10, (.loc 2 0)), (11, (.v (.slice none 0 0))), (80, (tU v5.args a6 c6)), (81, (iS ((Tm.encL v5.args).length : Int))), (82, (iS 0))], fun x => ⟨[.cells 41 [(iS v5.op), (iS v5.hd), (iS v5.n), (tU v5.args a6 c6)], .cells 41 [(iS v7.op), (iS v7.hd), (iS v7.n), (tU v7.args a8 c8)], .cells 41 [(iS v121.op), (iS v121.hd), (iS v121.n), (tU v121.args a125 c125)], .imm [(iS v121.op), (iS v121.hd), (iS v121.n), (tU v121.args a125 c125)]], [], [(.slice a2 ((Dc.encL v1).length) c2, .sl 6 (Dc.encL v1)), (tQ v3 a4 c4), (tQ v5.args a6 c6), (tQ v7.args a8 c8), (tQ v121.args a125 c125)]⟩, fun x => unify_spines_L3 x v5 v121 v7 v3 = some r, fun x => x, n, hr, ⟨rfl, rfl, rfl, rfl, rfl, rfl, rfl, trivial⟩, (StLe.gen 4 [] [.old 0, .old 1, .old 2, .old 3, .old 4] rfl rfl rfl rfl rfl rfl rfl), fun x _ => ⟨rfl, rfl⟩, ?_⟩
       rintro n HH
       have hr : unify_spines_L3 n v5 v121 v7 v3 = some r := HH
       rcases n with _ | n
       ·exact qe hr
       rw [unify_spines_L3.eq_2] at hr
       refine AtIf.mk (fun h152 => ?_) (fun h152 => ?_)
       ·replace hr := qg h152 hr
        obtain ⟨v153, h154, hr⟩ := bind_some hr
        obtain ⟨h155, h156⟩ := qi h154
        refine qh ttOK 2 rfl rfl rfl rfl h155 (Tm.encL_get h156) ?_
        intro a157 c157 _ _
        refine AtIf.mk (fun h158 => ?_) (fun h158 => ?_)
        ·replace hr := qg h158 hr
         refine qb (N := 5) (m := 6) (dt := fun _ => none) [] ttOK func165 rfl call165 ntmps165 rfl rfl rfl mixed (by kernel_rfl) ?_
         refine qae rfl rfl ?_
         refine AtRet.gen _ (StLe.refl _) rfl rfl ?_
         replace hr := osi hr; subst hr
         exact qt [] _ _ rfl rfl rfl rfl rfl rfl ⟨rfl, rfl⟩
        ·replace hr := qf h158 hr
         obtain ⟨v159, h160, hr⟩ := bind_some hr
         obtain ⟨h161, h162⟩ := qi h160
         refine qh ttOK 3 rfl rfl rfl rfl h161 (Tm.encL_get h162) ?_
         intro a163 c163 _ _
         obtain ⟨v164, h165, hr⟩ := bind_some hr
         obtain ⟨h166, h167⟩ := qi h165
         refine qh ttOK 4 rfl rfl rfl rfl h166 (Tm.encL_get h167) ?_
         intro a168 c168 _ _
         refine qk (n := 1) ttOK 168 [.agg [.sl 4 (Tm.encL v3), .agg [.int .i64 v153.op, .int .i64 v153.hd, .int .i64 v153.n, .sl 4 (Tm.encL v153.args)], .agg [.int .i64 v159.op, .int .i64 v159.hd, .int .i64 v159.n, .sl 4 (Tm.encL v159.args)], .agg [.int .i64 v164.op, .int .i64 v164.hd, .int .i64 v164.n, .sl 4 (Tm.encL v164.args)]]] (ds' := (Qn.encL ([(Qn.mk v3 v153 v159 v164)]))) rfl (by kernel_rfl) ⟨⟨rfl, rfl, rfl, ⟨[(tU v3 a4 c4)], _, rfl, (.inl ⟨_, rfl, ql (j := 1) rfl⟩), ⟨[(iS v153.op), (iS v153.hd), (iS v153.n), (tU v153.args a157 c157)], _, rfl, ⟨[(iS v153.op)], _, rfl, rfl, ⟨[(iS v153.hd)], _, rfl, rfl, ⟨[(iS v153.n)], _, rfl, rfl, ⟨[(tU v153.args a157 c157)], _, rfl, (.inl ⟨_, rfl, ql (j := 5) rfl⟩), rfl⟩⟩⟩⟩, ⟨[(iS v159.op), (iS v159.hd), (iS v159.n), (tU v159.args a163 c163)], _, rfl, ⟨[(iS v159.op)], _, rfl, rfl, ⟨[(iS v159.hd)], _, rfl, rfl, ⟨[(iS v159.n)], _, rfl, rfl, ⟨[(tU v159.args a163 c163)], _, rfl, (.inl ⟨_, rfl, ql (j := 6) rfl⟩), rfl⟩⟩⟩⟩, ⟨[(iS v164.op), (iS v164.hd), (iS v164.n), (tU v164.args a168 c168)], _, rfl, ⟨[(iS v164.op)], _, rfl, rfl, ⟨[(iS v164.hd)], _, rfl, rfl, ⟨[(iS v164.n)], _, rfl, rfl, ⟨[(tU v164.args a168 c168)], _, rfl, (.inl ⟨_, rfl, ql (j := 7) rfl⟩), rfl⟩⟩⟩⟩, rfl⟩⟩⟩⟩⟩, trivial⟩ rfl (by simp only [Qn.encL_eq, List.map_cons, List.map_nil, Qn.enc_eq] <;> rfl) (by decide) (by decide) ?_
         intro a169
         obtain ⟨h170, hr⟩ := qj hr
         refine AtSem.le (S' := ⟨[.cells 41 [(iS v5.op), (iS v5.hd), (iS v5.n), (tU v5.args a6 c6)], .cells 41 [(iS v7.op), (iS v7.hd), (iS v7.n), (tU v7.args a8 c8)], .cells 41 [(iS v121.op), (iS v121.hd), (iS v121.n), (tU v121.args a125 c125)], .imm [(iS v121.op), (iS v121.hd), (iS v121.n), (tU v121.args a125 c125)], .imm [(iS v153.op), (iS v153.hd), (iS v153.n), (tU v153.args a157 c157)], .cells 41 [(iS v153.op), (iS v153.hd), (iS v153.n), (tU v153.args a157 c157)], .imm [(iS v159.op), (iS v159.hd), (iS v159.n), (tU v159.args a163 c163)], .imm [(iS v164.op), (iS v164.hd), (iS v164.n), (tU v164.args a168 c168)]], [⟨.slice none 0 0, 13, 46, []⟩], [(.slice a2 ((Dc.encL v1).length) c2, .sl 6 (Dc.encL v1)), (tQ v3 a4 c4), (tQ v5.args a6 c6), (tQ v7.args a8 c8), (tQ v121.args a125 c125), (tQ v153.args a157 c157), (tQ v159.args a163 c163), (tQ v164.args a168 c168), (.slice a169 ((Qn.encL ([(Qn.mk v3 v153 v159 v164)])).length) 1, .sl 13 (Qn.encL ([(Qn.mk v3 v153 v159 v164)])))]⟩) (StLe.gen 8 [.nil 13 46] [.old 0, .old 1, .old 2, .old 3, .old 4, .old 5, .old 6, .old 7, .old 8] rfl rfl rfl rfl rfl rfl rfl) rfl ?_
         refine qm (ds' := (Qn.encL ([(Qn.mk v3 v153 v159 v164)]))) ttOK 168 0 8 rfl (by kernel_rfl) rfl rfl rfl rfl (List.nil_append _).symm h170 (by decide) ?_
         intro a171 c171
         refine qk (n := 1) ttOK 48 [.agg [.int .i64 v153.op, .int .i64 v153.hd, .int .i64 v153.n, .sl 4 (Tm.encL v153.args)]] (ds' := (Tm.encL ([v153]))) rfl (by kernel_rfl) ⟨⟨rfl, rfl, rfl, ⟨[(iS v153.op)], _, rfl, rfl, ⟨[(iS v153.hd)], _, rfl, rfl, ⟨[(iS v153.n)], _, rfl, rfl, ⟨[(tU v153.args a157 c157)], _, rfl, (.inl ⟨_, rfl, ql (j := 5) rfl⟩), rfl⟩⟩⟩⟩⟩, trivial⟩ rfl (by simp only [Tm.encL_eq, List.map_cons, List.map_nil, Tm.enc_eq] <;> rfl) (by decide) (by decide) ?_
         intro a172
         exact qe hr
       ·replace hr := qf h152 hr
        replace hr := osi hr; subst hr
        exact AtRet.gen ⟨[], [], [(.slice none 0 0, .sl 13 [])]⟩ (StLe.gen 0 [] [.nil 13] rfl rfl rfl rfl rfl rfl rfl) rfl rfl ⟨none, 0, rfl, rfl⟩
mutual
def unify_types : Nat → (List Dc) → (List Tm) → Tm → Tm → Option (PR ((List Qn)))
 | 0, _, _, _, _ => none
 | n + 1, v1, v3, v5, v7 =>
  unify_types_L1 n v5 v7 v1 v3 0
def unify_types_L1 : Nat → Tm → Tm → (List Dc) → (List Tm) → Int → Option (PR ((List Qn)))
 | 0, _, _, _, _, _ => none
 | n + 1, v5, v7, v1, v3, v10 =>
  cond (decide (v10 < ((Tm.encL ([v5, v7])).length : Int))) (
  (idx ([v5, v7]) v10).bind (fun v12 =>
  cond ((v12.op != 2) && (v12.op != 4)) (
  some (.pan 22)) (
  unify_types_L1 n v5 v7 v1 v3 (IntKind.i64.wrap (v10 + 1))))) (
  cond (v5.op != v7.op) (
  some (.pan 26)) (
  cond (v5.op == 2) (
  (idx v5.args 0).bind (fun v20 =>
  (idx v7.args 0).bind (fun v25 =>
  bindP (unify_types n v1 v3 v20 v25) (fun v30 =>
  (idx v5.args 0).bind (fun v35 =>
  (idx v5.args 1).bind (fun v40 =>
  (idx v7.args 1).bind (fun v45 =>
  none))))))) (
  cond ((v5.hd != 2) || (v7.hd != 2)) (
  some (.pan 26)) (
  bindP (unify_spines n v1 v3 v5 v7) (fun v51 =>
  some (.ok (v51)))))))
 end
theorem qhs : ∀ (N : Nat), (∀ (n : Nat), n ≤ N → ∀ (v1 : (List Dc)) (v3 : (List Tm)) (v5 : Tm) (v7 : Tm) (a2 : OA) (c2 : Nat) (a4 : OA) (c4 : Nat) (a6 : OA) (c6 : Nat) (a8 : OA) (c8 : Nat) (r : PR ((List Qn))), unify_types n v1 v3 v5 v7 = some r → Meets Tryz.prog (.val (.fn (.func 164) [] [])) [(.v (.slice a2 ((Dc.encL v1).length) c2)), (tU v3 a4 c4), (.agg [(iS v5.op), (iS v5.hd), (iS v5.n), (tU v5.args a6 c6)]), (.agg [(iS v7.op), (iS v7.hd), (iS v7.n), (tU v7.args a8 c8)])] ⟨[], [], [(.slice a2 ((Dc.encL v1).length) c2, .sl 6 (Dc.encL v1)), (tQ v3 a4 c4), (tQ v5.args a6 c6), (tQ v7.args a8 c8)]⟩ (PanR r (fun r o S' => ∃ (b1 : OA) (d1 : Nat), o = .ret (.v (.slice b1 ((Qn.encL r).length) d1)) ∧ S' = ⟨[], [], [(.slice b1 ((Qn.encL r).length) d1, .sl 13 (Qn.encL r))]⟩) (fun e o S' => o = .pan (panV 303 e) ∧ S' = ⟨[], [], []⟩))) := by
 intro N
 induction N with
 | zero =>
  intro n hn v1 v3 v5 v7 a2 c2 a4 c4 a6 c6 a8 c8 r hr; obtain rfl : n = 0 := (by omega); exact qe hr
 | succ N ih =>
  intro n hn v1 v3 v5 v7 a2 c2 a4 c4 a6 c6 a8 c8 r hr
  rcases n with _ | n
  ·exact qe hr
  replace hn : n ≤ N := by omega
  rw [unify_types.eq_2] at hr
  refine qb (N := 85) (m := 0) (dt := drawsOf [(10, .node [0, 1, 2, 3, 4, 5, 6, 7, 8, 9] [(10, .leaf [11])], [10], []), (11, .node [0, 1, 2, 3, 4, 5, 6, 8, 9, 10, 11, 12, 13, 14, 15] [(7, .node [] [(16, .node [] [(17, .leaf [18])])])], [16, 17], [])]) [] ttOK func164 rfl call164 ntmps164 rfl rfl rfl mixed (by kernel_rfl) ?_
  refine qk (n := 2) ttOK 48 [.agg [.int .i64 v5.op, .int .i64 v5.hd, .int .i64 v5.n, .sl 4 (Tm.encL v5.args)], .agg [.int .i64 v7.op, .int .i64 v7.hd, .int .i64 v7.n, .sl 4 (Tm.encL v7.args)]] (ds' := (Tm.encL ([v5, v7]))) rfl (by kernel_rfl) ⟨⟨rfl, rfl, rfl, ⟨[(iS v5.op)], _, rfl, rfl, ⟨[(iS v5.hd)], _, rfl, rfl, ⟨[(iS v5.n)], _, rfl, rfl, ⟨[(tU v5.args a6 c6)], _, rfl, (.inl ⟨_, rfl, ql (j := 2) rfl⟩), rfl⟩⟩⟩⟩⟩, ⟨⟨rfl, rfl, rfl, ⟨[(iS v7.op)], _, rfl, rfl, ⟨[(iS v7.hd)], _, rfl, rfl, ⟨[(iS v7.n)], _, rfl, rfl, ⟨[(tU v7.args a8 c8)], _, rfl, (.inl ⟨_, rfl, ql (j := 3) rfl⟩), rfl⟩⟩⟩⟩⟩, trivial⟩⟩ rfl (by simp only [Tm.encL_eq, List.map_cons, List.map_nil, Tm.enc_eq] <;> rfl) (by decide) (by decide) ?_
  intro a9
  refine AtLoop.mk ⟨Nat × Int, fun x => [(0, (.v (.slice a2 ((Dc.encL v1).length) c2))), (1, (tU v3 a4 c4)), (6, (.loc 0 0)), (7, (.loc 1 0)), (14, (tU ([v5, v7]) a9 2)), (15, (iS ((Tm.encL ([v5, v7])).length : Int))), (16, (iS x.2))], fun x => ⟨[.cells 41 [(iS v5.op), (iS v5.hd), (iS v5.n), (tU v5.args a6 c6)], .cells 41 [(iS v7.op), (iS v7.hd), (iS v7.n), (tU v7.args a8 c8)]], [], [(.slice a2 ((Dc.encL v1).length) c2, .sl 6 (Dc.encL v1)), (tQ v3 a4 c4), (tQ v5.args a6 c6), (tQ v7.args a8 c8), (tQ ([v5, v7]) a9 2)]⟩, fun x => x.1 ≤ N ∧ unify_types_L1 x.1 v5 v7 v1 v3 x.2 = some r, fun x => x.1, (n, 0), ⟨by omega, hr⟩, ⟨rfl, rfl, rfl, rfl, rfl, rfl, rfl, trivial⟩, (StLe.gen 2 [] [.old 0, .old 1, .old 2, .old 3, .old 4] rfl rfl rfl rfl rfl rfl rfl), fun x _ => ⟨rfl, rfl⟩, ?_⟩
  rintro ⟨n, v10⟩ HH
  obtain ⟨hn, hr⟩ : n ≤ N ∧ unify_types_L1 n v5 v7 v1 v3 v10 = some r := HH
  rcases n with _ | n
  ·exact qe hr
  rw [unify_types_L1.eq_2] at hr
  refine AtIf.mk (fun h11 => ?_) (fun h11 => ?_)
  ·replace hr := qg h11 hr
   obtain ⟨v12, h13, hr⟩ := bind_some hr
   obtain ⟨h14, h15⟩ := qi h13
   refine qh ttOK 4 rfl rfl rfl rfl h14 (Tm.encL_get h15) ?_
   intro a16 c16 _ _
   refine AtIf.mk (fun h17 => ?_) (fun h17 => ?_)
   ·replace hr := qg h17 hr
    refine qb (N := 5) (m := 4) (dt := fun _ => none) [] ttOK func165 rfl call165 ntmps165 rfl rfl rfl mixed (by kernel_rfl) ?_
    refine qae rfl rfl ?_
    refine AtRet.gen _ (StLe.refl _) rfl rfl ?_
    replace hr := osi hr; subst hr
    exact qt [] _ _ rfl rfl rfl rfl rfl rfl ⟨rfl, rfl⟩
   ·replace hr := qf h17 hr
    exact ⟨(n, (IntKind.i64.wrap (v10 + 1))), ⟨by omega, hr⟩, Nat.lt_succ_self _, ⟨rfl, rfl, rfl, rfl, rfl, rfl, rfl, trivial⟩, (StLe.gen 2 [] [.old 0, .old 1, .old 2, .old 3, .old 4] rfl rfl rfl rfl rfl rfl rfl)⟩
  ·replace hr := qf h11 hr
   refine AtIf.mk (fun h18 => ?_) (fun h18 => ?_)
   ·replace hr := qg h18 hr
    refine qb (N := 5) (m := 2) (dt := fun _ => none) [] ttOK func165 rfl call165 ntmps165 rfl rfl rfl mixed (by kernel_rfl) ?_
    refine qae rfl rfl ?_
    refine AtRet.gen _ (StLe.refl _) rfl rfl ?_
    replace hr := osi hr; subst hr
    exact qt [] _ _ rfl rfl rfl rfl rfl rfl ⟨rfl, rfl⟩
   ·replace hr := qf h18 hr
    refine AtIf.mk (fun h19 => ?_) (fun h19 => ?_)
    ·replace hr := qg h19 hr
     obtain ⟨v20, h21, hr⟩ := bind_some hr
     obtain ⟨h22, h23⟩ := qi h21
     refine qh ttOK 2 rfl rfl rfl rfl h22 (Tm.encL_get h23) ?_
     intro a24 c24 _ _
     obtain ⟨v25, h26, hr⟩ := bind_some hr
     obtain ⟨h27, h28⟩ := qi h26
     refine qh ttOK 3 rfl rfl rfl rfl h27 (Tm.encL_get h28) ?_
     intro a29 c29 _ _
     rcases qa2 hr with ⟨e32, h31, hr⟩ | ⟨v30, h31, hr⟩
     ·
      refine (ih n (by omega) v1 v3 v20 v25 a2 c2 a4 c4 a24 c24 a29 c29 _ h31).frameRA [] [] [0, 1, 5, 6] rfl rfl rfl rfl rfl rfl rfl rfl rfl ?_
      rintro _ _ ⟨rfl, rfl⟩
      refine ⟨rfl, [], rfl, ?_⟩
      replace hr := osi hr; subst hr
      exact qt [] _ _ rfl rfl rfl rfl rfl rfl ⟨rfl, rfl⟩
     ·
      refine (ih n (by omega) v1 v3 v20 v25 a2 c2 a4 c4 a24 c24 a29 c29 _ h31).frameRA [] [] [0, 1, 5, 6] rfl rfl rfl rfl rfl rfl rfl rfl rfl ?_
      rintro _ _ ⟨a34, c34, rfl, rfl⟩
      refine ⟨rfl, [], rfl, ?_⟩
      obtain ⟨v35, h36, hr⟩ := bind_some hr
      obtain ⟨h37, h38⟩ := qi h36
      refine qh ttOK 2 rfl rfl rfl rfl h37 (Tm.encL_get h38) ?_
      intro a39 c39 _ _
      obtain ⟨v40, h41, hr⟩ := bind_some hr
      obtain ⟨h42, h43⟩ := qi h41
      refine qh ttOK 2 rfl rfl rfl rfl h42 (Tm.encL_get h43) ?_
      intro a44 c44 _ _
      obtain ⟨v45, h46, hr⟩ := bind_some hr
      obtain ⟨h47, h48⟩ := qi h46
      refine qh ttOK 3 rfl rfl rfl rfl h47 (Tm.encL_get h48) ?_
      intro a49 c49 _ _
      exact qe hr
    ·replace hr := qf h19 hr
     refine AtIf.mk (fun h50 => ?_) (fun h50 => ?_)
     ·replace hr := qg h50 hr
      refine qb (N := 5) (m := 2) (dt := fun _ => none) [] ttOK func165 rfl call165 ntmps165 rfl rfl rfl mixed (by kernel_rfl) ?_
      refine qae rfl rfl ?_
      refine AtRet.gen _ (StLe.refl _) rfl rfl ?_
      replace hr := osi hr; subst hr
      exact qt [] _ _ rfl rfl rfl rfl rfl rfl ⟨rfl, rfl⟩
     ·replace hr := qf h50 hr
      rcases qa2 hr with ⟨e53, h52, hr⟩ | ⟨v51, h52, hr⟩
      ·
       refine (qdv n v1 v3 v5 v7 a2 c2 a4 c4 a6 c6 a8 c8 _ h52).frameRA [] [] [0, 1, 2, 3] rfl rfl rfl rfl rfl rfl rfl rfl rfl ?_
       rintro _ _ ⟨rfl, rfl⟩
       refine ⟨rfl, [], rfl, ?_⟩
       replace hr := osi hr; subst hr
       exact qt [] _ _ rfl rfl rfl rfl rfl rfl ⟨rfl, rfl⟩
      ·
       refine (qdv n v1 v3 v5 v7 a2 c2 a4 c4 a6 c6 a8 c8 _ h52).frameRA [] [] [0, 1, 2, 3] rfl rfl rfl rfl rfl rfl rfl rfl rfl ?_
       rintro _ _ ⟨a55, c55, rfl, rfl⟩
       refine ⟨rfl, [], rfl, ?_⟩
       replace hr := osi hr; subst hr
       exact AtRet.gen ⟨[], [], [(.slice a55 ((Qn.encL v51).length) c55, .sl 13 (Qn.encL v51))]⟩ (StLe.gen 0 [] [.old 5] rfl rfl rfl rfl rfl rfl rfl) rfl rfl ⟨a55, c55, rfl, rfl⟩
theorem qej (n : Nat) (v1 : (List Dc)) (v3 : (List Tm)) (v5 : Tm) (v7 : Tm) (a2 : OA) (c2 : Nat) (a4 : OA) (c4 : Nat) (a6 : OA) (c6 : Nat) (a8 : OA) (c8 : Nat) (r : PR ((List Qn))) (hr : unify_types n v1 v3 v5 v7 = some r) : Meets Tryz.prog (.val (.fn (.func 164) [] [])) [(.v (.slice a2 ((Dc.encL v1).length) c2)), (tU v3 a4 c4), (.agg [(iS v5.op), (iS v5.hd), (iS v5.n), (tU v5.args a6 c6)]), (.agg [(iS v7.op), (iS v7.hd), (iS v7.n), (tU v7.args a8 c8)])] ⟨[], [], [(.slice a2 ((Dc.encL v1).length) c2, .sl 6 (Dc.encL v1)), (tQ v3 a4 c4), (tQ v5.args a6 c6), (tQ v7.args a8 c8)]⟩ (PanR r (fun r o S' => ∃ (b1 : OA) (d1 : Nat), o = .ret (.v (.slice b1 ((Qn.encL r).length) d1)) ∧ S' = ⟨[], [], [(.slice b1 ((Qn.encL r).length) d1, .sl 13 (Qn.encL r))]⟩) (fun e o S' => o = .pan (panV 303 e) ∧ S' = ⟨[], [], []⟩)) := (qhs n) n (Nat.le_refl _) v1 v3 v5 v7 a2 c2 a4 c4 a6 c6 a8 c8 r hr
mutual
def meta_all : Nat → (List Mt) → Option ((List Mt) × Int)
 | 0, _ => none
 | n + 1, v1 =>
  meta_all_L1 n v1
def meta_all_L1 : Nat → (List Mt) → Option ((List Mt) × Int)
 | 0, _ => none
 | n + 1, v1 =>
  cond (decide ((0 : Int) < ((Mt.encL v1).length : Int))) (
  (idx v1 0).bind (fun v4 =>
  none)) (
  some ([], 0))
 end
theorem qmu (n : Nat) (v1 : (List Mt)) (a2 : OA) (c2 : Nat) (r : (List Mt) × Int) (hr : meta_all n v1 = some r) : Pure Tryz.prog (.val (.fn (.func 224) [] [])) [(.v (.slice a2 ((Mt.encL v1).length) c2))] [(.slice a2 ((Mt.encL v1).length) c2, .sl 10 (Mt.encL v1))] (fun r' out => ∃ (b1 : OA) (d1 : Nat), r' = (.tup [(.v (.slice b1 ((Mt.encL r.1).length) d1)), (iS r.2)]) ∧ out = [(.slice b1 ((Mt.encL r.1).length) d1, .sl 10 (Mt.encL r.1))]) := by
 rcases n with _ | n
 ·exact qe hr
 rw [meta_all.eq_2] at hr
 refine qb (N := 59) (m := 0) (dt := drawsOf [(9, .node [0, 1, 2, 4, 5] [(3, .node [6] [(7, .node [] [(8, .leaf [])])]), (7, .node [] [(3, .node [6] [(8, .leaf [])])])], [8], [])]) [] ttOK func224 rfl call224 ntmps224 rfl rfl rfl mixed (by kernel_rfl) ?_
 refine qb (N := 7) (m := 0) (dt := fun _ => none) [] ttOK func160 rfl call160 ntmps160 rfl rfl rfl mixed (by kernel_rfl) ?_
 refine qom .i64 Tm.gv 4 Tm.gp ?_
 refine AtRet.gen _ (StLe.refl _) rfl rfl ?_
 refine AtLoop.mk ⟨Nat, fun x => [(4, (.loc 1 0)), (5, (.v (.slice none 0 0))), (15, (.v (.slice a2 ((Mt.encL v1).length) c2))), (16, (iS ((Mt.encL v1).length : Int))), (17, (iS 0))], fun x => ⟨[.obj (mapO .i64 (encM Tm.gv ([] : List (Int × GE Tm)))), .cells 318 [(.v (.slice a2 ((Mt.encL v1).length) c2)), (.mp 0)]], [], [(.slice a2 ((Mt.encL v1).length) c2, .sl 10 (Mt.encL v1)), (agV 4 Tm.gp ([] : List (Int × GE Tm)), agD 4 Tm.gp ([] : List (Int × GE Tm)))]⟩, fun x => meta_all_L1 x v1 = some r, fun x => x, n, hr, ⟨rfl, rfl, rfl, rfl, rfl, trivial⟩, (StLe.gen 2 [] [.old 0, .old 1] rfl rfl rfl rfl rfl rfl rfl), fun x _ => ⟨rfl, rfl⟩, ?_⟩
 rintro n HH
 have hr : meta_all_L1 n v1 = some r := HH
 rcases n with _ | n
 ·exact qe hr
 rw [meta_all_L1.eq_2] at hr
 refine AtIf.mk (fun h3 => ?_) (fun h3 => ?_)
 ·replace hr := qg h3 hr
  obtain ⟨v4, h5, hr⟩ := bind_some hr
  obtain ⟨h6, h7⟩ := qi h5
  refine qh ttOK 0 rfl rfl rfl rfl h6 (Mt.encL_get h7) ?_
  intro a8 c8 _ _ a9 c9 _ _
  exact qe hr
 ·replace hr := qf h3 hr
  replace hr := osi hr; subst hr
  exact qa [.nil 10] [(.slice none 0 0, .sl 10 [])] rfl rfl ⟨none, 0, rfl, rfl⟩
mutual
def meta_Needs : Nat → (List Mt) → (List Int) → Option ((Nat → Bool) × Bool)
 | 0, _, _ => none
 | n + 1, v1, v3 =>
  meta_Needs_L1 n v3
def meta_Needs_L1 : Nat → (List Int) → Option ((Nat → Bool) × Bool)
 | 0, _ => none
 | n + 1, v3 =>
  cond (decide ((0 : Int) < ((List.map (D.int .i64) v3).length : Int))) (
  (idx v3 0).bind (fun v6 =>
  none)) (
  some (noneP, false))
 end
theorem qj1 (n : Nat) (v1 : (List Mt)) (v3 : (List Int)) (a2 : OA) (c2 : Nat) (a4 : OA) (c4 : Nat) (r : (Nat → Bool) × Bool) (hr : meta_Needs n v1 v3 = some r) : Pure Tryz.prog (.val (.fn (.func 169) [] [])) [(.v (.slice a2 ((Mt.encL v1).length) c2)), (nU v3 a4 c4)] [(.slice a2 ((Mt.encL v1).length) c2, .sl 10 (Mt.encL v1)), (nQ v3 a4 c4)] (fun r' out => r' = (.tup [(.agg (setN 80 r.1)), (bS r.2)]) ∧ out = []) := by
 rcases n with _ | n
 ·exact qe hr
 rw [meta_Needs.eq_2] at hr
 refine qb (N := 25) (m := 0) (dt := drawsOf [(10, .node [0, 1] [(2, .leaf [3])], [], [])]) [] ttOK func169 rfl call169 ntmps169 rfl rfl rfl mixed (by kernel_rfl) ?_
 refine AtLoop.mk ⟨Nat, fun x => [(4, (.loc 1 0)), (6, (.loc 2 0)), (8, (.loc 4 0)), (9, (.loc 5 0)), (13, (nU v3 a4 c4)), (14, (iS ((List.map (D.int .i64) v3).length : Int))), (15, (iS 0))], fun x => ⟨[.cells 23 [(.v (.slice a2 ((Mt.encL v1).length) c2))], .cells 244 (setN 80 noneP), .cells 244 (setN 80 noneP), .cells 244 (setN 80 noneP), .cells 4 [(bS false)], .cells 322 [(.fn (.func 242) [] [(.loc 3 0), (.loc 4 0), (.loc 2 0), (.loc 0 0), (.loc 5 0)])]], [], [(.slice a2 ((Mt.encL v1).length) c2, .sl 10 (Mt.encL v1)), (nQ v3 a4 c4)]⟩, fun x => meta_Needs_L1 x v3 = some r, fun x => x, n, hr, ⟨rfl, rfl, rfl, rfl, rfl, rfl, rfl, trivial⟩, (StLe.gen 6 [] [.old 0, .old 1] rfl rfl rfl rfl rfl rfl rfl), fun x _ => ⟨rfl, rfl⟩, ?_⟩
 rintro n HH
 have hr : meta_Needs_L1 n v3 = some r := HH
 rcases n with _ | n
 ·exact qe hr
 rw [meta_Needs_L1.eq_2] at hr
 refine AtIf.mk (fun h5 => ?_) (fun h5 => ?_)
 ·replace hr := qg h5 hr
  obtain ⟨v6, h7, hr⟩ := bind_some hr
  obtain ⟨h8, h9⟩ := qi h7
  refine qh ttOK 1 rfl rfl rfl rfl h8 (qa7 (D.int .i64) h9) ?_
  exact qe hr
 ·replace hr := qf h5 hr
  refine ⟨fun _ _ h => h, ?_⟩
  replace hr := osi hr; subst hr
  exact qa [] [] rfl rfl ⟨rfl, rfl⟩
mutual
def meta_Check : Nat → (List Mt) → Option (Int)
 | 0, _ => none
 | n + 1, v1 =>
  cond (decide (((Mt.encL v1).length : Int) > 80)) (
  some (2)) (
  meta_Check_L1 n v1)
def meta_Check_L1 : Nat → (List Mt) → Option (Int)
 | 0, _ => none
 | n + 1, v1 =>
  cond (decide ((0 : Int) < ((Mt.encL v1).length : Int))) (
  (idx v1 0).bind (fun v5 =>
  none)) (
  (meta_Needs n v1 ([])).bind (fun v11 =>
  cond v11.2 (
  some (2)) (
  some (0))))
 end
theorem qjc (n : Nat) (v1 : (List Mt)) (a2 : OA) (c2 : Nat) (r : Int) (hr : meta_Check n v1 = some r) : Pure Tryz.prog (.val (.fn (.func 95) [] [])) [(.v (.slice a2 ((Mt.encL v1).length) c2))] [(.slice a2 ((Mt.encL v1).length) c2, .sl 10 (Mt.encL v1))] (fun r' out => r' = (iS r) ∧ out = []) := by
 rcases n with _ | n
 ·exact qe hr
 rw [meta_Check.eq_2] at hr
 refine qb (N := 51) (m := 0) (dt := fun _ => none) [] ttOK func95 rfl call95 ntmps95 rfl rfl rfl mixed (by kernel_rfl) ?_
 refine AtIf.mk (fun h3 => ?_) (fun h3 => ?_)
 ·replace hr := qg h3 hr
  replace hr := osi hr; subst hr
  exact qa [] [] rfl rfl ⟨rfl, rfl⟩
 ·replace hr := qf h3 hr
  refine qjw ?_
  refine AtLoop.mk ⟨Nat, fun x => [(0, (.v (.slice a2 ((Mt.encL v1).length) c2))), (3, (.mp 0)), (4, (.v (.slice none 0 0))), (13, (.v (.slice a2 ((Mt.encL v1).length) c2))), (14, (iS ((Mt.encL v1).length : Int))), (15, (iS 0))], fun x => ⟨[.obj (mapS (encM Value.bool ([])))], [], [(.slice a2 ((Mt.encL v1).length) c2, .sl 10 (Mt.encL v1))]⟩, fun x => meta_Check_L1 x v1 = some r, fun x => x, n, hr, ⟨rfl, rfl, rfl, rfl, rfl, rfl, trivial⟩, (StLe.gen 1 [] [.old 0] rfl rfl rfl rfl rfl rfl rfl), fun x _ => ⟨rfl, rfl⟩, ?_⟩
  rintro n HH
  have hr : meta_Check_L1 n v1 = some r := HH
  rcases n with _ | n
  ·exact qe hr
  rw [meta_Check_L1.eq_2] at hr
  refine AtIf.mk (fun h4 => ?_) (fun h4 => ?_)
  ·replace hr := qg h4 hr
   obtain ⟨v5, h6, hr⟩ := bind_some hr
   obtain ⟨h7, h8⟩ := qi h6
   refine qh ttOK 0 rfl rfl rfl rfl h7 (Mt.encL_get h8) ?_
   intro a9 c9 _ _ a10 c10 _ _
   exact qe hr
  ·replace hr := qf h4 hr
   obtain ⟨v11, h12, hr⟩ := bind_some hr
   refine Meets.nilRep 1 ?_
   refine (qj1 n v1 ([]) a2 c2 none 0 _ h12).atR [1, 0] rfl rfl rfl ?_
   rintro _ _ ⟨rfl, rfl⟩
   refine AtIf.mk (fun h13 => ?_) (fun h13 => ?_)
   ·replace hr := qg h13 hr
    replace hr := osi hr; subst hr
    exact qa [] [] rfl rfl ⟨rfl, rfl⟩
   ·replace hr := qf h13 hr
    replace hr := osi hr; subst hr
    exact qa [] [] rfl rfl ⟨rfl, rfl⟩
def meta_All : Nat → (List Mt) → Option ((List Mt) × Int)
 | 0, _ => none
 | n + 1, v1 =>
  (meta_Check n v1).bind (fun v3 =>
  cond (v3 != 0) (
  some ([], 2)) (
  (meta_all n v1).bind (fun v6 =>
  some (v6.1, v6.2))))
theorem qgm (n : Nat) (v1 : (List Mt)) (a2 : OA) (c2 : Nat) (r : (List Mt) × Int) (hr : meta_All n v1 = some r) : Pure Tryz.prog (.val (.fn (.func 149) [] [])) [(.v (.slice a2 ((Mt.encL v1).length) c2))] [(.slice a2 ((Mt.encL v1).length) c2, .sl 10 (Mt.encL v1))] (fun r' out => ∃ (b1 : OA) (d1 : Nat), r' = (.tup [(.v (.slice b1 ((Mt.encL r.1).length) d1)), (iS r.2)]) ∧ out = [(.slice b1 ((Mt.encL r.1).length) d1, .sl 10 (Mt.encL r.1))]) := by
 rcases n with _ | n
 ·exact qe hr
 rw [meta_All.eq_2] at hr
 refine qb (N := 11) (m := 0) (dt := fun _ => none) [] ttOK func149 rfl call149 ntmps149 rfl rfl rfl mixed (by kernel_rfl) ?_
 obtain ⟨v3, h4, hr⟩ := bind_some hr
 refine (qjc n v1 a2 c2 _ h4).atR [0] rfl rfl rfl ?_
 rintro _ _ ⟨rfl, rfl⟩
 refine AtIf.mk (fun h5 => ?_) (fun h5 => ?_)
 ·replace hr := qg h5 hr
  replace hr := osi hr; subst hr
  exact qa [.nil 10] [(.slice none 0 0, .sl 10 [])] rfl rfl ⟨none, 0, rfl, rfl⟩
 ·replace hr := qf h5 hr
  obtain ⟨v6, h7, hr⟩ := bind_some hr
  refine (qmu n v1 a2 c2 _ h7).atR [0] rfl rfl rfl ?_
  rintro _ _ ⟨a8, c8, rfl, rfl⟩
  replace hr := osi hr; subst hr
  exact qa [.old 1] [(.slice a8 ((Mt.encL v6.1).length) c8, .sl 10 (Mt.encL v6.1))] rfl rfl ⟨a8, c8, rfl, rfl⟩
mutual
def unify_work_run : Nat → UWk → Option (PR (UWk))
 | 0, _ => none
 | n + 1, v1 =>
  unify_work_run_L1 n v1
def unify_work_run_L1 : Nat → UWk → Option (PR (UWk))
 | 0, _ => none
 | n + 1, v1 =>
  cond (decide (((Qn.encL v1.queue.l).length : Int) > 0)) (
  cond (decide ((IntKind.i64.wrap (v1.steps + 1)) > 20000)) (
  some (.pan 7)) (
  (idx v1.queue.l 0).bind (fun v8 =>
  cond (decide ((0 : Int) ≤ 1 ∧ 1 ≤ ((Qn.encL v1.queue.l).length : Int) ∧ ((Qn.encL v1.queue.l).length : Int) ≤ ((Qn.encL v1.queue.l).length : Int))) (
  none) none))) (
  some (.ok (v1)))
 end
set_option maxHeartbeats 40000000 in
theorem qc6 (n : Nat) (v1 : UWk) (a2 : OA) (c2 : Nat) (a3 : OA) (c3 : Nat) (a4 : OA) (c4 : Nat) (a5 : OA) (c5 : Nat) (r : PR (UWk)) (hr : unify_work_run n v1 = some r) : Meets Tryz.prog (.val (.fn (.func 151) [] [])) [(.loc 0 0)] ⟨[.cells 217 [(.v (.slice a2 ((Dc.encL v1.sig).length) c2)), (.v (.slice a3 ((Mt.encL v1.metas).length) c3)), (iS v1.fixed), (iS v1.steps), (.v (.slice a4 ((Qn.encL v1.queue.l).length) c4)), (.v (.slice a5 ((Qn.encL v1.left).length) c5))]], [], [(.slice a2 ((Dc.encL v1.sig).length) c2, .sl 6 (Dc.encL v1.sig)), (.slice a3 ((Mt.encL v1.metas).length) c3, .sl 10 (Mt.encL v1.metas)), (.slice a4 ((Qn.encL v1.queue.l).length) c4, .sl 13 (Qn.encL v1.queue.l)), (.slice a5 ((Qn.encL v1.left).length) c5, .sl 13 (Qn.encL v1.left))]⟩ (PanR r (fun r o S' => ∃ (b1 : OA) (d1 : Nat), ∃ (b2 : OA) (d2 : Nat), ∃ (b3 : OA) (d3 : Nat), ∃ (b4 : OA) (d4 : Nat), o = .ret (.tup []) ∧ S' = ⟨[.cells 217 [(.v (.slice b1 ((Dc.encL r.sig).length) d1)), (.v (.slice b2 ((Mt.encL r.metas).length) d2)), (iS r.fixed), (iS r.steps), (.v (.slice b3 ((Qn.encL r.queue.l).length) d3)), (.v (.slice b4 ((Qn.encL r.left).length) d4))]], [], [(.slice b1 ((Dc.encL r.sig).length) d1, .sl 6 (Dc.encL r.sig)), (.slice b2 ((Mt.encL r.metas).length) d2, .sl 10 (Mt.encL r.metas)), (.slice b3 ((Qn.encL r.queue.l).length) d3, .sl 13 (Qn.encL r.queue.l)), (.slice b4 ((Qn.encL r.left).length) d4, .sl 13 (Qn.encL r.left))]⟩) (fun e o S' => o = .pan (panV 303 e) ∧ S' = ⟨[.lost], [], []⟩)) := by
 rcases n with _ | n
 ·exact qe hr
 rw [unify_work_run.eq_2] at hr
 refine qb (N := 73) (m := 1) (dt := drawsOf [(5, .node [0, 1, 2, 3, 4, 5, 10, 11, 12, 13, 14, 15, 20, 21, 22, 23, 24, 25] [(6, .node [7, 8] [(9, .node [30] [(16, .node [17, 18] [(19, .node [] [(26, .node [27, 28] [(29, .node [] [(31, .node [32] [(33, .node [34] [(35, .leaf [])])])])])])])])])], [31, 33, 35], [])]) [] ttOK func151 rfl call151 ntmps151 rfl rfl rfl mixed (by kernel_rfl) ?_
 refine AtLoop.mk ⟨Nat, fun x => [(0, (.loc 0 0))], fun x => ⟨[.cells 217 [(.v (.slice a2 ((Dc.encL v1.sig).length) c2)), (.v (.slice a3 ((Mt.encL v1.metas).length) c3)), (iS v1.fixed), (iS v1.steps), (.v (.slice a4 ((Qn.encL v1.queue.l).length) c4)), (.v (.slice a5 ((Qn.encL v1.left).length) c5))]], [], [(.slice a2 ((Dc.encL v1.sig).length) c2, .sl 6 (Dc.encL v1.sig)), (.slice a3 ((Mt.encL v1.metas).length) c3, .sl 10 (Mt.encL v1.metas)), (.slice a4 ((Qn.encL v1.queue.l).length) c4, .sl 13 (Qn.encL v1.queue.l)), (.slice a5 ((Qn.encL v1.left).length) c5, .sl 13 (Qn.encL v1.left))]⟩, fun x => unify_work_run_L1 x v1 = some r, fun x => x, n, hr, ⟨rfl, trivial⟩, (StLe.gen 1 [] [.old 0, .old 1, .old 2, .old 3] rfl rfl rfl rfl rfl rfl rfl), fun x _ => ⟨rfl, rfl⟩, ?_⟩
 rintro n HH
 have hr : unify_work_run_L1 n v1 = some r := HH
 rcases n with _ | n
 ·exact qe hr
 rw [unify_work_run_L1.eq_2] at hr
 refine AtIf.mk (fun h6 => ?_) (fun h6 => ?_)
 ·replace hr := qg h6 hr
  refine AtIf.mk (fun h7 => ?_) (fun h7 => ?_)
  ·replace hr := qg h7 hr
   refine qb (N := 5) (m := 1) (dt := fun _ => none) [] ttOK func165 rfl call165 ntmps165 rfl rfl rfl mixed (by kernel_rfl) ?_
   refine qae rfl rfl ?_
   refine AtRet.gen _ (StLe.refl _) rfl rfl ?_
   replace hr := osi hr; subst hr
   exact qt [true] _ _ rfl rfl rfl rfl rfl rfl ⟨rfl, rfl⟩
  ·replace hr := qf h7 hr
   refine qb (N := 19) (m := 1) (dt := fun _ => none) [] ttOK func226 rfl call226 ntmps226 rfl rfl rfl mixed (by kernel_rfl) ?_
   obtain ⟨v8, h9, hr⟩ := bind_some hr
   obtain ⟨h10, h11⟩ := qi h9
   refine qh ttOK 2 rfl rfl rfl rfl h10 (Qn.encL_get h11) ?_
   intro a12 c12 _ _ a13 c13 _ _ a14 c14 _ _ a15 c15 _ _
   obtain ⟨h16, hr⟩ := qj hr
   refine qaa ttOK 2 1 ((Qn.encL v1.queue.l).length : Int) (ds' := (Qn.encL (v1.queue.l.drop (1 : Int).toNat))) rfl rfl rfl (.inl ⟨_, rfl⟩) (.inr ⟨rfl, rfl⟩) h16 (by simp only [Qn.encL_eq]; exact sl_l ..) ?_
   intro a17 c17
   refine AtRet.gen _ (StLe.refl _) rfl rfl ?_
   exact qe hr
 ·replace hr := qf h6 hr
  replace hr := osi hr; subst hr
  exact AtRet.gen ⟨[.cells 217 [(.v (.slice a2 ((Dc.encL v1.sig).length) c2)), (.v (.slice a3 ((Mt.encL v1.metas).length) c3)), (iS v1.fixed), (iS v1.steps), (.v (.slice a4 ((Qn.encL v1.queue.l).length) c4)), (.v (.slice a5 ((Qn.encL v1.left).length) c5))]], [], [(.slice a2 ((Dc.encL v1.sig).length) c2, .sl 6 (Dc.encL v1.sig)), (.slice a3 ((Mt.encL v1.metas).length) c3, .sl 10 (Mt.encL v1.metas)), (.slice a4 ((Qn.encL v1.queue.l).length) c4, .sl 13 (Qn.encL v1.queue.l)), (.slice a5 ((Qn.encL v1.left).length) c5, .sl 13 (Qn.encL v1.left))]⟩ (StLe.gen 1 [] [.old 0, .old 1, .old 2, .old 3] rfl rfl rfl rfl rfl rfl rfl) rfl rfl ⟨a2, c2, a3, c3, a4, c4, a5, c5, rfl, rfl⟩
mutual
def slices_Concat : Nat → (List (List Qn)) → Option ((List Qn))
 | 0, _ => none
 | n + 1, v1 =>
  slices_Concat_L1 n v1 0 0
def slices_Concat_L2 : Nat → (List (List Qn)) → (List Qn) → Int → Option ((List Qn))
 | 0, _, _, _ => none
 | n + 1, v1, v14, v16 =>
  cond (decide (v16 < ((List.map (fun l => D.sl 13 (Qn.encL l)) v1).length : Int))) (
  (idx v1 v16).bind (fun v19 =>
  cond (decide ((Qn.encL (v14 ++ v19)).length ≤ 1000000)) (
  slices_Concat_L2 n v1 (v14 ++ v19) (IntKind.i64.wrap (v16 + 1))) none)) (
  some (v14))
def slices_Concat_L1 : Nat → (List (List Qn)) → Int → Int → Option ((List Qn))
 | 0, _, _, _ => none
 | n + 1, v1, v3, v4 =>
  cond (decide (v4 < ((List.map (fun l => D.sl 13 (Qn.encL l)) v1).length : Int))) (
  (idx v1 v4).bind (fun v6 =>
  cond (decide ((IntKind.i64.wrap (v3 + ((Qn.encL v6).length : Int))) < 0)) (
  none) (
  slices_Concat_L1 n v1 (IntKind.i64.wrap (v3 + ((Qn.encL v6).length : Int))) (IntKind.i64.wrap (v4 + 1))))) (
  cond (decide ((0 : Int) ≤ v3 ∧ (v3 : Int) ≤ 1000000)) (
  slices_Concat_L2 n v1 ([]) 0) none)
 end
theorem qgi (n : Nat) (v1 : (List (List Qn))) (a2 : OA) (c2 : Nat) (r : (List Qn)) (hr : slices_Concat n v1 = some r) : Pure Tryz.prog (.val (.fn (.func 225) [] [])) [(.v (.slice a2 ((List.map (fun l => D.sl 13 (Qn.encL l)) v1).length) c2))] [(.slice a2 ((List.map (fun l => D.sl 13 (Qn.encL l)) v1).length) c2, .sl 1 (List.map (fun l => D.sl 13 (Qn.encL l)) v1))] (fun r' out => ∃ (b1 : OA) (d1 : Nat), r' = (.v (.slice b1 ((Qn.encL r).length) d1)) ∧ out = [(.slice b1 ((Qn.encL r).length) d1, .sl 13 (Qn.encL r))]) := by
 rcases n with _ | n
 ·exact qe hr
 rw [slices_Concat.eq_2] at hr
 refine qb (N := 36) (m := 0) (dt := fun _ => none) [] ttOK func225 rfl call225 ntmps225 rfl rfl rfl mixed (by kernel_rfl) ?_
 refine AtLoop.mk ⟨Nat × Int × Int, fun x => [(0, (.v (.slice a2 ((List.map (fun l => D.sl 13 (Qn.encL l)) v1).length) c2))), (3, (iS x.2.1)), (9, (.v (.slice a2 ((List.map (fun l => D.sl 13 (Qn.encL l)) v1).length) c2))), (10, (iS ((List.map (fun l => D.sl 13 (Qn.encL l)) v1).length : Int))), (11, (iS x.2.2))], fun x => ⟨[], [], [(.slice a2 ((List.map (fun l => D.sl 13 (Qn.encL l)) v1).length) c2, .sl 1 (List.map (fun l => D.sl 13 (Qn.encL l)) v1))]⟩, fun x => slices_Concat_L1 x.1 v1 x.2.1 x.2.2 = some r, fun x => x.1, (n, 0, 0), hr, ⟨rfl, rfl, rfl, rfl, rfl, trivial⟩, (StLe.gen 0 [] [.old 0] rfl rfl rfl rfl rfl rfl rfl), fun x _ => ⟨rfl, rfl⟩, ?_⟩
 rintro ⟨n, v3, v4⟩ HH
 have hr : slices_Concat_L1 n v1 v3 v4 = some r := HH
 rcases n with _ | n
 ·exact qe hr
 rw [slices_Concat_L1.eq_2] at hr
 refine AtIf.mk (fun h5 => ?_) (fun h5 => ?_)
 ·replace hr := qg h5 hr
  obtain ⟨v6, h7, hr⟩ := bind_some hr
  obtain ⟨h8, h9⟩ := qi h7
  refine qh ttOK 0 rfl rfl rfl rfl h8 (qa7 (fun l => D.sl 13 (Qn.encL l)) h9) ?_
  intro a10 c10 _ _
  refine AtIf.mk (fun h11 => ?_) (fun h11 => ?_)
  ·replace hr := qg h11 hr
   exact qe hr
  ·replace hr := qf h11 hr
   exact ⟨(n, (IntKind.i64.wrap (v3 + ((Qn.encL v6).length : Int))), (IntKind.i64.wrap (v4 + 1))), hr, Nat.lt_succ_self _, ⟨rfl, rfl, rfl, rfl, rfl, trivial⟩, (StLe.gen 0 [] [.old 0] rfl rfl rfl rfl rfl rfl rfl)⟩
 ·replace hr := qf h5 hr
  obtain ⟨h12, hr⟩ := qj hr
  refine Meets.nilRep 13 ?_
  refine (growQ v3 (of_decide_eq_true h12).1 (of_decide_eq_true h12).2).frameRA [] [] [0] rfl rfl rfl rfl rfl rfl rfl rfl rfl ?_
  rintro _ _ ⟨a13, c13, rfl, rfl⟩
  refine ⟨rfl, [], rfl, ?_⟩
  obtain ⟨q17, hq17⟩ : ∃ q, q = n := ⟨_, rfl⟩
  refine AtLoop.mk ⟨Nat × (List Qn) × Option Addr × Nat × Int, fun x => [(6, (.v (.slice x.2.2.1 ((Qn.encL x.2.1).length) x.2.2.2.1))), (25, (.v (.slice a2 ((List.map (fun l => D.sl 13 (Qn.encL l)) v1).length) c2))), (26, (iS ((List.map (fun l => D.sl 13 (Qn.encL l)) v1).length : Int))), (27, (iS x.2.2.2.2))], fun x => ⟨[], [⟨.slice x.2.2.1 ((Qn.encL x.2.1).length) x.2.2.2.1, 13, 46, (Qn.encL x.2.1)⟩], [(.slice none 0 0, .sl 13 []), (.slice a2 ((List.map (fun l => D.sl 13 (Qn.encL l)) v1).length) c2, .sl 1 (List.map (fun l => D.sl 13 (Qn.encL l)) v1))]⟩, fun x => x.1 ≤ q17 ∧ slices_Concat_L2 x.1 v1 x.2.1 x.2.2.2.2 = some r, fun x => x.1, (n, [], a13, c13, 0), ⟨by omega, hr⟩, ⟨rfl, rfl, rfl, rfl, trivial⟩, (StLe.gen 0 [.old 0] [.old 0, .old 1] rfl rfl rfl rfl rfl rfl rfl), fun x _ => ⟨rfl, rfl⟩, ?_⟩
  rintro ⟨n, v14, a15, c15, v16⟩ HH
  obtain ⟨hbq17, hr⟩ : n ≤ q17 ∧ slices_Concat_L2 n v1 v14 v16 = some r := HH
  rcases n with _ | n
  ·exact qe hr
  rw [slices_Concat_L2.eq_2] at hr
  refine AtIf.mk (fun h18 => ?_) (fun h18 => ?_)
  ·replace hr := qg h18 hr
   obtain ⟨v19, h20, hr⟩ := bind_some hr
   obtain ⟨h21, h22⟩ := qi h20
   refine qh ttOK 1 rfl rfl rfl rfl h21 (qa7 (fun l => D.sl 13 (Qn.encL l)) h22) ?_
   intro a23 c23 _ _
   obtain ⟨h24, hr⟩ := qj hr
   refine qm (ds' := (Qn.encL (v14 ++ v19))) ttOK 168 0 2 rfl (by kernel_rfl) rfl rfl rfl rfl (by simp only [Qn.encL_eq, List.map_append]) h24 (by decide) ?_
   intro a25 c25
   exact ⟨(n, (v14 ++ v19), a25, c25, (IntKind.i64.wrap (v16 + 1))), ⟨by omega, hr⟩, Nat.lt_succ_self _, ⟨rfl, rfl, rfl, rfl, trivial⟩, (StLe.gen 0 [.old 0] [.old 0, .old 1] rfl rfl rfl rfl rfl rfl rfl)⟩
  ·replace hr := qf h18 hr
   replace hr := osi hr; subst hr
   exact qa [.froz 0] [(.slice a15 ((Qn.encL v14).length) c15, .sl 13 (Qn.encL v14))] rfl rfl ⟨a15, c15, rfl, rfl⟩
mutual
def unify_start : Nat → (List Dc) → (List Mt) → Int → (List Qn) → Option (Pb × Int)
 | 0, _, _, _, _ => none
 | n + 1, v1, v3, v5, v6 =>
  (meta_All n v3).bind (fun v8 =>
  cond (v8.2 != 0) (
  some ((Pb.mk ([]) ([])), v8.2)) (
  (slices_Concat n ([[], v6])).bind (fun v13 =>
  bindC (unify_work_run n (UWk.mk v1 v8.1 v5 0 (Qu.mk v13) ([]))) (fun e18 =>
  some ((Pb.mk ([]) ([])), e18)) (fun v16 =>
  (meta_All n v16.metas).bind (fun v27 =>
  cond (v27.2 != 0) (
  some ((Pb.mk ([]) ([])), v27.2)) (
  unify_start_L1 n v16 v27))))))
def unify_start_L1 : Nat → UWk → ((List Mt) × Int) → Option (Pb × Int)
 | 0, _, _ => none
 | n + 1, v16, v27 =>
  cond (decide ((0 : Int) < ((Qn.encL v16.left).length : Int))) (
  (idx v16.left 0).bind (fun v32 =>
  none)) (
  some ((Pb.mk v27.1 ([])), 0))
 end
set_option maxHeartbeats 40000000 in
theorem qie (n : Nat) (v1 : (List Dc)) (v3 : (List Mt)) (v5 : Int) (v6 : (List Qn)) (a2 : OA) (c2 : Nat) (a4 : OA) (c4 : Nat) (a7 : OA) (c7 : Nat) (r : Pb × Int) (hr : unify_start n v1 v3 v5 v6 = some r) : Pure Tryz.prog (.val (.fn (.func 82) [] [])) [(.v (.slice a2 ((Dc.encL v1).length) c2)), (.v (.slice a4 ((Mt.encL v3).length) c4)), (iS v5), (.v (.slice a7 ((Qn.encL v6).length) c7))] [(.slice a2 ((Dc.encL v1).length) c2, .sl 6 (Dc.encL v1)), (.slice a4 ((Mt.encL v3).length) c4, .sl 10 (Mt.encL v3)), (.slice a7 ((Qn.encL v6).length) c7, .sl 13 (Qn.encL v6))] (fun r' out => ∃ (b1 : OA) (d1 : Nat), ∃ (b2 : OA) (d2 : Nat), r' = (.tup [(.agg [(.v (.slice b1 ((Mt.encL r.1.metas).length) d1)), (.v (.slice b2 ((Qn.encL r.1.left).length) d2))]), (iS r.2)]) ∧ out = [(.slice b1 ((Mt.encL r.1.metas).length) d1, .sl 10 (Mt.encL r.1.metas)), (.slice b2 ((Qn.encL r.1.left).length) d2, .sl 13 (Qn.encL r.1.left))]) := by
 rcases n with _ | n
 ·exact qe hr
 rw [unify_start.eq_2] at hr
 refine qeo (N := 60) (m := 0) (dt := drawsOf [(9, .node [0, 1, 2, 3, 4, 5, 6] [(7, .node [] [(8, .node [] [(9, .node [10] [(11, .leaf [])])])])], [9, 11], [])]) [(8, (.loc 0 0)), (9, (.loc 1 0))] 2 [] ttOK func82 rfl call82 ntmps82 rfl rfl rfl mixed (by kernel_rfl) (by kernel_rfl) (by kernel_rfl) (by kernel_rfl) rfl rfl rfl call147 2 quietU ?_
 refine ⟨[(.loc 0 0), (.loc 1 0)], rfl, rfl, rfl, rfl, ⟨rfl, rfl, trivial⟩, ?_⟩
 obtain ⟨v8, h9, hr⟩ := bind_some hr
 refine (qgm n v3 a4 c4 _ h9).atR [1] rfl rfl rfl ?_
 rintro _ _ ⟨a10, c10, rfl, rfl⟩
 refine qb (N := 10) (m := 2) (dt := fun _ => none) [] ttOK func148 rfl call148 ntmps148 rfl rfl rfl mixed (by kernel_rfl) ?_
 refine AtIf.mk (fun h11 => ?_) (fun h11 => ?_)
 ·replace hr := qg h11 hr
  refine qb (N := 5) (m := 2) (dt := fun _ => none) [] ttOK func165 rfl call165 ntmps165 rfl rfl rfl mixed (by kernel_rfl) ?_
  refine qae rfl rfl ?_
  refine AtRet.gen _ (StLe.refl _) rfl rfl ?_
  refine AtRet.gen _ (StLe.refl _) rfl rfl ?_
  refine ⟨rfl, ?_⟩
  refine qcy (N := 20) (m := 2) (d := 7) (dt := drawsOf [(7, .node [0, 1, 2, 3, 4, 5] [(6, .node [7] [(8, .leaf [])])], [8], [])]) [] ttOK func147 rfl ntmps147 rfl rfl rfl mixed (by kernel_rfl) (by kernel_rfl) rfl rfl (fun ev w => rfl) rfl rfl ?_
  refine qc0 (ms := #[]) (by kernel_rfl) ?_
  refine AtIf.mk (fun h => ff h) (fun _ => ?_)
  refine qd1 underlying303 rfl ?_
  refine AtIf.mk (fun _ => ?_) (fun h => tf h)
  refine ⟨fun _ _ h => h, ?_⟩
  refine AtRet.gen _ (StLe.refl _) rfl rfl ?_
  replace hr := osi hr; subst hr
  exact qa [.nil 10, .nil 13] [(.slice none 0 0, .sl 10 []), (.slice none 0 0, .sl 13 [])] rfl rfl ⟨none, 0, none, 0, rfl, rfl⟩
 ·replace hr := qf h11 hr
  refine AtRet.gen _ (StLe.refl _) rfl rfl ?_
  refine qb (N := 14) (m := 3) (dt := fun _ => none) [] ttOK func150 rfl call150 ntmps150 rfl rfl rfl mixed (by kernel_rfl) ?_
  refine qk (n := 2) ttOK 24 [.sl 13 [], .sl 13 (Qn.encL v6)] (ds' := (List.map (fun l => D.sl 13 (Qn.encL l)) ([[], v6]))) rfl (by kernel_rfl) ⟨⟨rfl, rfl, rfl, (.inr ⟨rfl, rfl⟩)⟩, ⟨⟨rfl, rfl, rfl, (.inl ⟨_, rfl, ql (j := 2) rfl⟩)⟩, trivial⟩⟩ rfl rfl (by decide) (by decide) ?_
  intro a12
  obtain ⟨v13, h14, hr⟩ := bind_some hr
  refine (qgi n ([[], v6]) a12 2 _ h14).atR [4] rfl rfl rfl ?_
  rintro _ _ ⟨a15, c15, rfl, rfl⟩
  refine AtRet.gen _ (StLe.refl _) rfl rfl ?_
  rcases qhm hr with ⟨e18, h17, hr⟩ | ⟨v16, h17, hr⟩
  ·
   refine Meets.nilRep 13 ?_
   refine (qc6 n (UWk.mk v1 v8.1 v5 0 (Qu.mk v13) ([])) a2 c2 a10 c10 a15 c15 none 0 _ h17).frameRA [2] [] [1, 4, 6, 0] rfl rfl rfl rfl rfl rfl rfl rfl rfl ?_
   rintro _ _ ⟨rfl, rfl⟩
   refine ⟨rfl, [.lost], rfl, ?_⟩
   refine ⟨rfl, ?_⟩
   refine qcy (N := 20) (m := 3) (d := 7) (dt := drawsOf [(7, .node [0, 1, 2, 3, 4, 5] [(6, .node [7] [(8, .leaf [])])], [8], [])]) [] ttOK func147 rfl ntmps147 rfl rfl rfl mixed (by kernel_rfl) (by kernel_rfl) rfl rfl (fun ev w => rfl) rfl rfl ?_
   refine qc0 (ms := #[]) (by kernel_rfl) ?_
   refine AtIf.mk (fun h => ff h) (fun _ => ?_)
   refine qd1 underlying303 rfl ?_
   refine AtIf.mk (fun _ => ?_) (fun h => tf h)
   refine ⟨fun _ _ h => h, ?_⟩
   refine AtRet.gen _ (StLe.refl _) rfl rfl ?_
   replace hr := osi hr; subst hr
   exact qa [.nil 10, .old 0] [(.slice none 0 0, .sl 10 []), (.slice none 0 0, .sl 13 [])] rfl rfl ⟨none, 0, none, 0, rfl, rfl⟩
  ·
   refine Meets.nilRep 13 ?_
   refine (qc6 n (UWk.mk v1 v8.1 v5 0 (Qu.mk v13) ([])) a2 c2 a10 c10 a15 c15 none 0 _ h17).frameRA [2] [] [1, 4, 6, 0] rfl rfl rfl rfl rfl rfl rfl rfl rfl ?_
   rintro _ _ ⟨a23, c23, a24, c24, a25, c25, a26, c26, rfl, rfl⟩
   refine ⟨rfl, [.cells 217 [(.v (.slice a23 ((Dc.encL v16.sig).length) c23)), (.v (.slice a24 ((Mt.encL v16.metas).length) c24)), (iS v16.fixed), (iS v16.steps), (.v (.slice a25 ((Qn.encL v16.queue.l).length) c25)), (.v (.slice a26 ((Qn.encL v16.left).length) c26))]], rfl, ?_⟩
   obtain ⟨v27, h28, hr⟩ := bind_some hr
   refine (qgm n v16.metas a24 c24 _ h28).atR [8] rfl rfl rfl ?_
   rintro _ _ ⟨a29, c29, rfl, rfl⟩
   refine qb (N := 10) (m := 3) (dt := fun _ => none) [] ttOK func148 rfl call148 ntmps148 rfl rfl rfl mixed (by kernel_rfl) ?_
   refine AtIf.mk (fun h30 => ?_) (fun h30 => ?_)
   ·replace hr := qg h30 hr
    refine qb (N := 5) (m := 3) (dt := fun _ => none) [] ttOK func165 rfl call165 ntmps165 rfl rfl rfl mixed (by kernel_rfl) ?_
    refine qae rfl rfl ?_
    refine AtRet.gen _ (StLe.refl _) rfl rfl ?_
    refine AtRet.gen _ (StLe.refl _) rfl rfl ?_
    refine ⟨rfl, ?_⟩
    refine qcy (N := 20) (m := 3) (d := 7) (dt := drawsOf [(7, .node [0, 1, 2, 3, 4, 5] [(6, .node [7] [(8, .leaf [])])], [8], [])]) [] ttOK func147 rfl ntmps147 rfl rfl rfl mixed (by kernel_rfl) (by kernel_rfl) rfl rfl (fun ev w => rfl) rfl rfl ?_
    refine qc0 (ms := #[]) (by kernel_rfl) ?_
    refine AtIf.mk (fun h => ff h) (fun _ => ?_)
    refine qd1 underlying303 rfl ?_
    refine AtIf.mk (fun _ => ?_) (fun h => tf h)
    refine ⟨fun _ _ h => h, ?_⟩
    refine AtRet.gen _ (StLe.refl _) rfl rfl ?_
    replace hr := osi hr; subst hr
    exact qa [.nil 10, .old 0] [(.slice none 0 0, .sl 10 []), (.slice none 0 0, .sl 13 [])] rfl rfl ⟨none, 0, none, 0, rfl, rfl⟩
   ·replace hr := qf h30 hr
    refine AtRet.gen _ (StLe.refl _) rfl rfl ?_
    refine AtLoop.mk ⟨Nat, fun x => [(8, (.loc 0 0)), (9, (.loc 1 0)), (10, (.loc 2 0)), (41, (.v (.slice a26 ((Qn.encL v16.left).length) c26))), (42, (iS ((Qn.encL v16.left).length : Int))), (43, (iS 0))], fun x => ⟨[.cells 28 [(.v (.slice a29 ((Mt.encL v27.1).length) c29)), (.v (.slice none 0 0))], .cells 29 [(iS 0)], .cells 217 [(.v (.slice a23 ((Dc.encL v16.sig).length) c23)), (.v (.slice a24 ((Mt.encL v16.metas).length) c24)), (iS v16.fixed), (iS v16.steps), (.v (.slice a25 ((Qn.encL v16.queue.l).length) c25)), (.v (.slice a26 ((Qn.encL v16.left).length) c26))]], [], [(.slice none 0 0, .sl 13 []), (.slice a2 ((Dc.encL v1).length) c2, .sl 6 (Dc.encL v1)), (.slice a4 ((Mt.encL v3).length) c4, .sl 10 (Mt.encL v3)), (.slice a7 ((Qn.encL v6).length) c7, .sl 13 (Qn.encL v6)), (.slice a10 ((Mt.encL v8.1).length) c10, .sl 10 (Mt.encL v8.1)), (.slice a12 ((List.map (fun l => D.sl 13 (Qn.encL l)) ([[], v6])).length) 2, .sl 1 (List.map (fun l => D.sl 13 (Qn.encL l)) ([[], v6]))), (.slice a15 ((Qn.encL v13).length) c15, .sl 13 (Qn.encL v13)), (.slice a23 ((Dc.encL v16.sig).length) c23, .sl 6 (Dc.encL v16.sig)), (.slice a24 ((Mt.encL v16.metas).length) c24, .sl 10 (Mt.encL v16.metas)), (.slice a25 ((Qn.encL v16.queue.l).length) c25, .sl 13 (Qn.encL v16.queue.l)), (.slice a26 ((Qn.encL v16.left).length) c26, .sl 13 (Qn.encL v16.left)), (.slice a29 ((Mt.encL v27.1).length) c29, .sl 10 (Mt.encL v27.1))]⟩, fun x => unify_start_L1 x v16 v27 = some r, fun x => x, n, hr, ⟨rfl, rfl, rfl, rfl, rfl, rfl, trivial⟩, (StLe.gen 3 [] [.old 0, .old 1, .old 2, .old 3, .old 4, .old 5, .old 6, .old 7, .old 8, .old 9, .old 10, .old 11] rfl rfl rfl rfl rfl rfl rfl), fun x _ => ⟨rfl, rfl⟩, ?_⟩
    rintro n HH
    have hr : unify_start_L1 n v16 v27 = some r := HH
    rcases n with _ | n
    ·exact qe hr
    rw [unify_start_L1.eq_2] at hr
    refine AtIf.mk (fun h31 => ?_) (fun h31 => ?_)
    ·replace hr := qg h31 hr
     obtain ⟨v32, h33, hr⟩ := bind_some hr
     obtain ⟨h34, h35⟩ := qi h33
     refine qh ttOK 10 rfl rfl rfl rfl h34 (Qn.encL_get h35) ?_
     intro a36 c36 _ _ a37 c37 _ _ a38 c38 _ _ a39 c39 _ _
     exact qe hr
    ·replace hr := qf h31 hr
     replace hr := osi hr; subst hr
     exact qa [.old 11, .old 0] [(.slice a29 ((Mt.encL v27.1).length) c29, .sl 10 (Mt.encL v27.1)), (.slice none 0 0, .sl 13 [])] rfl rfl ⟨a29, c29, none, 0, rfl, rfl⟩
def unify_Demand : Nat → (List Dc) → Pb → (List Tm) → Tm → Tm → Option (Pb × Int)
 | 0, _, _, _, _, _ => none
 | n + 1, v1, v3, v6, v8, v10 =>
  cond (decide ((Qn.encL v3.left).length ≤ 1000000)) (
  bindC (unify_types n v1 v6 v8 v10) (fun e16 =>
  some ((Pb.mk ([]) ([])), e16)) (fun v14 =>
  cond (decide ((Qn.encL (v3.left ++ v14)).length ≤ 1000000)) (
  cond (decide (((Qn.encL (v3.left ++ v14)).length : Int) > 80)) (
  some ((Pb.mk ([]) ([])), 5)) (
  (unify_start n v1 v3.metas 0 (v3.left ++ v14)).bind (fun v22 =>
  some (v22.1, v22.2)))) none)) none
set_option maxHeartbeats 40000000 in
theorem qd3 (n : Nat) (v1 : (List Dc)) (v3 : Pb) (v6 : (List Tm)) (v8 : Tm) (v10 : Tm) (a2 : OA) (c2 : Nat) (a4 : OA) (c4 : Nat) (a5 : OA) (c5 : Nat) (a7 : OA) (c7 : Nat) (a9 : OA) (c9 : Nat) (a11 : OA) (c11 : Nat) (r : Pb × Int) (hr : unify_Demand n v1 v3 v6 v8 v10 = some r) : Pure Tryz.prog (.val (.fn (.func 93) [] [])) [(.v (.slice a2 ((Dc.encL v1).length) c2)), (.agg [(.v (.slice a4 ((Mt.encL v3.metas).length) c4)), (.v (.slice a5 ((Qn.encL v3.left).length) c5))]), (tU v6 a7 c7), (.agg [(iS v8.op), (iS v8.hd), (iS v8.n), (tU v8.args a9 c9)]), (.agg [(iS v10.op), (iS v10.hd), (iS v10.n), (tU v10.args a11 c11)])] [(.slice a2 ((Dc.encL v1).length) c2, .sl 6 (Dc.encL v1)), (.slice a4 ((Mt.encL v3.metas).length) c4, .sl 10 (Mt.encL v3.metas)), (.slice a5 ((Qn.encL v3.left).length) c5, .sl 13 (Qn.encL v3.left)), (tQ v6 a7 c7), (tQ v8.args a9 c9), (tQ v10.args a11 c11)] (fun r' out => ∃ (b1 : OA) (d1 : Nat), ∃ (b2 : OA) (d2 : Nat), r' = (.tup [(.agg [(.v (.slice b1 ((Mt.encL r.1.metas).length) d1)), (.v (.slice b2 ((Qn.encL r.1.left).length) d2))]), (iS r.2)]) ∧ out = [(.slice b1 ((Mt.encL r.1.metas).length) d1, .sl 10 (Mt.encL r.1.metas)), (.slice b2 ((Qn.encL r.1.left).length) d2, .sl 13 (Qn.encL r.1.left))]) := by
 rcases n with _ | n
 ·exact qe hr
 rw [unify_Demand.eq_2] at hr
 refine qeo (N := 33) (m := 0) (dt := drawsOf [(2, .node [0, 1, 3, 4, 5, 6] [(2, .node [] [(7, .node [] [(8, .leaf [9])])])], [7, 8], [])]) [(10, (.loc 3 0)), (11, (.loc 4 0))] 5 [] ttOK func93 rfl call93 ntmps93 rfl rfl rfl mixed (by kernel_rfl) (by kernel_rfl) (by kernel_rfl) (by kernel_rfl) rfl rfl rfl call147 2 quietU ?_
 refine ⟨[(.loc 3 0), (.loc 4 0)], rfl, rfl, rfl, rfl, ⟨rfl, rfl, trivial⟩, ?_⟩
 obtain ⟨h12, hr⟩ := qj hr
 refine (cloneQ v3.left a5 c5 (of_decide_eq_true h12)).frameRA [] [] [2] rfl rfl rfl rfl rfl rfl rfl rfl rfl ?_
 rintro _ _ ⟨a13, c13, rfl, rfl⟩
 refine ⟨rfl, [], rfl, ?_⟩
 refine ⟨fun _ _ h => h, ?_⟩
 rcases qhm hr with ⟨e16, h15, hr⟩ | ⟨v14, h15, hr⟩
 ·
  refine (qej n v1 v6 v8 v10 a2 c2 a7 c7 a9 c9 a11 c11 _ h15).frameRA [] [] [0, 3, 4, 5] rfl rfl rfl rfl rfl rfl rfl rfl rfl ?_
  rintro _ _ ⟨rfl, rfl⟩
  refine ⟨rfl, [], rfl, ?_⟩
  refine ⟨rfl, ?_⟩
  refine qcy (N := 20) (m := 5) (d := 7) (dt := drawsOf [(7, .node [0, 1, 2, 3, 4, 5] [(6, .node [7] [(8, .leaf [])])], [8], [])]) [] ttOK func147 rfl ntmps147 rfl rfl rfl mixed (by kernel_rfl) (by kernel_rfl) rfl rfl (fun ev w => rfl) rfl rfl ?_
  refine qc0 (ms := #[]) (by kernel_rfl) ?_
  refine AtIf.mk (fun h => ff h) (fun _ => ?_)
  refine qd1 underlying303 rfl ?_
  refine AtIf.mk (fun _ => ?_) (fun h => tf h)
  refine ⟨fun _ _ h => h, ?_⟩
  refine AtRet.gen _ (StLe.refl _) rfl rfl ?_
  replace hr := osi hr; subst hr
  exact qa [.nil 10, .nil 13] [(.slice none 0 0, .sl 10 []), (.slice none 0 0, .sl 13 [])] rfl rfl ⟨none, 0, none, 0, rfl, rfl⟩
 ·
  refine (qej n v1 v6 v8 v10 a2 c2 a7 c7 a9 c9 a11 c11 _ h15).frameRA [] [] [0, 3, 4, 5] rfl rfl rfl rfl rfl rfl rfl rfl rfl ?_
  rintro _ _ ⟨a18, c18, rfl, rfl⟩
  refine ⟨rfl, [], rfl, ?_⟩
  obtain ⟨h19, hr⟩ := qj hr
  refine qm (ds' := (Qn.encL (v3.left ++ v14))) ttOK 168 0 6 rfl (by kernel_rfl) rfl rfl rfl rfl (by simp only [Qn.encL_eq, List.map_append]) h19 (by decide) ?_
  intro a20 c20
  refine AtIf.mk (fun h21 => ?_) (fun h21 => ?_)
  ·replace hr := qg h21 hr
   refine qb (N := 5) (m := 5) (dt := fun _ => none) [] ttOK func165 rfl call165 ntmps165 rfl rfl rfl mixed (by kernel_rfl) ?_
   refine qae rfl rfl ?_
   refine AtRet.gen _ (StLe.refl _) rfl rfl ?_
   refine ⟨rfl, ?_⟩
   refine qcy (N := 20) (m := 5) (d := 7) (dt := drawsOf [(7, .node [0, 1, 2, 3, 4, 5] [(6, .node [7] [(8, .leaf [])])], [8], [])]) [] ttOK func147 rfl ntmps147 rfl rfl rfl mixed (by kernel_rfl) (by kernel_rfl) rfl rfl (fun ev w => rfl) rfl rfl ?_
   refine qc0 (ms := #[]) (by kernel_rfl) ?_
   refine AtIf.mk (fun h => ff h) (fun _ => ?_)
   refine qd1 underlying303 rfl ?_
   refine AtIf.mk (fun _ => ?_) (fun h => tf h)
   refine ⟨fun _ _ h => h, ?_⟩
   refine AtRet.gen _ (StLe.refl _) rfl rfl ?_
   replace hr := osi hr; subst hr
   exact qa [.nil 10, .nil 13] [(.slice none 0 0, .sl 10 []), (.slice none 0 0, .sl 13 [])] rfl rfl ⟨none, 0, none, 0, rfl, rfl⟩
  ·replace hr := qf h21 hr
   obtain ⟨v22, h23, hr⟩ := bind_some hr
   refine Meets.le (S' := ⟨[.cells 28 [(.v (.slice a4 ((Mt.encL v3.metas).length) c4)), (.v (.slice a5 ((Qn.encL v3.left).length) c5))], .cells 41 [(iS v8.op), (iS v8.hd), (iS v8.n), (tU v8.args a9 c9)], .cells 41 [(iS v10.op), (iS v10.hd), (iS v10.n), (tU v10.args a11 c11)], .cells 28 [(.v (.slice none 0 0)), (.v (.slice none 0 0))], .cells 29 [(iS 0)]], [], [(.slice a20 ((Qn.encL (v3.left ++ v14)).length) c20, .sl 13 (Qn.encL (v3.left ++ v14))), (.slice a2 ((Dc.encL v1).length) c2, .sl 6 (Dc.encL v1)), (.slice a4 ((Mt.encL v3.metas).length) c4, .sl 10 (Mt.encL v3.metas)), (.slice a5 ((Qn.encL v3.left).length) c5, .sl 13 (Qn.encL v3.left)), (tQ v6 a7 c7), (tQ v8.args a9 c9), (tQ v10.args a11 c11), (.slice a18 ((Qn.encL v14).length) c18, .sl 13 (Qn.encL v14))]⟩) (StLe.gen 5 [] [.froz 0, .old 0, .old 1, .old 2, .old 3, .old 4, .old 5, .old 6] rfl rfl rfl rfl rfl rfl rfl) rfl ?_
   refine (qie n v1 v3.metas 0 (v3.left ++ v14) a2 c2 a4 c4 a20 c20 _ h23).atR [1, 2, 0] rfl rfl rfl ?_
   rintro _ _ ⟨a24, c24, a25, c25, rfl, rfl⟩
   replace hr := osi hr; subst hr
   exact qa [.old 8, .old 9] [(.slice a24 ((Mt.encL v22.1.metas).length) c24, .sl 10 (Mt.encL v22.1.metas)), (.slice a25 ((Qn.encL v22.1.left).length) c25, .sl 13 (Qn.encL v22.1.left))] rfl rfl ⟨a24, c24, a25, c25, rfl, rfl⟩
end

section
open Go Go.Shelf
set_option maxRecDepth 100000
def growTRen : Go.Shelf.Ren := ⟨fun | 4 => 251 | n => n, fun | 22 => 39 | 25 => 41 | 3 => 3 | 4 => 4 | 9 => 9 | 20 => 20 | 0 => 0 | n => n, fun n => n⟩
theorem growTLays : Go.Proofs.Lays8.n4 Tryz.prog growTRen := {
 mixed := by kernel_rfl
 f4 := ⟨Tryz.f251.name, by kernel_rfl, Tryz.func251.trans (congrArg some (by kernel_rfl))⟩
 t0 := Tryz.underlying0
 a0 := Tryz.isAgg0
 z0 := Tryz.sizeOf0
 v0 := Tryz.zeroValue0
 t3 := Tryz.underlying3
 a3 := Tryz.isAgg3
 z3 := Tryz.sizeOf3
 v3 := Tryz.zeroValue3
 t4 := Tryz.underlying4
 a4 := Tryz.isAgg4
 z4 := Tryz.sizeOf4
 v4 := Tryz.zeroValue4
 t9 := Tryz.underlying9
 a9 := Tryz.isAgg9
 z9 := Tryz.sizeOf9
 v9 := Tryz.zeroValue9
 t20 := Tryz.underlying20
 a20 := Tryz.isAgg20
 z20 := Tryz.sizeOf20
 v20 := Tryz.zeroValue20
 t22 := Tryz.underlying39
 a22 := Tryz.isAgg39
 z22 := Tryz.sizeOf39
 v22 := Tryz.zeroValue39 }
end

section
open Go.Tr Go Go.Shelf
set_option maxRecDepth 10000
end

section
open Go.Shelf Go.RowKit Go.Lib Go.Proofs
variable {P : Program} {ρ : Ren}
set_option maxHeartbeats 2000000 in
set_option maxRecDepth 100000 in
theorem growNil (L : Lays8.n4 P ρ) (i0 : TypeInfo) (z : Value) (hi0 : P.info? (ρ.t 25) = some i0) (hz0 : i0.zero = some z) (hs0 : 0 < i0.size) (n : Nat) (hn : 0 < n) (w : World) (hbig : n * i0.bytes ≤ 281474976710656) (h63 : n ≤ 4611686018427387904) :
  Calls P (ρ.f 4) #[.slice none 0 0, .int .i64 n] w fun e w' =>
   e = .returned (.slice (some ⟨w.heap.size, 0, none⟩) 0 (grownCap w n 0 (ρ.t 25))) ∧
   w' = w.drew.alloc (.cells (#[] ++ Builtin.zeroCells z.cells n ++ Builtin.zeroCells z.cells (grownCap w n 0 (ρ.t 25) - n)) (ρ.t 25)) := by
 have mixed := L.mixed
 have t0 := L.t0; have a0 := L.a0; have z0 := L.z0; have v0 := L.v0; have u0 := run_underlying L.t0; have t3 := L.t3; have a3 := L.a3; have z3 := L.z3; have v3 := L.v3; have u3 := run_underlying L.t3; have t4 := L.t4; have a4 := L.a4; have z4 := L.z4; have v4 := L.v4; have u4 := run_underlying L.t4; have t9 := L.t9; have a9 := L.a9; have z9 := L.z9; have v9 := L.v9; have u9 := run_underlying L.t9; have t20 := L.t20; have a20 := L.a20; have z20 := L.z20; have v20 := L.v20; have u20 := run_underlying L.t20; have t22 := L.t22; have a22 := L.a22; have z22 := L.z22; have v22 := L.v22; have u22 := run_underlying L.t22
 obtain ⟨_, _, FG⟩ := L.f4
 have h1 : ¬ ((n : Int) < 0) := by omega
 have h3 : wrap64 (n : Int) = (n : Int) := by unfold wrap64; omega
 have h4 : (n : Int) > 0 := by omega
 have z25 : ∀ w, (Go.sizeOf (ρ.t 25)).run P w = .ok i0.size w := fun w => by simp [Go.sizeOf, typeInfo, hi0]
 have hold : (Builtin.firstCells i0.size 0 (.slice none 0 0)).run P w.drew = .ok ([] : List Value).toArray w.drew := run_firstCells_none w.drew i0.size 0 0 0
 have hcap : Builtin.nextslicecap n 0 = n := by
  unfold Builtin.nextslicecap
  rw [if_pos (by omega)]
 have hrz : ∀ ty, (Builtin.append_ #[(ρ.t 22), (ρ.t 3)] ty #[.slice none 0 0, .int .i64 (n : Int)]).run P w =
   .ok (.slice (some ⟨w.heap.size, 0, none⟩) n (grownCap w n 0 (ρ.t 25))) (w.drew.alloc (.cells (#[] ++ Builtin.zeroCells z.cells n ++ Builtin.zeroCells z.cells (grownCap w n 0 (ρ.t 25) - n)) (ρ.t 25))) := fun ty => by
  have h := Lib.run_append_grow_zeros w (ρ.t 22) (ρ.t 3) ty (ρ.t 25) i0 z .i64 .i64 L.t22 L.t3 hi0 hz0 none 0 0 [] hold n (by omega) hs0 (by omega) (by omega) hbig
   (by rw [Nat.zero_add, hcap]; exact hbig)
  rw [Nat.zero_add] at h
  exact h
 have hGn : n ≤ grownCap w n 0 (ρ.t 25) := grownCap_ge w _ _ _
 obtain ⟨G, hG⟩ : ∃ G, G = grownCap w n 0 (ρ.t 25) := ⟨_, rfl⟩
 rw [← hG] at hrz hGn ⊢
 have hG63 : G ≤ 9223372036854775807 := by
  have := grownCap_le_maxLen w n 0 (ρ.t 25) (by unfold maxLen; omega)
  rw [← hG] at this
  unfold maxLen at this
  omega
 clear hold hG
 go_enter FG, Body8.n4_ntmps ρ
 go_wp2_with (at_builtin; refine Lib.wpList_append_run _ rfl _ _ _ _ rfl _ _ rfl rfl _ _ (hrz _) ?_)
 all_goals (go_ret; exact ⟨rfl, rfl⟩)
end

section
open Go.Tr Go Go.Proofs.Tryz
set_option maxRecDepth 10000
theorem ql9 {P : Program} {tt : Tab} (hT : TTOK P tt) {t e ty : TypeId} {k : Nat} {x y : SV} {S : St} {K : SV → St → Prop} {a0 : Option Addr} {n0 c0 : Nat} {a : Option Addr} {m c : Nat} {ds es ds' : List D} (bytes j i : Nat) (ht : tt t = some (.slice e k)) (hel : elemB P e k bytes = true)
  (hx : x = .v (.slice a0 n0 c0)) (hacc : nth S.accs j = some ⟨.slice a0 n0 c0, k, e, ds⟩) (hy : y = .v (.slice a m c)) (hr : nth S.reps i = some (.slice a m c, .sl k es)) (hds : ds' = ds ++ es) (hroom : ds'.length ≤ c0) (hlen : ds'.length ≤ 1152921504606846976)
  (h : forceL (setNth S.accs j ⟨.slice a0 ds'.length c0, k, e, ds'⟩) (fun accs => K (.v (.slice a0 ds'.length c0)) ⟨S.own, accs, S.reps⟩)) : AtSem P (fun ℓ => Builtin.append_ #[t, t] ty (qd ℓ [x, y]).toArray) S K := by
 simp only [qu] at h
 subst hx hy hds
 simp only [List.length_append] at h hroom hlen
 constructor
 intro J ℓ w hG hJ
 obtain ⟨_, hu, hse⟩ := hT t _ ht
 obtain ⟨ti, z, hi, hik, hby, hz, hzk⟩ := qcz hel
 have ha : S.accs[j]? = some ⟨.slice a0 n0 c0, k, e, ds⟩ := by rw [← qab]; exact hacc
 have hok := (hG.accs _ (List.mem_of_getElem? ha)).two (fun _ _ _ e => by cases e)
 have hrep := hG.reps _ (List.mem_of_getElem? (by rw [← qab]; exact hr))
 simp only [Rep, RepC] at hrep
 obtain ⟨a', cap, heq, hle, hb⟩ := hrep
 simp only [List.cons.injEq, Value.slice.injEq, and_true] at heq
 obtain ⟨rfl, rfl, rfl⟩ := heq
 have hut : P.underlying t = some (.slice e) := hu
 have fin : ∀ w' a', a' = (⟨.slice a0 (ds.length + es.length) c0, k, e, ds ++ es⟩ : Acc) → (Builtin.append_ #[t, t] ty #[.slice a0 n0 c0, .slice a es.length c]).run P w = .ok (.slice a0 (ds.length + es.length) c0) w' → w'.os = w.os → w'.output = w.output → w.heap.size ≤ w'.heap.size → (∀ b, b < w.heap.size → b ∉ accBlk (.slice a0 n0 c0) → w'.heap[b]? = w.heap[b]?) → (accBlk (.slice a0 (ds.length + es.length) c0)).Nodup →
   (∀ b ∈ accBlk (.slice a0 (ds.length + es.length) c0), (b ∈ accBlk (.slice a0 n0 c0) ∨ w.heap.size ≤ b) ∧ b < w'.heap.size) → (∀ J', (∀ x, x < w.heap.size → Jx J (mutS ℓ S) x → J' x ∧ w'.heap[x]? = w.heap[x]?) → AccOK J' w' a') →
   ∃ r ℓ' S' w', (Builtin.append_ #[t, t] ty (qd ℓ [.v (.slice a0 n0 c0), .v (.slice a es.length c)]).toArray).run P w = .ok (r.den ℓ') w' ∧ r.wf S'.own.length = true ∧ ℓ <+: ℓ' ∧ Ext (mutS ℓ S) w w' ∧ Go.Tr.Good J ℓ' S' w' ∧ (∀ b ∈ mutS ℓ' S', b ∈ mutS ℓ S ∨ w.heap.size ≤ b) ∧ K r S' := by
  intro w' a' ea hrun h1 h2 h3 h4 h5 h6 h7
  subst ea
  obtain ⟨hG', hf⟩ := hG.regrow hJ ha h3 h4 h5 h6 h7
  refine ⟨.v (.slice a0 (ds.length + es.length) c0), ℓ, _, w', hrun, rfl, List.prefix_refl _, ⟨h1, h2, h3, fun b hb hm => h4 b hb (fun hb' => hm ?_)⟩, hG', hf, h⟩
  simp only [mutS]
  exact List.mem_append.2 (.inr (List.mem_flatMap.2 ⟨_, List.mem_of_getElem? ha, hb'⟩))
 by_cases hes : es = []
 ·subst hes
  rcases hok with ⟨hv, hd⟩ | ⟨b, cp, cc, hv, hbb, hcs, hl, hre⟩
  ·simp only at hv hd
   subst hd
   obtain ⟨rfl, rfl, rfl⟩ := Value.slice.inj hv
   refine fin w _ rfl ?_ rfl rfl (Nat.le_refl _) (fun _ _ _ => rfl) (by simp [accBlk]) (by simp [accBlk]) (fun J' _ => .inl ⟨rfl, rfl⟩)
   cases a with
   | none => simp [Builtin.append_, run_underlying hut, sizeOf, typeInfo, hi, Builtin.lenOf, run_firstCells_none]
   | some ad =>
    have hf := run_firstCells_some (P := P) w ti.size 0 ad 0 c [] (by simp) (by simp)
    simp [Builtin.append_, run_underlying hut, sizeOf, typeInfo, hi, Builtin.lenOf, hf]
  ·simp only at hv
   obtain ⟨rfl, rfl, rfl⟩ := Value.slice.inj hv
   refine fin w _ rfl ?_ rfl rfl (Nat.le_refl _) (fun _ _ _ => rfl) (by simp [accBlk]) (fun x hx => ⟨.inl hx, hG.lt x (by simp only [mutS]; exact List.mem_append.2 (.inr (List.mem_flatMap.2 ⟨_, List.mem_of_getElem? ha, hx⟩)))⟩) (fun J' hj => ?_)
   ·cases a with
    | none => simp [Builtin.append_, run_underlying hut, sizeOf, typeInfo, hi, Builtin.lenOf, run_firstCells_none, hl.1, storeCells]
    | some ad =>
     have hf := run_firstCells_some (P := P) w ti.size 0 ad 0 c [] (by simp) (by simp)
     simp [Builtin.append_, run_underlying hut, sizeOf, typeInfo, hi, Builtin.lenOf, hf, hl.1, storeCells]
   ·refine .row ⟨b, c0, cc, by simp, hbb, hcs, by simpa using hl, ?_⟩
    simp only [List.append_nil]
    exact RepE.map hj k _ _ hre
 ·obtain ⟨bb, off, bc, bT, fz, rfl, hbj, hbb, hbe⟩ := hb.resolve_left hes
  have hpos : 0 < es.length := List.length_pos_iff.2 hes
  let news := (bc.toList.drop off).take (es.length * k)
  have hnl : news.length = es.length * k := by
   have := hbe.len
   simp only [news, List.length_take]; omega
  have hnews : ∀ q u, news[q]? = some u → w.cell? ((⟨bb, off, none⟩ : Addr).add q) = some u := by
   intro q u hq
   simp only [news, List.getElem?_take, List.getElem?_drop] at hq
   split at hq
   ·rw [qbz]
    simp only [World.cell?, hbb]
    simpa using hq
   ·cases hq
  have hone : ∀ u ∈ news, u.oneCell' = true := RepE.one es _ hbe
  have hrn : ∀ {J' : Nat → Prop} {w' : World}, (∀ x, x < w.heap.size → Jx J (mutS ℓ S) x → J' x ∧ w'.heap[x]? = w.heap[x]?) → RepE J' w' k es news := by
   intro J' w' hj
   refine RepE.cut (RepE.map hj k es _ hbe) (Nat.le_of_eq hnl.symm) ?_
   simp only [news, List.take_take, Nat.min_self]
  rcases hok with ⟨hv, hd⟩ | ⟨b, cp, cc, hv, hgb, hcs, hl, hre⟩
  ·exfalso
   simp only at hv
   obtain ⟨rfl, rfl, rfl⟩ := Value.slice.inj hv
   omega
  ·simp only at hv hgb hcs hl hre
   obtain ⟨rfl, rfl, rfl⟩ := Value.slice.inj hv
   have hlen' : ((ds ++ es).length) = ds.length + es.length := by simp
   have hfit : ds.length * ti.size + news.length ≤ cc.size := by rw [hik, hnl, hcs, ← Nat.add_mul]; exact Nat.mul_le_mul_right _ hroom
   have hrun := run_append_room (P := P) w t ty e ti hut hi b ds.length c0 cc hgb ⟨bb, off, none⟩ es.length c news (by rw [hik]; exact hnl) hnews hone hroom hfit
   rw [hik] at hrun hfit
   refine fin _ _ rfl hrun rfl rfl (by simp) ?_ (by simp [accBlk]) ?_ ?_
   ·intro x hx hm
    exact setRow_other w b x _ (fun e => hm (by simp [accBlk, e]))
   ·intro x hx
    simp [accBlk] at hx
    subst hx
    exact ⟨.inl (by simp [accBlk]), by simpa using qag hgb⟩
   ·intro J' hj
    refine .row ⟨b, c0, _, by rw [hlen'], setRow_heap w b cc _ e _ hgb, ?_, by rw [hlen']; exact ⟨hroom, hlen⟩, ?_⟩
    ·simp only [List.size_toArray, List.length_append, List.length_take, List.length_drop, Array.length_toList]
     omega
    ·have h1 := RepE.map hj k ds _ hre
     have hdl := hre.len
     have h2 : RepE J' (w.setRow b (cc.toList.take (ds.length * k) ++ news ++ cc.toList.drop (ds.length * k + news.length)).toArray) k (ds ++ es) (cc.toList.take (ds.length * k) ++ news) := by
      have htl : (cc.toList.take (ds.length * k)).length = ds.length * k := by rw [List.length_take, Nat.min_eq_left hdl]
      exact RepE.append (RepE.cut h1 (Nat.le_of_eq htl.symm) (by rw [List.take_take, Nat.min_self])) htl (hrn hj)
     exact RepE.cut h2 (by simp [hnl, Nat.add_mul]; have := hdl; simp at this; omega) (by
      rw [List.append_assoc]
      rw [← List.append_assoc, List.take_append_of_le_length]
      simp [hnl, Nat.add_mul]; have := hdl; simp at this; omega)
end
end Go.Proofs.YthkgcfplebgolaaGreat
