/- Merged texts: G2. Conditions stand in each rule. -/
import Derived.Test.YtogicnodmgdnbaaGreatSH
set_option linter.unusedSimpArgs false
set_option linter.unusedVariables false

namespace Go.Proofs.YtogicnodmgdnbaaGreat
section
open Go.Tr Go Go.Proofs.Tryz
set_option maxRecDepth 10000
abbrev Md.gk (x : Md) (a : OA) (c : Nat) : SV := .agg [(iS x.family), (nU x.signs a c)]
abbrev Md.gv : GE Md → Value := fun (x, a, c) => .agg #[(.int .i64 x.family), (.slice a ((List.map (D.int .i64) x.signs).length) c)]
abbrev Md.gp (x : Md) : List D := (List.map (D.int .i64) x.signs)
def mode_of : Nat → Tm → (List (Int × Md)) → Option (Md × Bool)
 | 0, _, _ => none
 | n + 1, v1, v3 =>
  some (((mget v3 v1.n).getD (Md.mk 0 ([]))), (((((mget v3 v1.n).isSome) && (v1.op == 4)) && (v1.hd == 2)) && (((List.map (D.int .i64) (((mget v3 v1.n).getD (Md.mk 0 ([]))).signs)).length : Int) == ((Tm.encL v1.args).length : Int))))
theorem qbp (n : Nat) (v1 : Tm) (g4 : (List (Int × GE Md))) (a2 : OA) (c2 : Nat) (r : Md × Bool) (hr : mode_of n v1 (er g4) = some r) : Meets Tryz.prog (.val (.fn (.func 138) [] [])) [(.mp 0), (.agg [(iS v1.op), (iS v1.hd), (iS v1.n), (tU v1.args a2 c2)])] ⟨[.obj (mapO .i64 (encM Md.gv g4))], [], [(tQ v1.args a2 c2), (agV 1 Md.gp g4, agD 1 Md.gp g4)]⟩ (fun o S' => ∃ (b1 : OA) (d1 : Nat), o = .ret (.tup [(.agg [(iS r.1.family), (nU r.1.signs b1 d1)]), (bS r.2)]) ∧ S' = ⟨[.obj (mapO .i64 (encM Md.gv g4))], [], [(nQ r.1.signs b1 d1)]⟩) := by
 rcases n with _ | n
 ·exact qe hr
 rw [mode_of.eq_2] at hr
 refine qb (N := 36) (m := 1) (dt := drawsOf [(2, .node [0, 1, 2, 3, 4, 5, 6, 7, 8, 9, 10, 11, 12, 13, 14, 15, 16, 17, 18, 19, 20] [(21, .leaf [22])], [], [2])]) [] ttOK func138 rfl call138 ntmps138 rfl rfl rfl mixed (by kernel_rfl) ?_
 refine qh3 ttOK Md.gv Md.gk 1 Md.gp (Md.mk 0 ([])) _ 1 rfl underlying3 zeroValue31 rfl rfl (fun _ _ _ _ => rfl) (fun _ _ _ _ => rfl) rfl rfl rfl rfl ?_
 intro a5 c5
 refine ⟨fun _ _ h => h, ?_⟩
 replace hr := osi hr; subst hr
 exact AtRet.gen ⟨[.obj (mapO .i64 (encM Md.gv g4))], [], [(.slice a5 ((List.map (D.int .i64) (((mget (er g4) v1.n).getD (Md.mk 0 ([]))).signs)).length) c5, .sl 1 (List.map (D.int .i64) (((mget (er g4) v1.n).getD (Md.mk 0 ([]))).signs)))]⟩ (StLe.gen 1 [] [.old 2] rfl rfl rfl rfl rfl rfl rfl) rfl rfl ⟨a5, c5, rfl, rfl⟩
def sign_name : Nat → ByteArray → Option (Bool)
 | 0, _ => none
 | n + 1, v1 =>
  some (((isSmallF v1) && (!(v1.toList == (⟨#[116, 121, 112, 101]⟩ : ByteArray).toList))))
theorem qkc (n : Nat) (v1 : ByteArray)  (r : Bool) (hr : sign_name n v1 = some r) : Pure Tryz.prog (.val (.fn (.func 119) [] [])) [(sS v1)] [] (fun r' out => r' = (bS r) ∧ out = []) := by
 rcases n with _ | n
 ·exact qe hr
 rw [sign_name.eq_2] at hr
 refine qb (N := 9) (m := 0) (dt := fun _ => none) [] ttOK func119 rfl call119 ntmps119 rfl rfl rfl mixed (by kernel_rfl) ?_
 refine (qc7 v1).atR [] rfl rfl rfl ?_
 rintro _ _ ⟨rfl, rfl⟩
 replace hr := osi hr; subst hr
 exact qa [] [] rfl rfl ⟨rfl, rfl⟩
def term_Under : Nat → Tm → Int → Option (Int)
 | 0, _, _ => none
 | n + 1, v1, v3 =>
  cond ((v1.op == 3) || ((v1.op == 2) && (v3 == 1))) (
  some (1)) (
  some (0))
theorem qcq (n : Nat) (v1 : Tm) (v3 : Int) (a2 : OA) (c2 : Nat) (r : Int) (hr : term_Under n v1 v3 = some r) : Pure Tryz.prog (.val (.fn (.func 109) [] [])) [(.agg [(iS v1.op), (iS v1.hd), (iS v1.n), (tU v1.args a2 c2)]), (iS v3)] [(tQ v1.args a2 c2)] (fun r' out => r' = (iS r) ∧ out = []) := by
 rcases n with _ | n
 ·exact qe hr
 rw [term_Under.eq_2] at hr
 refine qb (N := 17) (m := 0) (dt := fun _ => none) [] ttOK func109 rfl call109 ntmps109 rfl rfl rfl mixed (by kernel_rfl) ?_
 refine AtIf.mk (fun h4 => ?_) (fun h4 => ?_)
 ·replace hr := qf h4 hr
  replace hr := osi hr; subst hr
  exact qa [] [] rfl rfl ⟨rfl, rfl⟩
 ·replace hr := qg h4 hr
  replace hr := osi hr; subst hr
  exact qa [] [] rfl rfl ⟨rfl, rfl⟩
def sign_formed_1 : Nat → Tm → Int → Bool → (List Dc) → Option (Bool)
 | 0, _, _, _, _ => none
 | n + 1, v1, v3, v4, v5 =>
  cond (v1.op != 4) (
  some (v4)) (
  some ((((v4 && (v1.hd != 3)) && ((v1.hd != 1) || (decide (v1.n < v3)))) && ((v1.hd != 2) || (decide (v1.n < ((Dc.encL v5).length : Int)))))))
theorem qfq (n : Nat) (v1 : Tm) (v3 : Int) (v4 : Bool) (v5 : (List Dc)) (a2 : OA) (c2 : Nat) (a6 : OA) (c6 : Nat) (r : Bool) (hr : sign_formed_1 n v1 v3 v4 v5 = some r) : Meets Tryz.prog (.val (.fn (.func 121) [] [(.loc 0 0), (.loc 1 0)])) [(.agg [(iS v1.op), (iS v1.hd), (iS v1.n), (tU v1.args a2 c2)]), (iS v3)] ⟨[.cells 4 [(bS v4)], .cells 22 [(.v (.slice a6 ((Dc.encL v5).length) c6))]], [], [(tQ v1.args a2 c2), (.slice a6 ((Dc.encL v5).length) c6, .sl 6 (Dc.encL v5))]⟩ (fun o S' => o = .ret (.tup []) ∧ S' = ⟨[.cells 4 [(bS r)], .cells 22 [(.v (.slice a6 ((Dc.encL v5).length) c6))]], [], []⟩) := by
 rcases n with _ | n
 ·exact qe hr
 rw [sign_formed_1.eq_2] at hr
 refine qb (N := 38) (m := 2) (dt := fun _ => none) [] ttOK func121 rfl call121 ntmps121 rfl rfl rfl mixed (by kernel_rfl) ?_
 refine AtIf.mk (fun h7 => ?_) (fun h7 => ?_)
 ·replace hr := qf h7 hr
  replace hr := osi hr; subst hr
  exact AtRet.gen ⟨[.cells 4 [(bS v4)], .cells 22 [(.v (.slice a6 ((Dc.encL v5).length) c6))]], [], []⟩ (StLe.gen 2 [] [] rfl rfl rfl rfl rfl rfl rfl) rfl rfl ⟨rfl, rfl⟩
 ·replace hr := qg h7 hr
  replace hr := osi hr; subst hr
  exact AtRet.gen ⟨[.cells 4 [(bS (((v4 && (v1.hd != 3)) && ((v1.hd != 1) || (decide (v1.n < v3)))) && ((v1.hd != 2) || (decide (v1.n < ((Dc.encL v5).length : Int))))))], .cells 22 [(.v (.slice a6 ((Dc.encL v5).length) c6))]], [], []⟩ (StLe.gen 2 [] [] rfl rfl rfl rfl rfl rfl rfl) rfl rfl ⟨rfl, rfl⟩
mutual
def term_Each_sign_formed_1 : Nat → Tm → Int → Bool → (List Dc) → Option (Bool)
 | 0, _, _, _, _ => none
 | n + 1, v1, v3, v4, v5 =>
  (sign_formed_1 n v1 v3 v4 v5).bind (fun v7 =>
  term_Each_sign_formed_1_L1 n v1 v3 v5 v7 0)
def term_Each_sign_formed_1_L1 : Nat → Tm → Int → (List Dc) → Bool → Int → Option (Bool)
 | 0, _, _, _, _, _ => none
 | n + 1, v1, v3, v5, v19, v20 =>
  cond (decide (v20 < ((Tm.encL v1.args).length : Int))) (
  (idx v1.args v20).bind (fun v22 =>
  (term_Under n v1 v20).bind (fun v27 =>
  (term_Each_sign_formed_1 n v22 (IntKind.i64.wrap (v3 + v27)) v19 v5).bind (fun v29 =>
  term_Each_sign_formed_1_L1 n v1 v3 v5 v29 (IntKind.i64.wrap (v20 + 1)))))) (
  some (v19))
 end
theorem qce : ∀ (N : Nat), (∀ (n : Nat), n ≤ N → ∀ (v1 : Tm) (v3 : Int) (v4 : Bool) (v5 : (List Dc)) (a2 : OA) (c2 : Nat) (a6 : OA) (c6 : Nat) (r : Bool), term_Each_sign_formed_1 n v1 v3 v4 v5 = some r → Meets Tryz.prog (.val (.fn (.func 120) [] [])) [(.agg [(iS v1.op), (iS v1.hd), (iS v1.n), (tU v1.args a2 c2)]), (iS v3), (.fn (.func 121) [] [(.loc 0 0), (.loc 1 0)])] ⟨[.cells 4 [(bS v4)], .cells 22 [(.v (.slice a6 ((Dc.encL v5).length) c6))]], [], [(tQ v1.args a2 c2), (.slice a6 ((Dc.encL v5).length) c6, .sl 6 (Dc.encL v5))]⟩ (fun o S' => o = .ret (.tup []) ∧ S' = ⟨[.cells 4 [(bS r)], .cells 22 [(.v (.slice a6 ((Dc.encL v5).length) c6))]], [], []⟩)) := by
 intro N
 induction N with
 | zero =>
  intro n hn v1 v3 v4 v5 a2 c2 a6 c6 r hr; obtain rfl : n = 0 := (by omega); exact qe hr
 | succ N ih =>
  intro n hn v1 v3 v4 v5 a2 c2 a6 c6 r hr
  rcases n with _ | n
  ·exact qe hr
  replace hn : n ≤ N := by omega
  rw [term_Each_sign_formed_1.eq_2] at hr
  refine qb (N := 29) (m := 2) (dt := drawsOf [(5, .node [0, 1, 2, 3, 6] [(4, .node [5] [(7, .leaf [])])], [7], [])]) [] ttOK func120 rfl call120 ntmps120 rfl rfl rfl mixed (by kernel_rfl) ?_
  obtain ⟨v7, h8, hr⟩ := bind_some hr
  refine (qfq n v1 v3 v4 v5 a2 c2 a6 c6 _ h8).frameR [0, 1] [0, 1] rfl rfl rfl rfl rfl rfl rfl rfl ?_
  rintro _ _ ⟨rfl, rfl⟩
  refine ⟨rfl, rfl, [.cells 4 [(bS v7)], .cells 22 [(.v (.slice a6 ((Dc.encL v5).length) c6))]], rfl, ?_⟩
  refine AtLoop.mk ⟨Nat × Bool × Int, fun x => [(1, (iS v3)), (2, (.fn (.func 121) [] [(.loc 0 0), (.loc 1 0)])), (3, (.loc 2 0)), (13, (tU v1.args a2 c2)), (14, (iS ((Tm.encL v1.args).length : Int))), (15, (iS x.2.2))], fun x => ⟨[.cells 4 [(bS x.2.1)], .cells 22 [(.v (.slice a6 ((Dc.encL v5).length) c6))], .cells 47 [(iS v1.op), (iS v1.hd), (iS v1.n), (tU v1.args a2 c2)]], [], [(tQ v1.args a2 c2), (.slice a6 ((Dc.encL v5).length) c6, .sl 6 (Dc.encL v5))]⟩, fun x => x.1 ≤ N ∧ term_Each_sign_formed_1_L1 x.1 v1 v3 v5 x.2.1 x.2.2 = some r, fun x => x.1, (n, v7, 0), ⟨by omega, hr⟩, ⟨rfl, rfl, rfl, rfl, rfl, rfl, trivial⟩, (StLe.gen 3 [] [.old 0, .old 1] rfl rfl rfl rfl rfl rfl rfl), fun x _ => ⟨rfl, rfl⟩, ?_⟩
  rintro ⟨n, v19, v20⟩ HH
  obtain ⟨hn, hr⟩ : n ≤ N ∧ term_Each_sign_formed_1_L1 n v1 v3 v5 v19 v20 = some r := HH
  rcases n with _ | n
  ·exact qe hr
  rw [term_Each_sign_formed_1_L1.eq_2] at hr
  refine AtIf.mk (fun h21 => ?_) (fun h21 => ?_)
  ·replace hr := qf h21 hr
   obtain ⟨v22, h23, hr⟩ := bind_some hr
   obtain ⟨h24, h25⟩ := qi h23
   refine qd ttOK 0 rfl rfl rfl rfl h24 (Tm.encL_get h25) ?_
   intro a26 c26 _ _
   obtain ⟨v27, h28, hr⟩ := bind_some hr
   refine (qcq n v1 v20 a2 c2 _ h28).atR [0] rfl rfl rfl ?_
   rintro _ _ ⟨rfl, rfl⟩
   refine ⟨fun _ _ h => h, ?_⟩
   obtain ⟨v29, h30, hr⟩ := bind_some hr
   refine (ih n (by omega) v22 (IntKind.i64.wrap (v3 + v27)) v19 v5 a26 c26 a6 c6 _ h30).frameR [0, 1] [2, 1] rfl rfl rfl rfl rfl rfl rfl rfl ?_
   rintro _ _ ⟨rfl, rfl⟩
   refine ⟨rfl, rfl, [.cells 4 [(bS v29)], .cells 22 [(.v (.slice a6 ((Dc.encL v5).length) c6))]], rfl, ?_⟩
   exact ⟨(n, v29, (IntKind.i64.wrap (v20 + 1))), ⟨by omega, hr⟩, Nat.lt_succ_self _, ⟨rfl, rfl, rfl, rfl, rfl, rfl, trivial⟩, (StLe.gen 3 [] [.old 0, .old 1] rfl rfl rfl rfl rfl rfl rfl)⟩
  ·replace hr := qg h21 hr
   replace hr := osi hr; subst hr
   exact AtRet.gen ⟨[.cells 4 [(bS v19)], .cells 22 [(.v (.slice a6 ((Dc.encL v5).length) c6))]], [], []⟩ (StLe.gen 2 [] [] rfl rfl rfl rfl rfl rfl rfl) rfl rfl ⟨rfl, rfl⟩
theorem qcj (n : Nat) (v1 : Tm) (v3 : Int) (v4 : Bool) (v5 : (List Dc)) (a2 : OA) (c2 : Nat) (a6 : OA) (c6 : Nat) (r : Bool) (hr : term_Each_sign_formed_1 n v1 v3 v4 v5 = some r) : Meets Tryz.prog (.val (.fn (.func 120) [] [])) [(.agg [(iS v1.op), (iS v1.hd), (iS v1.n), (tU v1.args a2 c2)]), (iS v3), (.fn (.func 121) [] [(.loc 0 0), (.loc 1 0)])] ⟨[.cells 4 [(bS v4)], .cells 22 [(.v (.slice a6 ((Dc.encL v5).length) c6))]], [], [(tQ v1.args a2 c2), (.slice a6 ((Dc.encL v5).length) c6, .sl 6 (Dc.encL v5))]⟩ (fun o S' => o = .ret (.tup []) ∧ S' = ⟨[.cells 4 [(bS r)], .cells 22 [(.v (.slice a6 ((Dc.encL v5).length) c6))]], [], []⟩) := (qce n) n (Nat.le_refl _) v1 v3 v4 v5 a2 c2 a6 c6 r hr
mutual
def term_Domains : Nat → Tm → Option ((List Tm) × Tm)
 | 0, _ => none
 | n + 1, v1 =>
  term_Domains_L1 n v1 ([])
def term_Domains_L1 : Nat → Tm → (List Tm) → Option ((List Tm) × Tm)
 | 0, _, _ => none
 | n + 1, v17, v19 =>
  cond (v17.op == 2) (
  (idx v17.args 0).bind (fun v22 =>
  cond (decide ((Tm.encL (v19 ++ [v22])).length ≤ 1000000)) (
  (idx v17.args 1).bind (fun v30 =>
  term_Domains_L1 n v30 (v19 ++ [v22]))) none)) (
  some (v19, v17))
 end
theorem qay (n : Nat) (v1 : Tm) (a2 : OA) (c2 : Nat) (r : (List Tm) × Tm) (hr : term_Domains n v1 = some r) : Pure Tryz.prog (.val (.fn (.func 36) [] [])) [(.agg [(iS v1.op), (iS v1.hd), (iS v1.n), (tU v1.args a2 c2)])] [(tQ v1.args a2 c2)] (fun r' out => ∃ (b1 : OA) (d1 : Nat), ∃ (b2 : OA) (d2 : Nat), r' = (.tup [(tU r.1 b1 d1), (.agg [(iS r.2.op), (iS r.2.hd), (iS r.2.n), (tU r.2.args b2 d2)])]) ∧ out = [(tQ r.1 b1 d1), (tQ r.2.args b2 d2)]) := by
 rcases n with _ | n
 ·exact qe hr
 rw [term_Domains.eq_2] at hr
 refine qb (N := 21) (m := 0) (dt := drawsOf [(5, .node [0, 1, 2] [(3, .leaf [])], [3], [])]) [] ttOK func36 rfl call36 ntmps36 rfl rfl rfl mixed (by kernel_rfl) ?_
 refine AtLoop.mk ⟨Nat × Tm × Option Addr × Nat × (List Tm) × Option Addr × Nat, fun x => [(1, (.loc 0 0)), (3, (.loc 1 0)), (4, (tU x.2.2.2.2.1 x.2.2.2.2.2.1 x.2.2.2.2.2.2))], fun x => ⟨[.cells 47 [(iS x.2.1.op), (iS x.2.1.hd), (iS x.2.1.n), (tU x.2.1.args x.2.2.1 x.2.2.2.1)], .cells 47 [(iS 0), (iS 0), (iS 0), (.v (.slice none 0 0))]], [⟨.slice x.2.2.2.2.2.1 ((Tm.encL x.2.2.2.2.1).length) x.2.2.2.2.2.2, 4, 47, (Tm.encL x.2.2.2.2.1)⟩], [(tQ x.2.1.args x.2.2.1 x.2.2.2.1), (tQ v1.args a2 c2)]⟩, fun x => term_Domains_L1 x.1 x.2.1 x.2.2.2.2.1 = some r, fun x => x.1, (n, v1, a2, c2, [], none, 0), hr, ⟨rfl, rfl, rfl, trivial⟩, (StLe.gen 2 [.nil 4 47] [.old 0, .old 0] rfl rfl rfl rfl rfl rfl rfl), fun x _ => ⟨rfl, rfl⟩, ?_⟩
 rintro ⟨n, v17, a18, c18, v19, a20, c20⟩ HH
 have hr : term_Domains_L1 n v17 v19 = some r := HH
 rcases n with _ | n
 ·exact qe hr
 rw [term_Domains_L1.eq_2] at hr
 refine AtIf.mk (fun h21 => ?_) (fun h21 => ?_)
 ·replace hr := qf h21 hr
  obtain ⟨v22, h23, hr⟩ := bind_some hr
  obtain ⟨h24, h25⟩ := qi h23
  refine qd ttOK 0 rfl rfl rfl rfl h24 (Tm.encL_get h25) ?_
  intro a26 c26 _ _
  refine ql (n := 1) ttOK 48 [.agg [.int .i64 v22.op, .int .i64 v22.hd, .int .i64 v22.n, .sl 4 (Tm.encL v22.args)]] (ds' := (Tm.encL ([v22]))) rfl (by kernel_rfl) ⟨⟨rfl, rfl, rfl, ⟨[(iS v22.op)], _, rfl, rfl, ⟨[(iS v22.hd)], _, rfl, rfl, ⟨[(iS v22.n)], _, rfl, rfl, ⟨[(tU v22.args a26 c26)], _, rfl, (.inl ⟨_, rfl, qr (j := 2) rfl⟩), rfl⟩⟩⟩⟩⟩, trivial⟩ rfl (by simp only [Tm.encL_eq, List.map_cons, List.map_nil, Tm.enc_eq] <;> rfl) (by decide) (by decide) ?_
  intro a27
  obtain ⟨h28, hr⟩ := qm hr
  refine qu (ds' := (Tm.encL (v19 ++ [v22]))) ttOK 48 0 3 rfl (by kernel_rfl) rfl rfl rfl rfl (by simp only [Tm.encL_eq, List.map_append]) h28 (by decide) ?_
  intro a29 c29
  obtain ⟨v30, h31, hr⟩ := bind_some hr
  obtain ⟨h32, h33⟩ := qi h31
  refine qd ttOK 0 rfl rfl rfl rfl h32 (Tm.encL_get h33) ?_
  intro a34 c34 _ _
  exact ⟨(n, v30, a34, c34, (v19 ++ [v22]), a29, c29), hr, Nat.lt_succ_self _, ⟨rfl, rfl, rfl, trivial⟩, (StLe.gen 2 [.old 0] [.old 4, .old 1] rfl rfl rfl rfl rfl rfl rfl)⟩
 ·replace hr := qg h21 hr
  replace hr := osi hr; subst hr
  exact qa [.froz 0, .old 0] [(tQ v19 a20 c20), (tQ v17.args a18 c18)] rfl rfl ⟨a20, c20, a18, c18, rfl, rfl⟩
def sign_target : Nat → Tm → Option (Int × Bool)
 | 0, _ => none
 | n + 1, v1 =>
  (term_Domains n v1).bind (fun v3 =>
  some (v3.2.n, ((v3.2.op == 4) && (v3.2.hd == 2))))
theorem qhg (n : Nat) (v1 : Tm) (a2 : OA) (c2 : Nat) (r : Int × Bool) (hr : sign_target n v1 = some r) : Pure Tryz.prog (.val (.fn (.func 122) [] [])) [(.agg [(iS v1.op), (iS v1.hd), (iS v1.n), (tU v1.args a2 c2)])] [(tQ v1.args a2 c2)] (fun r' out => r' = (.tup [(iS r.1), (bS r.2)]) ∧ out = []) := by
 rcases n with _ | n
 ·exact qe hr
 rw [sign_target.eq_2] at hr
 refine qb (N := 21) (m := 0) (dt := drawsOf [(2, .leaf [0, 1, 2, 3, 4, 5, 6, 7, 8, 9, 10, 11], [], [])]) [] ttOK func122 rfl call122 ntmps122 rfl rfl rfl mixed (by kernel_rfl) ?_
 obtain ⟨v3, h4, hr⟩ := bind_some hr
 refine (qay n v1 a2 c2 _ h4).atR [0] rfl rfl rfl ?_
 rintro _ _ ⟨a5, c5, a6, c6, rfl, rfl⟩
 replace hr := osi hr; subst hr
 exact qa [] [] rfl rfl ⟨rfl, rfl⟩
def sign_kind : Nat → Tm → Option (Bool)
 | 0, _ => none
 | n + 1, v1 =>
  (term_Domains n v1).bind (fun v3 =>
  some ((v3.2.op == 1)))
theorem qc9 (n : Nat) (v1 : Tm) (a2 : OA) (c2 : Nat) (r : Bool) (hr : sign_kind n v1 = some r) : Pure Tryz.prog (.val (.fn (.func 82) [] [])) [(.agg [(iS v1.op), (iS v1.hd), (iS v1.n), (tU v1.args a2 c2)])] [(tQ v1.args a2 c2)] (fun r' out => r' = (bS r) ∧ out = []) := by
 rcases n with _ | n
 ·exact qe hr
 rw [sign_kind.eq_2] at hr
 refine qb (N := 13) (m := 0) (dt := fun _ => none) [] ttOK func82 rfl call82 ntmps82 rfl rfl rfl mixed (by kernel_rfl) ?_
 obtain ⟨v3, h4, hr⟩ := bind_some hr
 refine (qay n v1 a2 c2 _ h4).atR [0] rfl rfl rfl ?_
 rintro _ _ ⟨a5, c5, a6, c6, rfl, rfl⟩
 replace hr := osi hr; subst hr
 exact qa [] [] rfl rfl ⟨rfl, rfl⟩
def sign_formed : Nat → (List Dc) → Dc → Option (Bool)
 | 0, _, _ => none
 | n + 1, v1, v3 =>
  cond ((if isProper v3.cls then (0 : Int) else 2) != 0) (
  some (false)) (
  (sign_name n v3.name).bind (fun v6 =>
  cond ((!v6) || (decide (v3.implicit < 0))) (
  some (false)) (
  (term_Domains n v3.cls).bind (fun v9 =>
  (term_Each_sign_formed_1 n v3.cls 0 (decide (v3.implicit ≤ ((Tm.encL v9.1).length : Int))) v1).bind (fun v13 =>
  (sign_kind n v3.cls).bind (fun v15 =>
  cond v15 (
  some (v13)) (
  (sign_target n v3.cls).bind (fun v18 =>
  cond (v13 && v18.2) (
  (idx v1 v18.1).bind (fun v21 =>
  (sign_kind n v21.cls).bind (fun v26 =>
  some (v26)))) (
  some (false))))))))))
theorem qhh (n : Nat) (v1 : (List Dc)) (v3 : Dc) (a2 : OA) (c2 : Nat) (a4 : OA) (c4 : Nat) (r : Bool) (hr : sign_formed n v1 v3 = some r) : Pure Tryz.prog (.val (.fn (.func 77) [] [])) [(.v (.slice a2 ((Dc.encL v1).length) c2)), (.agg [(sS v3.name), (iS v3.cls.op), (iS v3.cls.hd), (iS v3.cls.n), (tU v3.cls.args a4 c4), (iS v3.implicit)])] [(.slice a2 ((Dc.encL v1).length) c2, .sl 6 (Dc.encL v1)), (tQ v3.cls.args a4 c4)] (fun r' out => r' = (bS r) ∧ out = []) := by
 rcases n with _ | n
 ·exact qe hr
 rw [sign_formed.eq_2] at hr
 refine qb (N := 62) (m := 0) (dt := fun _ => none) [] ttOK func77 rfl call77 ntmps77 rfl rfl rfl mixed (by kernel_rfl) ?_
 refine (qgl v3.cls a4 c4).atR [1] rfl rfl rfl ?_
 rintro _ _ ⟨rfl, rfl⟩
 refine AtGuard.mk (fun h5 => ?_) (fun h5 => ?_)
 ·replace hr := qg h5 hr
  obtain ⟨v6, h7, hr⟩ := bind_some hr
  refine (qkc n v3.name _ h7).atR [] rfl rfl rfl ?_
  rintro _ _ ⟨rfl, rfl⟩
  refine AtIf.mk (fun h8 => ?_) (fun h8 => ?_)
  ·replace hr := qf h8 hr
   replace hr := osi hr; subst hr
   exact qa [] [] rfl rfl ⟨rfl, rfl⟩
  ·replace hr := qg h8 hr
   obtain ⟨v9, h10, hr⟩ := bind_some hr
   refine (qay n v3.cls a4 c4 _ h10).atR [1] rfl rfl rfl ?_
   rintro _ _ ⟨a11, c11, a12, c12, rfl, rfl⟩
   obtain ⟨v13, h14, hr⟩ := bind_some hr
   refine (qcj n v3.cls 0 (decide (v3.implicit ≤ ((Tm.encL v9.1).length : Int))) v1 a4 c4 a2 c2 _ h14).frameR [3, 0] [1, 0] rfl rfl rfl rfl rfl rfl rfl rfl ?_
   rintro _ _ ⟨rfl, rfl⟩
   refine ⟨rfl, rfl, [.cells 4 [(bS v13)], .cells 22 [(.v (.slice a2 ((Dc.encL v1).length) c2))]], rfl, ?_⟩
   obtain ⟨v15, h16, hr⟩ := bind_some hr
   refine (qc9 n v3.cls a4 c4 _ h16).atR [1] rfl rfl rfl ?_
   rintro _ _ ⟨rfl, rfl⟩
   refine AtIf.mk (fun h17 => ?_) (fun h17 => ?_)
   ·replace hr := qf h17 hr
    replace hr := osi hr; subst hr
    exact qa [] [] rfl rfl ⟨rfl, rfl⟩
   ·replace hr := qg h17 hr
    obtain ⟨v18, h19, hr⟩ := bind_some hr
    refine (qhg n v3.cls a4 c4 _ h19).atR [1] rfl rfl rfl ?_
    rintro _ _ ⟨rfl, rfl⟩
    refine AtGuard.mk (fun h20 => ?_) (fun h20 => ?_)
    ·replace hr := qf h20 hr
     obtain ⟨v21, h22, hr⟩ := bind_some hr
     obtain ⟨h23, h24⟩ := qi h22
     refine qd ttOK 0 rfl rfl rfl rfl h23 (Dc.encL_get h24) ?_
     intro a25 c25 _ _
     obtain ⟨v26, h27, hr⟩ := bind_some hr
     refine (qc9 n v21.cls a25 c25 _ h27).atR [4] rfl rfl rfl ?_
     rintro _ _ ⟨rfl, rfl⟩
     replace hr := osi hr; subst hr
     exact qa [] [] rfl rfl ⟨rfl, rfl⟩
    ·replace hr := qg h20 hr
     replace hr := osi hr; subst hr
     exact qa [] [] rfl rfl ⟨rfl, rfl⟩
 ·replace hr := qf h5 hr
  refine AtIf.mk (fun _ => ?_) (fun h => tf h)
  replace hr := osi hr; subst hr
  exact qa [] [] rfl rfl ⟨rfl, rfl⟩
mutual
def sign_Check : Nat → (List Dc) → Option (Int)
 | 0, _ => none
 | n + 1, v1 =>
  cond (decide (((Dc.encL v1).length : Int) > 100)) (
  some (2)) (
  sign_Check_L1 n v1 ([]) 0)
def sign_Check_L1 : Nat → (List Dc) → (List (ByteArray × Bool)) → Int → Option (Int)
 | 0, _, _, _ => none
 | n + 1, v1, v16, v17 =>
  cond (decide (v17 < ((Dc.encL v1).length : Int))) (
  (idx v1 v17).bind (fun v19 =>
  cond (decide ((0 : Int) ≤ (0 : Int) ∧ (0 : Int) ≤ v17 ∧ v17 ≤ ((Dc.encL v1).length : Int))) (
  cond ((mget v16 v19.name).getD false) (
  some (2)) (
  (sign_formed n (v1.take v17.toNat) v19).bind (fun v27 =>
  cond (!v27) (
  some (2)) (
  sign_Check_L1 n v1 (mput v19.name true v16) (IntKind.i64.wrap (v17 + 1)))))) none)) (
  some (0))
 end
theorem qcx (n : Nat) (v1 : (List Dc)) (a2 : OA) (c2 : Nat) (r : Int) (hr : sign_Check n v1 = some r) : Pure Tryz.prog (.val (.fn (.func 31) [] [])) [(.v (.slice a2 ((Dc.encL v1).length) c2))] [(.slice a2 ((Dc.encL v1).length) c2, .sl 6 (Dc.encL v1))] (fun r' out => r' = (iS r) ∧ out = []) := by
 rcases n with _ | n
 ·exact qe hr
 rw [sign_Check.eq_2] at hr
 refine qb (N := 27) (m := 0) (dt := fun _ => none) [] ttOK func31 rfl call31 ntmps31 rfl rfl rfl mixed (by kernel_rfl) ?_
 refine AtIf.mk (fun h3 => ?_) (fun h3 => ?_)
 ·replace hr := qf h3 hr
  replace hr := osi hr; subst hr
  exact qa [] [] rfl rfl ⟨rfl, rfl⟩
 ·replace hr := qg h3 hr
  refine qih ?_
  refine qb (N := 4) (m := 3) (dt := fun _ => none) [] ttOK func76 rfl call76 ntmps76 rfl rfl rfl mixed (by kernel_rfl) ?_
  refine AtRet.gen _ (StLe.refl _) rfl rfl ?_
  refine AtRange.mk ⟨[(2, (.loc 0 0)), (3, (.loc 2 0))], ⟨rfl, rfl, trivial⟩, rfl, rfl, ⟨_, _, _, rfl, call118⟩, ?_⟩
  refine qb (N := 20) (m := 5) (dt := drawsOf [(3, .node [0, 1, 2, 3, 4] [(5, .leaf [6])], [5], [])]) [] ttOK func118 rfl call118 ntmps118 rfl rfl rfl mixed (by kernel_rfl) ?_
  refine AtLoop.mk ⟨Nat × (List (ByteArray × Bool)) × Int, fun x => [(0, (.yld 4)), (1, (.loc 3 0)), (5, (.v (.slice a2 ((Dc.encL v1).length) c2))), (6, (iS ((Dc.encL v1).length : Int))), (7, (iS x.2.2))], fun x => ⟨[.cells 32 [(iS 0)], .obj (mapS (encM Value.bool x.2.1)), .cells 120 [(.mp 1)], .cells 22 [(.v (.slice a2 ((Dc.encL v1).length) c2))], .lp ⟨27, [(2, (.loc 0 0)), (3, (.loc 2 0))], #[12, 13], rfAs Tryz.f31, rfBody Tryz.f31, .ready, none, exF Tryz.prog⟩], [], [(.slice a2 ((Dc.encL v1).length) c2, .sl 6 (Dc.encL v1))]⟩, fun x => sign_Check_L1 x.1 v1 x.2.1 x.2.2 = some r, fun x => x.1, (n, [], 0), hr, ⟨rfl, rfl, rfl, rfl, rfl, trivial⟩, (StLe.gen 5 [] [.old 0] rfl rfl rfl rfl rfl rfl rfl), fun x _ => ⟨rfl, rfl⟩, ?_⟩
  rintro ⟨n, v16, v17⟩ HH
  have hr : sign_Check_L1 n v1 v16 v17 = some r := HH
  rcases n with _ | n
  ·exact qe hr
  rw [sign_Check_L1.eq_2] at hr
  refine AtIf.mk (fun h18 => ?_) (fun h18 => ?_)
  ·replace hr := qf h18 hr
   obtain ⟨v19, h20, hr⟩ := bind_some hr
   obtain ⟨h21, h22⟩ := qi h20
   refine qd ttOK 0 rfl rfl rfl rfl h21 (Dc.encL_get h22) ?_
   intro a23 c23 _ _
   obtain ⟨h24, hr⟩ := qm hr
   refine qb7 ttOK 0 0 v17 (ds' := (Dc.encL (v1.take v17.toNat))) rfl rfl rfl (.inr ⟨rfl, rfl⟩) (.inl ⟨_, rfl⟩) h24 (by simp only [Dc.encL_eq]; exact sl_h ..) ?_
   intro a25 c25
   refine qcm (N := 27) (m := 7) (dt := fun _ => none) [] ttOK rfl rfl rfl rfl rfl rfl mixed (by kernel_rfl) (by kernel_rfl) ?_
   refine qi3 ttOK Value.bool false rfl underlying9 rfl rfl rfl rfl ?_
   refine AtGuard.mk (fun h26 => ?_) (fun h26 => ?_)
   ·replace hr := qg h26 hr
    obtain ⟨v27, h28, hr⟩ := bind_some hr
    refine (qhh n (v1.take v17.toNat) v19 a25 c25 a23 c23 _ h28).atR [2, 1] rfl rfl rfl ?_
    rintro _ _ ⟨rfl, rfl⟩
    refine AtIf.mk (fun h29 => ?_) (fun h29 => ?_)
    ·replace hr := qf h29 hr
     refine AtRet.gen _ (StLe.refl _) rfl rfl ?_
     refine AtIf.mk (fun _ => ?_) (fun h => tf h)
     refine AtRet.gen _ (StLe.refl _) rfl rfl ?_
     replace hr := osi hr; subst hr
     exact qa [] [] rfl rfl ⟨rfl, rfl⟩
    ·replace hr := qg h29 hr
     refine qes (l := encM Value.bool v16) ttOK (.bool true) rfl underlying9 rfl rfl rfl (fun _ => rfl) ?_
     rw [qgf Value.bool v19.name true v16]
     refine AtRet.gen _ (StLe.refl _) rfl rfl ?_
     refine AtIf.mk (fun h => ff h) (fun _ => ?_)
     exact ⟨(n, (mput v19.name true v16), (IntKind.i64.wrap (v17 + 1))), hr, Nat.lt_succ_self _, ⟨rfl, rfl, rfl, rfl, rfl, trivial⟩, (StLe.gen 5 [] [.old 0] rfl rfl rfl rfl rfl rfl rfl)⟩
   ·replace hr := qf h26 hr
    refine AtIf.mk (fun _ => ?_) (fun h => tf h)
    refine AtRet.gen _ (StLe.refl _) rfl rfl ?_
    refine AtIf.mk (fun _ => ?_) (fun h => tf h)
    refine AtRet.gen _ (StLe.refl _) rfl rfl ?_
    replace hr := osi hr; subst hr
    exact qa [] [] rfl rfl ⟨rfl, rfl⟩
  ·replace hr := qg h18 hr
   refine AtRet.gen _ (StLe.refl _) rfl rfl ?_
   replace hr := osi hr; subst hr
   exact qa [] [] rfl rfl ⟨rfl, rfl⟩
mutual
def sign_Find : Nat → (List Dc) → ByteArray → Option (Int × Int)
 | 0, _, _ => none
 | n + 1, v1, v3 =>
  (sign_Check n v1).bind (fun v4 =>
  cond (v4 != 0) (
  some (0, v4)) (
  sign_Find_L1 n v1 v3 0))
def sign_Find_L1 : Nat → (List Dc) → ByteArray → Int → Option (Int × Int)
 | 0, _, _, _ => none
 | n + 1, v1, v3, v14 =>
  cond (decide (v14 < ((Dc.encL v1).length : Int))) (
  (idx v1 v14).bind (fun v16 =>
  cond (v16.name.toList == v3.toList) (
  some (v14, 0)) (
  sign_Find_L1 n v1 v3 (IntKind.i64.wrap (v14 + 1))))) (
  some (0, 6))
 end
theorem qj1 (n : Nat) (v1 : (List Dc)) (v3 : ByteArray) (a2 : OA) (c2 : Nat) (r : Int × Int) (hr : sign_Find n v1 v3 = some r) : Pure Tryz.prog (.val (.fn (.func 34) [] [])) [(.v (.slice a2 ((Dc.encL v1).length) c2)), (sS v3)] [(.slice a2 ((Dc.encL v1).length) c2, .sl 6 (Dc.encL v1))] (fun r' out => r' = (.tup [(iS r.1), (iS r.2)]) ∧ out = []) := by
 rcases n with _ | n
 ·exact qe hr
 rw [sign_Find.eq_2] at hr
 refine qb (N := 27) (m := 0) (dt := fun _ => none) [] ttOK func34 rfl call34 ntmps34 rfl rfl rfl mixed (by kernel_rfl) ?_
 obtain ⟨v4, h5, hr⟩ := bind_some hr
 refine (qcx n v1 a2 c2 _ h5).atR [0] rfl rfl rfl ?_
 rintro _ _ ⟨rfl, rfl⟩
 refine AtIf.mk (fun h6 => ?_) (fun h6 => ?_)
 ·replace hr := qf h6 hr
  replace hr := osi hr; subst hr
  exact qa [] [] rfl rfl ⟨rfl, rfl⟩
 ·replace hr := qg h6 hr
  refine AtLoop.mk ⟨Nat × Int, fun x => [(1, (sS v3)), (14, (.v (.slice a2 ((Dc.encL v1).length) c2))), (15, (iS ((Dc.encL v1).length : Int))), (16, (iS x.2))], fun x => ⟨[], [], [(.slice a2 ((Dc.encL v1).length) c2, .sl 6 (Dc.encL v1))]⟩, fun x => sign_Find_L1 x.1 v1 v3 x.2 = some r, fun x => x.1, (n, 0), hr, ⟨rfl, rfl, rfl, rfl, trivial⟩, (StLe.gen 0 [] [.old 0] rfl rfl rfl rfl rfl rfl rfl), fun x _ => ⟨rfl, rfl⟩, ?_⟩
  rintro ⟨n, v14⟩ HH
  have hr : sign_Find_L1 n v1 v3 v14 = some r := HH
  rcases n with _ | n
  ·exact qe hr
  rw [sign_Find_L1.eq_2] at hr
  refine AtIf.mk (fun h15 => ?_) (fun h15 => ?_)
  ·replace hr := qf h15 hr
   obtain ⟨v16, h17, hr⟩ := bind_some hr
   obtain ⟨h18, h19⟩ := qi h17
   refine qd ttOK 0 rfl rfl rfl rfl h18 (Dc.encL_get h19) ?_
   intro a20 c20 _ _
   refine AtIf.mk (fun h21 => ?_) (fun h21 => ?_)
   ·replace hr := qf h21 hr
    replace hr := osi hr; subst hr
    exact qa [] [] rfl rfl ⟨rfl, rfl⟩
   ·replace hr := qg h21 hr
    exact ⟨(n, (IntKind.i64.wrap (v14 + 1))), hr, Nat.lt_succ_self _, ⟨rfl, rfl, rfl, rfl, trivial⟩, (StLe.gen 0 [] [.old 0] rfl rfl rfl rfl rfl rfl rfl)⟩
  ·replace hr := qg h15 hr
   replace hr := osi hr; subst hr
   exact qa [] [] rfl rfl ⟨rfl, rfl⟩
def sign_Family : Nat → (List Dc) → Int → Option (Bool)
 | 0, _, _ => none
 | n + 1, v1, v3 =>
  (idx v1 v3).bind (fun v4 =>
  (sign_kind n v4.cls).bind (fun v9 =>
  some (v9)))
theorem qcd (n : Nat) (v1 : (List Dc)) (v3 : Int) (a2 : OA) (c2 : Nat) (r : Bool) (hr : sign_Family n v1 v3 = some r) : Pure Tryz.prog (.val (.fn (.func 35) [] [])) [(.v (.slice a2 ((Dc.encL v1).length) c2)), (iS v3)] [(.slice a2 ((Dc.encL v1).length) c2, .sl 6 (Dc.encL v1))] (fun r' out => r' = (bS r) ∧ out = []) := by
 rcases n with _ | n
 ·exact qe hr
 rw [sign_Family.eq_2] at hr
 refine qb (N := 11) (m := 0) (dt := fun _ => none) [] ttOK func35 rfl call35 ntmps35 rfl rfl rfl mixed (by kernel_rfl) ?_
 obtain ⟨v4, h5, hr⟩ := bind_some hr
 obtain ⟨h6, h7⟩ := qi h5
 refine qd ttOK 0 rfl rfl rfl rfl h6 (Dc.encL_get h7) ?_
 intro a8 c8 _ _
 obtain ⟨v9, h10, hr⟩ := bind_some hr
 refine (qc9 n v4.cls a8 c8 _ h10).atR [1] rfl rfl rfl ?_
 rintro _ _ ⟨rfl, rfl⟩
 replace hr := osi hr; subst hr
 exact qa [] [] rfl rfl ⟨rfl, rfl⟩
mutual
def slices_Index : Nat → (List Int) → Int → Option (Int)
 | 0, _, _ => none
 | n + 1, v1, v3 =>
  slices_Index_L1 n v1 v3 0
def slices_Index_L1 : Nat → (List Int) → Int → Int → Option (Int)
 | 0, _, _, _ => none
 | n + 1, v1, v3, v10 =>
  cond (decide (v10 < ((List.map (D.int .i64) v1).length : Int))) (
  (idx v1 v10).bind (fun v12 =>
  cond (v3 == v12) (
  some (v10)) (
  slices_Index_L1 n v1 v3 (IntKind.i64.wrap (v10 + 1))))) (
  some ((-1)))
 end
theorem qgt (n : Nat) (v1 : (List Int)) (v3 : Int) (a2 : OA) (c2 : Nat) (r : Int) (hr : slices_Index n v1 v3 = some r) : Pure Tryz.prog (.val (.fn (.func 62) [] [])) [(nU v1 a2 c2), (iS v3)] [(nQ v1 a2 c2)] (fun r' out => r' = (iS r) ∧ out = []) := by
 rcases n with _ | n
 ·exact qe hr
 rw [slices_Index.eq_2] at hr
 refine qb (N := 19) (m := 0) (dt := fun _ => none) [] ttOK func62 rfl call62 ntmps62 rfl rfl rfl mixed (by kernel_rfl) ?_
 refine AtLoop.mk ⟨Nat × Int, fun x => [(0, (nU v1 a2 c2)), (1, (iS v3)), (7, (iS ((List.map (D.int .i64) v1).length : Int))), (8, (iS x.2))], fun x => ⟨[], [], [(nQ v1 a2 c2)]⟩, fun x => slices_Index_L1 x.1 v1 v3 x.2 = some r, fun x => x.1, (n, 0), hr, ⟨rfl, rfl, rfl, rfl, trivial⟩, (StLe.gen 0 [] [.old 0] rfl rfl rfl rfl rfl rfl rfl), fun x _ => ⟨rfl, rfl⟩, ?_⟩
 rintro ⟨n, v10⟩ HH
 have hr : slices_Index_L1 n v1 v3 v10 = some r := HH
 rcases n with _ | n
 ·exact qe hr
 rw [slices_Index_L1.eq_2] at hr
 refine AtIf.mk (fun h11 => ?_) (fun h11 => ?_)
 ·replace hr := qf h11 hr
  obtain ⟨v12, h13, hr⟩ := bind_some hr
  obtain ⟨h14, h15⟩ := qi h13
  refine qd ttOK 0 rfl rfl rfl rfl h14 (qav (D.int .i64) h15) ?_
  refine AtIf.mk (fun h16 => ?_) (fun h16 => ?_)
  ·replace hr := qf h16 hr
   replace hr := osi hr; subst hr
   exact qa [] [] rfl rfl ⟨rfl, rfl⟩
  ·replace hr := qg h16 hr
   exact ⟨(n, (IntKind.i64.wrap (v10 + 1))), hr, Nat.lt_succ_self _, ⟨rfl, rfl, rfl, rfl, trivial⟩, (StLe.gen 0 [] [.old 0] rfl rfl rfl rfl rfl rfl rfl)⟩
 ·replace hr := qg h11 hr
  replace hr := osi hr; subst hr
  exact qa [] [] rfl rfl ⟨rfl, rfl⟩
def slices_Contains : Nat → (List Int) → Int → Option (Bool)
 | 0, _, _ => none
 | n + 1, v1, v3 =>
  (slices_Index n v1 v3).bind (fun v4 =>
  some ((decide (v4 ≥ 0))))
theorem qcf (n : Nat) (v1 : (List Int)) (v3 : Int) (a2 : OA) (c2 : Nat) (r : Bool) (hr : slices_Contains n v1 v3 = some r) : Pure Tryz.prog (.val (.fn (.func 128) [] [])) [(nU v1 a2 c2), (iS v3)] [(nQ v1 a2 c2)] (fun r' out => r' = (bS r) ∧ out = []) := by
 rcases n with _ | n
 ·exact qe hr
 rw [slices_Contains.eq_2] at hr
 refine qb (N := 9) (m := 0) (dt := fun _ => none) [] ttOK func128 rfl call128 ntmps128 rfl rfl rfl mixed (by kernel_rfl) ?_
 obtain ⟨v4, h5, hr⟩ := bind_some hr
 refine (qgt n v1 v3 a2 c2 _ h5).atR [0] rfl rfl rfl ?_
 rintro _ _ ⟨rfl, rfl⟩
 replace hr := osi hr; subst hr
 exact qa [] [] rfl rfl ⟨rfl, rfl⟩
def term_Occurs : Nat → Tm → Int → Option (Bool × Int)
 | 0, _, _ => none
 | n + 1, v1, v3 =>
  (slices_Contains n (freeL v1) v3).bind (fun v5 =>
  some (v5, (freeE v1)))
theorem qcc (n : Nat) (v1 : Tm) (v3 : Int) (a2 : OA) (c2 : Nat) (r : Bool × Int) (hr : term_Occurs n v1 v3 = some r) : Pure Tryz.prog (.val (.fn (.func 83) [] [])) [(.agg [(iS v1.op), (iS v1.hd), (iS v1.n), (tU v1.args a2 c2)]), (iS v3)] [(tQ v1.args a2 c2)] (fun r' out => r' = (.tup [(bS r.1), (iS r.2)]) ∧ out = []) := by
 rcases n with _ | n
 ·exact qe hr
 rw [term_Occurs.eq_2] at hr
 refine qb (N := 17) (m := 0) (dt := fun _ => none) [] ttOK func83 rfl call83 ntmps83 rfl rfl rfl mixed (by kernel_rfl) ?_
 refine (free0 v1 a2 c2).atR [0] rfl rfl rfl ?_
 rintro _ _ ⟨a4, c4, rfl, rfl⟩
 obtain ⟨v5, h6, hr⟩ := bind_some hr
 refine (qcf n (freeL v1) v3 a4 c4 _ h6).atR [1] rfl rfl rfl ?_
 rintro _ _ ⟨rfl, rfl⟩
 replace hr := osi hr; subst hr
 exact qa [] [] rfl rfl ⟨rfl, rfl⟩
mutual
def mode_stands : Nat → (List Tm) → (List Int) → Int → Int → Int → Option (Bool)
 | 0, _, _, _, _, _ => none
 | n + 1, v1, v3, v5, v6, v7 =>
  mode_stands_L1 n v1 v5 v3 v7 v6
def mode_stands_L1 : Nat → (List Tm) → Int → (List Int) → Int → Int → Option (Bool)
 | 0, _, _, _, _, _ => none
 | n + 1, v1, v5, v3, v7, v22 =>
  cond (decide (v22 < ((Tm.encL v1).length : Int))) (
  (idx v1 v22).bind (fun v24 =>
  (term_Occurs n v24 (IntKind.i64.wrap ((IntKind.i64.wrap (v22 - 1)) - v5))).bind (fun v29 =>
  cond v29.1 (
  (idx v3 v22).bind (fun v32 =>
  cond (v32 == v7) (
  some (true)) (
  mode_stands_L1 n v1 v5 v3 v7 (IntKind.i64.wrap (v22 + 1))))) (
  mode_stands_L1 n v1 v5 v3 v7 (IntKind.i64.wrap (v22 + 1)))))) (
  some (false))
 end
theorem qhl (n : Nat) (v1 : (List Tm)) (v3 : (List Int)) (v5 : Int) (v6 : Int) (v7 : Int) (a2 : OA) (c2 : Nat) (a4 : OA) (c4 : Nat) (r : Bool) (hr : mode_stands n v1 v3 v5 v6 v7 = some r) : Pure Tryz.prog (.val (.fn (.func 37) [] [])) [(tU v1 a2 c2), (nU v3 a4 c4), (iS v5), (iS v6), (iS v7)] [(tQ v1 a2 c2), (nQ v3 a4 c4)] (fun r' out => r' = (bS r) ∧ out = []) := by
 rcases n with _ | n
 ·exact qe hr
 rw [mode_stands.eq_2] at hr
 refine qb (N := 42) (m := 0) (dt := fun _ => none) [] ttOK func37 rfl call37 ntmps37 rfl rfl rfl mixed (by kernel_rfl) ?_
 refine AtLoop.mk ⟨Nat × Int, fun x => [(0, (tU v1 a2 c2)), (1, (nU v3 a4 c4)), (2, (iS v5)), (4, (iS v7)), (11, (iS x.2))], fun x => ⟨[], [], [(tQ v1 a2 c2), (nQ v3 a4 c4)]⟩, fun x => mode_stands_L1 x.1 v1 v5 v3 v7 x.2 = some r, fun x => x.1, (n, v6), hr, ⟨rfl, rfl, rfl, rfl, rfl, trivial⟩, (StLe.gen 0 [] [.old 0, .old 1] rfl rfl rfl rfl rfl rfl rfl), fun x _ => ⟨rfl, rfl⟩, ?_⟩
 rintro ⟨n, v22⟩ HH
 have hr : mode_stands_L1 n v1 v5 v3 v7 v22 = some r := HH
 rcases n with _ | n
 ·exact qe hr
 rw [mode_stands_L1.eq_2] at hr
 refine AtIf.mk (fun h23 => ?_) (fun h23 => ?_)
 ·replace hr := qf h23 hr
  obtain ⟨v24, h25, hr⟩ := bind_some hr
  obtain ⟨h26, h27⟩ := qi h25
  refine qd ttOK 0 rfl rfl rfl rfl h26 (Tm.encL_get h27) ?_
  intro a28 c28 _ _
  obtain ⟨v29, h30, hr⟩ := bind_some hr
  refine (qcc n v24 (IntKind.i64.wrap ((IntKind.i64.wrap (v22 - 1)) - v5)) a28 c28 _ h30).atR [2] rfl rfl rfl ?_
  rintro _ _ ⟨rfl, rfl⟩
  refine AtGuard.mk (fun h31 => ?_) (fun h31 => ?_)
  ·replace hr := qf h31 hr
   obtain ⟨v32, h33, hr⟩ := bind_some hr
   obtain ⟨h34, h35⟩ := qi h33
   refine qd ttOK 1 rfl rfl rfl rfl h34 (qav (D.int .i64) h35) ?_
   refine AtIf.mk (fun h36 => ?_) (fun h36 => ?_)
   ·replace hr := qf h36 hr
    replace hr := osi hr; subst hr
    exact qa [] [] rfl rfl ⟨rfl, rfl⟩
   ·replace hr := qg h36 hr
    exact ⟨(n, (IntKind.i64.wrap (v22 + 1))), hr, Nat.lt_succ_self _, ⟨rfl, rfl, rfl, rfl, rfl, trivial⟩, (StLe.gen 0 [] [.old 0, .old 1] rfl rfl rfl rfl rfl rfl rfl)⟩
  ·replace hr := qg h31 hr
   refine AtIf.mk (fun h => ff h) (fun _ => ?_)
   exact ⟨(n, (IntKind.i64.wrap (v22 + 1))), hr, Nat.lt_succ_self _, ⟨rfl, rfl, rfl, rfl, rfl, trivial⟩, (StLe.gen 0 [] [.old 0, .old 1] rfl rfl rfl rfl rfl rfl rfl)⟩
 ·replace hr := qg h23 hr
  replace hr := osi hr; subst hr
  exact qa [] [] rfl rfl ⟨rfl, rfl⟩
mutual
def mode_Read : Nat → (List Dc) → It → Option (Md × Int)
 | 0, _, _ => none
 | n + 1, v1, v3 =>
  (sign_Check n v1).bind (fun v6 =>
  cond (v6 != 0) (
  some ((Md.mk 0 ([])), 2)) (
  cond ((((if itemOK v3 then (0 : Int) else 2) != 0) || (!(v3.word.toList == (⟨#[109, 111, 100, 101]⟩ : ByteArray).toList))) || (((Pt.encL v3.parts).length : Int) == 0)) (
  some ((Md.mk 0 ([])), 2)) (
  (idx v3.parts 0).bind (fun v10 =>
  cond (v10.op != 1) (
  some ((Md.mk 0 ([])), 2)) (
  cond (decide ((0 : Int) ≤ 1 ∧ 1 ≤ ((Pt.encL v3.parts).length : Int) ∧ ((Pt.encL v3.parts).length : Int) ≤ ((Pt.encL v3.parts).length : Int))) (
  mode_Read_L1 n v3 v1 ([]) 0) none)))))
def mode_Read_L3 : Nat → ((List Tm) × Tm) → Int → Dc → Md → Int → Option (Md × Int)
 | 0, _, _, _, _, _ => none
 | n + 1, v61, v116, v65, v139, v141 =>
  cond (decide (v141 < ((List.map (D.int .i64) ([2, 1])).length : Int))) (
  (idx ([2, 1]) v141).bind (fun v144 =>
  (mode_stands n v61.1 v139.signs v116 v65.implicit v144).bind (fun v148 =>
  cond v148 (
  cond (decide (0 ≤ v116 ∧ (v116).toNat < (List.map (D.int .i64) v139.signs).length)) (
  mode_Read_L3 n v61 v116 v65 (Md.mk v139.family (v139.signs.set ((v116).toNat) v144)) (IntKind.i64.wrap (v141 + 1))) none) (
  mode_Read_L3 n v61 v116 v65 v139 (IntKind.i64.wrap (v141 + 1)))))) (
  mode_Read_L2 n v65 v61 v139 (IntKind.i64.wrap (v116 + 1)))
def mode_Read_L2 : Nat → Dc → ((List Tm) × Tm) → Md → Int → Option (Md × Int)
 | 0, _, _, _, _ => none
 | n + 1, v65, v61, v114, v116 =>
  cond (decide (v116 < v65.implicit)) (
  cond (decide (0 ≤ v116 ∧ (v116).toNat < (List.map (D.int .i64) v114.signs).length)) (
  mode_Read_L3 n v61 v116 v65 (Md.mk v114.family (v114.signs.set ((v116).toNat) 3)) 0) none) (
  some (v114, 0))
def mode_Read_L1 : Nat → It → (List Dc) → (List Int) → Int → Option (Md × Int)
 | 0, _, _, _, _ => none
 | n + 1, v3, v1, v30, v32 =>
  cond (decide (v32 < ((Pt.encL (v3.parts.drop (1 : Int).toNat)).length : Int))) (
  (idx (v3.parts.drop (1 : Int).toNat) v32).bind (fun v34 =>
  cond (v34.op != 2) (
  some ((Md.mk 0 ([])), 2)) (
  cond (decide ((List.map (D.int .i64) (v30 ++ [((mget (mput (⟨#[42]⟩ : ByteArray) 3 (mput (⟨#[45]⟩ : ByteArray) 2 (mput (⟨#[43]⟩ : ByteArray) 1 ([])))) v34.sign).getD 0)])).length ≤ 1000000)) (
  mode_Read_L1 n v3 v1 (v30 ++ [((mget (mput (⟨#[42]⟩ : ByteArray) 3 (mput (⟨#[45]⟩ : ByteArray) 2 (mput (⟨#[43]⟩ : ByteArray) 1 ([])))) v34.sign).getD 0)]) (IntKind.i64.wrap (v32 + 1))) none))) (
  (idx v3.parts 0).bind (fun v44 =>
  (sign_Find n v1 v44.name).bind (fun v50 =>
  cond (v50.2 != 0) (
  some ((Md.mk 0 ([])), 20)) (
  (sign_Family n v1 v50.1).bind (fun v53 =>
  cond (!v53) (
  some ((Md.mk 0 ([])), 22)) (
  (idx v1 v50.1).bind (fun v56 =>
  (term_Domains n v56.cls).bind (fun v61 =>
  (idx v1 v50.1).bind (fun v65 =>
  cond (((Tm.encL v61.1).length : Int) != (IntKind.i64.wrap (v65.implicit + ((List.map (D.int .i64) v30).length : Int)))) (
  some ((Md.mk 0 ([])), 23)) (
  cond (decide ((0 : Int) ≤ v65.implicit ∧ (v65.implicit : Int) ≤ 1000000)) (
  cond (decide ((List.map (D.int .i64) ((List.replicate (v65.implicit).toNat (0 : Int)) ++ v30)).length ≤ 1000000)) (
  mode_Read_L2 n v65 v61 (Md.mk v50.1 ((List.replicate (v65.implicit).toNat (0 : Int)) ++ v30)) 0) none) none))))))))))
 end
theorem qap (n : Nat) (v1 : (List Dc)) (v3 : It) (a2 : OA) (c2 : Nat) (a4 : OA) (c4 : Nat) (a5 : OA) (c5 : Nat) (r : Md × Int) (hr : mode_Read n v1 v3 = some r) : Pure Tryz.prog (.val (.fn (.func 8) [] [])) [(.v (.slice a2 ((Dc.encL v1).length) c2)), (.agg [(sS v3.word), (sS v3.name), (iS v3.raw.op), (sS v3.raw.name), (.v (.slice a4 ((Rw.encL v3.raw.args).length) c4)), (.v (.slice a5 ((Pt.encL v3.parts).length) c5))])] [(.slice a2 ((Dc.encL v1).length) c2, .sl 6 (Dc.encL v1)), (.slice a4 ((Rw.encL v3.raw.args).length) c4, .sl 3 (Rw.encL v3.raw.args)), (.slice a5 ((Pt.encL v3.parts).length) c5, .sl 8 (Pt.encL v3.parts))] (fun r' out => ∃ (b1 : OA) (d1 : Nat), r' = (.tup [(.agg [(iS r.1.family), (.v (.slice b1 ((List.map (D.int .i64) r.1.signs).length) d1))]), (iS r.2)]) ∧ out = [(.slice b1 ((List.map (D.int .i64) r.1.signs).length) d1, .sl 1 (List.map (D.int .i64) r.1.signs))]) := by
 rcases n with _ | n
 ·exact qe hr
 rw [mode_Read.eq_2] at hr
 refine qb (N := 146) (m := 0) (dt := drawsOf [(9, .node [0, 2, 3] [(1, .node [] [(4, .node [] [(5, .node [] [(6, .leaf [7])])])])], [6], [])]) [] ttOK func8 rfl call8 ntmps8 rfl rfl rfl mixed (by kernel_rfl) ?_
 obtain ⟨v6, h7, hr⟩ := bind_some hr
 refine (qcx n v1 a2 c2 _ h7).atR [0] rfl rfl rfl ?_
 rintro _ _ ⟨rfl, rfl⟩
 refine AtGuard.mk (fun h8 => ?_) (fun h8 => ?_)
 ·replace hr := qg h8 hr
  refine (qjt v3 a4 c4 a5 c5).atR [1, 2] rfl rfl rfl ?_
  rintro _ _ ⟨rfl, rfl⟩
  refine AtGuard.mk (fun h9 => ?_) (fun h9 => ?_)
  ·replace hr := qg h9 hr
   obtain ⟨v10, h11, hr⟩ := bind_some hr
   obtain ⟨h12, h13⟩ := qi h11
   refine qd ttOK 2 rfl rfl rfl rfl h12 (Pt.encL_get h13) ?_
   intro a14 c14 _ _ a15 c15 _ _
   refine AtIf.mk (fun h16 => ?_) (fun h16 => ?_)
   ·replace hr := qf h16 hr
    replace hr := osi hr; subst hr
    exact qa [.nil 1] [(.slice none 0 0, .sl 1 [])] rfl rfl ⟨none, 0, rfl, rfl⟩
   ·replace hr := qg h16 hr
    obtain ⟨h17, hr⟩ := qm hr
    refine qb7 ttOK 2 1 ((Pt.encL v3.parts).length : Int) (ds' := (Pt.encL (v3.parts.drop (1 : Int).toNat))) rfl rfl rfl (.inl ⟨_, rfl⟩) (.inr ⟨rfl, rfl⟩) h17 (by simp only [Pt.encL_eq]; exact sl_l ..) ?_
    intro a18 c18
    refine AtLoop.mk ⟨Nat × (List Int) × Option Addr × Nat × Int, fun x => [(0, (.v (.slice a2 ((Dc.encL v1).length) c2))), (3, (.loc 0 0)), (4, (.loc 1 0)), (6, (.v (.slice x.2.2.1 ((List.map (D.int .i64) x.2.1).length) x.2.2.2.1))), (48, (.v (.slice a18 ((Pt.encL (v3.parts.drop (1 : Int).toNat)).length) c18))), (49, (iS ((Pt.encL (v3.parts.drop (1 : Int).toNat)).length : Int))), (50, (iS x.2.2.2.2))], fun x => ⟨[.cells 28 [(sS v3.word), (sS v3.name), (iS v3.raw.op), (sS v3.raw.name), (.v (.slice a4 ((Rw.encL v3.raw.args).length) c4)), (.v (.slice a5 ((Pt.encL v3.parts).length) c5))], .cells 31 [(iS 0), (.v (.slice none 0 0))], .imm [(iS v10.op), (sS v10.sign), (sS v10.name), (iS v10.n), (iS v10.raw.op), (sS v10.raw.name), (.v (.slice a14 ((Rw.encL v10.raw.args).length) c14)), (.v (.slice a15 ((Pt.encL v10.parts).length) c15))]], [⟨.slice x.2.2.1 ((List.map (D.int .i64) x.2.1).length) x.2.2.2.1, 1, 3, (List.map (D.int .i64) x.2.1)⟩], [(.slice a2 ((Dc.encL v1).length) c2, .sl 6 (Dc.encL v1)), (.slice a4 ((Rw.encL v3.raw.args).length) c4, .sl 3 (Rw.encL v3.raw.args)), (.slice a5 ((Pt.encL v3.parts).length) c5, .sl 8 (Pt.encL v3.parts)), (.slice a14 ((Rw.encL v10.raw.args).length) c14, .sl 3 (Rw.encL v10.raw.args)), (.slice a15 ((Pt.encL v10.parts).length) c15, .sl 8 (Pt.encL v10.parts)), (.slice a18 ((Pt.encL (v3.parts.drop (1 : Int).toNat)).length) c18, .sl 8 (Pt.encL (v3.parts.drop (1 : Int).toNat)))]⟩, fun x => mode_Read_L1 x.1 v3 v1 x.2.1 x.2.2.2.2 = some r, fun x => x.1, (n, [], none, 0, 0), hr, ⟨rfl, rfl, rfl, rfl, rfl, rfl, rfl, trivial⟩, (StLe.gen 3 [.nil 1 3] [.old 0, .old 1, .old 2, .old 3, .old 4, .old 5] rfl rfl rfl rfl rfl rfl rfl), fun x _ => ⟨rfl, rfl⟩, ?_⟩
    rintro ⟨n, v30, a31, c31, v32⟩ HH
    have hr : mode_Read_L1 n v3 v1 v30 v32 = some r := HH
    rcases n with _ | n
    ·exact qe hr
    rw [mode_Read_L1.eq_2] at hr
    refine AtIf.mk (fun h33 => ?_) (fun h33 => ?_)
    ·replace hr := qf h33 hr
     obtain ⟨v34, h35, hr⟩ := bind_some hr
     obtain ⟨h36, h37⟩ := qi h35
     refine qd ttOK 5 rfl rfl rfl rfl h36 (Pt.encL_get h37) ?_
     intro a38 c38 _ _ a39 c39 _ _
     refine AtIf.mk (fun h40 => ?_) (fun h40 => ?_)
     ·replace hr := qf h40 hr
      replace hr := osi hr; subst hr
      exact qa [.nil 1] [(.slice none 0 0, .sl 1 [])] rfl rfl ⟨none, 0, rfl, rfl⟩
     ·replace hr := qg h40 hr
      refine qb (N := 3) (m := 5) (dt := fun _ => none) [] ttOK func33 rfl call33 ntmps33 rfl rfl rfl mixed (by kernel_rfl) ?_
      refine qih ?_
      refine qes (l := encM (Value.int .i64) ([])) ttOK (.int .i64 1) rfl underlying9 rfl rfl rfl (fun _ => rfl) ?_
      rw [qgf (Value.int .i64) (⟨#[43]⟩ : ByteArray) 1 ([])]
      refine qes (l := encM (Value.int .i64) (mput (⟨#[43]⟩ : ByteArray) 1 ([]))) ttOK (.int .i64 2) rfl underlying9 rfl rfl rfl (fun _ => rfl) ?_
      rw [qgf (Value.int .i64) (⟨#[45]⟩ : ByteArray) 2 (mput (⟨#[43]⟩ : ByteArray) 1 ([]))]
      refine qes (l := encM (Value.int .i64) (mput (⟨#[45]⟩ : ByteArray) 2 (mput (⟨#[43]⟩ : ByteArray) 1 ([])))) ttOK (.int .i64 3) rfl underlying9 rfl rfl rfl (fun _ => rfl) ?_
      rw [qgf (Value.int .i64) (⟨#[42]⟩ : ByteArray) 3 (mput (⟨#[45]⟩ : ByteArray) 2 (mput (⟨#[43]⟩ : ByteArray) 1 ([])))]
      refine AtRet.gen _ (StLe.refl _) rfl rfl ?_
      refine ⟨OwnKeptBut.append, ?_⟩
      refine qi3 ttOK (Value.int .i64) 0 rfl underlying9 rfl rfl rfl rfl ?_
      refine ⟨fun _ _ h => h, ?_⟩
      refine ql (n := 1) ttOK 8 [.int .i64 ((mget (mput (⟨#[42]⟩ : ByteArray) 3 (mput (⟨#[45]⟩ : ByteArray) 2 (mput (⟨#[43]⟩ : ByteArray) 1 ([])))) v34.sign).getD 0)] (ds' := (List.map (D.int .i64) ([((mget (mput (⟨#[42]⟩ : ByteArray) 3 (mput (⟨#[45]⟩ : ByteArray) 2 (mput (⟨#[43]⟩ : ByteArray) 1 ([])))) v34.sign).getD 0)]))) rfl (by kernel_rfl) ⟨⟨rfl, rfl, rfl, rfl⟩, trivial⟩ rfl rfl (by decide) (by decide) ?_
      intro a41
      refine ⟨fun _ _ h => h, ?_⟩
      obtain ⟨h42, hr⟩ := qm hr
      refine qu (ds' := (List.map (D.int .i64) (v30 ++ [((mget (mput (⟨#[42]⟩ : ByteArray) 3 (mput (⟨#[45]⟩ : ByteArray) 2 (mput (⟨#[43]⟩ : ByteArray) 1 ([])))) v34.sign).getD 0)]))) ttOK 8 0 8 rfl (by kernel_rfl) rfl rfl rfl rfl (by simp only [List.map_append]) h42 (by decide) ?_
      intro a43 c43
      exact ⟨(n, (v30 ++ [((mget (mput (⟨#[42]⟩ : ByteArray) 3 (mput (⟨#[45]⟩ : ByteArray) 2 (mput (⟨#[43]⟩ : ByteArray) 1 ([])))) v34.sign).getD 0)]), a43, c43, (IntKind.i64.wrap (v32 + 1))), hr, Nat.lt_succ_self _, ⟨rfl, rfl, rfl, rfl, rfl, rfl, rfl, trivial⟩, (StLe.gen 3 [.old 0] [.old 0, .old 1, .old 2, .old 3, .old 4, .old 5] rfl rfl rfl rfl rfl rfl rfl)⟩
    ·replace hr := qg h33 hr
     obtain ⟨v44, h45, hr⟩ := bind_some hr
     obtain ⟨h46, h47⟩ := qi h45
     refine qd ttOK 2 rfl rfl rfl rfl h46 (Pt.encL_get h47) ?_
     intro a48 c48 _ _ a49 c49 _ _
     obtain ⟨v50, h51, hr⟩ := bind_some hr
     refine (qj1 n v1 v44.name a2 c2 _ h51).atR [0] rfl rfl rfl ?_
     rintro _ _ ⟨rfl, rfl⟩
     refine AtIf.mk (fun h52 => ?_) (fun h52 => ?_)
     ·replace hr := qf h52 hr
      replace hr := osi hr; subst hr
      exact qa [.nil 1] [(.slice none 0 0, .sl 1 [])] rfl rfl ⟨none, 0, rfl, rfl⟩
     ·replace hr := qg h52 hr
      obtain ⟨v53, h54, hr⟩ := bind_some hr
      refine (qcd n v1 v50.1 a2 c2 _ h54).atR [0] rfl rfl rfl ?_
      rintro _ _ ⟨rfl, rfl⟩
      refine AtIf.mk (fun h55 => ?_) (fun h55 => ?_)
      ·replace hr := qf h55 hr
       replace hr := osi hr; subst hr
       exact qa [.nil 1] [(.slice none 0 0, .sl 1 [])] rfl rfl ⟨none, 0, rfl, rfl⟩
      ·replace hr := qg h55 hr
       obtain ⟨v56, h57, hr⟩ := bind_some hr
       obtain ⟨h58, h59⟩ := qi h57
       refine qd ttOK 0 rfl rfl rfl rfl h58 (Dc.encL_get h59) ?_
       intro a60 c60 _ _
       obtain ⟨v61, h62, hr⟩ := bind_some hr
       refine (qay n v56.cls a60 c60 _ h62).atR [8] rfl rfl rfl ?_
       rintro _ _ ⟨a63, c63, a64, c64, rfl, rfl⟩
       obtain ⟨v65, h66, hr⟩ := bind_some hr
       obtain ⟨h67, h68⟩ := qi h66
       refine qd ttOK 0 rfl rfl rfl rfl h67 (Dc.encL_get h68) ?_
       intro a69 c69 _ _
       refine AtIf.mk (fun h70 => ?_) (fun h70 => ?_)
       ·replace hr := qf h70 hr
        replace hr := osi hr; subst hr
        exact qa [.nil 1] [(.slice none 0 0, .sl 1 [])] rfl rfl ⟨none, 0, rfl, rfl⟩
       ·replace hr := qg h70 hr
        obtain ⟨h71, hr⟩ := qm hr
        refine qk9 (ds' := (List.map (D.int .i64) (List.replicate (v65.implicit).toNat (0 : Int)))) (d := .int .i64 0) ttOK rfl ⟨_, rfl, rfl, rfl, by decide⟩ rfl rfl rfl (of_decide_eq_true h71) (List.map_replicate ..) ?_
        intro a72
        obtain ⟨h73, hr⟩ := qm hr
        refine AtSem.le (S' := ⟨[.cells 28 [(sS v3.word), (sS v3.name), (iS v3.raw.op), (sS v3.raw.name), (.v (.slice a4 ((Rw.encL v3.raw.args).length) c4)), (.v (.slice a5 ((Pt.encL v3.parts).length) c5))], .cells 31 [(iS 0), (.v (.slice none 0 0))], .imm [(iS v10.op), (sS v10.sign), (sS v10.name), (iS v10.n), (iS v10.raw.op), (sS v10.raw.name), (.v (.slice a14 ((Rw.encL v10.raw.args).length) c14)), (.v (.slice a15 ((Pt.encL v10.parts).length) c15))], .imm [(iS v44.op), (sS v44.sign), (sS v44.name), (iS v44.n), (iS v44.raw.op), (sS v44.raw.name), (.v (.slice a48 ((Rw.encL v44.raw.args).length) c48)), (.v (.slice a49 ((Pt.encL v44.parts).length) c49))], .imm [(sS v56.name), (iS v56.cls.op), (iS v56.cls.hd), (iS v56.cls.n), (.v (.slice a60 ((Tm.encL v56.cls.args).length) c60)), (iS v56.implicit)], .cells 47 [(iS v61.2.op), (iS v61.2.hd), (iS v61.2.n), (.v (.slice a64 ((Tm.encL v61.2.args).length) c64))], .imm [(sS v65.name), (iS v65.cls.op), (iS v65.cls.hd), (iS v65.cls.n), (.v (.slice a69 ((Tm.encL v65.cls.args).length) c69)), (iS v65.implicit)], .cells 31 [(iS v50.1), (.v (.slice a72 ((List.map (D.int .i64) (List.replicate (v65.implicit).toNat (0 : Int))).length) ((v65.implicit).toNat)))]], [⟨.slice a72 ((List.map (D.int .i64) (List.replicate (v65.implicit).toNat (0 : Int))).length) ((v65.implicit).toNat), 1, 3, (List.map (D.int .i64) (List.replicate (v65.implicit).toNat (0 : Int)))⟩], [(.slice a31 ((List.map (D.int .i64) v30).length) c31, .sl 1 (List.map (D.int .i64) v30)), (.slice a2 ((Dc.encL v1).length) c2, .sl 6 (Dc.encL v1)), (.slice a4 ((Rw.encL v3.raw.args).length) c4, .sl 3 (Rw.encL v3.raw.args)), (.slice a5 ((Pt.encL v3.parts).length) c5, .sl 8 (Pt.encL v3.parts)), (.slice a14 ((Rw.encL v10.raw.args).length) c14, .sl 3 (Rw.encL v10.raw.args)), (.slice a15 ((Pt.encL v10.parts).length) c15, .sl 8 (Pt.encL v10.parts)), (.slice a18 ((Pt.encL (v3.parts.drop (1 : Int).toNat)).length) c18, .sl 8 (Pt.encL (v3.parts.drop (1 : Int).toNat))), (.slice a48 ((Rw.encL v44.raw.args).length) c48, .sl 3 (Rw.encL v44.raw.args)), (.slice a49 ((Pt.encL v44.parts).length) c49, .sl 8 (Pt.encL v44.parts)), (.slice a60 ((Tm.encL v56.cls.args).length) c60, .sl 4 (Tm.encL v56.cls.args)), (.slice a63 ((Tm.encL v61.1).length) c63, .sl 4 (Tm.encL v61.1)), (.slice a64 ((Tm.encL v61.2.args).length) c64, .sl 4 (Tm.encL v61.2.args)), (.slice a69 ((Tm.encL v65.cls.args).length) c69, .sl 4 (Tm.encL v65.cls.args))]⟩) (StLe.gen 8 [.old 0] [.froz 1, .old 0, .old 1, .old 2, .old 3, .old 4, .old 5, .old 6, .old 7, .old 8, .old 9, .old 10, .old 11] rfl rfl rfl rfl rfl rfl rfl) rfl ?_
        refine qu (ds' := (List.map (D.int .i64) ((List.replicate (v65.implicit).toNat (0 : Int)) ++ v30))) ttOK 8 0 0 rfl (by kernel_rfl) rfl rfl rfl rfl (by simp only [List.map_append]) h73 (by decide) ?_
        intro a74 c74
        obtain ⟨q117, hq117⟩ : ∃ q, q = n := ⟨_, rfl⟩
        refine AtLoop.mk ⟨Nat × Md × Option Addr × Nat × Int, fun x => [(4, (.loc 1 0)), (11, (.v (.slice a63 ((Tm.encL v61.1).length) c63))), (13, (iS v65.implicit)), (14, (.loc 7 0)), (117, (iS v65.implicit)), (118, (iS x.2.2.2.2))], fun x => ⟨[.cells 28 [(sS v3.word), (sS v3.name), (iS v3.raw.op), (sS v3.raw.name), (.v (.slice a4 ((Rw.encL v3.raw.args).length) c4)), (.v (.slice a5 ((Pt.encL v3.parts).length) c5))], .cells 31 [(iS 0), (.v (.slice none 0 0))], .imm [(iS v10.op), (sS v10.sign), (sS v10.name), (iS v10.n), (iS v10.raw.op), (sS v10.raw.name), (.v (.slice a14 ((Rw.encL v10.raw.args).length) c14)), (.v (.slice a15 ((Pt.encL v10.parts).length) c15))], .imm [(iS v44.op), (sS v44.sign), (sS v44.name), (iS v44.n), (iS v44.raw.op), (sS v44.raw.name), (.v (.slice a48 ((Rw.encL v44.raw.args).length) c48)), (.v (.slice a49 ((Pt.encL v44.parts).length) c49))], .imm [(sS v56.name), (iS v56.cls.op), (iS v56.cls.hd), (iS v56.cls.n), (.v (.slice a60 ((Tm.encL v56.cls.args).length) c60)), (iS v56.implicit)], .cells 47 [(iS v61.2.op), (iS v61.2.hd), (iS v61.2.n), (.v (.slice a64 ((Tm.encL v61.2.args).length) c64))], .imm [(sS v65.name), (iS v65.cls.op), (iS v65.cls.hd), (iS v65.cls.n), (.v (.slice a69 ((Tm.encL v65.cls.args).length) c69)), (iS v65.implicit)], .cells 31 [(iS x.2.1.family), (.v (.slice x.2.2.1 ((List.map (D.int .i64) x.2.1.signs).length) x.2.2.2.1))]], [⟨.slice x.2.2.1 ((List.map (D.int .i64) x.2.1.signs).length) x.2.2.2.1, 1, 3, (List.map (D.int .i64) x.2.1.signs)⟩], [(.slice a31 ((List.map (D.int .i64) v30).length) c31, .sl 1 (List.map (D.int .i64) v30)), (.slice a2 ((Dc.encL v1).length) c2, .sl 6 (Dc.encL v1)), (.slice a4 ((Rw.encL v3.raw.args).length) c4, .sl 3 (Rw.encL v3.raw.args)), (.slice a5 ((Pt.encL v3.parts).length) c5, .sl 8 (Pt.encL v3.parts)), (.slice a14 ((Rw.encL v10.raw.args).length) c14, .sl 3 (Rw.encL v10.raw.args)), (.slice a15 ((Pt.encL v10.parts).length) c15, .sl 8 (Pt.encL v10.parts)), (.slice a18 ((Pt.encL (v3.parts.drop (1 : Int).toNat)).length) c18, .sl 8 (Pt.encL (v3.parts.drop (1 : Int).toNat))), (.slice a48 ((Rw.encL v44.raw.args).length) c48, .sl 3 (Rw.encL v44.raw.args)), (.slice a49 ((Pt.encL v44.parts).length) c49, .sl 8 (Pt.encL v44.parts)), (.slice a60 ((Tm.encL v56.cls.args).length) c60, .sl 4 (Tm.encL v56.cls.args)), (.slice a63 ((Tm.encL v61.1).length) c63, .sl 4 (Tm.encL v61.1)), (.slice a64 ((Tm.encL v61.2.args).length) c64, .sl 4 (Tm.encL v61.2.args)), (.slice a69 ((Tm.encL v65.cls.args).length) c69, .sl 4 (Tm.encL v65.cls.args))]⟩, fun x => x.1 ≤ q117 ∧ mode_Read_L2 x.1 v65 v61 x.2.1 x.2.2.2.2 = some r, fun x => x.1, (n, (Md.mk v50.1 ((List.replicate (v65.implicit).toNat (0 : Int)) ++ v30)), a74, c74, 0), ⟨by omega, hr⟩, ⟨rfl, rfl, rfl, rfl, rfl, rfl, trivial⟩, (StLe.gen 8 [.old 0] [.old 0, .old 1, .old 2, .old 3, .old 4, .old 5, .old 6, .old 7, .old 8, .old 9, .old 10, .old 11, .old 12] rfl rfl rfl rfl rfl rfl rfl), fun x _ => ⟨rfl, rfl⟩, ?_⟩
        rintro ⟨n, v114, a115, c115, v116⟩ HH
        obtain ⟨hbq117, hr⟩ : n ≤ q117 ∧ mode_Read_L2 n v65 v61 v114 v116 = some r := HH
        rcases n with _ | n
        ·exact qe hr
        rw [mode_Read_L2.eq_2] at hr
        refine AtIf.mk (fun h118 => ?_) (fun h118 => ?_)
        ·replace hr := qf h118 hr
         obtain ⟨h119, hr⟩ := qm hr
         refine qfv ttOK 0 rfl rfl rfl rfl h119 ?_
         intro b120 h121
         subst h121
         obtain ⟨m122, h123⟩ : ∃ m122, m122 = (List.map (D.int .i64) v114.signs).length := ⟨_, rfl⟩
         try dsimp only
         rw [← h123]
         refine qf8 (ds' := List.map (D.int .i64) (v114.signs.set ((v116).toNat) 3)) ttOK 0 rfl (by simpa using (of_decide_eq_true h119).2) rfl (.inl ⟨_, rfl⟩) rfl rfl (map_set' ..) ?_
         refine ql (n := 2) ttOK 8 [.int .i64 2, .int .i64 1] (ds' := (List.map (D.int .i64) ([2, 1]))) rfl (by kernel_rfl) ⟨⟨rfl, rfl, rfl, rfl⟩, ⟨⟨rfl, rfl, rfl, rfl⟩, trivial⟩⟩ rfl rfl (by decide) (by decide) ?_
         intro a124
         obtain rfl : m122 = (List.map (D.int .i64) (v114.signs.set ((v116).toNat) 3)).length := by rw [h123]; simp
         obtain ⟨q142, hq142⟩ : ∃ q, q = n := ⟨_, rfl⟩
         refine AtLoop.mk ⟨Nat × Md × Option Addr × Nat × Int, fun x => [(4, (.loc 1 0)), (11, (.v (.slice a63 ((Tm.encL v61.1).length) c63))), (13, (iS v65.implicit)), (14, (.loc 7 0)), (15, (iS v116)), (117, (iS v65.implicit)), (118, (iS v116)), (125, (.v (.slice a124 ((List.map (D.int .i64) ([2, 1])).length) 2))), (126, (iS ((List.map (D.int .i64) ([2, 1])).length : Int))), (127, (iS x.2.2.2.2))], fun x => ⟨[.cells 28 [(sS v3.word), (sS v3.name), (iS v3.raw.op), (sS v3.raw.name), (.v (.slice a4 ((Rw.encL v3.raw.args).length) c4)), (.v (.slice a5 ((Pt.encL v3.parts).length) c5))], .cells 31 [(iS 0), (.v (.slice none 0 0))], .imm [(iS v10.op), (sS v10.sign), (sS v10.name), (iS v10.n), (iS v10.raw.op), (sS v10.raw.name), (.v (.slice a14 ((Rw.encL v10.raw.args).length) c14)), (.v (.slice a15 ((Pt.encL v10.parts).length) c15))], .imm [(iS v44.op), (sS v44.sign), (sS v44.name), (iS v44.n), (iS v44.raw.op), (sS v44.raw.name), (.v (.slice a48 ((Rw.encL v44.raw.args).length) c48)), (.v (.slice a49 ((Pt.encL v44.parts).length) c49))], .imm [(sS v56.name), (iS v56.cls.op), (iS v56.cls.hd), (iS v56.cls.n), (.v (.slice a60 ((Tm.encL v56.cls.args).length) c60)), (iS v56.implicit)], .cells 47 [(iS v61.2.op), (iS v61.2.hd), (iS v61.2.n), (.v (.slice a64 ((Tm.encL v61.2.args).length) c64))], .imm [(sS v65.name), (iS v65.cls.op), (iS v65.cls.hd), (iS v65.cls.n), (.v (.slice a69 ((Tm.encL v65.cls.args).length) c69)), (iS v65.implicit)], .cells 31 [(iS x.2.1.family), (.v (.slice x.2.2.1 ((List.map (D.int .i64) x.2.1.signs).length) x.2.2.2.1))]], [⟨.slice x.2.2.1 ((List.map (D.int .i64) x.2.1.signs).length) x.2.2.2.1, 1, 3, (List.map (D.int .i64) x.2.1.signs)⟩], [(.slice a31 ((List.map (D.int .i64) v30).length) c31, .sl 1 (List.map (D.int .i64) v30)), (.slice a2 ((Dc.encL v1).length) c2, .sl 6 (Dc.encL v1)), (.slice a4 ((Rw.encL v3.raw.args).length) c4, .sl 3 (Rw.encL v3.raw.args)), (.slice a5 ((Pt.encL v3.parts).length) c5, .sl 8 (Pt.encL v3.parts)), (.slice a14 ((Rw.encL v10.raw.args).length) c14, .sl 3 (Rw.encL v10.raw.args)), (.slice a15 ((Pt.encL v10.parts).length) c15, .sl 8 (Pt.encL v10.parts)), (.slice a18 ((Pt.encL (v3.parts.drop (1 : Int).toNat)).length) c18, .sl 8 (Pt.encL (v3.parts.drop (1 : Int).toNat))), (.slice a48 ((Rw.encL v44.raw.args).length) c48, .sl 3 (Rw.encL v44.raw.args)), (.slice a49 ((Pt.encL v44.parts).length) c49, .sl 8 (Pt.encL v44.parts)), (.slice a60 ((Tm.encL v56.cls.args).length) c60, .sl 4 (Tm.encL v56.cls.args)), (.slice a63 ((Tm.encL v61.1).length) c63, .sl 4 (Tm.encL v61.1)), (.slice a64 ((Tm.encL v61.2.args).length) c64, .sl 4 (Tm.encL v61.2.args)), (.slice a69 ((Tm.encL v65.cls.args).length) c69, .sl 4 (Tm.encL v65.cls.args)), (.slice a124 ((List.map (D.int .i64) ([2, 1])).length) 2, .sl 1 (List.map (D.int .i64) ([2, 1])))]⟩, fun x => x.1 ≤ q142 ∧ mode_Read_L3 x.1 v61 v116 v65 x.2.1 x.2.2.2.2 = some r, fun x => x.1, (n, (Md.mk v114.family (v114.signs.set ((v116).toNat) 3)), (some ⟨b120, 0, none⟩), c115, 0), ⟨by omega, hr⟩, ⟨rfl, rfl, rfl, rfl, rfl, rfl, rfl, rfl, rfl, rfl, trivial⟩, (StLe.gen 8 [.old 0] [.old 0, .old 1, .old 2, .old 3, .old 4, .old 5, .old 6, .old 7, .old 8, .old 9, .old 10, .old 11, .old 12, .old 13] rfl rfl rfl rfl rfl rfl rfl), fun x _ => ⟨rfl, rfl⟩, ?_⟩
         rintro ⟨n, v139, a140, c140, v141⟩ HH
         obtain ⟨hbq142, hr⟩ : n ≤ q142 ∧ mode_Read_L3 n v61 v116 v65 v139 v141 = some r := HH
         rcases n with _ | n
         ·exact qe hr
         rw [mode_Read_L3.eq_2] at hr
         refine AtIf.mk (fun h143 => ?_) (fun h143 => ?_)
         ·replace hr := qf h143 hr
          obtain ⟨v144, h145, hr⟩ := bind_some hr
          obtain ⟨h146, h147⟩ := qi h145
          refine qd ttOK 13 rfl rfl rfl rfl h146 (qav (D.int .i64) h147) ?_
          obtain ⟨v148, h149, hr⟩ := bind_some hr
          refine (qhl n v61.1 v139.signs v116 v65.implicit v144 a63 c63 a140 c140 _ h149).atB [.old 10, .froz 0] rfl rfl rfl ?_
          rintro _ _ ⟨rfl, rfl⟩
          refine ⟨rfl, ?_⟩
          refine AtIf.mk (fun h150 => ?_) (fun h150 => ?_)
          ·replace hr := qf h150 hr
           obtain ⟨h151, hr⟩ := qm hr
           refine qfv ttOK 0 rfl rfl rfl rfl h151 ?_
           intro b152 h153
           subst h153
           obtain ⟨m154, h155⟩ : ∃ m154, m154 = (List.map (D.int .i64) v139.signs).length := ⟨_, rfl⟩
           try dsimp only
           rw [← h155]
           refine qf8 (ds' := List.map (D.int .i64) (v139.signs.set ((v116).toNat) v144)) ttOK 0 rfl (by simpa using (of_decide_eq_true h151).2) rfl (.inl ⟨_, rfl⟩) rfl rfl (map_set' ..) ?_
           obtain rfl : m154 = (List.map (D.int .i64) (v139.signs.set ((v116).toNat) v144)).length := by rw [h155]; simp
           exact ⟨(n, (Md.mk v139.family (v139.signs.set ((v116).toNat) v144)), (some ⟨b152, 0, none⟩), c140, (IntKind.i64.wrap (v141 + 1))), ⟨by omega, hr⟩, Nat.lt_succ_self _, ⟨rfl, rfl, rfl, rfl, rfl, rfl, rfl, rfl, rfl, rfl, trivial⟩, (StLe.gen 8 [.old 0] [.old 0, .old 1, .old 2, .old 3, .old 4, .old 5, .old 6, .old 7, .old 8, .old 9, .old 10, .old 11, .old 12, .old 13] rfl rfl rfl rfl rfl rfl rfl)⟩
          ·replace hr := qg h150 hr
           exact ⟨(n, v139, a140, c140, (IntKind.i64.wrap (v141 + 1))), ⟨by omega, hr⟩, Nat.lt_succ_self _, ⟨rfl, rfl, rfl, rfl, rfl, rfl, rfl, rfl, rfl, rfl, trivial⟩, (StLe.gen 8 [.old 0] [.old 0, .old 1, .old 2, .old 3, .old 4, .old 5, .old 6, .old 7, .old 8, .old 9, .old 10, .old 11, .old 12, .old 13] rfl rfl rfl rfl rfl rfl rfl)⟩
         ·replace hr := qg h143 hr
          exact ⟨(n, v139, a140, c140, (IntKind.i64.wrap (v116 + 1))), ⟨by omega, hr⟩, (by simp only; omega), ⟨rfl, rfl, rfl, rfl, rfl, rfl, trivial⟩, (StLe.gen 8 [.old 0] [.old 0, .old 1, .old 2, .old 3, .old 4, .old 5, .old 6, .old 7, .old 8, .old 9, .old 10, .old 11, .old 12] rfl rfl rfl rfl rfl rfl rfl)⟩
        ·replace hr := qg h118 hr
         replace hr := osi hr; subst hr
         exact qa [.froz 0] [(.slice a115 ((List.map (D.int .i64) v114.signs).length) c115, .sl 1 (List.map (D.int .i64) v114.signs))] rfl rfl ⟨a115, c115, rfl, rfl⟩
  ·replace hr := qf h9 hr
   refine AtIf.mk (fun _ => ?_) (fun h => tf h)
   replace hr := osi hr; subst hr
   exact qa [.nil 1] [(.slice none 0 0, .sl 1 [])] rfl rfl ⟨none, 0, rfl, rfl⟩
 ·replace hr := qf h8 hr
  refine AtGuard.mk (fun h => tf h) (fun _ => ?_)
  refine AtIf.mk (fun _ => ?_) (fun h => tf h)
  replace hr := osi hr; subst hr
  exact qa [.nil 1] [(.slice none 0 0, .sl 1 [])] rfl rfl ⟨none, 0, rfl, rfl⟩
def mode_scope_level : Nat → (List Bool) → Int → Int → Option (Int × Bool)
 | 0, _, _, _ => none
 | n + 1, v1, v3, v4 =>
  some ((IntKind.i64.wrap ((IntKind.i64.wrap (((List.map D.bool v1).length : Int) - 1)) - (IntKind.i64.wrap (v3 - v4)))), (decide (v3 ≥ v4)))
theorem qca (n : Nat) (v1 : (List Bool)) (v3 : Int) (v4 : Int) (a2 : OA) (c2 : Nat) (r : Int × Bool) (hr : mode_scope_level n v1 v3 v4 = some r) : Pure Tryz.prog (.val (.fn (.func 111) [] [])) [(.v (.slice a2 ((List.map D.bool v1).length) c2)), (iS v3), (iS v4)] [(.slice a2 ((List.map D.bool v1).length) c2, .sl 1 (List.map D.bool v1))] (fun r' out => r' = (.tup [(iS r.1), (bS r.2)]) ∧ out = []) := by
 rcases n with _ | n
 ·exact qe hr
 rw [mode_scope_level.eq_2] at hr
 refine qb (N := 18) (m := 0) (dt := fun _ => none) [] ttOK func111 rfl call111 ntmps111 rfl rfl rfl mixed (by kernel_rfl) ?_
 replace hr := osi hr; subst hr
 exact qa [] [] rfl rfl ⟨rfl, rfl⟩
mutual
def subst_Short : Nat → Tm → Option (Int × Int × Int)
 | 0, _ => none
 | n + 1, v1 =>
  cond ((if isProper v1 then (0 : Int) else 2) != 0) (
  some (0, 0, 2)) (
  subst_Short_L1 n v1 0)
def subst_Short_L2 : Nat → Tm → Int → Int → Option (Int × Int × Int)
 | 0, _, _, _ => none
 | n + 1, v10, v12, v30 =>
  cond (decide (v30 < ((Tm.encL v10.args).length : Int))) (
  (idx v10.args v30).bind (fun v33 =>
  (subst_Short n v33).bind (fun v38 =>
  cond (((v38.2.2 != 0) || (v38.1 != 1)) || (v38.2.1 != (IntKind.i64.wrap ((IntKind.i64.wrap (v12 - 1)) - v30)))) (
  some (0, 0, 6)) (
  subst_Short_L2 n v10 v12 (IntKind.i64.wrap (v30 + 1)))))) (
  cond (v10.hd == 1) (
  some (v10.hd, (IntKind.i64.wrap (v10.n - v12)), 0)) (
  some (v10.hd, v10.n, 0)))
def subst_Short_L1 : Nat → Tm → Int → Option (Int × Int × Int)
 | 0, _, _ => none
 | n + 1, v10, v12 =>
  cond (v10.op == 3) (
  (idx v10.args 0).bind (fun v14 =>
  subst_Short_L1 n v14 (IntKind.i64.wrap (v12 + 1)))) (
  cond (((v10.op != 4) || (((Tm.encL v10.args).length : Int) != v12)) || ((v10.hd == 1) && (decide (v10.n < v12)))) (
  some (0, 0, 6)) (
  subst_Short_L2 n v10 v12 0))
 end
theorem qgm : ∀ (N : Nat), (∀ (n : Nat), n ≤ N → ∀ (v1 : Tm) (a2 : OA) (c2 : Nat) (r : Int × Int × Int), subst_Short n v1 = some r → Pure Tryz.prog (.val (.fn (.func 149) [] [])) [(.agg [(iS v1.op), (iS v1.hd), (iS v1.n), (tU v1.args a2 c2)])] [(tQ v1.args a2 c2)] (fun r' out => r' = (.tup [(iS r.1), (iS r.2.1), (iS r.2.2)]) ∧ out = [])) := by
 intro N
 induction N with
 | zero =>
  intro n hn v1 a2 c2 r hr; obtain rfl : n = 0 := (by omega); exact qe hr
 | succ N ih =>
  intro n hn v1 a2 c2 r hr
  rcases n with _ | n
  ·exact qe hr
  replace hn : n ≤ N := by omega
  rw [subst_Short.eq_2] at hr
  refine qb (N := 86) (m := 0) (dt := drawsOf [(17, .leaf [0, 1, 2, 3, 4, 5, 6, 7, 8], [], []), (18, .leaf [0, 1, 2, 3, 4, 5, 6], [], [])]) [] ttOK func149 rfl call149 ntmps149 rfl rfl rfl mixed (by kernel_rfl) ?_
  refine (qgl v1 a2 c2).atR [0] rfl rfl rfl ?_
  rintro _ _ ⟨rfl, rfl⟩
  refine AtIf.mk (fun h3 => ?_) (fun h3 => ?_)
  ·replace hr := qf h3 hr
   replace hr := osi hr; subst hr
   exact qa [] [] rfl rfl ⟨rfl, rfl⟩
  ·replace hr := qg h3 hr
   refine AtLoop.mk ⟨Nat × Tm × Option Addr × Nat × Int, fun x => [(1, (.loc 0 0)), (5, (iS x.2.2.2.2))], fun x => ⟨[.cells 47 [(iS x.2.1.op), (iS x.2.1.hd), (iS x.2.1.n), (tU x.2.1.args x.2.2.1 x.2.2.2.1)]], [], [(tQ x.2.1.args x.2.2.1 x.2.2.2.1), (tQ v1.args a2 c2)]⟩, fun x => x.1 ≤ N ∧ subst_Short_L1 x.1 x.2.1 x.2.2.2.2 = some r, fun x => x.1, (n, v1, a2, c2, 0), ⟨by omega, hr⟩, ⟨rfl, rfl, trivial⟩, (StLe.gen 1 [] [.old 0, .old 0] rfl rfl rfl rfl rfl rfl rfl), fun x _ => ⟨rfl, rfl⟩, ?_⟩
   rintro ⟨n, v10, a11, c11, v12⟩ HH
   obtain ⟨hn, hr⟩ : n ≤ N ∧ subst_Short_L1 n v10 v12 = some r := HH
   rcases n with _ | n
   ·exact qe hr
   rw [subst_Short_L1.eq_2] at hr
   refine AtIf.mk (fun h13 => ?_) (fun h13 => ?_)
   ·replace hr := qf h13 hr
    obtain ⟨v14, h15, hr⟩ := bind_some hr
    obtain ⟨h16, h17⟩ := qi h15
    refine qd ttOK 0 rfl rfl rfl rfl h16 (Tm.encL_get h17) ?_
    intro a18 c18 _ _
    exact ⟨(n, v14, a18, c18, (IntKind.i64.wrap (v12 + 1))), ⟨by omega, hr⟩, Nat.lt_succ_self _, ⟨rfl, rfl, trivial⟩, (StLe.gen 1 [] [.old 2, .old 1] rfl rfl rfl rfl rfl rfl rfl)⟩
   ·replace hr := qg h13 hr
    refine AtIf.mk (fun h19 => ?_) (fun h19 => ?_)
    ·replace hr := qf h19 hr
     replace hr := osi hr; subst hr
     exact qa [] [] rfl rfl ⟨rfl, rfl⟩
    ·replace hr := qg h19 hr
     obtain ⟨q31, hq31⟩ : ∃ q, q = n := ⟨_, rfl⟩
     refine AtLoop.mk ⟨Nat × Int, fun x => [(1, (.loc 0 0)), (5, (iS v12)), (45, (tU v10.args a11 c11)), (46, (iS ((Tm.encL v10.args).length : Int))), (47, (iS x.2))], fun x => ⟨[.cells 47 [(iS v10.op), (iS v10.hd), (iS v10.n), (tU v10.args a11 c11)]], [], [(tQ v10.args a11 c11), (tQ v1.args a2 c2)]⟩, fun x => x.1 ≤ N ∧ x.1 ≤ q31 ∧ subst_Short_L2 x.1 v10 v12 x.2 = some r, fun x => x.1, (n, 0), ⟨by omega, by omega, hr⟩, ⟨rfl, rfl, rfl, rfl, rfl, trivial⟩, (StLe.gen 1 [] [.old 0, .old 1] rfl rfl rfl rfl rfl rfl rfl), fun x _ => ⟨rfl, rfl⟩, ?_⟩
     rintro ⟨n, v30⟩ HH
     obtain ⟨hn, hbq31, hr⟩ : n ≤ N ∧ n ≤ q31 ∧ subst_Short_L2 n v10 v12 v30 = some r := HH
     rcases n with _ | n
     ·exact qe hr
     rw [subst_Short_L2.eq_2] at hr
     refine AtIf.mk (fun h32 => ?_) (fun h32 => ?_)
     ·replace hr := qf h32 hr
      obtain ⟨v33, h34, hr⟩ := bind_some hr
      obtain ⟨h35, h36⟩ := qi h34
      refine qd ttOK 0 rfl rfl rfl rfl h35 (Tm.encL_get h36) ?_
      intro a37 c37 _ _
      obtain ⟨v38, h39, hr⟩ := bind_some hr
      refine (ih n (by omega) v33 a37 c37 _ h39).atR [2] rfl rfl rfl ?_
      rintro _ _ ⟨rfl, rfl⟩
      refine AtIf.mk (fun h40 => ?_) (fun h40 => ?_)
      ·replace hr := qf h40 hr
       replace hr := osi hr; subst hr
       exact qa [] [] rfl rfl ⟨rfl, rfl⟩
      ·replace hr := qg h40 hr
       exact ⟨(n, (IntKind.i64.wrap (v30 + 1))), ⟨by omega, by omega, hr⟩, Nat.lt_succ_self _, ⟨rfl, rfl, rfl, rfl, rfl, trivial⟩, (StLe.gen 1 [] [.old 0, .old 1] rfl rfl rfl rfl rfl rfl rfl)⟩
     ·replace hr := qg h32 hr
      refine AtIf.mk (fun h41 => ?_) (fun h41 => ?_)
      ·replace hr := qf h41 hr
       replace hr := osi hr; subst hr
       exact qa [] [] rfl rfl ⟨rfl, rfl⟩
      ·replace hr := qg h41 hr
       replace hr := osi hr; subst hr
       exact qa [] [] rfl rfl ⟨rfl, rfl⟩
theorem qhm (n : Nat) (v1 : Tm) (a2 : OA) (c2 : Nat) (r : Int × Int × Int) (hr : subst_Short n v1 = some r) : Pure Tryz.prog (.val (.fn (.func 149) [] [])) [(.agg [(iS v1.op), (iS v1.hd), (iS v1.n), (tU v1.args a2 c2)])] [(tQ v1.args a2 c2)] (fun r' out => r' = (.tup [(iS r.1), (iS r.2.1), (iS r.2.2)]) ∧ out = []) := (qgm n) n (Nat.le_refl _) v1 a2 c2 r hr
mutual
def mode_scope_pattern : Nat → (List Bool) → (List Tm) → Int → Option (Bool)
 | 0, _, _, _ => none
 | n + 1, v1, v3, v5 =>
  mode_scope_pattern_L1 n v3 v1 v5 ([]) 0
def mode_scope_pattern_L1 : Nat → (List Tm) → (List Bool) → Int → (List Int) → Int → Option (Bool)
 | 0, _, _, _, _, _ => none
 | n + 1, v3, v1, v5, v29, v31 =>
  cond (decide (v31 < ((Tm.encL v3).length : Int))) (
  (idx v3 v31).bind (fun v33 =>
  (subst_Short n v33).bind (fun v38 =>
  cond ((v38.2.2 != 0) || (v38.1 != 1)) (
  some (false)) (
  (slices_Contains n v29 v38.2.1).bind (fun v41 =>
  cond v41 (
  some (false)) (
  (mode_scope_level n v1 v38.2.1 v5).bind (fun v44 =>
  cond v44.2 (
  (idx v1 v44.1).bind (fun v47 =>
  cond v47 (
  some (false)) (
  cond (decide ((List.map (D.int .i64) (v29 ++ [v38.2.1])).length ≤ 1000000)) (
  mode_scope_pattern_L1 n v3 v1 v5 (v29 ++ [v38.2.1]) (IntKind.i64.wrap (v31 + 1))) none))) (
  cond (decide ((List.map (D.int .i64) (v29 ++ [v38.2.1])).length ≤ 1000000)) (
  mode_scope_pattern_L1 n v3 v1 v5 (v29 ++ [v38.2.1]) (IntKind.i64.wrap (v31 + 1))) none)))))))) (
  some (true))
 end
theorem qdw (n : Nat) (v1 : (List Bool)) (v3 : (List Tm)) (v5 : Int) (a2 : OA) (c2 : Nat) (a4 : OA) (c4 : Nat) (r : Bool) (hr : mode_scope_pattern n v1 v3 v5 = some r) : Pure Tryz.prog (.val (.fn (.func 112) [] [])) [(.v (.slice a2 ((List.map D.bool v1).length) c2)), (tU v3 a4 c4), (iS v5)] [(.slice a2 ((List.map D.bool v1).length) c2, .sl 1 (List.map D.bool v1)), (tQ v3 a4 c4)] (fun r' out => r' = (bS r) ∧ out = []) := by
 rcases n with _ | n
 ·exact qe hr
 rw [mode_scope_pattern.eq_2] at hr
 refine qb (N := 57) (m := 0) (dt := fun _ => none) [] ttOK func112 rfl call112 ntmps112 rfl rfl rfl mixed (by kernel_rfl) ?_
 refine AtLoop.mk ⟨Nat × (List Int) × Option Addr × Nat × Int, fun x => [(0, (.v (.slice a2 ((List.map D.bool v1).length) c2))), (2, (iS v5)), (7, (nU x.2.1 x.2.2.1 x.2.2.2.1)), (15, (tU v3 a4 c4)), (16, (iS ((Tm.encL v3).length : Int))), (17, (iS x.2.2.2.2))], fun x => ⟨[], [⟨.slice x.2.2.1 ((List.map (D.int .i64) x.2.1).length) x.2.2.2.1, 1, 3, (List.map (D.int .i64) x.2.1)⟩], [(.slice a2 ((List.map D.bool v1).length) c2, .sl 1 (List.map D.bool v1)), (tQ v3 a4 c4)]⟩, fun x => mode_scope_pattern_L1 x.1 v3 v1 v5 x.2.1 x.2.2.2.2 = some r, fun x => x.1, (n, [], none, 0, 0), hr, ⟨rfl, rfl, rfl, rfl, rfl, rfl, trivial⟩, (StLe.gen 0 [.nil 1 3] [.old 0, .old 1] rfl rfl rfl rfl rfl rfl rfl), fun x _ => ⟨rfl, rfl⟩, ?_⟩
 rintro ⟨n, v29, a30, c30, v31⟩ HH
 have hr : mode_scope_pattern_L1 n v3 v1 v5 v29 v31 = some r := HH
 rcases n with _ | n
 ·exact qe hr
 rw [mode_scope_pattern_L1.eq_2] at hr
 refine AtIf.mk (fun h32 => ?_) (fun h32 => ?_)
 ·replace hr := qf h32 hr
  obtain ⟨v33, h34, hr⟩ := bind_some hr
  obtain ⟨h35, h36⟩ := qi h34
  refine qd ttOK 1 rfl rfl rfl rfl h35 (Tm.encL_get h36) ?_
  intro a37 c37 _ _
  obtain ⟨v38, h39, hr⟩ := bind_some hr
  refine (qhm n v33 a37 c37 _ h39).atR [2] rfl rfl rfl ?_
  rintro _ _ ⟨rfl, rfl⟩
  refine AtGuard.mk (fun h40 => ?_) (fun h40 => ?_)
  ·replace hr := qg h40 hr
   obtain ⟨v41, h42, hr⟩ := bind_some hr
   refine (qcf n v29 v38.2.1 a30 c30 _ h42).atB [.froz 0] rfl rfl rfl ?_
   rintro _ _ ⟨rfl, rfl⟩
   refine ⟨rfl, ?_⟩
   refine AtIf.mk (fun h43 => ?_) (fun h43 => ?_)
   ·replace hr := qf h43 hr
    replace hr := osi hr; subst hr
    exact qa [] [] rfl rfl ⟨rfl, rfl⟩
   ·replace hr := qg h43 hr
    obtain ⟨v44, h45, hr⟩ := bind_some hr
    refine (qca n v1 v38.2.1 v5 a2 c2 _ h45).atR [0] rfl rfl rfl ?_
    rintro _ _ ⟨rfl, rfl⟩
    refine AtGuard.mk (fun h46 => ?_) (fun h46 => ?_)
    ·replace hr := qf h46 hr
     obtain ⟨v47, h48, hr⟩ := bind_some hr
     obtain ⟨h49, h50⟩ := qi h48
     refine qd ttOK 0 rfl rfl rfl rfl h49 (qav D.bool h50) ?_
     refine AtIf.mk (fun h51 => ?_) (fun h51 => ?_)
     ·replace hr := qf h51 hr
      replace hr := osi hr; subst hr
      exact qa [] [] rfl rfl ⟨rfl, rfl⟩
     ·replace hr := qg h51 hr
      refine ql (n := 1) ttOK 8 [.int .i64 v38.2.1] (ds' := (List.map (D.int .i64) ([v38.2.1]))) rfl (by kernel_rfl) ⟨⟨rfl, rfl, rfl, rfl⟩, trivial⟩ rfl rfl (by decide) (by decide) ?_
      intro a52
      obtain ⟨h53, hr⟩ := qm hr
      refine qu (ds' := (List.map (D.int .i64) (v29 ++ [v38.2.1]))) ttOK 8 0 3 rfl (by kernel_rfl) rfl rfl rfl rfl (by simp only [List.map_append]) h53 (by decide) ?_
      intro a54 c54
      exact ⟨(n, (v29 ++ [v38.2.1]), a54, c54, (IntKind.i64.wrap (v31 + 1))), hr, Nat.lt_succ_self _, ⟨rfl, rfl, rfl, rfl, rfl, rfl, trivial⟩, (StLe.gen 0 [.old 0] [.old 0, .old 1] rfl rfl rfl rfl rfl rfl rfl)⟩
    ·replace hr := qg h46 hr
     refine AtIf.mk (fun h => ff h) (fun _ => ?_)
     refine ql (n := 1) ttOK 8 [.int .i64 v38.2.1] (ds' := (List.map (D.int .i64) ([v38.2.1]))) rfl (by kernel_rfl) ⟨⟨rfl, rfl, rfl, rfl⟩, trivial⟩ rfl rfl (by decide) (by decide) ?_
     intro a55
     obtain ⟨h56, hr⟩ := qm hr
     refine qu (ds' := (List.map (D.int .i64) (v29 ++ [v38.2.1]))) ttOK 8 0 3 rfl (by kernel_rfl) rfl rfl rfl rfl (by simp only [List.map_append]) h56 (by decide) ?_
     intro a57 c57
     exact ⟨(n, (v29 ++ [v38.2.1]), a57, c57, (IntKind.i64.wrap (v31 + 1))), hr, Nat.lt_succ_self _, ⟨rfl, rfl, rfl, rfl, rfl, rfl, trivial⟩, (StLe.gen 0 [.old 0] [.old 0, .old 1] rfl rfl rfl rfl rfl rfl rfl)⟩
  ·replace hr := qf h40 hr
   refine AtIf.mk (fun _ => ?_) (fun h => tf h)
   replace hr := osi hr; subst hr
   exact qa [] [] rfl rfl ⟨rfl, rfl⟩
 ·replace hr := qg h32 hr
  replace hr := osi hr; subst hr
  exact qa [] [] rfl rfl ⟨rfl, rfl⟩
mutual
def mode_scope_strict_1 : Nat → Tm → Int → (List Bool) → (List Int) → Option ((List Int))
 | 0, _, _, _, _ => none
 | n + 1, v1, v3, v4, v6 =>
  (mode_scope_level n v4 v1.n v3).bind (fun v8 =>
  cond (((v1.op == 4) && (v1.hd == 1)) && v8.2) (
  (idx v4 v8.1).bind (fun v11 =>
  cond v11 (
  (mode_scope_pattern n v4 v1.args v3).bind (fun v16 =>
  cond v16 (
  cond (decide ((List.map (D.int .i64) (v6 ++ [v8.1])).length ≤ 1000000)) (
  some ((v6 ++ [v8.1]))) none) (
  some (v6)))) (
  mode_scope_strict_1_L1 n v1 v3 v4 v6 0))) (
  mode_scope_strict_1_L1 n v1 v3 v4 v6 0))
def mode_scope_strict_1_L1 : Nat → Tm → Int → (List Bool) → (List Int) → Int → Option ((List Int))
 | 0, _, _, _, _, _ => none
 | n + 1, v1, v3, v4, v33, v35 =>
  cond (decide (v35 < ((Tm.encL v1.args).length : Int))) (
  (idx v1.args v35).bind (fun v37 =>
  (term_Under n v1 v35).bind (fun v42 =>
  (mode_scope_strict_1 n v37 (IntKind.i64.wrap (v3 + v42)) v4 v33).bind (fun v44 =>
  mode_scope_strict_1_L1 n v1 v3 v4 v44 (IntKind.i64.wrap (v35 + 1)))))) (
  some (v33))
 end
theorem qda : ∀ (N : Nat), (∀ (n : Nat), n ≤ N → ∀ (v1 : Tm) (v3 : Int) (v4 : (List Bool)) (v6 : (List Int)) (a2 : OA) (c2 : Nat) (a5 : OA) (c5 : Nat) (a7 : OA) (c7 : Nat) (r : (List Int)), mode_scope_strict_1 n v1 v3 v4 v6 = some r → Meets Tryz.prog (.val (.fn (.func 110) [] [(.loc 0 0), (.loc 1 0), (.loc 2 0)])) [(.agg [(iS v1.op), (iS v1.hd), (iS v1.n), (tU v1.args a2 c2)]), (iS v3)] ⟨[.cells 106 [(.v (.slice a5 ((List.map D.bool v4).length) c5))], .cells 29 [(nU v6 a7 c7)], .cells 156 [(.fn (.func 110) [] [(.loc 0 0), (.loc 1 0), (.loc 2 0)])]], [⟨.slice a7 ((List.map (D.int .i64) v6).length) c7, 1, 3, (List.map (D.int .i64) v6)⟩], [(tQ v1.args a2 c2), (.slice a5 ((List.map D.bool v4).length) c5, .sl 1 (List.map D.bool v4))]⟩ (fun o S' => ∃ (b1 : OA) (d1 : Nat), o = .ret (.tup []) ∧ S' = ⟨[.cells 106 [(.v (.slice a5 ((List.map D.bool v4).length) c5))], .cells 29 [(nU r b1 d1)], .cells 156 [(.fn (.func 110) [] [(.loc 0 0), (.loc 1 0), (.loc 2 0)])]], [⟨.slice b1 ((List.map (D.int .i64) r).length) d1, 1, 3, (List.map (D.int .i64) r)⟩], []⟩)) := by
 intro N
 induction N with
 | zero =>
  intro n hn v1 v3 v4 v6 a2 c2 a5 c5 a7 c7 r hr; obtain rfl : n = 0 := (by omega); exact qe hr
 | succ N ih =>
  intro n hn v1 v3 v4 v6 a2 c2 a5 c5 a7 c7 r hr
  rcases n with _ | n
  ·exact qe hr
  replace hn : n ≤ N := by omega
  rw [mode_scope_strict_1.eq_2] at hr
  refine qb (N := 62) (m := 3) (dt := drawsOf [(8, .node [0, 1, 2, 3, 4] [(5, .node [6] [(7, .leaf [])])], [7], [])]) [] ttOK func110 rfl call110 ntmps110 rfl rfl rfl mixed (by kernel_rfl) ?_
  obtain ⟨v8, h9, hr⟩ := bind_some hr
  refine (qca n v4 v1.n v3 a5 c5 _ h9).atR [1] rfl rfl rfl ?_
  rintro _ _ ⟨rfl, rfl⟩
  refine AtGuard.mk (fun h10 => ?_) (fun h10 => ?_)
  ·replace hr := qf h10 hr
   obtain ⟨v11, h12, hr⟩ := bind_some hr
   obtain ⟨h13, h14⟩ := qi h12
   refine qd ttOK 1 rfl rfl rfl rfl h13 (qav D.bool h14) ?_
   refine AtIf.mk (fun h15 => ?_) (fun h15 => ?_)
   ·replace hr := qf h15 hr
    obtain ⟨v16, h17, hr⟩ := bind_some hr
    refine (qdw n v4 v1.args v3 a5 c5 a2 c2 _ h17).atR [1, 0] rfl rfl rfl ?_
    rintro _ _ ⟨rfl, rfl⟩
    refine AtIf.mk (fun h18 => ?_) (fun h18 => ?_)
    ·replace hr := qf h18 hr
     refine ql (n := 1) ttOK 8 [.int .i64 v8.1] (ds' := (List.map (D.int .i64) ([v8.1]))) rfl (by kernel_rfl) ⟨⟨rfl, rfl, rfl, rfl⟩, trivial⟩ rfl rfl (by decide) (by decide) ?_
     intro a19
     obtain ⟨h20, hr⟩ := qm hr
     refine qu (ds' := (List.map (D.int .i64) (v6 ++ [v8.1]))) ttOK 8 0 2 rfl (by kernel_rfl) rfl rfl rfl rfl (by simp only [List.map_append]) h20 (by decide) ?_
     intro a21 c21
     replace hr := osi hr; subst hr
     exact AtRet.gen ⟨[.cells 106 [(.v (.slice a5 ((List.map D.bool v4).length) c5))], .cells 29 [(nU (v6 ++ [v8.1]) a21 c21)], .cells 156 [(.fn (.func 110) [] [(.loc 0 0), (.loc 1 0), (.loc 2 0)])]], [⟨.slice a21 ((List.map (D.int .i64) (v6 ++ [v8.1])).length) c21, 1, 3, (List.map (D.int .i64) (v6 ++ [v8.1]))⟩], []⟩ (StLe.gen 3 [.old 0] [] rfl rfl rfl rfl rfl rfl rfl) rfl rfl ⟨a21, c21, rfl, rfl⟩
    ·replace hr := qg h18 hr
     replace hr := osi hr; subst hr
     exact AtRet.gen ⟨[.cells 106 [(.v (.slice a5 ((List.map D.bool v4).length) c5))], .cells 29 [(nU v6 a7 c7)], .cells 156 [(.fn (.func 110) [] [(.loc 0 0), (.loc 1 0), (.loc 2 0)])]], [⟨.slice a7 ((List.map (D.int .i64) v6).length) c7, 1, 3, (List.map (D.int .i64) v6)⟩], []⟩ (StLe.gen 3 [.old 0] [] rfl rfl rfl rfl rfl rfl rfl) rfl rfl ⟨a7, c7, rfl, rfl⟩
   ·replace hr := qg h15 hr
    refine AtLoop.mk ⟨Nat × (List Int) × Option Addr × Nat × Int, fun x => [(1, (iS v3)), (4, (.loc 2 0)), (5, (.loc 3 0)), (46, (tU v1.args a2 c2)), (47, (iS ((Tm.encL v1.args).length : Int))), (48, (iS x.2.2.2.2))], fun x => ⟨[.cells 106 [(.v (.slice a5 ((List.map D.bool v4).length) c5))], .cells 29 [(nU x.2.1 x.2.2.1 x.2.2.2.1)], .cells 156 [(.fn (.func 110) [] [(.loc 0 0), (.loc 1 0), (.loc 2 0)])], .cells 47 [(iS v1.op), (iS v1.hd), (iS v1.n), (tU v1.args a2 c2)], .imm [(bS v11)]], [⟨.slice x.2.2.1 ((List.map (D.int .i64) x.2.1).length) x.2.2.2.1, 1, 3, (List.map (D.int .i64) x.2.1)⟩], [(tQ v1.args a2 c2), (.slice a5 ((List.map D.bool v4).length) c5, .sl 1 (List.map D.bool v4))]⟩, fun x => x.1 ≤ N ∧ mode_scope_strict_1_L1 x.1 v1 v3 v4 x.2.1 x.2.2.2.2 = some r, fun x => x.1, (n, v6, a7, c7, 0), ⟨by omega, hr⟩, ⟨rfl, rfl, rfl, rfl, rfl, rfl, trivial⟩, (StLe.gen 5 [.old 0] [.old 0, .old 1] rfl rfl rfl rfl rfl rfl rfl), fun x _ => ⟨rfl, rfl⟩, ?_⟩
    rintro ⟨n, v33, a34, c34, v35⟩ HH
    obtain ⟨hn, hr⟩ : n ≤ N ∧ mode_scope_strict_1_L1 n v1 v3 v4 v33 v35 = some r := HH
    rcases n with _ | n
    ·exact qe hr
    rw [mode_scope_strict_1_L1.eq_2] at hr
    refine AtIf.mk (fun h36 => ?_) (fun h36 => ?_)
    ·replace hr := qf h36 hr
     obtain ⟨v37, h38, hr⟩ := bind_some hr
     obtain ⟨h39, h40⟩ := qi h38
     refine qd ttOK 0 rfl rfl rfl rfl h39 (Tm.encL_get h40) ?_
     intro a41 c41 _ _
     obtain ⟨v42, h43, hr⟩ := bind_some hr
     refine (qcq n v1 v35 a2 c2 _ h43).atR [0] rfl rfl rfl ?_
     rintro _ _ ⟨rfl, rfl⟩
     refine ⟨fun _ _ h => h, ?_⟩
     obtain ⟨v44, h45, hr⟩ := bind_some hr
     refine (ih n (by omega) v37 (IntKind.i64.wrap (v3 + v42)) v4 v33 a41 c41 a5 c5 a34 c34 _ h45).frameRA [0, 1, 2] [0] [2, 1] rfl rfl rfl rfl rfl rfl rfl rfl rfl ?_
     rintro _ _ ⟨a46, c46, rfl, rfl⟩
     refine ⟨rfl, [.cells 106 [(.v (.slice a5 ((List.map D.bool v4).length) c5))], .cells 29 [(nU v44 a46 c46)], .cells 156 [(.fn (.func 110) [] [(.loc 0 0), (.loc 1 0), (.loc 2 0)])]], rfl, ?_⟩
     exact ⟨(n, v44, a46, c46, (IntKind.i64.wrap (v35 + 1))), ⟨by omega, hr⟩, Nat.lt_succ_self _, ⟨rfl, rfl, rfl, rfl, rfl, rfl, trivial⟩, (StLe.gen 5 [.old 0] [.old 0, .old 1] rfl rfl rfl rfl rfl rfl rfl)⟩
    ·replace hr := qg h36 hr
     replace hr := osi hr; subst hr
     exact AtRet.gen ⟨[.cells 106 [(.v (.slice a5 ((List.map D.bool v4).length) c5))], .cells 29 [(nU v33 a34 c34)], .cells 156 [(.fn (.func 110) [] [(.loc 0 0), (.loc 1 0), (.loc 2 0)])]], [⟨.slice a34 ((List.map (D.int .i64) v33).length) c34, 1, 3, (List.map (D.int .i64) v33)⟩], []⟩ (StLe.gen 3 [.old 0] [] rfl rfl rfl rfl rfl rfl rfl) rfl rfl ⟨a34, c34, rfl, rfl⟩
  ·replace hr := qg h10 hr
   refine AtIf.mk (fun h => ff h) (fun _ => ?_)
   refine AtLoop.mk ⟨Nat × (List Int) × Option Addr × Nat × Int, fun x => [(1, (iS v3)), (4, (.loc 2 0)), (5, (.loc 3 0)), (46, (tU v1.args a2 c2)), (47, (iS ((Tm.encL v1.args).length : Int))), (48, (iS x.2.2.2.2))], fun x => ⟨[.cells 106 [(.v (.slice a5 ((List.map D.bool v4).length) c5))], .cells 29 [(nU x.2.1 x.2.2.1 x.2.2.2.1)], .cells 156 [(.fn (.func 110) [] [(.loc 0 0), (.loc 1 0), (.loc 2 0)])], .cells 47 [(iS v1.op), (iS v1.hd), (iS v1.n), (tU v1.args a2 c2)]], [⟨.slice x.2.2.1 ((List.map (D.int .i64) x.2.1).length) x.2.2.2.1, 1, 3, (List.map (D.int .i64) x.2.1)⟩], [(tQ v1.args a2 c2), (.slice a5 ((List.map D.bool v4).length) c5, .sl 1 (List.map D.bool v4))]⟩, fun x => x.1 ≤ N ∧ mode_scope_strict_1_L1 x.1 v1 v3 v4 x.2.1 x.2.2.2.2 = some r, fun x => x.1, (n, v6, a7, c7, 0), ⟨by omega, hr⟩, ⟨rfl, rfl, rfl, rfl, rfl, rfl, trivial⟩, (StLe.gen 4 [.old 0] [.old 0, .old 1] rfl rfl rfl rfl rfl rfl rfl), fun x _ => ⟨rfl, rfl⟩, ?_⟩
   rintro ⟨n, v58, a59, c59, v60⟩ HH
   obtain ⟨hn, hr⟩ : n ≤ N ∧ mode_scope_strict_1_L1 n v1 v3 v4 v58 v60 = some r := HH
   rcases n with _ | n
   ·exact qe hr
   rw [mode_scope_strict_1_L1.eq_2] at hr
   refine AtIf.mk (fun h61 => ?_) (fun h61 => ?_)
   ·replace hr := qf h61 hr
    obtain ⟨v62, h63, hr⟩ := bind_some hr
    obtain ⟨h64, h65⟩ := qi h63
    refine qd ttOK 0 rfl rfl rfl rfl h64 (Tm.encL_get h65) ?_
    intro a66 c66 _ _
    obtain ⟨v67, h68, hr⟩ := bind_some hr
    refine (qcq n v1 v60 a2 c2 _ h68).atR [0] rfl rfl rfl ?_
    rintro _ _ ⟨rfl, rfl⟩
    refine ⟨fun _ _ h => h, ?_⟩
    obtain ⟨v69, h70, hr⟩ := bind_some hr
    refine (ih n (by omega) v62 (IntKind.i64.wrap (v3 + v67)) v4 v58 a66 c66 a5 c5 a59 c59 _ h70).frameRA [0, 1, 2] [0] [2, 1] rfl rfl rfl rfl rfl rfl rfl rfl rfl ?_
    rintro _ _ ⟨a71, c71, rfl, rfl⟩
    refine ⟨rfl, [.cells 106 [(.v (.slice a5 ((List.map D.bool v4).length) c5))], .cells 29 [(nU v69 a71 c71)], .cells 156 [(.fn (.func 110) [] [(.loc 0 0), (.loc 1 0), (.loc 2 0)])]], rfl, ?_⟩
    exact ⟨(n, v69, a71, c71, (IntKind.i64.wrap (v60 + 1))), ⟨by omega, hr⟩, Nat.lt_succ_self _, ⟨rfl, rfl, rfl, rfl, rfl, rfl, trivial⟩, (StLe.gen 4 [.old 0] [.old 0, .old 1] rfl rfl rfl rfl rfl rfl rfl)⟩
   ·replace hr := qg h61 hr
    replace hr := osi hr; subst hr
    exact AtRet.gen ⟨[.cells 106 [(.v (.slice a5 ((List.map D.bool v4).length) c5))], .cells 29 [(nU v58 a59 c59)], .cells 156 [(.fn (.func 110) [] [(.loc 0 0), (.loc 1 0), (.loc 2 0)])]], [⟨.slice a59 ((List.map (D.int .i64) v58).length) c59, 1, 3, (List.map (D.int .i64) v58)⟩], []⟩ (StLe.gen 3 [.old 0] [] rfl rfl rfl rfl rfl rfl rfl) rfl rfl ⟨a59, c59, rfl, rfl⟩
theorem qdh (n : Nat) (v1 : Tm) (v3 : Int) (v4 : (List Bool)) (v6 : (List Int)) (a2 : OA) (c2 : Nat) (a5 : OA) (c5 : Nat) (a7 : OA) (c7 : Nat) (r : (List Int)) (hr : mode_scope_strict_1 n v1 v3 v4 v6 = some r) : Meets Tryz.prog (.val (.fn (.func 110) [] [(.loc 0 0), (.loc 1 0), (.loc 2 0)])) [(.agg [(iS v1.op), (iS v1.hd), (iS v1.n), (tU v1.args a2 c2)]), (iS v3)] ⟨[.cells 106 [(.v (.slice a5 ((List.map D.bool v4).length) c5))], .cells 29 [(nU v6 a7 c7)], .cells 156 [(.fn (.func 110) [] [(.loc 0 0), (.loc 1 0), (.loc 2 0)])]], [⟨.slice a7 ((List.map (D.int .i64) v6).length) c7, 1, 3, (List.map (D.int .i64) v6)⟩], [(tQ v1.args a2 c2), (.slice a5 ((List.map D.bool v4).length) c5, .sl 1 (List.map D.bool v4))]⟩ (fun o S' => ∃ (b1 : OA) (d1 : Nat), o = .ret (.tup []) ∧ S' = ⟨[.cells 106 [(.v (.slice a5 ((List.map D.bool v4).length) c5))], .cells 29 [(nU r b1 d1)], .cells 156 [(.fn (.func 110) [] [(.loc 0 0), (.loc 1 0), (.loc 2 0)])]], [⟨.slice b1 ((List.map (D.int .i64) r).length) d1, 1, 3, (List.map (D.int .i64) r)⟩], []⟩) := (qda n) n (Nat.le_refl _) v1 v3 v4 v6 a2 c2 a5 c5 a7 c7 r hr
def mode_scope_strict : Nat → (List Bool) → Tm → Option ((List Int))
 | 0, _, _ => none
 | n + 1, v1, v3 =>
  (mode_scope_strict_1 n v3 0 v1 ([])).bind (fun v5 =>
  some (v5))
theorem qd3 (n : Nat) (v1 : (List Bool)) (v3 : Tm) (a2 : OA) (c2 : Nat) (a4 : OA) (c4 : Nat) (r : (List Int)) (hr : mode_scope_strict n v1 v3 = some r) : Pure Tryz.prog (.val (.fn (.func 65) [] [])) [(.v (.slice a2 ((List.map D.bool v1).length) c2)), (.agg [(iS v3.op), (iS v3.hd), (iS v3.n), (tU v3.args a4 c4)])] [(.slice a2 ((List.map D.bool v1).length) c2, .sl 1 (List.map D.bool v1)), (tQ v3.args a4 c4)] (fun r' out => ∃ (b1 : OA) (d1 : Nat), r' = (nU r b1 d1) ∧ out = [(nQ r b1 d1)]) := by
 rcases n with _ | n
 ·exact qe hr
 rw [mode_scope_strict.eq_2] at hr
 refine qb (N := 12) (m := 0) (dt := fun _ => none) [] ttOK func65 rfl call65 ntmps65 rfl rfl rfl mixed (by kernel_rfl) ?_
 obtain ⟨v5, h6, hr⟩ := bind_some hr
 refine Meets.le (S' := ⟨[.cells 106 [(.v (.slice a2 ((List.map D.bool v1).length) c2))], .cells 47 [(iS v3.op), (iS v3.hd), (iS v3.n), (tU v3.args a4 c4)], .cells 29 [(.v (.slice none 0 0))], .cells 156 [(.fn (.func 110) [] [(.loc 0 0), (.loc 2 0), (.loc 3 0)])]], [⟨.slice none 0 0, 1, 3, []⟩], [(.slice a2 ((List.map D.bool v1).length) c2, .sl 1 (List.map D.bool v1)), (tQ v3.args a4 c4)]⟩) (StLe.gen 4 [.nil 1 3] [.old 0, .old 1] rfl rfl rfl rfl rfl rfl rfl) rfl ?_
 refine (qdh n v3 0 v1 ([]) a4 c4 a2 c2 none 0 _ h6).frameRA [0, 2, 3] [0] [1, 0] rfl rfl rfl rfl rfl rfl rfl rfl rfl ?_
 rintro _ _ ⟨a7, c7, rfl, rfl⟩
 refine ⟨rfl, [.cells 106 [(.v (.slice a2 ((List.map D.bool v1).length) c2))], .cells 29 [(nU v5 a7 c7)], .cells 156 [(.fn (.func 110) [] [(.loc 0 0), (.loc 2 0), (.loc 3 0)])]], rfl, ?_⟩
 replace hr := osi hr; subst hr
 exact qa [.froz 0] [(nQ v5 a7 c7)] rfl rfl ⟨a7, c7, rfl, rfl⟩
def cmp_isNaN : Nat → Int → Option (Bool)
 | 0, _ => none
 | n + 1, v1 =>
  some ((v1 != v1))
mutual
def R04_Short : Nat → Tm → Option (Int × Int × Bool)
 | 0, _ => none
 | n + 1, v1 =>
  R04_Short_L1 n v1 0
def R04_Short_L2 : Nat → Int → Tm → Int → Option (Int × Int × Bool)
 | 0, _, _, _ => none
 | n + 1, v11, v9, v29 =>
  cond (decide (v29 < v11)) (
  (idx v9.args v29).bind (fun v32 =>
  (R04_Short n v32).bind (fun v37 =>
  cond (((!v37.2.2) || (v37.1 != 1)) || (v37.2.1 != (IntKind.i64.wrap ((IntKind.i64.wrap (v11 - 1)) - v29)))) (
  some (0, 0, false)) (
  R04_Short_L2 n v11 v9 (IntKind.i64.wrap (v29 + 1)))))) (
  cond (v9.hd == 1) (
  some (v9.hd, (IntKind.i64.wrap (v9.n - v11)), (decide (v9.n ≥ v11)))) (
  some (v9.hd, v9.n, true)))
def R04_Short_L1 : Nat → Tm → Int → Option (Int × Int × Bool)
 | 0, _, _ => none
 | n + 1, v9, v11 =>
  cond (v9.op == 3) (
  (idx v9.args 0).bind (fun v13 =>
  R04_Short_L1 n v13 (IntKind.i64.wrap (v11 + 1)))) (
  cond ((v9.op != 4) || (((Tm.encL v9.args).length : Int) != v11)) (
  some (0, 0, false)) (
  R04_Short_L2 n v11 v9 0))
 end
mutual
def R14_State_pattern : Nat → Sta → (List Tm) → Int → Option (Bool)
 | 0, _, _, _ => none
 | n + 1, v1, v4, v6 =>
  R14_State_pattern_L1 n v4 v6 v1 ([]) 0
def R14_State_pattern_L2 : Nat → (List Int) → (Int × Int × Bool) → Int → Sta → (List Tm) → Int → Int → Option (Bool)
 | 0, _, _, _, _, _, _, _ => none
 | n + 1, v86, v95, v88, v1, v4, v6, v112 =>
  cond (decide (v112 < ((List.map (D.int .i64) v86).length : Int))) (
  cond (decide (0 ≤ v112 ∧ (v112).toNat < (List.map (D.int .i64) v86).length)) (
  (v86[(v112).toNat]?).bind (fun v118 =>
  cond (v118 == v95.2.1) (
  some (false)) (
  R14_State_pattern_L2 n v86 v95 v88 v1 v4 v6 (IntKind.i64.wrap (v112 + 1))))) none) (
  cond (decide ((List.map (D.int .i64) (v86 ++ [v95.2.1])).length ≤ 1000000)) (
  R14_State_pattern_L1 n v4 v6 v1 (v86 ++ [v95.2.1]) (IntKind.i64.wrap (v88 + 1))) none)
def R14_State_pattern_L1 : Nat → (List Tm) → Int → Sta → (List Int) → Int → Option (Bool)
 | 0, _, _, _, _, _ => none
 | n + 1, v4, v6, v1, v86, v88 =>
  cond (decide (v88 < ((Tm.encL v4).length : Int))) (
  (idx v4 v88).bind (fun v90 =>
  (R04_Short n v90).bind (fun v95 =>
  cond ((!v95.2.2) || (v95.1 != 1)) (
  some (false)) (
  cond (decide (v95.2.1 ≥ v6)) (
  (idx v1.opn (IntKind.i64.wrap ((IntKind.i64.wrap (((List.map D.bool v1.opn).length : Int) - 1)) - (IntKind.i64.wrap (v95.2.1 - v6))))).bind (fun v99 =>
  cond v99 (
  some (false)) (
  R14_State_pattern_L2 n v86 v95 v88 v1 v4 v6 0))) (
  R14_State_pattern_L2 n v86 v95 v88 v1 v4 v6 0))))) (
  some (true))
 end
def R03_Free : Nat → Tm → Option ((List Int))
 | 0, _ => none
 | n + 1, v1 =>
  cond (decide ((0 : Int) ≤ 0 ∧ (0 : Int) + (v1.height : Int) ≤ 1000000 ∧ ([] : List Int).length + v1.count ≤ 1000000)) (
  some ((headsF 1 v1 0 ([])))) none
theorem ql7 (n : Nat) (v1 : Tm) (a2 : OA) (c2 : Nat) (r : (List Int)) (hr : R03_Free n v1 = some r) : Pure Tryz.prog (.val (.fn (.func 71) [] [])) [(.agg [(iS v1.op), (iS v1.hd), (iS v1.n), (tU v1.args a2 c2)])] [(tQ v1.args a2 c2)] (fun r' out => ∃ (b1 : OA) (d1 : Nat), r' = (nU r b1 d1) ∧ out = [(nQ r b1 d1)]) := by
 rcases n with _ | n
 ·exact qe hr
 rw [R03_Free.eq_2] at hr
 refine qb (N := 5) (m := 0) (dt := fun _ => none) [] ttOK func71 rfl call71 ntmps71 rfl rfl rfl mixed (by kernel_rfl) ?_
 obtain ⟨h3, hr⟩ := qm hr
 refine Meets.nilRep 1 ?_
 refine (heads0 1 v1 0 ([]) a2 none c2 0 (of_decide_eq_true h3).1 (of_decide_eq_true h3).2.1 (of_decide_eq_true h3).2.2).atR [1, 0] rfl rfl rfl ?_
 rintro _ _ ⟨a4, c4, rfl, rfl⟩
 replace hr := osi hr; subst hr
 exact qa [.old 2] [(nQ (headsF 1 v1 0 ([])) a4 c4)] rfl rfl ⟨a4, c4, rfl, rfl⟩
def R14_State_With : Nat → Sta → Bool → Option (Sta)
 | 0, _, _ => none
 | n + 1, v1, v4 =>
  cond (decide ((List.map D.bool v1.opn).length ≤ 1000000)) (
  cond (decide ((List.map D.bool v1.known).length ≤ 1000000)) (
  cond (decide ((List.map D.bool (v1.opn ++ [v4])).length ≤ 1000000)) (
  cond (decide ((List.map D.bool (v1.known ++ [false])).length ≤ 1000000)) (
  some ((Sta.mk (v1.opn ++ [v4]) (v1.known ++ [false])))) none) none) none) none
def R03_below : Nat → Tm → Int → Option (Int)
 | 0, _, _ => none
 | n + 1, v1, v3 =>
  cond ((v1.op == 3) || ((v1.op == 2) && (v3 == 1))) (
  some (1)) (
  some (0))
theorem qjw (n : Nat) (v1 : Tm) (v3 : Int) (a2 : OA) (c2 : Nat) (r : Int) (hr : R03_below n v1 v3 = some r) : Pure Tryz.prog (.val (.fn (.func 115) [] [])) [(.agg [(iS v1.op), (iS v1.hd), (iS v1.n), (tU v1.args a2 c2)]), (iS v3)] [(tQ v1.args a2 c2)] (fun r' out => r' = (iS r) ∧ out = []) := by
 rcases n with _ | n
 ·exact qe hr
 rw [R03_below.eq_2] at hr
 refine qb (N := 17) (m := 0) (dt := fun _ => none) [] ttOK func115 rfl call115 ntmps115 rfl rfl rfl mixed (by kernel_rfl) ?_
 refine AtIf.mk (fun h4 => ?_) (fun h4 => ?_)
 ·replace hr := qf h4 hr
  replace hr := osi hr; subst hr
  exact qa [] [] rfl rfl ⟨rfl, rfl⟩
 ·replace hr := qg h4 hr
  replace hr := osi hr; subst hr
  exact qa [] [] rfl rfl ⟨rfl, rfl⟩
mutual
def R03_low : Nat → Tm → Int → Int → Option (Bool)
 | 0, _, _, _ => none
 | n + 1, v1, v3, v4 =>
  cond ((((v1.op == 4) && (v1.hd == 1)) && (decide (v1.n ≥ v3))) && (decide (v1.n ≤ v4))) (
  some (true)) (
  R03_low_L1 n v1 v3 v4 0)
def R03_low_L1 : Nat → Tm → Int → Int → Int → Option (Bool)
 | 0, _, _, _, _ => none
 | n + 1, v1, v3, v4, v17 =>
  cond (decide (v17 < ((Tm.encL v1.args).length : Int))) (
  (R03_below n v1 v17).bind (fun v19 =>
  (idx v1.args v17).bind (fun v21 =>
  (R03_low n v21 (IntKind.i64.wrap (v3 + v19)) (IntKind.i64.wrap (v4 + v19))).bind (fun v26 =>
  cond v26 (
  some (true)) (
  R03_low_L1 n v1 v3 v4 (IntKind.i64.wrap (v17 + 1))))))) (
  some (false))
 end
theorem ql9 : ∀ (N : Nat), (∀ (n : Nat), n ≤ N → ∀ (v1 : Tm) (v3 : Int) (v4 : Int) (a2 : OA) (c2 : Nat) (r : Bool), R03_low n v1 v3 v4 = some r → Pure Tryz.prog (.val (.fn (.func 68) [] [])) [(.agg [(iS v1.op), (iS v1.hd), (iS v1.n), (tU v1.args a2 c2)]), (iS v3), (iS v4)] [(tQ v1.args a2 c2)] (fun r' out => r' = (bS r) ∧ out = [])) := by
 intro N
 induction N with
 | zero =>
  intro n hn v1 v3 v4 a2 c2 r hr; obtain rfl : n = 0 := (by omega); exact qe hr
 | succ N ih =>
  intro n hn v1 v3 v4 a2 c2 r hr
  rcases n with _ | n
  ·exact qe hr
  replace hn : n ≤ N := by omega
  rw [R03_low.eq_2] at hr
  refine qb (N := 51) (m := 0) (dt := fun _ => none) [] ttOK func68 rfl call68 ntmps68 rfl rfl rfl mixed (by kernel_rfl) ?_
  refine AtIf.mk (fun h5 => ?_) (fun h5 => ?_)
  ·replace hr := qf h5 hr
   replace hr := osi hr; subst hr
   exact qa [] [] rfl rfl ⟨rfl, rfl⟩
  ·replace hr := qg h5 hr
   refine AtLoop.mk ⟨Nat × Int, fun x => [(1, (iS v3)), (2, (iS v4)), (3, (.loc 0 0)), (7, (iS x.2))], fun x => ⟨[.cells 47 [(iS v1.op), (iS v1.hd), (iS v1.n), (tU v1.args a2 c2)]], [], [(tQ v1.args a2 c2)]⟩, fun x => x.1 ≤ N ∧ R03_low_L1 x.1 v1 v3 v4 x.2 = some r, fun x => x.1, (n, 0), ⟨by omega, hr⟩, ⟨rfl, rfl, rfl, rfl, trivial⟩, (StLe.gen 1 [] [.old 0] rfl rfl rfl rfl rfl rfl rfl), fun x _ => ⟨rfl, rfl⟩, ?_⟩
   rintro ⟨n, v17⟩ HH
   obtain ⟨hn, hr⟩ : n ≤ N ∧ R03_low_L1 n v1 v3 v4 v17 = some r := HH
   rcases n with _ | n
   ·exact qe hr
   rw [R03_low_L1.eq_2] at hr
   refine AtIf.mk (fun h18 => ?_) (fun h18 => ?_)
   ·replace hr := qf h18 hr
    obtain ⟨v19, h20, hr⟩ := bind_some hr
    refine (qjw n v1 v17 a2 c2 _ h20).atR [0] rfl rfl rfl ?_
    rintro _ _ ⟨rfl, rfl⟩
    obtain ⟨v21, h22, hr⟩ := bind_some hr
    obtain ⟨h23, h24⟩ := qi h22
    refine qd ttOK 0 rfl rfl rfl rfl h23 (Tm.encL_get h24) ?_
    intro a25 c25 _ _
    obtain ⟨v26, h27, hr⟩ := bind_some hr
    refine (ih n (by omega) v21 (IntKind.i64.wrap (v3 + v19)) (IntKind.i64.wrap (v4 + v19)) a25 c25 _ h27).atR [1] rfl rfl rfl ?_
    rintro _ _ ⟨rfl, rfl⟩
    refine AtIf.mk (fun h28 => ?_) (fun h28 => ?_)
    ·replace hr := qf h28 hr
     replace hr := osi hr; subst hr
     exact qa [] [] rfl rfl ⟨rfl, rfl⟩
    ·replace hr := qg h28 hr
     exact ⟨(n, (IntKind.i64.wrap (v17 + 1))), ⟨by omega, hr⟩, Nat.lt_succ_self _, ⟨rfl, rfl, rfl, rfl, trivial⟩, (StLe.gen 1 [] [.old 0] rfl rfl rfl rfl rfl rfl rfl)⟩
   ·replace hr := qg h18 hr
    replace hr := osi hr; subst hr
    exact qa [] [] rfl rfl ⟨rfl, rfl⟩
theorem qm4 (n : Nat) (v1 : Tm) (v3 : Int) (v4 : Int) (a2 : OA) (c2 : Nat) (r : Bool) (hr : R03_low n v1 v3 v4 = some r) : Pure Tryz.prog (.val (.fn (.func 68) [] [])) [(.agg [(iS v1.op), (iS v1.hd), (iS v1.n), (tU v1.args a2 c2)]), (iS v3), (iS v4)] [(tQ v1.args a2 c2)] (fun r' out => r' = (bS r) ∧ out = []) := (ql9 n) n (Nat.le_refl _) v1 v3 v4 a2 c2 r hr
def R03_Occurs : Nat → Tm → Int → Option (Bool)
 | 0, _, _ => none
 | n + 1, v1, v3 =>
  cond (decide (v3 ≥ 0)) (
  (R03_low n v1 v3 v3).bind (fun v5 =>
  some (v5))) (
  some (false))
theorem qjo (n : Nat) (v1 : Tm) (v3 : Int) (a2 : OA) (c2 : Nat) (r : Bool) (hr : R03_Occurs n v1 v3 = some r) : Pure Tryz.prog (.val (.fn (.func 24) [] [])) [(.agg [(iS v1.op), (iS v1.hd), (iS v1.n), (tU v1.args a2 c2)]), (iS v3)] [(tQ v1.args a2 c2)] (fun r' out => r' = (bS r) ∧ out = []) := by
 rcases n with _ | n
 ·exact qe hr
 rw [R03_Occurs.eq_2] at hr
 refine qb (N := 13) (m := 0) (dt := fun _ => none) [] ttOK func24 rfl call24 ntmps24 rfl rfl rfl mixed (by kernel_rfl) ?_
 refine AtGuard.mk (fun h4 => ?_) (fun h4 => ?_)
 ·replace hr := qf h4 hr
  obtain ⟨v5, h6, hr⟩ := bind_some hr
  refine (qm4 n v1 v3 v3 a2 c2 _ h6).atR [0] rfl rfl rfl ?_
  rintro _ _ ⟨rfl, rfl⟩
  replace hr := osi hr; subst hr
  exact qa [] [] rfl rfl ⟨rfl, rfl⟩
 ·replace hr := qg h4 hr
  replace hr := osi hr; subst hr
  exact qa [] [] rfl rfl ⟨rfl, rfl⟩
mutual
def R13_Dependent : Nat → Tm → Option ((List Bool))
 | 0, _ => none
 | n + 1, v1 =>
  R13_Dependent_L1 n v1 ([])
def R13_Dependent_L1 : Nat → Tm → (List Bool) → Option ((List Bool))
 | 0, _, _ => none
 | n + 1, v19, v21 =>
  cond (v19.op == 2) (
  (idx v19.args 1).bind (fun v24 =>
  (R03_Occurs n v24 0).bind (fun v29 =>
  cond (decide ((List.map D.bool (v21 ++ [v29])).length ≤ 1000000)) (
  (idx v19.args 1).bind (fun v34 =>
  R13_Dependent_L1 n v34 (v21 ++ [v29]))) none))) (
  some (v21))
 end
theorem qfu (n : Nat) (v1 : Tm) (a2 : OA) (c2 : Nat) (r : (List Bool)) (hr : R13_Dependent n v1 = some r) : Pure Tryz.prog (.val (.fn (.func 50) [] [])) [(.agg [(iS v1.op), (iS v1.hd), (iS v1.n), (tU v1.args a2 c2)])] [(tQ v1.args a2 c2)] (fun r' out => ∃ (b1 : OA) (d1 : Nat), r' = (.v (.slice b1 ((List.map D.bool r).length) d1)) ∧ out = [(.slice b1 ((List.map D.bool r).length) d1, .sl 1 (List.map D.bool r))]) := by
 rcases n with _ | n
 ·exact qe hr
 rw [R13_Dependent.eq_2] at hr
 refine qb (N := 23) (m := 0) (dt := fun _ => none) [] ttOK func50 rfl call50 ntmps50 rfl rfl rfl mixed (by kernel_rfl) ?_
 refine AtLoop.mkR ⟨Nat × Tm × Option Addr × Nat × (List Bool) × Option Addr × Nat, fun x => [(3, (.v (.slice x.2.2.2.2.2.1 ((List.map D.bool x.2.2.2.2.1).length) x.2.2.2.2.2.2))), (4, (.loc 1 0))], fun x => ⟨[.cells 47 [(iS v1.op), (iS v1.hd), (iS v1.n), (tU v1.args a2 c2)], .cells 47 [(iS x.2.1.op), (iS x.2.1.hd), (iS x.2.1.n), (tU x.2.1.args x.2.2.1 x.2.2.2.1)]], [⟨.slice x.2.2.2.2.2.1 ((List.map D.bool x.2.2.2.2.1).length) x.2.2.2.2.2.2, 1, 4, (List.map D.bool x.2.2.2.2.1)⟩], [(tQ x.2.1.args x.2.2.1 x.2.2.2.1), (tQ v1.args a2 c2)]⟩, fun x => R13_Dependent_L1 x.1 x.2.1 x.2.2.2.2.1 = some r, fun x => x.1, (n, v1, a2, c2, [], none, 0), hr, ⟨rfl, rfl, trivial⟩, (StLe.gen 2 [.nil 1 4] [.old 0, .old 0] rfl rfl rfl rfl rfl rfl rfl), fun x _ => ⟨rfl, rfl⟩, ?_⟩
 rintro ⟨n, v19, a20, c20, v21, a22, c22⟩ HH
 have hr : R13_Dependent_L1 n v19 v21 = some r := HH
 rcases n with _ | n
 ·exact qe hr
 rw [R13_Dependent_L1.eq_2] at hr
 refine AtIf.mk (fun h23 => ?_) (fun h23 => ?_)
 ·replace hr := qf h23 hr
  obtain ⟨v24, h25, hr⟩ := bind_some hr
  obtain ⟨h26, h27⟩ := qi h25
  refine qd ttOK 0 rfl rfl rfl rfl h26 (Tm.encL_get h27) ?_
  intro a28 c28 _ _
  obtain ⟨v29, h30, hr⟩ := bind_some hr
  refine (qjo n v24 0 a28 c28 _ h30).atR [2] rfl rfl rfl ?_
  rintro _ _ ⟨rfl, rfl⟩
  refine ql (n := 1) ttOK 1 [.bool v29] (ds' := (List.map D.bool ([v29]))) rfl (by kernel_rfl) ⟨⟨rfl, rfl, rfl, rfl⟩, trivial⟩ rfl rfl (by decide) (by decide) ?_
  intro a31
  obtain ⟨h32, hr⟩ := qm hr
  refine qu (ds' := (List.map D.bool (v21 ++ [v29]))) ttOK 1 0 3 rfl (by kernel_rfl) rfl rfl rfl rfl (by simp only [List.map_append]) h32 (by decide) ?_
  intro a33 c33
  obtain ⟨v34, h35, hr⟩ := bind_some hr
  obtain ⟨h36, h37⟩ := qi h35
  refine qd ttOK 0 rfl rfl rfl rfl h36 (Tm.encL_get h37) ?_
  intro a38 c38 _ _
  exact ⟨(n, v34, a38, c38, (v21 ++ [v29]), a33, c33), [0, 3], hr, Nat.lt_succ_self _, ⟨rfl, rfl, trivial⟩, (StLeR.gen [0, 3] [.old 0] [.old 4, .old 1] rfl rfl rfl rfl rfl rfl rfl), rfl⟩
 ·replace hr := qg h23 hr
  replace hr := osi hr; subst hr
  exact qa [.froz 0] [(.slice a22 ((List.map D.bool v21).length) c22, .sl 1 (List.map D.bool v21))] rfl rfl ⟨a22, c22, rfl, rfl⟩
def R14_Dependent : Nat → Tm → Option ((List Bool))
 | 0, _ => none
 | n + 1, v1 =>
  (R13_Dependent n v1).bind (fun v3 =>
  some (v3))
theorem qfr (n : Nat) (v1 : Tm) (a2 : OA) (c2 : Nat) (r : (List Bool)) (hr : R14_Dependent n v1 = some r) : Pure Tryz.prog (.val (.fn (.func 17) [] [])) [(.agg [(iS v1.op), (iS v1.hd), (iS v1.n), (tU v1.args a2 c2)])] [(tQ v1.args a2 c2)] (fun r' out => ∃ (b1 : OA) (d1 : Nat), r' = (.v (.slice b1 ((List.map D.bool r).length) d1)) ∧ out = [(.slice b1 ((List.map D.bool r).length) d1, .sl 1 (List.map D.bool r))]) := by
 rcases n with _ | n
 ·exact qe hr
 rw [R14_Dependent.eq_2] at hr
 refine qb (N := 5) (m := 0) (dt := fun _ => none) [] ttOK func17 rfl call17 ntmps17 rfl rfl rfl mixed (by kernel_rfl) ?_
 obtain ⟨v3, h4, hr⟩ := bind_some hr
 refine (qfu n v1 a2 c2 _ h4).atR [0] rfl rfl rfl ?_
 rintro _ _ ⟨a5, c5, rfl, rfl⟩
 replace hr := osi hr; subst hr
 exact qa [.old 1] [(.slice a5 ((List.map D.bool v3).length) c5, .sl 1 (List.map D.bool v3))] rfl rfl ⟨a5, c5, rfl, rfl⟩
mutual
def R14_Right : Nat → (List Dc) → Md → Option (Bool)
 | 0, _, _ => none
 | n + 1, v1, v3 =>
  (R05_Has n v1 v3.family).bind (fun v5 =>
  cond (!v5) (
  some (false)) (
  (R05_IsFamily n v1 v3.family).bind (fun v8 =>
  cond (!v8) (
  some (false)) (
  (idx v1 v3.family).bind (fun v11 =>
  (R14_Dependent n v11.cls).bind (fun v16 =>
  cond (((List.map (D.int .i64) v3.signs).length : Int) != ((List.map D.bool v16).length : Int)) (
  some (false)) (
  qhd n v3 0)))))))
def qhd : Nat → Md → Int → Option (Bool)
 | 0, _, _ => none
 | n + 1, v3, v31 =>
  cond (decide (v31 < ((List.map (D.int .i64) v3.signs).length : Int))) (
  (idx v3.signs v31).bind (fun v33 =>
  cond (decide (v33 < 1)) (
  some (false)) (
  (idx v3.signs v31).bind (fun v38 =>
  cond (decide (v38 > 3)) (
  some (false)) (
  qhd n v3 (IntKind.i64.wrap (v31 + 1))))))) (
  some (true))
 end
def mode_isMode_1 : Nat → Int → Option (Bool)
 | 0, _ => none
 | n + 1, v1 =>
  some (((decide (v1 < 1)) || (decide (v1 > 3))))
theorem qfz (n : Nat) (v1 : Int)  (r : Bool) (hr : mode_isMode_1 n v1 = some r) : Pure Tryz.prog (.val (.fn (.func 136) [] [])) [(iS v1)] [] (fun r' out => r' = (bS r) ∧ out = []) := by
 rcases n with _ | n
 ·exact qe hr
 rw [mode_isMode_1.eq_2] at hr
 refine qb (N := 9) (m := 0) (dt := fun _ => none) [] ttOK func136 rfl call136 ntmps136 rfl rfl rfl mixed (by kernel_rfl) ?_
 replace hr := osi hr; subst hr
 exact qa [] [] rfl rfl ⟨rfl, rfl⟩
mutual
def slices_IndexFunc_mode_isMode_1 : Nat → (List Int) → Option (Int)
 | 0, _ => none
 | n + 1, v1 =>
  slices_IndexFunc_mode_isMode_1_L1 n v1 0
def slices_IndexFunc_mode_isMode_1_L1 : Nat → (List Int) → Int → Option (Int)
 | 0, _, _ => none
 | n + 1, v1, v11 =>
  cond (decide (v11 < ((List.map (D.int .i64) v1).length : Int))) (
  (idx v1 v11).bind (fun v13 =>
  (mode_isMode_1 n v13).bind (fun v17 =>
  cond v17 (
  some (v11)) (
  slices_IndexFunc_mode_isMode_1_L1 n v1 (IntKind.i64.wrap (v11 + 1)))))) (
  some ((-1)))
 end
theorem qbl (n : Nat) (v1 : (List Int)) (a2 : OA) (c2 : Nat) (r : Int) (hr : slices_IndexFunc_mode_isMode_1 n v1 = some r) : Pure Tryz.prog (.val (.fn (.func 169) [] [])) [(nU v1 a2 c2), (.fn (.func 136) [] [])] [(nQ v1 a2 c2)] (fun r' out => r' = (iS r) ∧ out = []) := by
 rcases n with _ | n
 ·exact qe hr
 rw [slices_IndexFunc_mode_isMode_1.eq_2] at hr
 refine qb (N := 19) (m := 0) (dt := fun _ => none) [] ttOK func169 rfl call169 ntmps169 rfl rfl rfl mixed (by kernel_rfl) ?_
 refine AtLoop.mk ⟨Nat × Int, fun x => [(0, (nU v1 a2 c2)), (1, (.fn (.func 136) [] [])), (7, (iS ((List.map (D.int .i64) v1).length : Int))), (8, (iS x.2))], fun x => ⟨[], [], [(nQ v1 a2 c2)]⟩, fun x => slices_IndexFunc_mode_isMode_1_L1 x.1 v1 x.2 = some r, fun x => x.1, (n, 0), hr, ⟨rfl, rfl, rfl, rfl, trivial⟩, (StLe.gen 0 [] [.old 0] rfl rfl rfl rfl rfl rfl rfl), fun x _ => ⟨rfl, rfl⟩, ?_⟩
 rintro ⟨n, v11⟩ HH
 have hr : slices_IndexFunc_mode_isMode_1_L1 n v1 v11 = some r := HH
 rcases n with _ | n
 ·exact qe hr
 rw [slices_IndexFunc_mode_isMode_1_L1.eq_2] at hr
 refine AtIf.mk (fun h12 => ?_) (fun h12 => ?_)
 ·replace hr := qf h12 hr
  obtain ⟨v13, h14, hr⟩ := bind_some hr
  obtain ⟨h15, h16⟩ := qi h14
  refine qd ttOK 0 rfl rfl rfl rfl h15 (qav (D.int .i64) h16) ?_
  obtain ⟨v17, h18, hr⟩ := bind_some hr
  refine (qfz n v13 _ h18).atR [] rfl rfl rfl ?_
  rintro _ _ ⟨rfl, rfl⟩
  refine AtIf.mk (fun h19 => ?_) (fun h19 => ?_)
  ·replace hr := qf h19 hr
   replace hr := osi hr; subst hr
   exact qa [] [] rfl rfl ⟨rfl, rfl⟩
  ·replace hr := qg h19 hr
   exact ⟨(n, (IntKind.i64.wrap (v11 + 1))), hr, Nat.lt_succ_self _, ⟨rfl, rfl, rfl, rfl, trivial⟩, (StLe.gen 0 [] [.old 0] rfl rfl rfl rfl rfl rfl rfl)⟩
 ·replace hr := qg h12 hr
  replace hr := osi hr; subst hr
  exact qa [] [] rfl rfl ⟨rfl, rfl⟩
def slices_ContainsFunc_mode_isMode_1 : Nat → (List Int) → Option (Bool)
 | 0, _ => none
 | n + 1, v1 =>
  (slices_IndexFunc_mode_isMode_1 n v1).bind (fun v3 =>
  some ((decide (v3 ≥ 0))))
theorem qbf (n : Nat) (v1 : (List Int)) (a2 : OA) (c2 : Nat) (r : Bool) (hr : slices_ContainsFunc_mode_isMode_1 n v1 = some r) : Pure Tryz.prog (.val (.fn (.func 135) [] [])) [(nU v1 a2 c2), (.fn (.func 136) [] [])] [(nQ v1 a2 c2)] (fun r' out => r' = (bS r) ∧ out = []) := by
 rcases n with _ | n
 ·exact qe hr
 rw [slices_ContainsFunc_mode_isMode_1.eq_2] at hr
 refine qb (N := 9) (m := 0) (dt := fun _ => none) [] ttOK func135 rfl call135 ntmps135 rfl rfl rfl mixed (by kernel_rfl) ?_
 obtain ⟨v3, h4, hr⟩ := bind_some hr
 refine (qbl n v1 a2 c2 _ h4).atR [0] rfl rfl rfl ?_
 rintro _ _ ⟨rfl, rfl⟩
 replace hr := osi hr; subst hr
 exact qa [] [] rfl rfl ⟨rfl, rfl⟩
def mode_isMode : Nat → (List Dc) → Md → Option (Bool)
 | 0, _, _ => none
 | n + 1, v1, v3 =>
  cond ((decide (v3.family < 0)) || (decide (v3.family ≥ ((Dc.encL v1).length : Int)))) (
  some (false)) (
  (sign_Family n v1 v3.family).bind (fun v6 =>
  cond (!v6) (
  some (false)) (
  (idx v1 v3.family).bind (fun v9 =>
  (term_Domains n v9.cls).bind (fun v14 =>
  cond (((Tm.encL v14.1).length : Int) == ((List.map (D.int .i64) v3.signs).length : Int)) (
  (slices_ContainsFunc_mode_isMode_1 n v3.signs).bind (fun v19 =>
  some ((!v19)))) (
  some (false)))))))
theorem qhi (n : Nat) (v1 : (List Dc)) (v3 : Md) (a2 : OA) (c2 : Nat) (a4 : OA) (c4 : Nat) (r : Bool) (hr : mode_isMode n v1 v3 = some r) : Pure Tryz.prog (.val (.fn (.func 96) [] [])) [(.v (.slice a2 ((Dc.encL v1).length) c2)), (.agg [(iS v3.family), (nU v3.signs a4 c4)])] [(.slice a2 ((Dc.encL v1).length) c2, .sl 6 (Dc.encL v1)), (nQ v3.signs a4 c4)] (fun r' out => r' = (bS r) ∧ out = []) := by
 rcases n with _ | n
 ·exact qe hr
 rw [mode_isMode.eq_2] at hr
 refine qb (N := 46) (m := 0) (dt := fun _ => none) [] ttOK func96 rfl call96 ntmps96 rfl rfl rfl mixed (by kernel_rfl) ?_
 refine AtGuard.mk (fun h5 => ?_) (fun h5 => ?_)
 ·replace hr := qg h5 hr
  obtain ⟨v6, h7, hr⟩ := bind_some hr
  refine (qcd n v1 v3.family a2 c2 _ h7).atR [0] rfl rfl rfl ?_
  rintro _ _ ⟨rfl, rfl⟩
  refine AtIf.mk (fun h8 => ?_) (fun h8 => ?_)
  ·replace hr := qf h8 hr
   replace hr := osi hr; subst hr
   exact qa [] [] rfl rfl ⟨rfl, rfl⟩
  ·replace hr := qg h8 hr
   obtain ⟨v9, h10, hr⟩ := bind_some hr
   obtain ⟨h11, h12⟩ := qi h10
   refine qd ttOK 0 rfl rfl rfl rfl h11 (Dc.encL_get h12) ?_
   intro a13 c13 _ _
   obtain ⟨v14, h15, hr⟩ := bind_some hr
   refine (qay n v9.cls a13 c13 _ h15).atR [2] rfl rfl rfl ?_
   rintro _ _ ⟨a16, c16, a17, c17, rfl, rfl⟩
   refine AtGuard.mk (fun h18 => ?_) (fun h18 => ?_)
   ·replace hr := qf h18 hr
    obtain ⟨v19, h20, hr⟩ := bind_some hr
    refine (qbf n v3.signs a4 c4 _ h20).atR [1] rfl rfl rfl ?_
    rintro _ _ ⟨rfl, rfl⟩
    replace hr := osi hr; subst hr
    exact qa [] [] rfl rfl ⟨rfl, rfl⟩
   ·replace hr := qg h18 hr
    replace hr := osi hr; subst hr
    exact qa [] [] rfl rfl ⟨rfl, rfl⟩
 ·replace hr := qf h5 hr
  refine AtIf.mk (fun _ => ?_) (fun h => tf h)
  replace hr := osi hr; subst hr
  exact qa [] [] rfl rfl ⟨rfl, rfl⟩
def R05_IsName : Nat → ByteArray → Option (Bool)
 | 0, _ => none
 | n + 1, v1 =>
  some (((isSmallF v1) && (!(v1.toList == (⟨#[116, 121, 112, 101]⟩ : ByteArray).toList))))
theorem qip (n : Nat) (v1 : ByteArray)  (r : Bool) (hr : R05_IsName n v1 = some r) : Pure Tryz.prog (.val (.fn (.func 84) [] [])) [(sS v1)] [] (fun r' out => r' = (bS r) ∧ out = []) := by
 rcases n with _ | n
 ·exact qe hr
 rw [R05_IsName.eq_2] at hr
 refine qb (N := 9) (m := 0) (dt := fun _ => none) [] ttOK func84 rfl call84 ntmps84 rfl rfl rfl mixed (by kernel_rfl) ?_
 refine (qi4 v1).atR [] rfl rfl rfl ?_
 rintro _ _ ⟨rfl, rfl⟩
 replace hr := osi hr; subst hr
 exact qa [] [] rfl rfl ⟨rfl, rfl⟩
def R03_Constants : Nat → Tm → Option ((List Int))
 | 0, _ => none
 | n + 1, v1 =>
  cond (decide ((0 : Int) ≤ 0 ∧ (0 : Int) + (v1.height : Int) ≤ 1000000 ∧ ([] : List Int).length + v1.count ≤ 1000000)) (
  some ((headsF 2 v1 0 ([])))) none
theorem qfy (n : Nat) (v1 : Tm) (a2 : OA) (c2 : Nat) (r : (List Int)) (hr : R03_Constants n v1 = some r) : Pure Tryz.prog (.val (.fn (.func 129) [] [])) [(.agg [(iS v1.op), (iS v1.hd), (iS v1.n), (tU v1.args a2 c2)])] [(tQ v1.args a2 c2)] (fun r' out => ∃ (b1 : OA) (d1 : Nat), r' = (nU r b1 d1) ∧ out = [(nQ r b1 d1)]) := by
 rcases n with _ | n
 ·exact qe hr
 rw [R03_Constants.eq_2] at hr
 refine qb (N := 5) (m := 0) (dt := fun _ => none) [] ttOK func129 rfl call129 ntmps129 rfl rfl rfl mixed (by kernel_rfl) ?_
 obtain ⟨h3, hr⟩ := qm hr
 refine Meets.nilRep 1 ?_
 refine (heads0 2 v1 0 ([]) a2 none c2 0 (of_decide_eq_true h3).1 (of_decide_eq_true h3).2.1 (of_decide_eq_true h3).2.2).atR [1, 0] rfl rfl rfl ?_
 rintro _ _ ⟨a4, c4, rfl, rfl⟩
 replace hr := osi hr; subst hr
 exact qa [.old 2] [(nQ (headsF 2 v1 0 ([])) a4 c4)] rfl rfl ⟨a4, c4, rfl, rfl⟩
def R03_Metas : Nat → Tm → Option ((List Int))
 | 0, _ => none
 | n + 1, v1 =>
  cond (decide ((0 : Int) ≤ 0 ∧ (0 : Int) + (v1.height : Int) ≤ 1000000 ∧ ([] : List Int).length + v1.count ≤ 1000000)) (
  some ((headsF 3 v1 0 ([])))) none
theorem qjy (n : Nat) (v1 : Tm) (a2 : OA) (c2 : Nat) (r : (List Int)) (hr : R03_Metas n v1 = some r) : Pure Tryz.prog (.val (.fn (.func 130) [] [])) [(.agg [(iS v1.op), (iS v1.hd), (iS v1.n), (tU v1.args a2 c2)])] [(tQ v1.args a2 c2)] (fun r' out => ∃ (b1 : OA) (d1 : Nat), r' = (nU r b1 d1) ∧ out = [(nQ r b1 d1)]) := by
 rcases n with _ | n
 ·exact qe hr
 rw [R03_Metas.eq_2] at hr
 refine qb (N := 5) (m := 0) (dt := fun _ => none) [] ttOK func130 rfl call130 ntmps130 rfl rfl rfl mixed (by kernel_rfl) ?_
 obtain ⟨h3, hr⟩ := qm hr
 refine Meets.nilRep 1 ?_
 refine (heads0 3 v1 0 ([]) a2 none c2 0 (of_decide_eq_true h3).1 (of_decide_eq_true h3).2.1 (of_decide_eq_true h3).2.2).atR [1, 0] rfl rfl rfl ?_
 rintro _ _ ⟨a4, c4, rfl, rfl⟩
 replace hr := osi hr; subst hr
 exact qa [.old 2] [(nQ (headsF 3 v1 0 ([])) a4 c4)] rfl rfl ⟨a4, c4, rfl, rfl⟩
def R05_closed : Nat → Tm → Int → Option (Bool)
 | 0, _, _ => none
 | n + 1, v1, v3 =>
  (R03_Constants n v1).bind (fun v4 =>
  (R03_Free n v1).bind (fun v7 =>
  cond (((List.map (D.int .i64) v7).length : Int) == 0) (
  (R03_Metas n v1).bind (fun v11 =>
  cond (((List.map (D.int .i64) v11).length : Int) == 0) (
  cond (((List.map (D.int .i64) v4).length : Int) == 0) (
  some (true)) (
  (idx v4 (IntKind.i64.wrap (((List.map (D.int .i64) v4).length : Int) - 1))).bind (fun v16 =>
  some ((decide (v16 < v3)))))) (
  some (false)))) (
  some (false))))
theorem qjn (n : Nat) (v1 : Tm) (v3 : Int) (a2 : OA) (c2 : Nat) (r : Bool) (hr : R05_closed n v1 v3 = some r) : Pure Tryz.prog (.val (.fn (.func 85) [] [])) [(.agg [(iS v1.op), (iS v1.hd), (iS v1.n), (tU v1.args a2 c2)]), (iS v3)] [(tQ v1.args a2 c2)] (fun r' out => r' = (bS r) ∧ out = []) := by
 rcases n with _ | n
 ·exact qe hr
 rw [R05_closed.eq_2] at hr
 refine qb (N := 33) (m := 0) (dt := fun _ => none) [] ttOK func85 rfl call85 ntmps85 rfl rfl rfl mixed (by kernel_rfl) ?_
 obtain ⟨v4, h5, hr⟩ := bind_some hr
 refine (qfy n v1 a2 c2 _ h5).atR [0] rfl rfl rfl ?_
 rintro _ _ ⟨a6, c6, rfl, rfl⟩
 obtain ⟨v7, h8, hr⟩ := bind_some hr
 refine (ql7 n v1 a2 c2 _ h8).atR [0] rfl rfl rfl ?_
 rintro _ _ ⟨a9, c9, rfl, rfl⟩
 refine AtGuard.mk (fun h10 => ?_) (fun h10 => ?_)
 ·replace hr := qf h10 hr
  obtain ⟨v11, h12, hr⟩ := bind_some hr
  refine (qjy n v1 a2 c2 _ h12).atR [0] rfl rfl rfl ?_
  rintro _ _ ⟨a13, c13, rfl, rfl⟩
  refine AtGuard.mk (fun h14 => ?_) (fun h14 => ?_)
  ·replace hr := qf h14 hr
   refine AtGuard.mk (fun h15 => ?_) (fun h15 => ?_)
   ·replace hr := qg h15 hr
    obtain ⟨v16, h17, hr⟩ := bind_some hr
    obtain ⟨h18, h19⟩ := qi h17
    refine qd ttOK 1 rfl rfl rfl rfl h18 (qav (D.int .i64) h19) ?_
    replace hr := osi hr; subst hr
    exact qa [] [] rfl rfl ⟨rfl, rfl⟩
   ·replace hr := qf h15 hr
    replace hr := osi hr; subst hr
    exact qa [] [] rfl rfl ⟨rfl, rfl⟩
  ·replace hr := qg h14 hr
   replace hr := osi hr; subst hr
   exact qa [] [] rfl rfl ⟨rfl, rfl⟩
 ·replace hr := qg h10 hr
  refine AtGuard.mk (fun h => ff h) (fun _ => ?_)
  replace hr := osi hr; subst hr
  exact qa [] [] rfl rfl ⟨rfl, rfl⟩
mutual
def R05_formed : Nat → (List Dc) → Dc → Option (Bool)
 | 0, _, _ => none
 | n + 1, v1, v3 =>
  (R05_IsName n v3.name).bind (fun v5 =>
  cond (!v5) (
  some (false)) (
  cond (!(refProper v3.cls)) (
  some (false)) (
  (R05_closed n v3.cls ((Dc.encL v1).length : Int)).bind (fun v9 =>
  cond (!v9) (
  some (false)) (
  R05_formed_L1 n v1 v3 0)))))
def R05_formed_L1 : Nat → (List Dc) → Dc → Int → Option (Bool)
 | 0, _, _, _ => none
 | n + 1, v1, v3, v19 =>
  cond (decide (v19 < ((Dc.encL v1).length : Int))) (
  (idx v1 v19).bind (fun v21 =>
  cond (v21.name.toList == v3.name.toList) (
  some (false)) (
  R05_formed_L1 n v1 v3 (IntKind.i64.wrap (v19 + 1))))) (
  (R03_Split n v3.cls).bind (fun v27 =>
  cond (v27.2.op == 4) (
  cond (v27.2.hd != 2) (
  some (false)) (
  (R05_family n v1 v27.2.n).bind (fun v33 =>
  cond (!v33) (
  some (false)) (
  some (((((v27.2.op == 1) || (v27.2.op == 4)) && (decide (v3.implicit ≥ 0))) && (decide (v3.implicit ≤ ((Tm.encL v27.1).length : Int))))))))) (
  some (((((v27.2.op == 1) || (v27.2.op == 4)) && (decide (v3.implicit ≥ 0))) && (decide (v3.implicit ≤ ((Tm.encL v27.1).length : Int))))))))
 end
theorem qif (n : Nat) (v1 : (List Dc)) (v3 : Dc) (a2 : OA) (c2 : Nat) (a4 : OA) (c4 : Nat) (r : Bool) (hr : R05_formed n v1 v3 = some r) : Pure Tryz.prog (.val (.fn (.func 38) [] [])) [(.v (.slice a2 ((Dc.encL v1).length) c2)), (.agg [(sS v3.name), (iS v3.cls.op), (iS v3.cls.hd), (iS v3.cls.n), (tU v3.cls.args a4 c4), (iS v3.implicit)])] [(.slice a2 ((Dc.encL v1).length) c2, .sl 6 (Dc.encL v1)), (tQ v3.cls.args a4 c4)] (fun r' out => r' = (bS r) ∧ out = []) := by
 rcases n with _ | n
 ·exact qe hr
 rw [R05_formed.eq_2] at hr
 refine qb (N := 80) (m := 0) (dt := fun _ => none) [] ttOK func38 rfl call38 ntmps38 rfl rfl rfl mixed (by kernel_rfl) ?_
 obtain ⟨v5, h6, hr⟩ := bind_some hr
 refine (qip n v3.name _ h6).atR [] rfl rfl rfl ?_
 rintro _ _ ⟨rfl, rfl⟩
 refine AtGuard.mk (fun h7 => ?_) (fun h7 => ?_)
 ·replace hr := qg h7 hr
  refine (qa2 v3.cls a4 c4).atR [1] rfl rfl rfl ?_
  rintro _ _ ⟨rfl, rfl⟩
  refine AtGuard.mk (fun h8 => ?_) (fun h8 => ?_)
  ·replace hr := qg h8 hr
   obtain ⟨v9, h10, hr⟩ := bind_some hr
   refine (qjn n v3.cls ((Dc.encL v1).length : Int) a4 c4 _ h10).atR [1] rfl rfl rfl ?_
   rintro _ _ ⟨rfl, rfl⟩
   refine AtIf.mk (fun h11 => ?_) (fun h11 => ?_)
   ·replace hr := qf h11 hr
    replace hr := osi hr; subst hr
    exact qa [] [] rfl rfl ⟨rfl, rfl⟩
   ·replace hr := qg h11 hr
    refine AtLoop.mk ⟨Nat × Int, fun x => [(0, (.v (.slice a2 ((Dc.encL v1).length) c2))), (3, (.loc 0 0)), (27, (.v (.slice a2 ((Dc.encL v1).length) c2))), (28, (iS ((Dc.encL v1).length : Int))), (29, (iS x.2))], fun x => ⟨[.cells 49 [(sS v3.name), (iS v3.cls.op), (iS v3.cls.hd), (iS v3.cls.n), (tU v3.cls.args a4 c4), (iS v3.implicit)]], [], [(.slice a2 ((Dc.encL v1).length) c2, .sl 6 (Dc.encL v1)), (tQ v3.cls.args a4 c4)]⟩, fun x => R05_formed_L1 x.1 v1 v3 x.2 = some r, fun x => x.1, (n, 0), hr, ⟨rfl, rfl, rfl, rfl, rfl, trivial⟩, (StLe.gen 1 [] [.old 0, .old 1] rfl rfl rfl rfl rfl rfl rfl), fun x _ => ⟨rfl, rfl⟩, ?_⟩
    rintro ⟨n, v19⟩ HH
    have hr : R05_formed_L1 n v1 v3 v19 = some r := HH
    rcases n with _ | n
    ·exact qe hr
    rw [R05_formed_L1.eq_2] at hr
    refine AtIf.mk (fun h20 => ?_) (fun h20 => ?_)
    ·replace hr := qf h20 hr
     obtain ⟨v21, h22, hr⟩ := bind_some hr
     obtain ⟨h23, h24⟩ := qi h22
     refine qd ttOK 0 rfl rfl rfl rfl h23 (Dc.encL_get h24) ?_
     intro a25 c25 _ _
     refine AtIf.mk (fun h26 => ?_) (fun h26 => ?_)
     ·replace hr := qf h26 hr
      replace hr := osi hr; subst hr
      exact qa [] [] rfl rfl ⟨rfl, rfl⟩
     ·replace hr := qg h26 hr
      exact ⟨(n, (IntKind.i64.wrap (v19 + 1))), hr, Nat.lt_succ_self _, ⟨rfl, rfl, rfl, rfl, rfl, trivial⟩, (StLe.gen 1 [] [.old 0, .old 1] rfl rfl rfl rfl rfl rfl rfl)⟩
    ·replace hr := qg h20 hr
     obtain ⟨v27, h28, hr⟩ := bind_some hr
     refine (qb2 n v3.cls a4 c4 _ h28).atR [1] rfl rfl rfl ?_
     rintro _ _ ⟨a29, c29, a30, c30, rfl, rfl⟩
     refine AtGuard.mk (fun h31 => ?_) (fun h31 => ?_)
     ·replace hr := qf h31 hr
      refine AtGuard.mk (fun h32 => ?_) (fun h32 => ?_)
      ·replace hr := qg h32 hr
       obtain ⟨v33, h34, hr⟩ := bind_some hr
       refine (qcy n v1 v27.2.n a2 c2 _ h34).atR [0] rfl rfl rfl ?_
       rintro _ _ ⟨rfl, rfl⟩
       refine AtIf.mk (fun h35 => ?_) (fun h35 => ?_)
       ·replace hr := qf h35 hr
        replace hr := osi hr; subst hr
        exact qa [] [] rfl rfl ⟨rfl, rfl⟩
       ·replace hr := qg h35 hr
        replace hr := osi hr; subst hr
        exact qa [] [] rfl rfl ⟨rfl, rfl⟩
      ·replace hr := qf h32 hr
       refine AtIf.mk (fun _ => ?_) (fun h => tf h)
       replace hr := osi hr; subst hr
       exact qa [] [] rfl rfl ⟨rfl, rfl⟩
     ·replace hr := qg h31 hr
      refine AtIf.mk (fun h => ff h) (fun _ => ?_)
      replace hr := osi hr; subst hr
      exact qa [] [] rfl rfl ⟨rfl, rfl⟩
  ·replace hr := qf h8 hr
   refine AtIf.mk (fun _ => ?_) (fun h => tf h)
   replace hr := osi hr; subst hr
   exact qa [] [] rfl rfl ⟨rfl, rfl⟩
 ·replace hr := qf h7 hr
  refine AtGuard.mk (fun h => tf h) (fun _ => ?_)
  refine AtIf.mk (fun _ => ?_) (fun h => tf h)
  replace hr := osi hr; subst hr
  exact qa [] [] rfl rfl ⟨rfl, rfl⟩
mutual
def R05_Formed : Nat → (List Dc) → Option (Bool)
 | 0, _ => none
 | n + 1, v1 =>
  R05_Formed_L1 n v1 0
def R05_Formed_L1 : Nat → (List Dc) → Int → Option (Bool)
 | 0, _, _ => none
 | n + 1, v1, v14 =>
  cond ((decide (v14 < ((Dc.encL v1).length : Int))) && (decide (((Dc.encL v1).length : Int) ≤ 100))) (
  cond (decide ((0 : Int) ≤ (0 : Int) ∧ (0 : Int) ≤ v14 ∧ v14 ≤ ((Dc.encL v1).length : Int))) (
  (idx v1 v14).bind (fun v18 =>
  (R05_formed n (v1.take v14.toNat) v18).bind (fun v23 =>
  cond (!v23) (
  some (false)) (
  R05_Formed_L1 n v1 (IntKind.i64.wrap (v14 + 1)))))) none) (
  some ((decide (((Dc.encL v1).length : Int) ≤ 100))))
 end
theorem qi6 (n : Nat) (v1 : (List Dc)) (a2 : OA) (c2 : Nat) (r : Bool) (hr : R05_Formed n v1 = some r) : Pure Tryz.prog (.val (.fn (.func 9) [] [])) [(.v (.slice a2 ((Dc.encL v1).length) c2))] [(.slice a2 ((Dc.encL v1).length) c2, .sl 6 (Dc.encL v1))] (fun r' out => r' = (bS r) ∧ out = []) := by
 rcases n with _ | n
 ·exact qe hr
 rw [R05_Formed.eq_2] at hr
 refine qb (N := 27) (m := 0) (dt := drawsOf [(4, .node [0, 1, 2, 3, 4, 5, 6] [(7, .leaf [8])], [7], [])]) [] ttOK func9 rfl call9 ntmps9 rfl rfl rfl mixed (by kernel_rfl) ?_
 refine AtLoop.mk ⟨Nat × Int, fun x => [(0, (.v (.slice a2 ((Dc.encL v1).length) c2))), (3, (iS x.2))], fun x => ⟨[], [], [(.slice a2 ((Dc.encL v1).length) c2, .sl 6 (Dc.encL v1))]⟩, fun x => R05_Formed_L1 x.1 v1 x.2 = some r, fun x => x.1, (n, 0), hr, ⟨rfl, rfl, trivial⟩, (StLe.gen 0 [] [.old 0] rfl rfl rfl rfl rfl rfl rfl), fun x _ => ⟨rfl, rfl⟩, ?_⟩
 rintro ⟨n, v14⟩ HH
 have hr : R05_Formed_L1 n v1 v14 = some r := HH
 rcases n with _ | n
 ·exact qe hr
 rw [R05_Formed_L1.eq_2] at hr
 refine AtIf.mk (fun h15 => ?_) (fun h15 => ?_)
 ·replace hr := qf h15 hr
  obtain ⟨h16, hr⟩ := qm hr
  refine qb7 ttOK 0 0 v14 (ds' := (Dc.encL (v1.take v14.toNat))) rfl rfl rfl (.inr ⟨rfl, rfl⟩) (.inl ⟨_, rfl⟩) h16 (by simp only [Dc.encL_eq]; exact sl_h ..) ?_
  intro a17 c17
  obtain ⟨v18, h19, hr⟩ := bind_some hr
  obtain ⟨h20, h21⟩ := qi h19
  refine qd ttOK 0 rfl rfl rfl rfl h20 (Dc.encL_get h21) ?_
  intro a22 c22 _ _
  obtain ⟨v23, h24, hr⟩ := bind_some hr
  refine (qif n (v1.take v14.toNat) v18 a17 c17 a22 c22 _ h24).atR [1, 2] rfl rfl rfl ?_
  rintro _ _ ⟨rfl, rfl⟩
  refine AtIf.mk (fun h25 => ?_) (fun h25 => ?_)
  ·replace hr := qf h25 hr
   replace hr := osi hr; subst hr
   exact qa [] [] rfl rfl ⟨rfl, rfl⟩
  ·replace hr := qg h25 hr
   exact ⟨(n, (IntKind.i64.wrap (v14 + 1))), hr, Nat.lt_succ_self _, ⟨rfl, rfl, trivial⟩, (StLe.gen 0 [] [.old 0] rfl rfl rfl rfl rfl rfl rfl)⟩
 ·replace hr := qg h15 hr
  replace hr := osi hr; subst hr
  exact qa [] [] rfl rfl ⟨rfl, rfl⟩
mutual
def W14_valid : Nat → (List Dc) → Option (Bool)
 | 0, _ => none
 | n + 1, v1 =>
  W14_valid_L1 n v1 0 0
def W14_valid_L1 : Nat → (List Dc) → Int → Int → Option (Bool)
 | 0, _, _, _ => none
 | n + 1, v1, v11, v12 =>
  cond ((decide (v12 < ((Dc.encL v1).length : Int))) && (decide (v11 ≤ 3000))) (
  (idx v1 v12).bind (fun v14 =>
  (R03_Size n v14.cls).bind (fun v19 =>
  W14_valid_L1 n v1 (IntKind.i64.wrap (v11 + v19.1)) (IntKind.i64.wrap (v12 + 1))))) (
  cond (decide (v11 > 3000)) (
  some (false)) (
  (R05_Formed n v1).bind (fun v22 =>
  cond (!v22) (
  some (false)) (
  (R06_Signature n v1).bind (fun v25 =>
  some ((v25.2 == 0)))))))
 end
theorem qkg (n : Nat) (v1 : (List Dc)) (a2 : OA) (c2 : Nat) (r : Bool) (hr : W14_valid n v1 = some r) : Pure Tryz.prog (.val (.fn (.func 13) [] [])) [(.v (.slice a2 ((Dc.encL v1).length) c2))] [(.slice a2 ((Dc.encL v1).length) c2, .sl 6 (Dc.encL v1))] (fun r' out => r' = (bS r) ∧ out = []) := by
 rcases n with _ | n
 ·exact qe hr
 rw [W14_valid.eq_2] at hr
 refine qb (N := 45) (m := 0) (dt := fun _ => none) [] ttOK func13 rfl call13 ntmps13 rfl rfl rfl mixed (by kernel_rfl) ?_
 refine AtLoop.mk ⟨Nat × Int × Int, fun x => [(0, (.v (.slice a2 ((Dc.encL v1).length) c2))), (3, (iS x.2.1)), (4, (iS x.2.2))], fun x => ⟨[], [], [(.slice a2 ((Dc.encL v1).length) c2, .sl 6 (Dc.encL v1))]⟩, fun x => W14_valid_L1 x.1 v1 x.2.1 x.2.2 = some r, fun x => x.1, (n, 0, 0), hr, ⟨rfl, rfl, rfl, trivial⟩, (StLe.gen 0 [] [.old 0] rfl rfl rfl rfl rfl rfl rfl), fun x _ => ⟨rfl, rfl⟩, ?_⟩
 rintro ⟨n, v11, v12⟩ HH
 have hr : W14_valid_L1 n v1 v11 v12 = some r := HH
 rcases n with _ | n
 ·exact qe hr
 rw [W14_valid_L1.eq_2] at hr
 refine AtIf.mk (fun h13 => ?_) (fun h13 => ?_)
 ·replace hr := qf h13 hr
  obtain ⟨v14, h15, hr⟩ := bind_some hr
  obtain ⟨h16, h17⟩ := qi h15
  refine qd ttOK 0 rfl rfl rfl rfl h16 (Dc.encL_get h17) ?_
  intro a18 c18 _ _
  obtain ⟨v19, h20, hr⟩ := bind_some hr
  refine (qlw n v14.cls a18 c18 _ h20).atR [1] rfl rfl rfl ?_
  rintro _ _ ⟨rfl, rfl⟩
  exact ⟨(n, (IntKind.i64.wrap (v11 + v19.1)), (IntKind.i64.wrap (v12 + 1))), hr, Nat.lt_succ_self _, ⟨rfl, rfl, rfl, trivial⟩, (StLe.gen 0 [] [.old 0] rfl rfl rfl rfl rfl rfl rfl)⟩
 ·replace hr := qg h13 hr
  refine AtGuard.mk (fun h21 => ?_) (fun h21 => ?_)
  ·replace hr := qg h21 hr
   obtain ⟨v22, h23, hr⟩ := bind_some hr
   refine (qi6 n v1 a2 c2 _ h23).atR [0] rfl rfl rfl ?_
   rintro _ _ ⟨rfl, rfl⟩
   refine AtIf.mk (fun h24 => ?_) (fun h24 => ?_)
   ·replace hr := qf h24 hr
    replace hr := osi hr; subst hr
    exact qa [] [] rfl rfl ⟨rfl, rfl⟩
   ·replace hr := qg h24 hr
    obtain ⟨v25, h26, hr⟩ := bind_some hr
    refine (qgc n v1 a2 c2 _ h26).atR [0] rfl rfl rfl ?_
    rintro _ _ ⟨rfl, rfl⟩
    replace hr := osi hr; subst hr
    exact qa [] [] rfl rfl ⟨rfl, rfl⟩
  ·replace hr := qf h21 hr
   refine AtIf.mk (fun _ => ?_) (fun h => tf h)
   replace hr := osi hr; subst hr
   exact qa [] [] rfl rfl ⟨rfl, rfl⟩
end
end Go.Proofs.YtogicnodmgdnbaaGreat
