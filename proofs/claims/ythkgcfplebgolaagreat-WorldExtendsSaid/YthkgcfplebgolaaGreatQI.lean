/- Merged texts: HandU U2 GrowLay HandV. Conditions stand in each rule. -/
import Derived.Test.YthkgcfplebgolaaGreatQH
import Derived.RecoverIn
import Derived.Tactics
import Derived.Tactics2
import Derived.TacticsInMore
import Derived.RegionIn
import Derived.Laws.Pointers
import Derived.Shelf.Spec.SlicesGrow
set_option linter.unusedSimpArgs false
set_option linter.unusedVariables false

namespace Go.Proofs.YthkgcfplebgolaaGreat
section
open Go.Tr Go Go.Proofs.Tryz
set_option maxRecDepth 100000
theorem quietS (xs : Array Value) (w : World) (h : xs.size = 2) : CallsDIn (fen none) 0 Tryz.prog 285 xs .returning w (fun e u' w' => (∃ v, e = .returned v) ∧ u' = .returning ∧ w' = w) := by
 obtain ⟨l⟩ := xs
 match l, h with
 | [p, q], _ =>
 refine callsDIn_of_wpSIn Tryz.func285 rfl trivial fun c₀ cs hu => ?_
 apply wpSIn_seq
 apply wpSIn_region
 simp [wpOpsSIn, go_sem, recoverD, hu, Tryz.ntmps285, Exit.thenS, fen]
 refine wpSIn_of_wpIn rfl ?_
 apply wpIn_block
 apply wpIn_seq
 apply wpIn_region
 simp [wpOpsIn, Oper.wpIn, Oper.uponIn, go_sem, Exit.then, Exit.thenS]
 refine wpIn_cond (t := true) (by simp [Act.eval, Array.replicate]) ?_
 simp only [if_true]
 apply wpIn_region
 simp [wpOpsIn, Oper.wpIn, Oper.uponIn, go_sem, Exit.then, Exit.thenS]
 cases c₀
 simp_all [bodyPostS, results, Tryz.results285]
theorem quietU (xs : Array Value) (w : World) (h : xs.size = 2) : CallsDIn (fen none) 0 Tryz.prog 147 xs .returning w (fun e u' w' => (∃ v, e = .returned v) ∧ u' = .returning ∧ w' = w) := by
 obtain ⟨l⟩ := xs
 match l, h with
 | [p, q], _ =>
 refine callsDIn_of_wpSIn Tryz.func147 rfl trivial fun c₀ cs hu => ?_
 apply wpSIn_seq
 apply wpSIn_region
 simp [wpOpsSIn, go_sem, recoverD, hu, Tryz.ntmps147, Exit.thenS, fen]
 refine wpSIn_of_wpIn rfl ?_
 apply wpIn_block
 apply wpIn_seq
 apply wpIn_region
 simp [wpOpsIn, Oper.wpIn, Oper.uponIn, go_sem, Exit.then, Exit.thenS]
 refine wpIn_cond (t := true) (by simp [Act.eval, Array.replicate]) ?_
 simp only [if_true]
 apply wpIn_region
 simp [wpOpsIn, Oper.wpIn, Oper.uponIn, go_sem, Exit.then, Exit.thenS]
 cases c₀
 simp_all [bodyPostS, results, Tryz.results147]
theorem qc0 {P : Program} {t T : TypeId} {x y : Operand} {s : SV} {ms : Array (String × TypeId)} {S : St} {K : SV → St → Prop} (hu : P.underlying t = some (.interface ms)) (h : K (.v (.bool false)) S) :
  AtPure P (fun ℓ => do eqGuard .eql t x y ((SV.ifc T s).den ℓ) ((SV.v .nilIface).den ℓ); binOp .eql t ((SV.ifc T s).den ℓ) ((SV.v .nilIface).den ℓ)) S K := by
 refine AtPure.val _ rfl (fun ℓ w => ?_) h
 have h1 : (Op.equal t (.iface T (s.den ℓ)) .nilIface).run P w = .ok false w := by
  unfold Op.equal
  rw [show Op.maxDepth = 9999 + 1 from rfl, Op.equalIn]
  simp only [Sem.run_bind, qq hu, Result.andThen_ok, Sem.run_pure]
 simp [eqGuard, binOp, SV.den, Sem.run_bind, h1, Sem.run_pure]
theorem qd1 {P : Program} {xt T : TypeId} {s : SV} {fs : Array Field} {S : St} {K : SV → St → Prop} (hu : P.underlying T = some (.struct fs)) (hs : s.wf S.own.length = true) (h : K (.tup [s, .v (.bool true)]) S) :
  AtPure P (fun ℓ => Instr.typeAssert ((SV.ifc T s).den ℓ) xt T true) S K := by
 refine AtPure.val _ (by simp [SV.wf, qr, hs]) (fun ℓ w => ?_) h
 simp [Instr.typeAssert, SV.den, qd, Sem.run_bind, qq hu, Sem.run_pure]
end

section
open Go.Tr Go Go.Proofs.Tryz
set_option maxRecDepth 10000
mutual
def term_Domains : Nat → Tm → Option ((List Tm) × Tm)
 | 0, _ => none
 | n + 1, v1 =>
  term_Domains_L1 n v1 ([])
def term_Domains_L1 : Nat → Tm → (List Tm) → Option ((List Tm) × Tm)
 | 0, _, _ => none
 | n + 1, v3, v5 =>
  cond (v3.op == 2) (
  (idx v3.args 0).bind (fun v8 =>
  cond (decide ((Tm.encL (v5 ++ [v8])).length ≤ 1000000)) (
  (idx v3.args 1).bind (fun v16 =>
  term_Domains_L1 n v16 (v5 ++ [v8]))) none)) (
  some (v5, v3))
 end
theorem qbf (n : Nat) (v1 : Tm) (a2 : OA) (c2 : Nat) (r : (List Tm) × Tm) (hr : term_Domains n v1 = some r) : Pure Tryz.prog (.val (.fn (.func 108) [] [])) [(.agg [(iS v1.op), (iS v1.hd), (iS v1.n), (tU v1.args a2 c2)])] [(tQ v1.args a2 c2)] (fun r' out => ∃ (b1 : OA) (d1 : Nat), ∃ (b2 : OA) (d2 : Nat), r' = (.tup [(tU r.1 b1 d1), (.agg [(iS r.2.op), (iS r.2.hd), (iS r.2.n), (tU r.2.args b2 d2)])]) ∧ out = [(tQ r.1 b1 d1), (tQ r.2.args b2 d2)]) := by
 rcases n with _ | n
 ·exact qe hr
 rw [term_Domains.eq_2] at hr
 refine qb (N := 21) (m := 0) (dt := drawsOf [(5, .node [0, 1, 2] [(3, .leaf [])], [3], [])]) [] ttOK func108 rfl call108 ntmps108 rfl rfl rfl mixed (by kernel_rfl) ?_
 refine AtLoop.mk ⟨Nat × Tm × Option Addr × Nat × (List Tm) × Option Addr × Nat, fun x => [(1, (.loc 0 0)), (3, (.loc 1 0)), (4, (tU x.2.2.2.2.1 x.2.2.2.2.2.1 x.2.2.2.2.2.2))], fun x => ⟨[.cells 41 [(iS x.2.1.op), (iS x.2.1.hd), (iS x.2.1.n), (tU x.2.1.args x.2.2.1 x.2.2.2.1)], .cells 41 [(iS 0), (iS 0), (iS 0), (.v (.slice none 0 0))]], [⟨.slice x.2.2.2.2.2.1 ((Tm.encL x.2.2.2.2.1).length) x.2.2.2.2.2.2, 4, 41, (Tm.encL x.2.2.2.2.1)⟩], [(tQ x.2.1.args x.2.2.1 x.2.2.2.1), (tQ v1.args a2 c2)]⟩, fun x => term_Domains_L1 x.1 x.2.1 x.2.2.2.2.1 = some r, fun x => x.1, (n, v1, a2, c2, [], none, 0), hr, ⟨rfl, rfl, rfl, trivial⟩, (StLe.gen 2 [.nil 4 41] [.old 0, .old 0] rfl rfl rfl rfl rfl rfl rfl), fun x _ => ⟨rfl, rfl⟩, ?_⟩
 rintro ⟨n, v3, a4, c4, v5, a6, c6⟩ HH
 have hr : term_Domains_L1 n v3 v5 = some r := HH
 rcases n with _ | n
 ·exact qe hr
 rw [term_Domains_L1.eq_2] at hr
 refine AtIf.mk (fun h7 => ?_) (fun h7 => ?_)
 ·replace hr := qg h7 hr
  obtain ⟨v8, h9, hr⟩ := bind_some hr
  obtain ⟨h10, h11⟩ := qi h9
  refine qh ttOK 0 rfl rfl rfl rfl h10 (Tm.encL_get h11) ?_
  intro a12 c12 _ _
  refine qk (n := 1) ttOK 48 [.agg [.int .i64 v8.op, .int .i64 v8.hd, .int .i64 v8.n, .sl 4 (Tm.encL v8.args)]] (ds' := (Tm.encL ([v8]))) rfl (by kernel_rfl) ⟨⟨rfl, rfl, rfl, ⟨[(iS v8.op)], _, rfl, rfl, ⟨[(iS v8.hd)], _, rfl, rfl, ⟨[(iS v8.n)], _, rfl, rfl, ⟨[(tU v8.args a12 c12)], _, rfl, (.inl ⟨_, rfl, ql (j := 2) rfl⟩), rfl⟩⟩⟩⟩⟩, trivial⟩ rfl (by simp only [Tm.encL_eq, List.map_cons, List.map_nil, Tm.enc_eq] <;> rfl) (by decide) (by decide) ?_
  intro a13
  obtain ⟨h14, hr⟩ := qj hr
  refine qm (ds' := (Tm.encL (v5 ++ [v8]))) ttOK 48 0 3 rfl (by kernel_rfl) rfl rfl rfl rfl (by simp only [Tm.encL_eq, List.map_append]) h14 (by decide) ?_
  intro a15 c15
  obtain ⟨v16, h17, hr⟩ := bind_some hr
  obtain ⟨h18, h19⟩ := qi h17
  refine qh ttOK 0 rfl rfl rfl rfl h18 (Tm.encL_get h19) ?_
  intro a20 c20 _ _
  exact ⟨(n, v16, a20, c20, (v5 ++ [v8]), a15, c15), hr, Nat.lt_succ_self _, ⟨rfl, rfl, rfl, trivial⟩, (StLe.gen 2 [.old 0] [.old 4, .old 1] rfl rfl rfl rfl rfl rfl rfl)⟩
 ·replace hr := qf h7 hr
  replace hr := osi hr; subst hr
  exact qa [.froz 0, .old 0] [(tQ v5 a6 c6), (tQ v3.args a4 c4)] rfl rfl ⟨a6, c6, a4, c4, rfl, rfl⟩
mutual
def term_simple : Nat → Tm → Option (Sm × Int)
 | 0, _ => none
 | n + 1, v1 =>
  (term_Domains n v1).bind (fun v3 =>
  cond ((v3.2.op != 4) || (v3.2.hd != 2)) (
  some ((Sm.mk ([]) 0), 22)) (
  term_simple_L1 n v3 (Sm.mk ([]) v3.2.n) 0))
def term_simple_L1 : Nat → ((List Tm) × Tm) → Sm → Int → Option (Sm × Int)
 | 0, _, _, _ => none
 | n + 1, v3, v8, v10 =>
  cond (decide (v10 < ((Tm.encL v3.1).length : Int))) (
  (idx v3.1 v10).bind (fun v12 =>
  (term_simple n v12).bind (fun v17 =>
  cond (v17.2 != 0) (
  some ((Sm.mk ([]) 0), v17.2)) (
  cond (decide ((Sm.encL (v8.args ++ [v17.1])).length ≤ 1000000)) (
  term_simple_L1 n v3 (Sm.mk (v8.args ++ [v17.1]) v8.con) (IntKind.i64.wrap (v10 + 1))) none)))) (
  some (v8, 0))
 end
theorem qha : ∀ (N : Nat), (∀ (n : Nat), n ≤ N → ∀ (v1 : Tm) (a2 : OA) (c2 : Nat) (r : Sm × Int), term_simple n v1 = some r → Pure Tryz.prog (.val (.fn (.func 281) [] [])) [(.agg [(iS v1.op), (iS v1.hd), (iS v1.n), (tU v1.args a2 c2)])] [(tQ v1.args a2 c2)] (fun r' out => ∃ (b1 : OA) (d1 : Nat), r' = (.tup [(.agg [(.v (.slice b1 ((Sm.encL r.1.args).length) d1)), (iS r.1.con)]), (iS r.2)]) ∧ out = [(.slice b1 ((Sm.encL r.1.args).length) d1, .sl 2 (Sm.encL r.1.args))])) := by
 intro N
 induction N with
 | zero =>
  intro n hn v1 a2 c2 r hr; obtain rfl : n = 0 := (by omega); exact qe hr
 | succ N ih =>
  intro n hn v1 a2 c2 r hr
  rcases n with _ | n
  ·exact qe hr
  replace hn : n ≤ N := by omega
  rw [term_simple.eq_2] at hr
  refine qb (N := 51) (m := 0) (dt := fun _ => none) [] ttOK func281 rfl call281 ntmps281 rfl rfl rfl mixed (by kernel_rfl) ?_
  obtain ⟨v3, h4, hr⟩ := bind_some hr
  refine (qbf n v1 a2 c2 _ h4).atR [0] rfl rfl rfl ?_
  rintro _ _ ⟨a5, c5, a6, c6, rfl, rfl⟩
  refine AtIf.mk (fun h7 => ?_) (fun h7 => ?_)
  ·replace hr := qg h7 hr
   replace hr := osi hr; subst hr
   exact qa [.nil 2] [(.slice none 0 0, .sl 2 [])] rfl rfl ⟨none, 0, rfl, rfl⟩
  ·replace hr := qf h7 hr
   refine AtLoop.mk ⟨Nat × Sm × Option Addr × Nat × Int, fun x => [(2, (.loc 1 0)), (6, (.loc 3 0)), (28, (tU v3.1 a5 c5)), (29, (iS ((Tm.encL v3.1).length : Int))), (30, (iS x.2.2.2.2))], fun x => ⟨[.cells 41 [(iS v1.op), (iS v1.hd), (iS v1.n), (tU v1.args a2 c2)], .cells 224 [(.v (.slice none 0 0)), (iS 0)], .cells 41 [(iS v3.2.op), (iS v3.2.hd), (iS v3.2.n), (tU v3.2.args a6 c6)], .cells 224 [(.v (.slice x.2.2.1 ((Sm.encL x.2.1.args).length) x.2.2.2.1)), (iS x.2.1.con)]], [⟨.slice x.2.2.1 ((Sm.encL x.2.1.args).length) x.2.2.2.1, 2, 224, (Sm.encL x.2.1.args)⟩], [(tQ v1.args a2 c2), (tQ v3.1 a5 c5), (tQ v3.2.args a6 c6)]⟩, fun x => x.1 ≤ N ∧ term_simple_L1 x.1 v3 x.2.1 x.2.2.2.2 = some r, fun x => x.1, (n, (Sm.mk ([]) v3.2.n), none, 0, 0), ⟨by omega, hr⟩, ⟨rfl, rfl, rfl, rfl, rfl, trivial⟩, (StLe.gen 4 [.nil 2 224] [.old 0, .old 1, .old 2] rfl rfl rfl rfl rfl rfl rfl), fun x _ => ⟨rfl, rfl⟩, ?_⟩
   rintro ⟨n, v8, a9, c9, v10⟩ HH
   obtain ⟨hn, hr⟩ : n ≤ N ∧ term_simple_L1 n v3 v8 v10 = some r := HH
   rcases n with _ | n
   ·exact qe hr
   rw [term_simple_L1.eq_2] at hr
   refine AtIf.mk (fun h11 => ?_) (fun h11 => ?_)
   ·replace hr := qg h11 hr
    obtain ⟨v12, h13, hr⟩ := bind_some hr
    obtain ⟨h14, h15⟩ := qi h13
    refine qh ttOK 1 rfl rfl rfl rfl h14 (Tm.encL_get h15) ?_
    intro a16 c16 _ _
    obtain ⟨v17, h18, hr⟩ := bind_some hr
    refine (ih n (by omega) v12 a16 c16 _ h18).atR [3] rfl rfl rfl ?_
    rintro _ _ ⟨a19, c19, rfl, rfl⟩
    refine AtIf.mk (fun h20 => ?_) (fun h20 => ?_)
    ·replace hr := qg h20 hr
     replace hr := osi hr; subst hr
     exact qa [.nil 2] [(.slice none 0 0, .sl 2 [])] rfl rfl ⟨none, 0, rfl, rfl⟩
    ·replace hr := qf h20 hr
     refine qk (n := 1) ttOK 32 [.agg [.sl 2 (Sm.encL v17.1.args), .int .i64 v17.1.con]] (ds' := (Sm.encL ([v17.1]))) rfl (by kernel_rfl) ⟨⟨rfl, rfl, rfl, ⟨[(.v (.slice a19 ((Sm.encL v17.1.args).length) c19))], _, rfl, (.inl ⟨_, rfl, ql (j := 4) rfl⟩), ⟨[(iS v17.1.con)], _, rfl, rfl, rfl⟩⟩⟩, trivial⟩ rfl (by simp only [Sm.encL_eq, List.map_cons, List.map_nil, Sm.enc_eq] <;> rfl) (by decide) (by decide) ?_
     intro a21
     obtain ⟨h22, hr⟩ := qj hr
     refine qm (ds' := (Sm.encL (v8.args ++ [v17.1]))) ttOK 32 0 5 rfl (by kernel_rfl) rfl rfl rfl rfl (by simp only [Sm.encL_eq, List.map_append]) h22 (by decide) ?_
     intro a23 c23
     exact ⟨(n, (Sm.mk (v8.args ++ [v17.1]) v8.con), a23, c23, (IntKind.i64.wrap (v10 + 1))), ⟨by omega, hr⟩, Nat.lt_succ_self _, ⟨rfl, rfl, rfl, rfl, rfl, trivial⟩, (StLe.gen 4 [.old 0] [.old 0, .old 1, .old 2] rfl rfl rfl rfl rfl rfl rfl)⟩
   ·replace hr := qf h11 hr
    replace hr := osi hr; subst hr
    exact qa [.froz 0] [(.slice a9 ((Sm.encL v8.args).length) c9, .sl 2 (Sm.encL v8.args))] rfl rfl ⟨a9, c9, rfl, rfl⟩
theorem qiq (n : Nat) (v1 : Tm) (a2 : OA) (c2 : Nat) (r : Sm × Int) (hr : term_simple n v1 = some r) : Pure Tryz.prog (.val (.fn (.func 281) [] [])) [(.agg [(iS v1.op), (iS v1.hd), (iS v1.n), (tU v1.args a2 c2)])] [(tQ v1.args a2 c2)] (fun r' out => ∃ (b1 : OA) (d1 : Nat), r' = (.tup [(.agg [(.v (.slice b1 ((Sm.encL r.1.args).length) d1)), (iS r.1.con)]), (iS r.2)]) ∧ out = [(.slice b1 ((Sm.encL r.1.args).length) d1, .sl 2 (Sm.encL r.1.args))]) := (qha n) n (Nat.le_refl _) v1 a2 c2 r hr
def term_Simple : Nat → Tm → Option (Sm × Int)
 | 0, _ => none
 | n + 1, v1 =>
  cond ((if isProper v1 then (0 : Int) else 2) != 0) (
  some ((Sm.mk ([]) 0), (if isProper v1 then (0 : Int) else 2))) (
  (term_simple n v1).bind (fun v4 =>
  some (v4.1, v4.2)))
theorem qis (n : Nat) (v1 : Tm) (a2 : OA) (c2 : Nat) (r : Sm × Int) (hr : term_Simple n v1 = some r) : Pure Tryz.prog (.val (.fn (.func 210) [] [])) [(.agg [(iS v1.op), (iS v1.hd), (iS v1.n), (tU v1.args a2 c2)])] [(tQ v1.args a2 c2)] (fun r' out => ∃ (b1 : OA) (d1 : Nat), r' = (.tup [(.agg [(.v (.slice b1 ((Sm.encL r.1.args).length) d1)), (iS r.1.con)]), (iS r.2)]) ∧ out = [(.slice b1 ((Sm.encL r.1.args).length) d1, .sl 2 (Sm.encL r.1.args))]) := by
 rcases n with _ | n
 ·exact qe hr
 rw [term_Simple.eq_2] at hr
 refine qb (N := 15) (m := 0) (dt := fun _ => none) [] ttOK func210 rfl call210 ntmps210 rfl rfl rfl mixed (by kernel_rfl) ?_
 refine (qb7 v1 a2 c2).atR [0] rfl rfl rfl ?_
 rintro _ _ ⟨rfl, rfl⟩
 refine AtIf.mk (fun h3 => ?_) (fun h3 => ?_)
 ·replace hr := qg h3 hr
  replace hr := osi hr; subst hr
  exact qa [.nil 2] [(.slice none 0 0, .sl 2 [])] rfl rfl ⟨none, 0, rfl, rfl⟩
 ·replace hr := qf h3 hr
  obtain ⟨v4, h5, hr⟩ := bind_some hr
  refine (qiq n v1 a2 c2 _ h5).atR [0] rfl rfl rfl ?_
  rintro _ _ ⟨a6, c6, rfl, rfl⟩
  replace hr := osi hr; subst hr
  exact qa [.old 1] [(.slice a6 ((Sm.encL v4.1.args).length) c6, .sl 2 (Sm.encL v4.1.args))] rfl rfl ⟨a6, c6, rfl, rfl⟩
mutual
def slices_Index : Nat → (List Int) → Int → Option (Int)
 | 0, _, _ => none
 | n + 1, v1, v3 =>
  qfd n v1 v3 0
def qfd : Nat → (List Int) → Int → Int → Option (Int)
 | 0, _, _, _ => none
 | n + 1, v1, v3, v4 =>
  cond (decide (v4 < ((List.map (D.int .i64) v1).length : Int))) (
  (idx v1 v4).bind (fun v6 =>
  cond (v3 == v6) (
  some (v4)) (
  qfd n v1 v3 (IntKind.i64.wrap (v4 + 1))))) (
  some ((-1)))
 end
mutual
def qor : Nat → Tm → Option (Int × Int × Int)
 | 0, _ => none
 | n + 1, v1 =>
  cond ((if isProper v1 then (0 : Int) else 2) != 0) (
  some (0, 0, 2)) (
  qfm n v1 0)
def qfr : Nat → Tm → Int → Int → Option (Int × Int × Int)
 | 0, _, _, _ => none
 | n + 1, v4, v6, v14 =>
  cond (decide (v14 < ((Tm.encL v4.args).length : Int))) (
  (idx v4.args v14).bind (fun v17 =>
  (qor n v17).bind (fun v22 =>
  cond (((v22.2.2 != 0) || (v22.1 != 1)) || (v22.2.1 != (IntKind.i64.wrap ((IntKind.i64.wrap (v6 - 1)) - v14)))) (
  some (0, 0, 6)) (
  qfr n v4 v6 (IntKind.i64.wrap (v14 + 1)))))) (
  cond (v4.hd == 1) (
  some (v4.hd, (IntKind.i64.wrap (v4.n - v6)), 0)) (
  some (v4.hd, v4.n, 0)))
def qfm : Nat → Tm → Int → Option (Int × Int × Int)
 | 0, _, _ => none
 | n + 1, v4, v6 =>
  cond (v4.op == 3) (
  (idx v4.args 0).bind (fun v8 =>
  qfm n v8 (IntKind.i64.wrap (v6 + 1)))) (
  cond (((v4.op != 4) || (((Tm.encL v4.args).length : Int) != v6)) || ((v4.hd == 1) && (decide (v4.n < v6)))) (
  some (0, 0, 6)) (
  qfr n v4 v6 0))
 end
mutual
def subst_small : Nat → Sm → Int → Option (Bool × Int)
 | 0, _, _ => none
 | n + 1, v1, v3 =>
  cond (((decide ((IntKind.i64.wrap (v3 + 1)) > 600)) || (decide (v1.con < 0))) || (decide (v1.con > 9999))) (
  some (false, (IntKind.i64.wrap (v3 + 1)))) (
  (slices_ContainsFunc_subst_small_1 n v1.args (IntKind.i64.wrap (v3 + 1))).bind (fun v5 =>
  some ((!v5.1), v5.2)))
def slices_ContainsFunc_subst_small_1 : Nat → (List Sm) → Int → Option (Bool × Int)
 | 0, _, _ => none
 | n + 1, v1, v3 =>
  (slices_IndexFunc_subst_small_1 n v1 v3).bind (fun v4 =>
  some ((decide (v4.1 ≥ 0)), v4.2))
def subst_small_1 : Nat → Sm → Int → Option (Bool × Int)
 | 0, _, _ => none
 | n + 1, v1, v3 =>
  (subst_small n v1 v3).bind (fun v4 =>
  some ((!v4.1), v4.2))
def slices_IndexFunc_subst_small_1 : Nat → (List Sm) → Int → Option (Int × Int)
 | 0, _, _ => none
 | n + 1, v1, v3 =>
  slices_IndexFunc_subst_small_1_L1 n v1 v3 0
def slices_IndexFunc_subst_small_1_L1 : Nat → (List Sm) → Int → Int → Option (Int × Int)
 | 0, _, _, _ => none
 | n + 1, v1, v4, v5 =>
  cond (decide (v5 < ((Sm.encL v1).length : Int))) (
  (idx v1 v5).bind (fun v7 =>
  (subst_small_1 n v7 v4).bind (fun v12 =>
  cond v12.1 (
  some (v5, v12.2)) (
  slices_IndexFunc_subst_small_1_L1 n v1 v12.2 (IntKind.i64.wrap (v5 + 1)))))) (
  some ((-1), v4))
 end
theorem qhe : ∀ (N : Nat), (∀ (n : Nat), n ≤ N → ∀ (v1 : Sm) (v3 : Int) (a2 : OA) (c2 : Nat) (r : Bool × Int), subst_small n v1 v3 = some r → Meets Tryz.prog (.val (.fn (.func 318) [] [])) [(.agg [(.v (.slice a2 ((Sm.encL v1.args).length) c2)), (iS v1.con)]), (.loc 0 0)] ⟨[.cells 3 [(iS v3)]], [], [(.slice a2 ((Sm.encL v1.args).length) c2, .sl 2 (Sm.encL v1.args))]⟩ (fun o S' => o = .ret (bS r.1) ∧ S' = ⟨[.cells 3 [(iS r.2)]], [], []⟩)) ∧ (∀ (n : Nat), n ≤ N → ∀ (v1 : (List Sm)) (v3 : Int) (a2 : OA) (c2 : Nat) (r : Bool × Int), slices_ContainsFunc_subst_small_1 n v1 v3 = some r → Meets Tryz.prog (.val (.fn (.func 339) [] [])) [(.v (.slice a2 ((Sm.encL v1).length) c2)), (.fn (.func 362) [] [(.loc 0 0)])] ⟨[.cells 332 [(.loc 1 0)], .cells 3 [(iS v3)]], [], [(.slice a2 ((Sm.encL v1).length) c2, .sl 2 (Sm.encL v1))]⟩ (fun o S' => o = .ret (bS r.1) ∧ S' = ⟨[.cells 332 [(.loc 1 0)], .cells 3 [(iS r.2)]], [], []⟩)) ∧ (∀ (n : Nat), n ≤ N → ∀ (v1 : Sm) (v3 : Int) (a2 : OA) (c2 : Nat) (r : Bool × Int), subst_small_1 n v1 v3 = some r → Meets Tryz.prog (.val (.fn (.func 362) [] [(.loc 0 0)])) [(.agg [(.v (.slice a2 ((Sm.encL v1.args).length) c2)), (iS v1.con)])] ⟨[.cells 332 [(.loc 1 0)], .cells 3 [(iS v3)]], [], [(.slice a2 ((Sm.encL v1.args).length) c2, .sl 2 (Sm.encL v1.args))]⟩ (fun o S' => o = .ret (bS r.1) ∧ S' = ⟨[.cells 332 [(.loc 1 0)], .cells 3 [(iS r.2)]], [], []⟩)) ∧ (∀ (n : Nat), n ≤ N → ∀ (v1 : (List Sm)) (v3 : Int) (a2 : OA) (c2 : Nat) (r : Int × Int), slices_IndexFunc_subst_small_1 n v1 v3 = some r → Meets Tryz.prog (.val (.fn (.func 372) [] [])) [(.v (.slice a2 ((Sm.encL v1).length) c2)), (.fn (.func 362) [] [(.loc 0 0)])] ⟨[.cells 332 [(.loc 1 0)], .cells 3 [(iS v3)]], [], [(.slice a2 ((Sm.encL v1).length) c2, .sl 2 (Sm.encL v1))]⟩ (fun o S' => o = .ret (iS r.1) ∧ S' = ⟨[.cells 332 [(.loc 1 0)], .cells 3 [(iS r.2)]], [], []⟩)) := by
 intro N
 induction N with
 | zero =>
  refine ⟨?_, ?_, ?_, ?_⟩
  ·intro n hn v1 v3 a2 c2 r hr; obtain rfl : n = 0 := (by omega); exact qe hr
  ·intro n hn v1 v3 a2 c2 r hr; obtain rfl : n = 0 := (by omega); exact qe hr
  ·intro n hn v1 v3 a2 c2 r hr; obtain rfl : n = 0 := (by omega); exact qe hr
  ·intro n hn v1 v3 a2 c2 r hr; obtain rfl : n = 0 := (by omega); exact qe hr
 | succ N ih =>
  obtain ⟨ih1, ih2, ih3, ih4⟩ := ih
  refine ⟨?_, ?_, ?_, ?_⟩
  ·
   intro n hn v1 v3 a2 c2 r hr
   rcases n with _ | n
   ·exact qe hr
   replace hn : n ≤ N := by omega
   rw [subst_small.eq_2] at hr
   refine qb (N := 29) (m := 1) (dt := fun _ => none) [] ttOK func318 rfl call318 ntmps318 rfl rfl rfl mixed (by kernel_rfl) ?_
   refine AtIf.mk (fun h4 => ?_) (fun h4 => ?_)
   ·replace hr := qg h4 hr
    replace hr := osi hr; subst hr
    exact AtRet.gen ⟨[.cells 3 [(iS (IntKind.i64.wrap (v3 + 1)))]], [], []⟩ (StLe.gen 1 [] [] rfl rfl rfl rfl rfl rfl rfl) rfl rfl ⟨rfl, rfl⟩
   ·replace hr := qf h4 hr
    obtain ⟨v5, h6, hr⟩ := bind_some hr
    refine (ih2 n (by omega) v1.args (IntKind.i64.wrap (v3 + 1)) a2 c2 _ h6).frameR [2, 0] [0] rfl rfl rfl rfl rfl rfl rfl rfl ?_
    rintro _ _ ⟨rfl, rfl⟩
    refine ⟨rfl, rfl, [.cells 332 [(.loc 0 0)], .cells 3 [(iS v5.2)]], rfl, ?_⟩
    replace hr := osi hr; subst hr
    exact AtRet.gen ⟨[.cells 3 [(iS v5.2)]], [], []⟩ (StLe.gen 1 [] [] rfl rfl rfl rfl rfl rfl rfl) rfl rfl ⟨rfl, rfl⟩
  ·
   intro n hn v1 v3 a2 c2 r hr
   rcases n with _ | n
   ·exact qe hr
   replace hn : n ≤ N := by omega
   rw [slices_ContainsFunc_subst_small_1.eq_2] at hr
   refine qb (N := 9) (m := 2) (dt := fun _ => none) [] ttOK func339 rfl call339 ntmps339 rfl rfl rfl mixed (by kernel_rfl) ?_
   obtain ⟨v4, h5, hr⟩ := bind_some hr
   refine (ih4 n (by omega) v1 v3 a2 c2 _ h5).frameR [0, 1] [0] rfl rfl rfl rfl rfl rfl rfl rfl ?_
   rintro _ _ ⟨rfl, rfl⟩
   refine ⟨rfl, rfl, [.cells 332 [(.loc 1 0)], .cells 3 [(iS v4.2)]], rfl, ?_⟩
   replace hr := osi hr; subst hr
   exact AtRet.gen ⟨[.cells 332 [(.loc 1 0)], .cells 3 [(iS v4.2)]], [], []⟩ (StLe.gen 2 [] [] rfl rfl rfl rfl rfl rfl rfl) rfl rfl ⟨rfl, rfl⟩
  ·
   intro n hn v1 v3 a2 c2 r hr
   rcases n with _ | n
   ·exact qe hr
   replace hn : n ≤ N := by omega
   rw [subst_small_1.eq_2] at hr
   refine qb (N := 8) (m := 2) (dt := fun _ => none) [] ttOK func362 rfl call362 ntmps362 rfl rfl rfl mixed (by kernel_rfl) ?_
   obtain ⟨v4, h5, hr⟩ := bind_some hr
   refine (ih1 n (by omega) v1 v3 a2 c2 _ h5).frameR [1] [0] rfl rfl rfl rfl rfl rfl rfl rfl ?_
   rintro _ _ ⟨rfl, rfl⟩
   refine ⟨rfl, rfl, [.cells 3 [(iS v4.2)]], rfl, ?_⟩
   replace hr := osi hr; subst hr
   exact AtRet.gen ⟨[.cells 332 [(.loc 1 0)], .cells 3 [(iS v4.2)]], [], []⟩ (StLe.gen 2 [] [] rfl rfl rfl rfl rfl rfl rfl) rfl rfl ⟨rfl, rfl⟩
  ·
   intro n hn v1 v3 a2 c2 r hr
   rcases n with _ | n
   ·exact qe hr
   replace hn : n ≤ N := by omega
   rw [slices_IndexFunc_subst_small_1.eq_2] at hr
   refine qb (N := 19) (m := 2) (dt := fun _ => none) [] ttOK func372 rfl call372 ntmps372 rfl rfl rfl mixed (by kernel_rfl) ?_
   refine AtLoop.mk ⟨Nat × Int × Int, fun x => [(0, (.v (.slice a2 ((Sm.encL v1).length) c2))), (1, (.fn (.func 362) [] [(.loc 0 0)])), (7, (iS ((Sm.encL v1).length : Int))), (8, (iS x.2.2))], fun x => ⟨[.cells 332 [(.loc 1 0)], .cells 3 [(iS x.2.1)]], [], [(.slice a2 ((Sm.encL v1).length) c2, .sl 2 (Sm.encL v1))]⟩, fun x => x.1 ≤ N ∧ slices_IndexFunc_subst_small_1_L1 x.1 v1 x.2.1 x.2.2 = some r, fun x => x.1, (n, v3, 0), ⟨by omega, hr⟩, ⟨rfl, rfl, rfl, rfl, trivial⟩, (StLe.gen 2 [] [.old 0] rfl rfl rfl rfl rfl rfl rfl), fun x _ => ⟨rfl, rfl⟩, ?_⟩
   rintro ⟨n, v4, v5⟩ HH
   obtain ⟨hn, hr⟩ : n ≤ N ∧ slices_IndexFunc_subst_small_1_L1 n v1 v4 v5 = some r := HH
   rcases n with _ | n
   ·exact qe hr
   rw [slices_IndexFunc_subst_small_1_L1.eq_2] at hr
   refine AtIf.mk (fun h6 => ?_) (fun h6 => ?_)
   ·replace hr := qg h6 hr
    obtain ⟨v7, h8, hr⟩ := bind_some hr
    obtain ⟨h9, h10⟩ := qi h8
    refine qh ttOK 0 rfl rfl rfl rfl h9 (Sm.encL_get h10) ?_
    intro a11 c11 _ _
    obtain ⟨v12, h13, hr⟩ := bind_some hr
    refine (ih3 n (by omega) v7 v4 a11 c11 _ h13).frameR [0, 1] [1] rfl rfl rfl rfl rfl rfl rfl rfl ?_
    rintro _ _ ⟨rfl, rfl⟩
    refine ⟨rfl, rfl, [.cells 332 [(.loc 1 0)], .cells 3 [(iS v12.2)]], rfl, ?_⟩
    refine AtIf.mk (fun h14 => ?_) (fun h14 => ?_)
    ·replace hr := qg h14 hr
     replace hr := osi hr; subst hr
     exact AtRet.gen ⟨[.cells 332 [(.loc 1 0)], .cells 3 [(iS v12.2)]], [], []⟩ (StLe.gen 2 [] [] rfl rfl rfl rfl rfl rfl rfl) rfl rfl ⟨rfl, rfl⟩
    ·replace hr := qf h14 hr
     exact ⟨(n, v12.2, (IntKind.i64.wrap (v5 + 1))), ⟨by omega, hr⟩, Nat.lt_succ_self _, ⟨rfl, rfl, rfl, rfl, trivial⟩, (StLe.gen 2 [] [.old 0] rfl rfl rfl rfl rfl rfl rfl)⟩
   ·replace hr := qf h6 hr
    replace hr := osi hr; subst hr
    exact AtRet.gen ⟨[.cells 332 [(.loc 1 0)], .cells 3 [(iS v4)]], [], []⟩ (StLe.gen 2 [] [] rfl rfl rfl rfl rfl rfl rfl) rfl rfl ⟨rfl, rfl⟩
theorem qio (n : Nat) (v1 : Sm) (v3 : Int) (a2 : OA) (c2 : Nat) (r : Bool × Int) (hr : subst_small n v1 v3 = some r) : Meets Tryz.prog (.val (.fn (.func 318) [] [])) [(.agg [(.v (.slice a2 ((Sm.encL v1.args).length) c2)), (iS v1.con)]), (.loc 0 0)] ⟨[.cells 3 [(iS v3)]], [], [(.slice a2 ((Sm.encL v1.args).length) c2, .sl 2 (Sm.encL v1.args))]⟩ (fun o S' => o = .ret (bS r.1) ∧ S' = ⟨[.cells 3 [(iS r.2)]], [], []⟩) := (qhe n).1 n (Nat.le_refl _) v1 v3 a2 c2 r hr
def subst_Small : Nat → Sm → Option (Bool)
 | 0, _ => none
 | n + 1, v1 =>
  (subst_small n v1 0).bind (fun v3 =>
  some (v3.1))
theorem qit (n : Nat) (v1 : Sm) (a2 : OA) (c2 : Nat) (r : Bool) (hr : subst_Small n v1 = some r) : Pure Tryz.prog (.val (.fn (.func 240) [] [])) [(.agg [(.v (.slice a2 ((Sm.encL v1.args).length) c2)), (iS v1.con)])] [(.slice a2 ((Sm.encL v1.args).length) c2, .sl 2 (Sm.encL v1.args))] (fun r' out => r' = (bS r) ∧ out = []) := by
 rcases n with _ | n
 ·exact qe hr
 rw [subst_Small.eq_2] at hr
 refine qb (N := 6) (m := 0) (dt := fun _ => none) [] ttOK func240 rfl call240 ntmps240 rfl rfl rfl mixed (by kernel_rfl) ?_
 obtain ⟨v3, h4, hr⟩ := bind_some hr
 refine (qio n v1 0 a2 c2 _ h4).frameR [1] [0] rfl rfl rfl rfl rfl rfl rfl rfl ?_
 rintro _ _ ⟨rfl, rfl⟩
 refine ⟨rfl, rfl, [.cells 3 [(iS v3.2)]], rfl, ?_⟩
 replace hr := osi hr; subst hr
 exact qa [] [] rfl rfl ⟨rfl, rfl⟩
def subst_good_1 : Nat → Sm → Option (Bool)
 | 0, _ => none
 | n + 1, v1 =>
  (subst_Small n v1).bind (fun v3 =>
  some ((!v3)))
theorem qhd (n : Nat) (v1 : Sm) (a2 : OA) (c2 : Nat) (r : Bool) (hr : subst_good_1 n v1 = some r) : Pure Tryz.prog (.val (.fn (.func 340) [] [])) [(.agg [(.v (.slice a2 ((Sm.encL v1.args).length) c2)), (iS v1.con)])] [(.slice a2 ((Sm.encL v1.args).length) c2, .sl 2 (Sm.encL v1.args))] (fun r' out => r' = (bS r) ∧ out = []) := by
 rcases n with _ | n
 ·exact qe hr
 rw [subst_good_1.eq_2] at hr
 refine qb (N := 6) (m := 0) (dt := fun _ => none) [] ttOK func340 rfl call340 ntmps340 rfl rfl rfl mixed (by kernel_rfl) ?_
 obtain ⟨v3, h4, hr⟩ := bind_some hr
 refine (qit n v1 a2 c2 _ h4).atR [0] rfl rfl rfl ?_
 rintro _ _ ⟨rfl, rfl⟩
 replace hr := osi hr; subst hr
 exact qa [] [] rfl rfl ⟨rfl, rfl⟩
mutual
def slices_IndexFunc_subst_good_1 : Nat → (List Sm) → Option (Int)
 | 0, _ => none
 | n + 1, v1 =>
  slices_IndexFunc_subst_good_1_L1 n v1 0
def slices_IndexFunc_subst_good_1_L1 : Nat → (List Sm) → Int → Option (Int)
 | 0, _, _ => none
 | n + 1, v1, v3 =>
  cond (decide (v3 < ((Sm.encL v1).length : Int))) (
  (idx v1 v3).bind (fun v5 =>
  (subst_good_1 n v5).bind (fun v10 =>
  cond v10 (
  some (v3)) (
  slices_IndexFunc_subst_good_1_L1 n v1 (IntKind.i64.wrap (v3 + 1)))))) (
  some ((-1)))
 end
theorem qbv (n : Nat) (v1 : (List Sm)) (a2 : OA) (c2 : Nat) (r : Int) (hr : slices_IndexFunc_subst_good_1 n v1 = some r) : Pure Tryz.prog (.val (.fn (.func 372) [] [])) [(.v (.slice a2 ((Sm.encL v1).length) c2)), (.fn (.func 340) [] [])] [(.slice a2 ((Sm.encL v1).length) c2, .sl 2 (Sm.encL v1))] (fun r' out => r' = (iS r) ∧ out = []) := by
 rcases n with _ | n
 ·exact qe hr
 rw [slices_IndexFunc_subst_good_1.eq_2] at hr
 refine qb (N := 19) (m := 0) (dt := fun _ => none) [] ttOK func372 rfl call372 ntmps372 rfl rfl rfl mixed (by kernel_rfl) ?_
 refine AtLoop.mk ⟨Nat × Int, fun x => [(0, (.v (.slice a2 ((Sm.encL v1).length) c2))), (1, (.fn (.func 340) [] [])), (7, (iS ((Sm.encL v1).length : Int))), (8, (iS x.2))], fun x => ⟨[], [], [(.slice a2 ((Sm.encL v1).length) c2, .sl 2 (Sm.encL v1))]⟩, fun x => slices_IndexFunc_subst_good_1_L1 x.1 v1 x.2 = some r, fun x => x.1, (n, 0), hr, ⟨rfl, rfl, rfl, rfl, trivial⟩, (StLe.gen 0 [] [.old 0] rfl rfl rfl rfl rfl rfl rfl), fun x _ => ⟨rfl, rfl⟩, ?_⟩
 rintro ⟨n, v3⟩ HH
 have hr : slices_IndexFunc_subst_good_1_L1 n v1 v3 = some r := HH
 rcases n with _ | n
 ·exact qe hr
 rw [slices_IndexFunc_subst_good_1_L1.eq_2] at hr
 refine AtIf.mk (fun h4 => ?_) (fun h4 => ?_)
 ·replace hr := qg h4 hr
  obtain ⟨v5, h6, hr⟩ := bind_some hr
  obtain ⟨h7, h8⟩ := qi h6
  refine qh ttOK 0 rfl rfl rfl rfl h7 (Sm.encL_get h8) ?_
  intro a9 c9 _ _
  obtain ⟨v10, h11, hr⟩ := bind_some hr
  refine (qhd n v5 a9 c9 _ h11).atR [1] rfl rfl rfl ?_
  rintro _ _ ⟨rfl, rfl⟩
  refine AtIf.mk (fun h12 => ?_) (fun h12 => ?_)
  ·replace hr := qg h12 hr
   replace hr := osi hr; subst hr
   exact qa [] [] rfl rfl ⟨rfl, rfl⟩
  ·replace hr := qf h12 hr
   exact ⟨(n, (IntKind.i64.wrap (v3 + 1))), hr, Nat.lt_succ_self _, ⟨rfl, rfl, rfl, rfl, trivial⟩, (StLe.gen 0 [] [.old 0] rfl rfl rfl rfl rfl rfl rfl)⟩
 ·replace hr := qf h4 hr
  replace hr := osi hr; subst hr
  exact qa [] [] rfl rfl ⟨rfl, rfl⟩
def slices_ContainsFunc_subst_good_1 : Nat → (List Sm) → Option (Bool)
 | 0, _ => none
 | n + 1, v1 =>
  (slices_IndexFunc_subst_good_1 n v1).bind (fun v3 =>
  some ((decide (v3 ≥ 0))))
theorem qbl (n : Nat) (v1 : (List Sm)) (a2 : OA) (c2 : Nat) (r : Bool) (hr : slices_ContainsFunc_subst_good_1 n v1 = some r) : Pure Tryz.prog (.val (.fn (.func 339) [] [])) [(.v (.slice a2 ((Sm.encL v1).length) c2)), (.fn (.func 340) [] [])] [(.slice a2 ((Sm.encL v1).length) c2, .sl 2 (Sm.encL v1))] (fun r' out => r' = (bS r) ∧ out = []) := by
 rcases n with _ | n
 ·exact qe hr
 rw [slices_ContainsFunc_subst_good_1.eq_2] at hr
 refine qb (N := 9) (m := 0) (dt := fun _ => none) [] ttOK func339 rfl call339 ntmps339 rfl rfl rfl mixed (by kernel_rfl) ?_
 obtain ⟨v3, h4, hr⟩ := bind_some hr
 refine (qbv n v1 a2 c2 _ h4).atR [0] rfl rfl rfl ?_
 rintro _ _ ⟨rfl, rfl⟩
 replace hr := osi hr; subst hr
 exact qa [] [] rfl rfl ⟨rfl, rfl⟩
def subst_good_2 : Nat → Int → Option (Bool)
 | 0, _ => none
 | n + 1, v1 =>
  some (((decide (v1 < 0)) || (decide (v1 > 9999))))
theorem qhj (n : Nat) (v1 : Int)  (r : Bool) (hr : subst_good_2 n v1 = some r) : Pure Tryz.prog (.val (.fn (.func 342) [] [])) [(iS v1)] [] (fun r' out => r' = (bS r) ∧ out = []) := by
 rcases n with _ | n
 ·exact qe hr
 rw [subst_good_2.eq_2] at hr
 refine qb (N := 9) (m := 0) (dt := fun _ => none) [] ttOK func342 rfl call342 ntmps342 rfl rfl rfl mixed (by kernel_rfl) ?_
 replace hr := osi hr; subst hr
 exact qa [] [] rfl rfl ⟨rfl, rfl⟩
mutual
def slices_IndexFunc_subst_good_2 : Nat → (List Int) → Option (Int)
 | 0, _ => none
 | n + 1, v1 =>
  slices_IndexFunc_subst_good_2_L1 n v1 0
def slices_IndexFunc_subst_good_2_L1 : Nat → (List Int) → Int → Option (Int)
 | 0, _, _ => none
 | n + 1, v1, v3 =>
  cond (decide (v3 < ((List.map (D.int .i64) v1).length : Int))) (
  (idx v1 v3).bind (fun v5 =>
  (subst_good_2 n v5).bind (fun v9 =>
  cond v9 (
  some (v3)) (
  slices_IndexFunc_subst_good_2_L1 n v1 (IntKind.i64.wrap (v3 + 1)))))) (
  some ((-1)))
 end
theorem qbw (n : Nat) (v1 : (List Int)) (a2 : OA) (c2 : Nat) (r : Int) (hr : slices_IndexFunc_subst_good_2 n v1 = some r) : Pure Tryz.prog (.val (.fn (.func 373) [] [])) [(nU v1 a2 c2), (.fn (.func 342) [] [])] [(nQ v1 a2 c2)] (fun r' out => r' = (iS r) ∧ out = []) := by
 rcases n with _ | n
 ·exact qe hr
 rw [slices_IndexFunc_subst_good_2.eq_2] at hr
 refine qb (N := 19) (m := 0) (dt := fun _ => none) [] ttOK func373 rfl call373 ntmps373 rfl rfl rfl mixed (by kernel_rfl) ?_
 refine AtLoop.mk ⟨Nat × Int, fun x => [(0, (nU v1 a2 c2)), (1, (.fn (.func 342) [] [])), (7, (iS ((List.map (D.int .i64) v1).length : Int))), (8, (iS x.2))], fun x => ⟨[], [], [(nQ v1 a2 c2)]⟩, fun x => slices_IndexFunc_subst_good_2_L1 x.1 v1 x.2 = some r, fun x => x.1, (n, 0), hr, ⟨rfl, rfl, rfl, rfl, trivial⟩, (StLe.gen 0 [] [.old 0] rfl rfl rfl rfl rfl rfl rfl), fun x _ => ⟨rfl, rfl⟩, ?_⟩
 rintro ⟨n, v3⟩ HH
 have hr : slices_IndexFunc_subst_good_2_L1 n v1 v3 = some r := HH
 rcases n with _ | n
 ·exact qe hr
 rw [slices_IndexFunc_subst_good_2_L1.eq_2] at hr
 refine AtIf.mk (fun h4 => ?_) (fun h4 => ?_)
 ·replace hr := qg h4 hr
  obtain ⟨v5, h6, hr⟩ := bind_some hr
  obtain ⟨h7, h8⟩ := qi h6
  refine qh ttOK 0 rfl rfl rfl rfl h7 (qa7 (D.int .i64) h8) ?_
  obtain ⟨v9, h10, hr⟩ := bind_some hr
  refine (qhj n v5 _ h10).atR [] rfl rfl rfl ?_
  rintro _ _ ⟨rfl, rfl⟩
  refine AtIf.mk (fun h11 => ?_) (fun h11 => ?_)
  ·replace hr := qg h11 hr
   replace hr := osi hr; subst hr
   exact qa [] [] rfl rfl ⟨rfl, rfl⟩
  ·replace hr := qf h11 hr
   exact ⟨(n, (IntKind.i64.wrap (v3 + 1))), hr, Nat.lt_succ_self _, ⟨rfl, rfl, rfl, rfl, trivial⟩, (StLe.gen 0 [] [.old 0] rfl rfl rfl rfl rfl rfl rfl)⟩
 ·replace hr := qf h4 hr
  replace hr := osi hr; subst hr
  exact qa [] [] rfl rfl ⟨rfl, rfl⟩
def slices_ContainsFunc_subst_good_2 : Nat → (List Int) → Option (Bool)
 | 0, _ => none
 | n + 1, v1 =>
  (slices_IndexFunc_subst_good_2 n v1).bind (fun v3 =>
  some ((decide (v3 ≥ 0))))
theorem qbm (n : Nat) (v1 : (List Int)) (a2 : OA) (c2 : Nat) (r : Bool) (hr : slices_ContainsFunc_subst_good_2 n v1 = some r) : Pure Tryz.prog (.val (.fn (.func 341) [] [])) [(nU v1 a2 c2), (.fn (.func 342) [] [])] [(nQ v1 a2 c2)] (fun r' out => r' = (bS r) ∧ out = []) := by
 rcases n with _ | n
 ·exact qe hr
 rw [slices_ContainsFunc_subst_good_2.eq_2] at hr
 refine qb (N := 9) (m := 0) (dt := fun _ => none) [] ttOK func341 rfl call341 ntmps341 rfl rfl rfl mixed (by kernel_rfl) ?_
 obtain ⟨v3, h4, hr⟩ := bind_some hr
 refine (qbw n v1 a2 c2 _ h4).atR [0] rfl rfl rfl ?_
 rintro _ _ ⟨rfl, rfl⟩
 replace hr := osi hr; subst hr
 exact qa [] [] rfl rfl ⟨rfl, rfl⟩
mutual
def subst_good : Nat → (List Tm) → (List Sm) → (List Int) → Option (Bool)
 | 0, _, _, _ => none
 | n + 1, v1, v3, v5 =>
  cond (decide (((Tm.encL v1).length : Int) > 601)) (
  some (false)) (
  subst_good_L1 n v1 v3 v5 0)
def subst_good_L1 : Nat → (List Tm) → (List Sm) → (List Int) → Int → Option (Bool)
 | 0, _, _, _, _ => none
 | n + 1, v1, v3, v5, v8 =>
  cond (decide (v8 < ((Tm.encL v1).length : Int))) (
  (idx v1 v8).bind (fun v10 =>
  cond ((if isProper v10 then (0 : Int) else 2) != 0) (
  some (false)) (
  subst_good_L1 n v1 v3 v5 (IntKind.i64.wrap (v8 + 1))))) (
  (slices_ContainsFunc_subst_good_1 n v3).bind (fun v16 =>
  cond v16 (
  some (false)) (
  (slices_ContainsFunc_subst_good_2 n v5).bind (fun v19 =>
  some ((!v19))))))
 end
theorem qjz (n : Nat) (v1 : (List Tm)) (v3 : (List Sm)) (v5 : (List Int)) (a2 : OA) (c2 : Nat) (a4 : OA) (c4 : Nat) (a6 : OA) (c6 : Nat) (r : Bool) (hr : subst_good n v1 v3 v5 = some r) : Pure Tryz.prog (.val (.fn (.func 284) [] [])) [(tU v1 a2 c2), (.v (.slice a4 ((Sm.encL v3).length) c4)), (nU v5 a6 c6)] [(tQ v1 a2 c2), (.slice a4 ((Sm.encL v3).length) c4, .sl 2 (Sm.encL v3)), (nQ v5 a6 c6)] (fun r' out => r' = (bS r) ∧ out = []) := by
 rcases n with _ | n
 ·exact qe hr
 rw [subst_good.eq_2] at hr
 refine qb (N := 27) (m := 0) (dt := fun _ => none) [] ttOK func284 rfl call284 ntmps284 rfl rfl rfl mixed (by kernel_rfl) ?_
 refine AtIf.mk (fun h7 => ?_) (fun h7 => ?_)
 ·replace hr := qg h7 hr
  replace hr := osi hr; subst hr
  exact qa [] [] rfl rfl ⟨rfl, rfl⟩
 ·replace hr := qf h7 hr
  refine AtLoop.mk ⟨Nat × Int, fun x => [(1, (.v (.slice a4 ((Sm.encL v3).length) c4))), (2, (nU v5 a6 c6)), (12, (tU v1 a2 c2)), (13, (iS ((Tm.encL v1).length : Int))), (14, (iS x.2))], fun x => ⟨[], [], [(tQ v1 a2 c2), (.slice a4 ((Sm.encL v3).length) c4, .sl 2 (Sm.encL v3)), (nQ v5 a6 c6)]⟩, fun x => subst_good_L1 x.1 v1 v3 v5 x.2 = some r, fun x => x.1, (n, 0), hr, ⟨rfl, rfl, rfl, rfl, rfl, trivial⟩, (StLe.gen 0 [] [.old 0, .old 1, .old 2] rfl rfl rfl rfl rfl rfl rfl), fun x _ => ⟨rfl, rfl⟩, ?_⟩
  rintro ⟨n, v8⟩ HH
  have hr : subst_good_L1 n v1 v3 v5 v8 = some r := HH
  rcases n with _ | n
  ·exact qe hr
  rw [subst_good_L1.eq_2] at hr
  refine AtIf.mk (fun h9 => ?_) (fun h9 => ?_)
  ·replace hr := qg h9 hr
   obtain ⟨v10, h11, hr⟩ := bind_some hr
   obtain ⟨h12, h13⟩ := qi h11
   refine qh ttOK 0 rfl rfl rfl rfl h12 (Tm.encL_get h13) ?_
   intro a14 c14 _ _
   refine (qb7 v10 a14 c14).atR [3] rfl rfl rfl ?_
   rintro _ _ ⟨rfl, rfl⟩
   refine AtIf.mk (fun h15 => ?_) (fun h15 => ?_)
   ·replace hr := qg h15 hr
    replace hr := osi hr; subst hr
    exact qa [] [] rfl rfl ⟨rfl, rfl⟩
   ·replace hr := qf h15 hr
    exact ⟨(n, (IntKind.i64.wrap (v8 + 1))), hr, Nat.lt_succ_self _, ⟨rfl, rfl, rfl, rfl, rfl, trivial⟩, (StLe.gen 0 [] [.old 0, .old 1, .old 2] rfl rfl rfl rfl rfl rfl rfl)⟩
  ·replace hr := qf h9 hr
   obtain ⟨v16, h17, hr⟩ := bind_some hr
   refine (qbl n v3 a4 c4 _ h17).atR [1] rfl rfl rfl ?_
   rintro _ _ ⟨rfl, rfl⟩
   refine AtIf.mk (fun h18 => ?_) (fun h18 => ?_)
   ·replace hr := qg h18 hr
    replace hr := osi hr; subst hr
    exact qa [] [] rfl rfl ⟨rfl, rfl⟩
   ·replace hr := qf h18 hr
    obtain ⟨v19, h20, hr⟩ := bind_some hr
    refine (qbm n v5 a6 c6 _ h20).atR [2] rfl rfl rfl ?_
    rintro _ _ ⟨rfl, rfl⟩
    replace hr := osi hr; subst hr
    exact qa [] [] rfl rfl ⟨rfl, rfl⟩
def term_Copy_1 : Nat → Tm → Int → Option (Tm)
 | 0, _, _ => none
 | n + 1, v1, v3 =>
  some (v1)
theorem qid (n : Nat) (v1 : Tm) (v3 : Int) (a2 : OA) (c2 : Nat) (r : Tm) (hr : term_Copy_1 n v1 v3 = some r) : Meets Tryz.prog (.val (.fn (.func 208) [] [])) [(.agg [(iS v1.op), (iS v1.hd), (iS v1.n), (tU v1.args a2 c2)]), (iS v3)] ⟨[], [⟨.slice a2 ((Tm.encL v1.args).length) c2, 4, 41, (Tm.encL v1.args)⟩], []⟩ (fun o S' => ∃ (b1 : OA) (d1 : Nat), o = .ret (.agg [(iS r.op), (iS r.hd), (iS r.n), (tU r.args b1 d1)]) ∧ S' = ⟨[], [⟨.slice b1 ((Tm.encL r.args).length) d1, 4, 41, (Tm.encL r.args)⟩], []⟩) := by
 rcases n with _ | n
 ·exact qe hr
 rw [term_Copy_1.eq_2] at hr
 refine qb (N := 6) (m := 0) (dt := fun _ => none) [] ttOK func208 rfl call208 ntmps208 rfl rfl rfl mixed (by kernel_rfl) ?_
 replace hr := osi hr; subst hr
 exact AtRet.gen ⟨[], [⟨.slice a2 ((Tm.encL v1.args).length) c2, 4, 41, (Tm.encL v1.args)⟩], []⟩ (StLe.gen 0 [.old 0] [] rfl rfl rfl rfl rfl rfl rfl) rfl rfl ⟨a2, c2, rfl, rfl⟩
def term_Under : Nat → Tm → Int → Option (Int)
 | 0, _, _ => none
 | n + 1, v1, v3 =>
  cond ((v1.op == 3) || ((v1.op == 2) && (v3 == 1))) (
  some (1)) (
  some (0))
theorem qba (n : Nat) (v1 : Tm) (v3 : Int) (a2 : OA) (c2 : Nat) (r : Int) (hr : term_Under n v1 v3 = some r) : Pure Tryz.prog (.val (.fn (.func 279) [] [])) [(.agg [(iS v1.op), (iS v1.hd), (iS v1.n), (tU v1.args a2 c2)]), (iS v3)] [(tQ v1.args a2 c2)] (fun r' out => r' = (iS r) ∧ out = []) := by
 rcases n with _ | n
 ·exact qe hr
 rw [term_Under.eq_2] at hr
 refine qb (N := 17) (m := 0) (dt := fun _ => none) [] ttOK func279 rfl call279 ntmps279 rfl rfl rfl mixed (by kernel_rfl) ?_
 refine AtIf.mk (fun h4 => ?_) (fun h4 => ?_)
 ·replace hr := qg h4 hr
  replace hr := osi hr; subst hr
  exact qa [] [] rfl rfl ⟨rfl, rfl⟩
 ·replace hr := qf h4 hr
  replace hr := osi hr; subst hr
  exact qa [] [] rfl rfl ⟨rfl, rfl⟩
mutual
def term_Map_term_Copy_1 : Nat → Tm → Int → Option (Tm)
 | 0, _, _ => none
 | n + 1, v1, v3 =>
  (term_Copy_1 n (Tm.mk v1.op v1.hd v1.n ([])) v3).bind (fun v4 =>
  term_Map_term_Copy_1_L1 n v1 v3 v4 0)
def term_Map_term_Copy_1_L1 : Nat → Tm → Int → Tm → Int → Option (Tm)
 | 0, _, _, _, _ => none
 | n + 1, v1, v3, v7, v9 =>
  cond (decide (v9 < ((Tm.encL v1.args).length : Int))) (
  (idx v1.args v9).bind (fun v11 =>
  (term_Under n v1 v9).bind (fun v16 =>
  (term_Map_term_Copy_1 n v11 (IntKind.i64.wrap (v3 + v16))).bind (fun v18 =>
  cond (decide ((Tm.encL (v7.args ++ [v18])).length ≤ 1000000)) (
  term_Map_term_Copy_1_L1 n v1 v3 (Tm.mk v7.op v7.hd v7.n (v7.args ++ [v18])) (IntKind.i64.wrap (v9 + 1))) none)))) (
  some (v7))
 end
theorem qdh : ∀ (N : Nat), (∀ (n : Nat), n ≤ N → ∀ (v1 : Tm) (v3 : Int) (a2 : OA) (c2 : Nat) (r : Tm), term_Map_term_Copy_1 n v1 v3 = some r → Pure Tryz.prog (.val (.fn (.func 207) [] [])) [(.agg [(iS v1.op), (iS v1.hd), (iS v1.n), (tU v1.args a2 c2)]), (iS v3), (.fn (.func 208) [] [])] [(tQ v1.args a2 c2)] (fun r' out => ∃ (b1 : OA) (d1 : Nat), r' = (.agg [(iS r.op), (iS r.hd), (iS r.n), (tU r.args b1 d1)]) ∧ out = [(tQ r.args b1 d1)])) := by
 intro N
 induction N with
 | zero =>
  intro n hn v1 v3 a2 c2 r hr; obtain rfl : n = 0 := (by omega); exact qe hr
 | succ N ih =>
  intro n hn v1 v3 a2 c2 r hr
  rcases n with _ | n
  ·exact qe hr
  replace hn : n ≤ N := by omega
  rw [term_Map_term_Copy_1.eq_2] at hr
  refine qb (N := 43) (m := 0) (dt := drawsOf [(5, .node [0, 1, 2, 3, 4, 5, 8] [(6, .node [7] [(9, .node [] [(10, .node [] [(11, .node [12] [(13, .leaf [])])])])])], [11, 13], [])]) [] ttOK func207 rfl call207 ntmps207 rfl rfl rfl mixed (by kernel_rfl) ?_
  obtain ⟨v4, h5, hr⟩ := bind_some hr
  refine Meets.le (S' := ⟨[.cells 41 [(iS v1.op), (iS v1.hd), (iS v1.n), (tU v1.args a2 c2)], .cells 41 [(iS 0), (iS 0), (iS 0), (.v (.slice none 0 0))]], [⟨.slice none 0 0, 4, 41, []⟩], [(tQ v1.args a2 c2)]⟩) (StLe.gen 2 [.nil 4 41] [.old 0] rfl rfl rfl rfl rfl rfl rfl) rfl ?_
  refine (qid n (Tm.mk v1.op v1.hd v1.n ([])) v3 none 0 _ h5).frameRA [] [0] [] rfl rfl rfl rfl rfl rfl rfl rfl rfl ?_
  rintro _ _ ⟨a6, c6, rfl, rfl⟩
  refine ⟨rfl, [], rfl, ?_⟩
  refine AtLoop.mk ⟨Nat × Tm × Option Addr × Nat × Int, fun x => [(1, (iS v3)), (2, (.fn (.func 208) [] [])), (3, (.loc 0 0)), (6, (.loc 1 0)), (7, (.loc 2 0)), (21, (tU v1.args a2 c2)), (22, (iS ((Tm.encL v1.args).length : Int))), (23, (iS x.2.2.2.2))], fun x => ⟨[.cells 41 [(iS v1.op), (iS v1.hd), (iS v1.n), (tU v1.args a2 c2)], .cells 41 [(iS 0), (iS 0), (iS 0), (.v (.slice none 0 0))], .cells 41 [(iS x.2.1.op), (iS x.2.1.hd), (iS x.2.1.n), (tU x.2.1.args x.2.2.1 x.2.2.2.1)]], [⟨.slice x.2.2.1 ((Tm.encL x.2.1.args).length) x.2.2.2.1, 4, 41, (Tm.encL x.2.1.args)⟩], [(tQ v1.args a2 c2)]⟩, fun x => x.1 ≤ N ∧ term_Map_term_Copy_1_L1 x.1 v1 v3 x.2.1 x.2.2.2.2 = some r, fun x => x.1, (n, v4, a6, c6, 0), ⟨by omega, hr⟩, ⟨rfl, rfl, rfl, rfl, rfl, rfl, rfl, rfl, trivial⟩, (StLe.gen 3 [.old 0] [.old 0] rfl rfl rfl rfl rfl rfl rfl), fun x _ => ⟨rfl, rfl⟩, ?_⟩
  rintro ⟨n, v7, a8, c8, v9⟩ HH
  obtain ⟨hn, hr⟩ : n ≤ N ∧ term_Map_term_Copy_1_L1 n v1 v3 v7 v9 = some r := HH
  rcases n with _ | n
  ·exact qe hr
  rw [term_Map_term_Copy_1_L1.eq_2] at hr
  refine AtIf.mk (fun h10 => ?_) (fun h10 => ?_)
  ·replace hr := qg h10 hr
   obtain ⟨v11, h12, hr⟩ := bind_some hr
   obtain ⟨h13, h14⟩ := qi h12
   refine qh ttOK 0 rfl rfl rfl rfl h13 (Tm.encL_get h14) ?_
   intro a15 c15 _ _
   obtain ⟨v16, h17, hr⟩ := bind_some hr
   refine (qba n v1 v9 a2 c2 _ h17).atR [0] rfl rfl rfl ?_
   rintro _ _ ⟨rfl, rfl⟩
   refine ⟨fun _ _ h => h, ?_⟩
   obtain ⟨v18, h19, hr⟩ := bind_some hr
   refine (ih n (by omega) v11 (IntKind.i64.wrap (v3 + v16)) a15 c15 _ h19).atR [1] rfl rfl rfl ?_
   rintro _ _ ⟨a20, c20, rfl, rfl⟩
   refine ⟨fun _ _ h => h, ?_⟩
   refine qk (n := 1) ttOK 48 [.agg [.int .i64 v18.op, .int .i64 v18.hd, .int .i64 v18.n, .sl 4 (Tm.encL v18.args)]] (ds' := (Tm.encL ([v18]))) rfl (by kernel_rfl) ⟨⟨rfl, rfl, rfl, ⟨[(iS v18.op)], _, rfl, rfl, ⟨[(iS v18.hd)], _, rfl, rfl, ⟨[(iS v18.n)], _, rfl, rfl, ⟨[(tU v18.args a20 c20)], _, rfl, (.inl ⟨_, rfl, ql (j := 2) rfl⟩), rfl⟩⟩⟩⟩⟩, trivial⟩ rfl (by simp only [Tm.encL_eq, List.map_cons, List.map_nil, Tm.enc_eq] <;> rfl) (by decide) (by decide) ?_
   intro a21
   refine ⟨fun _ _ h => h, ?_⟩
   obtain ⟨h22, hr⟩ := qj hr
   refine qm (ds' := (Tm.encL (v7.args ++ [v18]))) ttOK 48 0 3 rfl (by kernel_rfl) rfl rfl rfl rfl (by simp only [Tm.encL_eq, List.map_append]) h22 (by decide) ?_
   intro a23 c23
   exact ⟨(n, (Tm.mk v7.op v7.hd v7.n (v7.args ++ [v18])), a23, c23, (IntKind.i64.wrap (v9 + 1))), ⟨by omega, hr⟩, Nat.lt_succ_self _, ⟨rfl, rfl, rfl, rfl, rfl, rfl, rfl, rfl, trivial⟩, (StLe.gen 3 [.old 0] [.old 0] rfl rfl rfl rfl rfl rfl rfl)⟩
  ·replace hr := qf h10 hr
   replace hr := osi hr; subst hr
   exact qa [.froz 0] [(tQ v7.args a8 c8)] rfl rfl ⟨a8, c8, rfl, rfl⟩
theorem qdr (n : Nat) (v1 : Tm) (v3 : Int) (a2 : OA) (c2 : Nat) (r : Tm) (hr : term_Map_term_Copy_1 n v1 v3 = some r) : Pure Tryz.prog (.val (.fn (.func 207) [] [])) [(.agg [(iS v1.op), (iS v1.hd), (iS v1.n), (tU v1.args a2 c2)]), (iS v3), (.fn (.func 208) [] [])] [(tQ v1.args a2 c2)] (fun r' out => ∃ (b1 : OA) (d1 : Nat), r' = (.agg [(iS r.op), (iS r.hd), (iS r.n), (tU r.args b1 d1)]) ∧ out = [(tQ r.args b1 d1)]) := (qdh n) n (Nat.le_refl _) v1 v3 a2 c2 r hr
def term_Copy : Nat → Tm → Option (Tm)
 | 0, _ => none
 | n + 1, v1 =>
  (term_Map_term_Copy_1 n v1 0).bind (fun v3 =>
  some (v3))
theorem qk9 (n : Nat) (v1 : Tm) (a2 : OA) (c2 : Nat) (r : Tm) (hr : term_Copy n v1 = some r) : Pure Tryz.prog (.val (.fn (.func 132) [] [])) [(.agg [(iS v1.op), (iS v1.hd), (iS v1.n), (tU v1.args a2 c2)])] [(tQ v1.args a2 c2)] (fun r' out => ∃ (b1 : OA) (d1 : Nat), r' = (.agg [(iS r.op), (iS r.hd), (iS r.n), (tU r.args b1 d1)]) ∧ out = [(tQ r.args b1 d1)]) := by
 rcases n with _ | n
 ·exact qe hr
 rw [term_Copy.eq_2] at hr
 refine qb (N := 5) (m := 0) (dt := fun _ => none) [] ttOK func132 rfl call132 ntmps132 rfl rfl rfl mixed (by kernel_rfl) ?_
 obtain ⟨v3, h4, hr⟩ := bind_some hr
 refine (qdr n v1 0 a2 c2 _ h4).atR [0] rfl rfl rfl ?_
 rintro _ _ ⟨a5, c5, rfl, rfl⟩
 replace hr := osi hr; subst hr
 exact qa [.old 1] [(tQ v3.args a5 c5)] rfl rfl ⟨a5, c5, rfl, rfl⟩
def subst_kept : Nat → Tm → Option (PR (Tm))
 | 0, _ => none
 | n + 1, v1 =>
  cond ((if isProper v1 then (0 : Int) else 2) != 0) (
  some (.pan 5)) (
  some (.ok (v1)))
theorem qad (n : Nat) (v1 : Tm) (a2 : OA) (c2 : Nat) (r : PR (Tm)) (hr : subst_kept n v1 = some r) : Meets Tryz.prog (.val (.fn (.func 344) [] [])) [(.agg [(iS v1.op), (iS v1.hd), (iS v1.n), (tU v1.args a2 c2)])] ⟨[], [], [(tQ v1.args a2 c2)]⟩ (PanR r (fun r o S' => ∃ (b1 : OA) (d1 : Nat), o = .ret (.agg [(iS r.op), (iS r.hd), (iS r.n), (tU r.args b1 d1)]) ∧ S' = ⟨[], [], [(tQ r.args b1 d1)]⟩) (fun e o S' => o = .pan (panV 405 e) ∧ S' = ⟨[], [], []⟩)) := by
 rcases n with _ | n
 ·exact qe hr
 rw [subst_kept.eq_2] at hr
 refine qb (N := 8) (m := 0) (dt := fun _ => none) [] ttOK func344 rfl call344 ntmps344 rfl rfl rfl mixed (by kernel_rfl) ?_
 refine (qb7 v1 a2 c2).atR [0] rfl rfl rfl ?_
 rintro _ _ ⟨rfl, rfl⟩
 refine AtIf.mk (fun h3 => ?_) (fun h3 => ?_)
 ·replace hr := qg h3 hr
  refine qb (N := 5) (m := 2) (dt := fun _ => none) [] ttOK func343 rfl call343 ntmps343 rfl rfl rfl mixed (by kernel_rfl) ?_
  refine qae rfl rfl ?_
  refine AtRet.gen _ (StLe.refl _) rfl rfl ?_
  replace hr := osi hr; subst hr
  exact qt [] _ _ rfl rfl rfl rfl rfl rfl ⟨rfl, rfl⟩
 ·replace hr := qf h3 hr
  replace hr := osi hr; subst hr
  exact AtRet.gen ⟨[], [], [(tQ v1.args a2 c2)]⟩ (StLe.gen 0 [] [.old 0] rfl rfl rfl rfl rfl rfl rfl) rfl rfl ⟨a2, c2, rfl, rfl⟩
def term_Shift_1 : Nat → Tm → Int → Int → Bool → Int → Bool → Option (Bool × Bool)
 | 0, _, _, _, _, _, _ => none
 | n + 1, v1, v3, v4, v5, v6, v7 =>
  cond (((v1.op == 4) && (v1.hd == 1)) && (decide ((IntKind.i64.wrap (v1.n - v3)) ≥ v4))) (
  some ((v5 || ((decide (v6 < 0)) && (decide ((IntKind.i64.wrap (v1.n - v3)) < (IntKind.i64.wrap (v4 - v6)))))), (v7 || (decide ((IntKind.i64.wrap (v1.n + v6)) > 9999))))) (
  some (v5, v7))
theorem qhp (n : Nat) (v1 : Tm) (v3 : Int) (v4 : Int) (v5 : Bool) (v6 : Int) (v7 : Bool) (a2 : OA) (c2 : Nat) (r : Bool × Bool) (hr : term_Shift_1 n v1 v3 v4 v5 v6 v7 = some r) : Meets Tryz.prog (.val (.fn (.func 282) [] [(.loc 0 0), (.loc 1 0), (.loc 2 0), (.loc 3 0)])) [(.agg [(iS v1.op), (iS v1.hd), (iS v1.n), (tU v1.args a2 c2)]), (iS v3)] ⟨[.cells 3 [(iS v4)], .cells 4 [(bS v5)], .cells 3 [(iS v6)], .cells 4 [(bS v7)]], [], [(tQ v1.args a2 c2)]⟩ (fun o S' => o = .ret (.tup []) ∧ S' = ⟨[.cells 3 [(iS v4)], .cells 4 [(bS r.1)], .cells 3 [(iS v6)], .cells 4 [(bS r.2)]], [], []⟩) := by
 rcases n with _ | n
 ·exact qe hr
 rw [term_Shift_1.eq_2] at hr
 refine qb (N := 46) (m := 4) (dt := fun _ => none) [] ttOK func282 rfl call282 ntmps282 rfl rfl rfl mixed (by kernel_rfl) ?_
 refine AtIf.mk (fun h8 => ?_) (fun h8 => ?_)
 ·replace hr := qg h8 hr
  replace hr := osi hr; subst hr
  exact AtRet.gen ⟨[.cells 3 [(iS v4)], .cells 4 [(bS (v5 || ((decide (v6 < 0)) && (decide ((IntKind.i64.wrap (v1.n - v3)) < (IntKind.i64.wrap (v4 - v6)))))))], .cells 3 [(iS v6)], .cells 4 [(bS (v7 || (decide ((IntKind.i64.wrap (v1.n + v6)) > 9999))))]], [], []⟩ (StLe.gen 4 [] [] rfl rfl rfl rfl rfl rfl rfl) rfl rfl ⟨rfl, rfl⟩
 ·replace hr := qf h8 hr
  replace hr := osi hr; subst hr
  exact AtRet.gen ⟨[.cells 3 [(iS v4)], .cells 4 [(bS v5)], .cells 3 [(iS v6)], .cells 4 [(bS v7)]], [], []⟩ (StLe.gen 4 [] [] rfl rfl rfl rfl rfl rfl rfl) rfl rfl ⟨rfl, rfl⟩
mutual
def term_Each_term_Shift_1 : Nat → Tm → Int → Int → Bool → Int → Bool → Option (Bool × Bool)
 | 0, _, _, _, _, _, _ => none
 | n + 1, v1, v3, v4, v5, v6, v7 =>
  (term_Shift_1 n v1 v3 v4 v5 v6 v7).bind (fun v8 =>
  term_Each_term_Shift_1_L1 n v1 v3 v4 v6 v8.1 v8.2 0)
def term_Each_term_Shift_1_L1 : Nat → Tm → Int → Int → Int → Bool → Bool → Int → Option (Bool × Bool)
 | 0, _, _, _, _, _, _, _ => none
 | n + 1, v1, v3, v4, v6, v10, v11, v12 =>
  cond (decide (v12 < ((Tm.encL v1.args).length : Int))) (
  (idx v1.args v12).bind (fun v14 =>
  (term_Under n v1 v12).bind (fun v19 =>
  (term_Each_term_Shift_1 n v14 (IntKind.i64.wrap (v3 + v19)) v4 v10 v6 v11).bind (fun v21 =>
  term_Each_term_Shift_1_L1 n v1 v3 v4 v6 v21.1 v21.2 (IntKind.i64.wrap (v12 + 1)))))) (
  some (v10, v11))
 end
theorem qcu : ∀ (N : Nat), (∀ (n : Nat), n ≤ N → ∀ (v1 : Tm) (v3 : Int) (v4 : Int) (v5 : Bool) (v6 : Int) (v7 : Bool) (a2 : OA) (c2 : Nat) (r : Bool × Bool), term_Each_term_Shift_1 n v1 v3 v4 v5 v6 v7 = some r → Meets Tryz.prog (.val (.fn (.func 259) [] [])) [(.agg [(iS v1.op), (iS v1.hd), (iS v1.n), (tU v1.args a2 c2)]), (iS v3), (.fn (.func 282) [] [(.loc 0 0), (.loc 1 0), (.loc 2 0), (.loc 3 0)])] ⟨[.cells 3 [(iS v4)], .cells 4 [(bS v5)], .cells 3 [(iS v6)], .cells 4 [(bS v7)]], [], [(tQ v1.args a2 c2)]⟩ (fun o S' => o = .ret (.tup []) ∧ S' = ⟨[.cells 3 [(iS v4)], .cells 4 [(bS r.1)], .cells 3 [(iS v6)], .cells 4 [(bS r.2)]], [], []⟩)) := by
 intro N
 induction N with
 | zero =>
  intro n hn v1 v3 v4 v5 v6 v7 a2 c2 r hr; obtain rfl : n = 0 := (by omega); exact qe hr
 | succ N ih =>
  intro n hn v1 v3 v4 v5 v6 v7 a2 c2 r hr
  rcases n with _ | n
  ·exact qe hr
  replace hn : n ≤ N := by omega
  rw [term_Each_term_Shift_1.eq_2] at hr
  refine qb (N := 29) (m := 4) (dt := drawsOf [(5, .node [0, 1, 2, 3, 6] [(4, .node [5] [(7, .leaf [])])], [7], [])]) [] ttOK func259 rfl call259 ntmps259 rfl rfl rfl mixed (by kernel_rfl) ?_
  obtain ⟨v8, h9, hr⟩ := bind_some hr
  refine (qhp n v1 v3 v4 v5 v6 v7 a2 c2 _ h9).frameR [0, 1, 2, 3] [0] rfl rfl rfl rfl rfl rfl rfl rfl ?_
  rintro _ _ ⟨rfl, rfl⟩
  refine ⟨rfl, rfl, [.cells 3 [(iS v4)], .cells 4 [(bS v8.1)], .cells 3 [(iS v6)], .cells 4 [(bS v8.2)]], rfl, ?_⟩
  refine AtLoop.mk ⟨Nat × Bool × Bool × Int, fun x => [(1, (iS v3)), (2, (.fn (.func 282) [] [(.loc 0 0), (.loc 1 0), (.loc 2 0), (.loc 3 0)])), (3, (.loc 4 0)), (13, (tU v1.args a2 c2)), (14, (iS ((Tm.encL v1.args).length : Int))), (15, (iS x.2.2.2))], fun x => ⟨[.cells 3 [(iS v4)], .cells 4 [(bS x.2.1)], .cells 3 [(iS v6)], .cells 4 [(bS x.2.2.1)], .cells 41 [(iS v1.op), (iS v1.hd), (iS v1.n), (tU v1.args a2 c2)]], [], [(tQ v1.args a2 c2)]⟩, fun x => x.1 ≤ N ∧ term_Each_term_Shift_1_L1 x.1 v1 v3 v4 v6 x.2.1 x.2.2.1 x.2.2.2 = some r, fun x => x.1, (n, v8.1, v8.2, 0), ⟨by omega, hr⟩, ⟨rfl, rfl, rfl, rfl, rfl, rfl, trivial⟩, (StLe.gen 5 [] [.old 0] rfl rfl rfl rfl rfl rfl rfl), fun x _ => ⟨rfl, rfl⟩, ?_⟩
  rintro ⟨n, v10, v11, v12⟩ HH
  obtain ⟨hn, hr⟩ : n ≤ N ∧ term_Each_term_Shift_1_L1 n v1 v3 v4 v6 v10 v11 v12 = some r := HH
  rcases n with _ | n
  ·exact qe hr
  rw [term_Each_term_Shift_1_L1.eq_2] at hr
  refine AtIf.mk (fun h13 => ?_) (fun h13 => ?_)
  ·replace hr := qg h13 hr
   obtain ⟨v14, h15, hr⟩ := bind_some hr
   obtain ⟨h16, h17⟩ := qi h15
   refine qh ttOK 0 rfl rfl rfl rfl h16 (Tm.encL_get h17) ?_
   intro a18 c18 _ _
   obtain ⟨v19, h20, hr⟩ := bind_some hr
   refine (qba n v1 v12 a2 c2 _ h20).atR [0] rfl rfl rfl ?_
   rintro _ _ ⟨rfl, rfl⟩
   refine ⟨fun _ _ h => h, ?_⟩
   obtain ⟨v21, h22, hr⟩ := bind_some hr
   refine (ih n (by omega) v14 (IntKind.i64.wrap (v3 + v19)) v4 v10 v6 v11 a18 c18 _ h22).frameR [0, 1, 2, 3] [1] rfl rfl rfl rfl rfl rfl rfl rfl ?_
   rintro _ _ ⟨rfl, rfl⟩
   refine ⟨rfl, rfl, [.cells 3 [(iS v4)], .cells 4 [(bS v21.1)], .cells 3 [(iS v6)], .cells 4 [(bS v21.2)]], rfl, ?_⟩
   exact ⟨(n, v21.1, v21.2, (IntKind.i64.wrap (v12 + 1))), ⟨by omega, hr⟩, Nat.lt_succ_self _, ⟨rfl, rfl, rfl, rfl, rfl, rfl, trivial⟩, (StLe.gen 5 [] [.old 0] rfl rfl rfl rfl rfl rfl rfl)⟩
  ·replace hr := qf h13 hr
   replace hr := osi hr; subst hr
   exact AtRet.gen ⟨[.cells 3 [(iS v4)], .cells 4 [(bS v10)], .cells 3 [(iS v6)], .cells 4 [(bS v11)]], [], []⟩ (StLe.gen 4 [] [] rfl rfl rfl rfl rfl rfl rfl) rfl rfl ⟨rfl, rfl⟩
theorem qdd (n : Nat) (v1 : Tm) (v3 : Int) (v4 : Int) (v5 : Bool) (v6 : Int) (v7 : Bool) (a2 : OA) (c2 : Nat) (r : Bool × Bool) (hr : term_Each_term_Shift_1 n v1 v3 v4 v5 v6 v7 = some r) : Meets Tryz.prog (.val (.fn (.func 259) [] [])) [(.agg [(iS v1.op), (iS v1.hd), (iS v1.n), (tU v1.args a2 c2)]), (iS v3), (.fn (.func 282) [] [(.loc 0 0), (.loc 1 0), (.loc 2 0), (.loc 3 0)])] ⟨[.cells 3 [(iS v4)], .cells 4 [(bS v5)], .cells 3 [(iS v6)], .cells 4 [(bS v7)]], [], [(tQ v1.args a2 c2)]⟩ (fun o S' => o = .ret (.tup []) ∧ S' = ⟨[.cells 3 [(iS v4)], .cells 4 [(bS r.1)], .cells 3 [(iS v6)], .cells 4 [(bS r.2)]], [], []⟩) := (qcu n) n (Nat.le_refl _) v1 v3 v4 v5 v6 v7 a2 c2 r hr
def term_Moved_1 : Nat → Tm → Int → Int → Int → Option (Tm)
 | 0, _, _, _, _ => none
 | n + 1, v1, v3, v4, v5 =>
  cond (((v1.op == 4) && (v1.hd == 1)) && (decide ((IntKind.i64.wrap (v1.n - v3)) ≥ v4))) (
  some ((Tm.mk v1.op v1.hd (IntKind.i64.wrap (v1.n + v5)) v1.args))) (
  some (v1))
theorem qho (n : Nat) (v1 : Tm) (v3 : Int) (v4 : Int) (v5 : Int) (a2 : OA) (c2 : Nat) (r : Tm) (hr : term_Moved_1 n v1 v3 v4 v5 = some r) : Meets Tryz.prog (.val (.fn (.func 338) [] [(.loc 0 0), (.loc 1 0)])) [(.agg [(iS v1.op), (iS v1.hd), (iS v1.n), (tU v1.args a2 c2)]), (iS v3)] ⟨[.cells 3 [(iS v4)], .cells 3 [(iS v5)]], [⟨.slice a2 ((Tm.encL v1.args).length) c2, 4, 41, (Tm.encL v1.args)⟩], []⟩ (fun o S' => ∃ (b1 : OA) (d1 : Nat), o = .ret (.agg [(iS r.op), (iS r.hd), (iS r.n), (tU r.args b1 d1)]) ∧ S' = ⟨[.cells 3 [(iS v4)], .cells 3 [(iS v5)]], [⟨.slice b1 ((Tm.encL r.args).length) d1, 4, 41, (Tm.encL r.args)⟩], []⟩) := by
 rcases n with _ | n
 ·exact qe hr
 rw [term_Moved_1.eq_2] at hr
 refine qb (N := 29) (m := 2) (dt := fun _ => none) [] ttOK func338 rfl call338 ntmps338 rfl rfl rfl mixed (by kernel_rfl) ?_
 refine AtIf.mk (fun h6 => ?_) (fun h6 => ?_)
 ·replace hr := qg h6 hr
  replace hr := osi hr; subst hr
  exact AtRet.gen ⟨[.cells 3 [(iS v4)], .cells 3 [(iS v5)]], [⟨.slice a2 ((Tm.encL v1.args).length) c2, 4, 41, (Tm.encL v1.args)⟩], []⟩ (StLe.gen 2 [.old 0] [] rfl rfl rfl rfl rfl rfl rfl) rfl rfl ⟨a2, c2, rfl, rfl⟩
 ·replace hr := qf h6 hr
  replace hr := osi hr; subst hr
  exact AtRet.gen ⟨[.cells 3 [(iS v4)], .cells 3 [(iS v5)]], [⟨.slice a2 ((Tm.encL v1.args).length) c2, 4, 41, (Tm.encL v1.args)⟩], []⟩ (StLe.gen 2 [.old 0] [] rfl rfl rfl rfl rfl rfl rfl) rfl rfl ⟨a2, c2, rfl, rfl⟩
mutual
def term_Map_term_Moved_1 : Nat → Tm → Int → Int → Int → Option (Tm)
 | 0, _, _, _, _ => none
 | n + 1, v1, v3, v4, v5 =>
  (term_Moved_1 n (Tm.mk v1.op v1.hd v1.n ([])) v3 v4 v5).bind (fun v6 =>
  term_Map_term_Moved_1_L1 n v1 v3 v4 v5 v6 0)
def term_Map_term_Moved_1_L1 : Nat → Tm → Int → Int → Int → Tm → Int → Option (Tm)
 | 0, _, _, _, _, _, _ => none
 | n + 1, v1, v3, v4, v5, v9, v11 =>
  cond (decide (v11 < ((Tm.encL v1.args).length : Int))) (
  (idx v1.args v11).bind (fun v13 =>
  (term_Under n v1 v11).bind (fun v18 =>
  (term_Map_term_Moved_1 n v13 (IntKind.i64.wrap (v3 + v18)) v4 v5).bind (fun v20 =>
  cond (decide ((Tm.encL (v9.args ++ [v20])).length ≤ 1000000)) (
  term_Map_term_Moved_1_L1 n v1 v3 v4 v5 (Tm.mk v9.op v9.hd v9.n (v9.args ++ [v20])) (IntKind.i64.wrap (v11 + 1))) none)))) (
  some (v9))
 end
theorem qda : ∀ (N : Nat), (∀ (n : Nat), n ≤ N → ∀ (v1 : Tm) (v3 : Int) (v4 : Int) (v5 : Int) (a2 : OA) (c2 : Nat) (r : Tm), term_Map_term_Moved_1 n v1 v3 v4 v5 = some r → Meets Tryz.prog (.val (.fn (.func 207) [] [])) [(.agg [(iS v1.op), (iS v1.hd), (iS v1.n), (tU v1.args a2 c2)]), (iS v3), (.fn (.func 338) [] [(.loc 0 0), (.loc 1 0)])] ⟨[.cells 3 [(iS v4)], .cells 3 [(iS v5)]], [], [(tQ v1.args a2 c2)]⟩ (fun o S' => ∃ (b1 : OA) (d1 : Nat), o = .ret (.agg [(iS r.op), (iS r.hd), (iS r.n), (tU r.args b1 d1)]) ∧ S' = ⟨[.cells 3 [(iS v4)], .cells 3 [(iS v5)]], [], [(tQ r.args b1 d1)]⟩)) := by
 intro N
 induction N with
 | zero =>
  intro n hn v1 v3 v4 v5 a2 c2 r hr; obtain rfl : n = 0 := (by omega); exact qe hr
 | succ N ih =>
  intro n hn v1 v3 v4 v5 a2 c2 r hr
  rcases n with _ | n
  ·exact qe hr
  replace hn : n ≤ N := by omega
  rw [term_Map_term_Moved_1.eq_2] at hr
  refine qb (N := 43) (m := 2) (dt := drawsOf [(5, .node [0, 1, 2, 3, 4, 5, 8] [(6, .node [7] [(9, .node [] [(10, .node [] [(11, .node [12] [(13, .leaf [])])])])])], [11, 13], [])]) [] ttOK func207 rfl call207 ntmps207 rfl rfl rfl mixed (by kernel_rfl) ?_
  obtain ⟨v6, h7, hr⟩ := bind_some hr
  refine Meets.le (S' := ⟨[.cells 3 [(iS v4)], .cells 3 [(iS v5)], .cells 41 [(iS v1.op), (iS v1.hd), (iS v1.n), (tU v1.args a2 c2)], .cells 41 [(iS 0), (iS 0), (iS 0), (.v (.slice none 0 0))]], [⟨.slice none 0 0, 4, 41, []⟩], [(tQ v1.args a2 c2)]⟩) (StLe.gen 4 [.nil 4 41] [.old 0] rfl rfl rfl rfl rfl rfl rfl) rfl ?_
  refine (qho n (Tm.mk v1.op v1.hd v1.n ([])) v3 v4 v5 none 0 _ h7).frameRA [0, 1] [0] [] rfl rfl rfl rfl rfl rfl rfl rfl rfl ?_
  rintro _ _ ⟨a8, c8, rfl, rfl⟩
  refine ⟨rfl, [.cells 3 [(iS v4)], .cells 3 [(iS v5)]], rfl, ?_⟩
  refine AtLoop.mk ⟨Nat × Tm × Option Addr × Nat × Int, fun x => [(1, (iS v3)), (2, (.fn (.func 338) [] [(.loc 0 0), (.loc 1 0)])), (3, (.loc 2 0)), (6, (.loc 3 0)), (7, (.loc 4 0)), (21, (tU v1.args a2 c2)), (22, (iS ((Tm.encL v1.args).length : Int))), (23, (iS x.2.2.2.2))], fun x => ⟨[.cells 3 [(iS v4)], .cells 3 [(iS v5)], .cells 41 [(iS v1.op), (iS v1.hd), (iS v1.n), (tU v1.args a2 c2)], .cells 41 [(iS 0), (iS 0), (iS 0), (.v (.slice none 0 0))], .cells 41 [(iS x.2.1.op), (iS x.2.1.hd), (iS x.2.1.n), (tU x.2.1.args x.2.2.1 x.2.2.2.1)]], [⟨.slice x.2.2.1 ((Tm.encL x.2.1.args).length) x.2.2.2.1, 4, 41, (Tm.encL x.2.1.args)⟩], [(tQ v1.args a2 c2)]⟩, fun x => x.1 ≤ N ∧ term_Map_term_Moved_1_L1 x.1 v1 v3 v4 v5 x.2.1 x.2.2.2.2 = some r, fun x => x.1, (n, v6, a8, c8, 0), ⟨by omega, hr⟩, ⟨rfl, rfl, rfl, rfl, rfl, rfl, rfl, rfl, trivial⟩, (StLe.gen 5 [.old 0] [.old 0] rfl rfl rfl rfl rfl rfl rfl), fun x _ => ⟨rfl, rfl⟩, ?_⟩
  rintro ⟨n, v9, a10, c10, v11⟩ HH
  obtain ⟨hn, hr⟩ : n ≤ N ∧ term_Map_term_Moved_1_L1 n v1 v3 v4 v5 v9 v11 = some r := HH
  rcases n with _ | n
  ·exact qe hr
  rw [term_Map_term_Moved_1_L1.eq_2] at hr
  refine AtIf.mk (fun h12 => ?_) (fun h12 => ?_)
  ·replace hr := qg h12 hr
   obtain ⟨v13, h14, hr⟩ := bind_some hr
   obtain ⟨h15, h16⟩ := qi h14
   refine qh ttOK 0 rfl rfl rfl rfl h15 (Tm.encL_get h16) ?_
   intro a17 c17 _ _
   obtain ⟨v18, h19, hr⟩ := bind_some hr
   refine (qba n v1 v11 a2 c2 _ h19).atR [0] rfl rfl rfl ?_
   rintro _ _ ⟨rfl, rfl⟩
   refine ⟨fun _ _ h => h, ?_⟩
   obtain ⟨v20, h21, hr⟩ := bind_some hr
   refine (ih n (by omega) v13 (IntKind.i64.wrap (v3 + v18)) v4 v5 a17 c17 _ h21).frameR [0, 1] [1] rfl rfl rfl rfl rfl rfl rfl rfl ?_
   rintro _ _ ⟨a22, c22, rfl, rfl⟩
   refine ⟨rfl, rfl, [.cells 3 [(iS v4)], .cells 3 [(iS v5)]], rfl, ?_⟩
   refine ⟨fun _ _ h => h, ?_⟩
   refine qk (n := 1) ttOK 48 [.agg [.int .i64 v20.op, .int .i64 v20.hd, .int .i64 v20.n, .sl 4 (Tm.encL v20.args)]] (ds' := (Tm.encL ([v20]))) rfl (by kernel_rfl) ⟨⟨rfl, rfl, rfl, ⟨[(iS v20.op)], _, rfl, rfl, ⟨[(iS v20.hd)], _, rfl, rfl, ⟨[(iS v20.n)], _, rfl, rfl, ⟨[(tU v20.args a22 c22)], _, rfl, (.inl ⟨_, rfl, ql (j := 2) rfl⟩), rfl⟩⟩⟩⟩⟩, trivial⟩ rfl (by simp only [Tm.encL_eq, List.map_cons, List.map_nil, Tm.enc_eq] <;> rfl) (by decide) (by decide) ?_
   intro a23
   refine ⟨fun _ _ h => h, ?_⟩
   obtain ⟨h24, hr⟩ := qj hr
   refine qm (ds' := (Tm.encL (v9.args ++ [v20]))) ttOK 48 0 3 rfl (by kernel_rfl) rfl rfl rfl rfl (by simp only [Tm.encL_eq, List.map_append]) h24 (by decide) ?_
   intro a25 c25
   exact ⟨(n, (Tm.mk v9.op v9.hd v9.n (v9.args ++ [v20])), a25, c25, (IntKind.i64.wrap (v11 + 1))), ⟨by omega, hr⟩, Nat.lt_succ_self _, ⟨rfl, rfl, rfl, rfl, rfl, rfl, rfl, rfl, trivial⟩, (StLe.gen 5 [.old 0] [.old 0] rfl rfl rfl rfl rfl rfl rfl)⟩
  ·replace hr := qf h12 hr
   replace hr := osi hr; subst hr
   exact AtRet.gen ⟨[.cells 3 [(iS v4)], .cells 3 [(iS v5)]], [], [(tQ v9.args a10 c10)]⟩ (StLe.gen 2 [] [.froz 0] rfl rfl rfl rfl rfl rfl rfl) rfl rfl ⟨a10, c10, rfl, rfl⟩
theorem qdi (n : Nat) (v1 : Tm) (v3 : Int) (v4 : Int) (v5 : Int) (a2 : OA) (c2 : Nat) (r : Tm) (hr : term_Map_term_Moved_1 n v1 v3 v4 v5 = some r) : Meets Tryz.prog (.val (.fn (.func 207) [] [])) [(.agg [(iS v1.op), (iS v1.hd), (iS v1.n), (tU v1.args a2 c2)]), (iS v3), (.fn (.func 338) [] [(.loc 0 0), (.loc 1 0)])] ⟨[.cells 3 [(iS v4)], .cells 3 [(iS v5)]], [], [(tQ v1.args a2 c2)]⟩ (fun o S' => ∃ (b1 : OA) (d1 : Nat), o = .ret (.agg [(iS r.op), (iS r.hd), (iS r.n), (tU r.args b1 d1)]) ∧ S' = ⟨[.cells 3 [(iS v4)], .cells 3 [(iS v5)]], [], [(tQ r.args b1 d1)]⟩) := (qda n) n (Nat.le_refl _) v1 v3 v4 v5 a2 c2 r hr
def term_Moved : Nat → Tm → Int → Int → Option (Tm)
 | 0, _, _, _ => none
 | n + 1, v1, v3, v4 =>
  (term_Map_term_Moved_1 n v1 0 v4 v3).bind (fun v5 =>
  some (v5))
theorem qja (n : Nat) (v1 : Tm) (v3 : Int) (v4 : Int) (a2 : OA) (c2 : Nat) (r : Tm) (hr : term_Moved n v1 v3 v4 = some r) : Pure Tryz.prog (.val (.fn (.func 283) [] [])) [(.agg [(iS v1.op), (iS v1.hd), (iS v1.n), (tU v1.args a2 c2)]), (iS v3), (iS v4)] [(tQ v1.args a2 c2)] (fun r' out => ∃ (b1 : OA) (d1 : Nat), r' = (.agg [(iS r.op), (iS r.hd), (iS r.n), (tU r.args b1 d1)]) ∧ out = [(tQ r.args b1 d1)]) := by
 rcases n with _ | n
 ·exact qe hr
 rw [term_Moved.eq_2] at hr
 refine qb (N := 10) (m := 0) (dt := fun _ => none) [] ttOK func283 rfl call283 ntmps283 rfl rfl rfl mixed (by kernel_rfl) ?_
 obtain ⟨v5, h6, hr⟩ := bind_some hr
 refine (qdi n v1 0 v4 v3 a2 c2 _ h6).frameR [2, 1] [0] rfl rfl rfl rfl rfl rfl rfl rfl ?_
 rintro _ _ ⟨a7, c7, rfl, rfl⟩
 refine ⟨rfl, rfl, [.cells 3 [(iS v4)], .cells 3 [(iS v3)]], rfl, ?_⟩
 replace hr := osi hr; subst hr
 exact qa [.old 1] [(tQ v5.args a7 c7)] rfl rfl ⟨a7, c7, rfl, rfl⟩
def term_Shift : Nat → Tm → Int → Int → Option (Tm × Int)
 | 0, _, _, _ => none
 | n + 1, v1, v3, v4 =>
  cond ((((((if isProper v1 then (0 : Int) else 2) != 0) || (decide (v3 < (-9999)))) || (decide (v3 > 9999))) || (decide (v4 < 0))) || (decide (v4 > 9999))) (
  some ((Tm.mk 0 0 0 ([])), 2)) (
  (term_Each_term_Shift_1 n v1 0 v4 false v3 false).bind (fun v6 =>
  cond v6.1 (
  some ((Tm.mk 0 0 0 ([])), 27)) (
  cond v6.2 (
  some ((Tm.mk 0 0 0 ([])), 5)) (
  (term_Moved n v1 v3 v4).bind (fun v10 =>
  some (v10, 0))))))
theorem qb4 (n : Nat) (v1 : Tm) (v3 : Int) (v4 : Int) (a2 : OA) (c2 : Nat) (r : Tm × Int) (hr : term_Shift n v1 v3 v4 = some r) : Pure Tryz.prog (.val (.fn (.func 211) [] [])) [(.agg [(iS v1.op), (iS v1.hd), (iS v1.n), (tU v1.args a2 c2)]), (iS v3), (iS v4)] [(tQ v1.args a2 c2)] (fun r' out => ∃ (b1 : OA) (d1 : Nat), r' = (.tup [(.agg [(iS r.1.op), (iS r.1.hd), (iS r.1.n), (tU r.1.args b1 d1)]), (iS r.2)]) ∧ out = [(tQ r.1.args b1 d1)]) := by
 rcases n with _ | n
 ·exact qe hr
 rw [term_Shift.eq_2] at hr
 refine qb (N := 43) (m := 0) (dt := fun _ => none) [] ttOK func211 rfl call211 ntmps211 rfl rfl rfl mixed (by kernel_rfl) ?_
 refine (qb7 v1 a2 c2).atR [0] rfl rfl rfl ?_
 rintro _ _ ⟨rfl, rfl⟩
 refine AtIf.mk (fun h5 => ?_) (fun h5 => ?_)
 ·replace hr := qg h5 hr
  replace hr := osi hr; subst hr
  exact qa [.nil 4] [(.slice none 0 0, .sl 4 [])] rfl rfl ⟨none, 0, rfl, rfl⟩
 ·replace hr := qf h5 hr
  obtain ⟨v6, h7, hr⟩ := bind_some hr
  refine (qdd n v1 0 v4 false v3 false a2 c2 _ h7).frameR [2, 4, 1, 5] [0] rfl rfl rfl rfl rfl rfl rfl rfl ?_
  rintro _ _ ⟨rfl, rfl⟩
  refine ⟨rfl, rfl, [.cells 3 [(iS v4)], .cells 4 [(bS v6.1)], .cells 3 [(iS v3)], .cells 4 [(bS v6.2)]], rfl, ?_⟩
  refine AtIf.mk (fun h8 => ?_) (fun h8 => ?_)
  ·replace hr := qg h8 hr
   replace hr := osi hr; subst hr
   exact qa [.nil 4] [(.slice none 0 0, .sl 4 [])] rfl rfl ⟨none, 0, rfl, rfl⟩
  ·replace hr := qf h8 hr
   refine AtIf.mk (fun h9 => ?_) (fun h9 => ?_)
   ·replace hr := qg h9 hr
    replace hr := osi hr; subst hr
    exact qa [.nil 4] [(.slice none 0 0, .sl 4 [])] rfl rfl ⟨none, 0, rfl, rfl⟩
   ·replace hr := qf h9 hr
    obtain ⟨v10, h11, hr⟩ := bind_some hr
    refine (qja n v1 v3 v4 a2 c2 _ h11).atR [0] rfl rfl rfl ?_
    rintro _ _ ⟨a12, c12, rfl, rfl⟩
    replace hr := osi hr; subst hr
    exact qa [.old 1] [(tQ v10.args a12 c12)] rfl rfl ⟨a12, c12, rfl, rfl⟩
def subst_moved : Nat → Tm → Int → Option (PR (Tm))
 | 0, _, _ => none
 | n + 1, v1, v3 =>
  (term_Shift n v1 v3 0).bind (fun v4 =>
  cond (v4.2 != 0) (
  some (.pan v4.2)) (
  some (.ok (v4.1))))
theorem qem (n : Nat) (v1 : Tm) (v3 : Int) (a2 : OA) (c2 : Nat) (r : PR (Tm)) (hr : subst_moved n v1 v3 = some r) : Meets Tryz.prog (.val (.fn (.func 345) [] [])) [(.agg [(iS v1.op), (iS v1.hd), (iS v1.n), (tU v1.args a2 c2)]), (iS v3)] ⟨[], [], [(tQ v1.args a2 c2)]⟩ (PanR r (fun r o S' => ∃ (b1 : OA) (d1 : Nat), o = .ret (.agg [(iS r.op), (iS r.hd), (iS r.n), (tU r.args b1 d1)]) ∧ S' = ⟨[], [], [(tQ r.args b1 d1)]⟩) (fun e o S' => o = .pan (panV 405 e) ∧ S' = ⟨[], [], []⟩)) := by
 rcases n with _ | n
 ·exact qe hr
 rw [subst_moved.eq_2] at hr
 refine qb (N := 18) (m := 0) (dt := fun _ => none) [] ttOK func345 rfl call345 ntmps345 rfl rfl rfl mixed (by kernel_rfl) ?_
 obtain ⟨v4, h5, hr⟩ := bind_some hr
 refine (qb4 n v1 v3 0 a2 c2 _ h5).atR [0] rfl rfl rfl ?_
 rintro _ _ ⟨a6, c6, rfl, rfl⟩
 refine AtIf.mk (fun h7 => ?_) (fun h7 => ?_)
 ·replace hr := qg h7 hr
  refine qb (N := 5) (m := 3) (dt := fun _ => none) [] ttOK func343 rfl call343 ntmps343 rfl rfl rfl mixed (by kernel_rfl) ?_
  refine qae rfl rfl ?_
  refine AtRet.gen _ (StLe.refl _) rfl rfl ?_
  replace hr := osi hr; subst hr
  exact qt [] _ _ rfl rfl rfl rfl rfl rfl ⟨rfl, rfl⟩
 ·replace hr := qf h7 hr
  replace hr := osi hr; subst hr
  exact AtRet.gen ⟨[], [], [(tQ v4.1.args a6 c6)]⟩ (StLe.gen 0 [] [.old 1] rfl rfl rfl rfl rfl rfl rfl) rfl rfl ⟨a6, c6, rfl, rfl⟩
mutual
def subst_work_subst : Nat → Tm → Int → Tm → Sm → SWk → Option (PR (Tm × SWk))
 | 0, _, _, _, _, _ => none
 | n + 1, v1, v3, v4, v6, v8 =>
  cond (decide ((IntKind.i64.wrap (v8.steps + 1)) > 20000)) (
  some (.pan 5)) (
  subst_work_subst_L1 n v1 v3 v4 v6 (SWk.mk (IntKind.i64.wrap (v8.steps + 1))) (Tm.mk v1.op v1.hd v1.n ([])) 0)
def subst_work_subst_L1 : Nat → Tm → Int → Tm → Sm → SWk → Tm → Int → Option (PR (Tm × SWk))
 | 0, _, _, _, _, _, _, _ => none
 | n + 1, v1, v3, v4, v6, v10, v11, v13 =>
  cond (decide (v13 < ((Tm.encL v1.args).length : Int))) (
  (idx v1.args v13).bind (fun v15 =>
  (term_Under n v1 v13).bind (fun v20 =>
  bindP (subst_work_subst n v15 (IntKind.i64.wrap (v3 + v20)) v4 v6 v10) (fun v22 =>
  cond (decide ((Tm.encL (v11.args ++ [v22.1])).length ≤ 1000000)) (
  subst_work_subst_L1 n v1 v3 v4 v6 v22.2 (Tm.mk v11.op v11.hd v11.n (v11.args ++ [v22.1])) (IntKind.i64.wrap (v13 + 1))) none)))) (
  cond ((v1.op == 4) && (v1.hd == 1)) (
  cond (v1.n == v3) (
  bindP (subst_moved n v4 v3) (fun v32 =>
  bindP (subst_work_apply n v32 v11.args v6 v10) (fun v37 =>
  bindP (subst_kept n v37.1) (fun v42 =>
  some (.ok (v42, v37.2)))))) (
  cond (decide (v1.n > v3)) (
  bindP (subst_kept n (Tm.mk v11.op v11.hd (IntKind.i64.wrap (v11.n - 1)) v11.args)) (fun v48 =>
  some (.ok (v48, v10)))) (
  bindP (subst_kept n v11) (fun v53 =>
  some (.ok (v53, v10)))))) (
  bindP (subst_kept n v11) (fun v58 =>
  some (.ok (v58, v10)))))
def subst_work_apply : Nat → Tm → (List Tm) → Sm → SWk → Option (PR (Tm × SWk))
 | 0, _, _, _, _ => none
 | n + 1, v1, v3, v5, v7 =>
  subst_work_apply_L1 n v3 v5 v7 v1 0
def subst_work_apply_L1 : Nat → (List Tm) → Sm → SWk → Tm → Int → Option (PR (Tm × SWk))
 | 0, _, _, _, _, _ => none
 | n + 1, v3, v5, v8, v9, v11 =>
  cond (decide (v11 < ((Tm.encL v3).length : Int))) (
  (idx v3 v11).bind (fun v13 =>
  cond ((v9.op != 3) || (decide (v11 ≥ ((Sm.encL v5.args).length : Int)))) (
  some (.pan 23)) (
  (idx v9.args 0).bind (fun v19 =>
  (idx v5.args v11).bind (fun v24 =>
  bindP (subst_work_subst n v19 0 v13 v24 v8) (fun v29 =>
  subst_work_apply_L1 n v3 v5 v29.2 v29.1 (IntKind.i64.wrap (v11 + 1)))))))) (
  bindP (subst_kept n v9) (fun v34 =>
  some (.ok (v34, v8))))
 end
theorem qep : ∀ (N : Nat), (∀ (n : Nat), n ≤ N → ∀ (v1 : Tm) (v3 : Int) (v4 : Tm) (v6 : Sm) (v8 : SWk) (a2 : OA) (c2 : Nat) (a5 : OA) (c5 : Nat) (a7 : OA) (c7 : Nat) (r : PR (Tm × SWk)), subst_work_subst n v1 v3 v4 v6 v8 = some r → Meets Tryz.prog (.val (.fn (.func 286) [] [])) [(.loc 0 0), (.agg [(iS v1.op), (iS v1.hd), (iS v1.n), (tU v1.args a2 c2)]), (iS v3), (.agg [(iS v4.op), (iS v4.hd), (iS v4.n), (tU v4.args a5 c5)]), (.agg [(.v (.slice a7 ((Sm.encL v6.args).length) c7)), (iS v6.con)])] ⟨[.cells 359 [(iS v8.steps)]], [], [(tQ v1.args a2 c2), (tQ v4.args a5 c5), (.slice a7 ((Sm.encL v6.args).length) c7, .sl 2 (Sm.encL v6.args))]⟩ (PanR r (fun r o S' => ∃ (b1 : OA) (d1 : Nat), o = .ret (.agg [(iS r.1.op), (iS r.1.hd), (iS r.1.n), (tU r.1.args b1 d1)]) ∧ S' = ⟨[.cells 359 [(iS r.2.steps)]], [], [(tQ r.1.args b1 d1)]⟩) (fun e o S' => o = .pan (panV 405 e) ∧ S' = ⟨[.lost], [], []⟩))) ∧ (∀ (n : Nat), n ≤ N → ∀ (v1 : Tm) (v3 : (List Tm)) (v5 : Sm) (v7 : SWk) (a2 : OA) (c2 : Nat) (a4 : OA) (c4 : Nat) (a6 : OA) (c6 : Nat) (r : PR (Tm × SWk)), subst_work_apply n v1 v3 v5 v7 = some r → Meets Tryz.prog (.val (.fn (.func 313) [] [])) [(.loc 0 0), (.agg [(iS v1.op), (iS v1.hd), (iS v1.n), (tU v1.args a2 c2)]), (tU v3 a4 c4), (.agg [(.v (.slice a6 ((Sm.encL v5.args).length) c6)), (iS v5.con)])] ⟨[.cells 359 [(iS v7.steps)]], [], [(tQ v1.args a2 c2), (tQ v3 a4 c4), (.slice a6 ((Sm.encL v5.args).length) c6, .sl 2 (Sm.encL v5.args))]⟩ (PanR r (fun r o S' => ∃ (b1 : OA) (d1 : Nat), o = .ret (.agg [(iS r.1.op), (iS r.1.hd), (iS r.1.n), (tU r.1.args b1 d1)]) ∧ S' = ⟨[.cells 359 [(iS r.2.steps)]], [], [(tQ r.1.args b1 d1)]⟩) (fun e o S' => o = .pan (panV 405 e) ∧ S' = ⟨[.lost], [], []⟩))) := by
 intro N
 induction N with
 | zero =>
  refine ⟨?_, ?_⟩
  ·intro n hn v1 v3 v4 v6 v8 a2 c2 a5 c5 a7 c7 r hr; obtain rfl : n = 0 := (by omega); exact qe hr
  ·intro n hn v1 v3 v5 v7 a2 c2 a4 c4 a6 c6 r hr; obtain rfl : n = 0 := (by omega); exact qe hr
 | succ N ih =>
  obtain ⟨ih1, ih2⟩ := ih
  refine ⟨?_, ?_⟩
  ·
   intro n hn v1 v3 v4 v6 v8 a2 c2 a5 c5 a7 c7 r hr
   rcases n with _ | n
   ·exact qe hr
   replace hn : n ≤ N := by omega
   rw [subst_work_subst.eq_2] at hr
   refine qb (N := 89) (m := 1) (dt := drawsOf [(8, .node [0, 1, 2, 3, 4, 5, 6, 9, 10] [(7, .node [8] [(11, .node [] [(12, .node [] [(13, .node [14] [(15, .leaf [])])])])])], [13, 15], [0]), (12, .node [0, 1, 2, 4, 5, 6] [(3, .node [] [(7, .node [] [(8, .node [] [(9, .leaf [])])])])], [7, 8, 9], [])]) [] ttOK func286 rfl call286 ntmps286 rfl rfl rfl mixed (by kernel_rfl) ?_
   refine AtIf.mk (fun h9 => ?_) (fun h9 => ?_)
   ·replace hr := qg h9 hr
    refine qb (N := 5) (m := 5) (dt := fun _ => none) [] ttOK func343 rfl call343 ntmps343 rfl rfl rfl mixed (by kernel_rfl) ?_
    refine qae rfl rfl ?_
    refine AtRet.gen _ (StLe.refl _) rfl rfl ?_
    replace hr := osi hr; subst hr
    exact qt [true] _ _ rfl rfl rfl rfl rfl rfl ⟨rfl, rfl⟩
   ·replace hr := qf h9 hr
    refine AtLoop.mk ⟨Nat × SWk × Tm × Option Addr × Nat × Int, fun x => [(0, (.loc 0 0)), (2, (iS v3)), (6, (.loc 1 0)), (8, (.loc 2 0)), (9, (.loc 3 0)), (10, (.loc 4 0)), (11, (.loc 5 0)), (35, (tU v1.args a2 c2)), (36, (iS ((Tm.encL v1.args).length : Int))), (37, (iS x.2.2.2.2.2))], fun x => ⟨[.cells 359 [(iS x.2.1.steps)], .cells 41 [(iS v1.op), (iS v1.hd), (iS v1.n), (tU v1.args a2 c2)], .cells 41 [(iS v4.op), (iS v4.hd), (iS v4.n), (tU v4.args a5 c5)], .cells 224 [(.v (.slice a7 ((Sm.encL v6.args).length) c7)), (iS v6.con)], .cells 41 [(iS 0), (iS 0), (iS 0), (.v (.slice none 0 0))], .cells 41 [(iS x.2.2.1.op), (iS x.2.2.1.hd), (iS x.2.2.1.n), (tU x.2.2.1.args x.2.2.2.1 x.2.2.2.2.1)]], [⟨.slice x.2.2.2.1 ((Tm.encL x.2.2.1.args).length) x.2.2.2.2.1, 4, 41, (Tm.encL x.2.2.1.args)⟩], [(tQ v1.args a2 c2), (tQ v4.args a5 c5), (.slice a7 ((Sm.encL v6.args).length) c7, .sl 2 (Sm.encL v6.args))]⟩, fun x => x.1 ≤ N ∧ subst_work_subst_L1 x.1 v1 v3 v4 v6 x.2.1 x.2.2.1 x.2.2.2.2.2 = some r, fun x => x.1, (n, (SWk.mk (IntKind.i64.wrap (v8.steps + 1))), (Tm.mk v1.op v1.hd v1.n ([])), none, 0, 0), ⟨by omega, hr⟩, ⟨rfl, rfl, rfl, rfl, rfl, rfl, rfl, rfl, rfl, rfl, trivial⟩, (StLe.gen 6 [.nil 4 41] [.old 0, .old 1, .old 2] rfl rfl rfl rfl rfl rfl rfl), fun x _ => ⟨rfl, rfl⟩, ?_⟩
    rintro ⟨n, v10, v11, a12, c12, v13⟩ HH
    obtain ⟨hn, hr⟩ : n ≤ N ∧ subst_work_subst_L1 n v1 v3 v4 v6 v10 v11 v13 = some r := HH
    rcases n with _ | n
    ·exact qe hr
    rw [subst_work_subst_L1.eq_2] at hr
    refine AtIf.mk (fun h14 => ?_) (fun h14 => ?_)
    ·replace hr := qg h14 hr
     obtain ⟨v15, h16, hr⟩ := bind_some hr
     obtain ⟨h17, h18⟩ := qi h16
     refine qh ttOK 0 rfl rfl rfl rfl h17 (Tm.encL_get h18) ?_
     intro a19 c19 _ _
     obtain ⟨v20, h21, hr⟩ := bind_some hr
     refine (qba n v1 v13 a2 c2 _ h21).atR [0] rfl rfl rfl ?_
     rintro _ _ ⟨rfl, rfl⟩
     refine ⟨fun _ _ h => h, ?_⟩
     rcases qa2 hr with ⟨e24, h23, hr⟩ | ⟨v22, h23, hr⟩
     ·
      refine (ih1 n (by omega) v15 (IntKind.i64.wrap (v3 + v20)) v4 v6 v10 a19 c19 a5 c5 a7 c7 _ h23).frameRA [0] [] [3, 1, 2] rfl rfl rfl rfl rfl rfl rfl rfl rfl ?_
      rintro _ _ ⟨rfl, rfl⟩
      refine ⟨rfl, [.lost], rfl, ?_⟩
      replace hr := osi hr; subst hr
      exact qt [true] _ _ rfl rfl rfl rfl rfl rfl ⟨rfl, rfl⟩
     ·
      refine (ih1 n (by omega) v15 (IntKind.i64.wrap (v3 + v20)) v4 v6 v10 a19 c19 a5 c5 a7 c7 _ h23).frameRA [0] [] [3, 1, 2] rfl rfl rfl rfl rfl rfl rfl rfl rfl ?_
      rintro _ _ ⟨a26, c26, rfl, rfl⟩
      refine ⟨rfl, [.cells 359 [(iS v22.2.steps)]], rfl, ?_⟩
      refine ⟨fun _ _ h => h, ?_⟩
      refine qk (n := 1) ttOK 48 [.agg [.int .i64 v22.1.op, .int .i64 v22.1.hd, .int .i64 v22.1.n, .sl 4 (Tm.encL v22.1.args)]] (ds' := (Tm.encL ([v22.1]))) rfl (by kernel_rfl) ⟨⟨rfl, rfl, rfl, ⟨[(iS v22.1.op)], _, rfl, rfl, ⟨[(iS v22.1.hd)], _, rfl, rfl, ⟨[(iS v22.1.n)], _, rfl, rfl, ⟨[(tU v22.1.args a26 c26)], _, rfl, (.inl ⟨_, rfl, ql (j := 4) rfl⟩), rfl⟩⟩⟩⟩⟩, trivial⟩ rfl (by simp only [Tm.encL_eq, List.map_cons, List.map_nil, Tm.enc_eq] <;> rfl) (by decide) (by decide) ?_
      intro a27
      refine ⟨fun _ _ h => h, ?_⟩
      obtain ⟨h28, hr⟩ := qj hr
      refine qm (ds' := (Tm.encL (v11.args ++ [v22.1]))) ttOK 48 0 5 rfl (by kernel_rfl) rfl rfl rfl rfl (by simp only [Tm.encL_eq, List.map_append]) h28 (by decide) ?_
      intro a29 c29
      exact ⟨(n, v22.2, (Tm.mk v11.op v11.hd v11.n (v11.args ++ [v22.1])), a29, c29, (IntKind.i64.wrap (v13 + 1))), ⟨by omega, hr⟩, Nat.lt_succ_self _, ⟨rfl, rfl, rfl, rfl, rfl, rfl, rfl, rfl, rfl, rfl, trivial⟩, (StLe.gen 6 [.old 0] [.old 0, .old 1, .old 2] rfl rfl rfl rfl rfl rfl rfl)⟩
    ·replace hr := qf h14 hr
     refine AtIf.mk (fun h30 => ?_) (fun h30 => ?_)
     ·replace hr := qg h30 hr
      refine AtIf.mk (fun h31 => ?_) (fun h31 => ?_)
      ·replace hr := qg h31 hr
       rcases qa2 hr with ⟨e34, h33, hr⟩ | ⟨v32, h33, hr⟩
       ·
        refine (qem n v4 v3 a5 c5 _ h33).frameRA [] [] [1] rfl rfl rfl rfl rfl rfl rfl rfl rfl ?_
        rintro _ _ ⟨rfl, rfl⟩
        refine ⟨rfl, [], rfl, ?_⟩
        replace hr := osi hr; subst hr
        exact qt [true] _ _ rfl rfl rfl rfl rfl rfl ⟨rfl, rfl⟩
       ·
        refine (qem n v4 v3 a5 c5 _ h33).frameRA [] [] [1] rfl rfl rfl rfl rfl rfl rfl rfl rfl ?_
        rintro _ _ ⟨a36, c36, rfl, rfl⟩
        refine ⟨rfl, [], rfl, ?_⟩
        refine ⟨fun _ _ h => h, ?_⟩
        rcases qa2 hr with ⟨e39, h38, hr⟩ | ⟨v37, h38, hr⟩
        ·
         refine Meets.le (S' := ⟨[.cells 359 [(iS v10.steps)], .cells 41 [(iS v1.op), (iS v1.hd), (iS v1.n), (tU v1.args a2 c2)], .cells 41 [(iS v4.op), (iS v4.hd), (iS v4.n), (tU v4.args a5 c5)], .cells 224 [(.v (.slice a7 ((Sm.encL v6.args).length) c7)), (iS v6.con)], .cells 41 [(iS 0), (iS 0), (iS 0), (.v (.slice none 0 0))], .cells 41 [(iS v11.op), (iS v11.hd), (iS v11.n), (tU v11.args a12 c12)]], [], [(tQ v11.args a12 c12), (tQ v1.args a2 c2), (tQ v4.args a5 c5), (.slice a7 ((Sm.encL v6.args).length) c7, .sl 2 (Sm.encL v6.args)), (tQ v32.args a36 c36)]⟩) (StLe.gen 6 [] [.froz 0, .old 0, .old 1, .old 2, .old 3] rfl rfl rfl rfl rfl rfl rfl) rfl ?_
         refine (ih2 n (by omega) v32 v11.args v6 v10 a36 c36 a12 c12 a7 c7 _ h38).frameRA [0] [] [4, 0, 3] rfl rfl rfl rfl rfl rfl rfl rfl rfl ?_
         rintro _ _ ⟨rfl, rfl⟩
         refine ⟨rfl, [.lost], rfl, ?_⟩
         replace hr := osi hr; subst hr
         exact qt [true] _ _ rfl rfl rfl rfl rfl rfl ⟨rfl, rfl⟩
        ·
         refine Meets.le (S' := ⟨[.cells 359 [(iS v10.steps)], .cells 41 [(iS v1.op), (iS v1.hd), (iS v1.n), (tU v1.args a2 c2)], .cells 41 [(iS v4.op), (iS v4.hd), (iS v4.n), (tU v4.args a5 c5)], .cells 224 [(.v (.slice a7 ((Sm.encL v6.args).length) c7)), (iS v6.con)], .cells 41 [(iS 0), (iS 0), (iS 0), (.v (.slice none 0 0))], .cells 41 [(iS v11.op), (iS v11.hd), (iS v11.n), (tU v11.args a12 c12)]], [], [(tQ v11.args a12 c12), (tQ v1.args a2 c2), (tQ v4.args a5 c5), (.slice a7 ((Sm.encL v6.args).length) c7, .sl 2 (Sm.encL v6.args)), (tQ v32.args a36 c36)]⟩) (StLe.gen 6 [] [.froz 0, .old 0, .old 1, .old 2, .old 3] rfl rfl rfl rfl rfl rfl rfl) rfl ?_
         refine (ih2 n (by omega) v32 v11.args v6 v10 a36 c36 a12 c12 a7 c7 _ h38).frameRA [0] [] [4, 0, 3] rfl rfl rfl rfl rfl rfl rfl rfl rfl ?_
         rintro _ _ ⟨a41, c41, rfl, rfl⟩
         refine ⟨rfl, [.cells 359 [(iS v37.2.steps)]], rfl, ?_⟩
         rcases qa2 hr with ⟨e44, h43, hr⟩ | ⟨v42, h43, hr⟩
         ·
          refine (qad n v37.1 a41 c41 _ h43).frameRA [] [] [5] rfl rfl rfl rfl rfl rfl rfl rfl rfl ?_
          rintro _ _ ⟨rfl, rfl⟩
          refine ⟨rfl, [], rfl, ?_⟩
          replace hr := osi hr; subst hr
          exact qt [true] _ _ rfl rfl rfl rfl rfl rfl ⟨rfl, rfl⟩
         ·
          refine (qad n v37.1 a41 c41 _ h43).frameRA [] [] [5] rfl rfl rfl rfl rfl rfl rfl rfl rfl ?_
          rintro _ _ ⟨a46, c46, rfl, rfl⟩
          refine ⟨rfl, [], rfl, ?_⟩
          replace hr := osi hr; subst hr
          exact AtRet.gen ⟨[.cells 359 [(iS v37.2.steps)]], [], [(tQ v42.args a46 c46)]⟩ (StLe.gen 1 [] [.old 6] rfl rfl rfl rfl rfl rfl rfl) rfl rfl ⟨a46, c46, rfl, rfl⟩
      ·replace hr := qf h31 hr
       refine AtIf.mk (fun h47 => ?_) (fun h47 => ?_)
       ·replace hr := qg h47 hr
        rcases qa2 hr with ⟨e50, h49, hr⟩ | ⟨v48, h49, hr⟩
        ·
         refine Meets.le (S' := ⟨[.cells 359 [(iS v10.steps)], .cells 41 [(iS v1.op), (iS v1.hd), (iS v1.n), (tU v1.args a2 c2)], .cells 41 [(iS v4.op), (iS v4.hd), (iS v4.n), (tU v4.args a5 c5)], .cells 224 [(.v (.slice a7 ((Sm.encL v6.args).length) c7)), (iS v6.con)], .cells 41 [(iS 0), (iS 0), (iS 0), (.v (.slice none 0 0))], .cells 41 [(iS v11.op), (iS v11.hd), (iS (IntKind.i64.wrap (v11.n - 1))), (tU v11.args a12 c12)]], [], [(tQ v11.args a12 c12), (tQ v1.args a2 c2), (tQ v4.args a5 c5), (.slice a7 ((Sm.encL v6.args).length) c7, .sl 2 (Sm.encL v6.args))]⟩) (StLe.gen 6 [] [.froz 0, .old 0, .old 1, .old 2] rfl rfl rfl rfl rfl rfl rfl) rfl ?_
         refine (qad n (Tm.mk v11.op v11.hd (IntKind.i64.wrap (v11.n - 1)) v11.args) a12 c12 _ h49).frameRA [] [] [0] rfl rfl rfl rfl rfl rfl rfl rfl rfl ?_
         rintro _ _ ⟨rfl, rfl⟩
         refine ⟨rfl, [], rfl, ?_⟩
         replace hr := osi hr; subst hr
         exact qt [true] _ _ rfl rfl rfl rfl rfl rfl ⟨rfl, rfl⟩
        ·
         refine Meets.le (S' := ⟨[.cells 359 [(iS v10.steps)], .cells 41 [(iS v1.op), (iS v1.hd), (iS v1.n), (tU v1.args a2 c2)], .cells 41 [(iS v4.op), (iS v4.hd), (iS v4.n), (tU v4.args a5 c5)], .cells 224 [(.v (.slice a7 ((Sm.encL v6.args).length) c7)), (iS v6.con)], .cells 41 [(iS 0), (iS 0), (iS 0), (.v (.slice none 0 0))], .cells 41 [(iS v11.op), (iS v11.hd), (iS (IntKind.i64.wrap (v11.n - 1))), (tU v11.args a12 c12)]], [], [(tQ v11.args a12 c12), (tQ v1.args a2 c2), (tQ v4.args a5 c5), (.slice a7 ((Sm.encL v6.args).length) c7, .sl 2 (Sm.encL v6.args))]⟩) (StLe.gen 6 [] [.froz 0, .old 0, .old 1, .old 2] rfl rfl rfl rfl rfl rfl rfl) rfl ?_
         refine (qad n (Tm.mk v11.op v11.hd (IntKind.i64.wrap (v11.n - 1)) v11.args) a12 c12 _ h49).frameRA [] [] [0] rfl rfl rfl rfl rfl rfl rfl rfl rfl ?_
         rintro _ _ ⟨a52, c52, rfl, rfl⟩
         refine ⟨rfl, [], rfl, ?_⟩
         replace hr := osi hr; subst hr
         exact AtRet.gen ⟨[.cells 359 [(iS v10.steps)]], [], [(tQ v48.args a52 c52)]⟩ (StLe.gen 1 [] [.old 4] rfl rfl rfl rfl rfl rfl rfl) rfl rfl ⟨a52, c52, rfl, rfl⟩
       ·replace hr := qf h47 hr
        rcases qa2 hr with ⟨e55, h54, hr⟩ | ⟨v53, h54, hr⟩
        ·
         refine Meets.le (S' := ⟨[.cells 359 [(iS v10.steps)], .cells 41 [(iS v1.op), (iS v1.hd), (iS v1.n), (tU v1.args a2 c2)], .cells 41 [(iS v4.op), (iS v4.hd), (iS v4.n), (tU v4.args a5 c5)], .cells 224 [(.v (.slice a7 ((Sm.encL v6.args).length) c7)), (iS v6.con)], .cells 41 [(iS 0), (iS 0), (iS 0), (.v (.slice none 0 0))], .cells 41 [(iS v11.op), (iS v11.hd), (iS v11.n), (tU v11.args a12 c12)]], [], [(tQ v11.args a12 c12), (tQ v1.args a2 c2), (tQ v4.args a5 c5), (.slice a7 ((Sm.encL v6.args).length) c7, .sl 2 (Sm.encL v6.args))]⟩) (StLe.gen 6 [] [.froz 0, .old 0, .old 1, .old 2] rfl rfl rfl rfl rfl rfl rfl) rfl ?_
         refine (qad n v11 a12 c12 _ h54).frameRA [] [] [0] rfl rfl rfl rfl rfl rfl rfl rfl rfl ?_
         rintro _ _ ⟨rfl, rfl⟩
         refine ⟨rfl, [], rfl, ?_⟩
         replace hr := osi hr; subst hr
         exact qt [true] _ _ rfl rfl rfl rfl rfl rfl ⟨rfl, rfl⟩
        ·
         refine Meets.le (S' := ⟨[.cells 359 [(iS v10.steps)], .cells 41 [(iS v1.op), (iS v1.hd), (iS v1.n), (tU v1.args a2 c2)], .cells 41 [(iS v4.op), (iS v4.hd), (iS v4.n), (tU v4.args a5 c5)], .cells 224 [(.v (.slice a7 ((Sm.encL v6.args).length) c7)), (iS v6.con)], .cells 41 [(iS 0), (iS 0), (iS 0), (.v (.slice none 0 0))], .cells 41 [(iS v11.op), (iS v11.hd), (iS v11.n), (tU v11.args a12 c12)]], [], [(tQ v11.args a12 c12), (tQ v1.args a2 c2), (tQ v4.args a5 c5), (.slice a7 ((Sm.encL v6.args).length) c7, .sl 2 (Sm.encL v6.args))]⟩) (StLe.gen 6 [] [.froz 0, .old 0, .old 1, .old 2] rfl rfl rfl rfl rfl rfl rfl) rfl ?_
         refine (qad n v11 a12 c12 _ h54).frameRA [] [] [0] rfl rfl rfl rfl rfl rfl rfl rfl rfl ?_
         rintro _ _ ⟨a57, c57, rfl, rfl⟩
         refine ⟨rfl, [], rfl, ?_⟩
         replace hr := osi hr; subst hr
         exact AtRet.gen ⟨[.cells 359 [(iS v10.steps)]], [], [(tQ v53.args a57 c57)]⟩ (StLe.gen 1 [] [.old 4] rfl rfl rfl rfl rfl rfl rfl) rfl rfl ⟨a57, c57, rfl, rfl⟩
     ·replace hr := qf h30 hr
      rcases qa2 hr with ⟨e60, h59, hr⟩ | ⟨v58, h59, hr⟩
      ·
       refine Meets.le (S' := ⟨[.cells 359 [(iS v10.steps)], .cells 41 [(iS v1.op), (iS v1.hd), (iS v1.n), (tU v1.args a2 c2)], .cells 41 [(iS v4.op), (iS v4.hd), (iS v4.n), (tU v4.args a5 c5)], .cells 224 [(.v (.slice a7 ((Sm.encL v6.args).length) c7)), (iS v6.con)], .cells 41 [(iS 0), (iS 0), (iS 0), (.v (.slice none 0 0))], .cells 41 [(iS v11.op), (iS v11.hd), (iS v11.n), (tU v11.args a12 c12)]], [], [(tQ v11.args a12 c12), (tQ v1.args a2 c2), (tQ v4.args a5 c5), (.slice a7 ((Sm.encL v6.args).length) c7, .sl 2 (Sm.encL v6.args))]⟩) (StLe.gen 6 [] [.froz 0, .old 0, .old 1, .old 2] rfl rfl rfl rfl rfl rfl rfl) rfl ?_
       refine (qad n v11 a12 c12 _ h59).frameRA [] [] [0] rfl rfl rfl rfl rfl rfl rfl rfl rfl ?_
       rintro _ _ ⟨rfl, rfl⟩
       refine ⟨rfl, [], rfl, ?_⟩
       replace hr := osi hr; subst hr
       exact qt [true] _ _ rfl rfl rfl rfl rfl rfl ⟨rfl, rfl⟩
      ·
       refine Meets.le (S' := ⟨[.cells 359 [(iS v10.steps)], .cells 41 [(iS v1.op), (iS v1.hd), (iS v1.n), (tU v1.args a2 c2)], .cells 41 [(iS v4.op), (iS v4.hd), (iS v4.n), (tU v4.args a5 c5)], .cells 224 [(.v (.slice a7 ((Sm.encL v6.args).length) c7)), (iS v6.con)], .cells 41 [(iS 0), (iS 0), (iS 0), (.v (.slice none 0 0))], .cells 41 [(iS v11.op), (iS v11.hd), (iS v11.n), (tU v11.args a12 c12)]], [], [(tQ v11.args a12 c12), (tQ v1.args a2 c2), (tQ v4.args a5 c5), (.slice a7 ((Sm.encL v6.args).length) c7, .sl 2 (Sm.encL v6.args))]⟩) (StLe.gen 6 [] [.froz 0, .old 0, .old 1, .old 2] rfl rfl rfl rfl rfl rfl rfl) rfl ?_
       refine (qad n v11 a12 c12 _ h59).frameRA [] [] [0] rfl rfl rfl rfl rfl rfl rfl rfl rfl ?_
       rintro _ _ ⟨a62, c62, rfl, rfl⟩
       refine ⟨rfl, [], rfl, ?_⟩
       replace hr := osi hr; subst hr
       exact AtRet.gen ⟨[.cells 359 [(iS v10.steps)]], [], [(tQ v58.args a62 c62)]⟩ (StLe.gen 1 [] [.old 4] rfl rfl rfl rfl rfl rfl rfl) rfl rfl ⟨a62, c62, rfl, rfl⟩
  ·
   intro n hn v1 v3 v5 v7 a2 c2 a4 c4 a6 c6 r hr
   rcases n with _ | n
   ·exact qe hr
   replace hn : n ≤ N := by omega
   rw [subst_work_apply.eq_2] at hr
   refine qb (N := 47) (m := 1) (dt := drawsOf [(7, .node [0, 1, 2, 3, 4, 5, 6, 7, 8, 9, 10] [(11, .node [] [(12, .leaf [])])], [11, 12], [])]) [] ttOK func313 rfl call313 ntmps313 rfl rfl rfl mixed (by kernel_rfl) ?_
   refine AtLoop.mk ⟨Nat × SWk × Tm × Option Addr × Nat × Int, fun x => [(5, (.loc 1 0)), (7, (.loc 2 0)), (8, (.loc 3 0)), (9, (.fn (.func 286) [(.loc 0 0)] [])), (14, (tU v3 a4 c4)), (15, (iS ((Tm.encL v3).length : Int))), (16, (iS x.2.2.2.2.2))], fun x => ⟨[.cells 359 [(iS x.2.1.steps)], .cells 41 [(iS x.2.2.1.op), (iS x.2.2.1.hd), (iS x.2.2.1.n), (tU x.2.2.1.args x.2.2.2.1 x.2.2.2.2.1)], .cells 224 [(.v (.slice a6 ((Sm.encL v5.args).length) c6)), (iS v5.con)], .cells 41 [(iS 0), (iS 0), (iS 0), (.v (.slice none 0 0))]], [], [(tQ x.2.2.1.args x.2.2.2.1 x.2.2.2.2.1), (tQ v1.args a2 c2), (tQ v3 a4 c4), (.slice a6 ((Sm.encL v5.args).length) c6, .sl 2 (Sm.encL v5.args))]⟩, fun x => x.1 ≤ N ∧ subst_work_apply_L1 x.1 v3 v5 x.2.1 x.2.2.1 x.2.2.2.2.2 = some r, fun x => x.1, (n, v7, v1, a2, c2, 0), ⟨by omega, hr⟩, ⟨rfl, rfl, rfl, rfl, rfl, rfl, rfl, trivial⟩, (StLe.gen 4 [] [.old 0, .old 0, .old 1, .old 2] rfl rfl rfl rfl rfl rfl rfl), fun x _ => ⟨rfl, rfl⟩, ?_⟩
   rintro ⟨n, v8, v9, a10, c10, v11⟩ HH
   obtain ⟨hn, hr⟩ : n ≤ N ∧ subst_work_apply_L1 n v3 v5 v8 v9 v11 = some r := HH
   rcases n with _ | n
   ·exact qe hr
   rw [subst_work_apply_L1.eq_2] at hr
   refine AtIf.mk (fun h12 => ?_) (fun h12 => ?_)
   ·replace hr := qg h12 hr
    obtain ⟨v13, h14, hr⟩ := bind_some hr
    obtain ⟨h15, h16⟩ := qi h14
    refine qh ttOK 2 rfl rfl rfl rfl h15 (Tm.encL_get h16) ?_
    intro a17 c17 _ _
    refine AtIf.mk (fun h18 => ?_) (fun h18 => ?_)
    ·replace hr := qg h18 hr
     refine qb (N := 5) (m := 6) (dt := fun _ => none) [] ttOK func343 rfl call343 ntmps343 rfl rfl rfl mixed (by kernel_rfl) ?_
     refine qae rfl rfl ?_
     refine AtRet.gen _ (StLe.refl _) rfl rfl ?_
     replace hr := osi hr; subst hr
     exact qt [true] _ _ rfl rfl rfl rfl rfl rfl ⟨rfl, rfl⟩
    ·replace hr := qf h18 hr
     obtain ⟨v19, h20, hr⟩ := bind_some hr
     obtain ⟨h21, h22⟩ := qi h20
     refine qh ttOK 0 rfl rfl rfl rfl h21 (Tm.encL_get h22) ?_
     intro a23 c23 _ _
     obtain ⟨v24, h25, hr⟩ := bind_some hr
     obtain ⟨h26, h27⟩ := qi h25
     refine qh ttOK 3 rfl rfl rfl rfl h26 (Sm.encL_get h27) ?_
     intro a28 c28 _ _
     refine qou rfl rfl ?_
     rcases qa2 hr with ⟨e31, h30, hr⟩ | ⟨v29, h30, hr⟩
     ·
      refine (ih1 n (by omega) v19 0 v13 v24 v8 a23 c23 a17 c17 a28 c28 _ h30).frameRA [0] [] [5, 4, 6] rfl rfl rfl rfl rfl rfl rfl rfl rfl ?_
      rintro _ _ ⟨rfl, rfl⟩
      refine ⟨rfl, [.lost], rfl, ?_⟩
      replace hr := osi hr; subst hr
      exact qt [true] _ _ rfl rfl rfl rfl rfl rfl ⟨rfl, rfl⟩
     ·
      refine (ih1 n (by omega) v19 0 v13 v24 v8 a23 c23 a17 c17 a28 c28 _ h30).frameRA [0] [] [5, 4, 6] rfl rfl rfl rfl rfl rfl rfl rfl rfl ?_
      rintro _ _ ⟨a33, c33, rfl, rfl⟩
      refine ⟨rfl, [.cells 359 [(iS v29.2.steps)]], rfl, ?_⟩
      exact ⟨(n, v29.2, v29.1, a33, c33, (IntKind.i64.wrap (v11 + 1))), ⟨by omega, hr⟩, Nat.lt_succ_self _, ⟨rfl, rfl, rfl, rfl, rfl, rfl, rfl, trivial⟩, (StLe.gen 4 [] [.old 7, .old 1, .old 2, .old 3] rfl rfl rfl rfl rfl rfl rfl)⟩
   ·replace hr := qf h12 hr
    rcases qa2 hr with ⟨e36, h35, hr⟩ | ⟨v34, h35, hr⟩
    ·
     refine (qad n v9 a10 c10 _ h35).frameRA [] [] [0] rfl rfl rfl rfl rfl rfl rfl rfl rfl ?_
     rintro _ _ ⟨rfl, rfl⟩
     refine ⟨rfl, [], rfl, ?_⟩
     replace hr := osi hr; subst hr
     exact qt [true] _ _ rfl rfl rfl rfl rfl rfl ⟨rfl, rfl⟩
    ·
     refine (qad n v9 a10 c10 _ h35).frameRA [] [] [0] rfl rfl rfl rfl rfl rfl rfl rfl rfl ?_
     rintro _ _ ⟨a38, c38, rfl, rfl⟩
     refine ⟨rfl, [], rfl, ?_⟩
     replace hr := osi hr; subst hr
     exact AtRet.gen ⟨[.cells 359 [(iS v8.steps)]], [], [(tQ v34.args a38 c38)]⟩ (StLe.gen 1 [] [.old 4] rfl rfl rfl rfl rfl rfl rfl) rfl rfl ⟨a38, c38, rfl, rfl⟩
theorem qco (n : Nat) (v1 : Tm) (v3 : Int) (v4 : Tm) (v6 : Sm) (v8 : SWk) (a2 : OA) (c2 : Nat) (a5 : OA) (c5 : Nat) (a7 : OA) (c7 : Nat) (r : PR (Tm × SWk)) (hr : subst_work_subst n v1 v3 v4 v6 v8 = some r) : Meets Tryz.prog (.val (.fn (.func 286) [] [])) [(.loc 0 0), (.agg [(iS v1.op), (iS v1.hd), (iS v1.n), (tU v1.args a2 c2)]), (iS v3), (.agg [(iS v4.op), (iS v4.hd), (iS v4.n), (tU v4.args a5 c5)]), (.agg [(.v (.slice a7 ((Sm.encL v6.args).length) c7)), (iS v6.con)])] ⟨[.cells 359 [(iS v8.steps)]], [], [(tQ v1.args a2 c2), (tQ v4.args a5 c5), (.slice a7 ((Sm.encL v6.args).length) c7, .sl 2 (Sm.encL v6.args))]⟩ (PanR r (fun r o S' => ∃ (b1 : OA) (d1 : Nat), o = .ret (.agg [(iS r.1.op), (iS r.1.hd), (iS r.1.n), (tU r.1.args b1 d1)]) ∧ S' = ⟨[.cells 359 [(iS r.2.steps)]], [], [(tQ r.1.args b1 d1)]⟩) (fun e o S' => o = .pan (panV 405 e) ∧ S' = ⟨[.lost], [], []⟩)) := (qep n).1 n (Nat.le_refl _) v1 v3 v4 v6 v8 a2 c2 a5 c5 a7 c7 r hr
end

section
open Go Go.Shelf
set_option maxRecDepth 100000
def growRen : Go.Shelf.Ren := ⟨fun | 4 => 303 | n => n, fun | 22 => 24 | 25 => 46 | 3 => 3 | 4 => 4 | 9 => 9 | 20 => 20 | 0 => 0 | n => n, fun n => n⟩
theorem growLays : Go.Proofs.Lays8.n4 Tryz.prog growRen := {
 mixed := by kernel_rfl
 f4 := ⟨Tryz.f303.name, by kernel_rfl, Tryz.func303.trans (congrArg some (by kernel_rfl))⟩
 t0 := Tryz.underlying0
 a0 := Tryz.isAgg0
 z0 := Tryz.sizeOf0
 v0 := Tryz.zeroValue0
 t3 := Tryz.underlying3
 a3 := Tryz.isAgg3
 z3 := Tryz.sizeOf3
 v3 := Tryz.zeroValue3
 t4 := Tryz.underlying4
 a4 := Tryz.isAgg4
 z4 := Tryz.sizeOf4
 v4 := Tryz.zeroValue4
 t9 := Tryz.underlying9
 a9 := Tryz.isAgg9
 z9 := Tryz.sizeOf9
 v9 := Tryz.zeroValue9
 t20 := Tryz.underlying20
 a20 := Tryz.isAgg20
 z20 := Tryz.sizeOf20
 v20 := Tryz.zeroValue20
 t22 := Tryz.underlying24
 a22 := Tryz.isAgg24
 z22 := Tryz.sizeOf24
 v22 := Tryz.zeroValue24 }
end

section
open Go.Tr Go Go.Proofs.Tryz
set_option maxRecDepth 10000
def metaOf (t : Tm) (_ : Int) : Int × Bool := (t.n, t.hd == 3)
theorem qpd : AsksOK (.fn (.func 246) [] []) metaOf := by
 intro t b a c _ _
 refine qb (N := 11) (m := 0) (dt := drawsOf [(1, .leaf [0, 1, 2, 3, 4, 5, 6], [], [])]) [] ttOK Tryz.func246 rfl Tryz.call246 Tryz.ntmps246 rfl rfl rfl mixed (by kernel_rfl) ?_
 refine AtRet.pure [] rfl (by simp) ⟨rfl, rfl⟩
def metasL (t : Tm) : List Int := if isProper t = true then numsOf metaOf t else []
theorem metas0 (t : Tm) (a : OA) (c : Nat) :
  Pure Tryz.prog (fnS 170) [tmS t a c] [tmR t a c]
   (fun r out => ∃ (b1 : OA) (d1 : Nat), r = .tup [.v (.slice b1 (List.map (D.int .i64) (metasL t)).length d1), iS (freeE t)] ∧ out = [(.slice b1 (List.map (D.int .i64) (metasL t)).length d1, .sl 1 (List.map (D.int .i64) (metasL t)))]) := by
 refine qb (N := 8) (m := 0) (dt := fun _ => none) [] ttOK Tryz.func170 rfl Tryz.call170 Tryz.ntmps170 rfl rfl rfl mixed (by kernel_rfl) ?_
 refine (qex 246 metaOf qpd t a c).opened.at (by simp) rfl rfl ?_
 rintro r out ⟨⟨hp, rfl, rfl⟩ | ⟨hp, v, rfl, rfl⟩, ho⟩
 ·have e1 : metasL t = [] := by rw [metasL, hp]; rfl
  have e2 : freeE t = 2 := by rw [freeE, hp]; rfl
  rw [e1, e2]
  exact qa [.nil 1] [(.slice none 0 0, .sl 1 [])] rfl rfl ⟨none, 0, rfl, rfl⟩
 ·have e1 : metasL t = numsOf metaOf t := by rw [metasL, if_pos hp]
  have e2 : freeE t = 0 := by rw [freeE, if_pos hp]
  obtain ⟨a', c', rfl, hle, hle2⟩ := ho _ (List.mem_singleton.2 rfl)
  rw [e1, e2]
  exact qa [.old 1] _ rfl rfl ⟨a', c', rfl, rfl⟩
theorem qdn {P : Program} {t e : TypeId} {x y : Operand} {a : Option Addr} {n c : Nat} {S : St} {K : SV → St → Prop} (hu : P.underlying t = some (.slice e)) (h : K (.v (.bool a.isNone)) S) :
  AtPure P (fun ℓ => do eqGuard .eql t x y ((SV.v (.slice a n c)).den ℓ) ((SV.v (.slice none 0 0)).den ℓ); binOp .eql t ((SV.v (.slice a n c)).den ℓ) ((SV.v (.slice none 0 0)).den ℓ)) S K := by
 refine AtPure.val _ rfl (fun ℓ w => ?_) h
 have h1 : (Op.equal t (.slice a n c) (.slice none 0 0)).run P w = .ok a.isNone w := by
  unfold Op.equal
  rw [show Op.maxDepth = 9999 + 1 from rfl, Op.equalIn]
  cases a <;> simp only [Sem.run_bind, qq hu, Result.andThen_ok, Sem.run_pure, Option.isNone]
 simp [eqGuard, binOp, SV.den, h1]
theorem qhw {P : Program} {cl : Cal} {args : List SV} {own : List Blk} {accs : List Acc} {rs : List (Value × D)} {a : Option Addr} {n c k : Nat} {ds : List D} {R : Out → St → Prop}
  (h1 : a = none → ds = [] → n = 0 → Meets P cl args ⟨own, accs, (.slice a n c, .sl k ds) :: rs⟩ R) (h2 : ∀ ad, a = some ad → Meets P cl args ⟨own, accs, (.slice a n c, .sl k ds) :: rs⟩ R) : Meets P cl args ⟨own, accs, (.slice a n c, .sl k ds) :: rs⟩ R := by
 cases a with
 | some ad => exact h2 ad rfl
 | none =>
  intro J ℓ w hG hJ
  have hrep := hG.reps _ (List.mem_cons_self ..)
  simp only [Rep, RepC] at hrep
  obtain ⟨a', cap, heq, hle, hb⟩ := hrep
  simp only [List.cons.injEq, Value.slice.injEq, and_true] at heq
  obtain ⟨rfl, rfl, rfl⟩ := heq
  rcases hb with hb | ⟨b, off, cc, T, fz, hx, _⟩
  ·exact h1 rfl hb (by rw [hb]; rfl) J ℓ w hG hJ
  ·cases hx
theorem cloneT (l : List Tm) (a : OA) (c : Nat) (hl : (Tm.encL l).length ≤ 1000000) :
  Meets Tryz.prog (fnS 146) [.v (.slice a (Tm.encL l).length c)] ⟨[], [], [(.slice a (Tm.encL l).length c, .sl 4 (Tm.encL l))]⟩
   (fun o S' => ∃ (b : OA) (d : Nat), o = .ret (.v (.slice b (Tm.encL l).length d)) ∧ S' = ⟨[], [⟨.slice b (Tm.encL l).length d, 4, 41, Tm.encL l⟩], []⟩) := by
 refine qhw (fun ha hn _ => ?_) (fun ad ha => ?_)
 ·subst ha
  rw [hn]
  refine qb (N := 8) (m := 0) (dt := fun _ => none) [] ttOK Tryz.func146 rfl Tryz.call146 Tryz.ntmps146 rfl rfl rfl mixed (by kernel_rfl) ?_
  refine qdn Tryz.underlying39 ?_
  refine AtIf.mk (fun _ => ?_) (fun h => tf h)
  exact AtRet.gen ⟨[], [⟨.slice none 0 0, 4, 41, []⟩], []⟩ (StLe.gen 0 [.nil 4 41] [] rfl rfl rfl rfl rfl rfl rfl) rfl rfl ⟨none, 0, rfl, rfl⟩
 ·subst ha
  refine qb (N := 8) (m := 0) (dt := fun _ => none) [] ttOK Tryz.func146 rfl Tryz.call146 Tryz.ntmps146 rfl rfl rfl mixed (by kernel_rfl) ?_
  refine qdn Tryz.underlying39 ?_
  refine AtIf.mk (fun h => ff h) (fun _ => ?_)
  refine qga (n := 0) (ds' := []) ttOK 48 [] rfl (by kernel_rfl) trivial rfl rfl (by decide) (by decide) ?_
  intro b
  refine qm (ds' := Tm.encL l) ttOK 48 0 0 rfl (by kernel_rfl) rfl rfl rfl rfl rfl (decide_eq_true hl) (by decide) ?_
  intro b' d'
  exact AtRet.gen ⟨[], [⟨.slice b' (Tm.encL l).length d', 4, 41, Tm.encL l⟩], []⟩ (StLe.gen 0 [.old 0] [] rfl rfl rfl rfl rfl rfl rfl) rfl rfl ⟨b', d', rfl, rfl⟩
theorem cloneQ (l : List Qn) (a : OA) (c : Nat) (hl : (Qn.encL l).length ≤ 1000000) :
  Meets Tryz.prog (fnS 163) [.v (.slice a (Qn.encL l).length c)] ⟨[], [], [(.slice a (Qn.encL l).length c, .sl 13 (Qn.encL l))]⟩
   (fun o S' => ∃ (b : OA) (d : Nat), o = .ret (.v (.slice b (Qn.encL l).length d)) ∧ S' = ⟨[], [⟨.slice b (Qn.encL l).length d, 13, 46, Qn.encL l⟩], []⟩) := by
 refine qhw (fun ha hn _ => ?_) (fun ad ha => ?_)
 ·subst ha
  rw [hn]
  refine qb (N := 8) (m := 0) (dt := fun _ => none) [] ttOK Tryz.func163 rfl Tryz.call163 Tryz.ntmps163 rfl rfl rfl mixed (by kernel_rfl) ?_
  refine qdn Tryz.underlying24 ?_
  refine AtIf.mk (fun _ => ?_) (fun h => tf h)
  exact AtRet.gen ⟨[], [⟨.slice none 0 0, 13, 46, []⟩], []⟩ (StLe.gen 0 [.nil 13 46] [] rfl rfl rfl rfl rfl rfl rfl) rfl rfl ⟨none, 0, rfl, rfl⟩
 ·subst ha
  refine qb (N := 8) (m := 0) (dt := fun _ => none) [] ttOK Tryz.func163 rfl Tryz.call163 Tryz.ntmps163 rfl rfl rfl mixed (by kernel_rfl) ?_
  refine qdn Tryz.underlying24 ?_
  refine AtIf.mk (fun h => ff h) (fun _ => ?_)
  refine qga (n := 0) (ds' := []) ttOK 168 [] rfl (by kernel_rfl) trivial rfl rfl (by decide) (by decide) ?_
  intro b
  refine qm (ds' := Qn.encL l) ttOK 168 0 0 rfl (by kernel_rfl) rfl rfl rfl rfl rfl (decide_eq_true hl) (by decide) ?_
  intro b' d'
  exact AtRet.gen ⟨[], [⟨.slice b' (Qn.encL l).length d', 13, 46, Qn.encL l⟩], []⟩ (StLe.gen 0 [.old 0] [] rfl rfl rfl rfl rfl rfl rfl) rfl rfl ⟨b', d', rfl, rfl⟩
theorem qg0 {J : Nat → Prop} {w : World} {a : Acc} (hn : (accBlk a.v).Nodup) (hb : ∀ b ∈ accBlk a.v, b < w.heap.size ∧ J b) (ha : AccOK (Jx J (mutS [] ⟨[], [a], []⟩)) w a) : Go.Tr.Good J [] ⟨[], [a], []⟩ w := by
 refine ⟨rfl, by simpa [mutS, mutL] using hn, fun b h => (hb b (by simpa [mutS, mutL] using h)).1, fun b h => (hb b (by simpa [mutS, mutL] using h)).2, by simp, by simp, ?_, by simp⟩
 intro x hx
 rw [List.mem_singleton] at hx
 subst hx
 exact ha
theorem growQ (n : Int) (h0 : 0 ≤ n) (h1 : n ≤ 1000000) :
  Meets Tryz.prog (fnS 303) [.v (.slice none 0 0), iS n] ⟨[], [], [(.slice none 0 0, .sl 13 [])]⟩
   (fun o S' => ∃ (b : OA) (d : Nat), o = .ret (.v (.slice b (Qn.encL []).length d)) ∧ S' = ⟨[], [⟨.slice b (Qn.encL []).length d, 13, 46, Qn.encL []⟩], []⟩) := by
 obtain ⟨m, rfl⟩ : ∃ m : Nat, n = m := ⟨n.toNat, by omega⟩
 intro J ℓ w hG hJ
 have hl : ℓ = [] := by have := hG.len; simpa using this
 subst hl
 refine ⟨.enter 303 #[.slice none 0 0, .int .i64 m], ?_, ?_⟩
 ·simp only [Cal.sem, SV.den, qd, Deferred.ofValue, Sem.run_bind, Sem.run_pure, Result.andThen_ok, invoke]
  exact Tryz.call303 _ _
 ·rcases Nat.eq_zero_or_pos m with rfl | hm
  ·have hc := Any8.slices_Grow_room growLays none 0 0 0 w (by omega) (by omega) (by omega) (by omega)
   refine CallsIn.mono ((callsIn_wide (n := 0)).2 hc) ?_
   rintro e w' ⟨rfl, rfl⟩
   exact ⟨[], .ret (.v (.slice none 0 0)), ⟨[], [⟨.slice none 0 0, 13, 46, []⟩], []⟩, rfl, rfl, List.prefix_refl _, Ext.refl _ _, qg0 (by simp [accBlk]) (by simp [accBlk]) (.inl ⟨rfl, rfl⟩), by simp [mutS, mutL, accBlk], none, 0, rfl, rfl⟩
  ·obtain ⟨i0, z, hi0, hs0, hb0, hz0, hzs⟩ := qcz (P := Tryz.prog) (e := 46) (k := 13) (bytes := 168) (by kernel_rfl)
   have hc := Any8.slices_Grow_grow growLays i0 z hi0 hz0 (by omega) none 0 0 m [] w (by omega) (by omega) (by rw [hb0]; omega) (by omega) (by simp) (fun _ => rfl) (fun a h => by cases h)
   refine CallsIn.mono ((callsIn_wide (n := 0)).2 hc) ?_
   rintro e w' ⟨rfl, rfl⟩
   have hge := grownCap_ge w (0 + m) 0 (growRen.t 25)
   have hgr : grownCap w m 0 (growRen.t 25) = grownCap w m 0 46 := rfl
   refine ⟨[], .ret (.v (.slice (some ⟨w.heap.size, 0, none⟩) 0 (grownCap w (0 + m) 0 46))), ⟨[], [⟨.slice (some ⟨w.heap.size, 0, none⟩) 0 (grownCap w (0 + m) 0 46), 13, 46, []⟩], []⟩, rfl, rfl, List.prefix_refl _, ⟨rfl, rfl, ?_, ?_⟩, qg0 (by simp [accBlk]) ?_ (.row ⟨w.heap.size, _, _, rfl, World.alloc_heap_new w.drew _, ?_, ⟨Nat.zero_le _, by simp⟩, by simp [RepE]⟩), ?_, some ⟨w.heap.size, 0, none⟩, _, rfl, rfl⟩
   ·show w.heap.size ≤ (w.heap.push _).size
    simp
   ·intro b hb _
    show (w.heap.push _)[b]? = _
    rw [Array.getElem?_push, if_neg (by omega)]
   ·intro b hb
    simp [accBlk] at hb
    subst hb
    exact ⟨by show w.heap.size < (w.heap.push _).size; simp, hJ _ (Nat.le_refl _)⟩
   ·simp only [Array.size_append, List.size_toArray, size_zeroCells, hzs, List.length_nil, Nat.zero_add, Nat.sub_zero, ← Nat.add_mul]
    congr 1
    simp at hge
    omega
   ·intro b hb
    simp [mutS, mutL, accBlk] at hb
    subst hb
    exact .inr (Nat.le_refl _)
end
end Go.Proofs.YthkgcfplebgolaaGreat
