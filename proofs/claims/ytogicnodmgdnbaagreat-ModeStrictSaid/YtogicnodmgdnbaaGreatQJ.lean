/- Merged texts: G5 EvA EvB EvC EvK EvL EvP EvQ EvR MoA MoB StA StB StC. Strict by mode, and ModeFree, with fuel, and their contracts. Conditions stand in each. Plain law: functions with fuel that yield what is said of them; loops over lists; what is known of short lists. No program in sight. Plain law: sign.Check and trussref05.Formed say the same of a signature. No program in sight. Plain law: what trussref05 says of a class; both forms of a signature. No program in sight. Plain law: the reference's kernel answers, whatever the signature is, if its classes are proper. No program in sight. Plain law: the reference's kernel answers, whatever the signature is, if its classes are proper; so does 'valid'. No program in sight. Plain law: the texts of raw expressions, by syntax and by trussref02. No program in sight. Plain law: names of variables, heads, and what print.Raw asks of its arguments. No program in sight. Plain law: occurrences, moved terms, and which nodes are in scope. No program in sight. Plain law: awake answers true. No program in sight. Plain law: the signs of directives; which arguments they stand at. No program in sight. Plain law: long forms, patterns, strict variables, and other numbers for free variables. No program in sight. Plain law: what Short, the patterns and the strict variables by mode are. No program in sight. Plain law: other numbers by mode.Strict, and what it returns. No program in sight. -/
import Derived.Test.YtogicnodmgdnbaaGreatQI
import Derived.KernelRfl
/-! G5 -/
section
namespace Go.Proofs.YtogicnodmgdnbaaGreat
open Go.Tr Go
set_option maxRecDepth 10000
set_option linter.unusedVariables false
set_option linter.unusedSimpArgs false

mutual
def mode_Strict : Nat → Tm → Int → Option ((List Int) × Int)
  | 0, _, _ => none
  | n + 1, v1, v3 =>
    cond ((((if isProper v1 then (0 : Int) else 2) != 0) || (decide (v3 < 0))) || (decide (v3 > 30))) (
    some ([], 2)) (
    cond (decide ((0 : Int) ≤ (IntKind.i64.wrap (v3 + ((List.map (D.int .i64) (freeL v1)).length : Int))) ∧ ((IntKind.i64.wrap (v3 + ((List.map (D.int .i64) (freeL v1)).length : Int))) : Int) ≤ 1000000)) (
    (term_Map_mode_Strict_2 n v1 0 v3 (freeL v1)).bind (fun v8 =>
    mode_Strict_L1 n v3 v1 v8 (List.replicate ((IntKind.i64.wrap (v3 + ((List.map (D.int .i64) (freeL v1)).length : Int)))).toNat false) 0)) none)
def mode_Strict_L2 : Nat → (List Int) → Tm → Int → (List Int) → Int → Option ((List Int) × Int)
  | 0, _, _, _, _, _ => none
  | n + 1, v26, v1, v3, v42, v44 =>
    cond (decide (v44 < ((List.map (D.int .i64) v26).length : Int))) (
    (idx v26 v44).bind (fun v47 =>
    (idx (freeL v1) (IntKind.i64.wrap ((IntKind.i64.wrap ((IntKind.i64.wrap ((IntKind.i64.wrap (v3 + ((List.map (D.int .i64) (freeL v1)).length : Int))) - 1)) - v47)) - v3))).bind (fun v51 =>
    cond (decide ((List.map (D.int .i64) (v42 ++ [v51])).length ≤ 1000000)) (
    mode_Strict_L2 n v26 v1 v3 (v42 ++ [v51]) (IntKind.i64.wrap (v44 + 1))) none))) (
    cond (decide ((List.map (D.int .i64) v42).length ≤ 1000000)) (
    cond (decide ((sorted v42).length ≤ 1000000)) (
    some ((Go.Lib.compact (sorted v42)), 0)) none) none)
def mode_Strict_L1 : Nat → Int → Tm → Tm → (List Bool) → Int → Option ((List Int) × Int)
  | 0, _, _, _, _, _ => none
  | n + 1, v3, v1, v8, v17, v19 =>
    cond (decide (v19 < ((List.map D.bool (List.replicate ((IntKind.i64.wrap (v3 + ((List.map (D.int .i64) (freeL v1)).length : Int)))).toNat false)).length : Int))) (
    cond (decide (0 ≤ v19 ∧ (v19).toNat < (List.map D.bool v17).length)) (
    mode_Strict_L1 n v3 v1 v8 (v17.set ((v19).toNat) (decide ((IntKind.i64.wrap ((IntKind.i64.wrap ((IntKind.i64.wrap (v3 + ((List.map (D.int .i64) (freeL v1)).length : Int))) - 1)) - v19)) ≥ v3))) (IntKind.i64.wrap (v19 + 1))) none) (
    (mode_scope_strict n v17 v8).bind (fun v26 =>
    mode_Strict_L2 n v26 v1 v3 ([]) 0))
 end
theorem mode_Strict_spec (n : Nat) (v1 : Tm) (v3 : Int) (a2 : Option Addr) (c2 : Nat) (r : (List Int) × Int) (hr : mode_Strict n v1 v3 = some r) : Pure Tryz.prog (.val (.fn (.func 23) [] [])) [(.agg [(.v (.int .i64 v1.op)), (.v (.int .i64 v1.hd)), (.v (.int .i64 v1.n)), (.v (.slice a2 ((Tm.encL v1.args).length) c2))]), (.v (.int .i64 v3))] [(.slice a2 ((Tm.encL v1.args).length) c2, .sl 4 (Tm.encL v1.args))] (fun r' out => ∃ (b1 : Option Addr) (d1 : Nat), r' = (.tup [(.v (.slice b1 ((List.map (D.int .i64) r.1).length) d1)), (.v (.int .i64 r.2))]) ∧ out = [(.slice b1 ((List.map (D.int .i64) r.1).length) d1, .sl 1 (List.map (D.int .i64) r.1))]) := by
  rcases n with _ | n
  · exact no_some hr
  rw [mode_Strict.eq_2] at hr
  refine spec_of_body (N := 84) (m := 0) (dt := fun _ => none) [] ttOK Tryz.func23 rfl Tryz.call23 Tryz.ntmps23 rfl rfl rfl mixed (by kernel_rfl) ?_
  refine (check_spec v1 a2 c2).atR [0] rfl rfl rfl ?_
  rintro _ _ ⟨rfl, rfl⟩
  refine AtIf.mk (fun h4 => ?_) (fun h4 => ?_)
  · replace hr := cond_t h4 hr
    replace hr := Option.some.inj hr
    subst hr
    exact AtRet.pureG [.nil 1] [(.slice none 0 0, .sl 1 [])] rfl rfl ⟨none, 0, rfl, rfl⟩
  · replace hr := cond_f h4 hr
    refine (free0 v1 a2 c2).atR [0] rfl rfl rfl ?_
    rintro _ _ ⟨a5, c5, rfl, rfl⟩
    obtain ⟨h6, hr⟩ := cond_need hr
    refine at_makeSliceG (ds' := (List.map D.bool (List.replicate ((IntKind.i64.wrap (v3 + ((List.map (D.int .i64) (freeL v1)).length : Int)))).toNat false))) (d := .bool false) ttOK rfl ⟨_, rfl, rfl, rfl, by decide⟩ rfl rfl rfl (of_decide_eq_true h6) (List.map_replicate ..) ?_
    intro a7
    obtain ⟨v8, h9, hr⟩ := bind_some hr
    refine (term_Map_mode_Strict_2_spec n v1 0 v3 (freeL v1) a2 c2 a5 c5 _ h9).frameR [3, 1, 2] [0, 1] rfl rfl rfl rfl rfl rfl rfl rfl ?_
    rintro _ _ ⟨a10, c10, rfl, rfl⟩
    refine ⟨rfl, rfl, [.cells 108 [(.fn (.func 61) [] [(.loc 1 0), (.loc 2 0)])], .cells 3 [(.v (.int .i64 v3))], .cells 29 [(.v (.slice a5 ((List.map (D.int .i64) (freeL v1)).length) c5))]], rfl, ?_⟩
    refine AtLoop.mk ⟨Nat × (List Bool) × Option Addr × Nat × Int, fun x => [(3, (.loc 1 0)), (6, (.loc 2 0)), (8, (.v (.int .i64 (IntKind.i64.wrap (v3 + ((List.map (D.int .i64) (freeL v1)).length : Int)))))), (9, (.v (.slice x.2.2.1 ((List.map D.bool x.2.1).length) x.2.2.2.1))), (11, (.loc 4 0)), (44, (.v (.int .i64 ((List.map D.bool (List.replicate ((IntKind.i64.wrap (v3 + ((List.map (D.int .i64) (freeL v1)).length : Int)))).toNat false)).length : Int)))), (45, (.v (.int .i64 x.2.2.2.2)))], fun x => ⟨[.cells 47 [(.v (.int .i64 v1.op)), (.v (.int .i64 v1.hd)), (.v (.int .i64 v1.n)), (.v (.slice a2 ((Tm.encL v1.args).length) c2))], .cells 3 [(.v (.int .i64 v3))], .cells 29 [(.v (.slice a5 ((List.map (D.int .i64) (freeL v1)).length) c5))], .cells 108 [(.fn (.func 61) [] [(.loc 1 0), (.loc 2 0)])], .cells 47 [(.v (.int .i64 v8.op)), (.v (.int .i64 v8.hd)), (.v (.int .i64 v8.n)), (.v (.slice a10 ((Tm.encL v8.args).length) c10))]], [⟨.slice x.2.2.1 ((List.map D.bool x.2.1).length) x.2.2.2.1, 1, 4, (List.map D.bool x.2.1)⟩], [(.slice a2 ((Tm.encL v1.args).length) c2, .sl 4 (Tm.encL v1.args)), (.slice a5 ((List.map (D.int .i64) (freeL v1)).length) c5, .sl 1 (List.map (D.int .i64) (freeL v1))), (.slice a10 ((Tm.encL v8.args).length) c10, .sl 4 (Tm.encL v8.args))]⟩, fun x => mode_Strict_L1 x.1 v3 v1 v8 x.2.1 x.2.2.2.2 = some r, fun x => x.1, (n, (List.replicate ((IntKind.i64.wrap (v3 + ((List.map (D.int .i64) (freeL v1)).length : Int)))).toNat false), a7, ((IntKind.i64.wrap (v3 + ((List.map (D.int .i64) (freeL v1)).length : Int)))).toNat, 0), hr, ⟨rfl, rfl, rfl, rfl, rfl, rfl, rfl, trivial⟩, (StLe.gen 5 [.old 0] [.old 0, .old 1, .old 2] rfl rfl rfl rfl rfl rfl rfl), fun x _ => ⟨rfl, rfl⟩, ?_⟩
    rintro ⟨n, v17, a18, c18, v19⟩ HH
    have hr : mode_Strict_L1 n v3 v1 v8 v17 v19 = some r := HH
    rcases n with _ | n
    · exact no_some hr
    rw [mode_Strict_L1.eq_2] at hr
    refine AtIf.mk (fun h20 => ?_) (fun h20 => ?_)
    · replace hr := cond_t h20 hr
      obtain ⟨h21, hr⟩ := cond_need hr
      refine at_index_accG ttOK 0 rfl rfl rfl rfl h21 ?_
      intro b22 h23
      subst h23
      obtain ⟨m24, h25⟩ : ∃ m24, m24 = (List.map D.bool v17).length := ⟨_, rfl⟩
      try dsimp only
      rw [← h25]
      refine at_store_accG (ds' := List.map D.bool (v17.set ((v19).toNat) (decide ((IntKind.i64.wrap ((IntKind.i64.wrap ((IntKind.i64.wrap (v3 + ((List.map (D.int .i64) (freeL v1)).length : Int))) - 1)) - v19)) ≥ v3)))) ttOK 0 rfl (by simpa using (of_decide_eq_true h21).2) rfl (.inl ⟨_, rfl⟩) rfl rfl (map_set' ..) ?_
      obtain rfl : m24 = (List.map D.bool (v17.set ((v19).toNat) (decide ((IntKind.i64.wrap ((IntKind.i64.wrap ((IntKind.i64.wrap (v3 + ((List.map (D.int .i64) (freeL v1)).length : Int))) - 1)) - v19)) ≥ v3)))).length := by rw [h25]; simp
      exact ⟨(n, (v17.set ((v19).toNat) (decide ((IntKind.i64.wrap ((IntKind.i64.wrap ((IntKind.i64.wrap (v3 + ((List.map (D.int .i64) (freeL v1)).length : Int))) - 1)) - v19)) ≥ v3))), (some ⟨b22, 0, none⟩), c18, (IntKind.i64.wrap (v19 + 1))), hr, Nat.lt_succ_self _, ⟨rfl, rfl, rfl, rfl, rfl, rfl, rfl, trivial⟩, (StLe.gen 5 [.old 0] [.old 0, .old 1, .old 2] rfl rfl rfl rfl rfl rfl rfl)⟩
    · replace hr := cond_f h20 hr
      obtain ⟨v26, h27, hr⟩ := bind_some hr
      refine Meets.le (S' := ⟨[.cells 47 [(.v (.int .i64 v1.op)), (.v (.int .i64 v1.hd)), (.v (.int .i64 v1.n)), (.v (.slice a2 ((Tm.encL v1.args).length) c2))], .cells 3 [(.v (.int .i64 v3))], .cells 29 [(.v (.slice a5 ((List.map (D.int .i64) (freeL v1)).length) c5))], .cells 108 [(.fn (.func 61) [] [(.loc 1 0), (.loc 2 0)])], .cells 47 [(.v (.int .i64 v8.op)), (.v (.int .i64 v8.hd)), (.v (.int .i64 v8.n)), (.v (.slice a10 ((Tm.encL v8.args).length) c10))]], [], [(.slice a18 ((List.map D.bool v17).length) c18, .sl 1 (List.map D.bool v17)), (.slice a2 ((Tm.encL v1.args).length) c2, .sl 4 (Tm.encL v1.args)), (.slice a5 ((List.map (D.int .i64) (freeL v1)).length) c5, .sl 1 (List.map (D.int .i64) (freeL v1))), (.slice a10 ((Tm.encL v8.args).length) c10, .sl 4 (Tm.encL v8.args))]⟩) (StLe.gen 5 [] [.froz 0, .old 0, .old 1, .old 2] rfl rfl rfl rfl rfl rfl rfl) rfl ?_
      refine (mode_scope_strict_spec n v17 v8 a18 c18 a10 c10 _ h27).atR [0, 3] rfl rfl rfl ?_
      rintro _ _ ⟨a28, c28, rfl, rfl⟩
      obtain ⟨q45, hq45⟩ : ∃ q, q = n := ⟨_, rfl⟩
      refine AtLoop.mk ⟨Nat × (List Int) × Option Addr × Nat × Int, fun x => [(3, (.loc 1 0)), (6, (.loc 2 0)), (8, (.v (.int .i64 (IntKind.i64.wrap (v3 + ((List.map (D.int .i64) (freeL v1)).length : Int)))))), (13, (.v (.slice x.2.2.1 ((List.map (D.int .i64) x.2.1).length) x.2.2.2.1))), (60, (.v (.slice a28 ((List.map (D.int .i64) v26).length) c28))), (61, (.v (.int .i64 ((List.map (D.int .i64) v26).length : Int)))), (62, (.v (.int .i64 x.2.2.2.2)))], fun x => ⟨[.cells 47 [(.v (.int .i64 v1.op)), (.v (.int .i64 v1.hd)), (.v (.int .i64 v1.n)), (.v (.slice a2 ((Tm.encL v1.args).length) c2))], .cells 3 [(.v (.int .i64 v3))], .cells 29 [(.v (.slice a5 ((List.map (D.int .i64) (freeL v1)).length) c5))], .cells 108 [(.fn (.func 61) [] [(.loc 1 0), (.loc 2 0)])], .cells 47 [(.v (.int .i64 v8.op)), (.v (.int .i64 v8.hd)), (.v (.int .i64 v8.n)), (.v (.slice a10 ((Tm.encL v8.args).length) c10))]], [⟨.slice x.2.2.1 ((List.map (D.int .i64) x.2.1).length) x.2.2.2.1, 1, 3, (List.map (D.int .i64) x.2.1)⟩], [(.slice a18 ((List.map D.bool v17).length) c18, .sl 1 (List.map D.bool v17)), (.slice a2 ((Tm.encL v1.args).length) c2, .sl 4 (Tm.encL v1.args)), (.slice a5 ((List.map (D.int .i64) (freeL v1)).length) c5, .sl 1 (List.map (D.int .i64) (freeL v1))), (.slice a10 ((Tm.encL v8.args).length) c10, .sl 4 (Tm.encL v8.args)), (.slice a28 ((List.map (D.int .i64) v26).length) c28, .sl 1 (List.map (D.int .i64) v26))]⟩, fun x => x.1 ≤ q45 ∧ mode_Strict_L2 x.1 v26 v1 v3 x.2.1 x.2.2.2.2 = some r, fun x => x.1, (n, [], none, 0, 0), ⟨by omega, hr⟩, ⟨rfl, rfl, rfl, rfl, rfl, rfl, rfl, trivial⟩, (StLe.gen 5 [.nil 1 3] [.old 0, .old 1, .old 2, .old 3, .old 4] rfl rfl rfl rfl rfl rfl rfl), fun x _ => ⟨rfl, rfl⟩, ?_⟩
      rintro ⟨n, v42, a43, c43, v44⟩ HH
      obtain ⟨hbq45, hr⟩ : n ≤ q45 ∧ mode_Strict_L2 n v26 v1 v3 v42 v44 = some r := HH
      rcases n with _ | n
      · exact no_some hr
      rw [mode_Strict_L2.eq_2] at hr
      refine AtIf.mk (fun h46 => ?_) (fun h46 => ?_)
      · replace hr := cond_t h46 hr
        obtain ⟨v47, h48, hr⟩ := bind_some hr
        obtain ⟨h49, h50⟩ := idx_some h48
        refine at_index ttOK 4 rfl rfl rfl rfl h49 (map_get (D.int .i64) h50) ?_
        obtain ⟨v51, h52, hr⟩ := bind_some hr
        obtain ⟨h53, h54⟩ := idx_some h52
        refine at_index ttOK 2 rfl rfl rfl rfl h53 (map_get (D.int .i64) h54) ?_
        refine at_buildG (n := 1) ttOK 8 [.int .i64 v51] (ds' := (List.map (D.int .i64) ([v51]))) rfl (by kernel_rfl) ⟨⟨rfl, rfl, rfl, rfl⟩, trivial⟩ rfl rfl (by decide) (by decide) ?_
        intro a55
        obtain ⟨h56, hr⟩ := cond_need hr
        refine at_appendG (ds' := (List.map (D.int .i64) (v42 ++ [v51]))) ttOK 8 0 5 rfl (by kernel_rfl) rfl rfl rfl rfl (by simp only [List.map_append]) h56 (by decide) ?_
        intro a57 c57
        exact ⟨(n, (v42 ++ [v51]), a57, c57, (IntKind.i64.wrap (v44 + 1))), ⟨by omega, hr⟩, Nat.lt_succ_self _, ⟨rfl, rfl, rfl, rfl, rfl, rfl, rfl, trivial⟩, (StLe.gen 5 [.old 0] [.old 0, .old 1, .old 2, .old 3, .old 4] rfl rfl rfl rfl rfl rfl rfl)⟩
      · replace hr := cond_f h46 hr
        obtain ⟨h58, hr⟩ := cond_need hr
        obtain ⟨m59, h60⟩ : ∃ m59, m59 = (List.map (D.int .i64) v42).length := ⟨_, rfl⟩
        try dsimp only
        rw [← h60]
        refine (sort_spec v42 (.slice a43 m59 c43) (by have := of_decide_eq_true h58; simp at this; omega)).frameRA [] [0] [] rfl rfl rfl rfl rfl rfl rfl rfl rfl ?_
        rintro _ _ ⟨rfl, rfl⟩
        refine ⟨rfl, [], rfl, ?_⟩
        obtain ⟨h61, hr⟩ := cond_need hr
        obtain rfl : m59 = (List.map (D.int .i64) (sorted v42)).length := by rw [h60]; simp [sorted]
        refine (compact_spec (sorted v42) a43 c43 (by have := of_decide_eq_true h61; simpa using this)).frameRA [] [0] [] rfl rfl rfl rfl rfl rfl rfl rfl rfl ?_
        rintro _ _ ⟨a62, c62, rfl, rfl⟩
        refine ⟨rfl, [], rfl, ?_⟩
        replace hr := Option.some.inj hr
        subst hr
        exact AtRet.pureG [.froz 0] [(.slice a62 ((List.map (D.int .i64) (Go.Lib.compact (sorted v42))).length) c62, .sl 1 (List.map (D.int .i64) (Go.Lib.compact (sorted v42))))] rfl rfl ⟨a62, c62, rfl, rfl⟩
mutual
def R04_Short : Nat → Tm → Option (Int × Int × Bool)
  | 0, _ => none
  | n + 1, v1 =>
    R04_Short_L1 n v1 0
def R04_Short_L2 : Nat → Int → Tm → Int → Option (Int × Int × Bool)
  | 0, _, _, _ => none
  | n + 1, v11, v9, v29 =>
    cond (decide (v29 < v11)) (
    (idx v9.args v29).bind (fun v32 =>
    (R04_Short n v32).bind (fun v37 =>
    cond (((!v37.2.2) || (v37.1 != 1)) || (v37.2.1 != (IntKind.i64.wrap ((IntKind.i64.wrap (v11 - 1)) - v29)))) (
    some (0, 0, false)) (
    R04_Short_L2 n v11 v9 (IntKind.i64.wrap (v29 + 1)))))) (
    cond (v9.hd == 1) (
    some (v9.hd, (IntKind.i64.wrap (v9.n - v11)), (decide (v9.n ≥ v11)))) (
    some (v9.hd, v9.n, true)))
def R04_Short_L1 : Nat → Tm → Int → Option (Int × Int × Bool)
  | 0, _, _ => none
  | n + 1, v9, v11 =>
    cond (v9.op == 3) (
    (idx v9.args 0).bind (fun v13 =>
    R04_Short_L1 n v13 (IntKind.i64.wrap (v11 + 1)))) (
    cond ((v9.op != 4) || (((Tm.encL v9.args).length : Int) != v11)) (
    some (0, 0, false)) (
    R04_Short_L2 n v11 v9 0))
 end
theorem R04_Short_specN : ∀ (N : Nat), (∀ (n : Nat), n ≤ N → ∀ (v1 : Tm) (a2 : Option Addr) (c2 : Nat) (r : Int × Int × Bool), R04_Short n v1 = some r → Pure Tryz.prog (.val (.fn (.func 162) [] [])) [(.agg [(.v (.int .i64 v1.op)), (.v (.int .i64 v1.hd)), (.v (.int .i64 v1.n)), (.v (.slice a2 ((Tm.encL v1.args).length) c2))])] [(.slice a2 ((Tm.encL v1.args).length) c2, .sl 4 (Tm.encL v1.args))] (fun r' out => r' = (.tup [(.v (.int .i64 r.1)), (.v (.int .i64 r.2.1)), (.v (.bool r.2.2))]) ∧ out = [])) := by
  intro N
  induction N with
  | zero =>
    intro n hn v1 a2 c2 r hr; obtain rfl : n = 0 := (by omega); exact no_some hr
  | succ N ih =>
    intro n hn v1 a2 c2 r hr
    rcases n with _ | n
    · exact no_some hr
    replace hn : n ≤ N := by omega
    rw [R04_Short.eq_2] at hr
    refine spec_of_body (N := 75) (m := 0) (dt := drawsOf [(14, .leaf [0, 1, 2, 3, 4, 5, 6, 7, 8, 9, 10, 11, 12], [], []), (15, .leaf [0, 1, 2, 3, 4, 5, 6], [], [])]) [] ttOK Tryz.func162 rfl Tryz.call162 Tryz.ntmps162 rfl rfl rfl mixed (by kernel_rfl) ?_
    refine AtLoop.mk ⟨Nat × Tm × Option Addr × Nat × Int, fun x => [(1, (.loc 0 0)), (5, (.v (.int .i64 x.2.2.2.2)))], fun x => ⟨[.cells 47 [(.v (.int .i64 x.2.1.op)), (.v (.int .i64 x.2.1.hd)), (.v (.int .i64 x.2.1.n)), (.v (.slice x.2.2.1 ((Tm.encL x.2.1.args).length) x.2.2.2.1))]], [], [(.slice x.2.2.1 ((Tm.encL x.2.1.args).length) x.2.2.2.1, .sl 4 (Tm.encL x.2.1.args)), (.slice a2 ((Tm.encL v1.args).length) c2, .sl 4 (Tm.encL v1.args))]⟩, fun x => x.1 ≤ N ∧ R04_Short_L1 x.1 x.2.1 x.2.2.2.2 = some r, fun x => x.1, (n, v1, a2, c2, 0), ⟨by omega, hr⟩, ⟨rfl, rfl, trivial⟩, (StLe.gen 1 [] [.old 0, .old 0] rfl rfl rfl rfl rfl rfl rfl), fun x _ => ⟨rfl, rfl⟩, ?_⟩
    rintro ⟨n, v9, a10, c10, v11⟩ HH
    obtain ⟨hn, hr⟩ : n ≤ N ∧ R04_Short_L1 n v9 v11 = some r := HH
    rcases n with _ | n
    · exact no_some hr
    rw [R04_Short_L1.eq_2] at hr
    refine AtIf.mk (fun h12 => ?_) (fun h12 => ?_)
    · replace hr := cond_t h12 hr
      obtain ⟨v13, h14, hr⟩ := bind_some hr
      obtain ⟨h15, h16⟩ := idx_some h14
      refine at_index ttOK 0 rfl rfl rfl rfl h15 (Tm.encL_get h16) ?_
      intro a17 c17 _ _
      exact ⟨(n, v13, a17, c17, (IntKind.i64.wrap (v11 + 1))), ⟨by omega, hr⟩, Nat.lt_succ_self _, ⟨rfl, rfl, trivial⟩, (StLe.gen 1 [] [.old 2, .old 1] rfl rfl rfl rfl rfl rfl rfl)⟩
    · replace hr := cond_f h12 hr
      refine AtIf.mk (fun h18 => ?_) (fun h18 => ?_)
      · replace hr := cond_t h18 hr
        replace hr := Option.some.inj hr
        subst hr
        exact AtRet.pureG [] [] rfl rfl ⟨rfl, rfl⟩
      · replace hr := cond_f h18 hr
        obtain ⟨q30, hq30⟩ : ∃ q, q = n := ⟨_, rfl⟩
        refine AtLoop.mk ⟨Nat × Int, fun x => [(1, (.loc 0 0)), (5, (.v (.int .i64 v11))), (6, (.v (.int .i64 x.2)))], fun x => ⟨[.cells 47 [(.v (.int .i64 v9.op)), (.v (.int .i64 v9.hd)), (.v (.int .i64 v9.n)), (.v (.slice a10 ((Tm.encL v9.args).length) c10))]], [], [(.slice a10 ((Tm.encL v9.args).length) c10, .sl 4 (Tm.encL v9.args)), (.slice a2 ((Tm.encL v1.args).length) c2, .sl 4 (Tm.encL v1.args))]⟩, fun x => x.1 ≤ N ∧ x.1 ≤ q30 ∧ R04_Short_L2 x.1 v11 v9 x.2 = some r, fun x => x.1, (n, 0), ⟨by omega, by omega, hr⟩, ⟨rfl, rfl, rfl, trivial⟩, (StLe.gen 1 [] [.old 0, .old 1] rfl rfl rfl rfl rfl rfl rfl), fun x _ => ⟨rfl, rfl⟩, ?_⟩
        rintro ⟨n, v29⟩ HH
        obtain ⟨hn, hbq30, hr⟩ : n ≤ N ∧ n ≤ q30 ∧ R04_Short_L2 n v11 v9 v29 = some r := HH
        rcases n with _ | n
        · exact no_some hr
        rw [R04_Short_L2.eq_2] at hr
        refine AtIf.mk (fun h31 => ?_) (fun h31 => ?_)
        · replace hr := cond_t h31 hr
          obtain ⟨v32, h33, hr⟩ := bind_some hr
          obtain ⟨h34, h35⟩ := idx_some h33
          refine at_index ttOK 0 rfl rfl rfl rfl h34 (Tm.encL_get h35) ?_
          intro a36 c36 _ _
          obtain ⟨v37, h38, hr⟩ := bind_some hr
          refine (ih n (by omega) v32 a36 c36 _ h38).atR [2] rfl rfl rfl ?_
          rintro _ _ ⟨rfl, rfl⟩
          refine AtIf.mk (fun h39 => ?_) (fun h39 => ?_)
          · replace hr := cond_t h39 hr
            replace hr := Option.some.inj hr
            subst hr
            exact AtRet.pureG [] [] rfl rfl ⟨rfl, rfl⟩
          · replace hr := cond_f h39 hr
            exact ⟨(n, (IntKind.i64.wrap (v29 + 1))), ⟨by omega, by omega, hr⟩, Nat.lt_succ_self _, ⟨rfl, rfl, rfl, trivial⟩, (StLe.gen 1 [] [.old 0, .old 1] rfl rfl rfl rfl rfl rfl rfl)⟩
        · replace hr := cond_f h31 hr
          refine AtIf.mk (fun h40 => ?_) (fun h40 => ?_)
          · replace hr := cond_t h40 hr
            replace hr := Option.some.inj hr
            subst hr
            exact AtRet.pureG [] [] rfl rfl ⟨rfl, rfl⟩
          · replace hr := cond_f h40 hr
            replace hr := Option.some.inj hr
            subst hr
            exact AtRet.pureG [] [] rfl rfl ⟨rfl, rfl⟩
theorem R04_Short_spec (n : Nat) (v1 : Tm) (a2 : Option Addr) (c2 : Nat) (r : Int × Int × Bool) (hr : R04_Short n v1 = some r) : Pure Tryz.prog (.val (.fn (.func 162) [] [])) [(.agg [(.v (.int .i64 v1.op)), (.v (.int .i64 v1.hd)), (.v (.int .i64 v1.n)), (.v (.slice a2 ((Tm.encL v1.args).length) c2))])] [(.slice a2 ((Tm.encL v1.args).length) c2, .sl 4 (Tm.encL v1.args))] (fun r' out => r' = (.tup [(.v (.int .i64 r.1)), (.v (.int .i64 r.2.1)), (.v (.bool r.2.2))]) ∧ out = []) := (R04_Short_specN n) n (Nat.le_refl _) v1 a2 c2 r hr
mutual
def R14_State_pattern : Nat → Sta → (List Tm) → Int → Option (Bool)
  | 0, _, _, _ => none
  | n + 1, v1, v4, v6 =>
    R14_State_pattern_L1 n v4 v6 v1 ([]) 0
def R14_State_pattern_L2 : Nat → (List Int) → (Int × Int × Bool) → Int → Sta → (List Tm) → Int → Int → Option (Bool)
  | 0, _, _, _, _, _, _, _ => none
  | n + 1, v86, v95, v88, v1, v4, v6, v112 =>
    cond (decide (v112 < ((List.map (D.int .i64) v86).length : Int))) (
    cond (decide (0 ≤ v112 ∧ (v112).toNat < (List.map (D.int .i64) v86).length)) (
    (v86[(v112).toNat]?).bind (fun v118 =>
    cond (v118 == v95.2.1) (
    some (false)) (
    R14_State_pattern_L2 n v86 v95 v88 v1 v4 v6 (IntKind.i64.wrap (v112 + 1))))) none) (
    cond (decide ((List.map (D.int .i64) (v86 ++ [v95.2.1])).length ≤ 1000000)) (
    R14_State_pattern_L1 n v4 v6 v1 (v86 ++ [v95.2.1]) (IntKind.i64.wrap (v88 + 1))) none)
def R14_State_pattern_L1 : Nat → (List Tm) → Int → Sta → (List Int) → Int → Option (Bool)
  | 0, _, _, _, _, _ => none
  | n + 1, v4, v6, v1, v86, v88 =>
    cond (decide (v88 < ((Tm.encL v4).length : Int))) (
    (idx v4 v88).bind (fun v90 =>
    (R04_Short n v90).bind (fun v95 =>
    cond ((!v95.2.2) || (v95.1 != 1)) (
    some (false)) (
    cond (decide (v95.2.1 ≥ v6)) (
    (idx v1.opn (IntKind.i64.wrap ((IntKind.i64.wrap (((List.map D.bool v1.opn).length : Int) - 1)) - (IntKind.i64.wrap (v95.2.1 - v6))))).bind (fun v99 =>
    cond v99 (
    some (false)) (
    R14_State_pattern_L2 n v86 v95 v88 v1 v4 v6 0))) (
    R14_State_pattern_L2 n v86 v95 v88 v1 v4 v6 0))))) (
    some (true))
 end
theorem R14_State_pattern_spec (n : Nat) (v1 : Sta) (v4 : (List Tm)) (v6 : Int) (a2 : Option Addr) (c2 : Nat) (a3 : Option Addr) (c3 : Nat) (a5 : Option Addr) (c5 : Nat) (r : Bool) (hr : R14_State_pattern n v1 v4 v6 = some r) : Pure Tryz.prog (.val (.fn (.func 117) [] [])) [(.agg [(.v (.slice a2 ((List.map D.bool v1.opn).length) c2)), (.v (.slice a3 ((List.map D.bool v1.known).length) c3))]), (.v (.slice a5 ((Tm.encL v4).length) c5)), (.v (.int .i64 v6))] [(.slice a2 ((List.map D.bool v1.opn).length) c2, .sl 1 (List.map D.bool v1.opn)), (.slice a3 ((List.map D.bool v1.known).length) c3, .sl 1 (List.map D.bool v1.known)), (.slice a5 ((Tm.encL v4).length) c5, .sl 4 (Tm.encL v4))] (fun r' out => r' = (.v (.bool r)) ∧ out = []) := by
  rcases n with _ | n
  · exact no_some hr
  rw [R14_State_pattern.eq_2] at hr
  refine spec_of_body (N := 69) (m := 0) (dt := fun _ => none) [] ttOK Tryz.func117 rfl Tryz.call117 Tryz.ntmps117 rfl rfl rfl mixed (by kernel_rfl) ?_
  refine AtLoop.mk ⟨Nat × (List Int) × Option Addr × Nat × Int, fun x => [(1, (.v (.slice a5 ((Tm.encL v4).length) c5))), (2, (.v (.int .i64 v6))), (3, (.loc 0 0)), (7, (.v (.slice x.2.2.1 ((List.map (D.int .i64) x.2.1).length) x.2.2.2.1))), (8, (.v (.int .i64 x.2.2.2.2)))], fun x => ⟨[.cells 103 [(.v (.slice a2 ((List.map D.bool v1.opn).length) c2)), (.v (.slice a3 ((List.map D.bool v1.known).length) c3))]], [⟨.slice x.2.2.1 ((List.map (D.int .i64) x.2.1).length) x.2.2.2.1, 1, 3, (List.map (D.int .i64) x.2.1)⟩], [(.slice a2 ((List.map D.bool v1.opn).length) c2, .sl 1 (List.map D.bool v1.opn)), (.slice a3 ((List.map D.bool v1.known).length) c3, .sl 1 (List.map D.bool v1.known)), (.slice a5 ((Tm.encL v4).length) c5, .sl 4 (Tm.encL v4))]⟩, fun x => R14_State_pattern_L1 x.1 v4 v6 v1 x.2.1 x.2.2.2.2 = some r, fun x => x.1, (n, [], none, 0, 0), hr, ⟨rfl, rfl, rfl, rfl, rfl, trivial⟩, (StLe.gen 1 [.nil 1 3] [.old 0, .old 1, .old 2] rfl rfl rfl rfl rfl rfl rfl), fun x _ => ⟨rfl, rfl⟩, ?_⟩
  rintro ⟨n, v86, a87, c87, v88⟩ HH
  have hr : R14_State_pattern_L1 n v4 v6 v1 v86 v88 = some r := HH
  rcases n with _ | n
  · exact no_some hr
  rw [R14_State_pattern_L1.eq_2] at hr
  refine AtIf.mk (fun h89 => ?_) (fun h89 => ?_)
  · replace hr := cond_t h89 hr
    obtain ⟨v90, h91, hr⟩ := bind_some hr
    obtain ⟨h92, h93⟩ := idx_some h91
    refine at_index ttOK 2 rfl rfl rfl rfl h92 (Tm.encL_get h93) ?_
    intro a94 c94 _ _
    obtain ⟨v95, h96, hr⟩ := bind_some hr
    refine (R04_Short_spec n v90 a94 c94 _ h96).atR [3] rfl rfl rfl ?_
    rintro _ _ ⟨rfl, rfl⟩
    refine AtGuard.mk (fun h97 => ?_) (fun h97 => ?_)
    · replace hr := cond_f h97 hr
      refine AtGuard.mk (fun h98 => ?_) (fun h98 => ?_)
      · replace hr := cond_t h98 hr
        obtain ⟨v99, h100, hr⟩ := bind_some hr
        obtain ⟨h101, h102⟩ := idx_some h100
        refine at_index ttOK 0 rfl rfl rfl rfl h101 (map_get D.bool h102) ?_
        refine AtIf.mk (fun h103 => ?_) (fun h103 => ?_)
        · replace hr := cond_t h103 hr
          replace hr := Option.some.inj hr
          subst hr
          exact AtRet.pureG [] [] rfl rfl ⟨rfl, rfl⟩
        · replace hr := cond_f h103 hr
          obtain ⟨q113, hq113⟩ : ∃ q, q = n := ⟨_, rfl⟩
          refine AtLoop.mk ⟨Nat × Int, fun x => [(1, (.v (.slice a5 ((Tm.encL v4).length) c5))), (2, (.v (.int .i64 v6))), (3, (.loc 0 0)), (7, (.v (.slice a87 ((List.map (D.int .i64) v86).length) c87))), (8, (.v (.int .i64 v88))), (10, (.v (.int .i64 v95.2.1))), (12, (.v (.int .i64 x.2))), (49, (.loc 2 0)), (50, (.v (.bool v99))), (51, (.v (.bool v99)))], fun x => ⟨[.cells 103 [(.v (.slice a2 ((List.map D.bool v1.opn).length) c2)), (.v (.slice a3 ((List.map D.bool v1.known).length) c3))], .imm [(.v (.int .i64 v90.op)), (.v (.int .i64 v90.hd)), (.v (.int .i64 v90.n)), (.v (.slice a94 ((Tm.encL v90.args).length) c94))], .imm [(.v (.bool v99))]], [⟨.slice a87 ((List.map (D.int .i64) v86).length) c87, 1, 3, (List.map (D.int .i64) v86)⟩], [(.slice a2 ((List.map D.bool v1.opn).length) c2, .sl 1 (List.map D.bool v1.opn)), (.slice a3 ((List.map D.bool v1.known).length) c3, .sl 1 (List.map D.bool v1.known)), (.slice a5 ((Tm.encL v4).length) c5, .sl 4 (Tm.encL v4)), (.slice a94 ((Tm.encL v90.args).length) c94, .sl 4 (Tm.encL v90.args))]⟩, fun x => x.1 ≤ q113 ∧ R14_State_pattern_L2 x.1 v86 v95 v88 v1 v4 v6 x.2 = some r, fun x => x.1, (n, 0), ⟨by omega, hr⟩, ⟨rfl, rfl, rfl, rfl, rfl, rfl, rfl, rfl, rfl, rfl, trivial⟩, (StLe.gen 3 [.old 0] [.old 0, .old 1, .old 2, .old 3] rfl rfl rfl rfl rfl rfl rfl), fun x _ => ⟨rfl, rfl⟩, ?_⟩
          rintro ⟨n, v112⟩ HH
          obtain ⟨hbq113, hr⟩ : n ≤ q113 ∧ R14_State_pattern_L2 n v86 v95 v88 v1 v4 v6 v112 = some r := HH
          rcases n with _ | n
          · exact no_some hr
          rw [R14_State_pattern_L2.eq_2] at hr
          refine AtIf.mk (fun h114 => ?_) (fun h114 => ?_)
          · replace hr := cond_t h114 hr
            obtain ⟨h115, hr⟩ := cond_need hr
            refine at_index_accG ttOK 0 rfl rfl rfl rfl h115 ?_
            intro b116 h117
            subst h117
            obtain ⟨v118, h119, hr⟩ := bind_some hr
            refine at_load_accG ttOK 0 rfl (map_get (D.int .i64) h119) rfl (.inl ⟨_, rfl⟩) rfl ?_
            refine AtIf.mk (fun h120 => ?_) (fun h120 => ?_)
            · replace hr := cond_t h120 hr
              replace hr := Option.some.inj hr
              subst hr
              exact AtRet.pureG [] [] rfl rfl ⟨rfl, rfl⟩
            · replace hr := cond_f h120 hr
              exact ⟨(n, (IntKind.i64.wrap (v112 + 1))), ⟨by omega, hr⟩, Nat.lt_succ_self _, ⟨rfl, rfl, rfl, rfl, rfl, rfl, rfl, rfl, rfl, rfl, trivial⟩, (StLe.gen 3 [.old 0] [.old 0, .old 1, .old 2, .old 3] rfl rfl rfl rfl rfl rfl rfl)⟩
          · replace hr := cond_f h114 hr
            refine at_buildG (n := 1) ttOK 8 [.int .i64 v95.2.1] (ds' := (List.map (D.int .i64) ([v95.2.1]))) rfl (by kernel_rfl) ⟨⟨rfl, rfl, rfl, rfl⟩, trivial⟩ rfl rfl (by decide) (by decide) ?_
            intro a121
            obtain ⟨h122, hr⟩ := cond_need hr
            refine at_appendG (ds' := (List.map (D.int .i64) (v86 ++ [v95.2.1]))) ttOK 8 0 4 rfl (by kernel_rfl) rfl rfl rfl rfl (by simp only [List.map_append]) h122 (by decide) ?_
            intro a123 c123
            exact ⟨(n, (v86 ++ [v95.2.1]), a123, c123, (IntKind.i64.wrap (v88 + 1))), hr, (by simp only; omega), ⟨rfl, rfl, rfl, rfl, rfl, trivial⟩, (StLe.gen 1 [.old 0] [.old 0, .old 1, .old 2] rfl rfl rfl rfl rfl rfl rfl)⟩
      · replace hr := cond_f h98 hr
        refine AtIf.mk (fun h => ff h) (fun _ => ?_)
        obtain ⟨q134, hq134⟩ : ∃ q, q = n := ⟨_, rfl⟩
        refine AtLoop.mk ⟨Nat × Int, fun x => [(1, (.v (.slice a5 ((Tm.encL v4).length) c5))), (2, (.v (.int .i64 v6))), (3, (.loc 0 0)), (7, (.v (.slice a87 ((List.map (D.int .i64) v86).length) c87))), (8, (.v (.int .i64 v88))), (10, (.v (.int .i64 v95.2.1))), (12, (.v (.int .i64 x.2))), (51, (.v (.bool false)))], fun x => ⟨[.cells 103 [(.v (.slice a2 ((List.map D.bool v1.opn).length) c2)), (.v (.slice a3 ((List.map D.bool v1.known).length) c3))], .imm [(.v (.int .i64 v90.op)), (.v (.int .i64 v90.hd)), (.v (.int .i64 v90.n)), (.v (.slice a94 ((Tm.encL v90.args).length) c94))]], [⟨.slice a87 ((List.map (D.int .i64) v86).length) c87, 1, 3, (List.map (D.int .i64) v86)⟩], [(.slice a2 ((List.map D.bool v1.opn).length) c2, .sl 1 (List.map D.bool v1.opn)), (.slice a3 ((List.map D.bool v1.known).length) c3, .sl 1 (List.map D.bool v1.known)), (.slice a5 ((Tm.encL v4).length) c5, .sl 4 (Tm.encL v4)), (.slice a94 ((Tm.encL v90.args).length) c94, .sl 4 (Tm.encL v90.args))]⟩, fun x => x.1 ≤ q134 ∧ R14_State_pattern_L2 x.1 v86 v95 v88 v1 v4 v6 x.2 = some r, fun x => x.1, (n, 0), ⟨by omega, hr⟩, ⟨rfl, rfl, rfl, rfl, rfl, rfl, rfl, rfl, trivial⟩, (StLe.gen 2 [.old 0] [.old 0, .old 1, .old 2, .old 3] rfl rfl rfl rfl rfl rfl rfl), fun x _ => ⟨rfl, rfl⟩, ?_⟩
        rintro ⟨n, v133⟩ HH
        obtain ⟨hbq134, hr⟩ : n ≤ q134 ∧ R14_State_pattern_L2 n v86 v95 v88 v1 v4 v6 v133 = some r := HH
        rcases n with _ | n
        · exact no_some hr
        rw [R14_State_pattern_L2.eq_2] at hr
        refine AtIf.mk (fun h135 => ?_) (fun h135 => ?_)
        · replace hr := cond_t h135 hr
          obtain ⟨h136, hr⟩ := cond_need hr
          refine at_index_accG ttOK 0 rfl rfl rfl rfl h136 ?_
          intro b137 h138
          subst h138
          obtain ⟨v139, h140, hr⟩ := bind_some hr
          refine at_load_accG ttOK 0 rfl (map_get (D.int .i64) h140) rfl (.inl ⟨_, rfl⟩) rfl ?_
          refine AtIf.mk (fun h141 => ?_) (fun h141 => ?_)
          · replace hr := cond_t h141 hr
            replace hr := Option.some.inj hr
            subst hr
            exact AtRet.pureG [] [] rfl rfl ⟨rfl, rfl⟩
          · replace hr := cond_f h141 hr
            exact ⟨(n, (IntKind.i64.wrap (v133 + 1))), ⟨by omega, hr⟩, Nat.lt_succ_self _, ⟨rfl, rfl, rfl, rfl, rfl, rfl, rfl, rfl, trivial⟩, (StLe.gen 2 [.old 0] [.old 0, .old 1, .old 2, .old 3] rfl rfl rfl rfl rfl rfl rfl)⟩
        · replace hr := cond_f h135 hr
          refine at_buildG (n := 1) ttOK 8 [.int .i64 v95.2.1] (ds' := (List.map (D.int .i64) ([v95.2.1]))) rfl (by kernel_rfl) ⟨⟨rfl, rfl, rfl, rfl⟩, trivial⟩ rfl rfl (by decide) (by decide) ?_
          intro a142
          obtain ⟨h143, hr⟩ := cond_need hr
          refine at_appendG (ds' := (List.map (D.int .i64) (v86 ++ [v95.2.1]))) ttOK 8 0 4 rfl (by kernel_rfl) rfl rfl rfl rfl (by simp only [List.map_append]) h143 (by decide) ?_
          intro a144 c144
          exact ⟨(n, (v86 ++ [v95.2.1]), a144, c144, (IntKind.i64.wrap (v88 + 1))), hr, (by simp only; omega), ⟨rfl, rfl, rfl, rfl, rfl, trivial⟩, (StLe.gen 1 [.old 0] [.old 0, .old 1, .old 2] rfl rfl rfl rfl rfl rfl rfl)⟩
    · replace hr := cond_t h97 hr
      refine AtIf.mk (fun _ => ?_) (fun h => tf h)
      replace hr := Option.some.inj hr
      subst hr
      exact AtRet.pureG [] [] rfl rfl ⟨rfl, rfl⟩
  · replace hr := cond_f h89 hr
    replace hr := Option.some.inj hr
    subst hr
    exact AtRet.pureG [] [] rfl rfl ⟨rfl, rfl⟩
mutual
def R14_State_strict : Nat → Sta → Tm → Int → (List Bool) → Option ((List Bool))
  | 0, _, _, _, _ => none
  | n + 1, v1, v4, v6, v7 =>
    cond (v4.op == 3) (
    (idx v4.args 0).bind (fun v10 =>
    (R14_State_strict n v1 v10 (IntKind.i64.wrap (v6 + 1)) v7).bind (fun v15 =>
    cond (decide (v15.length = v7.length)) (
    some (v15)) none))) (
    cond (v4.op == 2) (
    (idx v4.args 0).bind (fun v22 =>
    (R14_State_strict n v1 v22 v6 v7).bind (fun v27 =>
    (idx v4.args 1).bind (fun v32 =>
    (R14_State_strict n v1 v32 (IntKind.i64.wrap (v6 + 1)) v27).bind (fun v37 =>
    cond (decide (v37.length = v7.length)) (
    some (v37)) none))))) (
    cond (((v4.op == 4) && (v4.hd == 1)) && (decide (v4.n ≥ v6))) (
    (idx v1.opn (IntKind.i64.wrap ((IntKind.i64.wrap (((List.map D.bool v1.opn).length : Int) - 1)) - (IntKind.i64.wrap (v4.n - v6))))).bind (fun v44 =>
    cond v44 (
    (R14_State_pattern n v1 v4.args v6).bind (fun v49 =>
    cond v49 (
    cond (decide (0 ≤ (IntKind.i64.wrap ((IntKind.i64.wrap (((List.map D.bool v1.opn).length : Int) - 1)) - (IntKind.i64.wrap (v4.n - v6)))) ∧ ((IntKind.i64.wrap ((IntKind.i64.wrap (((List.map D.bool v1.opn).length : Int) - 1)) - (IntKind.i64.wrap (v4.n - v6))))).toNat < (List.map D.bool v7).length)) (
    cond (decide ((v7.set (((IntKind.i64.wrap ((IntKind.i64.wrap (((List.map D.bool v1.opn).length : Int) - 1)) - (IntKind.i64.wrap (v4.n - v6))))).toNat) true).length = v7.length)) (
    some ((v7.set (((IntKind.i64.wrap ((IntKind.i64.wrap (((List.map D.bool v1.opn).length : Int) - 1)) - (IntKind.i64.wrap (v4.n - v6))))).toNat) true))) none) none) (
    cond (decide (v7.length = v7.length)) (
    some (v7)) none))) (
    R14_State_strict_L1 n v4 v1 v6 v7 v7 0))) (
    R14_State_strict_L1 n v4 v1 v6 v7 v7 0)))
def R14_State_strict_L1 : Nat → Tm → Sta → Int → (List Bool) → (List Bool) → Int → Option ((List Bool))
  | 0, _, _, _, _, _, _ => none
  | n + 1, v4, v1, v6, v7, v70, v71 =>
    cond (decide (v71 < ((Tm.encL v4.args).length : Int))) (
    (idx v4.args v71).bind (fun v73 =>
    (R14_State_strict n v1 v73 v6 v70).bind (fun v78 =>
    R14_State_strict_L1 n v4 v1 v6 v7 v78 (IntKind.i64.wrap (v71 + 1))))) (
    cond (decide (v70.length = v7.length)) (
    some (v70)) none)
 end
theorem R14_State_strict_specN : ∀ (N : Nat), (∀ (n : Nat), n ≤ N → ∀ (v1 : Sta) (v4 : Tm) (v6 : Int) (v7 : (List Bool)) (a2 : Option Addr) (c2 : Nat) (a3 : Option Addr) (c3 : Nat) (a5 : Option Addr) (c5 : Nat) (a8 : Option Addr) (c8 : Nat) (r : (List Bool)), R14_State_strict n v1 v4 v6 v7 = some r → Meets Tryz.prog (.val (.fn (.func 73) [] [])) [(.agg [(.v (.slice a2 ((List.map D.bool v1.opn).length) c2)), (.v (.slice a3 ((List.map D.bool v1.known).length) c3))]), (.agg [(.v (.int .i64 v4.op)), (.v (.int .i64 v4.hd)), (.v (.int .i64 v4.n)), (.v (.slice a5 ((Tm.encL v4.args).length) c5))]), (.v (.int .i64 v6)), (.v (.slice a8 ((List.map D.bool v7).length) c8))] ⟨[], [⟨.slice a8 ((List.map D.bool v7).length) c8, 1, 4, (List.map D.bool v7)⟩], [(.slice a2 ((List.map D.bool v1.opn).length) c2, .sl 1 (List.map D.bool v1.opn)), (.slice a3 ((List.map D.bool v1.known).length) c3, .sl 1 (List.map D.bool v1.known)), (.slice a5 ((Tm.encL v4.args).length) c5, .sl 4 (Tm.encL v4.args))]⟩ (fun o S' => r.length = v7.length ∧ o = .ret (.tup []) ∧ S' = ⟨[], [⟨.slice a8 ((List.map D.bool r).length) c8, 1, 4, (List.map D.bool r)⟩], []⟩)) := by
  intro N
  induction N with
  | zero =>
    intro n hn v1 v4 v6 v7 a2 c2 a3 c3 a5 c5 a8 c8 r hr; obtain rfl : n = 0 := (by omega); exact no_some hr
  | succ N ih =>
    intro n hn v1 v4 v6 v7 a2 c2 a3 c3 a5 c5 a8 c8 r hr
    rcases n with _ | n
    · exact no_some hr
    replace hn : n ≤ N := by omega
    rw [R14_State_strict.eq_2] at hr
    refine spec_of_body (N := 105) (m := 0) (dt := drawsOf [(2, .node [0, 1, 2, 3, 4, 5, 6, 7] [(8, .leaf [])], [8], []), (4, .node [0, 1, 2, 3, 4, 5, 6] [(7, .leaf [])], [7], []), (5, .node [0, 1, 2, 3, 4, 5, 6, 7] [(8, .leaf [])], [8], []), (12, .node [0, 1, 2, 3, 4, 5, 6, 7] [(8, .leaf [])], [8], [])]) [] ttOK Tryz.func73 rfl Tryz.call73 Tryz.ntmps73 rfl rfl rfl mixed (by kernel_rfl) ?_
    refine AtIf.mk (fun h9 => ?_) (fun h9 => ?_)
    · replace hr := cond_t h9 hr
      obtain ⟨v10, h11, hr⟩ := bind_some hr
      obtain ⟨h12, h13⟩ := idx_some h11
      refine at_index ttOK 2 rfl rfl rfl rfl h12 (Tm.encL_get h13) ?_
      intro a14 c14 _ _
      obtain ⟨v15, h16, hr⟩ := bind_some hr
      refine (ih n (by omega) v1 v10 (IntKind.i64.wrap (v6 + 1)) v7 a2 c2 a3 c3 a14 c14 a8 c8 _ h16).frameRA [] [0] [0, 1, 3] rfl rfl rfl rfl rfl rfl rfl rfl rfl ?_
      rintro _ _ ⟨h17, rfl, rfl⟩
      refine ⟨rfl, [], rfl, ?_⟩
      try dsimp only
      rw [show (List.map D.bool v15).length = (List.map D.bool v7).length by simp [h17]]
      obtain ⟨m18, h19⟩ : ∃ m18, m18 = (List.map D.bool v7).length := ⟨_, rfl⟩
      rw [← h19]
      obtain rfl : m18 = (List.map D.bool v15).length := by rw [h19]; simp [h17]
      obtain ⟨h20, hr⟩ := cond_need hr
      replace hr := Option.some.inj hr
      subst hr
      exact AtRet.gen ⟨[], [⟨.slice a8 ((List.map D.bool v15).length) c8, 1, 4, (List.map D.bool v15)⟩], []⟩ (StLe.gen 0 [.old 0] [] rfl rfl rfl rfl rfl rfl rfl) rfl rfl ⟨of_decide_eq_true h20, rfl, rfl⟩
    · replace hr := cond_f h9 hr
      refine AtIf.mk (fun h21 => ?_) (fun h21 => ?_)
      · replace hr := cond_t h21 hr
        obtain ⟨v22, h23, hr⟩ := bind_some hr
        obtain ⟨h24, h25⟩ := idx_some h23
        refine at_index ttOK 2 rfl rfl rfl rfl h24 (Tm.encL_get h25) ?_
        intro a26 c26 _ _
        obtain ⟨v27, h28, hr⟩ := bind_some hr
        refine (ih n (by omega) v1 v22 v6 v7 a2 c2 a3 c3 a26 c26 a8 c8 _ h28).frameRA [] [0] [0, 1, 3] rfl rfl rfl rfl rfl rfl rfl rfl rfl ?_
        rintro _ _ ⟨h29, rfl, rfl⟩
        refine ⟨rfl, [], rfl, ?_⟩
        try dsimp only
        rw [show (List.map D.bool v27).length = (List.map D.bool v7).length by simp [h29]]
        obtain ⟨m30, h31⟩ : ∃ m30, m30 = (List.map D.bool v7).length := ⟨_, rfl⟩
        rw [← h31]
        obtain ⟨v32, h33, hr⟩ := bind_some hr
        obtain ⟨h34, h35⟩ := idx_some h33
        refine at_index ttOK 2 rfl rfl rfl rfl h34 (Tm.encL_get h35) ?_
        intro a36 c36 _ _
        obtain ⟨v37, h38, hr⟩ := bind_some hr
        obtain rfl : m30 = (List.map D.bool v27).length := by rw [h31]; simp [h29]
        refine (ih n (by omega) v1 v32 (IntKind.i64.wrap (v6 + 1)) v27 a2 c2 a3 c3 a36 c36 a8 c8 _ h38).frameRA [] [0] [0, 1, 4] rfl rfl rfl rfl rfl rfl rfl rfl rfl ?_
        rintro _ _ ⟨h39, rfl, rfl⟩
        refine ⟨rfl, [], rfl, ?_⟩
        try dsimp only
        rw [show (List.map D.bool v37).length = (List.map D.bool v27).length by simp [h39]]
        obtain ⟨m40, h41⟩ : ∃ m40, m40 = (List.map D.bool v27).length := ⟨_, rfl⟩
        rw [← h41]
        obtain rfl : m40 = (List.map D.bool v37).length := by rw [h41]; simp [h39]
        obtain ⟨h42, hr⟩ := cond_need hr
        replace hr := Option.some.inj hr
        subst hr
        exact AtRet.gen ⟨[], [⟨.slice a8 ((List.map D.bool v37).length) c8, 1, 4, (List.map D.bool v37)⟩], []⟩ (StLe.gen 0 [.old 0] [] rfl rfl rfl rfl rfl rfl rfl) rfl rfl ⟨of_decide_eq_true h42, rfl, rfl⟩
      · replace hr := cond_f h21 hr
        refine AtGuard.mk (fun h43 => ?_) (fun h43 => ?_)
        · replace hr := cond_t h43 hr
          obtain ⟨v44, h45, hr⟩ := bind_some hr
          obtain ⟨h46, h47⟩ := idx_some h45
          refine at_index ttOK 0 rfl rfl rfl rfl h46 (map_get D.bool h47) ?_
          refine AtIf.mk (fun h48 => ?_) (fun h48 => ?_)
          · replace hr := cond_t h48 hr
            obtain ⟨v49, h50, hr⟩ := bind_some hr
            refine (R14_State_pattern_spec n v1 v4.args v6 a2 c2 a3 c3 a5 c5 _ h50).atR [0, 1, 2] rfl rfl rfl ?_
            rintro _ _ ⟨rfl, rfl⟩
            refine AtIf.mk (fun h51 => ?_) (fun h51 => ?_)
            · replace hr := cond_t h51 hr
              obtain ⟨h52, hr⟩ := cond_need hr
              refine at_index_accG ttOK 0 rfl rfl rfl rfl h52 ?_
              intro b53 h54
              subst h54
              obtain ⟨m55, h56⟩ : ∃ m55, m55 = (List.map D.bool v7).length := ⟨_, rfl⟩
              try dsimp only
              rw [← h56]
              refine at_store_accG (ds' := List.map D.bool (v7.set (((IntKind.i64.wrap ((IntKind.i64.wrap (((List.map D.bool v1.opn).length : Int) - 1)) - (IntKind.i64.wrap (v4.n - v6))))).toNat) true)) ttOK 0 rfl (by simpa using (of_decide_eq_true h52).2) rfl (.inl ⟨_, rfl⟩) rfl rfl (map_set' ..) ?_
              obtain rfl : m55 = (List.map D.bool (v7.set (((IntKind.i64.wrap ((IntKind.i64.wrap (((List.map D.bool v1.opn).length : Int) - 1)) - (IntKind.i64.wrap (v4.n - v6))))).toNat) true)).length := by rw [h56]; simp
              obtain ⟨h57, hr⟩ := cond_need hr
              replace hr := Option.some.inj hr
              subst hr
              exact AtRet.gen ⟨[], [⟨.slice (some ⟨b53, 0, none⟩) ((List.map D.bool (v7.set (((IntKind.i64.wrap ((IntKind.i64.wrap (((List.map D.bool v1.opn).length : Int) - 1)) - (IntKind.i64.wrap (v4.n - v6))))).toNat) true)).length) c8, 1, 4, (List.map D.bool (v7.set (((IntKind.i64.wrap ((IntKind.i64.wrap (((List.map D.bool v1.opn).length : Int) - 1)) - (IntKind.i64.wrap (v4.n - v6))))).toNat) true))⟩], []⟩ (StLe.gen 0 [.old 0] [] rfl rfl rfl rfl rfl rfl rfl) rfl rfl ⟨of_decide_eq_true h57, rfl, rfl⟩
            · replace hr := cond_f h51 hr
              obtain ⟨h58, hr⟩ := cond_need hr
              replace hr := Option.some.inj hr
              subst hr
              exact AtRet.gen ⟨[], [⟨.slice a8 ((List.map D.bool v7).length) c8, 1, 4, (List.map D.bool v7)⟩], []⟩ (StLe.gen 0 [.old 0] [] rfl rfl rfl rfl rfl rfl rfl) rfl rfl ⟨of_decide_eq_true h58, rfl, rfl⟩
          · replace hr := cond_f h48 hr
            refine AtLoop.mk ⟨Nat × (List Bool) × Int, fun x => [(2, (.v (.int .i64 v6))), (3, (.v (.slice a8 ((List.map D.bool x.2.1).length) c8))), (4, (.loc 0 0)), (5, (.loc 1 0)), (8, (.v (.int .i64 x.2.2)))], fun x => ⟨[.cells 103 [(.v (.slice a2 ((List.map D.bool v1.opn).length) c2)), (.v (.slice a3 ((List.map D.bool v1.known).length) c3))], .cells 47 [(.v (.int .i64 v4.op)), (.v (.int .i64 v4.hd)), (.v (.int .i64 v4.n)), (.v (.slice a5 ((Tm.encL v4.args).length) c5))], .imm [(.v (.bool v44))]], [⟨.slice a8 ((List.map D.bool x.2.1).length) c8, 1, 4, (List.map D.bool x.2.1)⟩], [(.slice a2 ((List.map D.bool v1.opn).length) c2, .sl 1 (List.map D.bool v1.opn)), (.slice a3 ((List.map D.bool v1.known).length) c3, .sl 1 (List.map D.bool v1.known)), (.slice a5 ((Tm.encL v4.args).length) c5, .sl 4 (Tm.encL v4.args))]⟩, fun x => x.1 ≤ N ∧ R14_State_strict_L1 x.1 v4 v1 v6 v7 x.2.1 x.2.2 = some r, fun x => x.1, (n, v7, 0), ⟨by omega, hr⟩, ⟨rfl, rfl, rfl, rfl, rfl, trivial⟩, (StLe.gen 3 [.old 0] [.old 0, .old 1, .old 2] rfl rfl rfl rfl rfl rfl rfl), fun x _ => ⟨rfl, rfl⟩, ?_⟩
            rintro ⟨n, v70, v71⟩ HH
            obtain ⟨hn, hr⟩ : n ≤ N ∧ R14_State_strict_L1 n v4 v1 v6 v7 v70 v71 = some r := HH
            rcases n with _ | n
            · exact no_some hr
            rw [R14_State_strict_L1.eq_2] at hr
            refine AtIf.mk (fun h72 => ?_) (fun h72 => ?_)
            · replace hr := cond_t h72 hr
              obtain ⟨v73, h74, hr⟩ := bind_some hr
              obtain ⟨h75, h76⟩ := idx_some h74
              refine at_index ttOK 2 rfl rfl rfl rfl h75 (Tm.encL_get h76) ?_
              intro a77 c77 _ _
              obtain ⟨v78, h79, hr⟩ := bind_some hr
              refine (ih n (by omega) v1 v73 v6 v70 a2 c2 a3 c3 a77 c77 a8 c8 _ h79).frameRA [] [0] [0, 1, 3] rfl rfl rfl rfl rfl rfl rfl rfl rfl ?_
              rintro _ _ ⟨h80, rfl, rfl⟩
              refine ⟨rfl, [], rfl, ?_⟩
              try dsimp only
              rw [show (List.map D.bool v78).length = (List.map D.bool v70).length by simp [h80]]
              obtain ⟨m81, h82⟩ : ∃ m81, m81 = (List.map D.bool v70).length := ⟨_, rfl⟩
              rw [← h82]
              obtain rfl : m81 = (List.map D.bool v78).length := by rw [h82]; simp [h80]
              exact ⟨(n, v78, (IntKind.i64.wrap (v71 + 1))), ⟨by omega, hr⟩, Nat.lt_succ_self _, ⟨rfl, rfl, rfl, rfl, rfl, trivial⟩, (StLe.gen 3 [.old 0] [.old 0, .old 1, .old 2] rfl rfl rfl rfl rfl rfl rfl)⟩
            · replace hr := cond_f h72 hr
              obtain ⟨h83, hr⟩ := cond_need hr
              replace hr := Option.some.inj hr
              subst hr
              exact AtRet.gen ⟨[], [⟨.slice a8 ((List.map D.bool v70).length) c8, 1, 4, (List.map D.bool v70)⟩], []⟩ (StLe.gen 0 [.old 0] [] rfl rfl rfl rfl rfl rfl rfl) rfl rfl ⟨of_decide_eq_true h83, rfl, rfl⟩
        · replace hr := cond_f h43 hr
          refine AtIf.mk (fun h => ff h) (fun _ => ?_)
          refine AtLoop.mk ⟨Nat × (List Bool) × Int, fun x => [(2, (.v (.int .i64 v6))), (3, (.v (.slice a8 ((List.map D.bool x.2.1).length) c8))), (4, (.loc 0 0)), (5, (.loc 1 0)), (8, (.v (.int .i64 x.2.2)))], fun x => ⟨[.cells 103 [(.v (.slice a2 ((List.map D.bool v1.opn).length) c2)), (.v (.slice a3 ((List.map D.bool v1.known).length) c3))], .cells 47 [(.v (.int .i64 v4.op)), (.v (.int .i64 v4.hd)), (.v (.int .i64 v4.n)), (.v (.slice a5 ((Tm.encL v4.args).length) c5))]], [⟨.slice a8 ((List.map D.bool x.2.1).length) c8, 1, 4, (List.map D.bool x.2.1)⟩], [(.slice a2 ((List.map D.bool v1.opn).length) c2, .sl 1 (List.map D.bool v1.opn)), (.slice a3 ((List.map D.bool v1.known).length) c3, .sl 1 (List.map D.bool v1.known)), (.slice a5 ((Tm.encL v4.args).length) c5, .sl 4 (Tm.encL v4.args))]⟩, fun x => x.1 ≤ N ∧ R14_State_strict_L1 x.1 v4 v1 v6 v7 x.2.1 x.2.2 = some r, fun x => x.1, (n, v7, 0), ⟨by omega, hr⟩, ⟨rfl, rfl, rfl, rfl, rfl, trivial⟩, (StLe.gen 2 [.old 0] [.old 0, .old 1, .old 2] rfl rfl rfl rfl rfl rfl rfl), fun x _ => ⟨rfl, rfl⟩, ?_⟩
          rintro ⟨n, v95, v96⟩ HH
          obtain ⟨hn, hr⟩ : n ≤ N ∧ R14_State_strict_L1 n v4 v1 v6 v7 v95 v96 = some r := HH
          rcases n with _ | n
          · exact no_some hr
          rw [R14_State_strict_L1.eq_2] at hr
          refine AtIf.mk (fun h97 => ?_) (fun h97 => ?_)
          · replace hr := cond_t h97 hr
            obtain ⟨v98, h99, hr⟩ := bind_some hr
            obtain ⟨h100, h101⟩ := idx_some h99
            refine at_index ttOK 2 rfl rfl rfl rfl h100 (Tm.encL_get h101) ?_
            intro a102 c102 _ _
            obtain ⟨v103, h104, hr⟩ := bind_some hr
            refine (ih n (by omega) v1 v98 v6 v95 a2 c2 a3 c3 a102 c102 a8 c8 _ h104).frameRA [] [0] [0, 1, 3] rfl rfl rfl rfl rfl rfl rfl rfl rfl ?_
            rintro _ _ ⟨h105, rfl, rfl⟩
            refine ⟨rfl, [], rfl, ?_⟩
            try dsimp only
            rw [show (List.map D.bool v103).length = (List.map D.bool v95).length by simp [h105]]
            obtain ⟨m106, h107⟩ : ∃ m106, m106 = (List.map D.bool v95).length := ⟨_, rfl⟩
            rw [← h107]
            obtain rfl : m106 = (List.map D.bool v103).length := by rw [h107]; simp [h105]
            exact ⟨(n, v103, (IntKind.i64.wrap (v96 + 1))), ⟨by omega, hr⟩, Nat.lt_succ_self _, ⟨rfl, rfl, rfl, rfl, rfl, trivial⟩, (StLe.gen 2 [.old 0] [.old 0, .old 1, .old 2] rfl rfl rfl rfl rfl rfl rfl)⟩
          · replace hr := cond_f h97 hr
            obtain ⟨h108, hr⟩ := cond_need hr
            replace hr := Option.some.inj hr
            subst hr
            exact AtRet.gen ⟨[], [⟨.slice a8 ((List.map D.bool v95).length) c8, 1, 4, (List.map D.bool v95)⟩], []⟩ (StLe.gen 0 [.old 0] [] rfl rfl rfl rfl rfl rfl rfl) rfl rfl ⟨of_decide_eq_true h108, rfl, rfl⟩
theorem R14_State_strict_spec (n : Nat) (v1 : Sta) (v4 : Tm) (v6 : Int) (v7 : (List Bool)) (a2 : Option Addr) (c2 : Nat) (a3 : Option Addr) (c3 : Nat) (a5 : Option Addr) (c5 : Nat) (a8 : Option Addr) (c8 : Nat) (r : (List Bool)) (hr : R14_State_strict n v1 v4 v6 v7 = some r) : Meets Tryz.prog (.val (.fn (.func 73) [] [])) [(.agg [(.v (.slice a2 ((List.map D.bool v1.opn).length) c2)), (.v (.slice a3 ((List.map D.bool v1.known).length) c3))]), (.agg [(.v (.int .i64 v4.op)), (.v (.int .i64 v4.hd)), (.v (.int .i64 v4.n)), (.v (.slice a5 ((Tm.encL v4.args).length) c5))]), (.v (.int .i64 v6)), (.v (.slice a8 ((List.map D.bool v7).length) c8))] ⟨[], [⟨.slice a8 ((List.map D.bool v7).length) c8, 1, 4, (List.map D.bool v7)⟩], [(.slice a2 ((List.map D.bool v1.opn).length) c2, .sl 1 (List.map D.bool v1.opn)), (.slice a3 ((List.map D.bool v1.known).length) c3, .sl 1 (List.map D.bool v1.known)), (.slice a5 ((Tm.encL v4.args).length) c5, .sl 4 (Tm.encL v4.args))]⟩ (fun o S' => r.length = v7.length ∧ o = .ret (.tup []) ∧ S' = ⟨[], [⟨.slice a8 ((List.map D.bool r).length) c8, 1, 4, (List.map D.bool r)⟩], []⟩) := (R14_State_strict_specN n) n (Nat.le_refl _) v1 v4 v6 v7 a2 c2 a3 c3 a5 c5 a8 c8 r hr
mutual
def R14_Strict : Nat → Tm → Int → Option ((List Int))
  | 0, _, _ => none
  | n + 1, v1, v3 =>
    (R03_Free n v1).bind (fun v4 =>
    R14_Strict_L1 n v4 v3 v1 v3 0)
def R14_Strict_L3 : Nat → Int → (List Bool) → (List Int) → Int → Option ((List Int))
  | 0, _, _, _, _ => none
  | n + 1, v12, v37, v53, v55 =>
    cond (decide (v55 < v12)) (
    cond (decide (0 ≤ (IntKind.i64.wrap ((IntKind.i64.wrap (v12 - 1)) - v55)) ∧ ((IntKind.i64.wrap ((IntKind.i64.wrap (v12 - 1)) - v55))).toNat < (List.map D.bool v37).length)) (
    (v37[((IntKind.i64.wrap ((IntKind.i64.wrap (v12 - 1)) - v55))).toNat]?).bind (fun v61 =>
    cond v61 (
    cond (decide ((List.map (D.int .i64) (v53 ++ [v55])).length ≤ 1000000)) (
    R14_Strict_L3 n v12 v37 (v53 ++ [v55]) (IntKind.i64.wrap (v55 + 1))) none) (
    R14_Strict_L3 n v12 v37 v53 (IntKind.i64.wrap (v55 + 1))))) none) (
    some (v53))
def R14_Strict_L2 : Nat → Int → Int → Tm → Sta → Int → Option ((List Int))
  | 0, _, _, _, _, _ => none
  | n + 1, v3, v12, v1, v25, v28 =>
    cond (decide (v28 ≥ 0)) (
    (R14_State_With n v25 (decide (v28 ≥ v3))).bind (fun v31 =>
    R14_Strict_L2 n v3 v12 v1 v31 (IntKind.i64.wrap (v28 - 1)))) (
    cond (decide ((0 : Int) ≤ v12 ∧ (v12 : Int) ≤ 1000000)) (
    (R14_State_strict n v25 v1 0 (List.replicate (v12).toNat false)).bind (fun v37 =>
    R14_Strict_L3 n v12 v37 ([]) 0)) none)
def R14_Strict_L1 : Nat → (List Int) → Int → Tm → Int → Int → Option ((List Int))
  | 0, _, _, _, _, _ => none
  | n + 1, v4, v3, v1, v12, v13 =>
    cond (decide (v13 < ((List.map (D.int .i64) v4).length : Int))) (
    (idx v4 v13).bind (fun v15 =>
    R14_Strict_L1 n v4 v3 v1 (if (IntKind.i64.wrap (v15 + 1)) > v12 then (IntKind.i64.wrap (v15 + 1)) else v12) (IntKind.i64.wrap (v13 + 1)))) (
    R14_Strict_L2 n v3 v12 v1 (Sta.mk ([]) ([])) (IntKind.i64.wrap (v12 - 1)))
 end
theorem R14_Strict_spec (n : Nat) (v1 : Tm) (v3 : Int) (a2 : Option Addr) (c2 : Nat) (r : (List Int)) (hr : R14_Strict n v1 v3 = some r) : Pure Tryz.prog (.val (.fn (.func 27) [] [])) [(.agg [(.v (.int .i64 v1.op)), (.v (.int .i64 v1.hd)), (.v (.int .i64 v1.n)), (.v (.slice a2 ((Tm.encL v1.args).length) c2))]), (.v (.int .i64 v3))] [(.slice a2 ((Tm.encL v1.args).length) c2, .sl 4 (Tm.encL v1.args))] (fun r' out => ∃ (b1 : Option Addr) (d1 : Nat), r' = (.v (.slice b1 ((List.map (D.int .i64) r).length) d1)) ∧ out = [(.slice b1 ((List.map (D.int .i64) r).length) d1, .sl 1 (List.map (D.int .i64) r))]) := by
  rcases n with _ | n
  · exact no_some hr
  rw [R14_Strict.eq_2] at hr
  refine spec_of_body (N := 64) (m := 0) (dt := fun _ => none) [] ttOK Tryz.func27 rfl Tryz.call27 Tryz.ntmps27 rfl rfl rfl mixed (by kernel_rfl) ?_
  obtain ⟨v4, h5, hr⟩ := bind_some hr
  refine (R03_Free_spec n v1 a2 c2 _ h5).atR [0] rfl rfl rfl ?_
  rintro _ _ ⟨a6, c6, rfl, rfl⟩
  refine AtLoop.mk ⟨Nat × Int × Int, fun x => [(1, (.v (.int .i64 v3))), (2, (.loc 0 0)), (5, (.v (.slice a6 ((List.map (D.int .i64) v4).length) c6))), (6, (.v (.int .i64 x.2.1))), (7, (.v (.int .i64 x.2.2)))], fun x => ⟨[.cells 47 [(.v (.int .i64 v1.op)), (.v (.int .i64 v1.hd)), (.v (.int .i64 v1.n)), (.v (.slice a2 ((Tm.encL v1.args).length) c2))]], [], [(.slice a2 ((Tm.encL v1.args).length) c2, .sl 4 (Tm.encL v1.args)), (.slice a6 ((List.map (D.int .i64) v4).length) c6, .sl 1 (List.map (D.int .i64) v4))]⟩, fun x => R14_Strict_L1 x.1 v4 v3 v1 x.2.1 x.2.2 = some r, fun x => x.1, (n, v3, 0), hr, ⟨rfl, rfl, rfl, rfl, rfl, trivial⟩, (StLe.gen 1 [] [.old 0, .old 1] rfl rfl rfl rfl rfl rfl rfl), fun x _ => ⟨rfl, rfl⟩, ?_⟩
  rintro ⟨n, v12, v13⟩ HH
  have hr : R14_Strict_L1 n v4 v3 v1 v12 v13 = some r := HH
  rcases n with _ | n
  · exact no_some hr
  rw [R14_Strict_L1.eq_2] at hr
  refine AtIf.mk (fun h14 => ?_) (fun h14 => ?_)
  · replace hr := cond_t h14 hr
    obtain ⟨v15, h16, hr⟩ := bind_some hr
    obtain ⟨h17, h18⟩ := idx_some h16
    refine at_index ttOK 1 rfl rfl rfl rfl h17 (map_get (D.int .i64) h18) ?_
    refine at_max ?_
    exact ⟨(n, (if (IntKind.i64.wrap (v15 + 1)) > v12 then (IntKind.i64.wrap (v15 + 1)) else v12), (IntKind.i64.wrap (v13 + 1))), hr, Nat.lt_succ_self _, ⟨rfl, rfl, rfl, rfl, rfl, trivial⟩, (StLe.gen 1 [] [.old 0, .old 1] rfl rfl rfl rfl rfl rfl rfl)⟩
  · replace hr := cond_f h14 hr
    obtain ⟨q29, hq29⟩ : ∃ q, q = n := ⟨_, rfl⟩
    refine AtLoop.mk ⟨Nat × Sta × Option Addr × Nat × Option Addr × Nat × Int, fun x => [(1, (.v (.int .i64 v3))), (2, (.loc 0 0)), (6, (.v (.int .i64 v12))), (8, (.loc 1 0)), (9, (.v (.int .i64 x.2.2.2.2.2.2)))], fun x => ⟨[.cells 47 [(.v (.int .i64 v1.op)), (.v (.int .i64 v1.hd)), (.v (.int .i64 v1.n)), (.v (.slice a2 ((Tm.encL v1.args).length) c2))], .cells 103 [(.v (.slice x.2.2.1 ((List.map D.bool x.2.1.opn).length) x.2.2.2.1)), (.v (.slice x.2.2.2.2.1 ((List.map D.bool x.2.1.known).length) x.2.2.2.2.2.1))]], [], [(.slice x.2.2.1 ((List.map D.bool x.2.1.opn).length) x.2.2.2.1, .sl 1 (List.map D.bool x.2.1.opn)), (.slice x.2.2.2.2.1 ((List.map D.bool x.2.1.known).length) x.2.2.2.2.2.1, .sl 1 (List.map D.bool x.2.1.known)), (.slice a2 ((Tm.encL v1.args).length) c2, .sl 4 (Tm.encL v1.args)), (.slice a6 ((List.map (D.int .i64) v4).length) c6, .sl 1 (List.map (D.int .i64) v4))]⟩, fun x => x.1 ≤ q29 ∧ R14_Strict_L2 x.1 v3 v12 v1 x.2.1 x.2.2.2.2.2.2 = some r, fun x => x.1, (n, (Sta.mk ([]) ([])), none, 0, none, 0, (IntKind.i64.wrap (v12 - 1))), ⟨by omega, hr⟩, ⟨rfl, rfl, rfl, rfl, rfl, trivial⟩, (StLe.gen 2 [] [.nil 1, .nil 1, .old 0, .old 1] rfl rfl rfl rfl rfl rfl rfl), fun x _ => ⟨rfl, rfl⟩, ?_⟩
    rintro ⟨n, v25, a26, c26, a27, c27, v28⟩ HH
    obtain ⟨hbq29, hr⟩ : n ≤ q29 ∧ R14_Strict_L2 n v3 v12 v1 v25 v28 = some r := HH
    rcases n with _ | n
    · exact no_some hr
    rw [R14_Strict_L2.eq_2] at hr
    refine AtIf.mk (fun h30 => ?_) (fun h30 => ?_)
    · replace hr := cond_t h30 hr
      obtain ⟨v31, h32, hr⟩ := bind_some hr
      refine (R14_State_With_spec n v25 (decide (v28 ≥ v3)) a26 c26 a27 c27 _ h32).atR [0, 1] rfl rfl rfl ?_
      rintro _ _ ⟨a33, c33, a34, c34, rfl, rfl⟩
      exact ⟨(n, v31, a33, c33, a34, c34, (IntKind.i64.wrap (v28 - 1))), ⟨by omega, hr⟩, Nat.lt_succ_self _, ⟨rfl, rfl, rfl, rfl, rfl, trivial⟩, (StLe.gen 2 [] [.old 4, .old 5, .old 2, .old 3] rfl rfl rfl rfl rfl rfl rfl)⟩
    · replace hr := cond_f h30 hr
      obtain ⟨h35, hr⟩ := cond_need hr
      refine at_makeSliceG (ds' := (List.map D.bool (List.replicate (v12).toNat false))) (d := .bool false) ttOK rfl ⟨_, rfl, rfl, rfl, by decide⟩ rfl rfl rfl (of_decide_eq_true h35) (List.map_replicate ..) ?_
      intro a36
      obtain ⟨v37, h38, hr⟩ := bind_some hr
      refine (R14_State_strict_spec n v25 v1 0 (List.replicate (v12).toNat false) a26 c26 a27 c27 a2 c2 a36 ((v12).toNat) _ h38).frameRA [] [0] [0, 1, 2] rfl rfl rfl rfl rfl rfl rfl rfl rfl ?_
      rintro _ _ ⟨h39, rfl, rfl⟩
      refine ⟨rfl, [], rfl, ?_⟩
      try dsimp only
      rw [show (List.map D.bool v37).length = (List.map D.bool (List.replicate (v12).toNat false)).length by simp [h39]]
      obtain ⟨m40, h41⟩ : ∃ m40, m40 = (List.map D.bool (List.replicate (v12).toNat false)).length := ⟨_, rfl⟩
      rw [← h41]
      obtain rfl : m40 = (List.map D.bool v37).length := by rw [h41]; simp [h39]
      obtain ⟨q56, hq56⟩ : ∃ q, q = n := ⟨_, rfl⟩
      refine AtLoop.mk ⟨Nat × (List Int) × Option Addr × Nat × Int, fun x => [(6, (.v (.int .i64 v12))), (10, (.v (.slice a36 ((List.map D.bool v37).length) ((v12).toNat)))), (11, (.v (.slice x.2.2.1 ((List.map (D.int .i64) x.2.1).length) x.2.2.2.1))), (12, (.v (.int .i64 x.2.2.2.2)))], fun x => ⟨[.cells 47 [(.v (.int .i64 v1.op)), (.v (.int .i64 v1.hd)), (.v (.int .i64 v1.n)), (.v (.slice a2 ((Tm.encL v1.args).length) c2))], .cells 103 [(.v (.slice a26 ((List.map D.bool v25.opn).length) c26)), (.v (.slice a27 ((List.map D.bool v25.known).length) c27))]], [⟨.slice x.2.2.1 ((List.map (D.int .i64) x.2.1).length) x.2.2.2.1, 1, 3, (List.map (D.int .i64) x.2.1)⟩, ⟨.slice a36 ((List.map D.bool v37).length) ((v12).toNat), 1, 4, (List.map D.bool v37)⟩], [(.slice a26 ((List.map D.bool v25.opn).length) c26, .sl 1 (List.map D.bool v25.opn)), (.slice a27 ((List.map D.bool v25.known).length) c27, .sl 1 (List.map D.bool v25.known)), (.slice a2 ((Tm.encL v1.args).length) c2, .sl 4 (Tm.encL v1.args)), (.slice a6 ((List.map (D.int .i64) v4).length) c6, .sl 1 (List.map (D.int .i64) v4))]⟩, fun x => x.1 ≤ q56 ∧ R14_Strict_L3 x.1 v12 v37 x.2.1 x.2.2.2.2 = some r, fun x => x.1, (n, [], none, 0, 0), ⟨by omega, hr⟩, ⟨rfl, rfl, rfl, rfl, trivial⟩, (StLe.gen 2 [.nil 1 3, .old 0] [.old 0, .old 1, .old 2, .old 3] rfl rfl rfl rfl rfl rfl rfl), fun x _ => ⟨rfl, rfl⟩, ?_⟩
      rintro ⟨n, v53, a54, c54, v55⟩ HH
      obtain ⟨hbq56, hr⟩ : n ≤ q56 ∧ R14_Strict_L3 n v12 v37 v53 v55 = some r := HH
      rcases n with _ | n
      · exact no_some hr
      rw [R14_Strict_L3.eq_2] at hr
      refine AtIf.mk (fun h57 => ?_) (fun h57 => ?_)
      · replace hr := cond_t h57 hr
        obtain ⟨h58, hr⟩ := cond_need hr
        refine at_index_accG ttOK 1 rfl rfl rfl rfl h58 ?_
        intro b59 h60
        subst h60
        obtain ⟨v61, h62, hr⟩ := bind_some hr
        refine at_load_accG ttOK 1 rfl (map_get D.bool h62) rfl (.inl ⟨_, rfl⟩) rfl ?_
        refine AtIf.mk (fun h63 => ?_) (fun h63 => ?_)
        · replace hr := cond_t h63 hr
          refine at_buildG (n := 1) ttOK 8 [.int .i64 v55] (ds' := (List.map (D.int .i64) ([v55]))) rfl (by kernel_rfl) ⟨⟨rfl, rfl, rfl, rfl⟩, trivial⟩ rfl rfl (by decide) (by decide) ?_
          intro a64
          obtain ⟨h65, hr⟩ := cond_need hr
          refine at_appendG (ds' := (List.map (D.int .i64) (v53 ++ [v55]))) ttOK 8 0 4 rfl (by kernel_rfl) rfl rfl rfl rfl (by simp only [List.map_append]) h65 (by decide) ?_
          intro a66 c66
          exact ⟨(n, (v53 ++ [v55]), a66, c66, (IntKind.i64.wrap (v55 + 1))), ⟨by omega, hr⟩, Nat.lt_succ_self _, ⟨rfl, rfl, rfl, rfl, trivial⟩, (StLe.gen 2 [.old 0, .old 1] [.old 0, .old 1, .old 2, .old 3] rfl rfl rfl rfl rfl rfl rfl)⟩
        · replace hr := cond_f h63 hr
          exact ⟨(n, v53, a54, c54, (IntKind.i64.wrap (v55 + 1))), ⟨by omega, hr⟩, Nat.lt_succ_self _, ⟨rfl, rfl, rfl, rfl, trivial⟩, (StLe.gen 2 [.old 0, .old 1] [.old 0, .old 1, .old 2, .old 3] rfl rfl rfl rfl rfl rfl rfl)⟩
      · replace hr := cond_f h57 hr
        replace hr := Option.some.inj hr
        subst hr
        exact AtRet.pureG [.froz 0] [(.slice a54 ((List.map (D.int .i64) v53).length) c54, .sl 1 (List.map (D.int .i64) v53))] rfl rfl ⟨a54, c54, rfl, rfl⟩
end Go.Proofs.YtogicnodmgdnbaaGreat
end

/-! EvA -/
section
namespace Go.Proofs.YtogicnodmgdnbaaGreat
open Go.Tr Go
set_option linter.unusedVariables false

theorem wrapS {i : Nat} (h : i < 2000000000000000000) : IntKind.i64.wrap ((i : Int) + 1) = ((i + 1 : Nat) : Int) := by
  rw [wrap_i64 (by omega) (by omega)]; omega

/-- f yields something, given fuel enough. -/
def Tot {α : Type} (f : Nat → Option α) : Prop := ∃ r, Ev f r
theorem Ev.tot {α : Type} {f : Nat → Option α} {r : α} (h : Ev f r) : Tot f := ⟨r, h⟩
/-- f yields something of which p holds. -/
def Yields {α : Type} (f : Nat → Option α) (p : α → Prop) : Prop := ∃ r, Ev f r ∧ p r
theorem Yields.succ {α : Type} {f g : Nat → Option α} {p : α → Prop} (hf : ∀ n, f (n + 1) = g n) (h : Yields g p) : Yields f p := by
  obtain ⟨r, h1, h2⟩ := h; exact ⟨r, h1.succ hf, h2⟩
theorem Yields.bind {α β : Type} {f : Nat → Option α} {g : Nat → α → Option β} {q : α → Prop} {p : β → Prop} (h : Yields f q) (k : ∀ x, q x → Yields (fun n => g n x) p) : Yields (fun n => (f n).bind (g n)) p := by
  obtain ⟨x, h1, h2⟩ := h
  obtain ⟨r, h3, h4⟩ := k x h2
  exact ⟨r, h1.bind h3, h4⟩
theorem Yields.pure {α : Type} {p : α → Prop} {r : α} (h : p r) : Yields (fun _ => some r) p := ⟨r, Ev.pure r, h⟩
theorem Yields.ite {α : Type} {b : Bool} {f g : Nat → Option α} {p : α → Prop} (h : b = true → Yields f p) (k : b = false → Yields g p) : Yields (fun n => cond b (f n) (g n)) p := by
  cases b with
  | true => exact h rfl
  | false => exact k rfl
theorem Yields.need {α : Type} {b : Bool} {f : Nat → Option α} {p : α → Prop} (hb : b = true) (h : Yields f p) : Yields (fun n => cond b (f n) none) p := by
  subst hb; exact h
theorem Yields.some {α β : Type} {o : Option α} {x : α} {g : Nat → α → Option β} {p : β → Prop} (ho : o = Option.some x) (k : Yields (fun n => g n x) p) : Yields (fun n => o.bind (g n)) p := by
  subst ho; exact k
theorem Yields.mono {α : Type} {f : Nat → Option α} {p q : α → Prop} (h : Yields f p) (k : ∀ r, p r → q r) : Yields f q := by
  obtain ⟨r, h1, h2⟩ := h; exact ⟨r, h1, k r h2⟩
theorem Ev.yields {α : Type} {f : Nat → Option α} {r : α} {p : α → Prop} (h : Ev f r) (hp : p r) : Yields f p := ⟨r, h, hp⟩
theorem Yields.ev {α : Type} {f : Nat → Option α} {r : α} (h : Yields f (· = r)) : Ev f r := by
  obtain ⟨r', h1, rfl⟩ := h; exact h1
theorem Ev.some {α β : Type} {o : Option α} {x : α} {g : Nat → α → Option β} {r : β} (ho : o = Option.some x) (k : Ev (fun n => g n x) r) : Ev (fun n => o.bind (g n)) r := by
  subst ho; exact k
theorem Ev.need {α : Type} {b : Bool} {f : Nat → Option α} {r : α} (hb : b = true) (h : Ev f r) : Ev (fun n => cond b (f n) none) r := by
  subst hb; exact h

theorem idx_get {α : Type} {l : List α} {i : Nat} {x : α} (h : l[i]? = Option.some x) : idx l (i : Int) = Option.some x := by rw [idx_nat, h]
end Go.Proofs.YtogicnodmgdnbaaGreat
end

/-! EvB -/
section
namespace Go.Proofs.YtogicnodmgdnbaaGreat
open Go.Tr Go
set_option linter.unusedVariables false
set_option maxRecDepth 10000

theorem okAll_two {t : Tm} (h : okAll t = true) (ho : t.op = 2) : ∃ a b, t.args = [a, b] ∧ okAll a = true ∧ okAll b = true ∧ a.height + 1 ≤ t.height ∧ b.height + 1 ≤ t.height ∧ a.count + b.count + 1 = t.count := by
  cases t with
  | mk o hd n us =>
    simp only [Tm.op] at ho
    subst ho
    simp only [okAll, okNode, Bool.and_eq_true] at h
    have h1 : us.length = 2 := by have := h.1; simp at this; exact this.2
    match us, h1 with
    | [a, b], _ =>
      simp only [okAllL, Bool.and_eq_true] at h
      refine ⟨a, b, rfl, h.2.1, h.2.2.1, ?_, ?_, ?_⟩
      · simp only [Tm.height, Tm.heightL]; omega
      · simp only [Tm.height, Tm.heightL]; omega
      · simp only [Tm.count, Tm.countL]; omega

theorem okAll_one {t : Tm} (h : okAll t = true) (ho : t.op = 3) : ∃ a, t.args = [a] ∧ okAll a = true ∧ a.height + 1 ≤ t.height ∧ a.count + 1 = t.count := by
  cases t with
  | mk o hd n us =>
    simp only [Tm.op] at ho
    subst ho
    simp only [okAll, okNode, Bool.and_eq_true] at h
    have h1 : us.length = 1 := by have := h.1; simp at this; exact this.2
    match us, h1 with
    | [a], _ =>
      simp only [okAllL, Bool.and_eq_true] at h
      refine ⟨a, rfl, h.2.1, ?_, ?_⟩
      · simp only [Tm.height, Tm.heightL]; omega
      · simp only [Tm.count, Tm.countL]

/-- The domains of the outermost TPis, behind some that were there, and what is within. -/
def spl : Nat → Tm → List Tm → List Tm × Tm
  | 0, t, l => (l, t)
  | n + 1, t, l => if t.op = 2 then match t.args with
    | a :: b :: _ => spl n b (l ++ [a])
    | _ => (l, t)
    else (l, t)
def split (t : Tm) : List Tm × Tm := spl t.height t []

theorem Tm.length_le_countL : ∀ (us : List Tm), us.length ≤ Tm.countL us
  | [] => Nat.le_refl _
  | u :: us => by have := Tm.length_le_countL us; have := Tm.count_pos u; simp only [List.length_cons, Tm.countL]; omega

/-! what stands at the nodes -/

theorem under_ev (t : Tm) (i : Int) : Ev (fun k => term_Under k t i) (under t.op i) := by
  refine Ev.succ (fun k => term_Under.eq_2 ..) ?_
  by_cases h : t.op = 3 ∨ t.op = 2 ∧ i = 1
  · rw [under, if_pos h]
    exact Ev.t (by simpa using h) (Ev.pure _)
  · rw [under, if_neg h]
    exact Ev.f (by simpa using h) (Ev.pure _)

end Go.Proofs.YtogicnodmgdnbaaGreat
end

/-! EvC -/
section
namespace Go.Proofs.YtogicnodmgdnbaaGreat
open Go.Tr Go
set_option linter.unusedVariables false
set_option linter.unusedSimpArgs false
set_option maxRecDepth 10000





theorem refFree_ev {t : Tm} (hh : t.height ≤ 1000000) (hc : t.count ≤ 1000000) : Ev (fun k => R03_Free k t) (headsF 1 t 0 []) := by
  refine Ev.succ (fun k => R03_Free.eq_2 ..) ?_
  exact Ev.need (by simp; omega) (Ev.pure _)
/-- A class proper, and small. -/
theorem proper_small {t : Tm} (h : isProper t = true) : okAll t = true ∧ t.height ≤ 40 ∧ t.count ≤ 600 := by
  have := (isProper_iff t).1 h
  exact ⟨this.1, this.2.2, this.2.1⟩

end Go.Proofs.YtogicnodmgdnbaaGreat
end

/-! EvK -/
section
namespace Go.Proofs.YtogicnodmgdnbaaGreat
open Go.Tr Go
set_option linter.unusedVariables false
set_option linter.unusedSimpArgs false
set_option maxRecDepth 10000

abbrev Pr (t : Tm) : Prop := isProper t = true
theorem pr_arg {t u : Tm} (h : Pr t) (hu : u ∈ t.args) : Pr u := by
  obtain ⟨hok, hh, hc⟩ := proper_small h
  rw [Pr, isProper_iff]
  have h1 := Tm.height_le hu
  rw [Tm.height_eq] at hh
  rw [Tm.count_eq] at hc
  have h2 : u.count ≤ Tm.countL t.args := by
    have : ∀ (us : List Tm), u ∈ us → u.count ≤ Tm.countL us := by
      intro us
      induction us with
      | nil => intro h; cases h
      | cons v us ih =>
        intro h
        simp only [Tm.countL]
        rcases List.mem_cons.1 h with e | e
        · subst e; omega
        · have := ih e; omega
    exact this _ hu
  exact ⟨okAll_arg hok hu, by omega, by omega⟩
theorem pr_len {t : Tm} (h : Pr t) : t.args.length ≤ 600 := by
  obtain ⟨hok, hh, hc⟩ := proper_small h
  have := Tm.length_le_countL t.args
  rw [Tm.count_eq] at hc
  omega
theorem pr_n {t : Tm} (h : Pr t) : 0 ≤ t.n ∧ t.n ≤ 9999 := okAll_n (proper_small h).1
end Go.Proofs.YtogicnodmgdnbaaGreat
end

/-! EvL -/
section
namespace Go.Proofs.YtogicnodmgdnbaaGreat
open Go.Tr Go
set_option linter.unusedVariables false
set_option linter.unusedSimpArgs false
set_option maxRecDepth 10000

theorem Sm.ind {motive : Sm → Prop} (h : ∀ t, (∀ x ∈ t.args, motive x) → motive t) (t : Sm) : motive t := by
  induction t using Sm.rec (motive_2 := fun ts => ∀ x ∈ ts, motive x) with
  | nil => rename_i x hx; cases hx
  | cons t ts ih1 ih2 => rename_i x hx; rcases List.mem_cons.1 hx with e | e; (subst e; exact ih1); exact ih2 x e
  | mk args con ih => exact h _ ih

section
variable (sig : List Dc) (hsig : ∀ x ∈ sig, Pr x.cls)
include hsig

omit hsig in
end

/-! sizes of any terms whose lists are short -/

end Go.Proofs.YtogicnodmgdnbaaGreat
end

/-! EvP -/
section
namespace Go.Proofs.YtogicnodmgdnbaaGreat
open Go.Tr Go
set_option linter.unusedVariables false
set_option linter.unusedSimpArgs false
set_option maxRecDepth 10000

theorem idxOf {α : Type} {l : List α} {i : Nat} (h : i < l.length) : ∃ x, idx l (i : Int) = some x ∧ x ∈ l ∧ l[i]? = some x :=
  ⟨l[i], by rw [idx_nat]; exact List.getElem?_eq_getElem h, List.getElem_mem h, List.getElem?_eq_getElem h⟩
theorem getDrop {α : Type} {l : List α} {i : Nat} {u : α} {ts : List α} (hd : l.drop i = u :: ts) : l[i]? = some u := by
  have := congrArg (fun l => l[0]?) hd
  simpa using this
theorem dropDrop {α : Type} {l : List α} {i : Nat} {u : α} {ts : List α} (hd : l.drop i = u :: ts) : l.drop (i + 1) = ts := by
  rw [← List.drop_drop, hd]; rfl

theorem index_y (l : List Int) (v : Int) (hl : l.length ≤ 1000000) : ∀ (ts : List Int) (i : Nat), l.drop i = ts → i + ts.length = l.length → Yields (fun n => slices_Index_L1 n l v (i : Int)) (fun r => decide (r ≥ 0) = ts.any (fun x => v == x))
  | [], i, hd, hi => by
    refine Yields.succ (fun k => slices_Index_L1.eq_2 ..) ?_
    simp only [List.length_nil, Nat.add_zero] at hi
    refine Yields.ite (fun h => by exfalso; simp [hi] at h) (fun _ => Yields.pure rfl)
  | x :: ts, i, hd, hi => by
    refine Yields.succ (fun k => slices_Index_L1.eq_2 ..) ?_
    simp only [List.length_cons] at hi
    refine Yields.ite (fun _ => ?_) (fun h => by exfalso; simp at h; omega)
    refine Yields.some (idx_get (getDrop hd)) ?_
    refine Yields.ite (fun h => ?_) (fun h => ?_)
    · refine Yields.pure ?_
      simp only [List.any_cons, h, Bool.true_or]
      simp
    · simp only [List.any_cons, h, Bool.false_or]
      rw [wrapS (by omega)]
      exact index_y l v hl ts (i + 1) (dropDrop hd) (by omega)

theorem contains_ev (l : List Int) (v : Int) (hl : l.length ≤ 1000000) : Ev (fun n => slices_Contains n l v) (l.any (fun x => v == x)) := by
  refine Yields.ev ?_
  refine Yields.succ (fun k => slices_Contains.eq_2 ..) ?_
  refine Yields.bind (q := fun r => decide (r ≥ 0) = l.any (fun x => v == x)) ?_ (fun r hr => Yields.pure hr)
  refine Yields.succ (fun k => slices_Index.eq_2 ..) ?_
  exact index_y l v hl l 0 rfl (by simp)

/-! raw expressions -/
end Go.Proofs.YtogicnodmgdnbaaGreat
end

/-! EvQ -/
section
namespace Go.Proofs.YtogicnodmgdnbaaGreat
open Go.Tr Go
set_option linter.unusedVariables false
set_option linter.unusedSimpArgs false
set_option maxRecDepth 10000

/-! a name in a signature -/
/-! metavariables -/
end Go.Proofs.YtogicnodmgdnbaaGreat
end

/-! EvR -/
section
namespace Go.Proofs.YtogicnodmgdnbaaGreat
open Go.Tr Go
set_option linter.unusedVariables false
set_option linter.unusedSimpArgs false
set_option maxRecDepth 10000


/-! moved terms -/

end Go.Proofs.YtogicnodmgdnbaaGreat
end

/-! MoA -/
section
namespace Go.Proofs.YtogicnodmgdnbaaGreat
open Go.Tr Go
set_option linter.unusedVariables false
set_option linter.unusedSimpArgs false
set_option maxRecDepth 10000

set_option maxRecDepth 100000 in
theorem awake14_at (m : Nat) : W14_awake (m + 60) = some true := by kernel_rfl
theorem awake14_ev : Ev (fun k => W14_awake k) true := ⟨60, fun n hn => by
  obtain ⟨m, rfl⟩ : ∃ m, n = m + 60 := ⟨n - 60, by omega⟩
  exact awake14_at m⟩
end Go.Proofs.YtogicnodmgdnbaaGreat
end

/-! MoB -/
section
namespace Go.Proofs.YtogicnodmgdnbaaGreat
open Go.Tr Go
set_option linter.unusedVariables false
set_option linter.unusedSimpArgs false
set_option maxRecDepth 10000

/-! which domains are depended on: only how many there are counts -/
end Go.Proofs.YtogicnodmgdnbaaGreat
end

/-! StA -/
section
namespace Go.Proofs.YtogicnodmgdnbaaGreat
open Go.Tr Go
set_option linter.unusedVariables false
set_option linter.unusedSimpArgs false
set_option maxRecDepth 10000

mutual
/-- The head of which a term is a long form, within k binders. -/
def shF : Tm → Int → Option (Int × Int)
  | .mk o h n us, k => if o = 3 then shLam us (k + 1) else if o = 4 ∧ (us.length : Int) = k ∧ ¬(h = 1 ∧ n < k) ∧ shArgs us k 0 = true then some (h, if h = 1 then n - k else n) else none
def shLam : List Tm → Int → Option (Int × Int)
  | [], _ => none
  | u :: us, k => shF u k
def shArgs : List Tm → Int → Int → Bool
  | [], _, _ => true
  | u :: us, k, i => (shF u 0 == some (1, k - 1 - i)) && shArgs us k (i + 1)
 end

/-- Whether arguments are long forms of different variables that are bound, or fixed. -/
def patF (opn : Int → Bool) (b : Int) : List Int → List Tm → Bool
  | _, [] => true
  | seen, x :: xs => match shF x 0 with
    | some (h, n) => (h == 1) && (!(seen.any (fun y => n == y)) && (!(decide (n ≥ b) && opn (n - b)) && patF opn b (seen ++ [n]) xs))
    | none => false

mutual
/-- The strict variables, as they stand. -/
def strF (opn : Int → Bool) : Tm → Int → List Int
  | .mk o h n us, b => if o = 4 ∧ h = 1 ∧ n ≥ b ∧ opn (n - b) = true then (if patF opn b [] us = true then [n - b] else []) else strL opn o us 0 b
def strL (opn : Int → Bool) : Int → List Tm → Nat → Int → List Int
  | _, [], _, _ => []
  | o, u :: us, i, b => strF opn u (b + under o i) ++ strL opn o us (i + 1) b
 end

mutual
/-- Other numbers for the free variables. -/
def renF (ρ : Int → Int) : Tm → Int → Tm
  | .mk o h n us, b => .mk o h (if o = 4 ∧ h = 1 ∧ n ≥ b then ρ (n - b) + b else n) (renL ρ o us 0 b)
def renL (ρ : Int → Int) : Int → List Tm → Nat → Int → List Tm
  | _, [], _, _ => []
  | o, u :: us, i, b => renF ρ u (b + under o i) :: renL ρ o us (i + 1) b
 end

theorem renL_length (ρ : Int → Int) : ∀ (o : Int) (us : List Tm) (i : Nat) (b : Int), (renL ρ o us i b).length = us.length
  | _, [], _, _ => rfl
  | o, u :: us, i, b => by simp only [renL, List.length_cons, renL_length ρ o us]

mutual
theorem ren_count (ρ : Int → Int) : ∀ (t : Tm) (b : Int), (renF ρ t b).count = t.count
  | .mk o h n us, b => by simp only [renF, Tm.count, ren_countL ρ o us]
theorem ren_countL (ρ : Int → Int) : ∀ (o : Int) (us : List Tm) (i : Nat) (b : Int), Tm.countL (renL ρ o us i b) = Tm.countL us
  | _, [], _, _ => rfl
  | o, u :: us, i, b => by simp only [renL, Tm.countL, ren_count ρ u, ren_countL ρ o us]
 end
mutual
theorem ren_height (ρ : Int → Int) : ∀ (t : Tm) (b : Int), (renF ρ t b).height = t.height
  | .mk o h n us, b => by simp only [renF, Tm.height, ren_heightL ρ o us]
theorem ren_heightL (ρ : Int → Int) : ∀ (o : Int) (us : List Tm) (i : Nat) (b : Int), Tm.heightL (renL ρ o us i b) = Tm.heightL us
  | _, [], _, _ => rfl
  | o, u :: us, i, b => by simp only [renL, Tm.heightL, ren_height ρ u, ren_heightL ρ o us]
 end
mutual
theorem ren_ok {ρ : Int → Int} (hρ : ∀ v, 0 ≤ v → 0 ≤ ρ v ∧ ρ v ≤ 5000) : ∀ (t : Tm) (b : Int), 0 ≤ b → b + t.height ≤ 4000 → okAll t = true → okAll (renF ρ t b) = true
  | .mk o h n us, b, hb, hh, hok => by
    simp only [okAll, Bool.and_eq_true] at hok
    simp only [Tm.height] at hh
    simp only [renF, okAll, Bool.and_eq_true]
    refine ⟨?_, ren_okL hρ o us 0 b hb (by omega) hok.2⟩
    rw [renL_length]
    by_cases h1 : o = 4 ∧ h = 1 ∧ n ≥ b
    · rw [if_pos h1]
      obtain ⟨e1, e2, e3⟩ := h1
      subst e1 e2
      have := hρ (n - b) (by omega)
      simp [okNode]
      omega
    · rw [if_neg h1]; exact hok.1
theorem ren_okL {ρ : Int → Int} (hρ : ∀ v, 0 ≤ v → 0 ≤ ρ v ∧ ρ v ≤ 5000) : ∀ (o : Int) (us : List Tm) (i : Nat) (b : Int), 0 ≤ b → b + Tm.heightL us + 1 ≤ 4000 → okAllL us = true → okAllL (renL ρ o us i b) = true
  | _, [], _, _, _, _, _ => rfl
  | o, u :: us, i, b, hb, hh, hok => by
    have hu := under_le o i
    simp only [Tm.heightL] at hh
    simp only [okAllL, Bool.and_eq_true] at hok
    simp only [renL, okAllL, Bool.and_eq_true]
    exact ⟨ren_ok hρ u _ (by omega) (by omega) hok.1, ren_okL hρ o us (i + 1) b hb (by omega) hok.2⟩
 end

/-! long forms with other numbers -/
def rnN (ρ : Int → Int) (b : Int) (q : Int × Int) : Int × Int := (q.1, if q.1 = 1 ∧ q.2 ≥ b then ρ (q.2 - b) + b else q.2)
theorem rnN_bound {ρ : Int → Int} (hρ : ∀ v, 0 ≤ v → 0 ≤ ρ v ∧ ρ v ≤ 5000) {b m : Int} (hm : m < b) (q : Int × Int) : rnN ρ b q = (1, m) ↔ q = (1, m) := by
  obtain ⟨h, n⟩ := q
  unfold rnN
  simp only [Prod.mk.injEq]
  by_cases h1 : h = 1 ∧ n ≥ b
  · rw [if_pos h1]
    have := hρ (n - b) (by omega)
    constructor
    · rintro ⟨_, e⟩; omega
    · rintro ⟨_, e⟩; omega
  · rw [if_neg h1]

mutual
theorem sh_ren {ρ : Int → Int} (hρ : ∀ v, 0 ≤ v → 0 ≤ ρ v ∧ ρ v ≤ 5000) : ∀ (t : Tm) (k b : Int), 0 ≤ k → 0 ≤ b → shF (renF ρ t (b + k)) k = (shF t k).map (rnN ρ b)
  | .mk o h n us, k, b, hk, hb => by
    simp only [renF, shF, renL_length]
    by_cases h3 : o = 3
    · rw [if_pos h3, if_pos h3]
      subst h3
      exact sh_renLam hρ us k b hk hb
    rw [if_neg h3, if_neg h3]
    by_cases h4 : o = 4
    · subst h4
      rw [sh_renArgs hρ us k b 0 0 hk hb (by omega)]
      have hun : ∀ i : Int, under 4 i = 0 := by intro i; simp [under]
      by_cases h1 : h = 1
      · subst h1
        by_cases h5 : n ≥ b + k
        · have hr := hρ (n - (b + k)) (by omega)
          rw [show (if (4 : Int) = 4 ∧ (1 : Int) = 1 ∧ n ≥ b + k then ρ (n - (b + k)) + (b + k) else n) = ρ (n - (b + k)) + (b + k) from if_pos ⟨rfl, rfl, h5⟩]
          by_cases hc : (us.length : Int) = k ∧ shArgs us k 0 = true
          · rw [if_pos (show (4 : Int) = 4 ∧ (us.length : Int) = k ∧ ¬((1 : Int) = 1 ∧ ρ (n - (b + k)) + (b + k) < k) ∧ shArgs us k 0 = true from ⟨rfl, hc.1, by omega, hc.2⟩), if_pos (show (4 : Int) = 4 ∧ (us.length : Int) = k ∧ ¬((1 : Int) = 1 ∧ n < k) ∧ shArgs us k 0 = true from ⟨rfl, hc.1, by omega, hc.2⟩)]
            show some ((1 : Int), ρ (n - (b + k)) + (b + k) - k) = some ((1 : Int), if (1 : Int) = 1 ∧ n - k ≥ b then ρ (n - k - b) + b else n - k)
            rw [if_pos ⟨rfl, by omega⟩, show n - k - b = n - (b + k) by omega]
            congr 2; omega
          · rw [if_neg (show ¬((4 : Int) = 4 ∧ (us.length : Int) = k ∧ ¬((1 : Int) = 1 ∧ ρ (n - (b + k)) + (b + k) < k) ∧ shArgs us k 0 = true) from fun hh => hc ⟨hh.2.1, hh.2.2.2⟩), if_neg (show ¬((4 : Int) = 4 ∧ (us.length : Int) = k ∧ ¬((1 : Int) = 1 ∧ n < k) ∧ shArgs us k 0 = true) from fun hh => hc ⟨hh.2.1, hh.2.2.2⟩)]; rfl
        · rw [show (if (4 : Int) = 4 ∧ (1 : Int) = 1 ∧ n ≥ b + k then ρ (n - (b + k)) + (b + k) else n) = n from if_neg (by omega)]
          by_cases hc : (4 : Int) = 4 ∧ (us.length : Int) = k ∧ ¬((1 : Int) = 1 ∧ n < k) ∧ shArgs us k 0 = true
          · rw [if_pos hc]
            show some ((1 : Int), n - k) = some ((1 : Int), if (1 : Int) = 1 ∧ n - k ≥ b then ρ (n - k - b) + b else n - k)
            rw [if_neg (by omega)]
          · rw [if_neg hc]; rfl
      · rw [show (if (4 : Int) = 4 ∧ h = 1 ∧ n ≥ b + k then ρ (n - (b + k)) + (b + k) else n) = n from if_neg (by omega)]
        by_cases hc : (4 : Int) = 4 ∧ (us.length : Int) = k ∧ ¬(h = 1 ∧ n < k) ∧ shArgs us k 0 = true
        · rw [if_pos hc]
          simp only [Option.map_some, rnN]
          rw [if_neg h1, if_neg (by simp [h1])]
        · rw [if_neg hc]; rfl
    · rw [if_neg (fun hh => h4 hh.1), if_neg (fun hh => h4 hh.1)]; rfl
theorem sh_renLam {ρ : Int → Int} (hρ : ∀ v, 0 ≤ v → 0 ≤ ρ v ∧ ρ v ≤ 5000) : ∀ (us : List Tm) (k b : Int), 0 ≤ k → 0 ≤ b → shLam (renL ρ 3 us 0 (b + k)) (k + 1) = (shLam us (k + 1)).map (rnN ρ b)
  | [], _, _, _, _ => rfl
  | u :: us, k, b, hk, hb => by
    have hu : under 3 ((0 : Nat) : Int) = 1 := by simp [under]
    simp only [renL, shLam, hu]
    rw [show b + k + 1 = b + (k + 1) by omega]
    exact sh_ren hρ u (k + 1) b (by omega) hb
theorem sh_renArgs {ρ : Int → Int} (hρ : ∀ v, 0 ≤ v → 0 ≤ ρ v ∧ ρ v ≤ 5000) : ∀ (us : List Tm) (k b : Int) (i : Nat) (j : Int), 0 ≤ k → 0 ≤ b → 0 ≤ j → shArgs (renL ρ 4 us i (b + k)) k j = shArgs us k j
  | [], _, _, _, _, _, _, _ => rfl
  | u :: us, k, b, i, j, hk, hb, hj => by
    have hu : under 4 (i : Int) = 0 := by simp [under]
    simp only [renL, shArgs, hu, Int.add_zero]
    rw [sh_renArgs hρ us k b (i + 1) (j + 1) hk hb (by omega)]
    have h0 := sh_ren hρ u 0 (b + k) (by omega) (by omega)
    rw [Int.add_zero] at h0
    rw [h0]
    congr 1
    cases hs : shF u 0 with
    | none => rfl
    | some q =>
      have := rnN_bound hρ (show k - 1 - j < b + k by omega) q
      rw [Option.map_some, Bool.eq_iff_iff, beq_iff_eq, beq_iff_eq, Option.some.injEq, Option.some.injEq]
      exact this
 end

/-! what a long form is of is free -/
mutual
theorem sh_fv : ∀ (t : Tm) (k b n : Int), 0 ≤ k → shF t k = some (1, n) → n ≥ b → n - b ∈ fvF t (b + k)
  | .mk o h n us, k, b, m, hk, hs, hm => by
    simp only [shF] at hs
    simp only [fvF, List.mem_append]
    by_cases h3 : o = 3
    · rw [if_pos h3] at hs
      subst h3
      exact .inr (sh_fvLam us k b m hk hs hm)
    · rw [if_neg h3] at hs
      split at hs
      · rename_i hc
        simp only [Option.some.injEq, Prod.mk.injEq] at hs
        obtain ⟨e1, e2⟩ := hs
        subst e1
        rw [if_pos rfl] at e2
        left
        rw [if_pos ⟨hc.1, rfl, by omega⟩, List.mem_singleton]
        omega
      · cases hs
theorem sh_fvLam : ∀ (us : List Tm) (k b n : Int), 0 ≤ k → shLam us (k + 1) = some (1, n) → n ≥ b → n - b ∈ fvL 3 us 0 (b + k)
  | [], _, _, _, _, hs, _ => by cases hs
  | u :: us, k, b, n, hk, hs, hm => by
    have hu : under 3 ((0 : Nat) : Int) = 1 := by simp [under]
    simp only [fvL, List.mem_append, hu]
    rw [show b + k + 1 = b + (k + 1) by omega]
    exact .inl (sh_fv u (k + 1) b n (by omega) hs hm)
 end

theorem pat_ren {ρ : Int → Int} (hρ : ∀ v, 0 ≤ v → 0 ≤ ρ v ∧ ρ v ≤ 5000) {P : Int → Prop} (hinj : ∀ x y, P x → P y → ρ x = ρ y → x = y) {opn opn' : Int → Bool} (hop : ∀ x, P x → opn' (ρ x) = opn x) {b : Int} (hb : 0 ≤ b) : ∀ (us : List Tm) (i : Nat) (seen : List Int), (∀ x ∈ fvL 4 us i b, P x) → (∀ y ∈ seen, y ≥ b → P (y - b)) → patF opn' b (seen.map (fun y => if y ≥ b then ρ (y - b) + b else y)) (renL ρ 4 us i b) = patF opn b seen us
  | [], _, _, _, _ => rfl
  | u :: us, i, seen, hP, hseen => by
    have hu : under 4 (i : Int) = 0 := by simp [under]
    simp only [fvL, List.mem_append, hu, Int.add_zero] at hP
    simp only [renL, patF, hu, Int.add_zero]
    have h0 := sh_ren hρ u 0 b (by omega) hb
    rw [Int.add_zero] at h0
    rw [h0]
    cases hs : shF u 0 with
    | none => rfl
    | some q =>
      obtain ⟨h, n⟩ := q
      simp only [Option.map_some, rnN]
      by_cases h1 : ¬ h = 1
      · have e : (h == 1) = false := by simpa using h1
        rw [e, Bool.false_and, Bool.false_and]
      have h1 : h = 1 := Classical.not_not.1 h1
      subst h1
      have hPn : n ≥ b → P (n - b) := fun hn => hP _ (.inl (by
        have := sh_fv u 0 b n (by omega) hs hn
        rwa [Int.add_zero] at this))
      have e0 : (if (1 : Int) = 1 ∧ n ≥ b then ρ (n - b) + b else n) = (if n ≥ b then ρ (n - b) + b else n) := by
        by_cases hn : n ≥ b
        · rw [if_pos ⟨rfl, hn⟩, if_pos hn]
        · rw [if_neg (fun hh => hn hh.2), if_neg hn]
      rw [e0]
      have e1 : (List.map (fun y => if y ≥ b then ρ (y - b) + b else y) seen).any (fun y => (if n ≥ b then ρ (n - b) + b else n) == y) = seen.any (fun y => n == y) := by
        rw [List.any_map, Bool.eq_iff_iff, List.any_eq_true, List.any_eq_true]
        constructor
        · rintro ⟨y, hy, e⟩
          refine ⟨y, hy, ?_⟩
          simp only [Function.comp, beq_iff_eq] at e ⊢
          by_cases hn : n ≥ b
          · rw [if_pos hn] at e
            by_cases hyb : y ≥ b
            · rw [if_pos hyb] at e
              have := hinj _ _ (hPn hn) (hseen y hy hyb) (by omega)
              omega
            · rw [if_neg hyb] at e
              have := hρ (n - b) (by omega)
              omega
          · rw [if_neg hn] at e
            by_cases hyb : y ≥ b
            · rw [if_pos hyb] at e
              have := hρ (y - b) (by omega)
              omega
            · rw [if_neg hyb] at e; exact e
        · rintro ⟨y, hy, e⟩
          refine ⟨y, hy, ?_⟩
          rw [beq_iff_eq] at e
          subst e
          simp
      have e2 : (decide ((if n ≥ b then ρ (n - b) + b else n) ≥ b) && opn' ((if n ≥ b then ρ (n - b) + b else n) - b)) = (decide (n ≥ b) && opn (n - b)) := by
        by_cases hn : n ≥ b
        · rw [if_pos hn]
          have := hρ (n - b) (by omega)
          rw [decide_eq_true (by omega), decide_eq_true hn, show ρ (n - b) + b - b = ρ (n - b) by omega, hop _ (hPn hn)]
        · rw [if_neg hn, decide_eq_false hn, Bool.false_and, Bool.false_and]
      have e3 := pat_ren hρ hinj hop hb us (i + 1) (seen ++ [n]) (fun x hx => hP x (.inr hx)) (by
        intro y hy hyb
        rcases List.mem_append.1 hy with h | h
        · exact hseen y h hyb
        · rw [List.mem_singleton] at h; subst h; exact hPn hyb)
      rw [List.map_append, List.map_cons, List.map_nil] at e3
      rw [e1, e2, e3]

mutual
theorem str_ren {ρ : Int → Int} (hρ : ∀ v, 0 ≤ v → 0 ≤ ρ v ∧ ρ v ≤ 5000) {P : Int → Prop} (hinj : ∀ x y, P x → P y → ρ x = ρ y → x = y) {opn opn' : Int → Bool} (hop : ∀ x, P x → opn' (ρ x) = opn x) : ∀ (t : Tm) (b : Int), 0 ≤ b → (∀ x ∈ fvF t b, P x) → strF opn' (renF ρ t b) b = (strF opn t b).map ρ
  | .mk o h n us, b, hb, hP => by
    simp only [fvF, List.mem_append] at hP
    simp only [renF, strF]
    by_cases h1 : o = 4 ∧ h = 1 ∧ n ≥ b
    · obtain ⟨e1, e2, e3⟩ := h1
      subst e1 e2
      have hr := hρ (n - b) (by omega)
      have hPn : P (n - b) := hP _ (.inl (by rw [if_pos ⟨rfl, rfl, e3⟩]; simp))
      rw [if_pos (show (4 : Int) = 4 ∧ (1 : Int) = 1 ∧ n ≥ b from ⟨rfl, rfl, e3⟩), show ρ (n - b) + b - b = ρ (n - b) by omega, hop _ hPn]
      by_cases ho : opn (n - b) = true
      · rw [if_pos (show (4 : Int) = 4 ∧ (1 : Int) = 1 ∧ ρ (n - b) + b ≥ b ∧ opn (n - b) = true from ⟨rfl, rfl, by omega, ho⟩), if_pos (show (4 : Int) = 4 ∧ (1 : Int) = 1 ∧ n ≥ b ∧ opn (n - b) = true from ⟨rfl, rfl, e3, ho⟩)]
        have := pat_ren hρ hinj hop hb us 0 [] (fun x hx => hP x (.inr hx)) (by simp)
        rw [List.map_nil] at this
        rw [this]
        split <;> simp
      · rw [if_neg (show ¬((4 : Int) = 4 ∧ (1 : Int) = 1 ∧ ρ (n - b) + b ≥ b ∧ opn (n - b) = true) from fun hh => ho hh.2.2.2), if_neg (show ¬((4 : Int) = 4 ∧ (1 : Int) = 1 ∧ n ≥ b ∧ opn (n - b) = true) from fun hh => ho hh.2.2.2)]
        exact str_renL hρ hinj hop 4 us 0 b hb (fun x hx => hP x (.inr hx))
    · rw [if_neg h1, if_neg (fun hh => h1 ⟨hh.1, hh.2.1, hh.2.2.1⟩), if_neg (fun hh => h1 ⟨hh.1, hh.2.1, hh.2.2.1⟩)]
      exact str_renL hρ hinj hop o us 0 b hb (fun x hx => hP x (.inr hx))
theorem str_renL {ρ : Int → Int} (hρ : ∀ v, 0 ≤ v → 0 ≤ ρ v ∧ ρ v ≤ 5000) {P : Int → Prop} (hinj : ∀ x y, P x → P y → ρ x = ρ y → x = y) {opn opn' : Int → Bool} (hop : ∀ x, P x → opn' (ρ x) = opn x) : ∀ (o : Int) (us : List Tm) (i : Nat) (b : Int), 0 ≤ b → (∀ x ∈ fvL o us i b, P x) → strL opn' o (renL ρ o us i b) i b = (strL opn o us i b).map ρ
  | _, [], _, _, _, _ => rfl
  | o, u :: us, i, b, hb, hP => by
    have hu := under_le o i
    simp only [fvL, List.mem_append] at hP
    simp only [renL, strL, List.map_append]
    rw [str_ren hρ hinj hop u _ (by omega) (fun x hx => hP x (.inl hx)), str_renL hρ hinj hop o us (i + 1) b hb (fun x hx => hP x (.inr hx))]
 end

mutual
theorem str_fv {opn : Int → Bool} : ∀ (t : Tm) (b : Int), ∀ x ∈ strF opn t b, x ∈ fvF t b ∧ opn x = true
  | .mk o h n us, b, x, hx => by
    simp only [strF] at hx
    simp only [fvF, List.mem_append]
    split at hx
    · rename_i hc
      split at hx
      · rw [List.mem_singleton] at hx
        subst hx
        exact ⟨.inl (by rw [if_pos ⟨hc.1, hc.2.1, hc.2.2.1⟩]; simp), hc.2.2.2⟩
      · cases hx
    · obtain ⟨h1, h2⟩ := str_fvL o us 0 b x hx
      exact ⟨.inr h1, h2⟩
theorem str_fvL {opn : Int → Bool} : ∀ (o : Int) (us : List Tm) (i : Nat) (b : Int), ∀ x ∈ strL opn o us i b, x ∈ fvL o us i b ∧ opn x = true
  | _, [], _, _, x, hx => by cases hx
  | o, u :: us, i, b, x, hx => by
    simp only [strL, List.mem_append] at hx
    simp only [fvL, List.mem_append]
    rcases hx with hx | hx
    · obtain ⟨h1, h2⟩ := str_fv u _ x hx
      exact ⟨.inl h1, h2⟩
    · obtain ⟨h1, h2⟩ := str_fvL o us (i + 1) b x hx
      exact ⟨.inr h1, h2⟩
 end
end Go.Proofs.YtogicnodmgdnbaaGreat
end

/-! StB -/
section
namespace Go.Proofs.YtogicnodmgdnbaaGreat
open Go.Tr Go
set_option linter.unusedVariables false
set_option linter.unusedSimpArgs false
set_option maxRecDepth 10000

theorem shF_eq (t : Tm) (k : Int) : shF t k = if t.op = 3 then shLam t.args (k + 1) else if t.op = 4 ∧ (t.args.length : Int) = k ∧ ¬(t.hd = 1 ∧ t.n < k) ∧ shArgs t.args k 0 = true then some (t.hd, if t.hd = 1 then t.n - k else t.n) else none := by cases t; rfl
theorem strF_eq (opn : Int → Bool) (t : Tm) (b : Int) : strF opn t b = if t.op = 4 ∧ t.hd = 1 ∧ t.n ≥ b ∧ opn (t.n - b) = true then (if patF opn b [] t.args = true then [t.n - b] else []) else strL opn t.op t.args 0 b := by cases t; rfl
theorem fvF_eq (t : Tm) (b : Int) : fvF t b = (if t.op = 4 ∧ t.hd = 1 ∧ t.n ≥ b then [t.n - b] else []) ++ fvL t.op t.args 0 b := by cases t; rfl
theorem fvL_mem (y : Int) (o : Int) : ∀ (us : List Tm) (i : Nat) (b : Int) (j : Nat) (u : Tm), us[j]? = some u → y ∈ fvF u (b + under o ((i + j : Nat) : Int)) → y ∈ fvL o us i b
  | [], _, _, _, _, h, _ => by simp at h
  | v :: us, i, b, 0, u, h, hy => by
    simp at h; subst h
    simp only [fvL, List.mem_append]
    exact .inl hy
  | v :: us, i, b, j + 1, u, h, hy => by
    simp only [fvL, List.mem_append]
    refine .inr (fvL_mem y o us (i + 1) b j u (by simpa using h) ?_)
    rw [show i + 1 + j = i + (j + 1) by omega]; exact hy

def shP (q : Option (Int × Int)) : Int × Int × Int := match q with
  | some (h, n) => (h, n, 0)
  | none => (0, 0, 6)

theorem short_ev : ∀ (N : Nat) (u : Tm), u.height ≤ N → Pr u → Ev (fun q => subst_Short q u) (shP (shF u 0)) := by
  intro N
  induction N with
  | zero => intro u hu; have := Tm.height_pos u; omega
  | succ N ih =>
    have L2 : ∀ (v : Tm) (k : Nat), Pr v → v.height ≤ N + 1 → k ≤ 1000 → ∀ (ts : List Tm) (i : Nat), v.args.drop i = ts → i + ts.length = v.args.length → Ev (fun q => subst_Short_L2 q v (k : Int) (i : Int)) (if shArgs ts k i = true then (v.hd, (if v.hd = 1 then v.n - k else v.n), 0) else (0, 0, 6)) := by
      intro v k hv hvh hk ts
      have hn := pr_n hv
      have hlen := pr_len hv
      induction ts with
      | nil =>
        intro i hd hi
        simp only [List.length_nil, Nat.add_zero] at hi
        refine Ev.succ (fun q => subst_Short_L2.eq_2 ..) (Ev.f (by rw [Tm.encL_length]; simp; omega) ?_)
        rw [if_pos (show shArgs [] (k : Int) (i : Int) = true from rfl)]
        refine Ev.ite (fun h => ?_) (fun h => ?_)
        · have h : v.hd = 1 := by simpa using h
          rw [if_pos h, wrap_i64 (by omega) (by omega)]; exact Ev.pure _
        · have h : ¬ v.hd = 1 := by simpa using h
          rw [if_neg h]; exact Ev.pure _
      | cons t ts ihl =>
        intro i hd hi
        simp only [List.length_cons] at hi
        have ht := getDrop hd
        have htm := List.mem_of_getElem? ht
        have hth := Tm.height_le htm
        have e := ih t (by rw [Tm.height_eq] at hvh; omega) (pr_arg hv htm)
        refine Ev.succ (fun q => subst_Short_L2.eq_2 ..) (Ev.t (by rw [Tm.encL_length]; simp; omega) (Ev.some (idx_get ht) (e.bind ?_)))
        rw [wrap_i64 (n := (k : Int) - 1) (by omega) (by omega), wrap_i64 (n := (k : Int) - 1 - i) (by omega) (by omega), wrapS (by omega)]
        have hs : shArgs (t :: ts) (k : Int) (i : Int) = ((shF t 0 == some (1, (k : Int) - 1 - i)) && shArgs ts k ((i : Int) + 1)) := rfl
        rw [hs]
        cases hq : shF t 0 with
        | none => exact Ev.t rfl (Ev.pure _)
        | some q =>
          obtain ⟨h, m⟩ := q
          by_cases hc : h = 1 ∧ m = (k : Int) - 1 - i
          · obtain ⟨rfl, rfl⟩ := hc
            refine Ev.f (by simp [shP]) ?_
            have := ihl (i + 1) (dropDrop hd) (by omega)
            rw [show (((1 : Int), (k : Int) - 1 - (i : Int)) : Int × Int) = (1, (k : Int) - 1 - (i : Int)) from rfl]
            simp only [beq_self_eq_true, Bool.true_and]
            exact this
          · have e1 : ((some (h, m) : Option (Int × Int)) == some (1, (k : Int) - 1 - i)) = false := by
              rw [beq_eq_false_iff_ne]
              intro e; injection e with e; injection e with e1 e2; exact hc ⟨e1, e2⟩
            rw [e1, Bool.false_and, if_neg (by decide)]
            refine Ev.t ?_ (Ev.pure _)
            simp only [shP, Bool.or_eq_true, bne_iff_ne]
            by_cases h1 : h = 1
            · exact .inr (fun e => hc ⟨h1, e⟩)
            · exact .inl (.inr h1)
    have L1 : ∀ (M : Nat) (v : Tm) (k : Nat), v.height ≤ M → v.height ≤ N + 1 → Pr v → k + v.height ≤ 1000 → Ev (fun q => subst_Short_L1 q v (k : Int)) (shP (shF v (k : Int))) := by
      intro M
      induction M with
      | zero => intro v k hv; have := Tm.height_pos v; omega
      | succ M ihM =>
        intro v k hv hvN hp hk
        rw [shF_eq]
        by_cases h3 : v.op = 3
        · rw [if_pos h3]
          obtain ⟨a, ha, _, hh, _⟩ := okAll_one (proper_small hp).1 h3
          have := ihM a (k + 1) (by omega) (by omega) (pr_arg hp (by rw [ha]; simp)) (by omega)
          refine Ev.succ (fun q => subst_Short_L1.eq_2 ..) (Ev.t (by simpa using h3) (Ev.some (x := a) (by rw [ha]; rfl) ?_))
          rw [wrapS (by omega), ha]
          exact this
        · rw [if_neg h3]
          refine Ev.succ (fun q => subst_Short_L1.eq_2 ..) (Ev.f (by simpa using h3) ?_)
          by_cases hc : v.op = 4 ∧ (v.args.length : Int) = k ∧ ¬(v.hd = 1 ∧ v.n < k)
          · have := L2 v k hp hvN (by omega) v.args 0 rfl (by simp)
            refine Ev.f ?_ (this.eq ?_)
            · obtain ⟨c1, c2, c3⟩ := hc
              rw [Tm.encL_length]
              simp only [Bool.or_eq_false_iff, bne_eq_false_iff_eq, Bool.and_eq_false_iff, beq_eq_false_iff_ne, decide_eq_false_iff_not]
              refine ⟨⟨c1, c2⟩, ?_⟩
              by_cases h1 : v.hd = 1
              · exact .inr (fun h => c3 ⟨h1, h⟩)
              · exact .inl h1
            · by_cases ha : shArgs v.args (k : Int) 0 = true
              · rw [if_pos (show shArgs v.args (k : Int) ((0 : Nat) : Int) = true from ha), if_pos (show v.op = 4 ∧ (v.args.length : Int) = k ∧ ¬(v.hd = 1 ∧ v.n < k) ∧ shArgs v.args k 0 = true from ⟨hc.1, hc.2.1, hc.2.2, ha⟩)]; rfl
              · rw [if_neg (show ¬ shArgs v.args (k : Int) ((0 : Nat) : Int) = true from ha), if_neg (fun hh => ha hh.2.2.2)]; rfl
          · rw [if_neg (fun hh => hc ⟨hh.1, hh.2.1, hh.2.2.1⟩)]
            refine Ev.t ?_ (Ev.pure _)
            rw [Tm.encL_length]
            simp only [Bool.or_eq_true, bne_iff_ne, Bool.and_eq_true, beq_iff_eq, decide_eq_true_eq]
            by_cases c1 : v.op = 4
            · by_cases c2 : (v.args.length : Int) = k
              · right
                exact Classical.byContradiction (fun c3 => hc ⟨c1, c2, c3⟩)
              · exact .inl (.inr c2)
            · exact .inl (.inl c1)
    intro u hu hp
    have hpp := (proper_small hp).2.1
    exact Ev.succ (fun q => subst_Short.eq_2 ..) (Ev.f (by rw [if_pos hp]; rfl) (L1 u.height u 0 (Nat.le_refl _) hu hp (by omega)))

mutual
theorem sh_bound : ∀ (t : Tm) (k h n : Int), 0 ≤ k → okAll t = true → shF t k = some (h, n) → 0 ≤ n ∧ n ≤ 9999
  | .mk o hd m us, k, h, n, hk, hok, hs => by
    have hn := okAll_n hok
    simp only [Tm.n] at hn
    simp only [okAll, Bool.and_eq_true] at hok
    simp only [shF] at hs
    split at hs
    · exact sh_boundLam us k h n hk hok.2 hs
    · split at hs
      · rename_i hc
        simp only [Option.some.injEq, Prod.mk.injEq] at hs
        obtain ⟨e1, e2⟩ := hs
        have := hc.2.2.1
        split at e2 <;> omega
      · cases hs
theorem sh_boundLam : ∀ (us : List Tm) (k h n : Int), 0 ≤ k → okAllL us = true → shLam us (k + 1) = some (h, n) → 0 ≤ n ∧ n ≤ 9999
  | [], _, _, _, _, _, hs => by cases hs
  | u :: us, k, h, n, hk, hok, hs => by
    simp only [okAllL, Bool.and_eq_true] at hok
    exact sh_bound u (k + 1) h n (by omega) hok.1 hs
 end

/-- A scope that says by levels which variables are open. -/
def Lv (s : List Bool) (opn : Int → Bool) : Prop := ∀ v : Int, 0 ≤ v → v < (s.length : Int) → idx s ((s.length : Int) - 1 - v) = some (opn v)
abbrev lvl (s : List Bool) (v : Int) : Int := (s.length : Int) - 1 - v

theorem level_ev (s : List Bool) (n b : Int) (hl : s.length ≤ 1000000) (hn : 0 ≤ n ∧ n ≤ 1000000) (hb : 0 ≤ b ∧ b ≤ 1000000) : Ev (fun q => mode_scope_level q s n b) (lvl s (n - b), decide (n ≥ b)) := by
  refine Ev.succ (fun q => mode_scope_level.eq_2 ..) ((Ev.pure _).eq ?_)
  rw [List.length_map, wrap_i64 (n := (s.length : Int) - 1) (by omega) (by omega), wrap_i64 (n := n - b) (by omega) (by omega), wrap_i64 (by omega) (by omega)]

theorem pattern_ev {s : List Bool} {opn : Int → Bool} (hs : Lv s opn) (hl : s.length ≤ 100000) (l : List Tm) (b : Nat) (hb : b ≤ 100000) (hll : l.length ≤ 600) (hp : ∀ x ∈ l, Pr x) (hf : ∀ x ∈ l, ∀ y ∈ fvF x b, y < (s.length : Int)) :
    Ev (fun q => mode_scope_pattern q s l (b : Int)) (patF opn b [] l) := by
  have loop : ∀ (ts : List Tm) (i : Nat) (seen : List Int), l.drop i = ts → i + ts.length = l.length → seen.length = i → Ev (fun q => mode_scope_pattern_L1 q l s (b : Int) seen (i : Int)) (patF opn b seen ts) := by
    intro ts
    induction ts with
    | nil =>
      intro i seen hd hi hse
      simp only [List.length_nil, Nat.add_zero] at hi
      exact Ev.succ (fun q => mode_scope_pattern_L1.eq_2 ..) (Ev.f (by rw [Tm.encL_length]; simp; omega) (Ev.pure _))
    | cons x ts ih =>
      intro i seen hd hi hse
      simp only [List.length_cons] at hi
      have hx := getDrop hd
      have hxm := List.mem_of_getElem? hx
      have hxp := hp x hxm
      refine Ev.succ (fun q => mode_scope_pattern_L1.eq_2 ..) (Ev.t (by rw [Tm.encL_length]; simp; omega) (Ev.some (idx_get hx) ((short_ev x.height x (Nat.le_refl _) hxp).bind ?_)))
      simp only [patF]
      cases hq : shF x 0 with
      | none => exact Ev.t rfl (Ev.pure _)
      | some q =>
        obtain ⟨h, n⟩ := q
        by_cases h1 : h = 1
        case neg =>
          have e : (h == 1) = false := by simpa using h1
          refine Ev.t (by simp [shP, h1]) ((Ev.pure _).eq ?_)
          simp only [e, Bool.false_and]
        case pos =>
          subst h1
          dsimp only
          have hn := sh_bound x 0 1 n (by omega) (proper_small hxp).1 hq
          refine Ev.f rfl ((contains_ev seen n (by omega)).bind ?_)
          have hcl : decide ((List.map (D.int .i64) (seen ++ [n])).length ≤ 1000000) = true := by
            rw [List.length_map, List.length_append]; simp; omega
          have hrec := ih (i + 1) (seen ++ [n]) (dropDrop hd) (by omega) (by simp; omega)
          refine Ev.ite (fun h => (Ev.pure _).eq (by rw [h]; simp)) (fun h => (level_ev s n b (by omega) (by omega) (by omega)).bind ?_)
          rw [h, wrapS (by omega)]
          simp only [beq_self_eq_true, Bool.true_and, Bool.not_false]
          refine Ev.ite (fun hnb => ?_) (fun hnb => ?_)
          · have hnb' : n ≥ b := of_decide_eq_true hnb
            have hy := hf x hxm (n - b) (by
              have := sh_fv x 0 b n (by omega) hq hnb'
              rwa [Int.add_zero] at this)
            have hi' := hs (n - b) (by omega) hy
            refine Ev.some hi' ?_
            rw [hnb]
            refine Ev.ite (fun ho => (Ev.pure _).eq (by rw [ho]; rfl)) (fun ho => ?_)
            rw [ho]
            exact Ev.need hcl hrec
          · rw [hnb]
            exact Ev.need hcl hrec
  exact Ev.succ (fun q => mode_scope_pattern.eq_2 ..) (loop l 0 [] rfl (by simp) rfl)

theorem str_lengths (opn : Int → Bool) : (∀ (t : Tm) (b : Int), (strF opn t b).length ≤ t.count) := by
  intro t
  induction t using Tm.rec (motive_2 := fun us => ∀ (o : Int) (i : Nat) (b : Int), (strL opn o us i b).length ≤ Tm.countL us) with
  | mk o h n us ih =>
    intro b
    simp only [strF, Tm.count]
    split
    · split <;> simp
    · have := ih o 0 b; omega
  | nil => simp [strL, Tm.countL]
  | cons u us ih1 ih2 o i b =>
    simp only [strL, List.length_append, Tm.countL]
    have := ih1 (b + under o i)
    have := ih2 o (i + 1) b
    omega

theorem strict1_ev {s : List Bool} {opn : Int → Bool} (hs : Lv s opn) (hl : s.length ≤ 100000) (t : Tm) : ∀ (b : Nat) (out : List Int), Pr t → b + t.height ≤ 1000 → out.length + t.count ≤ 100000 → (∀ y ∈ fvF t b, y < (s.length : Int)) →
    Ev (fun q => mode_scope_strict_1 q t (b : Int) s out) (out ++ (strF opn t b).map (lvl s)) := by
  induction t using Tm.ind with
  | h t ih =>
    intro b out hp hb hc hf
    have hn := pr_n hp
    have hlen := pr_len hp
    have loop : ∀ (ts : List Tm) (i : Nat) (out : List Int), t.args.drop i = ts → i + ts.length = t.args.length → out.length + Tm.countL ts ≤ 100000 → Ev (fun q => mode_scope_strict_1_L1 q t (b : Int) s out (i : Int)) (out ++ (strL opn t.op ts i b).map (lvl s)) := by
      intro ts
      induction ts with
      | nil =>
        intro i out hd hi ho
        simp only [List.length_nil, Nat.add_zero] at hi
        exact Ev.succ (fun q => mode_scope_strict_1_L1.eq_2 ..) (Ev.f (by rw [Tm.encL_length]; simp; omega) ((Ev.pure _).eq (by simp [strL])))
      | cons x ts ihl =>
        intro i out hd hi ho
        simp only [List.length_cons] at hi
        simp only [Tm.countL] at ho
        have hx := getDrop hd
        have hxm := List.mem_of_getElem? hx
        have hxh := Tm.height_le hxm
        have hu := under_le t.op i
        obtain ⟨u, hu'⟩ : ∃ u : Nat, under t.op (i : Int) = (u : Int) := ⟨(under t.op i).toNat, by omega⟩
        rw [Tm.height_eq] at hb
        have e := ih x hxm (b + u) out (pr_arg hp hxm) (by omega) (by omega) (by
          intro y hy
          refine hf y ?_
          rw [fvF_eq, List.mem_append]
          refine .inr (fvL_mem y t.op t.args 0 b i x hx ?_)
          rw [Nat.zero_add, hu']
          exact hy)
        have hsl := str_lengths opn x ((b + u : Nat) : Int)
        refine Ev.succ (fun q => mode_scope_strict_1_L1.eq_2 ..) (Ev.t (by rw [Tm.encL_length]; simp; omega) (Ev.some (idx_get hx) ((under_ev t i).bind ?_)))
        rw [hu', wrap_i64 (n := (b : Int) + u) (by omega) (by omega)]
        refine e.bind ?_
        rw [wrapS (by omega)]
        have := ihl (i + 1) (out ++ (strF opn x ((b + u : Nat) : Int)).map (lvl s)) (dropDrop hd) (by omega) (by rw [List.length_append, List.length_map]; omega)
        refine this.eq ?_
        simp only [strL, hu', List.map_append, List.append_assoc]
        rfl
    have hloop := loop t.args 0 out rfl (by simp) (by rw [Tm.count_eq] at hc; omega)
    refine Ev.succ (fun q => mode_scope_strict_1.eq_2 ..) ((level_ev s t.n b (by omega) (by omega) (by omega)).bind ?_)
    rw [strF_eq]
    by_cases h4 : t.op = 4 ∧ t.hd = 1 ∧ t.n ≥ b
    · obtain ⟨c1, c2, c3⟩ := h4
      have hy := hf (t.n - b) (by rw [fvF_eq, if_pos ⟨c1, c2, c3⟩]; simp)
      have hi' := hs (t.n - b) (by omega) hy
      refine Ev.t (by rw [c1, c2, decide_eq_true c3]; rfl) (Ev.some hi' ?_)
      refine Ev.ite (fun ho => ?_) (fun ho => ?_)
      · rw [if_pos ⟨c1, c2, c3, ho⟩]
        have hpat := pattern_ev hs hl t.args b (by omega) hlen (fun x hx => pr_arg hp hx) (by
          intro x hx y hy
          obtain ⟨j, hj⟩ := List.mem_iff_getElem?.1 hx
          refine hf y ?_
          rw [fvF_eq, List.mem_append]
          refine .inr (fvL_mem y t.op t.args 0 b j x hj ?_)
          rw [c1, show under 4 ((0 + j : Nat) : Int) = 0 by simp [under], Int.add_zero]
          exact hy)
        refine hpat.bind (Ev.ite (fun hh => ?_) (fun hh => ?_))
        · rw [if_pos hh]
          refine Ev.need ?_ ((Ev.pure _).eq rfl)
          have := Tm.count_pos t
          rw [List.length_map, List.length_append]; simp; omega
        · rw [if_neg (by rw [hh]; decide)]
          exact (Ev.pure _).eq (by simp)
      · rw [if_neg (fun hh => by rw [hh.2.2.2] at ho; cases ho)]
        exact hloop
    · rw [if_neg (fun hh => h4 ⟨hh.1, hh.2.1, hh.2.2.1⟩)]
      refine Ev.f ?_ hloop
      simp only [Bool.and_eq_false_iff, beq_eq_false_iff_ne, decide_eq_false_iff_not]
      by_cases c1 : t.op = 4
      · by_cases c2 : t.hd = 1
        · exact .inr (fun c3 => h4 ⟨c1, c2, c3⟩)
        · exact .inl (.inr c2)
      · exact .inl (.inl c1)

theorem scopeStrict_ev {s : List Bool} {opn : Int → Bool} (hs : Lv s opn) (hl : s.length ≤ 100000) {t : Tm} (hp : Pr t) (hf : ∀ y ∈ fvF t 0, y < (s.length : Int)) :
    Ev (fun q => mode_scope_strict q s t) ((strF opn t 0).map (lvl s)) := by
  obtain ⟨h1, h2, h3⟩ := proper_small hp
  refine Ev.succ (fun q => mode_scope_strict.eq_2 ..) ((strict1_ev hs hl t 0 [] hp (by omega) (by simp; omega) hf).bind ((Ev.pure _).eq (by simp)))
end Go.Proofs.YtogicnodmgdnbaaGreat
end

/-! StC -/
section
namespace Go.Proofs.YtogicnodmgdnbaaGreat
open Go.Tr Go
set_option linter.unusedVariables false
set_option linter.unusedSimpArgs false
set_option maxRecDepth 10000

/-! a list without what is there twice in a row -/
def ddpA : Int → List Int → List Int
  | _, [] => []
  | x, y :: ys => if y = x then ddpA x ys else y :: ddpA y ys
def ddp : List Int → List Int
  | [] => []
  | x :: xs => x :: ddpA x xs

theorem ddpA_snoc : ∀ (l : List Int) (x y : Int), ddpA x (l ++ [y]) = ddpA x l ++ (if y = (x :: l).getLast (by simp) then [] else [y])
  | [], x, y => by simp only [List.nil_append, ddpA, List.getLast_singleton]; congr
  | z :: l, x, y => by
    simp only [List.cons_append, ddpA]
    by_cases h : z = x
    · subst h
      rw [if_pos rfl, if_pos rfl, ddpA_snoc l z y]
      rw [show (z :: z :: l).getLast (by simp) = (z :: l).getLast (by simp) from List.getLast_cons (by simp)]
    · rw [if_neg h, if_neg h, ddpA_snoc l z y, List.cons_append]
      rw [show (x :: z :: l).getLast (by simp) = (z :: l).getLast (by simp) from List.getLast_cons (by simp)]
theorem compact_ddp (zs : List Int) : Go.Lib.compact zs = ddp zs := by
  have key : ∀ m : Nat, m ≤ zs.length → Go.Lib.compactUpTo zs.toArray m = ddp (zs.take m) := by
    intro m
    induction m with
    | zero => intro _; simp [Go.Lib.compactUpTo, ddp]
    | succ m ih =>
      intro hm
      rw [Go.Lib.compactUpTo_succ, ih (by omega)]
      have hg : (zs.toArray[m]! : Int) = zs[m]'(by omega) := by
        rw [getElem!_pos _ _ (by simpa using (show m < zs.length by omega))]; simp
      rw [List.take_succ_eq_append_getElem (by omega), hg]
      cases hz : zs.take m with
      | nil =>
        have h0 : m = 0 := by
          have := congrArg List.length hz
          rw [List.length_take, List.length_nil] at this; omega
        subst h0
        simp [Go.Lib.keeps, ddp, ddpA]
      | cons x l =>
        have hm0 : 0 < m := by
          have := congrArg List.length hz
          rw [List.length_take, List.length_cons] at this; omega
        rw [List.cons_append, ddp, ddp, ddpA_snoc, List.cons_append]
        congr 2
        have hl : (x :: l).getLast (by simp) = zs[m - 1]'(by omega) := by
          have hl2 : (zs.take m).length = m := by rw [List.length_take]; omega
          have h1 : (zs.take m).getLast? = some (zs[m - 1]'(by omega)) := by
            rw [List.getLast?_eq_getElem?, hl2, List.getElem?_take_of_lt (by omega), List.getElem?_eq_getElem]
          rw [hz, List.getLast?_eq_some_getLast (by simp)] at h1
          exact Option.some.inj h1
        have hg1 : (zs.toArray[m - 1]! : Int) = zs[m - 1]'(by omega) := by
          rw [getElem!_pos _ _ (by simpa using (show m - 1 < zs.length by omega))]; simp
        rw [hl]
        by_cases he : zs[m]'(by omega) = zs[m - 1]'(by omega)
        · rw [if_pos he, if_neg]
          rw [Go.Lib.keeps_neg hm0 (by rw [hg, hg1]; exact he)]
          decide
        · rw [if_neg he, if_pos]
          exact Go.Lib.keeps_pos (by rw [hg, hg1]; exact he)
  have := key zs.length (Nat.le_refl _)
  rw [List.take_length] at this
  exact this

theorem ddpA_mem (z : Int) : ∀ (l : List Int) (x : Int), (z = x ∨ z ∈ ddpA x l) ↔ (z = x ∨ z ∈ l)
  | [], x => by simp [ddpA]
  | y :: l, x => by
    simp only [ddpA, List.mem_cons]
    by_cases h : y = x
    · subst h
      rw [if_pos rfl, ddpA_mem z l y]
      constructor
      · rintro (h | h)
        · exact .inl h
        · exact .inr (.inr h)
      · rintro (h | h | h)
        · exact .inl h
        · exact .inl h
        · exact .inr h
    · rw [if_neg h, List.mem_cons, ddpA_mem z l y]
theorem ddp_mem (z : Int) : ∀ (l : List Int), z ∈ ddp l ↔ z ∈ l
  | [] => by simp [ddp]
  | x :: l => by simp only [ddp, List.mem_cons]; exact ddpA_mem z l x
theorem ddpA_lt : ∀ (l : List Int) (x : Int), (x :: l).Pairwise (· ≤ ·) → (x :: ddpA x l).Pairwise (· < ·)
  | [], x, _ => by simp [ddpA]
  | y :: l, x, h => by
    rw [List.pairwise_cons] at h
    obtain ⟨h1, h2⟩ := h
    simp only [ddpA]
    by_cases e : y = x
    · subst e
      rw [if_pos rfl]
      exact ddpA_lt l y h2
    · rw [if_neg e]
      have h3 := ddpA_lt l y h2
      rw [List.pairwise_cons] at h2
      refine List.pairwise_cons.2 ⟨?_, h3⟩
      intro z hz
      have hxy := h1 y (List.mem_cons_self ..)
      have : z = y ∨ z ∈ l := by
        have := (ddpA_mem z l y).1 (List.mem_cons.1 hz)
        exact this
      rcases this with rfl | hz
      · omega
      · have := h2.1 z hz; omega
theorem ddp_lt {l : List Int} (h : l.Pairwise (· ≤ ·)) : (ddp l).Pairwise (· < ·) := by
  cases l with
  | nil => simp [ddp]
  | cons x l => exact ddpA_lt l x h
/-- Lists in order, with the same elements, are the same. -/
theorem lt_ext : ∀ {a b : List Int}, a.Pairwise (· < ·) → b.Pairwise (· < ·) → (∀ z, z ∈ a ↔ z ∈ b) → a = b
  | [], [], _, _, _ => rfl
  | [], y :: b, _, _, h => by have := (h y).2 (List.mem_cons_self ..); cases this
  | x :: a, [], _, _, h => by have := (h x).1 (List.mem_cons_self ..); cases this
  | x :: a, y :: b, ha, hb, h => by
    rw [List.pairwise_cons] at ha hb
    have e : x = y := by
      rcases List.mem_cons.1 ((h x).1 (List.mem_cons_self ..)) with h1 | h1
      · exact h1
      · rcases List.mem_cons.1 ((h y).2 (List.mem_cons_self ..)) with h2 | h2
        · exact h2.symm
        · have := hb.1 x h1; have := ha.1 y h2; omega
    subst e
    congr 1
    refine lt_ext ha.2 hb.2 (fun z => ?_)
    constructor
    · intro hz
      rcases List.mem_cons.1 ((h z).1 (List.mem_cons_of_mem _ hz)) with h1 | h1
      · have := ha.1 z hz; omega
      · exact h1
    · intro hz
      rcases List.mem_cons.1 ((h z).2 (List.mem_cons_of_mem _ hz)) with h1 | h1
      · have := hb.1 z hz; omega
      · exact h1

/-! numbers -/
def rho (fixed : Int) (l : List Int) (v : Int) : Int := if v < fixed then v else fixed + (l.idxOf v : Int)
theorem rho_bound {fixed : Int} {l : List Int} (h0 : 0 ≤ fixed) (h1 : fixed ≤ 30) (hl : l.length ≤ 600) : ∀ v, 0 ≤ v → 0 ≤ rho fixed l v ∧ rho fixed l v ≤ 5000 := by
  intro v hv
  unfold rho
  have := List.idxOf_le_length (a := v) (l := l)
  split <;> omega
theorem rho_mem {fixed : Int} {l : List Int} {v : Int} (hv : v ∈ l) (hf : v ≥ fixed) : ∃ k : Nat, rho fixed l v = fixed + (k : Int) ∧ l[k]? = some v := by
  refine ⟨l.idxOf v, ?_, ?_⟩
  · unfold rho; rw [if_neg (by omega)]
  · have := List.idxOf_lt_length_iff.2 hv
    rw [List.getElem?_eq_getElem this, List.getElem_idxOf]
theorem rho_inj {fixed : Int} {l : List Int} (x y : Int) (hx : x ∈ l) (hy : y ∈ l) (h : rho fixed l x = rho fixed l y) : x = y := by
  by_cases h1 : x < fixed
  · by_cases h2 : y < fixed
    · unfold rho at h; rw [if_pos h1, if_pos h2] at h; exact h
    · obtain ⟨k, e, _⟩ := rho_mem hy (show y ≥ fixed by omega)
      rw [e] at h; unfold rho at h; rw [if_pos h1] at h; omega
  · obtain ⟨j, ej, hj⟩ := rho_mem hx (show x ≥ fixed by omega)
    by_cases h2 : y < fixed
    · rw [ej] at h; unfold rho at h; rw [if_pos h2] at h; omega
    · obtain ⟨k, e, hk⟩ := rho_mem hy (show y ≥ fixed by omega)
      rw [ej, e] at h
      have : j = k := by omega
      subst this
      rw [hj] at hk
      exact Option.some.inj hk
theorem rho_open {fixed : Int} {l : List Int} (x : Int) (hx : x ∈ l) : decide (rho fixed l x ≥ fixed) = decide (x ≥ fixed) := by
  by_cases h1 : x < fixed
  · unfold rho; rw [if_pos h1]
  · obtain ⟨j, ej, _⟩ := rho_mem hx (show x ≥ fixed by omega)
    rw [ej, decide_eq_true (by omega), decide_eq_true (by omega)]

theorem indexAt_ev (l : List Int) (v : Int) (hl : l.length ≤ 1000000) : ∀ (ts : List Int) (i : Nat), l.drop i = ts → i + ts.length = l.length → v ∈ ts → Ev (fun n => slices_Index_L1 n l v (i : Int)) (((i + ts.idxOf v : Nat)) : Int) := by
  intro ts
  induction ts with
  | nil => intro i _ _ h; cases h
  | cons u ts ih =>
    intro i hd hi hv
    simp only [List.length_cons] at hi
    refine Ev.succ (fun k => slices_Index_L1.eq_2 ..) (Ev.t (by rw [List.length_map]; simp; omega) (Ev.some (idx_get (getDrop hd)) ?_))
    refine Ev.ite (fun h => ?_) (fun h => ?_)
    · have h : v = u := by simpa using h
      subst h
      exact (Ev.pure _).eq (by simp)
    · have h : ¬ v = u := by simpa using h
      have hv' : v ∈ ts := by
        rcases List.mem_cons.1 hv with e | e
        · exact absurd e h
        · exact e
      rw [wrapS (by omega)]
      refine (ih (i + 1) (dropDrop hd) (by omega) hv').eq ?_
      have : (u :: ts).idxOf v = ts.idxOf v + 1 := by
        rw [List.idxOf_cons]
        have : (u == v) = false := by
          rw [beq_eq_false_iff_ne]; exact fun e => h e.symm
        rw [this]; rfl
      rw [this]
      congr 1; omega
theorem number_ev {fixed : Int} {l : List Int} (v : Int) (h0 : 0 ≤ fixed ∧ fixed ≤ 30) (hl : l.length ≤ 600) (hv : v ∈ l) : Ev (fun n => mode_Strict_1 n v fixed l) (rho fixed l v) := by
  refine Ev.succ (fun k => mode_Strict_1.eq_2 ..) ?_
  unfold rho
  by_cases h : v < fixed
  · rw [if_pos h]
    exact Ev.t (decide_eq_true h) (Ev.pure _)
  · rw [if_neg h]
    have h1 : Ev (fun n => slices_Index n l v) ((l.idxOf v : Nat) : Int) := by
      have := indexAt_ev l v (by omega) l 0 rfl (by simp) hv
      rw [Nat.zero_add] at this
      exact Ev.succ (fun k => slices_Index.eq_2 ..) this
    have := List.idxOf_le_length (a := v) (l := l)
    refine Ev.f (decide_eq_false h) (h1.bind ((Ev.pure _).eq ?_))
    rw [wrap_i64 (by omega) (by omega)]

theorem map_ev {fixed : Int} {l : List Int} (h0 : 0 ≤ fixed ∧ fixed ≤ 30) (hl : l.length ≤ 600) (t : Tm) : ∀ (b : Nat), Pr t → b + t.height ≤ 1000 → (∀ y ∈ fvF t b, y ∈ l) →
    Ev (fun q => term_Map_mode_Strict_2 q t (b : Int) fixed l) (renF (rho fixed l) t b) := by
  induction t using Tm.ind with
  | h t ih =>
    intro b hp hb hf
    have hn := pr_n hp
    have hlen := pr_len hp
    have hh := hb
    rw [Tm.height_eq] at hh
    have node : Ev (fun q => mode_Strict_2 q (Tm.mk t.op t.hd t.n []) (b : Int) fixed l) (Tm.mk t.op t.hd (if t.op = 4 ∧ t.hd = 1 ∧ t.n ≥ b then rho fixed l (t.n - b) + b else t.n) []) := by
      refine Ev.succ (fun q => mode_Strict_2.eq_2 ..) ?_
      have hw : IntKind.i64.wrap (t.n - (b : Int)) = t.n - b := wrap_i64 (by omega) (by omega)
      by_cases h4 : t.op = 4 ∧ t.hd = 1 ∧ t.n ≥ b
      · rw [if_pos h4]
        have hy : t.n - b ∈ l := hf _ (by rw [fvF_eq, if_pos h4]; simp)
        have hrb := rho_bound (fixed := fixed) (l := l) h0.1 h0.2 hl (t.n - b) (by omega)
        have hnum := number_ev (t.n - b) h0 hl hy
        rw [← hw] at hnum
        refine Ev.t ?_ (hnum.bind ((Ev.pure _).eq ?_))
        · show (((t.op == 4) && (t.hd == 1)) && decide (IntKind.i64.wrap (t.n - (b : Int)) ≥ 0)) = true
          rw [h4.1, h4.2.1, hw, decide_eq_true (by omega)]; rfl
        · show Tm.mk t.op t.hd (IntKind.i64.wrap (rho fixed l (IntKind.i64.wrap (t.n - (b : Int))) + b)) [] = _
          rw [hw, wrap_i64 (by omega) (by omega)]
      · rw [if_neg h4]
        refine Ev.f ?_ (Ev.pure _)
        show (((t.op == 4) && (t.hd == 1)) && decide (IntKind.i64.wrap (t.n - (b : Int)) ≥ 0)) = false
        rw [hw]
        simp only [Bool.and_eq_false_iff, beq_eq_false_iff_ne, decide_eq_false_iff_not]
        by_cases c1 : t.op = 4
        · by_cases c2 : t.hd = 1
          · exact .inr (fun c3 => h4 ⟨c1, c2, by omega⟩)
          · exact .inl (.inr c2)
        · exact .inl (.inl c1)
    have loop : ∀ (o h n : Int) (ts : List Tm) (i : Nat) (acc : List Tm), t.args.drop i = ts → i + ts.length = t.args.length → acc.length = i → Ev (fun q => term_Map_mode_Strict_2_L1 q t (b : Int) fixed l (Tm.mk o h n acc) (i : Int)) (Tm.mk o h n (acc ++ renL (rho fixed l) t.op ts i b)) := by
      intro o h n ts
      induction ts with
      | nil =>
        intro i acc hd hi ha
        simp only [List.length_nil, Nat.add_zero] at hi
        exact Ev.succ (fun q => term_Map_mode_Strict_2_L1.eq_2 ..) (Ev.f (by rw [Tm.encL_length]; simp; omega) ((Ev.pure _).eq (by simp [renL])))
      | cons x ts ihl =>
        intro i acc hd hi ha
        simp only [List.length_cons] at hi
        have hx := getDrop hd
        have hxm := List.mem_of_getElem? hx
        have hxh := Tm.height_le hxm
        have hu := under_le t.op i
        obtain ⟨u, hu'⟩ : ∃ u : Nat, under t.op (i : Int) = (u : Int) := ⟨(under t.op i).toNat, by omega⟩
        have e := ih x hxm (b + u) (pr_arg hp hxm) (by omega) (by
          intro y hy
          refine hf y ?_
          rw [fvF_eq, List.mem_append]
          refine .inr (fvL_mem y t.op t.args 0 b i x hx ?_)
          rw [Nat.zero_add, hu']
          exact hy)
        refine Ev.succ (fun q => term_Map_mode_Strict_2_L1.eq_2 ..) (Ev.t (by rw [Tm.encL_length]; simp; omega) (Ev.some (idx_get hx) ((under_ev t i).bind ?_)))
        rw [hu', wrap_i64 (n := (b : Int) + u) (by omega) (by omega)]
        refine e.bind (Ev.need ?_ ?_)
        · rw [Tm.encL_length]
          simp only [Tm.args, List.length_append, List.length_cons, List.length_nil]
          exact decide_eq_true (by omega)
        · rw [wrapS (by omega)]
          have := ihl (i + 1) (acc ++ [renF (rho fixed l) x ((b + u : Nat) : Int)]) (dropDrop hd) (by omega) (by simp; omega)
          refine this.eq ?_
          simp only [renL, hu', List.append_assoc, List.cons_append, List.nil_append]
          rfl
    refine Ev.succ (fun q => term_Map_mode_Strict_2.eq_2 ..) (node.bind ?_)
    have := loop t.op t.hd (if t.op = 4 ∧ t.hd = 1 ∧ t.n ≥ b then rho fixed l (t.n - b) + b else t.n) t.args 0 [] rfl (by simp) rfl
    refine this.eq ?_
    cases t; rfl

mutual
theorem fv_ren {ρ : Int → Int} (hρ : ∀ v, 0 ≤ v → 0 ≤ ρ v ∧ ρ v ≤ 5000) : ∀ (t : Tm) (b : Int), 0 ≤ b → fvF (renF ρ t b) b = (fvF t b).map ρ
  | .mk o h n us, b, hb => by
    simp only [renF, fvF, List.map_append]
    rw [fv_renL hρ o us 0 b hb]
    congr 1
    by_cases h1 : o = 4 ∧ h = 1 ∧ n ≥ b
    · have := hρ (n - b) (by omega)
      rw [show (if o = 4 ∧ h = 1 ∧ n ≥ b then ρ (n - b) + b else n) = ρ (n - b) + b from if_pos h1, if_pos ⟨h1.1, h1.2.1, by omega⟩, if_pos h1]
      simp
    · rw [show (if o = 4 ∧ h = 1 ∧ n ≥ b then ρ (n - b) + b else n) = n from if_neg h1, if_neg h1]; rfl
theorem fv_renL {ρ : Int → Int} (hρ : ∀ v, 0 ≤ v → 0 ≤ ρ v ∧ ρ v ≤ 5000) : ∀ (o : Int) (us : List Tm) (i : Nat) (b : Int), 0 ≤ b → fvL o (renL ρ o us i b) i b = (fvL o us i b).map ρ
  | _, [], _, _, _ => rfl
  | o, u :: us, i, b, hb => by
    have hu := under_le o i
    simp only [renL, fvL, List.map_append]
    rw [fv_ren hρ u _ (by omega), fv_renL hρ o us (i + 1) b hb]
 end
mutual
theorem fv_bound : ∀ (t : Tm) (b : Int), okAll t = true → 0 ≤ b → ∀ x ∈ fvF t b, 0 ≤ x ∧ x ≤ 9999
  | .mk o h n us, b, hok, hb, x, hx => by
    have hn := okAll_n hok
    simp only [Tm.n] at hn
    simp only [okAll, Bool.and_eq_true] at hok
    simp only [fvF, List.mem_append] at hx
    rcases hx with hx | hx
    · split at hx
      · rw [List.mem_singleton] at hx; omega
      · cases hx
    · exact fv_boundL o us 0 b hok.2 hb x hx
theorem fv_boundL : ∀ (o : Int) (us : List Tm) (i : Nat) (b : Int), okAllL us = true → 0 ≤ b → ∀ x ∈ fvL o us i b, 0 ≤ x ∧ x ≤ 9999
  | _, [], _, _, _, _, x, hx => by cases hx
  | o, u :: us, i, b, hok, hb, x, hx => by
    have hu := under_le o i
    simp only [okAllL, Bool.and_eq_true] at hok
    simp only [fvL, List.mem_append] at hx
    rcases hx with hx | hx
    · exact fv_bound u _ hok.1 (by omega) x hx
    · exact fv_boundL o us (i + 1) b hok.2 hb x hx
 end

theorem freeL_mem {t : Tm} (hp : Pr t) (x : Int) : x ∈ freeL t ↔ x ∈ fvF t 0 := by
  obtain ⟨hok, hh, _⟩ := proper_small hp
  rw [freeL, if_pos hp, numsOf, sorted_mem, walk_mem x t 0 [] hok (by omega) (by omega)]
  simp
theorem freeL_len {t : Tm} (hp : Pr t) : (freeL t).length ≤ 600 := by
  have h1 := walkF_length freeOf t [] 0
  have h2 := (proper_small hp).2.2
  rw [freeL, if_pos hp]
  simp only [numsOf, sorted, List.length_mergeSort, List.length_map]
  simp only [List.length_nil] at h1
  omega

/-! what Strict returns -/
abbrev openF (fixed : Int) : Int → Bool := fun v => decide (v ≥ fixed)
def strictL (t : Tm) (fixed : Int) : List Int := ddp (sorted (strF (openF fixed) t 0))

def fillS (n : Nat) (fixed : Int) (k : Nat) : List Bool := (List.range n).map (fun j => if j < k then decide ((n : Int) - 1 - (j : Int) ≥ fixed) else false)
theorem fillS_len (n : Nat) (fixed : Int) (k : Nat) : (fillS n fixed k).length = n := by simp [fillS]
theorem fillS_0 (n : Nat) (fixed : Int) : fillS n fixed 0 = List.replicate n false := by
  apply List.ext_getElem
  · simp [fillS]
  · intro i h1 h2; simp [fillS]
theorem fillS_set (n : Nat) (fixed : Int) (k : Nat) (hk : k < n) : (fillS n fixed k).set k (decide ((n : Int) - 1 - (k : Int) ≥ fixed)) = fillS n fixed (k + 1) := by
  apply List.ext_getElem
  · simp [fillS]
  · intro i h1 h2
    rw [List.getElem_set]
    simp only [fillS, List.getElem_map, List.getElem_range]
    by_cases e : k = i
    · subst e; rw [if_pos rfl, if_pos (by omega)]
    · rw [if_neg e]
      by_cases h : i < k
      · rw [if_pos h, if_pos (by omega)]
      · rw [if_neg h, if_neg (by omega)]
theorem fillS_lv (n : Nat) (fixed : Int) : Lv (fillS n fixed n) (openF fixed) := by
  intro v h0 h1
  rw [fillS_len] at h1 ⊢
  obtain ⟨j, hj⟩ : ∃ j : Nat, (n : Int) - 1 - v = (j : Int) := ⟨((n : Int) - 1 - v).toNat, by omega⟩
  rw [hj, idx_nat]
  simp only [fillS, List.getElem?_map]
  rw [List.getElem?_range (by omega)]
  simp only [Option.map_some, Option.some.injEq]
  rw [if_pos (by omega), show (n : Int) - 1 - (j : Int) = v by omega]
end Go.Proofs.YtogicnodmgdnbaaGreat
end
