/- Merged texts: G3. PrintFree and PrintOnce with fuel, and their contracts. Conditions stand in each. -/
import Derived.Test.YtpibdcjdamibdaaGreatDoorQI
/-! G3 -/
section
namespace Go.Proofs.YtpibdcjdamibdaaGreatDoor
open Go.Tr Go
set_option maxRecDepth 10000
set_option linter.unusedVariables false
set_option linter.unusedSimpArgs false

structure Tk where
  kind : Int
  text : ByteArray
  at_ : Int
abbrev Tk.enc (t : Tk) : D := .agg [.int .i64 t.kind, .str t.text, .int .i64 t.at_]
abbrev Tk.encL (l : List Tk) : List D := l.map Tk.enc
theorem Tk.encL_eq (l : List Tk) : Tk.encL l = l.map Tk.enc := rfl
theorem Tk.enc_eq (t : Tk) : t.enc = .agg [.int .i64 t.kind, .str t.text, .int .i64 t.at_] := rfl
theorem Tk.encL_length (l : List Tk) : (Tk.encL l).length = l.length := by simp
theorem Tk.encL_get {l : List Tk} {i : Nat} {t : Tk} (h : l[i]? = some t) : (Tk.encL l)[i]? = some (.agg [.int .i64 t.kind, .str t.text, .int .i64 t.at_]) := by rw [Tk.encL_eq, List.getElem?_map, h]; rfl
structure Rdr where
  l : (List Tk)
  at_ : Int
  bad : Bool
abbrev Rdr.enc (t : Rdr) : D := .agg [.sl 3 (Tk.encL t.l), .int .i64 t.at_, .bool t.bad]
abbrev Rdr.encL (l : List Rdr) : List D := l.map Rdr.enc
theorem Rdr.encL_eq (l : List Rdr) : Rdr.encL l = l.map Rdr.enc := rfl
theorem Rdr.enc_eq (t : Rdr) : t.enc = .agg [.sl 3 (Tk.encL t.l), .int .i64 t.at_, .bool t.bad] := rfl
theorem Rdr.encL_length (l : List Rdr) : (Rdr.encL l).length = l.length := by simp
theorem Rdr.encL_get {l : List Rdr} {i : Nat} {t : Rdr} (h : l[i]? = some t) : (Rdr.encL l)[i]? = some (.agg [.sl 3 (Tk.encL t.l), .int .i64 t.at_, .bool t.bad]) := by rw [Rdr.encL_eq, List.getElem?_map, h]; rfl
mutual
def R02_has : Nat → (List ByteArray) → ByteArray → Option (Bool)
  | 0, _, _ => none
  | n + 1, v1, v3 =>
    R02_has_L1 n v1 v3 0
def R02_has_L1 : Nat → (List ByteArray) → ByteArray → Int → Option (Bool)
  | 0, _, _, _ => none
  | n + 1, v1, v3, v10 =>
    cond (decide (v10 < ((List.map D.str v1).length : Int))) (
    (idx v1 v10).bind (fun v12 =>
    cond (v12.toList == v3.toList) (
    some (true)) (
    R02_has_L1 n v1 v3 (IntKind.i64.wrap (v10 + 1))))) (
    some (false))
 end
theorem R02_has_spec (n : Nat) (v1 : (List ByteArray)) (v3 : ByteArray) (a2 : Option Addr) (c2 : Nat) (r : Bool) (hr : R02_has n v1 v3 = some r) : Pure Tryz.prog (.val (.fn (.func 61) [] [])) [(.v (.slice a2 ((List.map D.str v1).length) c2)), (.v (.string v3))] [(.slice a2 ((List.map D.str v1).length) c2, .sl 1 (List.map D.str v1))] (fun r' out => r' = (.v (.bool r)) ∧ out = []) := by
  rcases n with _ | n
  · exact no_some hr
  rw [R02_has.eq_2] at hr
  refine spec_of_body (N := 17) (m := 0) (dt := fun _ => none) [] ttOK Tryz.func61 rfl Tryz.call61 Tryz.ntmps61 rfl rfl rfl mixed (by kernel_rfl) ?_
  refine AtLoop.mk ⟨Nat × Int, fun x => [(1, (.v (.string v3))), (7, (.v (.slice a2 ((List.map D.str v1).length) c2))), (8, (.v (.int .i64 ((List.map D.str v1).length : Int)))), (9, (.v (.int .i64 x.2)))], fun x => ⟨[], [], [(.slice a2 ((List.map D.str v1).length) c2, .sl 1 (List.map D.str v1))]⟩, fun x => R02_has_L1 x.1 v1 v3 x.2 = some r, fun x => x.1, (n, 0), hr, ⟨rfl, rfl, rfl, rfl, trivial⟩, (StLe.gen 0 [] [.old 0] rfl rfl rfl rfl rfl rfl rfl), fun x _ => ⟨rfl, rfl⟩, ?_⟩
  rintro ⟨n, v10⟩ HH
  have hr : R02_has_L1 n v1 v3 v10 = some r := HH
  rcases n with _ | n
  · exact no_some hr
  rw [R02_has_L1.eq_2] at hr
  refine AtIf.mk (fun h11 => ?_) (fun h11 => ?_)
  · replace hr := cond_t h11 hr
    obtain ⟨v12, h13, hr⟩ := bind_some hr
    obtain ⟨h14, h15⟩ := idx_some h13
    refine at_index ttOK 0 rfl rfl rfl rfl h14 (map_get D.str h15) ?_
    refine AtIf.mk (fun h16 => ?_) (fun h16 => ?_)
    · replace hr := cond_t h16 hr
      replace hr := Option.some.inj hr
      subst hr
      exact AtRet.pureG [] [] rfl rfl ⟨rfl, rfl⟩
    · replace hr := cond_f h16 hr
      exact ⟨(n, (IntKind.i64.wrap (v10 + 1))), hr, Nat.lt_succ_self _, ⟨rfl, rfl, rfl, rfl, trivial⟩, (StLe.gen 0 [] [.old 0] rfl rfl rfl rfl rfl rfl rfl)⟩
  · replace hr := cond_f h11 hr
    replace hr := Option.some.inj hr
    subst hr
    exact AtRet.pureG [] [] rfl rfl ⟨rfl, rfl⟩
mutual
def R02_free : Nat → Rw → (List ByteArray) → (List ByteArray) → Option ((List ByteArray))
  | 0, _, _, _ => none
  | n + 1, v1, v3, v5 =>
    cond (v1.op == 2) (
    (R02_has n v3 v1.name).bind (fun v8 =>
    cond (!v8) (
    (R02_has n v5 v1.name).bind (fun v11 =>
    cond (!v11) (
    cond (decide ((List.map D.str (v5 ++ [v1.name])).length ≤ 1000000)) (
    some ((v5 ++ [v1.name]))) none) (
    some (v5)))) (
    some (v5)))) (
    cond (v1.op == 5) (
    cond (v1.op == 5) (
    (idx v1.args 0).bind (fun v19 =>
    (R02_free n v19 v3 v5).bind (fun v24 =>
    cond (decide ((List.map D.str v3).length ≤ 1000000)) (
    cond (decide ((List.map D.str (v3 ++ [v1.name])).length ≤ 1000000)) (
    (idx v1.args 1).bind (fun v32 =>
    (R02_free n v32 (v3 ++ [v1.name]) v24).bind (fun v37 =>
    some (v37)))) none) none))) (
    R02_free_L1 n v1 v3 v5 0)) (
    cond (v1.op == 7) (
    (idx v1.args 0).bind (fun v62 =>
    (R02_free n v62 v3 v5).bind (fun v67 =>
    cond (decide ((List.map D.str v3).length ≤ 1000000)) (
    cond (decide ((List.map D.str (v3 ++ [v1.name])).length ≤ 1000000)) (
    (idx v1.args 1).bind (fun v75 =>
    (R02_free n v75 (v3 ++ [v1.name]) v67).bind (fun v80 =>
    some (v80)))) none) none))) (
    R02_free_L1 n v1 v3 v5 0)))
def R02_free_L1 : Nat → Rw → (List ByteArray) → (List ByteArray) → Int → Option ((List ByteArray))
  | 0, _, _, _, _ => none
  | n + 1, v1, v3, v49, v51 =>
    cond (decide (v51 < ((Rw.encL v1.args).length : Int))) (
    (idx v1.args v51).bind (fun v53 =>
    (R02_free n v53 v3 v49).bind (fun v58 =>
    R02_free_L1 n v1 v3 v58 (IntKind.i64.wrap (v51 + 1))))) (
    some (v49))
 end
theorem R02_free_specN : ∀ (N : Nat), (∀ (n : Nat), n ≤ N → ∀ (v1 : Rw) (v3 : (List ByteArray)) (v5 : (List ByteArray)) (a2 : Option Addr) (c2 : Nat) (a4 : Option Addr) (c4 : Nat) (a6 : Option Addr) (c6 : Nat) (r : (List ByteArray)), R02_free n v1 v3 v5 = some r → Meets Tryz.prog (.val (.fn (.func 32) [] [])) [(.agg [(.v (.int .i64 v1.op)), (.v (.string v1.name)), (.v (.slice a2 ((Rw.encL v1.args).length) c2))]), (.v (.slice a4 ((List.map D.str v3).length) c4)), (.v (.slice a6 ((List.map D.str v5).length) c6))] ⟨[], [⟨.slice a6 ((List.map D.str v5).length) c6, 1, 9, (List.map D.str v5)⟩], [(.slice a2 ((Rw.encL v1.args).length) c2, .sl 3 (Rw.encL v1.args)), (.slice a4 ((List.map D.str v3).length) c4, .sl 1 (List.map D.str v3))]⟩ (fun o S' => ∃ (b1 : Option Addr) (d1 : Nat), o = .ret (.v (.slice b1 ((List.map D.str r).length) d1)) ∧ S' = ⟨[], [⟨.slice b1 ((List.map D.str r).length) d1, 1, 9, (List.map D.str r)⟩], []⟩)) := by
  intro N
  induction N with
  | zero =>
    intro n hn v1 v3 v5 a2 c2 a4 c4 a6 c6 r hr; obtain rfl : n = 0 := (by omega); exact no_some hr
  | succ N ih =>
    intro n hn v1 v3 v5 a2 c2 a4 c4 a6 c6 r hr
    rcases n with _ | n
    · exact no_some hr
    replace hn : n ≤ N := by omega
    rw [R02_free.eq_2] at hr
    refine spec_of_body (N := 72) (m := 0) (dt := fun _ => none) [] ttOK Tryz.func32 rfl Tryz.call32 Tryz.ntmps32 rfl rfl rfl mixed (by kernel_rfl) ?_
    refine AtIf.mk (fun h7 => ?_) (fun h7 => ?_)
    · replace hr := cond_t h7 hr
      obtain ⟨v8, h9, hr⟩ := bind_some hr
      refine (R02_has_spec n v3 v1.name a4 c4 _ h9).atR [1] rfl rfl rfl ?_
      rintro _ _ ⟨rfl, rfl⟩
      refine AtGuard.mk (fun h10 => ?_) (fun h10 => ?_)
      · replace hr := cond_t h10 hr
        obtain ⟨v11, h12, hr⟩ := bind_some hr
        refine (R02_has_spec n v5 v1.name a6 c6 _ h12).atB [.froz 0] rfl rfl rfl ?_
        rintro _ _ ⟨rfl, rfl⟩
        refine ⟨rfl, ?_⟩
        refine AtIf.mk (fun h13 => ?_) (fun h13 => ?_)
        · replace hr := cond_t h13 hr
          refine at_buildG (n := 1) ttOK 16 [.str v1.name] (ds' := (List.map D.str ([v1.name]))) rfl (by kernel_rfl) ⟨⟨rfl, rfl, rfl, rfl⟩, trivial⟩ rfl rfl (by decide) (by decide) ?_
          intro a14
          obtain ⟨h15, hr⟩ := cond_need hr
          refine at_appendG (ds' := (List.map D.str (v5 ++ [v1.name]))) ttOK 16 0 2 rfl (by kernel_rfl) rfl rfl rfl rfl (by simp only [List.map_append]) h15 (by decide) ?_
          intro a16 c16
          replace hr := Option.some.inj hr
          subst hr
          exact AtRet.gen ⟨[], [⟨.slice a16 ((List.map D.str (v5 ++ [v1.name])).length) c16, 1, 9, (List.map D.str (v5 ++ [v1.name]))⟩], []⟩ (StLe.gen 0 [.old 0] [] rfl rfl rfl rfl rfl rfl rfl) rfl rfl ⟨a16, c16, rfl, rfl⟩
        · replace hr := cond_f h13 hr
          replace hr := Option.some.inj hr
          subst hr
          exact AtRet.gen ⟨[], [⟨.slice a6 ((List.map D.str v5).length) c6, 1, 9, (List.map D.str v5)⟩], []⟩ (StLe.gen 0 [.old 0] [] rfl rfl rfl rfl rfl rfl rfl) rfl rfl ⟨a6, c6, rfl, rfl⟩
      · replace hr := cond_f h10 hr
        refine AtIf.mk (fun h => ff h) (fun _ => ?_)
        replace hr := Option.some.inj hr
        subst hr
        exact AtRet.gen ⟨[], [⟨.slice a6 ((List.map D.str v5).length) c6, 1, 9, (List.map D.str v5)⟩], []⟩ (StLe.gen 0 [.old 0] [] rfl rfl rfl rfl rfl rfl rfl) rfl rfl ⟨a6, c6, rfl, rfl⟩
    · replace hr := cond_f h7 hr
      refine AtIf.mk (fun h17 => ?_) (fun h17 => ?_)
      · replace hr := cond_t h17 hr
        refine AtIf.mk (fun h18 => ?_) (fun h18 => ?_)
        · replace hr := cond_t h18 hr
          obtain ⟨v19, h20, hr⟩ := bind_some hr
          obtain ⟨h21, h22⟩ := idx_some h20
          refine at_index ttOK 0 rfl rfl rfl rfl h21 (Rw.encL_get h22) ?_
          intro a23 c23 _ _
          obtain ⟨v24, h25, hr⟩ := bind_some hr
          refine (ih n (by omega) v19 v3 v5 a23 c23 a4 c4 a6 c6 _ h25).frameRA [] [0] [2, 1] rfl rfl rfl rfl rfl rfl rfl rfl rfl ?_
          rintro _ _ ⟨a26, c26, rfl, rfl⟩
          refine ⟨rfl, [], rfl, ?_⟩
          obtain ⟨h27, hr⟩ := cond_need hr
          refine AtSem.le (S' := ⟨[.cells 31 [(.v (.int .i64 v1.op)), (.v (.string v1.name)), (.v (.slice a2 ((Rw.encL v1.args).length) c2))], .imm [(.v (.int .i64 v19.op)), (.v (.string v19.name)), (.v (.slice a23 ((Rw.encL v19.args).length) c23))]], [⟨.slice none 0 0, 1, 9, []⟩, ⟨.slice a26 ((List.map D.str v24).length) c26, 1, 9, (List.map D.str v24)⟩], [(.slice a2 ((Rw.encL v1.args).length) c2, .sl 3 (Rw.encL v1.args)), (.slice a4 ((List.map D.str v3).length) c4, .sl 1 (List.map D.str v3)), (.slice a23 ((Rw.encL v19.args).length) c23, .sl 3 (Rw.encL v19.args))]⟩) (StLe.gen 2 [.nil 1 9, .old 0] [.old 0, .old 1, .old 2] rfl rfl rfl rfl rfl rfl rfl) rfl ?_
          refine at_appendG (ds' := (List.map D.str v3)) ttOK 16 0 1 rfl (by kernel_rfl) rfl rfl rfl rfl (List.nil_append _).symm h27 (by decide) ?_
          intro a28 c28
          refine at_buildG (n := 1) ttOK 16 [.str v1.name] (ds' := (List.map D.str ([v1.name]))) rfl (by kernel_rfl) ⟨⟨rfl, rfl, rfl, rfl⟩, trivial⟩ rfl rfl (by decide) (by decide) ?_
          intro a29
          obtain ⟨h30, hr⟩ := cond_need hr
          refine at_appendG (ds' := (List.map D.str (v3 ++ [v1.name]))) ttOK 16 0 3 rfl (by kernel_rfl) rfl rfl rfl rfl (by simp only [List.map_append]) h30 (by decide) ?_
          intro a31 c31
          obtain ⟨v32, h33, hr⟩ := bind_some hr
          obtain ⟨h34, h35⟩ := idx_some h33
          refine at_index ttOK 0 rfl rfl rfl rfl h34 (Rw.encL_get h35) ?_
          intro a36 c36 _ _
          obtain ⟨v37, h38, hr⟩ := bind_some hr
          refine Meets.le (S' := ⟨[.cells 31 [(.v (.int .i64 v1.op)), (.v (.string v1.name)), (.v (.slice a2 ((Rw.encL v1.args).length) c2))], .imm [(.v (.int .i64 v19.op)), (.v (.string v19.name)), (.v (.slice a23 ((Rw.encL v19.args).length) c23))], .imm [(.v (.int .i64 v32.op)), (.v (.string v32.name)), (.v (.slice a36 ((Rw.encL v32.args).length) c36))]], [⟨.slice a26 ((List.map D.str v24).length) c26, 1, 9, (List.map D.str v24)⟩], [(.slice a31 ((List.map D.str (v3 ++ [v1.name])).length) c31, .sl 1 (List.map D.str (v3 ++ [v1.name]))), (.slice a2 ((Rw.encL v1.args).length) c2, .sl 3 (Rw.encL v1.args)), (.slice a4 ((List.map D.str v3).length) c4, .sl 1 (List.map D.str v3)), (.slice a23 ((Rw.encL v19.args).length) c23, .sl 3 (Rw.encL v19.args)), (.slice a29 ((List.map D.str ([v1.name])).length) 1, .sl 1 (List.map D.str ([v1.name]))), (.slice a36 ((Rw.encL v32.args).length) c36, .sl 3 (Rw.encL v32.args))]⟩) (StLe.gen 3 [.old 1] [.froz 0, .old 0, .old 1, .old 2, .old 3, .old 4] rfl rfl rfl rfl rfl rfl rfl) rfl ?_
          refine (ih n (by omega) v32 (v3 ++ [v1.name]) v24 a36 c36 a31 c31 a26 c26 _ h38).frameRA [] [0] [5, 0] rfl rfl rfl rfl rfl rfl rfl rfl rfl ?_
          rintro _ _ ⟨a39, c39, rfl, rfl⟩
          refine ⟨rfl, [], rfl, ?_⟩
          replace hr := Option.some.inj hr
          subst hr
          exact AtRet.gen ⟨[], [⟨.slice a39 ((List.map D.str v37).length) c39, 1, 9, (List.map D.str v37)⟩], []⟩ (StLe.gen 0 [.old 0] [] rfl rfl rfl rfl rfl rfl rfl) rfl rfl ⟨a39, c39, rfl, rfl⟩
        · replace hr := cond_f h18 hr
          refine AtLoop.mk ⟨Nat × (List ByteArray) × Option Addr × Nat × Int, fun x => [(1, (.v (.slice a4 ((List.map D.str v3).length) c4))), (2, (.v (.slice x.2.2.1 ((List.map D.str x.2.1).length) x.2.2.2.1))), (3, (.loc 0 0)), (8, (.v (.int .i64 x.2.2.2.2)))], fun x => ⟨[.cells 31 [(.v (.int .i64 v1.op)), (.v (.string v1.name)), (.v (.slice a2 ((Rw.encL v1.args).length) c2))]], [⟨.slice x.2.2.1 ((List.map D.str x.2.1).length) x.2.2.2.1, 1, 9, (List.map D.str x.2.1)⟩], [(.slice a2 ((Rw.encL v1.args).length) c2, .sl 3 (Rw.encL v1.args)), (.slice a4 ((List.map D.str v3).length) c4, .sl 1 (List.map D.str v3))]⟩, fun x => x.1 ≤ N ∧ R02_free_L1 x.1 v1 v3 x.2.1 x.2.2.2.2 = some r, fun x => x.1, (n, v5, a6, c6, 0), ⟨by omega, hr⟩, ⟨rfl, rfl, rfl, rfl, trivial⟩, (StLe.gen 1 [.old 0] [.old 0, .old 1] rfl rfl rfl rfl rfl rfl rfl), fun x _ => ⟨rfl, rfl⟩, ?_⟩
          rintro ⟨n, v49, a50, c50, v51⟩ HH
          obtain ⟨hn, hr⟩ : n ≤ N ∧ R02_free_L1 n v1 v3 v49 v51 = some r := HH
          rcases n with _ | n
          · exact no_some hr
          rw [R02_free_L1.eq_2] at hr
          refine AtIf.mk (fun h52 => ?_) (fun h52 => ?_)
          · replace hr := cond_t h52 hr
            obtain ⟨v53, h54, hr⟩ := bind_some hr
            obtain ⟨h55, h56⟩ := idx_some h54
            refine at_index ttOK 0 rfl rfl rfl rfl h55 (Rw.encL_get h56) ?_
            intro a57 c57 _ _
            obtain ⟨v58, h59, hr⟩ := bind_some hr
            refine (ih n (by omega) v53 v3 v49 a57 c57 a4 c4 a50 c50 _ h59).frameRA [] [0] [2, 1] rfl rfl rfl rfl rfl rfl rfl rfl rfl ?_
            rintro _ _ ⟨a60, c60, rfl, rfl⟩
            refine ⟨rfl, [], rfl, ?_⟩
            exact ⟨(n, v58, a60, c60, (IntKind.i64.wrap (v51 + 1))), ⟨by omega, hr⟩, Nat.lt_succ_self _, ⟨rfl, rfl, rfl, rfl, trivial⟩, (StLe.gen 1 [.old 0] [.old 0, .old 1] rfl rfl rfl rfl rfl rfl rfl)⟩
          · replace hr := cond_f h52 hr
            replace hr := Option.some.inj hr
            subst hr
            exact AtRet.gen ⟨[], [⟨.slice a50 ((List.map D.str v49).length) c50, 1, 9, (List.map D.str v49)⟩], []⟩ (StLe.gen 0 [.old 0] [] rfl rfl rfl rfl rfl rfl rfl) rfl rfl ⟨a50, c50, rfl, rfl⟩
      · replace hr := cond_f h17 hr
        refine AtIf.mk (fun h61 => ?_) (fun h61 => ?_)
        · replace hr := cond_t h61 hr
          obtain ⟨v62, h63, hr⟩ := bind_some hr
          obtain ⟨h64, h65⟩ := idx_some h63
          refine at_index ttOK 0 rfl rfl rfl rfl h64 (Rw.encL_get h65) ?_
          intro a66 c66 _ _
          obtain ⟨v67, h68, hr⟩ := bind_some hr
          refine (ih n (by omega) v62 v3 v5 a66 c66 a4 c4 a6 c6 _ h68).frameRA [] [0] [2, 1] rfl rfl rfl rfl rfl rfl rfl rfl rfl ?_
          rintro _ _ ⟨a69, c69, rfl, rfl⟩
          refine ⟨rfl, [], rfl, ?_⟩
          obtain ⟨h70, hr⟩ := cond_need hr
          refine AtSem.le (S' := ⟨[.cells 31 [(.v (.int .i64 v1.op)), (.v (.string v1.name)), (.v (.slice a2 ((Rw.encL v1.args).length) c2))], .imm [(.v (.int .i64 v62.op)), (.v (.string v62.name)), (.v (.slice a66 ((Rw.encL v62.args).length) c66))]], [⟨.slice none 0 0, 1, 9, []⟩, ⟨.slice a69 ((List.map D.str v67).length) c69, 1, 9, (List.map D.str v67)⟩], [(.slice a2 ((Rw.encL v1.args).length) c2, .sl 3 (Rw.encL v1.args)), (.slice a4 ((List.map D.str v3).length) c4, .sl 1 (List.map D.str v3)), (.slice a66 ((Rw.encL v62.args).length) c66, .sl 3 (Rw.encL v62.args))]⟩) (StLe.gen 2 [.nil 1 9, .old 0] [.old 0, .old 1, .old 2] rfl rfl rfl rfl rfl rfl rfl) rfl ?_
          refine at_appendG (ds' := (List.map D.str v3)) ttOK 16 0 1 rfl (by kernel_rfl) rfl rfl rfl rfl (List.nil_append _).symm h70 (by decide) ?_
          intro a71 c71
          refine at_buildG (n := 1) ttOK 16 [.str v1.name] (ds' := (List.map D.str ([v1.name]))) rfl (by kernel_rfl) ⟨⟨rfl, rfl, rfl, rfl⟩, trivial⟩ rfl rfl (by decide) (by decide) ?_
          intro a72
          obtain ⟨h73, hr⟩ := cond_need hr
          refine at_appendG (ds' := (List.map D.str (v3 ++ [v1.name]))) ttOK 16 0 3 rfl (by kernel_rfl) rfl rfl rfl rfl (by simp only [List.map_append]) h73 (by decide) ?_
          intro a74 c74
          obtain ⟨v75, h76, hr⟩ := bind_some hr
          obtain ⟨h77, h78⟩ := idx_some h76
          refine at_index ttOK 0 rfl rfl rfl rfl h77 (Rw.encL_get h78) ?_
          intro a79 c79 _ _
          obtain ⟨v80, h81, hr⟩ := bind_some hr
          refine Meets.le (S' := ⟨[.cells 31 [(.v (.int .i64 v1.op)), (.v (.string v1.name)), (.v (.slice a2 ((Rw.encL v1.args).length) c2))], .imm [(.v (.int .i64 v62.op)), (.v (.string v62.name)), (.v (.slice a66 ((Rw.encL v62.args).length) c66))], .imm [(.v (.int .i64 v75.op)), (.v (.string v75.name)), (.v (.slice a79 ((Rw.encL v75.args).length) c79))]], [⟨.slice a69 ((List.map D.str v67).length) c69, 1, 9, (List.map D.str v67)⟩], [(.slice a74 ((List.map D.str (v3 ++ [v1.name])).length) c74, .sl 1 (List.map D.str (v3 ++ [v1.name]))), (.slice a2 ((Rw.encL v1.args).length) c2, .sl 3 (Rw.encL v1.args)), (.slice a4 ((List.map D.str v3).length) c4, .sl 1 (List.map D.str v3)), (.slice a66 ((Rw.encL v62.args).length) c66, .sl 3 (Rw.encL v62.args)), (.slice a72 ((List.map D.str ([v1.name])).length) 1, .sl 1 (List.map D.str ([v1.name]))), (.slice a79 ((Rw.encL v75.args).length) c79, .sl 3 (Rw.encL v75.args))]⟩) (StLe.gen 3 [.old 1] [.froz 0, .old 0, .old 1, .old 2, .old 3, .old 4] rfl rfl rfl rfl rfl rfl rfl) rfl ?_
          refine (ih n (by omega) v75 (v3 ++ [v1.name]) v67 a79 c79 a74 c74 a69 c69 _ h81).frameRA [] [0] [5, 0] rfl rfl rfl rfl rfl rfl rfl rfl rfl ?_
          rintro _ _ ⟨a82, c82, rfl, rfl⟩
          refine ⟨rfl, [], rfl, ?_⟩
          replace hr := Option.some.inj hr
          subst hr
          exact AtRet.gen ⟨[], [⟨.slice a82 ((List.map D.str v80).length) c82, 1, 9, (List.map D.str v80)⟩], []⟩ (StLe.gen 0 [.old 0] [] rfl rfl rfl rfl rfl rfl rfl) rfl rfl ⟨a82, c82, rfl, rfl⟩
        · replace hr := cond_f h61 hr
          refine AtLoop.mk ⟨Nat × (List ByteArray) × Option Addr × Nat × Int, fun x => [(1, (.v (.slice a4 ((List.map D.str v3).length) c4))), (2, (.v (.slice x.2.2.1 ((List.map D.str x.2.1).length) x.2.2.2.1))), (3, (.loc 0 0)), (8, (.v (.int .i64 x.2.2.2.2)))], fun x => ⟨[.cells 31 [(.v (.int .i64 v1.op)), (.v (.string v1.name)), (.v (.slice a2 ((Rw.encL v1.args).length) c2))]], [⟨.slice x.2.2.1 ((List.map D.str x.2.1).length) x.2.2.2.1, 1, 9, (List.map D.str x.2.1)⟩], [(.slice a2 ((Rw.encL v1.args).length) c2, .sl 3 (Rw.encL v1.args)), (.slice a4 ((List.map D.str v3).length) c4, .sl 1 (List.map D.str v3))]⟩, fun x => x.1 ≤ N ∧ R02_free_L1 x.1 v1 v3 x.2.1 x.2.2.2.2 = some r, fun x => x.1, (n, v5, a6, c6, 0), ⟨by omega, hr⟩, ⟨rfl, rfl, rfl, rfl, trivial⟩, (StLe.gen 1 [.old 0] [.old 0, .old 1] rfl rfl rfl rfl rfl rfl rfl), fun x _ => ⟨rfl, rfl⟩, ?_⟩
          rintro ⟨n, v92, a93, c93, v94⟩ HH
          obtain ⟨hn, hr⟩ : n ≤ N ∧ R02_free_L1 n v1 v3 v92 v94 = some r := HH
          rcases n with _ | n
          · exact no_some hr
          rw [R02_free_L1.eq_2] at hr
          refine AtIf.mk (fun h95 => ?_) (fun h95 => ?_)
          · replace hr := cond_t h95 hr
            obtain ⟨v96, h97, hr⟩ := bind_some hr
            obtain ⟨h98, h99⟩ := idx_some h97
            refine at_index ttOK 0 rfl rfl rfl rfl h98 (Rw.encL_get h99) ?_
            intro a100 c100 _ _
            obtain ⟨v101, h102, hr⟩ := bind_some hr
            refine (ih n (by omega) v96 v3 v92 a100 c100 a4 c4 a93 c93 _ h102).frameRA [] [0] [2, 1] rfl rfl rfl rfl rfl rfl rfl rfl rfl ?_
            rintro _ _ ⟨a103, c103, rfl, rfl⟩
            refine ⟨rfl, [], rfl, ?_⟩
            exact ⟨(n, v101, a103, c103, (IntKind.i64.wrap (v94 + 1))), ⟨by omega, hr⟩, Nat.lt_succ_self _, ⟨rfl, rfl, rfl, rfl, trivial⟩, (StLe.gen 1 [.old 0] [.old 0, .old 1] rfl rfl rfl rfl rfl rfl rfl)⟩
          · replace hr := cond_f h95 hr
            replace hr := Option.some.inj hr
            subst hr
            exact AtRet.gen ⟨[], [⟨.slice a93 ((List.map D.str v92).length) c93, 1, 9, (List.map D.str v92)⟩], []⟩ (StLe.gen 0 [.old 0] [] rfl rfl rfl rfl rfl rfl rfl) rfl rfl ⟨a93, c93, rfl, rfl⟩
theorem R02_free_spec (n : Nat) (v1 : Rw) (v3 : (List ByteArray)) (v5 : (List ByteArray)) (a2 : Option Addr) (c2 : Nat) (a4 : Option Addr) (c4 : Nat) (a6 : Option Addr) (c6 : Nat) (r : (List ByteArray)) (hr : R02_free n v1 v3 v5 = some r) : Meets Tryz.prog (.val (.fn (.func 32) [] [])) [(.agg [(.v (.int .i64 v1.op)), (.v (.string v1.name)), (.v (.slice a2 ((Rw.encL v1.args).length) c2))]), (.v (.slice a4 ((List.map D.str v3).length) c4)), (.v (.slice a6 ((List.map D.str v5).length) c6))] ⟨[], [⟨.slice a6 ((List.map D.str v5).length) c6, 1, 9, (List.map D.str v5)⟩], [(.slice a2 ((Rw.encL v1.args).length) c2, .sl 3 (Rw.encL v1.args)), (.slice a4 ((List.map D.str v3).length) c4, .sl 1 (List.map D.str v3))]⟩ (fun o S' => ∃ (b1 : Option Addr) (d1 : Nat), o = .ret (.v (.slice b1 ((List.map D.str r).length) d1)) ∧ S' = ⟨[], [⟨.slice b1 ((List.map D.str r).length) d1, 1, 9, (List.map D.str r)⟩], []⟩) := (R02_free_specN n) n (Nat.le_refl _) v1 v3 v5 a2 c2 a4 c4 a6 c6 r hr
def R02_Free : Nat → Rw → Option ((List ByteArray))
  | 0, _ => none
  | n + 1, v1 =>
    (R02_free n v1 ([]) ([])).bind (fun v3 =>
    some (v3))
theorem R02_Free_spec (n : Nat) (v1 : Rw) (a2 : Option Addr) (c2 : Nat) (r : (List ByteArray)) (hr : R02_Free n v1 = some r) : Pure Tryz.prog (.val (.fn (.func 13) [] [])) [(.agg [(.v (.int .i64 v1.op)), (.v (.string v1.name)), (.v (.slice a2 ((Rw.encL v1.args).length) c2))])] [(.slice a2 ((Rw.encL v1.args).length) c2, .sl 3 (Rw.encL v1.args))] (fun r' out => ∃ (b1 : Option Addr) (d1 : Nat), r' = (.v (.slice b1 ((List.map D.str r).length) d1)) ∧ out = [(.slice b1 ((List.map D.str r).length) d1, .sl 1 (List.map D.str r))]) := by
  rcases n with _ | n
  · exact no_some hr
  rw [R02_Free.eq_2] at hr
  refine spec_of_body (N := 5) (m := 0) (dt := fun _ => none) [] ttOK Tryz.func13 rfl Tryz.call13 Tryz.ntmps13 rfl rfl rfl mixed (by kernel_rfl) ?_
  obtain ⟨v3, h4, hr⟩ := bind_some hr
  refine Meets.nilRep 1 ?_
  refine Meets.le (S' := ⟨[.cells 31 [(.v (.int .i64 v1.op)), (.v (.string v1.name)), (.v (.slice a2 ((Rw.encL v1.args).length) c2))]], [⟨.slice none 0 0, 1, 9, []⟩], [(.slice none 0 0, .sl 1 []), (.slice a2 ((Rw.encL v1.args).length) c2, .sl 3 (Rw.encL v1.args))]⟩) (StLe.gen 1 [.nil 1 9] [.old 0, .old 1] rfl rfl rfl rfl rfl rfl rfl) rfl ?_
  refine (R02_free_spec n v1 ([]) ([]) a2 c2 none 0 none 0 _ h4).frameRA [] [0] [1, 0] rfl rfl rfl rfl rfl rfl rfl rfl rfl ?_
  rintro _ _ ⟨a5, c5, rfl, rfl⟩
  refine ⟨rfl, [], rfl, ?_⟩
  replace hr := Option.some.inj hr
  subst hr
  exact AtRet.pureG [.froz 0] [(.slice a5 ((List.map D.str v3).length) c5, .sl 1 (List.map D.str v3))] rfl rfl ⟨a5, c5, rfl, rfl⟩
mutual
def W07_has : Nat → (List ByteArray) → ByteArray → Option (Bool)
  | 0, _, _ => none
  | n + 1, v1, v3 =>
    W07_has_L1 n v1 v3 0
def W07_has_L1 : Nat → (List ByteArray) → ByteArray → Int → Option (Bool)
  | 0, _, _, _ => none
  | n + 1, v1, v3, v10 =>
    cond (decide (v10 < ((List.map D.str v1).length : Int))) (
    (idx v1 v10).bind (fun v12 =>
    cond (v12.toList == v3.toList) (
    some (true)) (
    W07_has_L1 n v1 v3 (IntKind.i64.wrap (v10 + 1))))) (
    some (false))
 end
theorem W07_has_spec (n : Nat) (v1 : (List ByteArray)) (v3 : ByteArray) (a2 : Option Addr) (c2 : Nat) (r : Bool) (hr : W07_has n v1 v3 = some r) : Pure Tryz.prog (.val (.fn (.func 14) [] [])) [(.v (.slice a2 ((List.map D.str v1).length) c2)), (.v (.string v3))] [(.slice a2 ((List.map D.str v1).length) c2, .sl 1 (List.map D.str v1))] (fun r' out => r' = (.v (.bool r)) ∧ out = []) := by
  rcases n with _ | n
  · exact no_some hr
  rw [W07_has.eq_2] at hr
  refine spec_of_body (N := 17) (m := 0) (dt := fun _ => none) [] ttOK Tryz.func14 rfl Tryz.call14 Tryz.ntmps14 rfl rfl rfl mixed (by kernel_rfl) ?_
  refine AtLoop.mk ⟨Nat × Int, fun x => [(1, (.v (.string v3))), (7, (.v (.slice a2 ((List.map D.str v1).length) c2))), (8, (.v (.int .i64 ((List.map D.str v1).length : Int)))), (9, (.v (.int .i64 x.2)))], fun x => ⟨[], [], [(.slice a2 ((List.map D.str v1).length) c2, .sl 1 (List.map D.str v1))]⟩, fun x => W07_has_L1 x.1 v1 v3 x.2 = some r, fun x => x.1, (n, 0), hr, ⟨rfl, rfl, rfl, rfl, trivial⟩, (StLe.gen 0 [] [.old 0] rfl rfl rfl rfl rfl rfl rfl), fun x _ => ⟨rfl, rfl⟩, ?_⟩
  rintro ⟨n, v10⟩ HH
  have hr : W07_has_L1 n v1 v3 v10 = some r := HH
  rcases n with _ | n
  · exact no_some hr
  rw [W07_has_L1.eq_2] at hr
  refine AtIf.mk (fun h11 => ?_) (fun h11 => ?_)
  · replace hr := cond_t h11 hr
    obtain ⟨v12, h13, hr⟩ := bind_some hr
    obtain ⟨h14, h15⟩ := idx_some h13
    refine at_index ttOK 0 rfl rfl rfl rfl h14 (map_get D.str h15) ?_
    refine AtIf.mk (fun h16 => ?_) (fun h16 => ?_)
    · replace hr := cond_t h16 hr
      replace hr := Option.some.inj hr
      subst hr
      exact AtRet.pureG [] [] rfl rfl ⟨rfl, rfl⟩
    · replace hr := cond_f h16 hr
      exact ⟨(n, (IntKind.i64.wrap (v10 + 1))), hr, Nat.lt_succ_self _, ⟨rfl, rfl, rfl, rfl, trivial⟩, (StLe.gen 0 [] [.old 0] rfl rfl rfl rfl rfl rfl rfl)⟩
  · replace hr := cond_f h11 hr
    replace hr := Option.some.inj hr
    subst hr
    exact AtRet.pureG [] [] rfl rfl ⟨rfl, rfl⟩
def R01_comment : Nat → ByteArray → Int → Option (Bool)
  | 0, _, _ => none
  | n + 1, v1, v2 =>
    cond (v2 == (v1.size : Int)) (
    some (true)) (
    (idx v1.data.toList v2).bind (fun v4 =>
    cond ((v4.toNat : Int) == 32) (
    some (true)) (
    (idx v1.data.toList v2).bind (fun v9 =>
    cond ((v9.toNat : Int) == 9) (
    some (true)) (
    (idx v1.data.toList v2).bind (fun v14 =>
    cond ((v14.toNat : Int) == 13) (
    some (true)) (
    (idx v1.data.toList v2).bind (fun v19 =>
    cond ((v19.toNat : Int) == 10) (
    some (true)) (
    (idx v1.data.toList v2).bind (fun v24 =>
    some (((v24.toNat : Int) == 37))))))))))))
theorem R01_comment_spec (n : Nat) (v1 : ByteArray) (v2 : Int)  (r : Bool) (hr : R01_comment n v1 v2 = some r) : Pure Tryz.prog (.val (.fn (.func 96) [] [])) [(.v (.string v1)), (.v (.int .i64 v2))] [] (fun r' out => r' = (.v (.bool r)) ∧ out = []) := by
  rcases n with _ | n
  · exact no_some hr
  rw [R01_comment.eq_2] at hr
  refine spec_of_body (N := 39) (m := 0) (dt := fun _ => none) [] ttOK Tryz.func96 rfl Tryz.call96 Tryz.ntmps96 rfl rfl rfl mixed (by kernel_rfl) ?_
  refine AtGuard.mk (fun h3 => ?_) (fun h3 => ?_)
  · replace hr := cond_f h3 hr
    obtain ⟨v4, h5, hr⟩ := bind_some hr
    obtain ⟨h6, h7⟩ := idx_some h5
    refine at_index_str ttOK rfl rfl rfl h6 h7 ?_
    refine AtGuard.mk (fun h8 => ?_) (fun h8 => ?_)
    · replace hr := cond_f h8 hr
      obtain ⟨v9, h10, hr⟩ := bind_some hr
      obtain ⟨h11, h12⟩ := idx_some h10
      refine at_index_str ttOK rfl rfl rfl h11 h12 ?_
      refine AtGuard.mk (fun h13 => ?_) (fun h13 => ?_)
      · replace hr := cond_f h13 hr
        obtain ⟨v14, h15, hr⟩ := bind_some hr
        obtain ⟨h16, h17⟩ := idx_some h15
        refine at_index_str ttOK rfl rfl rfl h16 h17 ?_
        refine AtGuard.mk (fun h18 => ?_) (fun h18 => ?_)
        · replace hr := cond_f h18 hr
          obtain ⟨v19, h20, hr⟩ := bind_some hr
          obtain ⟨h21, h22⟩ := idx_some h20
          refine at_index_str ttOK rfl rfl rfl h21 h22 ?_
          refine AtGuard.mk (fun h23 => ?_) (fun h23 => ?_)
          · replace hr := cond_f h23 hr
            obtain ⟨v24, h25, hr⟩ := bind_some hr
            obtain ⟨h26, h27⟩ := idx_some h25
            refine at_index_str ttOK rfl rfl rfl h26 h27 ?_
            replace hr := Option.some.inj hr
            subst hr
            exact AtRet.pureG [] [] rfl rfl ⟨rfl, rfl⟩
          · replace hr := cond_t h23 hr
            replace hr := Option.some.inj hr
            subst hr
            exact AtRet.pureG [] [] rfl rfl ⟨rfl, rfl⟩
        · replace hr := cond_t h18 hr
          refine AtGuard.mk (fun h => tf h) (fun _ => ?_)
          replace hr := Option.some.inj hr
          subst hr
          exact AtRet.pureG [] [] rfl rfl ⟨rfl, rfl⟩
      · replace hr := cond_t h13 hr
        refine AtGuard.mk (fun h => tf h) (fun _ => ?_)
        refine AtGuard.mk (fun h => tf h) (fun _ => ?_)
        replace hr := Option.some.inj hr
        subst hr
        exact AtRet.pureG [] [] rfl rfl ⟨rfl, rfl⟩
    · replace hr := cond_t h8 hr
      refine AtGuard.mk (fun h => tf h) (fun _ => ?_)
      refine AtGuard.mk (fun h => tf h) (fun _ => ?_)
      refine AtGuard.mk (fun h => tf h) (fun _ => ?_)
      replace hr := Option.some.inj hr
      subst hr
      exact AtRet.pureG [] [] rfl rfl ⟨rfl, rfl⟩
  · replace hr := cond_t h3 hr
    refine AtGuard.mk (fun h => tf h) (fun _ => ?_)
    refine AtGuard.mk (fun h => tf h) (fun _ => ?_)
    refine AtGuard.mk (fun h => tf h) (fun _ => ?_)
    refine AtGuard.mk (fun h => tf h) (fun _ => ?_)
    replace hr := Option.some.inj hr
    subst hr
    exact AtRet.pureG [] [] rfl rfl ⟨rfl, rfl⟩
mutual
def R01_space : Nat → ByteArray → Int → Option (Int)
  | 0, _, _ => none
  | n + 1, v1, v2 =>
    R01_space_L1 n v1 v2
def R01_space_L2 : Nat → ByteArray → Int → Option (Int)
  | 0, _, _ => none
  | n + 1, v1, v61 =>
    cond (decide (v61 < (v1.size : Int))) (
    (idx v1.data.toList v61).bind (fun v64 =>
    cond ((v64.toNat : Int) != 10) (
    R01_space_L2 n v1 (IntKind.i64.wrap (v61 + 1))) (
    R01_space_L1 n v1 v61))) (
    R01_space_L1 n v1 v61)
def R01_space_L1 : Nat → ByteArray → Int → Option (Int)
  | 0, _, _ => none
  | n + 1, v1, v24 =>
    cond (decide (v24 < (v1.size : Int))) (
    (idx v1.data.toList v24).bind (fun v26 =>
    cond ((v26.toNat : Int) == 32) (
    R01_space_L1 n v1 (IntKind.i64.wrap (v24 + 1))) (
    (idx v1.data.toList v24).bind (fun v31 =>
    cond ((v31.toNat : Int) == 9) (
    R01_space_L1 n v1 (IntKind.i64.wrap (v24 + 1))) (
    (idx v1.data.toList v24).bind (fun v36 =>
    cond ((v36.toNat : Int) == 10) (
    R01_space_L1 n v1 (IntKind.i64.wrap (v24 + 1))) (
    (idx v1.data.toList v24).bind (fun v41 =>
    cond ((v41.toNat : Int) == 13) (
    R01_space_L1 n v1 (IntKind.i64.wrap (v24 + 1))) (
    (idx v1.data.toList v24).bind (fun v46 =>
    cond ((v46.toNat : Int) == 37) (
    (R01_comment n v1 (IntKind.i64.wrap (v24 + 1))).bind (fun v51 =>
    cond v51 (
    R01_space_L2 n v1 v24) (
    some (v24)))) (
    some (v24)))))))))))) (
    some (v24))
 end
theorem R01_space_spec (n : Nat) (v1 : ByteArray) (v2 : Int)  (r : Int) (hr : R01_space n v1 v2 = some r) : Pure Tryz.prog (.val (.fn (.func 62) [] [])) [(.v (.string v1)), (.v (.int .i64 v2))] [] (fun r' out => r' = (.v (.int .i64 r)) ∧ out = []) := by
  rcases n with _ | n
  · exact no_some hr
  rw [R01_space.eq_2] at hr
  refine spec_of_body (N := 59) (m := 0) (dt := fun _ => none) [] ttOK Tryz.func62 rfl Tryz.call62 Tryz.ntmps62 rfl rfl rfl mixed (by kernel_rfl) ?_
  refine AtLoop.mk ⟨Nat × Int, fun x => [(0, (.v (.string v1))), (1, (.v (.int .i64 x.2)))], fun x => ⟨[], [], []⟩, fun x => R01_space_L1 x.1 v1 x.2 = some r, fun x => x.1, (n, v2), hr, ⟨rfl, rfl, trivial⟩, (StLe.gen 0 [] [] rfl rfl rfl rfl rfl rfl rfl), fun x _ => ⟨rfl, rfl⟩, ?_⟩
  rintro ⟨n, v24⟩ HH
  have hr : R01_space_L1 n v1 v24 = some r := HH
  rcases n with _ | n
  · exact no_some hr
  rw [R01_space_L1.eq_2] at hr
  refine AtIf.mk (fun h25 => ?_) (fun h25 => ?_)
  · replace hr := cond_t h25 hr
    obtain ⟨v26, h27, hr⟩ := bind_some hr
    obtain ⟨h28, h29⟩ := idx_some h27
    refine at_index_str ttOK rfl rfl rfl h28 h29 ?_
    refine AtGuard.mk (fun h30 => ?_) (fun h30 => ?_)
    · replace hr := cond_f h30 hr
      obtain ⟨v31, h32, hr⟩ := bind_some hr
      obtain ⟨h33, h34⟩ := idx_some h32
      refine at_index_str ttOK rfl rfl rfl h33 h34 ?_
      refine AtGuard.mk (fun h35 => ?_) (fun h35 => ?_)
      · replace hr := cond_f h35 hr
        obtain ⟨v36, h37, hr⟩ := bind_some hr
        obtain ⟨h38, h39⟩ := idx_some h37
        refine at_index_str ttOK rfl rfl rfl h38 h39 ?_
        refine AtGuard.mk (fun h40 => ?_) (fun h40 => ?_)
        · replace hr := cond_f h40 hr
          obtain ⟨v41, h42, hr⟩ := bind_some hr
          obtain ⟨h43, h44⟩ := idx_some h42
          refine at_index_str ttOK rfl rfl rfl h43 h44 ?_
          refine AtIf.mk (fun h45 => ?_) (fun h45 => ?_)
          · replace hr := cond_t h45 hr
            exact ⟨(n, (IntKind.i64.wrap (v24 + 1))), hr, Nat.lt_succ_self _, ⟨rfl, rfl, trivial⟩, (StLe.gen 0 [] [] rfl rfl rfl rfl rfl rfl rfl)⟩
          · replace hr := cond_f h45 hr
            obtain ⟨v46, h47, hr⟩ := bind_some hr
            obtain ⟨h48, h49⟩ := idx_some h47
            refine at_index_str ttOK rfl rfl rfl h48 h49 ?_
            refine AtGuard.mk (fun h50 => ?_) (fun h50 => ?_)
            · replace hr := cond_t h50 hr
              obtain ⟨v51, h52, hr⟩ := bind_some hr
              refine (R01_comment_spec n v1 (IntKind.i64.wrap (v24 + 1)) _ h52).atR [] rfl rfl rfl ?_
              rintro _ _ ⟨rfl, rfl⟩
              refine AtIf.mk (fun h53 => ?_) (fun h53 => ?_)
              · replace hr := cond_t h53 hr
                obtain ⟨q62, hq62⟩ : ∃ q, q = n := ⟨_, rfl⟩
                refine AtLoop.mk ⟨Nat × Int, fun x => [(0, (.v (.string v1))), (1, (.v (.int .i64 x.2))), (18, (.v (.int .u8 (v31.toNat : Int)))), (19, (.v (.bool ((v31.toNat : Int) == 9)))), (24, (.v (.int .u8 (v36.toNat : Int)))), (25, (.v (.bool ((v36.toNat : Int) == 10)))), (30, (.v (.int .u8 (v41.toNat : Int)))), (31, (.v (.bool ((v41.toNat : Int) == 13)))), (44, (.v (.bool v51)))], fun x => ⟨[], [], []⟩, fun x => x.1 ≤ q62 ∧ R01_space_L2 x.1 v1 x.2 = some r, fun x => x.1, (n, v24), ⟨by omega, hr⟩, ⟨rfl, rfl, rfl, rfl, rfl, rfl, rfl, rfl, rfl, trivial⟩, (StLe.gen 0 [] [] rfl rfl rfl rfl rfl rfl rfl), fun x _ => ⟨rfl, rfl⟩, ?_⟩
                rintro ⟨n, v61⟩ HH
                obtain ⟨hbq62, hr⟩ : n ≤ q62 ∧ R01_space_L2 n v1 v61 = some r := HH
                rcases n with _ | n
                · exact no_some hr
                rw [R01_space_L2.eq_2] at hr
                refine AtGuard.mk (fun h63 => ?_) (fun h63 => ?_)
                · replace hr := cond_t h63 hr
                  obtain ⟨v64, h65, hr⟩ := bind_some hr
                  obtain ⟨h66, h67⟩ := idx_some h65
                  refine at_index_str ttOK rfl rfl rfl h66 h67 ?_
                  refine AtIf.mk (fun h68 => ?_) (fun h68 => ?_)
                  · replace hr := cond_t h68 hr
                    exact ⟨(n, (IntKind.i64.wrap (v61 + 1))), ⟨by omega, hr⟩, Nat.lt_succ_self _, ⟨rfl, rfl, rfl, rfl, rfl, rfl, rfl, rfl, rfl, trivial⟩, (StLe.gen 0 [] [] rfl rfl rfl rfl rfl rfl rfl)⟩
                  · replace hr := cond_f h68 hr
                    exact ⟨(n, v61), hr, (by simp only; omega), ⟨rfl, rfl, trivial⟩, (StLe.gen 0 [] [] rfl rfl rfl rfl rfl rfl rfl)⟩
                · replace hr := cond_f h63 hr
                  refine AtIf.mk (fun h => ff h) (fun _ => ?_)
                  exact ⟨(n, v61), hr, (by simp only; omega), ⟨rfl, rfl, trivial⟩, (StLe.gen 0 [] [] rfl rfl rfl rfl rfl rfl rfl)⟩
              · replace hr := cond_f h53 hr
                replace hr := Option.some.inj hr
                subst hr
                exact AtRet.pureG [] [] rfl rfl ⟨rfl, rfl⟩
            · replace hr := cond_f h50 hr
              refine AtIf.mk (fun h => ff h) (fun _ => ?_)
              replace hr := Option.some.inj hr
              subst hr
              exact AtRet.pureG [] [] rfl rfl ⟨rfl, rfl⟩
        · replace hr := cond_t h40 hr
          refine AtIf.mk (fun _ => ?_) (fun h => tf h)
          exact ⟨(n, (IntKind.i64.wrap (v24 + 1))), hr, Nat.lt_succ_self _, ⟨rfl, rfl, trivial⟩, (StLe.gen 0 [] [] rfl rfl rfl rfl rfl rfl rfl)⟩
      · replace hr := cond_t h35 hr
        refine AtGuard.mk (fun h => tf h) (fun _ => ?_)
        refine AtIf.mk (fun _ => ?_) (fun h => tf h)
        exact ⟨(n, (IntKind.i64.wrap (v24 + 1))), hr, Nat.lt_succ_self _, ⟨rfl, rfl, trivial⟩, (StLe.gen 0 [] [] rfl rfl rfl rfl rfl rfl rfl)⟩
    · replace hr := cond_t h30 hr
      refine AtGuard.mk (fun h => tf h) (fun _ => ?_)
      refine AtGuard.mk (fun h => tf h) (fun _ => ?_)
      refine AtIf.mk (fun _ => ?_) (fun h => tf h)
      exact ⟨(n, (IntKind.i64.wrap (v24 + 1))), hr, Nat.lt_succ_self _, ⟨rfl, rfl, trivial⟩, (StLe.gen 0 [] [] rfl rfl rfl rfl rfl rfl rfl)⟩
  · replace hr := cond_f h25 hr
    replace hr := Option.some.inj hr
    subst hr
    exact AtRet.pureG [] [] rfl rfl ⟨rfl, rfl⟩
def R01_sign : Nat → ByteArray → Int → Option (Tk × Bool)
  | 0, _, _ => none
  | n + 1, v1, v2 =>
    cond (decide ((0 : Int) ≤ v2 ∧ v2 ≤ (IntKind.i64.wrap (v2 + 1)) ∧ (IntKind.i64.wrap (v2 + 1)) ≤ (v1.size : Int))) (
    cond (decide ((0 : Int) ≤ v2 ∧ v2 ≤ (if (v1.size : Int) < (IntKind.i64.wrap (v2 + 2)) then (v1.size : Int) else (IntKind.i64.wrap (v2 + 2))) ∧ (if (v1.size : Int) < (IntKind.i64.wrap (v2 + 2)) then (v1.size : Int) else (IntKind.i64.wrap (v2 + 2))) ≤ (v1.size : Int))) (
    cond (((v1.extract v2.toNat (if (v1.size : Int) < (IntKind.i64.wrap (v2 + 2)) then (v1.size : Int) else (IntKind.i64.wrap (v2 + 2))).toNat).toList == (⟨#[45, 62]⟩ : ByteArray).toList) || ((v1.extract v2.toNat (if (v1.size : Int) < (IntKind.i64.wrap (v2 + 2)) then (v1.size : Int) else (IntKind.i64.wrap (v2 + 2))).toNat).toList == (⟨#[60, 45]⟩ : ByteArray).toList)) (
    some ((Tk.mk 4 (v1.extract v2.toNat (if (v1.size : Int) < (IntKind.i64.wrap (v2 + 2)) then (v1.size : Int) else (IntKind.i64.wrap (v2 + 2))).toNat) v2), true)) (
    (idx v1.data.toList v2).bind (fun v6 =>
    cond ((v6.toNat : Int) == 45) (
    cond ((v6.toNat : Int) == 45) (
    some ((Tk.mk 4 (v1.extract v2.toNat (IntKind.i64.wrap (v2 + 1)).toNat) v2), true)) (
    some ((Tk.mk 4 (v1.extract v2.toNat (IntKind.i64.wrap (v2 + 1)).toNat) v2), false))) (
    cond ((v6.toNat : Int) == 58) (
    cond ((v6.toNat : Int) == 58) (
    some ((Tk.mk 4 (v1.extract v2.toNat (IntKind.i64.wrap (v2 + 1)).toNat) v2), true)) (
    some ((Tk.mk 4 (v1.extract v2.toNat (IntKind.i64.wrap (v2 + 1)).toNat) v2), false))) (
    cond ((v6.toNat : Int) == 46) (
    cond ((v6.toNat : Int) == 46) (
    some ((Tk.mk 4 (v1.extract v2.toNat (IntKind.i64.wrap (v2 + 1)).toNat) v2), true)) (
    some ((Tk.mk 4 (v1.extract v2.toNat (IntKind.i64.wrap (v2 + 1)).toNat) v2), false))) (
    cond ((v6.toNat : Int) == 123) (
    cond ((v6.toNat : Int) == 123) (
    some ((Tk.mk 4 (v1.extract v2.toNat (IntKind.i64.wrap (v2 + 1)).toNat) v2), true)) (
    some ((Tk.mk 4 (v1.extract v2.toNat (IntKind.i64.wrap (v2 + 1)).toNat) v2), false))) (
    cond ((v6.toNat : Int) == 125) (
    cond ((v6.toNat : Int) == 125) (
    some ((Tk.mk 4 (v1.extract v2.toNat (IntKind.i64.wrap (v2 + 1)).toNat) v2), true)) (
    some ((Tk.mk 4 (v1.extract v2.toNat (IntKind.i64.wrap (v2 + 1)).toNat) v2), false))) (
    cond ((v6.toNat : Int) == 91) (
    cond ((v6.toNat : Int) == 91) (
    some ((Tk.mk 4 (v1.extract v2.toNat (IntKind.i64.wrap (v2 + 1)).toNat) v2), true)) (
    some ((Tk.mk 4 (v1.extract v2.toNat (IntKind.i64.wrap (v2 + 1)).toNat) v2), false))) (
    cond ((v6.toNat : Int) == 93) (
    cond ((v6.toNat : Int) == 93) (
    some ((Tk.mk 4 (v1.extract v2.toNat (IntKind.i64.wrap (v2 + 1)).toNat) v2), true)) (
    some ((Tk.mk 4 (v1.extract v2.toNat (IntKind.i64.wrap (v2 + 1)).toNat) v2), false))) (
    cond ((v6.toNat : Int) == 40) (
    cond ((v6.toNat : Int) == 40) (
    some ((Tk.mk 4 (v1.extract v2.toNat (IntKind.i64.wrap (v2 + 1)).toNat) v2), true)) (
    some ((Tk.mk 4 (v1.extract v2.toNat (IntKind.i64.wrap (v2 + 1)).toNat) v2), false))) (
    cond ((v6.toNat : Int) == 41) (
    cond ((v6.toNat : Int) == 41) (
    some ((Tk.mk 4 (v1.extract v2.toNat (IntKind.i64.wrap (v2 + 1)).toNat) v2), true)) (
    some ((Tk.mk 4 (v1.extract v2.toNat (IntKind.i64.wrap (v2 + 1)).toNat) v2), false))) (
    cond ((v6.toNat : Int) == 43) (
    cond ((v6.toNat : Int) == 43) (
    some ((Tk.mk 4 (v1.extract v2.toNat (IntKind.i64.wrap (v2 + 1)).toNat) v2), true)) (
    some ((Tk.mk 4 (v1.extract v2.toNat (IntKind.i64.wrap (v2 + 1)).toNat) v2), false))) (
    cond ((v6.toNat : Int) == 42) (
    cond ((v6.toNat : Int) == 42) (
    some ((Tk.mk 4 (v1.extract v2.toNat (IntKind.i64.wrap (v2 + 1)).toNat) v2), true)) (
    some ((Tk.mk 4 (v1.extract v2.toNat (IntKind.i64.wrap (v2 + 1)).toNat) v2), false))) (
    cond ((v6.toNat : Int) == 124) (
    cond ((v6.toNat : Int) == 124) (
    some ((Tk.mk 4 (v1.extract v2.toNat (IntKind.i64.wrap (v2 + 1)).toNat) v2), true)) (
    some ((Tk.mk 4 (v1.extract v2.toNat (IntKind.i64.wrap (v2 + 1)).toNat) v2), false))) (
    cond ((v6.toNat : Int) == 61) (
    some ((Tk.mk 4 (v1.extract v2.toNat (IntKind.i64.wrap (v2 + 1)).toNat) v2), true)) (
    some ((Tk.mk 4 (v1.extract v2.toNat (IntKind.i64.wrap (v2 + 1)).toNat) v2), false))))))))))))))))) none) none
theorem R01_sign_spec (n : Nat) (v1 : ByteArray) (v2 : Int)  (r : Tk × Bool) (hr : R01_sign n v1 v2 = some r) : Pure Tryz.prog (.val (.fn (.func 100) [] [])) [(.v (.string v1)), (.v (.int .i64 v2))] [] (fun r' out => r' = (.tup [(.agg [(.v (.int .i64 r.1.kind)), (.v (.string r.1.text)), (.v (.int .i64 r.1.at_))]), (.v (.bool r.2))]) ∧ out = []) := by
  rcases n with _ | n
  · exact no_some hr
  rw [R01_sign.eq_2] at hr
  refine spec_of_body (N := 51) (m := 0) (dt := fun _ => none) [] ttOK Tryz.func100 rfl Tryz.call100 Tryz.ntmps100 rfl rfl rfl mixed (by kernel_rfl) ?_
  obtain ⟨h3, hr⟩ := cond_need hr
  refine at_slice_str ttOK v2 (IntKind.i64.wrap (v2 + 1)) rfl rfl (.inl ⟨_, rfl⟩) (.inl ⟨_, rfl⟩) h3 ?_
  refine at_min ?_
  obtain ⟨h4, hr⟩ := cond_need hr
  refine at_slice_str ttOK v2 (if (v1.size : Int) < (IntKind.i64.wrap (v2 + 2)) then (v1.size : Int) else (IntKind.i64.wrap (v2 + 2))) rfl rfl (.inl ⟨_, rfl⟩) (.inl ⟨_, rfl⟩) h4 ?_
  refine AtIf.mk (fun h5 => ?_) (fun h5 => ?_)
  · replace hr := cond_t h5 hr
    replace hr := Option.some.inj hr
    subst hr
    exact AtRet.pureG [] [] rfl rfl ⟨rfl, rfl⟩
  · replace hr := cond_f h5 hr
    obtain ⟨v6, h7, hr⟩ := bind_some hr
    obtain ⟨h8, h9⟩ := idx_some h7
    refine at_index_str ttOK rfl rfl rfl h8 h9 ?_
    refine AtIf.mk (fun h10 => ?_) (fun h10 => ?_)
    · replace hr := cond_t h10 hr
      refine AtIf.mk (fun h11 => ?_) (fun h11 => ?_)
      · replace hr := cond_t h11 hr
        replace hr := Option.some.inj hr
        subst hr
        exact AtRet.pureG [] [] rfl rfl ⟨rfl, rfl⟩
      · replace hr := cond_f h11 hr
        replace hr := Option.some.inj hr
        subst hr
        exact AtRet.pureG [] [] rfl rfl ⟨rfl, rfl⟩
    · replace hr := cond_f h10 hr
      refine AtIf.mk (fun h12 => ?_) (fun h12 => ?_)
      · replace hr := cond_t h12 hr
        refine AtIf.mk (fun h13 => ?_) (fun h13 => ?_)
        · replace hr := cond_t h13 hr
          replace hr := Option.some.inj hr
          subst hr
          exact AtRet.pureG [] [] rfl rfl ⟨rfl, rfl⟩
        · replace hr := cond_f h13 hr
          replace hr := Option.some.inj hr
          subst hr
          exact AtRet.pureG [] [] rfl rfl ⟨rfl, rfl⟩
      · replace hr := cond_f h12 hr
        refine AtIf.mk (fun h14 => ?_) (fun h14 => ?_)
        · replace hr := cond_t h14 hr
          refine AtIf.mk (fun h15 => ?_) (fun h15 => ?_)
          · replace hr := cond_t h15 hr
            replace hr := Option.some.inj hr
            subst hr
            exact AtRet.pureG [] [] rfl rfl ⟨rfl, rfl⟩
          · replace hr := cond_f h15 hr
            replace hr := Option.some.inj hr
            subst hr
            exact AtRet.pureG [] [] rfl rfl ⟨rfl, rfl⟩
        · replace hr := cond_f h14 hr
          refine AtIf.mk (fun h16 => ?_) (fun h16 => ?_)
          · replace hr := cond_t h16 hr
            refine AtIf.mk (fun h17 => ?_) (fun h17 => ?_)
            · replace hr := cond_t h17 hr
              replace hr := Option.some.inj hr
              subst hr
              exact AtRet.pureG [] [] rfl rfl ⟨rfl, rfl⟩
            · replace hr := cond_f h17 hr
              replace hr := Option.some.inj hr
              subst hr
              exact AtRet.pureG [] [] rfl rfl ⟨rfl, rfl⟩
          · replace hr := cond_f h16 hr
            refine AtIf.mk (fun h18 => ?_) (fun h18 => ?_)
            · replace hr := cond_t h18 hr
              refine AtIf.mk (fun h19 => ?_) (fun h19 => ?_)
              · replace hr := cond_t h19 hr
                replace hr := Option.some.inj hr
                subst hr
                exact AtRet.pureG [] [] rfl rfl ⟨rfl, rfl⟩
              · replace hr := cond_f h19 hr
                replace hr := Option.some.inj hr
                subst hr
                exact AtRet.pureG [] [] rfl rfl ⟨rfl, rfl⟩
            · replace hr := cond_f h18 hr
              refine AtIf.mk (fun h20 => ?_) (fun h20 => ?_)
              · replace hr := cond_t h20 hr
                refine AtIf.mk (fun h21 => ?_) (fun h21 => ?_)
                · replace hr := cond_t h21 hr
                  replace hr := Option.some.inj hr
                  subst hr
                  exact AtRet.pureG [] [] rfl rfl ⟨rfl, rfl⟩
                · replace hr := cond_f h21 hr
                  replace hr := Option.some.inj hr
                  subst hr
                  exact AtRet.pureG [] [] rfl rfl ⟨rfl, rfl⟩
              · replace hr := cond_f h20 hr
                refine AtIf.mk (fun h22 => ?_) (fun h22 => ?_)
                · replace hr := cond_t h22 hr
                  refine AtIf.mk (fun h23 => ?_) (fun h23 => ?_)
                  · replace hr := cond_t h23 hr
                    replace hr := Option.some.inj hr
                    subst hr
                    exact AtRet.pureG [] [] rfl rfl ⟨rfl, rfl⟩
                  · replace hr := cond_f h23 hr
                    replace hr := Option.some.inj hr
                    subst hr
                    exact AtRet.pureG [] [] rfl rfl ⟨rfl, rfl⟩
                · replace hr := cond_f h22 hr
                  refine AtIf.mk (fun h24 => ?_) (fun h24 => ?_)
                  · replace hr := cond_t h24 hr
                    refine AtIf.mk (fun h25 => ?_) (fun h25 => ?_)
                    · replace hr := cond_t h25 hr
                      replace hr := Option.some.inj hr
                      subst hr
                      exact AtRet.pureG [] [] rfl rfl ⟨rfl, rfl⟩
                    · replace hr := cond_f h25 hr
                      replace hr := Option.some.inj hr
                      subst hr
                      exact AtRet.pureG [] [] rfl rfl ⟨rfl, rfl⟩
                  · replace hr := cond_f h24 hr
                    refine AtIf.mk (fun h26 => ?_) (fun h26 => ?_)
                    · replace hr := cond_t h26 hr
                      refine AtIf.mk (fun h27 => ?_) (fun h27 => ?_)
                      · replace hr := cond_t h27 hr
                        replace hr := Option.some.inj hr
                        subst hr
                        exact AtRet.pureG [] [] rfl rfl ⟨rfl, rfl⟩
                      · replace hr := cond_f h27 hr
                        replace hr := Option.some.inj hr
                        subst hr
                        exact AtRet.pureG [] [] rfl rfl ⟨rfl, rfl⟩
                    · replace hr := cond_f h26 hr
                      refine AtIf.mk (fun h28 => ?_) (fun h28 => ?_)
                      · replace hr := cond_t h28 hr
                        refine AtIf.mk (fun h29 => ?_) (fun h29 => ?_)
                        · replace hr := cond_t h29 hr
                          replace hr := Option.some.inj hr
                          subst hr
                          exact AtRet.pureG [] [] rfl rfl ⟨rfl, rfl⟩
                        · replace hr := cond_f h29 hr
                          replace hr := Option.some.inj hr
                          subst hr
                          exact AtRet.pureG [] [] rfl rfl ⟨rfl, rfl⟩
                      · replace hr := cond_f h28 hr
                        refine AtIf.mk (fun h30 => ?_) (fun h30 => ?_)
                        · replace hr := cond_t h30 hr
                          refine AtIf.mk (fun h31 => ?_) (fun h31 => ?_)
                          · replace hr := cond_t h31 hr
                            replace hr := Option.some.inj hr
                            subst hr
                            exact AtRet.pureG [] [] rfl rfl ⟨rfl, rfl⟩
                          · replace hr := cond_f h31 hr
                            replace hr := Option.some.inj hr
                            subst hr
                            exact AtRet.pureG [] [] rfl rfl ⟨rfl, rfl⟩
                        · replace hr := cond_f h30 hr
                          refine AtIf.mk (fun h32 => ?_) (fun h32 => ?_)
                          · replace hr := cond_t h32 hr
                            refine AtIf.mk (fun h33 => ?_) (fun h33 => ?_)
                            · replace hr := cond_t h33 hr
                              replace hr := Option.some.inj hr
                              subst hr
                              exact AtRet.pureG [] [] rfl rfl ⟨rfl, rfl⟩
                            · replace hr := cond_f h33 hr
                              replace hr := Option.some.inj hr
                              subst hr
                              exact AtRet.pureG [] [] rfl rfl ⟨rfl, rfl⟩
                          · replace hr := cond_f h32 hr
                            refine AtIf.mk (fun h34 => ?_) (fun h34 => ?_)
                            · replace hr := cond_t h34 hr
                              replace hr := Option.some.inj hr
                              subst hr
                              exact AtRet.pureG [] [] rfl rfl ⟨rfl, rfl⟩
                            · replace hr := cond_f h34 hr
                              replace hr := Option.some.inj hr
                              subst hr
                              exact AtRet.pureG [] [] rfl rfl ⟨rfl, rfl⟩
def R01_small : Nat → Int → Option (Bool)
  | 0, _ => none
  | n + 1, v1 =>
    some (((decide (v1 ≥ 97)) && (decide (v1 ≤ 122))))
theorem R01_small_spec (n : Nat) (v1 : Int)  (r : Bool) (hr : R01_small n v1 = some r) : Pure Tryz.prog (.val (.fn (.func 97) [] [])) [(.v (.int .u8 v1))] [] (fun r' out => r' = (.v (.bool r)) ∧ out = []) := by
  rcases n with _ | n
  · exact no_some hr
  rw [R01_small.eq_2] at hr
  refine spec_of_body (N := 9) (m := 0) (dt := fun _ => none) [] ttOK Tryz.func97 rfl Tryz.call97 Tryz.ntmps97 rfl rfl rfl mixed (by kernel_rfl) ?_
  replace hr := Option.some.inj hr
  subst hr
  exact AtRet.pureG [] [] rfl rfl ⟨rfl, rfl⟩
def R01_letter : Nat → Int → Option (Bool)
  | 0, _ => none
  | n + 1, v1 =>
    (R01_small n v1).bind (fun v2 =>
    some ((v2 || ((decide (v1 ≥ 65)) && (decide (v1 ≤ 90))))))
theorem R01_letter_spec (n : Nat) (v1 : Int)  (r : Bool) (hr : R01_letter n v1 = some r) : Pure Tryz.prog (.val (.fn (.func 82) [] [])) [(.v (.int .u8 v1))] [] (fun r' out => r' = (.v (.bool r)) ∧ out = []) := by
  rcases n with _ | n
  · exact no_some hr
  rw [R01_letter.eq_2] at hr
  refine spec_of_body (N := 13) (m := 0) (dt := fun _ => none) [] ttOK Tryz.func82 rfl Tryz.call82 Tryz.ntmps82 rfl rfl rfl mixed (by kernel_rfl) ?_
  obtain ⟨v2, h3, hr⟩ := bind_some hr
  refine (R01_small_spec n v1 _ h3).atR [] rfl rfl rfl ?_
  rintro _ _ ⟨rfl, rfl⟩
  replace hr := Option.some.inj hr
  subst hr
  exact AtRet.pureG [] [] rfl rfl ⟨rfl, rfl⟩
def R01_byteOf : Nat → Int → Option (Bool)
  | 0, _ => none
  | n + 1, v1 =>
    (R01_letter n v1).bind (fun v2 =>
    some ((((v2 || ((decide (v1 ≥ 48)) && (decide (v1 ≤ 57)))) || (v1 == 95)) || (v1 == 39))))
theorem R01_byteOf_spec (n : Nat) (v1 : Int)  (r : Bool) (hr : R01_byteOf n v1 = some r) : Pure Tryz.prog (.val (.fn (.func 114) [] [])) [(.v (.int .u8 v1))] [] (fun r' out => r' = (.v (.bool r)) ∧ out = []) := by
  rcases n with _ | n
  · exact no_some hr
  rw [R01_byteOf.eq_2] at hr
  refine spec_of_body (N := 21) (m := 0) (dt := fun _ => none) [] ttOK Tryz.func114 rfl Tryz.call114 Tryz.ntmps114 rfl rfl rfl mixed (by kernel_rfl) ?_
  obtain ⟨v2, h3, hr⟩ := bind_some hr
  refine (R01_letter_spec n v1 _ h3).atR [] rfl rfl rfl ?_
  rintro _ _ ⟨rfl, rfl⟩
  replace hr := Option.some.inj hr
  subst hr
  exact AtRet.pureG [] [] rfl rfl ⟨rfl, rfl⟩
mutual
def R01_run : Nat → ByteArray → Int → Option (Int)
  | 0, _, _ => none
  | n + 1, v1, v2 =>
    R01_run_L1 n v1 v2
def R01_run_L1 : Nat → ByteArray → Int → Option (Int)
  | 0, _, _ => none
  | n + 1, v1, v11 =>
    cond (decide (v11 < (v1.size : Int))) (
    (idx v1.data.toList v11).bind (fun v13 =>
    (R01_byteOf n (v13.toNat : Int)).bind (fun v17 =>
    cond v17 (
    R01_run_L1 n v1 (IntKind.i64.wrap (v11 + 1))) (
    some (v11))))) (
    some (v11))
 end
theorem R01_run_spec (n : Nat) (v1 : ByteArray) (v2 : Int)  (r : Int) (hr : R01_run n v1 v2 = some r) : Pure Tryz.prog (.val (.fn (.func 83) [] [])) [(.v (.string v1)), (.v (.int .i64 v2))] [] (fun r' out => r' = (.v (.int .i64 r)) ∧ out = []) := by
  rcases n with _ | n
  · exact no_some hr
  rw [R01_run.eq_2] at hr
  refine spec_of_body (N := 18) (m := 0) (dt := fun _ => none) [] ttOK Tryz.func83 rfl Tryz.call83 Tryz.ntmps83 rfl rfl rfl mixed (by kernel_rfl) ?_
  refine AtLoop.mk ⟨Nat × Int, fun x => [(0, (.v (.string v1))), (1, (.v (.int .i64 x.2)))], fun x => ⟨[], [], []⟩, fun x => R01_run_L1 x.1 v1 x.2 = some r, fun x => x.1, (n, v2), hr, ⟨rfl, rfl, trivial⟩, (StLe.gen 0 [] [] rfl rfl rfl rfl rfl rfl rfl), fun x _ => ⟨rfl, rfl⟩, ?_⟩
  rintro ⟨n, v11⟩ HH
  have hr : R01_run_L1 n v1 v11 = some r := HH
  rcases n with _ | n
  · exact no_some hr
  rw [R01_run_L1.eq_2] at hr
  refine AtGuard.mk (fun h12 => ?_) (fun h12 => ?_)
  · replace hr := cond_t h12 hr
    obtain ⟨v13, h14, hr⟩ := bind_some hr
    obtain ⟨h15, h16⟩ := idx_some h14
    refine at_index_str ttOK rfl rfl rfl h15 h16 ?_
    obtain ⟨v17, h18, hr⟩ := bind_some hr
    refine (R01_byteOf_spec n (v13.toNat : Int) _ h18).atR [] rfl rfl rfl ?_
    rintro _ _ ⟨rfl, rfl⟩
    refine AtIf.mk (fun h19 => ?_) (fun h19 => ?_)
    · replace hr := cond_t h19 hr
      exact ⟨(n, (IntKind.i64.wrap (v11 + 1))), hr, Nat.lt_succ_self _, ⟨rfl, rfl, trivial⟩, (StLe.gen 0 [] [] rfl rfl rfl rfl rfl rfl rfl)⟩
    · replace hr := cond_f h19 hr
      replace hr := Option.some.inj hr
      subst hr
      exact AtRet.pureG [] [] rfl rfl ⟨rfl, rfl⟩
  · replace hr := cond_f h12 hr
    refine AtIf.mk (fun h => ff h) (fun _ => ?_)
    replace hr := Option.some.inj hr
    subst hr
    exact AtRet.pureG [] [] rfl rfl ⟨rfl, rfl⟩
mutual
def R01_Number : Nat → ByteArray → Option (Int × Bool)
  | 0, _ => none
  | n + 1, v1 =>
    cond ((decide ((v1.size : Int) < 1)) || (decide ((v1.size : Int) > 5))) (
    some (0, false)) (
    (idx v1.data.toList 0).bind (fun v3 =>
    cond (((v3.toNat : Int) == 48) && (decide ((v1.size : Int) > 1))) (
    some (0, false)) (
    R01_Number_L1 n v1 0 0)))
def R01_Number_L1 : Nat → ByteArray → Int → Int → Option (Int × Bool)
  | 0, _, _, _ => none
  | n + 1, v1, v23, v24 =>
    cond (decide (v24 < (v1.size : Int))) (
    (idx v1.data.toList v24).bind (fun v26 =>
    cond (decide ((v26.toNat : Int) < 48)) (
    some (0, false)) (
    (idx v1.data.toList v24).bind (fun v31 =>
    cond (decide ((v31.toNat : Int) > 57)) (
    some (0, false)) (
    (idx v1.data.toList v24).bind (fun v36 =>
    R01_Number_L1 n v1 (IntKind.i64.wrap ((IntKind.i64.wrap (10 * v23)) + (IntKind.i64.wrap (IntKind.u8.wrap ((v36.toNat : Int) - 48))))) (IntKind.i64.wrap (v24 + 1)))))))) (
    some (v23, (decide (v23 ≤ 10000))))
 end
theorem R01_Number_spec (n : Nat) (v1 : ByteArray)  (r : Int × Bool) (hr : R01_Number n v1 = some r) : Pure Tryz.prog (.val (.fn (.func 98) [] [])) [(.v (.string v1))] [] (fun r' out => r' = (.tup [(.v (.int .i64 r.1)), (.v (.bool r.2))]) ∧ out = []) := by
  rcases n with _ | n
  · exact no_some hr
  rw [R01_Number.eq_2] at hr
  refine spec_of_body (N := 51) (m := 0) (dt := fun _ => none) [] ttOK Tryz.func98 rfl Tryz.call98 Tryz.ntmps98 rfl rfl rfl mixed (by kernel_rfl) ?_
  refine AtGuard.mk (fun h2 => ?_) (fun h2 => ?_)
  · replace hr := cond_f h2 hr
    obtain ⟨v3, h4, hr⟩ := bind_some hr
    obtain ⟨h5, h6⟩ := idx_some h4
    refine at_index_str ttOK rfl rfl rfl h5 h6 ?_
    refine AtIf.mk (fun h7 => ?_) (fun h7 => ?_)
    · replace hr := cond_t h7 hr
      replace hr := Option.some.inj hr
      subst hr
      exact AtRet.pureG [] [] rfl rfl ⟨rfl, rfl⟩
    · replace hr := cond_f h7 hr
      refine AtLoop.mk ⟨Nat × Int × Int, fun x => [(0, (.v (.string v1))), (4, (.v (.int .i64 x.2.1))), (5, (.v (.int .i64 x.2.2)))], fun x => ⟨[], [], []⟩, fun x => R01_Number_L1 x.1 v1 x.2.1 x.2.2 = some r, fun x => x.1, (n, 0, 0), hr, ⟨rfl, rfl, rfl, trivial⟩, (StLe.gen 0 [] [] rfl rfl rfl rfl rfl rfl rfl), fun x _ => ⟨rfl, rfl⟩, ?_⟩
      rintro ⟨n, v23, v24⟩ HH
      have hr : R01_Number_L1 n v1 v23 v24 = some r := HH
      rcases n with _ | n
      · exact no_some hr
      rw [R01_Number_L1.eq_2] at hr
      refine AtIf.mk (fun h25 => ?_) (fun h25 => ?_)
      · replace hr := cond_t h25 hr
        obtain ⟨v26, h27, hr⟩ := bind_some hr
        obtain ⟨h28, h29⟩ := idx_some h27
        refine at_index_str ttOK rfl rfl rfl h28 h29 ?_
        refine AtGuard.mk (fun h30 => ?_) (fun h30 => ?_)
        · replace hr := cond_f h30 hr
          obtain ⟨v31, h32, hr⟩ := bind_some hr
          obtain ⟨h33, h34⟩ := idx_some h32
          refine at_index_str ttOK rfl rfl rfl h33 h34 ?_
          refine AtIf.mk (fun h35 => ?_) (fun h35 => ?_)
          · replace hr := cond_t h35 hr
            replace hr := Option.some.inj hr
            subst hr
            exact AtRet.pureG [] [] rfl rfl ⟨rfl, rfl⟩
          · replace hr := cond_f h35 hr
            obtain ⟨v36, h37, hr⟩ := bind_some hr
            obtain ⟨h38, h39⟩ := idx_some h37
            refine at_index_str ttOK rfl rfl rfl h38 h39 ?_
            refine at_convInt Tryz.underlying5 Tryz.underlying3 rfl ?_
            exact ⟨(n, (IntKind.i64.wrap ((IntKind.i64.wrap (10 * v23)) + (IntKind.i64.wrap (IntKind.u8.wrap ((v36.toNat : Int) - 48))))), (IntKind.i64.wrap (v24 + 1))), hr, Nat.lt_succ_self _, ⟨rfl, rfl, rfl, trivial⟩, (StLe.gen 0 [] [] rfl rfl rfl rfl rfl rfl rfl)⟩
        · replace hr := cond_t h30 hr
          refine AtIf.mk (fun _ => ?_) (fun h => tf h)
          replace hr := Option.some.inj hr
          subst hr
          exact AtRet.pureG [] [] rfl rfl ⟨rfl, rfl⟩
      · replace hr := cond_f h25 hr
        replace hr := Option.some.inj hr
        subst hr
        exact AtRet.pureG [] [] rfl rfl ⟨rfl, rfl⟩
  · replace hr := cond_t h2 hr
    refine AtIf.mk (fun _ => ?_) (fun h => tf h)
    replace hr := Option.some.inj hr
    subst hr
    exact AtRet.pureG [] [] rfl rfl ⟨rfl, rfl⟩
def R01_Next : Nat → ByteArray → Int → Option (Tk × Bool)
  | 0, _, _ => none
  | n + 1, v1, v2 =>
    (R01_run n v1 v2).bind (fun v3 =>
    (idx v1.data.toList v2).bind (fun v5 =>
    (R01_letter n (v5.toNat : Int)).bind (fun v9 =>
    cond v9 (
    cond (decide ((0 : Int) ≤ v2 ∧ v2 ≤ v3 ∧ v3 ≤ (v1.size : Int))) (
    (R01_small n (v5.toNat : Int)).bind (fun v13 =>
    cond (!v13) (
    some ((Tk.mk 2 (v1.extract v2.toNat v3.toNat) v2), (refNameF (v1.extract v2.toNat v3.toNat)))) (
    some ((Tk.mk 1 (v1.extract v2.toNat v3.toNat) v2), (refNameF (v1.extract v2.toNat v3.toNat)))))) none) (
    cond ((v5.toNat : Int) == 95) (
    some ((Tk.mk 3 (⟨#[95]⟩) v2), (v3 == (IntKind.i64.wrap (v2 + 1))))) (
    cond ((decide ((v5.toNat : Int) ≥ 48)) && (decide ((v5.toNat : Int) ≤ 57))) (
    cond (decide ((0 : Int) ≤ v2 ∧ v2 ≤ v3 ∧ v3 ≤ (v1.size : Int))) (
    (R01_Number n (v1.extract v2.toNat v3.toNat)).bind (fun v19 =>
    some ((Tk.mk 6 (v1.extract v2.toNat v3.toNat) v2), v19.2))) none) (
    cond ((v5.toNat : Int) == 37) (
    (R01_run n v1 (IntKind.i64.wrap (v2 + 1))).bind (fun v22 =>
    cond (decide ((0 : Int) ≤ v2 ∧ v2 ≤ v22 ∧ v22 ≤ (v1.size : Int))) (
    cond (decide ((0 : Int) ≤ (IntKind.i64.wrap (v2 + 1)) ∧ (IntKind.i64.wrap (v2 + 1)) ≤ v22 ∧ v22 ≤ (v1.size : Int))) (
    some ((Tk.mk 5 (v1.extract v2.toNat v22.toNat) v2), (isSmallF (v1.extract (IntKind.i64.wrap (v2 + 1)).toNat v22.toNat)))) none) none)) (
    (R01_sign n v1 v2).bind (fun v26 =>
    some (v26.1, v26.2)))))))))
theorem R01_Next_spec (n : Nat) (v1 : ByteArray) (v2 : Int)  (r : Tk × Bool) (hr : R01_Next n v1 v2 = some r) : Pure Tryz.prog (.val (.fn (.func 63) [] [])) [(.v (.string v1)), (.v (.int .i64 v2))] [] (fun r' out => r' = (.tup [(.agg [(.v (.int .i64 r.1.kind)), (.v (.string r.1.text)), (.v (.int .i64 r.1.at_))]), (.v (.bool r.2))]) ∧ out = []) := by
  rcases n with _ | n
  · exact no_some hr
  rw [R01_Next.eq_2] at hr
  refine spec_of_body (N := 92) (m := 0) (dt := drawsOf [(9, .node [0, 1, 2] [(3, .node [] [(4, .leaf [5])])], [4], []), (23, .node [0, 1, 2, 3, 4, 5] [(6, .node [] [(7, .leaf [8])])], [7], [])]) [] ttOK Tryz.func63 rfl Tryz.call63 Tryz.ntmps63 rfl rfl rfl mixed (by kernel_rfl) ?_
  obtain ⟨v3, h4, hr⟩ := bind_some hr
  refine (R01_run_spec n v1 v2 _ h4).atR [] rfl rfl rfl ?_
  rintro _ _ ⟨rfl, rfl⟩
  obtain ⟨v5, h6, hr⟩ := bind_some hr
  obtain ⟨h7, h8⟩ := idx_some h6
  refine at_index_str ttOK rfl rfl rfl h7 h8 ?_
  obtain ⟨v9, h10, hr⟩ := bind_some hr
  refine (R01_letter_spec n (v5.toNat : Int) _ h10).atR [] rfl rfl rfl ?_
  rintro _ _ ⟨rfl, rfl⟩
  refine AtIf.mk (fun h11 => ?_) (fun h11 => ?_)
  · replace hr := cond_t h11 hr
    obtain ⟨h12, hr⟩ := cond_need hr
    refine at_slice_str ttOK v2 v3 rfl rfl (.inl ⟨_, rfl⟩) (.inl ⟨_, rfl⟩) h12 ?_
    obtain ⟨v13, h14, hr⟩ := bind_some hr
    refine (R01_small_spec n (v5.toNat : Int) _ h14).atR [] rfl rfl rfl ?_
    rintro _ _ ⟨rfl, rfl⟩
    refine AtIf.mk (fun h15 => ?_) (fun h15 => ?_)
    · replace hr := cond_t h15 hr
      refine (refIsName_spec (v1.extract v2.toNat v3.toNat)).atR [] rfl rfl rfl ?_
      rintro _ _ ⟨rfl, rfl⟩
      refine ⟨fun _ _ h => h, ?_⟩
      replace hr := Option.some.inj hr
      subst hr
      exact AtRet.pureG [] [] rfl rfl ⟨rfl, rfl⟩
    · replace hr := cond_f h15 hr
      refine (refIsName_spec (v1.extract v2.toNat v3.toNat)).atR [] rfl rfl rfl ?_
      rintro _ _ ⟨rfl, rfl⟩
      refine ⟨fun _ _ h => h, ?_⟩
      replace hr := Option.some.inj hr
      subst hr
      exact AtRet.pureG [] [] rfl rfl ⟨rfl, rfl⟩
  · replace hr := cond_f h11 hr
    refine AtIf.mk (fun h16 => ?_) (fun h16 => ?_)
    · replace hr := cond_t h16 hr
      replace hr := Option.some.inj hr
      subst hr
      exact AtRet.pureG [] [] rfl rfl ⟨rfl, rfl⟩
    · replace hr := cond_f h16 hr
      refine AtIf.mk (fun h17 => ?_) (fun h17 => ?_)
      · replace hr := cond_t h17 hr
        obtain ⟨h18, hr⟩ := cond_need hr
        refine at_slice_str ttOK v2 v3 rfl rfl (.inl ⟨_, rfl⟩) (.inl ⟨_, rfl⟩) h18 ?_
        obtain ⟨v19, h20, hr⟩ := bind_some hr
        refine (R01_Number_spec n (v1.extract v2.toNat v3.toNat) _ h20).atR [] rfl rfl rfl ?_
        rintro _ _ ⟨rfl, rfl⟩
        replace hr := Option.some.inj hr
        subst hr
        exact AtRet.pureG [] [] rfl rfl ⟨rfl, rfl⟩
      · replace hr := cond_f h17 hr
        refine AtIf.mk (fun h21 => ?_) (fun h21 => ?_)
        · replace hr := cond_t h21 hr
          obtain ⟨v22, h23, hr⟩ := bind_some hr
          refine (R01_run_spec n v1 (IntKind.i64.wrap (v2 + 1)) _ h23).atR [] rfl rfl rfl ?_
          rintro _ _ ⟨rfl, rfl⟩
          obtain ⟨h24, hr⟩ := cond_need hr
          refine at_slice_str ttOK v2 v22 rfl rfl (.inl ⟨_, rfl⟩) (.inl ⟨_, rfl⟩) h24 ?_
          obtain ⟨h25, hr⟩ := cond_need hr
          refine at_slice_str ttOK (IntKind.i64.wrap (v2 + 1)) v22 rfl rfl (.inl ⟨_, rfl⟩) (.inl ⟨_, rfl⟩) h25 ?_
          refine (refIsSmall_spec (v1.extract (IntKind.i64.wrap (v2 + 1)).toNat v22.toNat)).atR [] rfl rfl rfl ?_
          rintro _ _ ⟨rfl, rfl⟩
          refine ⟨fun _ _ h => h, ?_⟩
          replace hr := Option.some.inj hr
          subst hr
          exact AtRet.pureG [] [] rfl rfl ⟨rfl, rfl⟩
        · replace hr := cond_f h21 hr
          obtain ⟨v26, h27, hr⟩ := bind_some hr
          refine (R01_sign_spec n v1 v2 _ h27).atR [] rfl rfl rfl ?_
          rintro _ _ ⟨rfl, rfl⟩
          replace hr := Option.some.inj hr
          subst hr
          exact AtRet.pureG [] [] rfl rfl ⟨rfl, rfl⟩
mutual
def R01_Tokens : Nat → ByteArray → Option ((List Tk) × Int × Int)
  | 0, _ => none
  | n + 1, v1 =>
    cond (decide ((v1.size : Int) > 6000)) (
    some ([], 0, 5)) (
    (R01_space n v1 0).bind (fun v3 =>
    R01_Tokens_L1 n v1 ([]) v3))
def R01_Tokens_L1 : Nat → ByteArray → (List Tk) → Int → Option ((List Tk) × Int × Int)
  | 0, _, _, _ => none
  | n + 1, v1, v14, v16 =>
    cond (decide (v16 < (v1.size : Int))) (
    (R01_Next n v1 v16).bind (fun v18 =>
    cond (!v18.2) (
    some ([], v16, 4)) (
    cond (decide ((Tk.encL (v14 ++ [v18.1])).length ≤ 1000000)) (
    (R01_space n v1 (IntKind.i64.wrap (v16 + (v18.1.text.size : Int)))).bind (fun v24 =>
    R01_Tokens_L1 n v1 (v14 ++ [v18.1]) v24)) none))) (
    cond (decide ((Tk.encL (v14 ++ [(Tk.mk 7 ByteArray.empty (v1.size : Int))])).length ≤ 1000000)) (
    some ((v14 ++ [(Tk.mk 7 ByteArray.empty (v1.size : Int))]), 0, 0)) none)
 end
theorem R01_Tokens_spec (n : Nat) (v1 : ByteArray)  (r : (List Tk) × Int × Int) (hr : R01_Tokens n v1 = some r) : Pure Tryz.prog (.val (.fn (.func 33) [] [])) [(.v (.string v1))] [] (fun r' out => ∃ (b1 : Option Addr) (d1 : Nat), r' = (.tup [(.v (.slice b1 ((Tk.encL r.1).length) d1)), (.v (.int .i64 r.2.1)), (.v (.int .i64 r.2.2))]) ∧ out = [(.slice b1 ((Tk.encL r.1).length) d1, .sl 3 (Tk.encL r.1))]) := by
  rcases n with _ | n
  · exact no_some hr
  rw [R01_Tokens.eq_2] at hr
  refine spec_of_body (N := 45) (m := 0) (dt := fun _ => none) [] ttOK Tryz.func33 rfl Tryz.call33 Tryz.ntmps33 rfl rfl rfl mixed (by kernel_rfl) ?_
  refine AtIf.mk (fun h2 => ?_) (fun h2 => ?_)
  · replace hr := cond_t h2 hr
    replace hr := Option.some.inj hr
    subst hr
    exact AtRet.pureG [.nil 3] [(.slice none 0 0, .sl 3 [])] rfl rfl ⟨none, 0, rfl, rfl⟩
  · replace hr := cond_f h2 hr
    obtain ⟨v3, h4, hr⟩ := bind_some hr
    refine (R01_space_spec n v1 0 _ h4).atR [] rfl rfl rfl ?_
    rintro _ _ ⟨rfl, rfl⟩
    refine AtLoop.mk ⟨Nat × (List Tk) × Option Addr × Nat × Int, fun x => [(0, (.v (.string v1))), (5, (.v (.slice x.2.2.1 ((Tk.encL x.2.1).length) x.2.2.2.1))), (6, (.v (.int .i64 x.2.2.2.2)))], fun x => ⟨[], [⟨.slice x.2.2.1 ((Tk.encL x.2.1).length) x.2.2.2.1, 3, 80, (Tk.encL x.2.1)⟩], []⟩, fun x => R01_Tokens_L1 x.1 v1 x.2.1 x.2.2.2.2 = some r, fun x => x.1, (n, [], none, 0, v3), hr, ⟨rfl, rfl, rfl, trivial⟩, (StLe.gen 0 [.nil 3 80] [] rfl rfl rfl rfl rfl rfl rfl), fun x _ => ⟨rfl, rfl⟩, ?_⟩
    rintro ⟨n, v14, a15, c15, v16⟩ HH
    have hr : R01_Tokens_L1 n v1 v14 v16 = some r := HH
    rcases n with _ | n
    · exact no_some hr
    rw [R01_Tokens_L1.eq_2] at hr
    refine AtIf.mk (fun h17 => ?_) (fun h17 => ?_)
    · replace hr := cond_t h17 hr
      obtain ⟨v18, h19, hr⟩ := bind_some hr
      refine (R01_Next_spec n v1 v16 _ h19).atR [] rfl rfl rfl ?_
      rintro _ _ ⟨rfl, rfl⟩
      refine AtIf.mk (fun h20 => ?_) (fun h20 => ?_)
      · replace hr := cond_t h20 hr
        replace hr := Option.some.inj hr
        subst hr
        exact AtRet.pureG [.nil 3] [(.slice none 0 0, .sl 3 [])] rfl rfl ⟨none, 0, rfl, rfl⟩
      · replace hr := cond_f h20 hr
        refine at_buildG (n := 1) ttOK 32 [.agg [.int .i64 v18.1.kind, .str v18.1.text, .int .i64 v18.1.at_]] (ds' := (Tk.encL ([v18.1]))) rfl (by kernel_rfl) ⟨⟨rfl, rfl, rfl, ⟨[(.v (.int .i64 v18.1.kind))], _, rfl, rfl, ⟨[(.v (.string v18.1.text))], _, rfl, rfl, ⟨[(.v (.int .i64 v18.1.at_))], _, rfl, rfl, rfl⟩⟩⟩⟩, trivial⟩ rfl (by simp only [Tk.encL_eq, List.map_cons, List.map_nil, Tk.enc_eq] <;> rfl) (by decide) (by decide) ?_
        intro a21
        obtain ⟨h22, hr⟩ := cond_need hr
        refine at_appendG (ds' := (Tk.encL (v14 ++ [v18.1]))) ttOK 32 0 0 rfl (by kernel_rfl) rfl rfl rfl rfl (by simp only [Tk.encL_eq, List.map_append]) h22 (by decide) ?_
        intro a23 c23
        obtain ⟨v24, h25, hr⟩ := bind_some hr
        refine (R01_space_spec n v1 (IntKind.i64.wrap (v16 + (v18.1.text.size : Int))) _ h25).atR [] rfl rfl rfl ?_
        rintro _ _ ⟨rfl, rfl⟩
        exact ⟨(n, (v14 ++ [v18.1]), a23, c23, v24), hr, Nat.lt_succ_self _, ⟨rfl, rfl, rfl, trivial⟩, (StLe.gen 0 [.old 0] [] rfl rfl rfl rfl rfl rfl rfl)⟩
    · replace hr := cond_f h17 hr
      refine at_buildG (n := 1) ttOK 32 [.agg [.int .i64 7, .str ByteArray.empty, .int .i64 (v1.size : Int)]] (ds' := (Tk.encL ([(Tk.mk 7 ByteArray.empty (v1.size : Int))]))) rfl (by kernel_rfl) ⟨⟨rfl, rfl, rfl, ⟨[(.v (.int .i64 7))], _, rfl, rfl, ⟨[(.v (.string ByteArray.empty))], _, rfl, rfl, ⟨[(.v (.int .i64 (v1.size : Int)))], _, rfl, rfl, rfl⟩⟩⟩⟩, trivial⟩ rfl (by simp only [Tk.encL_eq, List.map_cons, List.map_nil, Tk.enc_eq] <;> rfl) (by decide) (by decide) ?_
      intro a26
      obtain ⟨h27, hr⟩ := cond_need hr
      refine at_appendG (ds' := (Tk.encL (v14 ++ [(Tk.mk 7 ByteArray.empty (v1.size : Int))]))) ttOK 32 0 0 rfl (by kernel_rfl) rfl rfl rfl rfl (by simp only [Tk.encL_eq, List.map_append]) h27 (by decide) ?_
      intro a28 c28
      replace hr := Option.some.inj hr
      subst hr
      exact AtRet.pureG [.froz 0] [(.slice a28 ((Tk.encL (v14 ++ [(Tk.mk 7 ByteArray.empty (v1.size : Int))])).length) c28, .sl 3 (Tk.encL (v14 ++ [(Tk.mk 7 ByteArray.empty (v1.size : Int))])))] rfl rfl ⟨a28, c28, rfl, rfl⟩
def R02_reader_now : Nat → Rdr → Option (Tk)
  | 0, _ => none
  | n + 1, v1 =>
    (idx v1.l v1.at_).bind (fun v3 =>
    some (v3))
theorem R02_reader_now_spec (n : Nat) (v1 : Rdr) (a2 : Option Addr) (c2 : Nat) (r : Tk) (hr : R02_reader_now n v1 = some r) : Meets Tryz.prog (.val (.fn (.func 35) [] [])) [(.loc 0 0)] ⟨[.cells 77 [(.v (.slice a2 ((Tk.encL v1.l).length) c2)), (.v (.int .i64 v1.at_)), (.v (.bool v1.bad))]], [], [(.slice a2 ((Tk.encL v1.l).length) c2, .sl 3 (Tk.encL v1.l))]⟩ (fun o S' => o = .ret (.agg [(.v (.int .i64 r.kind)), (.v (.string r.text)), (.v (.int .i64 r.at_))]) ∧ S' = ⟨[.cells 77 [(.v (.slice a2 ((Tk.encL v1.l).length) c2)), (.v (.int .i64 v1.at_)), (.v (.bool v1.bad))]], [], []⟩) := by
  rcases n with _ | n
  · exact no_some hr
  rw [R02_reader_now.eq_2] at hr
  refine spec_of_body (N := 13) (m := 1) (dt := drawsOf [(1, .node [0, 1, 2, 3, 4, 5, 6, 7, 8, 9] [(10, .leaf [])], [10], [])]) [] ttOK Tryz.func35 rfl Tryz.call35 Tryz.ntmps35 rfl rfl rfl mixed (by kernel_rfl) ?_
  obtain ⟨v3, h4, hr⟩ := bind_some hr
  obtain ⟨h5, h6⟩ := idx_some h4
  refine at_index ttOK 0 rfl rfl rfl rfl h5 (Tk.encL_get h6) ?_
  replace hr := Option.some.inj hr
  subst hr
  exact AtRet.gen ⟨[.cells 77 [(.v (.slice a2 ((Tk.encL v1.l).length) c2)), (.v (.int .i64 v1.at_)), (.v (.bool v1.bad))]], [], []⟩ (StLe.gen 1 [] [] rfl rfl rfl rfl rfl rfl rfl) rfl rfl ⟨rfl, rfl⟩
def R02_reader_is : Nat → ByteArray → Rdr → Option (Bool)
  | 0, _, _ => none
  | n + 1, v1, v2 =>
    cond (!v2.bad) (
    (R02_reader_now n v2).bind (fun v5 =>
    cond (v5.kind == 4) (
    (R02_reader_now n v2).bind (fun v8 =>
    some ((v8.text.toList == v1.toList)))) (
    some (false)))) (
    some (false))
theorem R02_reader_is_spec (n : Nat) (v1 : ByteArray) (v2 : Rdr) (a3 : Option Addr) (c3 : Nat) (r : Bool) (hr : R02_reader_is n v1 v2 = some r) : Meets Tryz.prog (.val (.fn (.func 67) [] [])) [(.loc 0 0), (.v (.string v1))] ⟨[.cells 77 [(.v (.slice a3 ((Tk.encL v2.l).length) c3)), (.v (.int .i64 v2.at_)), (.v (.bool v2.bad))]], [], [(.slice a3 ((Tk.encL v2.l).length) c3, .sl 3 (Tk.encL v2.l))]⟩ (fun o S' => o = .ret (.v (.bool r)) ∧ S' = ⟨[.cells 77 [(.v (.slice a3 ((Tk.encL v2.l).length) c3)), (.v (.int .i64 v2.at_)), (.v (.bool v2.bad))]], [], []⟩) := by
  rcases n with _ | n
  · exact no_some hr
  rw [R02_reader_is.eq_2] at hr
  refine spec_of_body (N := 23) (m := 1) (dt := fun _ => none) [] ttOK Tryz.func67 rfl Tryz.call67 Tryz.ntmps67 rfl rfl rfl mixed (by kernel_rfl) ?_
  refine AtGuard.mk (fun h4 => ?_) (fun h4 => ?_)
  · replace hr := cond_t h4 hr
    obtain ⟨v5, h6, hr⟩ := bind_some hr
    refine (R02_reader_now_spec n v2 a3 c3 _ h6).frameR [0] [0] rfl rfl rfl rfl rfl rfl rfl rfl ?_
    rintro _ _ ⟨rfl, rfl⟩
    refine ⟨rfl, rfl, [.cells 77 [(.v (.slice a3 ((Tk.encL v2.l).length) c3)), (.v (.int .i64 v2.at_)), (.v (.bool v2.bad))]], rfl, ?_⟩
    refine at_field Tryz.underlying80 rfl Tryz.isAgg3 rfl rfl rfl ?_
    refine AtGuard.mk (fun h7 => ?_) (fun h7 => ?_)
    · replace hr := cond_t h7 hr
      obtain ⟨v8, h9, hr⟩ := bind_some hr
      refine (R02_reader_now_spec n v2 a3 c3 _ h9).frameR [0] [0] rfl rfl rfl rfl rfl rfl rfl rfl ?_
      rintro _ _ ⟨rfl, rfl⟩
      refine ⟨rfl, rfl, [.cells 77 [(.v (.slice a3 ((Tk.encL v2.l).length) c3)), (.v (.int .i64 v2.at_)), (.v (.bool v2.bad))]], rfl, ?_⟩
      refine at_field Tryz.underlying80 rfl Tryz.isAgg9 rfl rfl rfl ?_
      replace hr := Option.some.inj hr
      subst hr
      exact AtRet.gen ⟨[.cells 77 [(.v (.slice a3 ((Tk.encL v2.l).length) c3)), (.v (.int .i64 v2.at_)), (.v (.bool v2.bad))]], [], []⟩ (StLe.gen 1 [] [] rfl rfl rfl rfl rfl rfl rfl) rfl rfl ⟨rfl, rfl⟩
    · replace hr := cond_f h7 hr
      replace hr := Option.some.inj hr
      subst hr
      exact AtRet.gen ⟨[.cells 77 [(.v (.slice a3 ((Tk.encL v2.l).length) c3)), (.v (.int .i64 v2.at_)), (.v (.bool v2.bad))]], [], []⟩ (StLe.gen 1 [] [] rfl rfl rfl rfl rfl rfl rfl) rfl rfl ⟨rfl, rfl⟩
  · replace hr := cond_f h4 hr
    refine AtGuard.mk (fun h => ff h) (fun _ => ?_)
    replace hr := Option.some.inj hr
    subst hr
    exact AtRet.gen ⟨[.cells 77 [(.v (.slice a3 ((Tk.encL v2.l).length) c3)), (.v (.int .i64 v2.at_)), (.v (.bool v2.bad))]], [], []⟩ (StLe.gen 1 [] [] rfl rfl rfl rfl rfl rfl rfl) rfl rfl ⟨rfl, rfl⟩
def R02_reader_binds : Nat → Rdr → Option (Bool)
  | 0, _ => none
  | n + 1, v1 =>
    (R02_reader_is n (⟨#[123]⟩) v1).bind (fun v3 =>
    cond v3 (
    some (true)) (
    (R02_reader_is n (⟨#[91]⟩) v1).bind (fun v6 =>
    some (v6))))
theorem R02_reader_binds_spec (n : Nat) (v1 : Rdr) (a2 : Option Addr) (c2 : Nat) (r : Bool) (hr : R02_reader_binds n v1 = some r) : Meets Tryz.prog (.val (.fn (.func 64) [] [])) [(.loc 0 0)] ⟨[.cells 77 [(.v (.slice a2 ((Tk.encL v1.l).length) c2)), (.v (.int .i64 v1.at_)), (.v (.bool v1.bad))]], [], [(.slice a2 ((Tk.encL v1.l).length) c2, .sl 3 (Tk.encL v1.l))]⟩ (fun o S' => o = .ret (.v (.bool r)) ∧ S' = ⟨[.cells 77 [(.v (.slice a2 ((Tk.encL v1.l).length) c2)), (.v (.int .i64 v1.at_)), (.v (.bool v1.bad))]], [], []⟩) := by
  rcases n with _ | n
  · exact no_some hr
  rw [R02_reader_binds.eq_2] at hr
  refine spec_of_body (N := 9) (m := 1) (dt := fun _ => none) [] ttOK Tryz.func64 rfl Tryz.call64 Tryz.ntmps64 rfl rfl rfl mixed (by kernel_rfl) ?_
  obtain ⟨v3, h4, hr⟩ := bind_some hr
  refine (R02_reader_is_spec n (⟨#[123]⟩) v1 a2 c2 _ h4).frameR [0] [0] rfl rfl rfl rfl rfl rfl rfl rfl ?_
  rintro _ _ ⟨rfl, rfl⟩
  refine ⟨rfl, rfl, [.cells 77 [(.v (.slice a2 ((Tk.encL v1.l).length) c2)), (.v (.int .i64 v1.at_)), (.v (.bool v1.bad))]], rfl, ?_⟩
  refine AtGuard.mk (fun h5 => ?_) (fun h5 => ?_)
  · replace hr := cond_f h5 hr
    obtain ⟨v6, h7, hr⟩ := bind_some hr
    refine (R02_reader_is_spec n (⟨#[91]⟩) v1 a2 c2 _ h7).frameR [0] [0] rfl rfl rfl rfl rfl rfl rfl rfl ?_
    rintro _ _ ⟨rfl, rfl⟩
    refine ⟨rfl, rfl, [.cells 77 [(.v (.slice a2 ((Tk.encL v1.l).length) c2)), (.v (.int .i64 v1.at_)), (.v (.bool v1.bad))]], rfl, ?_⟩
    replace hr := Option.some.inj hr
    subst hr
    exact AtRet.gen ⟨[.cells 77 [(.v (.slice a2 ((Tk.encL v1.l).length) c2)), (.v (.int .i64 v1.at_)), (.v (.bool v1.bad))]], [], []⟩ (StLe.gen 1 [] [] rfl rfl rfl rfl rfl rfl rfl) rfl rfl ⟨rfl, rfl⟩
  · replace hr := cond_t h5 hr
    replace hr := Option.some.inj hr
    subst hr
    exact AtRet.gen ⟨[.cells 77 [(.v (.slice a2 ((Tk.encL v1.l).length) c2)), (.v (.int .i64 v1.at_)), (.v (.bool v1.bad))]], [], []⟩ (StLe.gen 1 [] [] rfl rfl rfl rfl rfl rfl rfl) rfl rfl ⟨rfl, rfl⟩
def R02_isName : Nat → Tk → Option (Bool)
  | 0, _ => none
  | n + 1, v1 =>
    some ((((v1.kind == 1) || (v1.kind == 2)) && (!(v1.text.toList == (⟨#[116, 121, 112, 101]⟩ : ByteArray).toList))))
theorem R02_isName_spec (n : Nat) (v1 : Tk)  (r : Bool) (hr : R02_isName n v1 = some r) : Pure Tryz.prog (.val (.fn (.func 130) [] [])) [(.agg [(.v (.int .i64 v1.kind)), (.v (.string v1.text)), (.v (.int .i64 v1.at_))])] [] (fun r' out => r' = (.v (.bool r)) ∧ out = []) := by
  rcases n with _ | n
  · exact no_some hr
  rw [R02_isName.eq_2] at hr
  refine spec_of_body (N := 16) (m := 0) (dt := fun _ => none) [] ttOK Tryz.func130 rfl Tryz.call130 Tryz.ntmps130 rfl rfl rfl mixed (by kernel_rfl) ?_
  replace hr := Option.some.inj hr
  subst hr
  exact AtRet.pureG [] [] rfl rfl ⟨rfl, rfl⟩
def R02_reader_name : Nat → Rdr → Option (ByteArray × Rdr)
  | 0, _ => none
  | n + 1, v1 =>
    cond v1.bad (
    some (⟨#[]⟩, (Rdr.mk v1.l v1.at_ true))) (
    (R02_reader_now n v1).bind (fun v4 =>
    (R02_isName n v4).bind (fun v6 =>
    cond (!v6) (
    some (⟨#[]⟩, (Rdr.mk v1.l v1.at_ true))) (
    (idx v1.l (IntKind.i64.wrap ((IntKind.i64.wrap (v1.at_ + 1)) - 1))).bind (fun v9 =>
    some (v9.text, (Rdr.mk v1.l (IntKind.i64.wrap (v1.at_ + 1)) v1.bad)))))))
theorem R02_reader_name_spec (n : Nat) (v1 : Rdr) (a2 : Option Addr) (c2 : Nat) (r : ByteArray × Rdr) (hr : R02_reader_name n v1 = some r) : Meets Tryz.prog (.val (.fn (.func 101) [] [])) [(.loc 0 0)] ⟨[.cells 77 [(.v (.slice a2 ((Tk.encL v1.l).length) c2)), (.v (.int .i64 v1.at_)), (.v (.bool v1.bad))]], [], [(.slice a2 ((Tk.encL v1.l).length) c2, .sl 3 (Tk.encL v1.l))]⟩ (fun o S' => ∃ (b1 : Option Addr) (d1 : Nat), o = .ret (.v (.string r.1)) ∧ S' = ⟨[.cells 77 [(.v (.slice b1 ((Tk.encL r.2.l).length) d1)), (.v (.int .i64 r.2.at_)), (.v (.bool r.2.bad))]], [], [(.slice b1 ((Tk.encL r.2.l).length) d1, .sl 3 (Tk.encL r.2.l))]⟩) := by
  rcases n with _ | n
  · exact no_some hr
  rw [R02_reader_name.eq_2] at hr
  refine spec_of_body (N := 35) (m := 1) (dt := drawsOf [(5, .leaf [0, 1, 2, 3, 4, 5, 6, 7, 8, 9, 10, 11, 12], [], [])]) [] ttOK Tryz.func101 rfl Tryz.call101 Tryz.ntmps101 rfl rfl rfl mixed (by kernel_rfl) ?_
  refine AtGuard.mk (fun h3 => ?_) (fun h3 => ?_)
  · replace hr := cond_f h3 hr
    obtain ⟨v4, h5, hr⟩ := bind_some hr
    refine (R02_reader_now_spec n v1 a2 c2 _ h5).frameR [0] [0] rfl rfl rfl rfl rfl rfl rfl rfl ?_
    rintro _ _ ⟨rfl, rfl⟩
    refine ⟨rfl, rfl, [.cells 77 [(.v (.slice a2 ((Tk.encL v1.l).length) c2)), (.v (.int .i64 v1.at_)), (.v (.bool v1.bad))]], rfl, ?_⟩
    obtain ⟨v6, h7, hr⟩ := bind_some hr
    refine (R02_isName_spec n v4 _ h7).atR [] rfl rfl rfl ?_
    rintro _ _ ⟨rfl, rfl⟩
    refine AtIf.mk (fun h8 => ?_) (fun h8 => ?_)
    · replace hr := cond_t h8 hr
      replace hr := Option.some.inj hr
      subst hr
      exact AtRet.gen ⟨[.cells 77 [(.v (.slice a2 ((Tk.encL v1.l).length) c2)), (.v (.int .i64 v1.at_)), (.v (.bool true))]], [], [(.slice a2 ((Tk.encL v1.l).length) c2, .sl 3 (Tk.encL v1.l))]⟩ (StLe.gen 1 [] [.old 0] rfl rfl rfl rfl rfl rfl rfl) rfl rfl ⟨a2, c2, rfl, rfl⟩
    · replace hr := cond_f h8 hr
      obtain ⟨v9, h10, hr⟩ := bind_some hr
      obtain ⟨h11, h12⟩ := idx_some h10
      refine at_index ttOK 0 rfl rfl rfl rfl h11 (Tk.encL_get h12) ?_
      replace hr := Option.some.inj hr
      subst hr
      exact AtRet.gen ⟨[.cells 77 [(.v (.slice a2 ((Tk.encL v1.l).length) c2)), (.v (.int .i64 (IntKind.i64.wrap (v1.at_ + 1)))), (.v (.bool v1.bad))]], [], [(.slice a2 ((Tk.encL v1.l).length) c2, .sl 3 (Tk.encL v1.l))]⟩ (StLe.gen 1 [] [.old 0] rfl rfl rfl rfl rfl rfl rfl) rfl rfl ⟨a2, c2, rfl, rfl⟩
  · replace hr := cond_t h3 hr
    refine AtIf.mk (fun _ => ?_) (fun h => tf h)
    replace hr := Option.some.inj hr
    subst hr
    exact AtRet.gen ⟨[.cells 77 [(.v (.slice a2 ((Tk.encL v1.l).length) c2)), (.v (.int .i64 v1.at_)), (.v (.bool true))]], [], [(.slice a2 ((Tk.encL v1.l).length) c2, .sl 3 (Tk.encL v1.l))]⟩ (StLe.gen 1 [] [.old 0] rfl rfl rfl rfl rfl rfl rfl) rfl rfl ⟨a2, c2, rfl, rfl⟩
def R02_reader_skip : Nat → ByteArray → Rdr → Option (Rdr)
  | 0, _, _ => none
  | n + 1, v1, v2 =>
    (R02_reader_is n v1 v2).bind (fun v4 =>
    cond (!v4) (
    some ((Rdr.mk v2.l v2.at_ true))) (
    cond (!v2.bad) (
    some ((Rdr.mk v2.l (IntKind.i64.wrap (v2.at_ + 1)) v2.bad))) (
    some (v2))))
theorem R02_reader_skip_spec (n : Nat) (v1 : ByteArray) (v2 : Rdr) (a3 : Option Addr) (c3 : Nat) (r : Rdr) (hr : R02_reader_skip n v1 v2 = some r) : Meets Tryz.prog (.val (.fn (.func 102) [] [])) [(.loc 0 0), (.v (.string v1))] ⟨[.cells 77 [(.v (.slice a3 ((Tk.encL v2.l).length) c3)), (.v (.int .i64 v2.at_)), (.v (.bool v2.bad))]], [], [(.slice a3 ((Tk.encL v2.l).length) c3, .sl 3 (Tk.encL v2.l))]⟩ (fun o S' => ∃ (b1 : Option Addr) (d1 : Nat), o = .ret (.tup []) ∧ S' = ⟨[.cells 77 [(.v (.slice b1 ((Tk.encL r.l).length) d1)), (.v (.int .i64 r.at_)), (.v (.bool r.bad))]], [], [(.slice b1 ((Tk.encL r.l).length) d1, .sl 3 (Tk.encL r.l))]⟩) := by
  rcases n with _ | n
  · exact no_some hr
  rw [R02_reader_skip.eq_2] at hr
  refine spec_of_body (N := 23) (m := 1) (dt := fun _ => none) [] ttOK Tryz.func102 rfl Tryz.call102 Tryz.ntmps102 rfl rfl rfl mixed (by kernel_rfl) ?_
  obtain ⟨v4, h5, hr⟩ := bind_some hr
  refine (R02_reader_is_spec n v1 v2 a3 c3 _ h5).frameR [0] [0] rfl rfl rfl rfl rfl rfl rfl rfl ?_
  rintro _ _ ⟨rfl, rfl⟩
  refine ⟨rfl, rfl, [.cells 77 [(.v (.slice a3 ((Tk.encL v2.l).length) c3)), (.v (.int .i64 v2.at_)), (.v (.bool v2.bad))]], rfl, ?_⟩
  refine AtIf.mk (fun h6 => ?_) (fun h6 => ?_)
  · replace hr := cond_t h6 hr
    refine AtIf.mk (fun h => ff h) (fun _ => ?_)
    replace hr := Option.some.inj hr
    subst hr
    exact AtRet.gen ⟨[.cells 77 [(.v (.slice a3 ((Tk.encL v2.l).length) c3)), (.v (.int .i64 v2.at_)), (.v (.bool true))]], [], [(.slice a3 ((Tk.encL v2.l).length) c3, .sl 3 (Tk.encL v2.l))]⟩ (StLe.gen 1 [] [.old 0] rfl rfl rfl rfl rfl rfl rfl) rfl rfl ⟨a3, c3, rfl, rfl⟩
  · replace hr := cond_f h6 hr
    refine AtIf.mk (fun h7 => ?_) (fun h7 => ?_)
    · replace hr := cond_t h7 hr
      replace hr := Option.some.inj hr
      subst hr
      exact AtRet.gen ⟨[.cells 77 [(.v (.slice a3 ((Tk.encL v2.l).length) c3)), (.v (.int .i64 (IntKind.i64.wrap (v2.at_ + 1)))), (.v (.bool v2.bad))]], [], [(.slice a3 ((Tk.encL v2.l).length) c3, .sl 3 (Tk.encL v2.l))]⟩ (StLe.gen 1 [] [.old 0] rfl rfl rfl rfl rfl rfl rfl) rfl rfl ⟨a3, c3, rfl, rfl⟩
    · replace hr := cond_f h7 hr
      replace hr := Option.some.inj hr
      subst hr
      exact AtRet.gen ⟨[.cells 77 [(.v (.slice a3 ((Tk.encL v2.l).length) c3)), (.v (.int .i64 v2.at_)), (.v (.bool v2.bad))]], [], [(.slice a3 ((Tk.encL v2.l).length) c3, .sl 3 (Tk.encL v2.l))]⟩ (StLe.gen 1 [] [.old 0] rfl rfl rfl rfl rfl rfl rfl) rfl rfl ⟨a3, c3, rfl, rfl⟩
def R02_reader_atoms : Nat → Rdr → Option (Bool)
  | 0, _ => none
  | n + 1, v1 =>
    (R02_reader_now n v1).bind (fun v3 =>
    cond (!v1.bad) (
    cond (((v3.kind == 1) || (v3.kind == 2)) || (v3.kind == 3)) (
    some (true)) (
    (R02_reader_is n (⟨#[40]⟩) v1).bind (fun v7 =>
    some (v7)))) (
    some (false)))
theorem R02_reader_atoms_spec (n : Nat) (v1 : Rdr) (a2 : Option Addr) (c2 : Nat) (r : Bool) (hr : R02_reader_atoms n v1 = some r) : Meets Tryz.prog (.val (.fn (.func 104) [] [])) [(.loc 0 0)] ⟨[.cells 77 [(.v (.slice a2 ((Tk.encL v1.l).length) c2)), (.v (.int .i64 v1.at_)), (.v (.bool v1.bad))]], [], [(.slice a2 ((Tk.encL v1.l).length) c2, .sl 3 (Tk.encL v1.l))]⟩ (fun o S' => o = .ret (.v (.bool r)) ∧ S' = ⟨[.cells 77 [(.v (.slice a2 ((Tk.encL v1.l).length) c2)), (.v (.int .i64 v1.at_)), (.v (.bool v1.bad))]], [], []⟩) := by
  rcases n with _ | n
  · exact no_some hr
  rw [R02_reader_atoms.eq_2] at hr
  refine spec_of_body (N := 30) (m := 1) (dt := fun _ => none) [] ttOK Tryz.func104 rfl Tryz.call104 Tryz.ntmps104 rfl rfl rfl mixed (by kernel_rfl) ?_
  obtain ⟨v3, h4, hr⟩ := bind_some hr
  refine (R02_reader_now_spec n v1 a2 c2 _ h4).frameR [0] [0] rfl rfl rfl rfl rfl rfl rfl rfl ?_
  rintro _ _ ⟨rfl, rfl⟩
  refine ⟨rfl, rfl, [.cells 77 [(.v (.slice a2 ((Tk.encL v1.l).length) c2)), (.v (.int .i64 v1.at_)), (.v (.bool v1.bad))]], rfl, ?_⟩
  refine AtGuard.mk (fun h5 => ?_) (fun h5 => ?_)
  · replace hr := cond_t h5 hr
    refine AtGuard.mk (fun h6 => ?_) (fun h6 => ?_)
    · replace hr := cond_f h6 hr
      obtain ⟨v7, h8, hr⟩ := bind_some hr
      refine (R02_reader_is_spec n (⟨#[40]⟩) v1 a2 c2 _ h8).frameR [0] [0] rfl rfl rfl rfl rfl rfl rfl rfl ?_
      rintro _ _ ⟨rfl, rfl⟩
      refine ⟨rfl, rfl, [.cells 77 [(.v (.slice a2 ((Tk.encL v1.l).length) c2)), (.v (.int .i64 v1.at_)), (.v (.bool v1.bad))]], rfl, ?_⟩
      replace hr := Option.some.inj hr
      subst hr
      exact AtRet.gen ⟨[.cells 77 [(.v (.slice a2 ((Tk.encL v1.l).length) c2)), (.v (.int .i64 v1.at_)), (.v (.bool v1.bad))]], [], []⟩ (StLe.gen 1 [] [] rfl rfl rfl rfl rfl rfl rfl) rfl rfl ⟨rfl, rfl⟩
    · replace hr := cond_t h6 hr
      replace hr := Option.some.inj hr
      subst hr
      exact AtRet.gen ⟨[.cells 77 [(.v (.slice a2 ((Tk.encL v1.l).length) c2)), (.v (.int .i64 v1.at_)), (.v (.bool v1.bad))]], [], []⟩ (StLe.gen 1 [] [] rfl rfl rfl rfl rfl rfl rfl) rfl rfl ⟨rfl, rfl⟩
  · replace hr := cond_f h5 hr
    replace hr := Option.some.inj hr
    subst hr
    exact AtRet.gen ⟨[.cells 77 [(.v (.slice a2 ((Tk.encL v1.l).length) c2)), (.v (.int .i64 v1.at_)), (.v (.bool v1.bad))]], [], []⟩ (StLe.gen 1 [] [] rfl rfl rfl rfl rfl rfl rfl) rfl rfl ⟨rfl, rfl⟩
mutual
def R02_reader_atom : Nat → Rdr → Option (Rw × Rdr)
  | 0, _ => none
  | n + 1, v1 =>
    (R02_reader_atoms n v1).bind (fun v3 =>
    cond (!v3) (
    some ((Rw.mk 0 ByteArray.empty ([])), (Rdr.mk v1.l v1.at_ true))) (
    (R02_reader_now n v1).bind (fun v6 =>
    cond (v6.kind == 3) (
    some ((Rw.mk 3 ByteArray.empty ([])), (Rdr.mk v1.l (IntKind.i64.wrap (v1.at_ + 1)) v1.bad))) (
    cond (v6.kind == 4) (
    (R02_reader_expr n (Rdr.mk v1.l (IntKind.i64.wrap (v1.at_ + 1)) v1.bad)).bind (fun v10 =>
    (R02_reader_skip n (⟨#[41]⟩) v10.2).bind (fun v14 =>
    some (v10.1, v14)))) (
    cond (v6.text.toList == (⟨#[116, 121, 112, 101]⟩ : ByteArray).toList) (
    some ((Rw.mk 1 ByteArray.empty ([])), (Rdr.mk v1.l (IntKind.i64.wrap (v1.at_ + 1)) v1.bad))) (
    some ((Rw.mk 2 v6.text ([])), (Rdr.mk v1.l (IntKind.i64.wrap (v1.at_ + 1)) v1.bad))))))))
def R02_reader_expr : Nat → Rdr → Option (Rw × Rdr)
  | 0, _ => none
  | n + 1, v1 =>
    cond v1.bad (
    some ((Rw.mk 0 ByteArray.empty ([])), v1)) (
    (R02_reader_binds n v1).bind (fun v4 =>
    cond v4 (
    (R02_reader_binder n v1).bind (fun v7 =>
    some (v7.1, v7.2))) (
    (R02_reader_app n v1).bind (fun v11 =>
    cond (!v11.2.1) (
    (R02_reader_is n (⟨#[45, 62]⟩) v11.2.2).bind (fun v16 =>
    cond v16 (
    (R02_reader_expr n (Rdr.mk v11.2.2.l (IntKind.i64.wrap (v11.2.2.at_ + 1)) v11.2.2.bad)).bind (fun v19 =>
    some ((Rw.mk 6 ByteArray.empty ([v11.1, v19.1])), v19.2))) (
    R02_reader_expr_L1 n v11.2.2 v11.1 v11.2.1))) (
    R02_reader_expr_L1 n v11.2.2 v11.1 v11.2.1)))))
def R02_reader_expr_L1 : Nat → Rdr → Rw → Bool → Option (Rw × Rdr)
  | 0, _, _, _ => none
  | n + 1, v36, v38, v40 =>
    cond (!v40) (
    (R02_reader_is n (⟨#[60, 45]⟩) v36).bind (fun v42 =>
    cond v42 (
    (R02_reader_binds n (Rdr.mk v36.l (IntKind.i64.wrap (v36.at_ + 1)) v36.bad)).bind (fun v45 =>
    cond v45 (
    (R02_reader_binder n (Rdr.mk v36.l (IntKind.i64.wrap (v36.at_ + 1)) v36.bad)).bind (fun v48 =>
    R02_reader_expr_L1 n v48.2 (Rw.mk 6 ByteArray.empty ([v48.1, v38])) true)) (
    (R02_reader_app n (Rdr.mk v36.l (IntKind.i64.wrap (v36.at_ + 1)) v36.bad)).bind (fun v53 =>
    R02_reader_expr_L1 n v53.2.2 (Rw.mk 6 ByteArray.empty ([v53.1, v38])) v53.2.1)))) (
    some (v38, v36)))) (
    some (v38, v36))
def R02_reader_binder : Nat → Rdr → Option (Rw × Rdr)
  | 0, _ => none
  | n + 1, v1 =>
    (R02_reader_is n (⟨#[91]⟩) v1).bind (fun v3 =>
    cond v3 (
    (R02_reader_name n (Rdr.mk v1.l (IntKind.i64.wrap (v1.at_ + 1)) v1.bad)).bind (fun v6 =>
    (R02_reader_is n (⟨#[58]⟩) v6.2).bind (fun v9 =>
    cond v9 (
    (R02_reader_expr n (Rdr.mk v6.2.l (IntKind.i64.wrap (v6.2.at_ + 1)) v6.2.bad)).bind (fun v12 =>
    (R02_reader_skip n (⟨#[93]⟩) v12.2).bind (fun v16 =>
    (R02_reader_expr n v16).bind (fun v19 =>
    some ((Rw.mk 7 v6.1 ([v12.1, v19.1])), v19.2))))) (
    (R02_reader_skip n (⟨#[93]⟩) v6.2).bind (fun v24 =>
    (R02_reader_expr n v24).bind (fun v27 =>
    some ((Rw.mk 7 v6.1 ([(Rw.mk 3 ByteArray.empty ([])), v27.1])), v27.2))))))) (
    (R02_reader_name n (Rdr.mk v1.l (IntKind.i64.wrap (v1.at_ + 1)) v1.bad)).bind (fun v32 =>
    (R02_reader_is n (⟨#[58]⟩) v32.2).bind (fun v35 =>
    cond v35 (
    (R02_reader_expr n (Rdr.mk v32.2.l (IntKind.i64.wrap (v32.2.at_ + 1)) v32.2.bad)).bind (fun v38 =>
    (R02_reader_skip n (⟨#[125]⟩) v38.2).bind (fun v42 =>
    (R02_reader_expr n v42).bind (fun v45 =>
    some ((Rw.mk 5 v32.1 ([v38.1, v45.1])), v45.2))))) (
    (R02_reader_skip n (⟨#[125]⟩) v32.2).bind (fun v50 =>
    (R02_reader_expr n v50).bind (fun v53 =>
    some ((Rw.mk 5 v32.1 ([(Rw.mk 3 ByteArray.empty ([])), v53.1])), v53.2))))))))
def R02_reader_app : Nat → Rdr → Option (Rw × Bool × Rdr)
  | 0, _ => none
  | n + 1, v1 =>
    (R02_reader_atom n v1).bind (fun v3 =>
    R02_reader_app_L1 n v3.2 v3.1)
def R02_reader_app_L1 : Nat → Rdr → Rw → Option (Rw × Bool × Rdr)
  | 0, _, _ => none
  | n + 1, v15, v17 =>
    (R02_reader_atoms n v15).bind (fun v19 =>
    cond v19 (
    (R02_reader_atom n v15).bind (fun v22 =>
    R02_reader_app_L1 n v22.2 (Rw.mk 4 ByteArray.empty ([v17, v22.1])))) (
    (R02_reader_binds n v15).bind (fun v27 =>
    cond v27 (
    (R02_reader_binder n v15).bind (fun v30 =>
    some ((Rw.mk 4 ByteArray.empty ([v17, v30.1])), true, v30.2))) (
    some (v17, false, v15)))))
 end
theorem R02_reader_atom_specN : ∀ (N : Nat), (∀ (n : Nat), n ≤ N → ∀ (v1 : Rdr) (a2 : Option Addr) (c2 : Nat) (r : Rw × Rdr), R02_reader_atom n v1 = some r → Meets Tryz.prog (.val (.fn (.func 103) [] [])) [(.loc 0 0)] ⟨[.cells 77 [(.v (.slice a2 ((Tk.encL v1.l).length) c2)), (.v (.int .i64 v1.at_)), (.v (.bool v1.bad))]], [], [(.slice a2 ((Tk.encL v1.l).length) c2, .sl 3 (Tk.encL v1.l))]⟩ (fun o S' => ∃ (b1 : Option Addr) (d1 : Nat), ∃ (b2 : Option Addr) (d2 : Nat), o = .ret (.agg [(.v (.int .i64 r.1.op)), (.v (.string r.1.name)), (.v (.slice b1 ((Rw.encL r.1.args).length) d1))]) ∧ S' = ⟨[.cells 77 [(.v (.slice b2 ((Tk.encL r.2.l).length) d2)), (.v (.int .i64 r.2.at_)), (.v (.bool r.2.bad))]], [], [(.slice b1 ((Rw.encL r.1.args).length) d1, .sl 3 (Rw.encL r.1.args)), (.slice b2 ((Tk.encL r.2.l).length) d2, .sl 3 (Tk.encL r.2.l))]⟩)) ∧ (∀ (n : Nat), n ≤ N → ∀ (v1 : Rdr) (a2 : Option Addr) (c2 : Nat) (r : Rw × Rdr), R02_reader_expr n v1 = some r → Meets Tryz.prog (.val (.fn (.func 34) [] [])) [(.loc 0 0)] ⟨[.cells 77 [(.v (.slice a2 ((Tk.encL v1.l).length) c2)), (.v (.int .i64 v1.at_)), (.v (.bool v1.bad))]], [], [(.slice a2 ((Tk.encL v1.l).length) c2, .sl 3 (Tk.encL v1.l))]⟩ (fun o S' => ∃ (b1 : Option Addr) (d1 : Nat), ∃ (b2 : Option Addr) (d2 : Nat), o = .ret (.agg [(.v (.int .i64 r.1.op)), (.v (.string r.1.name)), (.v (.slice b1 ((Rw.encL r.1.args).length) d1))]) ∧ S' = ⟨[.cells 77 [(.v (.slice b2 ((Tk.encL r.2.l).length) d2)), (.v (.int .i64 r.2.at_)), (.v (.bool r.2.bad))]], [], [(.slice b1 ((Rw.encL r.1.args).length) d1, .sl 3 (Rw.encL r.1.args)), (.slice b2 ((Tk.encL r.2.l).length) d2, .sl 3 (Tk.encL r.2.l))]⟩)) ∧ (∀ (n : Nat), n ≤ N → ∀ (v1 : Rdr) (a2 : Option Addr) (c2 : Nat) (r : Rw × Rdr), R02_reader_binder n v1 = some r → Meets Tryz.prog (.val (.fn (.func 65) [] [])) [(.loc 0 0)] ⟨[.cells 77 [(.v (.slice a2 ((Tk.encL v1.l).length) c2)), (.v (.int .i64 v1.at_)), (.v (.bool v1.bad))]], [], [(.slice a2 ((Tk.encL v1.l).length) c2, .sl 3 (Tk.encL v1.l))]⟩ (fun o S' => ∃ (b1 : Option Addr) (d1 : Nat), ∃ (b2 : Option Addr) (d2 : Nat), o = .ret (.agg [(.v (.int .i64 r.1.op)), (.v (.string r.1.name)), (.v (.slice b1 ((Rw.encL r.1.args).length) d1))]) ∧ S' = ⟨[.cells 77 [(.v (.slice b2 ((Tk.encL r.2.l).length) d2)), (.v (.int .i64 r.2.at_)), (.v (.bool r.2.bad))]], [], [(.slice b1 ((Rw.encL r.1.args).length) d1, .sl 3 (Rw.encL r.1.args)), (.slice b2 ((Tk.encL r.2.l).length) d2, .sl 3 (Tk.encL r.2.l))]⟩)) ∧ (∀ (n : Nat), n ≤ N → ∀ (v1 : Rdr) (a2 : Option Addr) (c2 : Nat) (r : Rw × Bool × Rdr), R02_reader_app n v1 = some r → Meets Tryz.prog (.val (.fn (.func 66) [] [])) [(.loc 0 0)] ⟨[.cells 77 [(.v (.slice a2 ((Tk.encL v1.l).length) c2)), (.v (.int .i64 v1.at_)), (.v (.bool v1.bad))]], [], [(.slice a2 ((Tk.encL v1.l).length) c2, .sl 3 (Tk.encL v1.l))]⟩ (fun o S' => ∃ (b1 : Option Addr) (d1 : Nat), ∃ (b2 : Option Addr) (d2 : Nat), o = .ret (.tup [(.agg [(.v (.int .i64 r.1.op)), (.v (.string r.1.name)), (.v (.slice b1 ((Rw.encL r.1.args).length) d1))]), (.v (.bool r.2.1))]) ∧ S' = ⟨[.cells 77 [(.v (.slice b2 ((Tk.encL r.2.2.l).length) d2)), (.v (.int .i64 r.2.2.at_)), (.v (.bool r.2.2.bad))]], [], [(.slice b1 ((Rw.encL r.1.args).length) d1, .sl 3 (Rw.encL r.1.args)), (.slice b2 ((Tk.encL r.2.2.l).length) d2, .sl 3 (Tk.encL r.2.2.l))]⟩)) := by
  intro N
  induction N with
  | zero =>
    refine ⟨?_, ?_, ?_, ?_⟩
    · intro n hn v1 a2 c2 r hr; obtain rfl : n = 0 := (by omega); exact no_some hr
    · intro n hn v1 a2 c2 r hr; obtain rfl : n = 0 := (by omega); exact no_some hr
    · intro n hn v1 a2 c2 r hr; obtain rfl : n = 0 := (by omega); exact no_some hr
    · intro n hn v1 a2 c2 r hr; obtain rfl : n = 0 := (by omega); exact no_some hr
  | succ N ih =>
    obtain ⟨ih1, ih2, ih3, ih4⟩ := ih
    refine ⟨?_, ?_, ?_, ?_⟩
    ·
      intro n hn v1 a2 c2 r hr
      rcases n with _ | n
      · exact no_some hr
      replace hn : n ≤ N := by omega
      rw [R02_reader_atom.eq_2] at hr
      refine spec_of_body (N := 43) (m := 1) (dt := fun _ => none) [] ttOK Tryz.func103 rfl Tryz.call103 Tryz.ntmps103 rfl rfl rfl mixed (by kernel_rfl) ?_
      obtain ⟨v3, h4, hr⟩ := bind_some hr
      refine (R02_reader_atoms_spec n v1 a2 c2 _ h4).frameR [0] [0] rfl rfl rfl rfl rfl rfl rfl rfl ?_
      rintro _ _ ⟨rfl, rfl⟩
      refine ⟨rfl, rfl, [.cells 77 [(.v (.slice a2 ((Tk.encL v1.l).length) c2)), (.v (.int .i64 v1.at_)), (.v (.bool v1.bad))]], rfl, ?_⟩
      refine AtIf.mk (fun h5 => ?_) (fun h5 => ?_)
      · replace hr := cond_t h5 hr
        replace hr := Option.some.inj hr
        subst hr
        exact AtRet.gen ⟨[.cells 77 [(.v (.slice a2 ((Tk.encL v1.l).length) c2)), (.v (.int .i64 v1.at_)), (.v (.bool true))]], [], [(.slice none 0 0, .sl 3 []), (.slice a2 ((Tk.encL v1.l).length) c2, .sl 3 (Tk.encL v1.l))]⟩ (StLe.gen 1 [] [.nil 3, .old 0] rfl rfl rfl rfl rfl rfl rfl) rfl rfl ⟨none, 0, a2, c2, rfl, rfl⟩
      · replace hr := cond_f h5 hr
        obtain ⟨v6, h7, hr⟩ := bind_some hr
        refine (R02_reader_now_spec n v1 a2 c2 _ h7).frameR [0] [0] rfl rfl rfl rfl rfl rfl rfl rfl ?_
        rintro _ _ ⟨rfl, rfl⟩
        refine ⟨rfl, rfl, [.cells 77 [(.v (.slice a2 ((Tk.encL v1.l).length) c2)), (.v (.int .i64 v1.at_)), (.v (.bool v1.bad))]], rfl, ?_⟩
        refine AtIf.mk (fun h8 => ?_) (fun h8 => ?_)
        · replace hr := cond_t h8 hr
          replace hr := Option.some.inj hr
          subst hr
          exact AtRet.gen ⟨[.cells 77 [(.v (.slice a2 ((Tk.encL v1.l).length) c2)), (.v (.int .i64 (IntKind.i64.wrap (v1.at_ + 1)))), (.v (.bool v1.bad))]], [], [(.slice none 0 0, .sl 3 []), (.slice a2 ((Tk.encL v1.l).length) c2, .sl 3 (Tk.encL v1.l))]⟩ (StLe.gen 1 [] [.nil 3, .old 0] rfl rfl rfl rfl rfl rfl rfl) rfl rfl ⟨none, 0, a2, c2, rfl, rfl⟩
        · replace hr := cond_f h8 hr
          refine AtIf.mk (fun h9 => ?_) (fun h9 => ?_)
          · replace hr := cond_t h9 hr
            obtain ⟨v10, h11, hr⟩ := bind_some hr
            refine (ih2 n (by omega) (Rdr.mk v1.l (IntKind.i64.wrap (v1.at_ + 1)) v1.bad) a2 c2 _ h11).frameR [0] [0] rfl rfl rfl rfl rfl rfl rfl rfl ?_
            rintro _ _ ⟨a12, c12, a13, c13, rfl, rfl⟩
            refine ⟨rfl, rfl, [.cells 77 [(.v (.slice a13 ((Tk.encL v10.2.l).length) c13)), (.v (.int .i64 v10.2.at_)), (.v (.bool v10.2.bad))]], rfl, ?_⟩
            obtain ⟨v14, h15, hr⟩ := bind_some hr
            refine (R02_reader_skip_spec n (⟨#[41]⟩) v10.2 a13 c13 _ h15).frameR [0] [2] rfl rfl rfl rfl rfl rfl rfl rfl ?_
            rintro _ _ ⟨a16, c16, rfl, rfl⟩
            refine ⟨rfl, rfl, [.cells 77 [(.v (.slice a16 ((Tk.encL v14.l).length) c16)), (.v (.int .i64 v14.at_)), (.v (.bool v14.bad))]], rfl, ?_⟩
            replace hr := Option.some.inj hr
            subst hr
            exact AtRet.gen ⟨[.cells 77 [(.v (.slice a16 ((Tk.encL v14.l).length) c16)), (.v (.int .i64 v14.at_)), (.v (.bool v14.bad))]], [], [(.slice a12 ((Rw.encL v10.1.args).length) c12, .sl 3 (Rw.encL v10.1.args)), (.slice a16 ((Tk.encL v14.l).length) c16, .sl 3 (Tk.encL v14.l))]⟩ (StLe.gen 1 [] [.old 1, .old 3] rfl rfl rfl rfl rfl rfl rfl) rfl rfl ⟨a12, c12, a16, c16, rfl, rfl⟩
          · replace hr := cond_f h9 hr
            refine AtIf.mk (fun h17 => ?_) (fun h17 => ?_)
            · replace hr := cond_t h17 hr
              replace hr := Option.some.inj hr
              subst hr
              exact AtRet.gen ⟨[.cells 77 [(.v (.slice a2 ((Tk.encL v1.l).length) c2)), (.v (.int .i64 (IntKind.i64.wrap (v1.at_ + 1)))), (.v (.bool v1.bad))]], [], [(.slice none 0 0, .sl 3 []), (.slice a2 ((Tk.encL v1.l).length) c2, .sl 3 (Tk.encL v1.l))]⟩ (StLe.gen 1 [] [.nil 3, .old 0] rfl rfl rfl rfl rfl rfl rfl) rfl rfl ⟨none, 0, a2, c2, rfl, rfl⟩
            · replace hr := cond_f h17 hr
              replace hr := Option.some.inj hr
              subst hr
              exact AtRet.gen ⟨[.cells 77 [(.v (.slice a2 ((Tk.encL v1.l).length) c2)), (.v (.int .i64 (IntKind.i64.wrap (v1.at_ + 1)))), (.v (.bool v1.bad))]], [], [(.slice none 0 0, .sl 3 []), (.slice a2 ((Tk.encL v1.l).length) c2, .sl 3 (Tk.encL v1.l))]⟩ (StLe.gen 1 [] [.nil 3, .old 0] rfl rfl rfl rfl rfl rfl rfl) rfl rfl ⟨none, 0, a2, c2, rfl, rfl⟩
    ·
      intro n hn v1 a2 c2 r hr
      rcases n with _ | n
      · exact no_some hr
      replace hn : n ≤ N := by omega
      rw [R02_reader_expr.eq_2] at hr
      refine spec_of_body (N := 65) (m := 1) (dt := drawsOf [(8, .node [0, 1] [(2, .node [] [(3, .node [4] [(5, .leaf [])])])], [3, 5], [0])]) [] ttOK Tryz.func34 rfl Tryz.call34 Tryz.ntmps34 rfl rfl rfl mixed (by kernel_rfl) ?_
      refine AtIf.mk (fun h3 => ?_) (fun h3 => ?_)
      · replace hr := cond_t h3 hr
        replace hr := Option.some.inj hr
        subst hr
        exact AtRet.gen ⟨[.cells 77 [(.v (.slice a2 ((Tk.encL v1.l).length) c2)), (.v (.int .i64 v1.at_)), (.v (.bool v1.bad))]], [], [(.slice none 0 0, .sl 3 []), (.slice a2 ((Tk.encL v1.l).length) c2, .sl 3 (Tk.encL v1.l))]⟩ (StLe.gen 1 [] [.nil 3, .old 0] rfl rfl rfl rfl rfl rfl rfl) rfl rfl ⟨none, 0, a2, c2, rfl, rfl⟩
      · replace hr := cond_f h3 hr
        obtain ⟨v4, h5, hr⟩ := bind_some hr
        refine (R02_reader_binds_spec n v1 a2 c2 _ h5).frameR [0] [0] rfl rfl rfl rfl rfl rfl rfl rfl ?_
        rintro _ _ ⟨rfl, rfl⟩
        refine ⟨rfl, rfl, [.cells 77 [(.v (.slice a2 ((Tk.encL v1.l).length) c2)), (.v (.int .i64 v1.at_)), (.v (.bool v1.bad))]], rfl, ?_⟩
        refine AtIf.mk (fun h6 => ?_) (fun h6 => ?_)
        · replace hr := cond_t h6 hr
          obtain ⟨v7, h8, hr⟩ := bind_some hr
          refine (ih3 n (by omega) v1 a2 c2 _ h8).frameR [0] [0] rfl rfl rfl rfl rfl rfl rfl rfl ?_
          rintro _ _ ⟨a9, c9, a10, c10, rfl, rfl⟩
          refine ⟨rfl, rfl, [.cells 77 [(.v (.slice a10 ((Tk.encL v7.2.l).length) c10)), (.v (.int .i64 v7.2.at_)), (.v (.bool v7.2.bad))]], rfl, ?_⟩
          replace hr := Option.some.inj hr
          subst hr
          exact AtRet.gen ⟨[.cells 77 [(.v (.slice a10 ((Tk.encL v7.2.l).length) c10)), (.v (.int .i64 v7.2.at_)), (.v (.bool v7.2.bad))]], [], [(.slice a9 ((Rw.encL v7.1.args).length) c9, .sl 3 (Rw.encL v7.1.args)), (.slice a10 ((Tk.encL v7.2.l).length) c10, .sl 3 (Tk.encL v7.2.l))]⟩ (StLe.gen 1 [] [.old 1, .old 2] rfl rfl rfl rfl rfl rfl rfl) rfl rfl ⟨a9, c9, a10, c10, rfl, rfl⟩
        · replace hr := cond_f h6 hr
          obtain ⟨v11, h12, hr⟩ := bind_some hr
          refine (ih4 n (by omega) v1 a2 c2 _ h12).frameR [0] [0] rfl rfl rfl rfl rfl rfl rfl rfl ?_
          rintro _ _ ⟨a13, c13, a14, c14, rfl, rfl⟩
          refine ⟨rfl, rfl, [.cells 77 [(.v (.slice a14 ((Tk.encL v11.2.2.l).length) c14)), (.v (.int .i64 v11.2.2.at_)), (.v (.bool v11.2.2.bad))]], rfl, ?_⟩
          refine AtGuard.mk (fun h15 => ?_) (fun h15 => ?_)
          · replace hr := cond_t h15 hr
            obtain ⟨v16, h17, hr⟩ := bind_some hr
            refine (R02_reader_is_spec n (⟨#[45, 62]⟩) v11.2.2 a14 c14 _ h17).frameR [0] [2] rfl rfl rfl rfl rfl rfl rfl rfl ?_
            rintro _ _ ⟨rfl, rfl⟩
            refine ⟨rfl, rfl, [.cells 77 [(.v (.slice a14 ((Tk.encL v11.2.2.l).length) c14)), (.v (.int .i64 v11.2.2.at_)), (.v (.bool v11.2.2.bad))]], rfl, ?_⟩
            refine AtIf.mk (fun h18 => ?_) (fun h18 => ?_)
            · replace hr := cond_t h18 hr
              obtain ⟨v19, h20, hr⟩ := bind_some hr
              refine (ih2 n (by omega) (Rdr.mk v11.2.2.l (IntKind.i64.wrap (v11.2.2.at_ + 1)) v11.2.2.bad) a14 c14 _ h20).frameR [0] [2] rfl rfl rfl rfl rfl rfl rfl rfl ?_
              rintro _ _ ⟨a21, c21, a22, c22, rfl, rfl⟩
              refine ⟨rfl, rfl, [.cells 77 [(.v (.slice a22 ((Tk.encL v19.2.l).length) c22)), (.v (.int .i64 v19.2.at_)), (.v (.bool v19.2.bad))]], rfl, ?_⟩
              refine ⟨fun _ _ h => h, ?_⟩
              refine at_buildG (n := 2) ttOK 48 [.agg [.int .i64 v11.1.op, .str v11.1.name, .sl 3 (Rw.encL v11.1.args)], .agg [.int .i64 v19.1.op, .str v19.1.name, .sl 3 (Rw.encL v19.1.args)]] (ds' := (Rw.encL ([v11.1, v19.1]))) rfl (by kernel_rfl) ⟨⟨rfl, rfl, rfl, ⟨[(.v (.int .i64 v11.1.op))], _, rfl, rfl, ⟨[(.v (.string v11.1.name))], _, rfl, rfl, ⟨[(.v (.slice a13 ((Rw.encL v11.1.args).length) c13))], _, rfl, (.inl ⟨_, rfl, nth_mem (j := 1) rfl⟩), rfl⟩⟩⟩⟩, ⟨⟨rfl, rfl, rfl, ⟨[(.v (.int .i64 v19.1.op))], _, rfl, rfl, ⟨[(.v (.string v19.1.name))], _, rfl, rfl, ⟨[(.v (.slice a21 ((Rw.encL v19.1.args).length) c21))], _, rfl, (.inl ⟨_, rfl, nth_mem (j := 3) rfl⟩), rfl⟩⟩⟩⟩, trivial⟩⟩ rfl (by simp only [Rw.encL_eq, List.map_cons, List.map_nil, Rw.enc_eq] <;> rfl) (by decide) (by decide) ?_
              intro a23
              replace hr := Option.some.inj hr
              subst hr
              exact AtRet.gen ⟨[.cells 77 [(.v (.slice a22 ((Tk.encL v19.2.l).length) c22)), (.v (.int .i64 v19.2.at_)), (.v (.bool v19.2.bad))]], [], [(.slice a23 ((Rw.encL ([v11.1, v19.1])).length) 2, .sl 3 (Rw.encL ([v11.1, v19.1]))), (.slice a22 ((Tk.encL v19.2.l).length) c22, .sl 3 (Tk.encL v19.2.l))]⟩ (StLe.gen 1 [] [.old 5, .old 4] rfl rfl rfl rfl rfl rfl rfl) rfl rfl ⟨a23, 2, a22, c22, rfl, rfl⟩
            · replace hr := cond_f h18 hr
              refine AtLoop.mk ⟨Nat × Rdr × Option Addr × Nat × Rw × Option Addr × Nat × Bool, fun x => [(0, (.loc 0 0)), (2, (.loc 1 0)), (3, (.loc 2 0)), (4, (.v (.bool x.2.2.2.2.2.2.2)))], fun x => ⟨[.cells 77 [(.v (.slice x.2.2.1 ((Tk.encL x.2.1.l).length) x.2.2.2.1)), (.v (.int .i64 x.2.1.at_)), (.v (.bool x.2.1.bad))], .cells 31 [(.v (.int .i64 0)), (.v (.string ByteArray.empty)), (.v (.slice none 0 0))], .cells 31 [(.v (.int .i64 x.2.2.2.2.1.op)), (.v (.string x.2.2.2.2.1.name)), (.v (.slice x.2.2.2.2.2.1 ((Rw.encL x.2.2.2.2.1.args).length) x.2.2.2.2.2.2.1))]], [], [(.slice x.2.2.1 ((Tk.encL x.2.1.l).length) x.2.2.2.1, .sl 3 (Tk.encL x.2.1.l)), (.slice x.2.2.2.2.2.1 ((Rw.encL x.2.2.2.2.1.args).length) x.2.2.2.2.2.2.1, .sl 3 (Rw.encL x.2.2.2.2.1.args)), (.slice a2 ((Tk.encL v1.l).length) c2, .sl 3 (Tk.encL v1.l)), (.slice a13 ((Rw.encL v11.1.args).length) c13, .sl 3 (Rw.encL v11.1.args)), (.slice a14 ((Tk.encL v11.2.2.l).length) c14, .sl 3 (Tk.encL v11.2.2.l))]⟩, fun x => x.1 ≤ N ∧ R02_reader_expr_L1 x.1 x.2.1 x.2.2.2.2.1 x.2.2.2.2.2.2.2 = some r, fun x => x.1, (n, v11.2.2, a14, c14, v11.1, a13, c13, v11.2.1), ⟨by omega, hr⟩, ⟨rfl, rfl, rfl, rfl, trivial⟩, (StLe.gen 3 [] [.old 2, .old 1, .old 0, .old 1, .old 2] rfl rfl rfl rfl rfl rfl rfl), fun x _ => ⟨rfl, rfl⟩, ?_⟩
              rintro ⟨n, v36, a37, c37, v38, a39, c39, v40⟩ HH
              obtain ⟨hn, hr⟩ : n ≤ N ∧ R02_reader_expr_L1 n v36 v38 v40 = some r := HH
              rcases n with _ | n
              · exact no_some hr
              rw [R02_reader_expr_L1.eq_2] at hr
              refine AtGuard.mk (fun h41 => ?_) (fun h41 => ?_)
              · replace hr := cond_t h41 hr
                obtain ⟨v42, h43, hr⟩ := bind_some hr
                refine (R02_reader_is_spec n (⟨#[60, 45]⟩) v36 a37 c37 _ h43).frameR [0] [0] rfl rfl rfl rfl rfl rfl rfl rfl ?_
                rintro _ _ ⟨rfl, rfl⟩
                refine ⟨rfl, rfl, [.cells 77 [(.v (.slice a37 ((Tk.encL v36.l).length) c37)), (.v (.int .i64 v36.at_)), (.v (.bool v36.bad))]], rfl, ?_⟩
                refine AtIf.mk (fun h44 => ?_) (fun h44 => ?_)
                · replace hr := cond_t h44 hr
                  obtain ⟨v45, h46, hr⟩ := bind_some hr
                  refine (R02_reader_binds_spec n (Rdr.mk v36.l (IntKind.i64.wrap (v36.at_ + 1)) v36.bad) a37 c37 _ h46).frameR [0] [0] rfl rfl rfl rfl rfl rfl rfl rfl ?_
                  rintro _ _ ⟨rfl, rfl⟩
                  refine ⟨rfl, rfl, [.cells 77 [(.v (.slice a37 ((Tk.encL v36.l).length) c37)), (.v (.int .i64 (IntKind.i64.wrap (v36.at_ + 1)))), (.v (.bool v36.bad))]], rfl, ?_⟩
                  refine AtIf.mk (fun h47 => ?_) (fun h47 => ?_)
                  · replace hr := cond_t h47 hr
                    obtain ⟨v48, h49, hr⟩ := bind_some hr
                    refine (ih3 n (by omega) (Rdr.mk v36.l (IntKind.i64.wrap (v36.at_ + 1)) v36.bad) a37 c37 _ h49).frameR [0] [0] rfl rfl rfl rfl rfl rfl rfl rfl ?_
                    rintro _ _ ⟨a50, c50, a51, c51, rfl, rfl⟩
                    refine ⟨rfl, rfl, [.cells 77 [(.v (.slice a51 ((Tk.encL v48.2.l).length) c51)), (.v (.int .i64 v48.2.at_)), (.v (.bool v48.2.bad))]], rfl, ?_⟩
                    refine at_buildG (n := 2) ttOK 48 [.agg [.int .i64 v48.1.op, .str v48.1.name, .sl 3 (Rw.encL v48.1.args)], .agg [.int .i64 v38.op, .str v38.name, .sl 3 (Rw.encL v38.args)]] (ds' := (Rw.encL ([v48.1, v38]))) rfl (by kernel_rfl) ⟨⟨rfl, rfl, rfl, ⟨[(.v (.int .i64 v48.1.op))], _, rfl, rfl, ⟨[(.v (.string v48.1.name))], _, rfl, rfl, ⟨[(.v (.slice a50 ((Rw.encL v48.1.args).length) c50))], _, rfl, (.inl ⟨_, rfl, nth_mem (j := 5) rfl⟩), rfl⟩⟩⟩⟩, ⟨⟨rfl, rfl, rfl, ⟨[(.v (.int .i64 v38.op))], _, rfl, rfl, ⟨[(.v (.string v38.name))], _, rfl, rfl, ⟨[(.v (.slice a39 ((Rw.encL v38.args).length) c39))], _, rfl, (.inl ⟨_, rfl, nth_mem (j := 1) rfl⟩), rfl⟩⟩⟩⟩, trivial⟩⟩ rfl (by simp only [Rw.encL_eq, List.map_cons, List.map_nil, Rw.enc_eq] <;> rfl) (by decide) (by decide) ?_
                    intro a52
                    exact ⟨(n, v48.2, a51, c51, (Rw.mk 6 ByteArray.empty ([v48.1, v38])), a52, 2, true), ⟨by omega, hr⟩, Nat.lt_succ_self _, ⟨rfl, rfl, rfl, rfl, trivial⟩, (StLe.gen 3 [] [.old 6, .old 7, .old 2, .old 3, .old 4] rfl rfl rfl rfl rfl rfl rfl)⟩
                  · replace hr := cond_f h47 hr
                    obtain ⟨v53, h54, hr⟩ := bind_some hr
                    refine (ih4 n (by omega) (Rdr.mk v36.l (IntKind.i64.wrap (v36.at_ + 1)) v36.bad) a37 c37 _ h54).frameR [0] [0] rfl rfl rfl rfl rfl rfl rfl rfl ?_
                    rintro _ _ ⟨a55, c55, a56, c56, rfl, rfl⟩
                    refine ⟨rfl, rfl, [.cells 77 [(.v (.slice a56 ((Tk.encL v53.2.2.l).length) c56)), (.v (.int .i64 v53.2.2.at_)), (.v (.bool v53.2.2.bad))]], rfl, ?_⟩
                    refine at_buildG (n := 2) ttOK 48 [.agg [.int .i64 v53.1.op, .str v53.1.name, .sl 3 (Rw.encL v53.1.args)], .agg [.int .i64 v38.op, .str v38.name, .sl 3 (Rw.encL v38.args)]] (ds' := (Rw.encL ([v53.1, v38]))) rfl (by kernel_rfl) ⟨⟨rfl, rfl, rfl, ⟨[(.v (.int .i64 v53.1.op))], _, rfl, rfl, ⟨[(.v (.string v53.1.name))], _, rfl, rfl, ⟨[(.v (.slice a55 ((Rw.encL v53.1.args).length) c55))], _, rfl, (.inl ⟨_, rfl, nth_mem (j := 5) rfl⟩), rfl⟩⟩⟩⟩, ⟨⟨rfl, rfl, rfl, ⟨[(.v (.int .i64 v38.op))], _, rfl, rfl, ⟨[(.v (.string v38.name))], _, rfl, rfl, ⟨[(.v (.slice a39 ((Rw.encL v38.args).length) c39))], _, rfl, (.inl ⟨_, rfl, nth_mem (j := 1) rfl⟩), rfl⟩⟩⟩⟩, trivial⟩⟩ rfl (by simp only [Rw.encL_eq, List.map_cons, List.map_nil, Rw.enc_eq] <;> rfl) (by decide) (by decide) ?_
                    intro a57
                    exact ⟨(n, v53.2.2, a56, c56, (Rw.mk 6 ByteArray.empty ([v53.1, v38])), a57, 2, v53.2.1), ⟨by omega, hr⟩, Nat.lt_succ_self _, ⟨rfl, rfl, rfl, rfl, trivial⟩, (StLe.gen 3 [] [.old 6, .old 7, .old 2, .old 3, .old 4] rfl rfl rfl rfl rfl rfl rfl)⟩
                · replace hr := cond_f h44 hr
                  replace hr := Option.some.inj hr
                  subst hr
                  exact AtRet.gen ⟨[.cells 77 [(.v (.slice a37 ((Tk.encL v36.l).length) c37)), (.v (.int .i64 v36.at_)), (.v (.bool v36.bad))]], [], [(.slice a39 ((Rw.encL v38.args).length) c39, .sl 3 (Rw.encL v38.args)), (.slice a37 ((Tk.encL v36.l).length) c37, .sl 3 (Tk.encL v36.l))]⟩ (StLe.gen 1 [] [.old 1, .old 0] rfl rfl rfl rfl rfl rfl rfl) rfl rfl ⟨a39, c39, a37, c37, rfl, rfl⟩
              · replace hr := cond_f h41 hr
                refine AtIf.mk (fun h => ff h) (fun _ => ?_)
                replace hr := Option.some.inj hr
                subst hr
                exact AtRet.gen ⟨[.cells 77 [(.v (.slice a37 ((Tk.encL v36.l).length) c37)), (.v (.int .i64 v36.at_)), (.v (.bool v36.bad))]], [], [(.slice a39 ((Rw.encL v38.args).length) c39, .sl 3 (Rw.encL v38.args)), (.slice a37 ((Tk.encL v36.l).length) c37, .sl 3 (Tk.encL v36.l))]⟩ (StLe.gen 1 [] [.old 1, .old 0] rfl rfl rfl rfl rfl rfl rfl) rfl rfl ⟨a39, c39, a37, c37, rfl, rfl⟩
          · replace hr := cond_f h15 hr
            refine AtIf.mk (fun h => ff h) (fun _ => ?_)
            refine AtLoop.mk ⟨Nat × Rdr × Option Addr × Nat × Rw × Option Addr × Nat × Bool, fun x => [(0, (.loc 0 0)), (2, (.loc 1 0)), (3, (.loc 2 0)), (4, (.v (.bool x.2.2.2.2.2.2.2)))], fun x => ⟨[.cells 77 [(.v (.slice x.2.2.1 ((Tk.encL x.2.1.l).length) x.2.2.2.1)), (.v (.int .i64 x.2.1.at_)), (.v (.bool x.2.1.bad))], .cells 31 [(.v (.int .i64 0)), (.v (.string ByteArray.empty)), (.v (.slice none 0 0))], .cells 31 [(.v (.int .i64 x.2.2.2.2.1.op)), (.v (.string x.2.2.2.2.1.name)), (.v (.slice x.2.2.2.2.2.1 ((Rw.encL x.2.2.2.2.1.args).length) x.2.2.2.2.2.2.1))]], [], [(.slice x.2.2.1 ((Tk.encL x.2.1.l).length) x.2.2.2.1, .sl 3 (Tk.encL x.2.1.l)), (.slice x.2.2.2.2.2.1 ((Rw.encL x.2.2.2.2.1.args).length) x.2.2.2.2.2.2.1, .sl 3 (Rw.encL x.2.2.2.2.1.args)), (.slice a2 ((Tk.encL v1.l).length) c2, .sl 3 (Tk.encL v1.l)), (.slice a13 ((Rw.encL v11.1.args).length) c13, .sl 3 (Rw.encL v11.1.args)), (.slice a14 ((Tk.encL v11.2.2.l).length) c14, .sl 3 (Tk.encL v11.2.2.l))]⟩, fun x => x.1 ≤ N ∧ R02_reader_expr_L1 x.1 x.2.1 x.2.2.2.2.1 x.2.2.2.2.2.2.2 = some r, fun x => x.1, (n, v11.2.2, a14, c14, v11.1, a13, c13, v11.2.1), ⟨by omega, hr⟩, ⟨rfl, rfl, rfl, rfl, trivial⟩, (StLe.gen 3 [] [.old 2, .old 1, .old 0, .old 1, .old 2] rfl rfl rfl rfl rfl rfl rfl), fun x _ => ⟨rfl, rfl⟩, ?_⟩
            rintro ⟨n, v70, a71, c71, v72, a73, c73, v74⟩ HH
            obtain ⟨hn, hr⟩ : n ≤ N ∧ R02_reader_expr_L1 n v70 v72 v74 = some r := HH
            rcases n with _ | n
            · exact no_some hr
            rw [R02_reader_expr_L1.eq_2] at hr
            refine AtGuard.mk (fun h75 => ?_) (fun h75 => ?_)
            · replace hr := cond_t h75 hr
              obtain ⟨v76, h77, hr⟩ := bind_some hr
              refine (R02_reader_is_spec n (⟨#[60, 45]⟩) v70 a71 c71 _ h77).frameR [0] [0] rfl rfl rfl rfl rfl rfl rfl rfl ?_
              rintro _ _ ⟨rfl, rfl⟩
              refine ⟨rfl, rfl, [.cells 77 [(.v (.slice a71 ((Tk.encL v70.l).length) c71)), (.v (.int .i64 v70.at_)), (.v (.bool v70.bad))]], rfl, ?_⟩
              refine AtIf.mk (fun h78 => ?_) (fun h78 => ?_)
              · replace hr := cond_t h78 hr
                obtain ⟨v79, h80, hr⟩ := bind_some hr
                refine (R02_reader_binds_spec n (Rdr.mk v70.l (IntKind.i64.wrap (v70.at_ + 1)) v70.bad) a71 c71 _ h80).frameR [0] [0] rfl rfl rfl rfl rfl rfl rfl rfl ?_
                rintro _ _ ⟨rfl, rfl⟩
                refine ⟨rfl, rfl, [.cells 77 [(.v (.slice a71 ((Tk.encL v70.l).length) c71)), (.v (.int .i64 (IntKind.i64.wrap (v70.at_ + 1)))), (.v (.bool v70.bad))]], rfl, ?_⟩
                refine AtIf.mk (fun h81 => ?_) (fun h81 => ?_)
                · replace hr := cond_t h81 hr
                  obtain ⟨v82, h83, hr⟩ := bind_some hr
                  refine (ih3 n (by omega) (Rdr.mk v70.l (IntKind.i64.wrap (v70.at_ + 1)) v70.bad) a71 c71 _ h83).frameR [0] [0] rfl rfl rfl rfl rfl rfl rfl rfl ?_
                  rintro _ _ ⟨a84, c84, a85, c85, rfl, rfl⟩
                  refine ⟨rfl, rfl, [.cells 77 [(.v (.slice a85 ((Tk.encL v82.2.l).length) c85)), (.v (.int .i64 v82.2.at_)), (.v (.bool v82.2.bad))]], rfl, ?_⟩
                  refine at_buildG (n := 2) ttOK 48 [.agg [.int .i64 v82.1.op, .str v82.1.name, .sl 3 (Rw.encL v82.1.args)], .agg [.int .i64 v72.op, .str v72.name, .sl 3 (Rw.encL v72.args)]] (ds' := (Rw.encL ([v82.1, v72]))) rfl (by kernel_rfl) ⟨⟨rfl, rfl, rfl, ⟨[(.v (.int .i64 v82.1.op))], _, rfl, rfl, ⟨[(.v (.string v82.1.name))], _, rfl, rfl, ⟨[(.v (.slice a84 ((Rw.encL v82.1.args).length) c84))], _, rfl, (.inl ⟨_, rfl, nth_mem (j := 5) rfl⟩), rfl⟩⟩⟩⟩, ⟨⟨rfl, rfl, rfl, ⟨[(.v (.int .i64 v72.op))], _, rfl, rfl, ⟨[(.v (.string v72.name))], _, rfl, rfl, ⟨[(.v (.slice a73 ((Rw.encL v72.args).length) c73))], _, rfl, (.inl ⟨_, rfl, nth_mem (j := 1) rfl⟩), rfl⟩⟩⟩⟩, trivial⟩⟩ rfl (by simp only [Rw.encL_eq, List.map_cons, List.map_nil, Rw.enc_eq] <;> rfl) (by decide) (by decide) ?_
                  intro a86
                  exact ⟨(n, v82.2, a85, c85, (Rw.mk 6 ByteArray.empty ([v82.1, v72])), a86, 2, true), ⟨by omega, hr⟩, Nat.lt_succ_self _, ⟨rfl, rfl, rfl, rfl, trivial⟩, (StLe.gen 3 [] [.old 6, .old 7, .old 2, .old 3, .old 4] rfl rfl rfl rfl rfl rfl rfl)⟩
                · replace hr := cond_f h81 hr
                  obtain ⟨v87, h88, hr⟩ := bind_some hr
                  refine (ih4 n (by omega) (Rdr.mk v70.l (IntKind.i64.wrap (v70.at_ + 1)) v70.bad) a71 c71 _ h88).frameR [0] [0] rfl rfl rfl rfl rfl rfl rfl rfl ?_
                  rintro _ _ ⟨a89, c89, a90, c90, rfl, rfl⟩
                  refine ⟨rfl, rfl, [.cells 77 [(.v (.slice a90 ((Tk.encL v87.2.2.l).length) c90)), (.v (.int .i64 v87.2.2.at_)), (.v (.bool v87.2.2.bad))]], rfl, ?_⟩
                  refine at_buildG (n := 2) ttOK 48 [.agg [.int .i64 v87.1.op, .str v87.1.name, .sl 3 (Rw.encL v87.1.args)], .agg [.int .i64 v72.op, .str v72.name, .sl 3 (Rw.encL v72.args)]] (ds' := (Rw.encL ([v87.1, v72]))) rfl (by kernel_rfl) ⟨⟨rfl, rfl, rfl, ⟨[(.v (.int .i64 v87.1.op))], _, rfl, rfl, ⟨[(.v (.string v87.1.name))], _, rfl, rfl, ⟨[(.v (.slice a89 ((Rw.encL v87.1.args).length) c89))], _, rfl, (.inl ⟨_, rfl, nth_mem (j := 5) rfl⟩), rfl⟩⟩⟩⟩, ⟨⟨rfl, rfl, rfl, ⟨[(.v (.int .i64 v72.op))], _, rfl, rfl, ⟨[(.v (.string v72.name))], _, rfl, rfl, ⟨[(.v (.slice a73 ((Rw.encL v72.args).length) c73))], _, rfl, (.inl ⟨_, rfl, nth_mem (j := 1) rfl⟩), rfl⟩⟩⟩⟩, trivial⟩⟩ rfl (by simp only [Rw.encL_eq, List.map_cons, List.map_nil, Rw.enc_eq] <;> rfl) (by decide) (by decide) ?_
                  intro a91
                  exact ⟨(n, v87.2.2, a90, c90, (Rw.mk 6 ByteArray.empty ([v87.1, v72])), a91, 2, v87.2.1), ⟨by omega, hr⟩, Nat.lt_succ_self _, ⟨rfl, rfl, rfl, rfl, trivial⟩, (StLe.gen 3 [] [.old 6, .old 7, .old 2, .old 3, .old 4] rfl rfl rfl rfl rfl rfl rfl)⟩
              · replace hr := cond_f h78 hr
                replace hr := Option.some.inj hr
                subst hr
                exact AtRet.gen ⟨[.cells 77 [(.v (.slice a71 ((Tk.encL v70.l).length) c71)), (.v (.int .i64 v70.at_)), (.v (.bool v70.bad))]], [], [(.slice a73 ((Rw.encL v72.args).length) c73, .sl 3 (Rw.encL v72.args)), (.slice a71 ((Tk.encL v70.l).length) c71, .sl 3 (Tk.encL v70.l))]⟩ (StLe.gen 1 [] [.old 1, .old 0] rfl rfl rfl rfl rfl rfl rfl) rfl rfl ⟨a73, c73, a71, c71, rfl, rfl⟩
            · replace hr := cond_f h75 hr
              refine AtIf.mk (fun h => ff h) (fun _ => ?_)
              replace hr := Option.some.inj hr
              subst hr
              exact AtRet.gen ⟨[.cells 77 [(.v (.slice a71 ((Tk.encL v70.l).length) c71)), (.v (.int .i64 v70.at_)), (.v (.bool v70.bad))]], [], [(.slice a73 ((Rw.encL v72.args).length) c73, .sl 3 (Rw.encL v72.args)), (.slice a71 ((Tk.encL v70.l).length) c71, .sl 3 (Tk.encL v70.l))]⟩ (StLe.gen 1 [] [.old 1, .old 0] rfl rfl rfl rfl rfl rfl rfl) rfl rfl ⟨a73, c73, a71, c71, rfl, rfl⟩
    ·
      intro n hn v1 a2 c2 r hr
      rcases n with _ | n
      · exact no_some hr
      replace hn : n ≤ N := by omega
      rw [R02_reader_binder.eq_2] at hr
      refine spec_of_body (N := 41) (m := 1) (dt := drawsOf [(13, .node [0, 1] [(2, .node [] [(3, .node [4] [(5, .leaf [])])])], [3, 5], [0])]) [] ttOK Tryz.func65 rfl Tryz.call65 Tryz.ntmps65 rfl rfl rfl mixed (by kernel_rfl) ?_
      obtain ⟨v3, h4, hr⟩ := bind_some hr
      refine (R02_reader_is_spec n (⟨#[91]⟩) v1 a2 c2 _ h4).frameR [0] [0] rfl rfl rfl rfl rfl rfl rfl rfl ?_
      rintro _ _ ⟨rfl, rfl⟩
      refine ⟨rfl, rfl, [.cells 77 [(.v (.slice a2 ((Tk.encL v1.l).length) c2)), (.v (.int .i64 v1.at_)), (.v (.bool v1.bad))]], rfl, ?_⟩
      refine AtIf.mk (fun h5 => ?_) (fun h5 => ?_)
      · replace hr := cond_t h5 hr
        obtain ⟨v6, h7, hr⟩ := bind_some hr
        refine (R02_reader_name_spec n (Rdr.mk v1.l (IntKind.i64.wrap (v1.at_ + 1)) v1.bad) a2 c2 _ h7).frameR [0] [0] rfl rfl rfl rfl rfl rfl rfl rfl ?_
        rintro _ _ ⟨a8, c8, rfl, rfl⟩
        refine ⟨rfl, rfl, [.cells 77 [(.v (.slice a8 ((Tk.encL v6.2.l).length) c8)), (.v (.int .i64 v6.2.at_)), (.v (.bool v6.2.bad))]], rfl, ?_⟩
        obtain ⟨v9, h10, hr⟩ := bind_some hr
        refine (R02_reader_is_spec n (⟨#[58]⟩) v6.2 a8 c8 _ h10).frameR [0] [1] rfl rfl rfl rfl rfl rfl rfl rfl ?_
        rintro _ _ ⟨rfl, rfl⟩
        refine ⟨rfl, rfl, [.cells 77 [(.v (.slice a8 ((Tk.encL v6.2.l).length) c8)), (.v (.int .i64 v6.2.at_)), (.v (.bool v6.2.bad))]], rfl, ?_⟩
        refine AtIf.mk (fun h11 => ?_) (fun h11 => ?_)
        · replace hr := cond_t h11 hr
          obtain ⟨v12, h13, hr⟩ := bind_some hr
          refine (ih2 n (by omega) (Rdr.mk v6.2.l (IntKind.i64.wrap (v6.2.at_ + 1)) v6.2.bad) a8 c8 _ h13).frameR [0] [1] rfl rfl rfl rfl rfl rfl rfl rfl ?_
          rintro _ _ ⟨a14, c14, a15, c15, rfl, rfl⟩
          refine ⟨rfl, rfl, [.cells 77 [(.v (.slice a15 ((Tk.encL v12.2.l).length) c15)), (.v (.int .i64 v12.2.at_)), (.v (.bool v12.2.bad))]], rfl, ?_⟩
          obtain ⟨v16, h17, hr⟩ := bind_some hr
          refine (R02_reader_skip_spec n (⟨#[93]⟩) v12.2 a15 c15 _ h17).frameR [0] [3] rfl rfl rfl rfl rfl rfl rfl rfl ?_
          rintro _ _ ⟨a18, c18, rfl, rfl⟩
          refine ⟨rfl, rfl, [.cells 77 [(.v (.slice a18 ((Tk.encL v16.l).length) c18)), (.v (.int .i64 v16.at_)), (.v (.bool v16.bad))]], rfl, ?_⟩
          obtain ⟨v19, h20, hr⟩ := bind_some hr
          refine (ih2 n (by omega) v16 a18 c18 _ h20).frameR [0] [4] rfl rfl rfl rfl rfl rfl rfl rfl ?_
          rintro _ _ ⟨a21, c21, a22, c22, rfl, rfl⟩
          refine ⟨rfl, rfl, [.cells 77 [(.v (.slice a22 ((Tk.encL v19.2.l).length) c22)), (.v (.int .i64 v19.2.at_)), (.v (.bool v19.2.bad))]], rfl, ?_⟩
          refine ⟨fun _ _ h => h, ?_⟩
          refine at_buildG (n := 2) ttOK 48 [.agg [.int .i64 v12.1.op, .str v12.1.name, .sl 3 (Rw.encL v12.1.args)], .agg [.int .i64 v19.1.op, .str v19.1.name, .sl 3 (Rw.encL v19.1.args)]] (ds' := (Rw.encL ([v12.1, v19.1]))) rfl (by kernel_rfl) ⟨⟨rfl, rfl, rfl, ⟨[(.v (.int .i64 v12.1.op))], _, rfl, rfl, ⟨[(.v (.string v12.1.name))], _, rfl, rfl, ⟨[(.v (.slice a14 ((Rw.encL v12.1.args).length) c14))], _, rfl, (.inl ⟨_, rfl, nth_mem (j := 2) rfl⟩), rfl⟩⟩⟩⟩, ⟨⟨rfl, rfl, rfl, ⟨[(.v (.int .i64 v19.1.op))], _, rfl, rfl, ⟨[(.v (.string v19.1.name))], _, rfl, rfl, ⟨[(.v (.slice a21 ((Rw.encL v19.1.args).length) c21))], _, rfl, (.inl ⟨_, rfl, nth_mem (j := 5) rfl⟩), rfl⟩⟩⟩⟩, trivial⟩⟩ rfl (by simp only [Rw.encL_eq, List.map_cons, List.map_nil, Rw.enc_eq] <;> rfl) (by decide) (by decide) ?_
          intro a23
          replace hr := Option.some.inj hr
          subst hr
          exact AtRet.gen ⟨[.cells 77 [(.v (.slice a22 ((Tk.encL v19.2.l).length) c22)), (.v (.int .i64 v19.2.at_)), (.v (.bool v19.2.bad))]], [], [(.slice a23 ((Rw.encL ([v12.1, v19.1])).length) 2, .sl 3 (Rw.encL ([v12.1, v19.1]))), (.slice a22 ((Tk.encL v19.2.l).length) c22, .sl 3 (Tk.encL v19.2.l))]⟩ (StLe.gen 1 [] [.old 7, .old 6] rfl rfl rfl rfl rfl rfl rfl) rfl rfl ⟨a23, 2, a22, c22, rfl, rfl⟩
        · replace hr := cond_f h11 hr
          obtain ⟨v24, h25, hr⟩ := bind_some hr
          refine (R02_reader_skip_spec n (⟨#[93]⟩) v6.2 a8 c8 _ h25).frameR [0] [1] rfl rfl rfl rfl rfl rfl rfl rfl ?_
          rintro _ _ ⟨a26, c26, rfl, rfl⟩
          refine ⟨rfl, rfl, [.cells 77 [(.v (.slice a26 ((Tk.encL v24.l).length) c26)), (.v (.int .i64 v24.at_)), (.v (.bool v24.bad))]], rfl, ?_⟩
          obtain ⟨v27, h28, hr⟩ := bind_some hr
          refine (ih2 n (by omega) v24 a26 c26 _ h28).frameR [0] [2] rfl rfl rfl rfl rfl rfl rfl rfl ?_
          rintro _ _ ⟨a29, c29, a30, c30, rfl, rfl⟩
          refine ⟨rfl, rfl, [.cells 77 [(.v (.slice a30 ((Tk.encL v27.2.l).length) c30)), (.v (.int .i64 v27.2.at_)), (.v (.bool v27.2.bad))]], rfl, ?_⟩
          refine ⟨fun _ _ h => h, ?_⟩
          refine at_buildG (n := 2) ttOK 48 [.agg [.int .i64 3, .str ByteArray.empty, .sl 3 []], .agg [.int .i64 v27.1.op, .str v27.1.name, .sl 3 (Rw.encL v27.1.args)]] (ds' := (Rw.encL ([(Rw.mk 3 ByteArray.empty ([])), v27.1]))) rfl (by kernel_rfl) ⟨⟨rfl, rfl, rfl, ⟨[(.v (.int .i64 3))], _, rfl, rfl, ⟨[(.v (.string ByteArray.empty))], _, rfl, rfl, ⟨[(.v (.slice none 0 0))], _, rfl, (.inr ⟨rfl, rfl⟩), rfl⟩⟩⟩⟩, ⟨⟨rfl, rfl, rfl, ⟨[(.v (.int .i64 v27.1.op))], _, rfl, rfl, ⟨[(.v (.string v27.1.name))], _, rfl, rfl, ⟨[(.v (.slice a29 ((Rw.encL v27.1.args).length) c29))], _, rfl, (.inl ⟨_, rfl, nth_mem (j := 3) rfl⟩), rfl⟩⟩⟩⟩, trivial⟩⟩ rfl (by simp only [Rw.encL_eq, List.map_cons, List.map_nil, Rw.enc_eq] <;> rfl) (by decide) (by decide) ?_
          intro a31
          replace hr := Option.some.inj hr
          subst hr
          exact AtRet.gen ⟨[.cells 77 [(.v (.slice a30 ((Tk.encL v27.2.l).length) c30)), (.v (.int .i64 v27.2.at_)), (.v (.bool v27.2.bad))]], [], [(.slice a31 ((Rw.encL ([(Rw.mk 3 ByteArray.empty ([])), v27.1])).length) 2, .sl 3 (Rw.encL ([(Rw.mk 3 ByteArray.empty ([])), v27.1]))), (.slice a30 ((Tk.encL v27.2.l).length) c30, .sl 3 (Tk.encL v27.2.l))]⟩ (StLe.gen 1 [] [.old 5, .old 4] rfl rfl rfl rfl rfl rfl rfl) rfl rfl ⟨a31, 2, a30, c30, rfl, rfl⟩
      · replace hr := cond_f h5 hr
        obtain ⟨v32, h33, hr⟩ := bind_some hr
        refine (R02_reader_name_spec n (Rdr.mk v1.l (IntKind.i64.wrap (v1.at_ + 1)) v1.bad) a2 c2 _ h33).frameR [0] [0] rfl rfl rfl rfl rfl rfl rfl rfl ?_
        rintro _ _ ⟨a34, c34, rfl, rfl⟩
        refine ⟨rfl, rfl, [.cells 77 [(.v (.slice a34 ((Tk.encL v32.2.l).length) c34)), (.v (.int .i64 v32.2.at_)), (.v (.bool v32.2.bad))]], rfl, ?_⟩
        obtain ⟨v35, h36, hr⟩ := bind_some hr
        refine (R02_reader_is_spec n (⟨#[58]⟩) v32.2 a34 c34 _ h36).frameR [0] [1] rfl rfl rfl rfl rfl rfl rfl rfl ?_
        rintro _ _ ⟨rfl, rfl⟩
        refine ⟨rfl, rfl, [.cells 77 [(.v (.slice a34 ((Tk.encL v32.2.l).length) c34)), (.v (.int .i64 v32.2.at_)), (.v (.bool v32.2.bad))]], rfl, ?_⟩
        refine AtIf.mk (fun h37 => ?_) (fun h37 => ?_)
        · replace hr := cond_t h37 hr
          obtain ⟨v38, h39, hr⟩ := bind_some hr
          refine (ih2 n (by omega) (Rdr.mk v32.2.l (IntKind.i64.wrap (v32.2.at_ + 1)) v32.2.bad) a34 c34 _ h39).frameR [0] [1] rfl rfl rfl rfl rfl rfl rfl rfl ?_
          rintro _ _ ⟨a40, c40, a41, c41, rfl, rfl⟩
          refine ⟨rfl, rfl, [.cells 77 [(.v (.slice a41 ((Tk.encL v38.2.l).length) c41)), (.v (.int .i64 v38.2.at_)), (.v (.bool v38.2.bad))]], rfl, ?_⟩
          obtain ⟨v42, h43, hr⟩ := bind_some hr
          refine (R02_reader_skip_spec n (⟨#[125]⟩) v38.2 a41 c41 _ h43).frameR [0] [3] rfl rfl rfl rfl rfl rfl rfl rfl ?_
          rintro _ _ ⟨a44, c44, rfl, rfl⟩
          refine ⟨rfl, rfl, [.cells 77 [(.v (.slice a44 ((Tk.encL v42.l).length) c44)), (.v (.int .i64 v42.at_)), (.v (.bool v42.bad))]], rfl, ?_⟩
          obtain ⟨v45, h46, hr⟩ := bind_some hr
          refine (ih2 n (by omega) v42 a44 c44 _ h46).frameR [0] [4] rfl rfl rfl rfl rfl rfl rfl rfl ?_
          rintro _ _ ⟨a47, c47, a48, c48, rfl, rfl⟩
          refine ⟨rfl, rfl, [.cells 77 [(.v (.slice a48 ((Tk.encL v45.2.l).length) c48)), (.v (.int .i64 v45.2.at_)), (.v (.bool v45.2.bad))]], rfl, ?_⟩
          refine ⟨fun _ _ h => h, ?_⟩
          refine at_buildG (n := 2) ttOK 48 [.agg [.int .i64 v38.1.op, .str v38.1.name, .sl 3 (Rw.encL v38.1.args)], .agg [.int .i64 v45.1.op, .str v45.1.name, .sl 3 (Rw.encL v45.1.args)]] (ds' := (Rw.encL ([v38.1, v45.1]))) rfl (by kernel_rfl) ⟨⟨rfl, rfl, rfl, ⟨[(.v (.int .i64 v38.1.op))], _, rfl, rfl, ⟨[(.v (.string v38.1.name))], _, rfl, rfl, ⟨[(.v (.slice a40 ((Rw.encL v38.1.args).length) c40))], _, rfl, (.inl ⟨_, rfl, nth_mem (j := 2) rfl⟩), rfl⟩⟩⟩⟩, ⟨⟨rfl, rfl, rfl, ⟨[(.v (.int .i64 v45.1.op))], _, rfl, rfl, ⟨[(.v (.string v45.1.name))], _, rfl, rfl, ⟨[(.v (.slice a47 ((Rw.encL v45.1.args).length) c47))], _, rfl, (.inl ⟨_, rfl, nth_mem (j := 5) rfl⟩), rfl⟩⟩⟩⟩, trivial⟩⟩ rfl (by simp only [Rw.encL_eq, List.map_cons, List.map_nil, Rw.enc_eq] <;> rfl) (by decide) (by decide) ?_
          intro a49
          replace hr := Option.some.inj hr
          subst hr
          exact AtRet.gen ⟨[.cells 77 [(.v (.slice a48 ((Tk.encL v45.2.l).length) c48)), (.v (.int .i64 v45.2.at_)), (.v (.bool v45.2.bad))]], [], [(.slice a49 ((Rw.encL ([v38.1, v45.1])).length) 2, .sl 3 (Rw.encL ([v38.1, v45.1]))), (.slice a48 ((Tk.encL v45.2.l).length) c48, .sl 3 (Tk.encL v45.2.l))]⟩ (StLe.gen 1 [] [.old 7, .old 6] rfl rfl rfl rfl rfl rfl rfl) rfl rfl ⟨a49, 2, a48, c48, rfl, rfl⟩
        · replace hr := cond_f h37 hr
          obtain ⟨v50, h51, hr⟩ := bind_some hr
          refine (R02_reader_skip_spec n (⟨#[125]⟩) v32.2 a34 c34 _ h51).frameR [0] [1] rfl rfl rfl rfl rfl rfl rfl rfl ?_
          rintro _ _ ⟨a52, c52, rfl, rfl⟩
          refine ⟨rfl, rfl, [.cells 77 [(.v (.slice a52 ((Tk.encL v50.l).length) c52)), (.v (.int .i64 v50.at_)), (.v (.bool v50.bad))]], rfl, ?_⟩
          obtain ⟨v53, h54, hr⟩ := bind_some hr
          refine (ih2 n (by omega) v50 a52 c52 _ h54).frameR [0] [2] rfl rfl rfl rfl rfl rfl rfl rfl ?_
          rintro _ _ ⟨a55, c55, a56, c56, rfl, rfl⟩
          refine ⟨rfl, rfl, [.cells 77 [(.v (.slice a56 ((Tk.encL v53.2.l).length) c56)), (.v (.int .i64 v53.2.at_)), (.v (.bool v53.2.bad))]], rfl, ?_⟩
          refine ⟨fun _ _ h => h, ?_⟩
          refine at_buildG (n := 2) ttOK 48 [.agg [.int .i64 3, .str ByteArray.empty, .sl 3 []], .agg [.int .i64 v53.1.op, .str v53.1.name, .sl 3 (Rw.encL v53.1.args)]] (ds' := (Rw.encL ([(Rw.mk 3 ByteArray.empty ([])), v53.1]))) rfl (by kernel_rfl) ⟨⟨rfl, rfl, rfl, ⟨[(.v (.int .i64 3))], _, rfl, rfl, ⟨[(.v (.string ByteArray.empty))], _, rfl, rfl, ⟨[(.v (.slice none 0 0))], _, rfl, (.inr ⟨rfl, rfl⟩), rfl⟩⟩⟩⟩, ⟨⟨rfl, rfl, rfl, ⟨[(.v (.int .i64 v53.1.op))], _, rfl, rfl, ⟨[(.v (.string v53.1.name))], _, rfl, rfl, ⟨[(.v (.slice a55 ((Rw.encL v53.1.args).length) c55))], _, rfl, (.inl ⟨_, rfl, nth_mem (j := 3) rfl⟩), rfl⟩⟩⟩⟩, trivial⟩⟩ rfl (by simp only [Rw.encL_eq, List.map_cons, List.map_nil, Rw.enc_eq] <;> rfl) (by decide) (by decide) ?_
          intro a57
          replace hr := Option.some.inj hr
          subst hr
          exact AtRet.gen ⟨[.cells 77 [(.v (.slice a56 ((Tk.encL v53.2.l).length) c56)), (.v (.int .i64 v53.2.at_)), (.v (.bool v53.2.bad))]], [], [(.slice a57 ((Rw.encL ([(Rw.mk 3 ByteArray.empty ([])), v53.1])).length) 2, .sl 3 (Rw.encL ([(Rw.mk 3 ByteArray.empty ([])), v53.1]))), (.slice a56 ((Tk.encL v53.2.l).length) c56, .sl 3 (Tk.encL v53.2.l))]⟩ (StLe.gen 1 [] [.old 5, .old 4] rfl rfl rfl rfl rfl rfl rfl) rfl rfl ⟨a57, 2, a56, c56, rfl, rfl⟩
    ·
      intro n hn v1 a2 c2 r hr
      rcases n with _ | n
      · exact no_some hr
      replace hn : n ≤ N := by omega
      rw [R02_reader_app.eq_2] at hr
      refine spec_of_body (N := 22) (m := 1) (dt := drawsOf [(3, .node [0, 1] [(2, .node [] [(3, .node [4] [(5, .leaf [])])])], [3, 5], [0]), (5, .node [0, 1] [(2, .node [] [(3, .node [4] [(5, .leaf [6])])])], [3, 5], [0])]) [] ttOK Tryz.func66 rfl Tryz.call66 Tryz.ntmps66 rfl rfl rfl mixed (by kernel_rfl) ?_
      obtain ⟨v3, h4, hr⟩ := bind_some hr
      refine (ih1 n (by omega) v1 a2 c2 _ h4).frameR [0] [0] rfl rfl rfl rfl rfl rfl rfl rfl ?_
      rintro _ _ ⟨a5, c5, a6, c6, rfl, rfl⟩
      refine ⟨rfl, rfl, [.cells 77 [(.v (.slice a6 ((Tk.encL v3.2.l).length) c6)), (.v (.int .i64 v3.2.at_)), (.v (.bool v3.2.bad))]], rfl, ?_⟩
      refine AtLoop.mk ⟨Nat × Rdr × Option Addr × Nat × Rw × Option Addr × Nat, fun x => [(0, (.loc 0 0)), (2, (.loc 1 0)), (4, (.loc 2 0))], fun x => ⟨[.cells 77 [(.v (.slice x.2.2.1 ((Tk.encL x.2.1.l).length) x.2.2.2.1)), (.v (.int .i64 x.2.1.at_)), (.v (.bool x.2.1.bad))], .cells 31 [(.v (.int .i64 0)), (.v (.string ByteArray.empty)), (.v (.slice none 0 0))], .cells 31 [(.v (.int .i64 x.2.2.2.2.1.op)), (.v (.string x.2.2.2.2.1.name)), (.v (.slice x.2.2.2.2.2.1 ((Rw.encL x.2.2.2.2.1.args).length) x.2.2.2.2.2.2))]], [], [(.slice x.2.2.1 ((Tk.encL x.2.1.l).length) x.2.2.2.1, .sl 3 (Tk.encL x.2.1.l)), (.slice x.2.2.2.2.2.1 ((Rw.encL x.2.2.2.2.1.args).length) x.2.2.2.2.2.2, .sl 3 (Rw.encL x.2.2.2.2.1.args)), (.slice a2 ((Tk.encL v1.l).length) c2, .sl 3 (Tk.encL v1.l)), (.slice a5 ((Rw.encL v3.1.args).length) c5, .sl 3 (Rw.encL v3.1.args)), (.slice a6 ((Tk.encL v3.2.l).length) c6, .sl 3 (Tk.encL v3.2.l))]⟩, fun x => x.1 ≤ N ∧ R02_reader_app_L1 x.1 x.2.1 x.2.2.2.2.1 = some r, fun x => x.1, (n, v3.2, a6, c6, v3.1, a5, c5), ⟨by omega, hr⟩, ⟨rfl, rfl, rfl, trivial⟩, (StLe.gen 3 [] [.old 2, .old 1, .old 0, .old 1, .old 2] rfl rfl rfl rfl rfl rfl rfl), fun x _ => ⟨rfl, rfl⟩, ?_⟩
      rintro ⟨n, v15, a16, c16, v17, a18, c18⟩ HH
      obtain ⟨hn, hr⟩ : n ≤ N ∧ R02_reader_app_L1 n v15 v17 = some r := HH
      rcases n with _ | n
      · exact no_some hr
      rw [R02_reader_app_L1.eq_2] at hr
      obtain ⟨v19, h20, hr⟩ := bind_some hr
      refine (R02_reader_atoms_spec n v15 a16 c16 _ h20).frameR [0] [0] rfl rfl rfl rfl rfl rfl rfl rfl ?_
      rintro _ _ ⟨rfl, rfl⟩
      refine ⟨rfl, rfl, [.cells 77 [(.v (.slice a16 ((Tk.encL v15.l).length) c16)), (.v (.int .i64 v15.at_)), (.v (.bool v15.bad))]], rfl, ?_⟩
      refine AtIf.mk (fun h21 => ?_) (fun h21 => ?_)
      · replace hr := cond_t h21 hr
        obtain ⟨v22, h23, hr⟩ := bind_some hr
        refine (ih1 n (by omega) v15 a16 c16 _ h23).frameR [0] [0] rfl rfl rfl rfl rfl rfl rfl rfl ?_
        rintro _ _ ⟨a24, c24, a25, c25, rfl, rfl⟩
        refine ⟨rfl, rfl, [.cells 77 [(.v (.slice a25 ((Tk.encL v22.2.l).length) c25)), (.v (.int .i64 v22.2.at_)), (.v (.bool v22.2.bad))]], rfl, ?_⟩
        refine ⟨fun _ _ h => h, ?_⟩
        refine at_buildG (n := 2) ttOK 48 [.agg [.int .i64 v17.op, .str v17.name, .sl 3 (Rw.encL v17.args)], .agg [.int .i64 v22.1.op, .str v22.1.name, .sl 3 (Rw.encL v22.1.args)]] (ds' := (Rw.encL ([v17, v22.1]))) rfl (by kernel_rfl) ⟨⟨rfl, rfl, rfl, ⟨[(.v (.int .i64 v17.op))], _, rfl, rfl, ⟨[(.v (.string v17.name))], _, rfl, rfl, ⟨[(.v (.slice a18 ((Rw.encL v17.args).length) c18))], _, rfl, (.inl ⟨_, rfl, nth_mem (j := 1) rfl⟩), rfl⟩⟩⟩⟩, ⟨⟨rfl, rfl, rfl, ⟨[(.v (.int .i64 v22.1.op))], _, rfl, rfl, ⟨[(.v (.string v22.1.name))], _, rfl, rfl, ⟨[(.v (.slice a24 ((Rw.encL v22.1.args).length) c24))], _, rfl, (.inl ⟨_, rfl, nth_mem (j := 5) rfl⟩), rfl⟩⟩⟩⟩, trivial⟩⟩ rfl (by simp only [Rw.encL_eq, List.map_cons, List.map_nil, Rw.enc_eq] <;> rfl) (by decide) (by decide) ?_
        intro a26
        exact ⟨(n, v22.2, a25, c25, (Rw.mk 4 ByteArray.empty ([v17, v22.1])), a26, 2), ⟨by omega, hr⟩, Nat.lt_succ_self _, ⟨rfl, rfl, rfl, trivial⟩, (StLe.gen 3 [] [.old 6, .old 7, .old 2, .old 3, .old 4] rfl rfl rfl rfl rfl rfl rfl)⟩
      · replace hr := cond_f h21 hr
        obtain ⟨v27, h28, hr⟩ := bind_some hr
        refine (R02_reader_binds_spec n v15 a16 c16 _ h28).frameR [0] [0] rfl rfl rfl rfl rfl rfl rfl rfl ?_
        rintro _ _ ⟨rfl, rfl⟩
        refine ⟨rfl, rfl, [.cells 77 [(.v (.slice a16 ((Tk.encL v15.l).length) c16)), (.v (.int .i64 v15.at_)), (.v (.bool v15.bad))]], rfl, ?_⟩
        refine AtIf.mk (fun h29 => ?_) (fun h29 => ?_)
        · replace hr := cond_t h29 hr
          obtain ⟨v30, h31, hr⟩ := bind_some hr
          refine (ih3 n (by omega) v15 a16 c16 _ h31).frameR [0] [0] rfl rfl rfl rfl rfl rfl rfl rfl ?_
          rintro _ _ ⟨a32, c32, a33, c33, rfl, rfl⟩
          refine ⟨rfl, rfl, [.cells 77 [(.v (.slice a33 ((Tk.encL v30.2.l).length) c33)), (.v (.int .i64 v30.2.at_)), (.v (.bool v30.2.bad))]], rfl, ?_⟩
          refine ⟨fun _ _ h => h, ?_⟩
          refine at_buildG (n := 2) ttOK 48 [.agg [.int .i64 v17.op, .str v17.name, .sl 3 (Rw.encL v17.args)], .agg [.int .i64 v30.1.op, .str v30.1.name, .sl 3 (Rw.encL v30.1.args)]] (ds' := (Rw.encL ([v17, v30.1]))) rfl (by kernel_rfl) ⟨⟨rfl, rfl, rfl, ⟨[(.v (.int .i64 v17.op))], _, rfl, rfl, ⟨[(.v (.string v17.name))], _, rfl, rfl, ⟨[(.v (.slice a18 ((Rw.encL v17.args).length) c18))], _, rfl, (.inl ⟨_, rfl, nth_mem (j := 1) rfl⟩), rfl⟩⟩⟩⟩, ⟨⟨rfl, rfl, rfl, ⟨[(.v (.int .i64 v30.1.op))], _, rfl, rfl, ⟨[(.v (.string v30.1.name))], _, rfl, rfl, ⟨[(.v (.slice a32 ((Rw.encL v30.1.args).length) c32))], _, rfl, (.inl ⟨_, rfl, nth_mem (j := 5) rfl⟩), rfl⟩⟩⟩⟩, trivial⟩⟩ rfl (by simp only [Rw.encL_eq, List.map_cons, List.map_nil, Rw.enc_eq] <;> rfl) (by decide) (by decide) ?_
          intro a34
          replace hr := Option.some.inj hr
          subst hr
          exact AtRet.gen ⟨[.cells 77 [(.v (.slice a33 ((Tk.encL v30.2.l).length) c33)), (.v (.int .i64 v30.2.at_)), (.v (.bool v30.2.bad))]], [], [(.slice a34 ((Rw.encL ([v17, v30.1])).length) 2, .sl 3 (Rw.encL ([v17, v30.1]))), (.slice a33 ((Tk.encL v30.2.l).length) c33, .sl 3 (Tk.encL v30.2.l))]⟩ (StLe.gen 1 [] [.old 7, .old 6] rfl rfl rfl rfl rfl rfl rfl) rfl rfl ⟨a34, 2, a33, c33, rfl, rfl⟩
        · replace hr := cond_f h29 hr
          replace hr := Option.some.inj hr
          subst hr
          exact AtRet.gen ⟨[.cells 77 [(.v (.slice a16 ((Tk.encL v15.l).length) c16)), (.v (.int .i64 v15.at_)), (.v (.bool v15.bad))]], [], [(.slice a18 ((Rw.encL v17.args).length) c18, .sl 3 (Rw.encL v17.args)), (.slice a16 ((Tk.encL v15.l).length) c16, .sl 3 (Tk.encL v15.l))]⟩ (StLe.gen 1 [] [.old 1, .old 0] rfl rfl rfl rfl rfl rfl rfl) rfl rfl ⟨a18, c18, a16, c16, rfl, rfl⟩
theorem R02_reader_expr_spec (n : Nat) (v1 : Rdr) (a2 : Option Addr) (c2 : Nat) (r : Rw × Rdr) (hr : R02_reader_expr n v1 = some r) : Meets Tryz.prog (.val (.fn (.func 34) [] [])) [(.loc 0 0)] ⟨[.cells 77 [(.v (.slice a2 ((Tk.encL v1.l).length) c2)), (.v (.int .i64 v1.at_)), (.v (.bool v1.bad))]], [], [(.slice a2 ((Tk.encL v1.l).length) c2, .sl 3 (Tk.encL v1.l))]⟩ (fun o S' => ∃ (b1 : Option Addr) (d1 : Nat), ∃ (b2 : Option Addr) (d2 : Nat), o = .ret (.agg [(.v (.int .i64 r.1.op)), (.v (.string r.1.name)), (.v (.slice b1 ((Rw.encL r.1.args).length) d1))]) ∧ S' = ⟨[.cells 77 [(.v (.slice b2 ((Tk.encL r.2.l).length) d2)), (.v (.int .i64 r.2.at_)), (.v (.bool r.2.bad))]], [], [(.slice b1 ((Rw.encL r.1.args).length) d1, .sl 3 (Rw.encL r.1.args)), (.slice b2 ((Tk.encL r.2.l).length) d2, .sl 3 (Tk.encL r.2.l))]⟩) := (R02_reader_atom_specN n).2.1 n (Nat.le_refl _) v1 a2 c2 r hr
def R02_Expr : Nat → ByteArray → Option (Rw × Int × Int)
  | 0, _ => none
  | n + 1, v1 =>
    (R01_Tokens n v1).bind (fun v2 =>
    cond (v2.2.2 != 0) (
    some ((Rw.mk 0 ByteArray.empty ([])), v2.2.1, v2.2.2)) (
    (R02_reader_expr n (Rdr.mk v2.1 0 false)).bind (fun v6 =>
    cond v6.2.bad (
    (R02_reader_now n v6.2).bind (fun v17 =>
    some ((Rw.mk 0 ByteArray.empty ([])), v17.at_, 4))) (
    (R02_reader_now n v6.2).bind (fun v11 =>
    cond (v11.kind != 7) (
    (R02_reader_now n v6.2).bind (fun v14 =>
    some ((Rw.mk 0 ByteArray.empty ([])), v14.at_, 4))) (
    cond (!(rawOK v6.1)) (
    some ((Rw.mk 0 ByteArray.empty ([])), 0, 5)) (
    some (v6.1, 0, 0))))))))
theorem R02_Expr_spec (n : Nat) (v1 : ByteArray)  (r : Rw × Int × Int) (hr : R02_Expr n v1 = some r) : Pure Tryz.prog (.val (.fn (.func 15) [] [])) [(.v (.string v1))] [] (fun r' out => ∃ (b1 : Option Addr) (d1 : Nat), r' = (.tup [(.agg [(.v (.int .i64 r.1.op)), (.v (.string r.1.name)), (.v (.slice b1 ((Rw.encL r.1.args).length) d1))]), (.v (.int .i64 r.2.1)), (.v (.int .i64 r.2.2))]) ∧ out = [(.slice b1 ((Rw.encL r.1.args).length) d1, .sl 3 (Rw.encL r.1.args))]) := by
  rcases n with _ | n
  · exact no_some hr
  rw [R02_Expr.eq_2] at hr
  refine spec_of_body (N := 45) (m := 0) (dt := fun _ => none) [] ttOK Tryz.func15 rfl Tryz.call15 Tryz.ntmps15 rfl rfl rfl mixed (by kernel_rfl) ?_
  obtain ⟨v2, h3, hr⟩ := bind_some hr
  refine (R01_Tokens_spec n v1 _ h3).atR [] rfl rfl rfl ?_
  rintro _ _ ⟨a4, c4, rfl, rfl⟩
  refine AtIf.mk (fun h5 => ?_) (fun h5 => ?_)
  · replace hr := cond_t h5 hr
    replace hr := Option.some.inj hr
    subst hr
    exact AtRet.pureG [.nil 3] [(.slice none 0 0, .sl 3 [])] rfl rfl ⟨none, 0, rfl, rfl⟩
  · replace hr := cond_f h5 hr
    obtain ⟨v6, h7, hr⟩ := bind_some hr
    refine (R02_reader_expr_spec n (Rdr.mk v2.1 0 false) a4 c4 _ h7).frameR [1] [0] rfl rfl rfl rfl rfl rfl rfl rfl ?_
    rintro _ _ ⟨a8, c8, a9, c9, rfl, rfl⟩
    refine ⟨rfl, rfl, [.cells 77 [(.v (.slice a9 ((Tk.encL v6.2.l).length) c9)), (.v (.int .i64 v6.2.at_)), (.v (.bool v6.2.bad))]], rfl, ?_⟩
    refine AtGuard.mk (fun h10 => ?_) (fun h10 => ?_)
    · replace hr := cond_f h10 hr
      obtain ⟨v11, h12, hr⟩ := bind_some hr
      refine (R02_reader_now_spec n v6.2 a9 c9 _ h12).frameR [1] [2] rfl rfl rfl rfl rfl rfl rfl rfl ?_
      rintro _ _ ⟨rfl, rfl⟩
      refine ⟨rfl, rfl, [.cells 77 [(.v (.slice a9 ((Tk.encL v6.2.l).length) c9)), (.v (.int .i64 v6.2.at_)), (.v (.bool v6.2.bad))]], rfl, ?_⟩
      refine at_field Tryz.underlying80 rfl Tryz.isAgg3 rfl rfl rfl ?_
      refine AtIf.mk (fun h13 => ?_) (fun h13 => ?_)
      · replace hr := cond_t h13 hr
        obtain ⟨v14, h15, hr⟩ := bind_some hr
        refine (R02_reader_now_spec n v6.2 a9 c9 _ h15).frameR [1] [2] rfl rfl rfl rfl rfl rfl rfl rfl ?_
        rintro _ _ ⟨rfl, rfl⟩
        refine ⟨rfl, rfl, [.cells 77 [(.v (.slice a9 ((Tk.encL v6.2.l).length) c9)), (.v (.int .i64 v6.2.at_)), (.v (.bool v6.2.bad))]], rfl, ?_⟩
        refine at_field Tryz.underlying80 rfl Tryz.isAgg3 rfl rfl rfl ?_
        replace hr := Option.some.inj hr
        subst hr
        exact AtRet.pureG [.nil 3] [(.slice none 0 0, .sl 3 [])] rfl rfl ⟨none, 0, rfl, rfl⟩
      · replace hr := cond_f h13 hr
        refine (well_spec v6.1 a8 c8).atR [1] rfl rfl rfl ?_
        rintro _ _ ⟨rfl, rfl⟩
        refine AtIf.mk (fun h16 => ?_) (fun h16 => ?_)
        · replace hr := cond_t h16 hr
          replace hr := Option.some.inj hr
          subst hr
          exact AtRet.pureG [.nil 3] [(.slice none 0 0, .sl 3 [])] rfl rfl ⟨none, 0, rfl, rfl⟩
        · replace hr := cond_f h16 hr
          replace hr := Option.some.inj hr
          subst hr
          exact AtRet.pureG [.old 1] [(.slice a8 ((Rw.encL v6.1.args).length) c8, .sl 3 (Rw.encL v6.1.args))] rfl rfl ⟨a8, c8, rfl, rfl⟩
    · replace hr := cond_t h10 hr
      refine AtIf.mk (fun _ => ?_) (fun h => tf h)
      obtain ⟨v17, h18, hr⟩ := bind_some hr
      refine (R02_reader_now_spec n v6.2 a9 c9 _ h18).frameR [1] [2] rfl rfl rfl rfl rfl rfl rfl rfl ?_
      rintro _ _ ⟨rfl, rfl⟩
      refine ⟨rfl, rfl, [.cells 77 [(.v (.slice a9 ((Tk.encL v6.2.l).length) c9)), (.v (.int .i64 v6.2.at_)), (.v (.bool v6.2.bad))]], rfl, ?_⟩
      refine at_field Tryz.underlying80 rfl Tryz.isAgg3 rfl rfl rfl ?_
      replace hr := Option.some.inj hr
      subst hr
      exact AtRet.pureG [.nil 3] [(.slice none 0 0, .sl 3 [])] rfl rfl ⟨none, 0, rfl, rfl⟩
mutual
def W07_PrintFree : Nat → Ask → Option (Bool)
  | 0, _ => none
  | n + 1, v1 =>
    (print_Raw n v1.sig v1.metas v1.n v1.t).bind (fun v5 =>
    (print_Text n v1.sig v1.metas v1.n v1.t).bind (fun v8 =>
    cond ((v5.2 != 0) || (v8.2 != 0)) (
    cond ((v5.2 == v8.2) && (v8.1.toList == (⟨#[]⟩ : ByteArray).toList)) (
    (W07_awake n ).bind (fun v12 =>
    some (v12))) (
    some (false))) (
    (R03_Constants n v1.t).bind (fun v14 =>
    W07_PrintFree_L1 n v14 v1 v5 v8 ([]) 0))))
def W07_PrintFree_L4 : Nat → (List ByteArray) → (List ByteArray) → (ByteArray × Int) → (Rw × Int) → Int → Option (Bool)
  | 0, _, _, _, _, _ => none
  | n + 1, v127, v108, v8, v5, v139 =>
    cond (decide (v139 < ((List.map D.str v127).length : Int))) (
    (idx v127 v139).bind (fun v142 =>
    (W07_has n v108 v142).bind (fun v146 =>
    cond (!v146) (
    some (false)) (
    W07_PrintFree_L4 n v127 v108 v8 v5 (IntKind.i64.wrap (v139 + 1)))))) (
    (R02_Expr n v8.1).bind (fun v149 =>
    cond (v149.2.2 == 0) (
    (R02_Same n v149.1 v5.1).bind (fun v153 =>
    cond (v153 || (decide ((v8.1.size : Int) > 6000))) (
    (W07_awake n ).bind (fun v156 =>
    some (v156))) (
    some (false)))) (
    cond (decide ((v8.1.size : Int) > 6000)) (
    (W07_awake n ).bind (fun v159 =>
    some (v159))) (
    some (false)))))
def W07_PrintFree_L3 : Nat → (List Int) → Ask → (Rw × Int) → (ByteArray × Int) → (List ByteArray) → Int → Option (Bool)
  | 0, _, _, _, _, _, _ => none
  | n + 1, v76, v1, v5, v8, v108, v110 =>
    cond (decide (v110 < ((List.map (D.int .i64) v76).length : Int))) (
    (idx v76 v110).bind (fun v113 =>
    (W07_vr n v113 ([])).bind (fun v117 =>
    (print_Text n v1.sig ([]) v1.n v117).bind (fun v120 =>
    cond (v120.2 == 5) (
    W07_PrintFree_L3 n v76 v1 v5 v8 v108 (IntKind.i64.wrap (v110 + 1))) (
    cond (v120.2 != 0) (
    some (false)) (
    cond (decide ((List.map D.str (v108 ++ [v120.1])).length ≤ 1000000)) (
    W07_PrintFree_L3 n v76 v1 v5 v8 (v108 ++ [v120.1]) (IntKind.i64.wrap (v110 + 1))) none)))))) (
    (R02_Free n v5.1).bind (fun v127 =>
    W07_PrintFree_L4 n v127 v108 v8 v5 0))
def W07_PrintFree_L2 : Nat → (List Int) → Ask → (Rw × Int) → (ByteArray × Int) → (List ByteArray) → Int → Option (Bool)
  | 0, _, _, _, _, _, _ => none
  | n + 1, v46, v1, v5, v8, v61, v63 =>
    cond (decide (v63 < ((List.map (D.int .i64) v46).length : Int))) (
    (idx v46 v63).bind (fun v66 =>
    (print_Text n v1.sig v1.metas 0 (Tm.mk 4 3 v66 ([]))).bind (fun v70 =>
    cond (v70.2 != 0) (
    some (false)) (
    cond (decide ((List.map D.str (v61 ++ [v70.1])).length ≤ 1000000)) (
    W07_PrintFree_L2 n v46 v1 v5 v8 (v61 ++ [v70.1]) (IntKind.i64.wrap (v63 + 1))) none)))) (
    (R03_Free n v1.t).bind (fun v76 =>
    W07_PrintFree_L3 n v76 v1 v5 v8 v61 0))
def W07_PrintFree_L1 : Nat → (List Int) → Ask → (Rw × Int) → (ByteArray × Int) → (List ByteArray) → Int → Option (Bool)
  | 0, _, _, _, _, _, _ => none
  | n + 1, v14, v1, v5, v8, v30, v32 =>
    cond (decide (v32 < ((List.map (D.int .i64) v14).length : Int))) (
    (idx v14 v32).bind (fun v34 =>
    (idx v1.sig v34).bind (fun v38 =>
    cond (decide ((List.map D.str (v30 ++ [v38.name])).length ≤ 1000000)) (
    W07_PrintFree_L1 n v14 v1 v5 v8 (v30 ++ [v38.name]) (IntKind.i64.wrap (v32 + 1))) none))) (
    (R03_Metas n v1.t).bind (fun v46 =>
    W07_PrintFree_L2 n v46 v1 v5 v8 v30 0))
 end
theorem W07_PrintFree_spec (n : Nat) (v1 : Ask) (a2 : Option Addr) (c2 : Nat) (a3 : Option Addr) (c3 : Nat) (a4 : Option Addr) (c4 : Nat) (r : Bool) (hr : W07_PrintFree n v1 = some r) : Pure Tryz.prog (.val (.fn (.func 3) [] [])) [(.agg [(.v (.slice a2 ((Dc.encL v1.sig).length) c2)), (.v (.slice a3 ((Mt.encL v1.metas).length) c3)), (.v (.int .i64 v1.n)), (.v (.int .i64 v1.t.op)), (.v (.int .i64 v1.t.hd)), (.v (.int .i64 v1.t.n)), (.v (.slice a4 ((Tm.encL v1.t.args).length) c4))])] [(.slice a2 ((Dc.encL v1.sig).length) c2, .sl 6 (Dc.encL v1.sig)), (.slice a3 ((Mt.encL v1.metas).length) c3, .sl 10 (Mt.encL v1.metas)), (.slice a4 ((Tm.encL v1.t.args).length) c4, .sl 4 (Tm.encL v1.t.args))] (fun r' out => r' = (.v (.bool r)) ∧ out = []) := by
  rcases n with _ | n
  · exact no_some hr
  rw [W07_PrintFree.eq_2] at hr
  refine spec_of_body (N := 166) (m := 0) (dt := drawsOf [(22, .node [0, 1, 2, 3, 4] [(5, .node [] [(6, .leaf [7, 8, 9, 10, 11])])], [6], [])]) [] ttOK Tryz.func3 rfl Tryz.call3 Tryz.ntmps3 rfl rfl rfl mixed (by kernel_rfl) ?_
  obtain ⟨v5, h6, hr⟩ := bind_some hr
  refine (print_Raw_spec n v1.sig v1.metas v1.n v1.t a2 c2 a3 c3 a4 c4 _ h6).atR [0, 1, 2] rfl rfl rfl ?_
  rintro _ _ ⟨a7, c7, rfl, rfl⟩
  obtain ⟨v8, h9, hr⟩ := bind_some hr
  refine (print_Text_spec n v1.sig v1.metas v1.n v1.t a2 c2 a3 c3 a4 c4 _ h9).atR [0, 1, 2] rfl rfl rfl ?_
  rintro _ _ ⟨rfl, rfl⟩
  refine AtIf.mk (fun h10 => ?_) (fun h10 => ?_)
  · replace hr := cond_t h10 hr
    refine AtGuard.mk (fun h11 => ?_) (fun h11 => ?_)
    · replace hr := cond_t h11 hr
      obtain ⟨v12, h13, hr⟩ := bind_some hr
      refine (W07_awake_spec n  _ h13).atR [] rfl rfl rfl ?_
      rintro _ _ ⟨rfl, rfl⟩
      replace hr := Option.some.inj hr
      subst hr
      exact AtRet.pureG [] [] rfl rfl ⟨rfl, rfl⟩
    · replace hr := cond_f h11 hr
      replace hr := Option.some.inj hr
      subst hr
      exact AtRet.pureG [] [] rfl rfl ⟨rfl, rfl⟩
  · replace hr := cond_f h10 hr
    obtain ⟨v14, h15, hr⟩ := bind_some hr
    refine (R03_Constants_spec n v1.t a4 c4 _ h15).atR [2] rfl rfl rfl ?_
    rintro _ _ ⟨a16, c16, rfl, rfl⟩
    refine AtLoop.mk ⟨Nat × (List ByteArray) × Option Addr × Nat × Int, fun x => [(1, (.loc 0 0)), (3, (.loc 1 0)), (5, (.v (.string v8.1))), (7, (.v (.slice x.2.2.1 ((List.map D.str x.2.1).length) x.2.2.2.1))), (65, (.v (.slice a16 ((List.map (D.int .i64) v14).length) c16))), (66, (.v (.int .i64 ((List.map (D.int .i64) v14).length : Int)))), (67, (.v (.int .i64 x.2.2.2.2)))], fun x => ⟨[.cells 28 [(.v (.slice a2 ((Dc.encL v1.sig).length) c2)), (.v (.slice a3 ((Mt.encL v1.metas).length) c3)), (.v (.int .i64 v1.n)), (.v (.int .i64 v1.t.op)), (.v (.int .i64 v1.t.hd)), (.v (.int .i64 v1.t.n)), (.v (.slice a4 ((Tm.encL v1.t.args).length) c4))], .cells 31 [(.v (.int .i64 v5.1.op)), (.v (.string v5.1.name)), (.v (.slice a7 ((Rw.encL v5.1.args).length) c7))]], [⟨.slice x.2.2.1 ((List.map D.str x.2.1).length) x.2.2.2.1, 1, 9, (List.map D.str x.2.1)⟩], [(.slice a2 ((Dc.encL v1.sig).length) c2, .sl 6 (Dc.encL v1.sig)), (.slice a3 ((Mt.encL v1.metas).length) c3, .sl 10 (Mt.encL v1.metas)), (.slice a4 ((Tm.encL v1.t.args).length) c4, .sl 4 (Tm.encL v1.t.args)), (.slice a7 ((Rw.encL v5.1.args).length) c7, .sl 3 (Rw.encL v5.1.args)), (.slice a16 ((List.map (D.int .i64) v14).length) c16, .sl 1 (List.map (D.int .i64) v14))]⟩, fun x => W07_PrintFree_L1 x.1 v14 v1 v5 v8 x.2.1 x.2.2.2.2 = some r, fun x => x.1, (n, [], none, 0, 0), hr, ⟨rfl, rfl, rfl, rfl, rfl, rfl, rfl, trivial⟩, (StLe.gen 2 [.nil 1 9] [.old 0, .old 1, .old 2, .old 3, .old 4] rfl rfl rfl rfl rfl rfl rfl), fun x _ => ⟨rfl, rfl⟩, ?_⟩
    rintro ⟨n, v30, a31, c31, v32⟩ HH
    have hr : W07_PrintFree_L1 n v14 v1 v5 v8 v30 v32 = some r := HH
    rcases n with _ | n
    · exact no_some hr
    rw [W07_PrintFree_L1.eq_2] at hr
    refine AtIf.mk (fun h33 => ?_) (fun h33 => ?_)
    · replace hr := cond_t h33 hr
      obtain ⟨v34, h35, hr⟩ := bind_some hr
      obtain ⟨h36, h37⟩ := idx_some h35
      refine at_index ttOK 4 rfl rfl rfl rfl h36 (map_get (D.int .i64) h37) ?_
      obtain ⟨v38, h39, hr⟩ := bind_some hr
      obtain ⟨h40, h41⟩ := idx_some h39
      refine at_index ttOK 0 rfl rfl rfl rfl h40 (Dc.encL_get h41) ?_
      intro a42 c42 _ _
      refine at_buildG (n := 1) ttOK 16 [.str v38.name] (ds' := (List.map D.str ([v38.name]))) rfl (by kernel_rfl) ⟨⟨rfl, rfl, rfl, rfl⟩, trivial⟩ rfl rfl (by decide) (by decide) ?_
      intro a43
      obtain ⟨h44, hr⟩ := cond_need hr
      refine at_appendG (ds' := (List.map D.str (v30 ++ [v38.name]))) ttOK 16 0 6 rfl (by kernel_rfl) rfl rfl rfl rfl (by simp only [List.map_append]) h44 (by decide) ?_
      intro a45 c45
      exact ⟨(n, (v30 ++ [v38.name]), a45, c45, (IntKind.i64.wrap (v32 + 1))), hr, Nat.lt_succ_self _, ⟨rfl, rfl, rfl, rfl, rfl, rfl, rfl, trivial⟩, (StLe.gen 2 [.old 0] [.old 0, .old 1, .old 2, .old 3, .old 4] rfl rfl rfl rfl rfl rfl rfl)⟩
    · replace hr := cond_f h33 hr
      obtain ⟨v46, h47, hr⟩ := bind_some hr
      refine (R03_Metas_spec n v1.t a4 c4 _ h47).atR [2] rfl rfl rfl ?_
      rintro _ _ ⟨a48, c48, rfl, rfl⟩
      obtain ⟨q64, hq64⟩ : ∃ q, q = n := ⟨_, rfl⟩
      refine AtLoop.mk ⟨Nat × (List ByteArray) × Option Addr × Nat × Int, fun x => [(1, (.loc 0 0)), (3, (.loc 1 0)), (5, (.v (.string v8.1))), (7, (.v (.slice x.2.2.1 ((List.map D.str x.2.1).length) x.2.2.2.1))), (83, (.v (.slice a48 ((List.map (D.int .i64) v46).length) c48))), (84, (.v (.int .i64 ((List.map (D.int .i64) v46).length : Int)))), (85, (.v (.int .i64 x.2.2.2.2)))], fun x => ⟨[.cells 28 [(.v (.slice a2 ((Dc.encL v1.sig).length) c2)), (.v (.slice a3 ((Mt.encL v1.metas).length) c3)), (.v (.int .i64 v1.n)), (.v (.int .i64 v1.t.op)), (.v (.int .i64 v1.t.hd)), (.v (.int .i64 v1.t.n)), (.v (.slice a4 ((Tm.encL v1.t.args).length) c4))], .cells 31 [(.v (.int .i64 v5.1.op)), (.v (.string v5.1.name)), (.v (.slice a7 ((Rw.encL v5.1.args).length) c7))]], [⟨.slice x.2.2.1 ((List.map D.str x.2.1).length) x.2.2.2.1, 1, 9, (List.map D.str x.2.1)⟩], [(.slice a2 ((Dc.encL v1.sig).length) c2, .sl 6 (Dc.encL v1.sig)), (.slice a3 ((Mt.encL v1.metas).length) c3, .sl 10 (Mt.encL v1.metas)), (.slice a4 ((Tm.encL v1.t.args).length) c4, .sl 4 (Tm.encL v1.t.args)), (.slice a7 ((Rw.encL v5.1.args).length) c7, .sl 3 (Rw.encL v5.1.args)), (.slice a16 ((List.map (D.int .i64) v14).length) c16, .sl 1 (List.map (D.int .i64) v14)), (.slice a48 ((List.map (D.int .i64) v46).length) c48, .sl 1 (List.map (D.int .i64) v46))]⟩, fun x => x.1 ≤ q64 ∧ W07_PrintFree_L2 x.1 v46 v1 v5 v8 x.2.1 x.2.2.2.2 = some r, fun x => x.1, (n, v30, a31, c31, 0), ⟨by omega, hr⟩, ⟨rfl, rfl, rfl, rfl, rfl, rfl, rfl, trivial⟩, (StLe.gen 2 [.old 0] [.old 0, .old 1, .old 2, .old 3, .old 4, .old 5] rfl rfl rfl rfl rfl rfl rfl), fun x _ => ⟨rfl, rfl⟩, ?_⟩
      rintro ⟨n, v61, a62, c62, v63⟩ HH
      obtain ⟨hbq64, hr⟩ : n ≤ q64 ∧ W07_PrintFree_L2 n v46 v1 v5 v8 v61 v63 = some r := HH
      rcases n with _ | n
      · exact no_some hr
      rw [W07_PrintFree_L2.eq_2] at hr
      refine AtIf.mk (fun h65 => ?_) (fun h65 => ?_)
      · replace hr := cond_t h65 hr
        obtain ⟨v66, h67, hr⟩ := bind_some hr
        obtain ⟨h68, h69⟩ := idx_some h67
        refine at_index ttOK 5 rfl rfl rfl rfl h68 (map_get (D.int .i64) h69) ?_
        obtain ⟨v70, h71, hr⟩ := bind_some hr
        refine Meets.nilRep 4 ?_
        refine (print_Text_spec n v1.sig v1.metas 0 (Tm.mk 4 3 v66 ([])) a2 c2 a3 c3 none 0 _ h71).atR [1, 2, 0] rfl rfl rfl ?_
        rintro _ _ ⟨rfl, rfl⟩
        refine AtIf.mk (fun h72 => ?_) (fun h72 => ?_)
        · replace hr := cond_t h72 hr
          replace hr := Option.some.inj hr
          subst hr
          exact AtRet.pureG [] [] rfl rfl ⟨rfl, rfl⟩
        · replace hr := cond_f h72 hr
          refine at_buildG (n := 1) ttOK 16 [.str v70.1] (ds' := (List.map D.str ([v70.1]))) rfl (by kernel_rfl) ⟨⟨rfl, rfl, rfl, rfl⟩, trivial⟩ rfl rfl (by decide) (by decide) ?_
          intro a73
          obtain ⟨h74, hr⟩ := cond_need hr
          refine at_appendG (ds' := (List.map D.str (v61 ++ [v70.1]))) ttOK 16 0 7 rfl (by kernel_rfl) rfl rfl rfl rfl (by simp only [List.map_append]) h74 (by decide) ?_
          intro a75 c75
          exact ⟨(n, (v61 ++ [v70.1]), a75, c75, (IntKind.i64.wrap (v63 + 1))), ⟨by omega, hr⟩, Nat.lt_succ_self _, ⟨rfl, rfl, rfl, rfl, rfl, rfl, rfl, trivial⟩, (StLe.gen 2 [.old 0] [.old 1, .old 2, .old 3, .old 4, .old 5, .old 6] rfl rfl rfl rfl rfl rfl rfl)⟩
      · replace hr := cond_f h65 hr
        obtain ⟨v76, h77, hr⟩ := bind_some hr
        refine (R03_Free_spec n v1.t a4 c4 _ h77).atR [2] rfl rfl rfl ?_
        rintro _ _ ⟨a78, c78, rfl, rfl⟩
        obtain ⟨q111, hq111⟩ : ∃ q, q = n := ⟨_, rfl⟩
        refine AtLoop.mk ⟨Nat × (List ByteArray) × Option Addr × Nat × Int, fun x => [(1, (.loc 0 0)), (3, (.loc 1 0)), (5, (.v (.string v8.1))), (7, (.v (.slice x.2.2.1 ((List.map D.str x.2.1).length) x.2.2.2.1))), (108, (.v (.slice a78 ((List.map (D.int .i64) v76).length) c78))), (109, (.v (.int .i64 ((List.map (D.int .i64) v76).length : Int)))), (110, (.v (.int .i64 x.2.2.2.2)))], fun x => ⟨[.cells 28 [(.v (.slice a2 ((Dc.encL v1.sig).length) c2)), (.v (.slice a3 ((Mt.encL v1.metas).length) c3)), (.v (.int .i64 v1.n)), (.v (.int .i64 v1.t.op)), (.v (.int .i64 v1.t.hd)), (.v (.int .i64 v1.t.n)), (.v (.slice a4 ((Tm.encL v1.t.args).length) c4))], .cells 31 [(.v (.int .i64 v5.1.op)), (.v (.string v5.1.name)), (.v (.slice a7 ((Rw.encL v5.1.args).length) c7))]], [⟨.slice x.2.2.1 ((List.map D.str x.2.1).length) x.2.2.2.1, 1, 9, (List.map D.str x.2.1)⟩], [(.slice a2 ((Dc.encL v1.sig).length) c2, .sl 6 (Dc.encL v1.sig)), (.slice a3 ((Mt.encL v1.metas).length) c3, .sl 10 (Mt.encL v1.metas)), (.slice a4 ((Tm.encL v1.t.args).length) c4, .sl 4 (Tm.encL v1.t.args)), (.slice a7 ((Rw.encL v5.1.args).length) c7, .sl 3 (Rw.encL v5.1.args)), (.slice a16 ((List.map (D.int .i64) v14).length) c16, .sl 1 (List.map (D.int .i64) v14)), (.slice a48 ((List.map (D.int .i64) v46).length) c48, .sl 1 (List.map (D.int .i64) v46)), (.slice a78 ((List.map (D.int .i64) v76).length) c78, .sl 1 (List.map (D.int .i64) v76))]⟩, fun x => x.1 ≤ q111 ∧ W07_PrintFree_L3 x.1 v76 v1 v5 v8 x.2.1 x.2.2.2.2 = some r, fun x => x.1, (n, v61, a62, c62, 0), ⟨by omega, hr⟩, ⟨rfl, rfl, rfl, rfl, rfl, rfl, rfl, trivial⟩, (StLe.gen 2 [.old 0] [.old 0, .old 1, .old 2, .old 3, .old 4, .old 5, .old 6] rfl rfl rfl rfl rfl rfl rfl), fun x _ => ⟨rfl, rfl⟩, ?_⟩
        rintro ⟨n, v108, a109, c109, v110⟩ HH
        obtain ⟨hbq111, hr⟩ : n ≤ q111 ∧ W07_PrintFree_L3 n v76 v1 v5 v8 v108 v110 = some r := HH
        rcases n with _ | n
        · exact no_some hr
        rw [W07_PrintFree_L3.eq_2] at hr
        refine AtIf.mk (fun h112 => ?_) (fun h112 => ?_)
        · replace hr := cond_t h112 hr
          obtain ⟨v113, h114, hr⟩ := bind_some hr
          obtain ⟨h115, h116⟩ := idx_some h114
          refine at_index ttOK 6 rfl rfl rfl rfl h115 (map_get (D.int .i64) h116) ?_
          obtain ⟨v117, h118, hr⟩ := bind_some hr
          refine Meets.nilRep 4 ?_
          refine (W07_vr_spec n v113 ([]) none 0 _ h118).atR [0] rfl rfl rfl ?_
          rintro _ _ ⟨a119, c119, rfl, rfl⟩
          refine ⟨fun _ _ h => h, ?_⟩
          obtain ⟨v120, h121, hr⟩ := bind_some hr
          refine Meets.nilRep 10 ?_
          refine (print_Text_spec n v1.sig ([]) v1.n v117 a2 c2 none 0 a119 c119 _ h121).atR [2, 0, 9] rfl rfl rfl ?_
          rintro _ _ ⟨rfl, rfl⟩
          refine AtIf.mk (fun h122 => ?_) (fun h122 => ?_)
          · replace hr := cond_t h122 hr
            exact ⟨(n, v108, a109, c109, (IntKind.i64.wrap (v110 + 1))), ⟨by omega, hr⟩, Nat.lt_succ_self _, ⟨rfl, rfl, rfl, rfl, rfl, rfl, rfl, trivial⟩, (StLe.gen 2 [.old 0] [.old 2, .old 3, .old 4, .old 5, .old 6, .old 7, .old 8] rfl rfl rfl rfl rfl rfl rfl)⟩
          · replace hr := cond_f h122 hr
            refine AtIf.mk (fun h123 => ?_) (fun h123 => ?_)
            · replace hr := cond_t h123 hr
              replace hr := Option.some.inj hr
              subst hr
              exact AtRet.pureG [] [] rfl rfl ⟨rfl, rfl⟩
            · replace hr := cond_f h123 hr
              refine at_buildG (n := 1) ttOK 16 [.str v120.1] (ds' := (List.map D.str ([v120.1]))) rfl (by kernel_rfl) ⟨⟨rfl, rfl, rfl, rfl⟩, trivial⟩ rfl rfl (by decide) (by decide) ?_
              intro a124
              obtain ⟨h125, hr⟩ := cond_need hr
              refine at_appendG (ds' := (List.map D.str (v108 ++ [v120.1]))) ttOK 16 0 10 rfl (by kernel_rfl) rfl rfl rfl rfl (by simp only [List.map_append]) h125 (by decide) ?_
              intro a126 c126
              exact ⟨(n, (v108 ++ [v120.1]), a126, c126, (IntKind.i64.wrap (v110 + 1))), ⟨by omega, hr⟩, Nat.lt_succ_self _, ⟨rfl, rfl, rfl, rfl, rfl, rfl, rfl, trivial⟩, (StLe.gen 2 [.old 0] [.old 2, .old 3, .old 4, .old 5, .old 6, .old 7, .old 8] rfl rfl rfl rfl rfl rfl rfl)⟩
        · replace hr := cond_f h112 hr
          obtain ⟨v127, h128, hr⟩ := bind_some hr
          refine (R02_Free_spec n v5.1 a7 c7 _ h128).atR [3] rfl rfl rfl ?_
          rintro _ _ ⟨a129, c129, rfl, rfl⟩
          obtain ⟨q140, hq140⟩ : ∃ q, q = n := ⟨_, rfl⟩
          refine AtLoop.mk ⟨Nat × Int, fun x => [(3, (.loc 1 0)), (5, (.v (.string v8.1))), (7, (.v (.slice a109 ((List.map D.str v108).length) c109))), (134, (.v (.slice a129 ((List.map D.str v127).length) c129))), (135, (.v (.int .i64 ((List.map D.str v127).length : Int)))), (136, (.v (.int .i64 x.2)))], fun x => ⟨[.cells 28 [(.v (.slice a2 ((Dc.encL v1.sig).length) c2)), (.v (.slice a3 ((Mt.encL v1.metas).length) c3)), (.v (.int .i64 v1.n)), (.v (.int .i64 v1.t.op)), (.v (.int .i64 v1.t.hd)), (.v (.int .i64 v1.t.n)), (.v (.slice a4 ((Tm.encL v1.t.args).length) c4))], .cells 31 [(.v (.int .i64 v5.1.op)), (.v (.string v5.1.name)), (.v (.slice a7 ((Rw.encL v5.1.args).length) c7))]], [⟨.slice a109 ((List.map D.str v108).length) c109, 1, 9, (List.map D.str v108)⟩], [(.slice a2 ((Dc.encL v1.sig).length) c2, .sl 6 (Dc.encL v1.sig)), (.slice a3 ((Mt.encL v1.metas).length) c3, .sl 10 (Mt.encL v1.metas)), (.slice a4 ((Tm.encL v1.t.args).length) c4, .sl 4 (Tm.encL v1.t.args)), (.slice a7 ((Rw.encL v5.1.args).length) c7, .sl 3 (Rw.encL v5.1.args)), (.slice a16 ((List.map (D.int .i64) v14).length) c16, .sl 1 (List.map (D.int .i64) v14)), (.slice a48 ((List.map (D.int .i64) v46).length) c48, .sl 1 (List.map (D.int .i64) v46)), (.slice a78 ((List.map (D.int .i64) v76).length) c78, .sl 1 (List.map (D.int .i64) v76)), (.slice a129 ((List.map D.str v127).length) c129, .sl 1 (List.map D.str v127))]⟩, fun x => x.1 ≤ q140 ∧ W07_PrintFree_L4 x.1 v127 v108 v8 v5 x.2 = some r, fun x => x.1, (n, 0), ⟨by omega, hr⟩, ⟨rfl, rfl, rfl, rfl, rfl, rfl, trivial⟩, (StLe.gen 2 [.old 0] [.old 0, .old 1, .old 2, .old 3, .old 4, .old 5, .old 6, .old 7] rfl rfl rfl rfl rfl rfl rfl), fun x _ => ⟨rfl, rfl⟩, ?_⟩
          rintro ⟨n, v139⟩ HH
          obtain ⟨hbq140, hr⟩ : n ≤ q140 ∧ W07_PrintFree_L4 n v127 v108 v8 v5 v139 = some r := HH
          rcases n with _ | n
          · exact no_some hr
          rw [W07_PrintFree_L4.eq_2] at hr
          refine AtIf.mk (fun h141 => ?_) (fun h141 => ?_)
          · replace hr := cond_t h141 hr
            obtain ⟨v142, h143, hr⟩ := bind_some hr
            obtain ⟨h144, h145⟩ := idx_some h143
            refine at_index ttOK 7 rfl rfl rfl rfl h144 (map_get D.str h145) ?_
            obtain ⟨v146, h147, hr⟩ := bind_some hr
            refine (W07_has_spec n v108 v142 a109 c109 _ h147).atB [.froz 0] rfl rfl rfl ?_
            rintro _ _ ⟨rfl, rfl⟩
            refine ⟨rfl, ?_⟩
            refine AtIf.mk (fun h148 => ?_) (fun h148 => ?_)
            · replace hr := cond_t h148 hr
              replace hr := Option.some.inj hr
              subst hr
              exact AtRet.pureG [] [] rfl rfl ⟨rfl, rfl⟩
            · replace hr := cond_f h148 hr
              exact ⟨(n, (IntKind.i64.wrap (v139 + 1))), ⟨by omega, hr⟩, Nat.lt_succ_self _, ⟨rfl, rfl, rfl, rfl, rfl, rfl, trivial⟩, (StLe.gen 2 [.old 0] [.old 0, .old 1, .old 2, .old 3, .old 4, .old 5, .old 6, .old 7] rfl rfl rfl rfl rfl rfl rfl)⟩
          · replace hr := cond_f h141 hr
            obtain ⟨v149, h150, hr⟩ := bind_some hr
            refine (R02_Expr_spec n v8.1 _ h150).atR [] rfl rfl rfl ?_
            rintro _ _ ⟨a151, c151, rfl, rfl⟩
            refine AtGuard.mk (fun h152 => ?_) (fun h152 => ?_)
            · replace hr := cond_t h152 hr
              obtain ⟨v153, h154, hr⟩ := bind_some hr
              refine (R02_Same_spec n v149.1 v5.1 a151 c151 a7 c7 _ h154).atR [8, 3] rfl rfl rfl ?_
              rintro _ _ ⟨rfl, rfl⟩
              refine AtGuard.mk (fun h155 => ?_) (fun h155 => ?_)
              · replace hr := cond_t h155 hr
                obtain ⟨v156, h157, hr⟩ := bind_some hr
                refine (W07_awake_spec n  _ h157).atR [] rfl rfl rfl ?_
                rintro _ _ ⟨rfl, rfl⟩
                replace hr := Option.some.inj hr
                subst hr
                exact AtRet.pureG [] [] rfl rfl ⟨rfl, rfl⟩
              · replace hr := cond_f h155 hr
                replace hr := Option.some.inj hr
                subst hr
                exact AtRet.pureG [] [] rfl rfl ⟨rfl, rfl⟩
            · replace hr := cond_f h152 hr
              refine AtGuard.mk (fun h158 => ?_) (fun h158 => ?_)
              · replace hr := cond_t h158 hr
                obtain ⟨v159, h160, hr⟩ := bind_some hr
                refine (W07_awake_spec n  _ h160).atR [] rfl rfl rfl ?_
                rintro _ _ ⟨rfl, rfl⟩
                replace hr := Option.some.inj hr
                subst hr
                exact AtRet.pureG [] [] rfl rfl ⟨rfl, rfl⟩
              · replace hr := cond_f h158 hr
                replace hr := Option.some.inj hr
                subst hr
                exact AtRet.pureG [] [] rfl rfl ⟨rfl, rfl⟩
end Go.Proofs.YtpibdcjdamibdaaGreatDoor
end
