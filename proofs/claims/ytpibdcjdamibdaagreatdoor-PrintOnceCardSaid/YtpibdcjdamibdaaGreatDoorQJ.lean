/- Merged texts: G3 FrA FrB FrC FrD FrE FrF FrG FrI FrJ. PrintFree and PrintOnce with fuel, and their contracts. Conditions stand in each. Plain law: texts of raw expressions and their tokens; the reference's lexer reads them. No program in sight. Plain law: the reference's lexer at the text of a raw expression. No program in sight. Plain law: the reference's reader at the tokens of a raw expression. No program in sight. Plain law: the reference reads the text of a raw expression again; two with one text are one. No program in sight. Plain law: what is free in the raw expression of a term. No program in sight. Plain law: what trussref02 says is free. No program in sight. Plain law: PrintFree answers true. No program in sight. Plain law: names of variables and constants are different. No program in sight. Plain law: what is left of a term without the arguments that are left out; one raw expression is of one such term. No program in sight. -/
import Derived.Test.YtpibdcjdamibdaaGreatDoorQI
import Derived.Lib.Strings
/-! G3 -/
section
namespace Go.Proofs.YtpibdcjdamibdaaGreatDoor
open Go.Tr Go
set_option maxRecDepth 10000
set_option linter.unusedVariables false
set_option linter.unusedSimpArgs false

structure Tk where
  kind : Int
  text : ByteArray
  at_ : Int
abbrev Tk.enc (t : Tk) : D := .agg [.int .i64 t.kind, .str t.text, .int .i64 t.at_]
abbrev Tk.encL (l : List Tk) : List D := l.map Tk.enc
theorem Tk.encL_eq (l : List Tk) : Tk.encL l = l.map Tk.enc := rfl
theorem Tk.enc_eq (t : Tk) : t.enc = .agg [.int .i64 t.kind, .str t.text, .int .i64 t.at_] := rfl
theorem Tk.encL_length (l : List Tk) : (Tk.encL l).length = l.length := by simp
theorem Tk.encL_get {l : List Tk} {i : Nat} {t : Tk} (h : l[i]? = some t) : (Tk.encL l)[i]? = some (.agg [.int .i64 t.kind, .str t.text, .int .i64 t.at_]) := by rw [Tk.encL_eq, List.getElem?_map, h]; rfl
structure Rdr where
  l : (List Tk)
  at_ : Int
  bad : Bool
abbrev Rdr.enc (t : Rdr) : D := .agg [.sl 3 (Tk.encL t.l), .int .i64 t.at_, .bool t.bad]
abbrev Rdr.encL (l : List Rdr) : List D := l.map Rdr.enc
theorem Rdr.encL_eq (l : List Rdr) : Rdr.encL l = l.map Rdr.enc := rfl
theorem Rdr.enc_eq (t : Rdr) : t.enc = .agg [.sl 3 (Tk.encL t.l), .int .i64 t.at_, .bool t.bad] := rfl
theorem Rdr.encL_length (l : List Rdr) : (Rdr.encL l).length = l.length := by simp
theorem Rdr.encL_get {l : List Rdr} {i : Nat} {t : Rdr} (h : l[i]? = some t) : (Rdr.encL l)[i]? = some (.agg [.sl 3 (Tk.encL t.l), .int .i64 t.at_, .bool t.bad]) := by rw [Rdr.encL_eq, List.getElem?_map, h]; rfl
mutual
def W07_erased : Nat → (List Dc) → Tm → Option (Tm)
  | 0, _, _ => none
  | n + 1, v1, v3 =>
    W07_erased_L1 n v3 v1 (Tm.mk v3.op v3.hd v3.n ([])) 0
def W07_erased_L1 : Nat → Tm → (List Dc) → Tm → Int → Option (Tm)
  | 0, _, _, _, _ => none
  | n + 1, v3, v1, v24, v26 =>
    cond (decide (v26 < ((Tm.encL v3.args).length : Int))) (
    cond ((v3.op != 4) || (v3.hd != 2)) (
    (idx v3.args v26).bind (fun v46 =>
    (W07_erased n v1 v46).bind (fun v51 =>
    cond (decide ((Tm.encL (v24.args ++ [v51])).length ≤ 1000000)) (
    W07_erased_L1 n v3 v1 (Tm.mk v24.op v24.hd v24.n (v24.args ++ [v51])) (IntKind.i64.wrap (v26 + 1))) none))) (
    (idx v1 v3.n).bind (fun v29 =>
    cond (decide (v26 ≥ v29.implicit)) (
    (idx v3.args v26).bind (fun v35 =>
    (W07_erased n v1 v35).bind (fun v40 =>
    cond (decide ((Tm.encL (v24.args ++ [v40])).length ≤ 1000000)) (
    W07_erased_L1 n v3 v1 (Tm.mk v24.op v24.hd v24.n (v24.args ++ [v40])) (IntKind.i64.wrap (v26 + 1))) none))) (
    W07_erased_L1 n v3 v1 v24 (IntKind.i64.wrap (v26 + 1)))))) (
    some (v24))
 end
theorem W07_erased_specN : ∀ (N : Nat), (∀ (n : Nat), n ≤ N → ∀ (v1 : (List Dc)) (v3 : Tm) (a2 : Option Addr) (c2 : Nat) (a4 : Option Addr) (c4 : Nat) (r : Tm), W07_erased n v1 v3 = some r → Pure Tryz.prog (.val (.fn (.func 18) [] [])) [(.v (.slice a2 ((Dc.encL v1).length) c2)), (.agg [(.v (.int .i64 v3.op)), (.v (.int .i64 v3.hd)), (.v (.int .i64 v3.n)), (.v (.slice a4 ((Tm.encL v3.args).length) c4))])] [(.slice a2 ((Dc.encL v1).length) c2, .sl 6 (Dc.encL v1)), (.slice a4 ((Tm.encL v3.args).length) c4, .sl 4 (Tm.encL v3.args))] (fun r' out => ∃ (b1 : Option Addr) (d1 : Nat), r' = (.agg [(.v (.int .i64 r.op)), (.v (.int .i64 r.hd)), (.v (.int .i64 r.n)), (.v (.slice b1 ((Tm.encL r.args).length) d1))]) ∧ out = [(.slice b1 ((Tm.encL r.args).length) d1, .sl 4 (Tm.encL r.args))])) := by
  intro N
  induction N with
  | zero =>
    intro n hn v1 v3 a2 c2 a4 c4 r hr; obtain rfl : n = 0 := (by omega); exact no_some hr
  | succ N ih =>
    intro n hn v1 v3 a2 c2 a4 c4 r hr
    rcases n with _ | n
    · exact no_some hr
    replace hn : n ≤ N := by omega
    rw [W07_erased.eq_2] at hr
    refine spec_of_body (N := 47) (m := 0) (dt := drawsOf [(7, .node [0, 1, 2, 3, 4, 5, 6, 7] [(8, .node [] [(9, .node [] [(10, .node [11] [(12, .leaf [])])])])], [10, 12], [])]) [] ttOK Tryz.func18 rfl Tryz.call18 Tryz.ntmps18 rfl rfl rfl mixed (by kernel_rfl) ?_
    refine AtLoop.mk ⟨Nat × Tm × Option Addr × Nat × Int, fun x => [(0, (.v (.slice a2 ((Dc.encL v1).length) c2))), (3, (.loc 0 0)), (4, (.loc 1 0)), (5, (.loc 2 0)), (11, (.v (.int .i64 ((Tm.encL v3.args).length : Int)))), (12, (.v (.int .i64 x.2.2.2.2)))], fun x => ⟨[.cells 26 [(.v (.int .i64 v3.op)), (.v (.int .i64 v3.hd)), (.v (.int .i64 v3.n)), (.v (.slice a4 ((Tm.encL v3.args).length) c4))], .cells 26 [(.v (.int .i64 0)), (.v (.int .i64 0)), (.v (.int .i64 0)), (.v (.slice none 0 0))], .cells 26 [(.v (.int .i64 x.2.1.op)), (.v (.int .i64 x.2.1.hd)), (.v (.int .i64 x.2.1.n)), (.v (.slice x.2.2.1 ((Tm.encL x.2.1.args).length) x.2.2.2.1))]], [⟨.slice x.2.2.1 ((Tm.encL x.2.1.args).length) x.2.2.2.1, 4, 26, (Tm.encL x.2.1.args)⟩], [(.slice a2 ((Dc.encL v1).length) c2, .sl 6 (Dc.encL v1)), (.slice a4 ((Tm.encL v3.args).length) c4, .sl 4 (Tm.encL v3.args))]⟩, fun x => x.1 ≤ N ∧ W07_erased_L1 x.1 v3 v1 x.2.1 x.2.2.2.2 = some r, fun x => x.1, (n, (Tm.mk v3.op v3.hd v3.n ([])), none, 0, 0), ⟨by omega, hr⟩, ⟨rfl, rfl, rfl, rfl, rfl, rfl, trivial⟩, (StLe.gen 3 [.nil 4 26] [.old 0, .old 1] rfl rfl rfl rfl rfl rfl rfl), fun x _ => ⟨rfl, rfl⟩, ?_⟩
    rintro ⟨n, v24, a25, c25, v26⟩ HH
    obtain ⟨hn, hr⟩ : n ≤ N ∧ W07_erased_L1 n v3 v1 v24 v26 = some r := HH
    rcases n with _ | n
    · exact no_some hr
    rw [W07_erased_L1.eq_2] at hr
    refine AtIf.mk (fun h27 => ?_) (fun h27 => ?_)
    · replace hr := cond_t h27 hr
      refine AtGuard.mk (fun h28 => ?_) (fun h28 => ?_)
      · replace hr := cond_f h28 hr
        obtain ⟨v29, h30, hr⟩ := bind_some hr
        obtain ⟨h31, h32⟩ := idx_some h30
        refine at_index ttOK 0 rfl rfl rfl rfl h31 (Dc.encL_get h32) ?_
        intro a33 c33 _ _
        refine AtIf.mk (fun h34 => ?_) (fun h34 => ?_)
        · replace hr := cond_t h34 hr
          obtain ⟨v35, h36, hr⟩ := bind_some hr
          obtain ⟨h37, h38⟩ := idx_some h36
          refine at_index ttOK 1 rfl rfl rfl rfl h37 (Tm.encL_get h38) ?_
          intro a39 c39 _ _
          obtain ⟨v40, h41, hr⟩ := bind_some hr
          refine (ih n (by omega) v1 v35 a2 c2 a39 c39 _ h41).atR [0, 3] rfl rfl rfl ?_
          rintro _ _ ⟨a42, c42, rfl, rfl⟩
          refine ⟨fun _ _ h => h, ?_⟩
          refine at_buildG (n := 1) ttOK 48 [.agg [.int .i64 v40.op, .int .i64 v40.hd, .int .i64 v40.n, .sl 4 (Tm.encL v40.args)]] (ds' := (Tm.encL ([v40]))) rfl (by kernel_rfl) ⟨⟨rfl, rfl, rfl, ⟨[(.v (.int .i64 v40.op))], _, rfl, rfl, ⟨[(.v (.int .i64 v40.hd))], _, rfl, rfl, ⟨[(.v (.int .i64 v40.n))], _, rfl, rfl, ⟨[(.v (.slice a42 ((Tm.encL v40.args).length) c42))], _, rfl, (.inl ⟨_, rfl, nth_mem (j := 4) rfl⟩), rfl⟩⟩⟩⟩⟩, trivial⟩ rfl (by simp only [Tm.encL_eq, List.map_cons, List.map_nil, Tm.enc_eq] <;> rfl) (by decide) (by decide) ?_
          intro a43
          refine ⟨fun _ _ h => h, ?_⟩
          obtain ⟨h44, hr⟩ := cond_need hr
          refine at_appendG (ds' := (Tm.encL (v24.args ++ [v40]))) ttOK 48 0 5 rfl (by kernel_rfl) rfl rfl rfl rfl (by simp only [Tm.encL_eq, List.map_append]) h44 (by decide) ?_
          intro a45 c45
          exact ⟨(n, (Tm.mk v24.op v24.hd v24.n (v24.args ++ [v40])), a45, c45, (IntKind.i64.wrap (v26 + 1))), ⟨by omega, hr⟩, Nat.lt_succ_self _, ⟨rfl, rfl, rfl, rfl, rfl, rfl, trivial⟩, (StLe.gen 3 [.old 0] [.old 0, .old 1] rfl rfl rfl rfl rfl rfl rfl)⟩
        · replace hr := cond_f h34 hr
          exact ⟨(n, v24, a25, c25, (IntKind.i64.wrap (v26 + 1))), ⟨by omega, hr⟩, Nat.lt_succ_self _, ⟨rfl, rfl, rfl, rfl, rfl, rfl, trivial⟩, (StLe.gen 3 [.old 0] [.old 0, .old 1] rfl rfl rfl rfl rfl rfl rfl)⟩
      · replace hr := cond_t h28 hr
        refine AtIf.mk (fun _ => ?_) (fun h => tf h)
        obtain ⟨v46, h47, hr⟩ := bind_some hr
        obtain ⟨h48, h49⟩ := idx_some h47
        refine at_index ttOK 1 rfl rfl rfl rfl h48 (Tm.encL_get h49) ?_
        intro a50 c50 _ _
        obtain ⟨v51, h52, hr⟩ := bind_some hr
        refine (ih n (by omega) v1 v46 a2 c2 a50 c50 _ h52).atR [0, 2] rfl rfl rfl ?_
        rintro _ _ ⟨a53, c53, rfl, rfl⟩
        refine ⟨fun _ _ h => h, ?_⟩
        refine at_buildG (n := 1) ttOK 48 [.agg [.int .i64 v51.op, .int .i64 v51.hd, .int .i64 v51.n, .sl 4 (Tm.encL v51.args)]] (ds' := (Tm.encL ([v51]))) rfl (by kernel_rfl) ⟨⟨rfl, rfl, rfl, ⟨[(.v (.int .i64 v51.op))], _, rfl, rfl, ⟨[(.v (.int .i64 v51.hd))], _, rfl, rfl, ⟨[(.v (.int .i64 v51.n))], _, rfl, rfl, ⟨[(.v (.slice a53 ((Tm.encL v51.args).length) c53))], _, rfl, (.inl ⟨_, rfl, nth_mem (j := 3) rfl⟩), rfl⟩⟩⟩⟩⟩, trivial⟩ rfl (by simp only [Tm.encL_eq, List.map_cons, List.map_nil, Tm.enc_eq] <;> rfl) (by decide) (by decide) ?_
        intro a54
        refine ⟨fun _ _ h => h, ?_⟩
        obtain ⟨h55, hr⟩ := cond_need hr
        refine at_appendG (ds' := (Tm.encL (v24.args ++ [v51]))) ttOK 48 0 4 rfl (by kernel_rfl) rfl rfl rfl rfl (by simp only [Tm.encL_eq, List.map_append]) h55 (by decide) ?_
        intro a56 c56
        exact ⟨(n, (Tm.mk v24.op v24.hd v24.n (v24.args ++ [v51])), a56, c56, (IntKind.i64.wrap (v26 + 1))), ⟨by omega, hr⟩, Nat.lt_succ_self _, ⟨rfl, rfl, rfl, rfl, rfl, rfl, trivial⟩, (StLe.gen 3 [.old 0] [.old 0, .old 1] rfl rfl rfl rfl rfl rfl rfl)⟩
    · replace hr := cond_f h27 hr
      replace hr := Option.some.inj hr
      subst hr
      exact AtRet.pureG [.froz 0] [(.slice a25 ((Tm.encL v24.args).length) c25, .sl 4 (Tm.encL v24.args))] rfl rfl ⟨a25, c25, rfl, rfl⟩
theorem W07_erased_spec (n : Nat) (v1 : (List Dc)) (v3 : Tm) (a2 : Option Addr) (c2 : Nat) (a4 : Option Addr) (c4 : Nat) (r : Tm) (hr : W07_erased n v1 v3 = some r) : Pure Tryz.prog (.val (.fn (.func 18) [] [])) [(.v (.slice a2 ((Dc.encL v1).length) c2)), (.agg [(.v (.int .i64 v3.op)), (.v (.int .i64 v3.hd)), (.v (.int .i64 v3.n)), (.v (.slice a4 ((Tm.encL v3.args).length) c4))])] [(.slice a2 ((Dc.encL v1).length) c2, .sl 6 (Dc.encL v1)), (.slice a4 ((Tm.encL v3.args).length) c4, .sl 4 (Tm.encL v3.args))] (fun r' out => ∃ (b1 : Option Addr) (d1 : Nat), r' = (.agg [(.v (.int .i64 r.op)), (.v (.int .i64 r.hd)), (.v (.int .i64 r.n)), (.v (.slice b1 ((Tm.encL r.args).length) d1))]) ∧ out = [(.slice b1 ((Tm.encL r.args).length) d1, .sl 4 (Tm.encL r.args))]) := (W07_erased_specN n) n (Nat.le_refl _) v1 v3 a2 c2 a4 c4 r hr
def W07_PrintOnce : Nat → (List Dc) → Int → (Tm × Tm) → Option (Bool)
  | 0, _, _, _ => none
  | n + 1, v1, v3, v4 =>
    (print_Text n v1 ([]) v3 v4.1).bind (fun v7 =>
    (print_Text n v1 ([]) v3 v4.2).bind (fun v9 =>
    cond ((v7.2 != 0) || (v9.2 != 0)) (
    (W07_awake n ).bind (fun v12 =>
    some (v12))) (
    cond (!(v7.1.toList == v9.1.toList)) (
    (W07_awake n ).bind (fun v24 =>
    some (v24))) (
    (W07_erased n v1 v4.1).bind (fun v15 =>
    (W07_erased n v1 v4.2).bind (fun v18 =>
    cond (sameF v15 v18) (
    (W07_awake n ).bind (fun v22 =>
    some (v22))) (
    some (false))))))))
theorem W07_PrintOnce_spec (n : Nat) (v1 : (List Dc)) (v3 : Int) (v4 : (Tm × Tm)) (a2 : Option Addr) (c2 : Nat) (a5 : Option Addr) (c5 : Nat) (a6 : Option Addr) (c6 : Nat) (r : Bool) (hr : W07_PrintOnce n v1 v3 v4 = some r) : Pure Tryz.prog (.val (.fn (.func 4) [] [])) [(.v (.slice a2 ((Dc.encL v1).length) c2)), (.v (.int .i64 v3)), (.agg [(.v (.int .i64 v4.1.op)), (.v (.int .i64 v4.1.hd)), (.v (.int .i64 v4.1.n)), (.v (.slice a5 ((Tm.encL v4.1.args).length) c5)), (.v (.int .i64 v4.2.op)), (.v (.int .i64 v4.2.hd)), (.v (.int .i64 v4.2.n)), (.v (.slice a6 ((Tm.encL v4.2.args).length) c6))])] [(.slice a2 ((Dc.encL v1).length) c2, .sl 6 (Dc.encL v1)), (.slice a5 ((Tm.encL v4.1.args).length) c5, .sl 4 (Tm.encL v4.1.args)), (.slice a6 ((Tm.encL v4.2.args).length) c6, .sl 4 (Tm.encL v4.2.args))] (fun r' out => r' = (.v (.bool r)) ∧ out = []) := by
  rcases n with _ | n
  · exact no_some hr
  rw [W07_PrintOnce.eq_2] at hr
  refine spec_of_body (N := 51) (m := 0) (dt := drawsOf [(5, .node [0, 1, 2, 3, 4, 5, 6, 8, 9, 10] [(7, .node [] [(11, .node [] [(12, .node [13, 14] [(15, .leaf [16, 17])])])])], [11, 12, 15], [])]) [] ttOK Tryz.func4 rfl Tryz.call4 Tryz.ntmps4 rfl rfl rfl mixed (by kernel_rfl) ?_
  refine at_index_arrG ttOK rfl rfl rfl (by decide) (by decide) rfl ?_
  obtain ⟨v7, h8, hr⟩ := bind_some hr
  refine Meets.nilRep 10 ?_
  refine (print_Text_spec n v1 ([]) v3 v4.1 a2 c2 none 0 a5 c5 _ h8).atR [1, 0, 2] rfl rfl rfl ?_
  rintro _ _ ⟨rfl, rfl⟩
  refine at_index_arrG ttOK rfl rfl rfl (by decide) (by decide) rfl ?_
  obtain ⟨v9, h10, hr⟩ := bind_some hr
  refine (print_Text_spec n v1 ([]) v3 v4.2 a2 c2 none 0 a6 c6 _ h10).atR [1, 0, 3] rfl rfl rfl ?_
  rintro _ _ ⟨rfl, rfl⟩
  refine AtIf.mk (fun h11 => ?_) (fun h11 => ?_)
  · replace hr := cond_t h11 hr
    obtain ⟨v12, h13, hr⟩ := bind_some hr
    refine (W07_awake_spec n  _ h13).atR [] rfl rfl rfl ?_
    rintro _ _ ⟨rfl, rfl⟩
    replace hr := Option.some.inj hr
    subst hr
    exact AtRet.pureG [] [] rfl rfl ⟨rfl, rfl⟩
  · replace hr := cond_f h11 hr
    refine AtGuard.mk (fun h14 => ?_) (fun h14 => ?_)
    · replace hr := cond_f h14 hr
      refine at_index_arrG ttOK rfl rfl rfl (by decide) (by decide) rfl ?_
      refine at_index_arrG ttOK rfl rfl rfl (by decide) (by decide) rfl ?_
      obtain ⟨v15, h16, hr⟩ := bind_some hr
      refine (W07_erased_spec n v1 v4.1 a2 c2 a5 c5 _ h16).atR [1, 2] rfl rfl rfl ?_
      rintro _ _ ⟨a17, c17, rfl, rfl⟩
      refine ⟨fun _ _ h => h, ?_⟩
      obtain ⟨v18, h19, hr⟩ := bind_some hr
      refine (W07_erased_spec n v1 v4.2 a2 c2 a6 c6 _ h19).atR [1, 3] rfl rfl rfl ?_
      rintro _ _ ⟨a20, c20, rfl, rfl⟩
      refine (refSame_spec v15 v18 a17 a20 c17 c20).atR [4, 5] rfl rfl rfl ?_
      rintro _ _ ⟨rfl, rfl⟩
      refine AtGuard.mk (fun h21 => ?_) (fun h21 => ?_)
      · replace hr := cond_t h21 hr
        obtain ⟨v22, h23, hr⟩ := bind_some hr
        refine (W07_awake_spec n  _ h23).atR [] rfl rfl rfl ?_
        rintro _ _ ⟨rfl, rfl⟩
        replace hr := Option.some.inj hr
        subst hr
        exact AtRet.pureG [] [] rfl rfl ⟨rfl, rfl⟩
      · replace hr := cond_f h21 hr
        replace hr := Option.some.inj hr
        subst hr
        exact AtRet.pureG [] [] rfl rfl ⟨rfl, rfl⟩
    · replace hr := cond_t h14 hr
      refine AtGuard.mk (fun _ => ?_) (fun h => tf h)
      obtain ⟨v24, h25, hr⟩ := bind_some hr
      refine (W07_awake_spec n  _ h25).atR [] rfl rfl rfl ?_
      rintro _ _ ⟨rfl, rfl⟩
      replace hr := Option.some.inj hr
      subst hr
      exact AtRet.pureG [] [] rfl rfl ⟨rfl, rfl⟩
def R01_comment : Nat → ByteArray → Int → Option (Bool)
  | 0, _, _ => none
  | n + 1, v1, v2 =>
    cond (v2 == (v1.size : Int)) (
    some (true)) (
    (idx v1.data.toList v2).bind (fun v4 =>
    cond ((v4.toNat : Int) == 32) (
    some (true)) (
    (idx v1.data.toList v2).bind (fun v9 =>
    cond ((v9.toNat : Int) == 9) (
    some (true)) (
    (idx v1.data.toList v2).bind (fun v14 =>
    cond ((v14.toNat : Int) == 13) (
    some (true)) (
    (idx v1.data.toList v2).bind (fun v19 =>
    cond ((v19.toNat : Int) == 10) (
    some (true)) (
    (idx v1.data.toList v2).bind (fun v24 =>
    some (((v24.toNat : Int) == 37))))))))))))
mutual
def R01_space : Nat → ByteArray → Int → Option (Int)
  | 0, _, _ => none
  | n + 1, v1, v2 =>
    R01_space_L1 n v1 v2
def R01_space_L2 : Nat → ByteArray → Int → Option (Int)
  | 0, _, _ => none
  | n + 1, v1, v61 =>
    cond (decide (v61 < (v1.size : Int))) (
    (idx v1.data.toList v61).bind (fun v64 =>
    cond ((v64.toNat : Int) != 10) (
    R01_space_L2 n v1 (IntKind.i64.wrap (v61 + 1))) (
    R01_space_L1 n v1 v61))) (
    R01_space_L1 n v1 v61)
def R01_space_L1 : Nat → ByteArray → Int → Option (Int)
  | 0, _, _ => none
  | n + 1, v1, v24 =>
    cond (decide (v24 < (v1.size : Int))) (
    (idx v1.data.toList v24).bind (fun v26 =>
    cond ((v26.toNat : Int) == 32) (
    R01_space_L1 n v1 (IntKind.i64.wrap (v24 + 1))) (
    (idx v1.data.toList v24).bind (fun v31 =>
    cond ((v31.toNat : Int) == 9) (
    R01_space_L1 n v1 (IntKind.i64.wrap (v24 + 1))) (
    (idx v1.data.toList v24).bind (fun v36 =>
    cond ((v36.toNat : Int) == 10) (
    R01_space_L1 n v1 (IntKind.i64.wrap (v24 + 1))) (
    (idx v1.data.toList v24).bind (fun v41 =>
    cond ((v41.toNat : Int) == 13) (
    R01_space_L1 n v1 (IntKind.i64.wrap (v24 + 1))) (
    (idx v1.data.toList v24).bind (fun v46 =>
    cond ((v46.toNat : Int) == 37) (
    (R01_comment n v1 (IntKind.i64.wrap (v24 + 1))).bind (fun v51 =>
    cond v51 (
    R01_space_L2 n v1 v24) (
    some (v24)))) (
    some (v24)))))))))))) (
    some (v24))
 end
def R01_sign : Nat → ByteArray → Int → Option (Tk × Bool)
  | 0, _, _ => none
  | n + 1, v1, v2 =>
    cond (decide ((0 : Int) ≤ v2 ∧ v2 ≤ (IntKind.i64.wrap (v2 + 1)) ∧ (IntKind.i64.wrap (v2 + 1)) ≤ (v1.size : Int))) (
    cond (decide ((0 : Int) ≤ v2 ∧ v2 ≤ (if (v1.size : Int) < (IntKind.i64.wrap (v2 + 2)) then (v1.size : Int) else (IntKind.i64.wrap (v2 + 2))) ∧ (if (v1.size : Int) < (IntKind.i64.wrap (v2 + 2)) then (v1.size : Int) else (IntKind.i64.wrap (v2 + 2))) ≤ (v1.size : Int))) (
    cond (((v1.extract v2.toNat (if (v1.size : Int) < (IntKind.i64.wrap (v2 + 2)) then (v1.size : Int) else (IntKind.i64.wrap (v2 + 2))).toNat).toList == (⟨#[45, 62]⟩ : ByteArray).toList) || ((v1.extract v2.toNat (if (v1.size : Int) < (IntKind.i64.wrap (v2 + 2)) then (v1.size : Int) else (IntKind.i64.wrap (v2 + 2))).toNat).toList == (⟨#[60, 45]⟩ : ByteArray).toList)) (
    some ((Tk.mk 4 (v1.extract v2.toNat (if (v1.size : Int) < (IntKind.i64.wrap (v2 + 2)) then (v1.size : Int) else (IntKind.i64.wrap (v2 + 2))).toNat) v2), true)) (
    (idx v1.data.toList v2).bind (fun v6 =>
    cond ((v6.toNat : Int) == 45) (
    cond ((v6.toNat : Int) == 45) (
    some ((Tk.mk 4 (v1.extract v2.toNat (IntKind.i64.wrap (v2 + 1)).toNat) v2), true)) (
    some ((Tk.mk 4 (v1.extract v2.toNat (IntKind.i64.wrap (v2 + 1)).toNat) v2), false))) (
    cond ((v6.toNat : Int) == 58) (
    cond ((v6.toNat : Int) == 58) (
    some ((Tk.mk 4 (v1.extract v2.toNat (IntKind.i64.wrap (v2 + 1)).toNat) v2), true)) (
    some ((Tk.mk 4 (v1.extract v2.toNat (IntKind.i64.wrap (v2 + 1)).toNat) v2), false))) (
    cond ((v6.toNat : Int) == 46) (
    cond ((v6.toNat : Int) == 46) (
    some ((Tk.mk 4 (v1.extract v2.toNat (IntKind.i64.wrap (v2 + 1)).toNat) v2), true)) (
    some ((Tk.mk 4 (v1.extract v2.toNat (IntKind.i64.wrap (v2 + 1)).toNat) v2), false))) (
    cond ((v6.toNat : Int) == 123) (
    cond ((v6.toNat : Int) == 123) (
    some ((Tk.mk 4 (v1.extract v2.toNat (IntKind.i64.wrap (v2 + 1)).toNat) v2), true)) (
    some ((Tk.mk 4 (v1.extract v2.toNat (IntKind.i64.wrap (v2 + 1)).toNat) v2), false))) (
    cond ((v6.toNat : Int) == 125) (
    cond ((v6.toNat : Int) == 125) (
    some ((Tk.mk 4 (v1.extract v2.toNat (IntKind.i64.wrap (v2 + 1)).toNat) v2), true)) (
    some ((Tk.mk 4 (v1.extract v2.toNat (IntKind.i64.wrap (v2 + 1)).toNat) v2), false))) (
    cond ((v6.toNat : Int) == 91) (
    cond ((v6.toNat : Int) == 91) (
    some ((Tk.mk 4 (v1.extract v2.toNat (IntKind.i64.wrap (v2 + 1)).toNat) v2), true)) (
    some ((Tk.mk 4 (v1.extract v2.toNat (IntKind.i64.wrap (v2 + 1)).toNat) v2), false))) (
    cond ((v6.toNat : Int) == 93) (
    cond ((v6.toNat : Int) == 93) (
    some ((Tk.mk 4 (v1.extract v2.toNat (IntKind.i64.wrap (v2 + 1)).toNat) v2), true)) (
    some ((Tk.mk 4 (v1.extract v2.toNat (IntKind.i64.wrap (v2 + 1)).toNat) v2), false))) (
    cond ((v6.toNat : Int) == 40) (
    cond ((v6.toNat : Int) == 40) (
    some ((Tk.mk 4 (v1.extract v2.toNat (IntKind.i64.wrap (v2 + 1)).toNat) v2), true)) (
    some ((Tk.mk 4 (v1.extract v2.toNat (IntKind.i64.wrap (v2 + 1)).toNat) v2), false))) (
    cond ((v6.toNat : Int) == 41) (
    cond ((v6.toNat : Int) == 41) (
    some ((Tk.mk 4 (v1.extract v2.toNat (IntKind.i64.wrap (v2 + 1)).toNat) v2), true)) (
    some ((Tk.mk 4 (v1.extract v2.toNat (IntKind.i64.wrap (v2 + 1)).toNat) v2), false))) (
    cond ((v6.toNat : Int) == 43) (
    cond ((v6.toNat : Int) == 43) (
    some ((Tk.mk 4 (v1.extract v2.toNat (IntKind.i64.wrap (v2 + 1)).toNat) v2), true)) (
    some ((Tk.mk 4 (v1.extract v2.toNat (IntKind.i64.wrap (v2 + 1)).toNat) v2), false))) (
    cond ((v6.toNat : Int) == 42) (
    cond ((v6.toNat : Int) == 42) (
    some ((Tk.mk 4 (v1.extract v2.toNat (IntKind.i64.wrap (v2 + 1)).toNat) v2), true)) (
    some ((Tk.mk 4 (v1.extract v2.toNat (IntKind.i64.wrap (v2 + 1)).toNat) v2), false))) (
    cond ((v6.toNat : Int) == 124) (
    cond ((v6.toNat : Int) == 124) (
    some ((Tk.mk 4 (v1.extract v2.toNat (IntKind.i64.wrap (v2 + 1)).toNat) v2), true)) (
    some ((Tk.mk 4 (v1.extract v2.toNat (IntKind.i64.wrap (v2 + 1)).toNat) v2), false))) (
    cond ((v6.toNat : Int) == 61) (
    some ((Tk.mk 4 (v1.extract v2.toNat (IntKind.i64.wrap (v2 + 1)).toNat) v2), true)) (
    some ((Tk.mk 4 (v1.extract v2.toNat (IntKind.i64.wrap (v2 + 1)).toNat) v2), false))))))))))))))))) none) none
def R01_small : Nat → Int → Option (Bool)
  | 0, _ => none
  | n + 1, v1 =>
    some (((decide (v1 ≥ 97)) && (decide (v1 ≤ 122))))
def R01_letter : Nat → Int → Option (Bool)
  | 0, _ => none
  | n + 1, v1 =>
    (R01_small n v1).bind (fun v2 =>
    some ((v2 || ((decide (v1 ≥ 65)) && (decide (v1 ≤ 90))))))
def R01_byteOf : Nat → Int → Option (Bool)
  | 0, _ => none
  | n + 1, v1 =>
    (R01_letter n v1).bind (fun v2 =>
    some ((((v2 || ((decide (v1 ≥ 48)) && (decide (v1 ≤ 57)))) || (v1 == 95)) || (v1 == 39))))
mutual
def R01_run : Nat → ByteArray → Int → Option (Int)
  | 0, _, _ => none
  | n + 1, v1, v2 =>
    R01_run_L1 n v1 v2
def R01_run_L1 : Nat → ByteArray → Int → Option (Int)
  | 0, _, _ => none
  | n + 1, v1, v11 =>
    cond (decide (v11 < (v1.size : Int))) (
    (idx v1.data.toList v11).bind (fun v13 =>
    (R01_byteOf n (v13.toNat : Int)).bind (fun v17 =>
    cond v17 (
    R01_run_L1 n v1 (IntKind.i64.wrap (v11 + 1))) (
    some (v11))))) (
    some (v11))
 end
mutual
def R01_Number : Nat → ByteArray → Option (Int × Bool)
  | 0, _ => none
  | n + 1, v1 =>
    cond ((decide ((v1.size : Int) < 1)) || (decide ((v1.size : Int) > 5))) (
    some (0, false)) (
    (idx v1.data.toList 0).bind (fun v3 =>
    cond (((v3.toNat : Int) == 48) && (decide ((v1.size : Int) > 1))) (
    some (0, false)) (
    R01_Number_L1 n v1 0 0)))
def R01_Number_L1 : Nat → ByteArray → Int → Int → Option (Int × Bool)
  | 0, _, _, _ => none
  | n + 1, v1, v23, v24 =>
    cond (decide (v24 < (v1.size : Int))) (
    (idx v1.data.toList v24).bind (fun v26 =>
    cond (decide ((v26.toNat : Int) < 48)) (
    some (0, false)) (
    (idx v1.data.toList v24).bind (fun v31 =>
    cond (decide ((v31.toNat : Int) > 57)) (
    some (0, false)) (
    (idx v1.data.toList v24).bind (fun v36 =>
    R01_Number_L1 n v1 (IntKind.i64.wrap ((IntKind.i64.wrap (10 * v23)) + (IntKind.i64.wrap (IntKind.u8.wrap ((v36.toNat : Int) - 48))))) (IntKind.i64.wrap (v24 + 1)))))))) (
    some (v23, (decide (v23 ≤ 10000))))
 end
def R01_Next : Nat → ByteArray → Int → Option (Tk × Bool)
  | 0, _, _ => none
  | n + 1, v1, v2 =>
    (R01_run n v1 v2).bind (fun v3 =>
    (idx v1.data.toList v2).bind (fun v5 =>
    (R01_letter n (v5.toNat : Int)).bind (fun v9 =>
    cond v9 (
    cond (decide ((0 : Int) ≤ v2 ∧ v2 ≤ v3 ∧ v3 ≤ (v1.size : Int))) (
    (R01_small n (v5.toNat : Int)).bind (fun v13 =>
    cond (!v13) (
    some ((Tk.mk 2 (v1.extract v2.toNat v3.toNat) v2), (refNameF (v1.extract v2.toNat v3.toNat)))) (
    some ((Tk.mk 1 (v1.extract v2.toNat v3.toNat) v2), (refNameF (v1.extract v2.toNat v3.toNat)))))) none) (
    cond ((v5.toNat : Int) == 95) (
    some ((Tk.mk 3 (⟨#[95]⟩) v2), (v3 == (IntKind.i64.wrap (v2 + 1))))) (
    cond ((decide ((v5.toNat : Int) ≥ 48)) && (decide ((v5.toNat : Int) ≤ 57))) (
    cond (decide ((0 : Int) ≤ v2 ∧ v2 ≤ v3 ∧ v3 ≤ (v1.size : Int))) (
    (R01_Number n (v1.extract v2.toNat v3.toNat)).bind (fun v19 =>
    some ((Tk.mk 6 (v1.extract v2.toNat v3.toNat) v2), v19.2))) none) (
    cond ((v5.toNat : Int) == 37) (
    (R01_run n v1 (IntKind.i64.wrap (v2 + 1))).bind (fun v22 =>
    cond (decide ((0 : Int) ≤ v2 ∧ v2 ≤ v22 ∧ v22 ≤ (v1.size : Int))) (
    cond (decide ((0 : Int) ≤ (IntKind.i64.wrap (v2 + 1)) ∧ (IntKind.i64.wrap (v2 + 1)) ≤ v22 ∧ v22 ≤ (v1.size : Int))) (
    some ((Tk.mk 5 (v1.extract v2.toNat v22.toNat) v2), (isSmallF (v1.extract (IntKind.i64.wrap (v2 + 1)).toNat v22.toNat)))) none) none)) (
    (R01_sign n v1 v2).bind (fun v26 =>
    some (v26.1, v26.2)))))))))
mutual
def R01_Tokens : Nat → ByteArray → Option ((List Tk) × Int × Int)
  | 0, _ => none
  | n + 1, v1 =>
    cond (decide ((v1.size : Int) > 6000)) (
    some ([], 0, 5)) (
    (R01_space n v1 0).bind (fun v3 =>
    R01_Tokens_L1 n v1 ([]) v3))
def R01_Tokens_L1 : Nat → ByteArray → (List Tk) → Int → Option ((List Tk) × Int × Int)
  | 0, _, _, _ => none
  | n + 1, v1, v14, v16 =>
    cond (decide (v16 < (v1.size : Int))) (
    (R01_Next n v1 v16).bind (fun v18 =>
    cond (!v18.2) (
    some ([], v16, 4)) (
    cond (decide ((Tk.encL (v14 ++ [v18.1])).length ≤ 1000000)) (
    (R01_space n v1 (IntKind.i64.wrap (v16 + (v18.1.text.size : Int)))).bind (fun v24 =>
    R01_Tokens_L1 n v1 (v14 ++ [v18.1]) v24)) none))) (
    cond (decide ((Tk.encL (v14 ++ [(Tk.mk 7 ByteArray.empty (v1.size : Int))])).length ≤ 1000000)) (
    some ((v14 ++ [(Tk.mk 7 ByteArray.empty (v1.size : Int))]), 0, 0)) none)
 end
def R02_reader_now : Nat → Rdr → Option (Tk)
  | 0, _ => none
  | n + 1, v1 =>
    (idx v1.l v1.at_).bind (fun v3 =>
    some (v3))
def R02_reader_is : Nat → ByteArray → Rdr → Option (Bool)
  | 0, _, _ => none
  | n + 1, v1, v2 =>
    cond (!v2.bad) (
    (R02_reader_now n v2).bind (fun v5 =>
    cond (v5.kind == 4) (
    (R02_reader_now n v2).bind (fun v8 =>
    some ((v8.text.toList == v1.toList)))) (
    some (false)))) (
    some (false))
def R02_reader_binds : Nat → Rdr → Option (Bool)
  | 0, _ => none
  | n + 1, v1 =>
    (R02_reader_is n (⟨#[123]⟩) v1).bind (fun v3 =>
    cond v3 (
    some (true)) (
    (R02_reader_is n (⟨#[91]⟩) v1).bind (fun v6 =>
    some (v6))))
def R02_isName : Nat → Tk → Option (Bool)
  | 0, _ => none
  | n + 1, v1 =>
    some ((((v1.kind == 1) || (v1.kind == 2)) && (!(v1.text.toList == (⟨#[116, 121, 112, 101]⟩ : ByteArray).toList))))
def R02_reader_name : Nat → Rdr → Option (ByteArray × Rdr)
  | 0, _ => none
  | n + 1, v1 =>
    cond v1.bad (
    some (⟨#[]⟩, (Rdr.mk v1.l v1.at_ true))) (
    (R02_reader_now n v1).bind (fun v4 =>
    (R02_isName n v4).bind (fun v6 =>
    cond (!v6) (
    some (⟨#[]⟩, (Rdr.mk v1.l v1.at_ true))) (
    (idx v1.l (IntKind.i64.wrap ((IntKind.i64.wrap (v1.at_ + 1)) - 1))).bind (fun v9 =>
    some (v9.text, (Rdr.mk v1.l (IntKind.i64.wrap (v1.at_ + 1)) v1.bad)))))))
def R02_reader_skip : Nat → ByteArray → Rdr → Option (Rdr)
  | 0, _, _ => none
  | n + 1, v1, v2 =>
    (R02_reader_is n v1 v2).bind (fun v4 =>
    cond (!v4) (
    some ((Rdr.mk v2.l v2.at_ true))) (
    cond (!v2.bad) (
    some ((Rdr.mk v2.l (IntKind.i64.wrap (v2.at_ + 1)) v2.bad))) (
    some (v2))))
def R02_reader_atoms : Nat → Rdr → Option (Bool)
  | 0, _ => none
  | n + 1, v1 =>
    (R02_reader_now n v1).bind (fun v3 =>
    cond (!v1.bad) (
    cond (((v3.kind == 1) || (v3.kind == 2)) || (v3.kind == 3)) (
    some (true)) (
    (R02_reader_is n (⟨#[40]⟩) v1).bind (fun v7 =>
    some (v7)))) (
    some (false)))
mutual
def R02_reader_atom : Nat → Rdr → Option (Rw × Rdr)
  | 0, _ => none
  | n + 1, v1 =>
    (R02_reader_atoms n v1).bind (fun v3 =>
    cond (!v3) (
    some ((Rw.mk 0 ByteArray.empty ([])), (Rdr.mk v1.l v1.at_ true))) (
    (R02_reader_now n v1).bind (fun v6 =>
    cond (v6.kind == 3) (
    some ((Rw.mk 3 ByteArray.empty ([])), (Rdr.mk v1.l (IntKind.i64.wrap (v1.at_ + 1)) v1.bad))) (
    cond (v6.kind == 4) (
    (R02_reader_expr n (Rdr.mk v1.l (IntKind.i64.wrap (v1.at_ + 1)) v1.bad)).bind (fun v10 =>
    (R02_reader_skip n (⟨#[41]⟩) v10.2).bind (fun v14 =>
    some (v10.1, v14)))) (
    cond (v6.text.toList == (⟨#[116, 121, 112, 101]⟩ : ByteArray).toList) (
    some ((Rw.mk 1 ByteArray.empty ([])), (Rdr.mk v1.l (IntKind.i64.wrap (v1.at_ + 1)) v1.bad))) (
    some ((Rw.mk 2 v6.text ([])), (Rdr.mk v1.l (IntKind.i64.wrap (v1.at_ + 1)) v1.bad))))))))
def R02_reader_expr : Nat → Rdr → Option (Rw × Rdr)
  | 0, _ => none
  | n + 1, v1 =>
    cond v1.bad (
    some ((Rw.mk 0 ByteArray.empty ([])), v1)) (
    (R02_reader_binds n v1).bind (fun v4 =>
    cond v4 (
    (R02_reader_binder n v1).bind (fun v7 =>
    some (v7.1, v7.2))) (
    (R02_reader_app n v1).bind (fun v11 =>
    cond (!v11.2.1) (
    (R02_reader_is n (⟨#[45, 62]⟩) v11.2.2).bind (fun v16 =>
    cond v16 (
    (R02_reader_expr n (Rdr.mk v11.2.2.l (IntKind.i64.wrap (v11.2.2.at_ + 1)) v11.2.2.bad)).bind (fun v19 =>
    some ((Rw.mk 6 ByteArray.empty ([v11.1, v19.1])), v19.2))) (
    R02_reader_expr_L1 n v11.2.2 v11.1 v11.2.1))) (
    R02_reader_expr_L1 n v11.2.2 v11.1 v11.2.1)))))
def R02_reader_expr_L1 : Nat → Rdr → Rw → Bool → Option (Rw × Rdr)
  | 0, _, _, _ => none
  | n + 1, v36, v38, v40 =>
    cond (!v40) (
    (R02_reader_is n (⟨#[60, 45]⟩) v36).bind (fun v42 =>
    cond v42 (
    (R02_reader_binds n (Rdr.mk v36.l (IntKind.i64.wrap (v36.at_ + 1)) v36.bad)).bind (fun v45 =>
    cond v45 (
    (R02_reader_binder n (Rdr.mk v36.l (IntKind.i64.wrap (v36.at_ + 1)) v36.bad)).bind (fun v48 =>
    R02_reader_expr_L1 n v48.2 (Rw.mk 6 ByteArray.empty ([v48.1, v38])) true)) (
    (R02_reader_app n (Rdr.mk v36.l (IntKind.i64.wrap (v36.at_ + 1)) v36.bad)).bind (fun v53 =>
    R02_reader_expr_L1 n v53.2.2 (Rw.mk 6 ByteArray.empty ([v53.1, v38])) v53.2.1)))) (
    some (v38, v36)))) (
    some (v38, v36))
def R02_reader_binder : Nat → Rdr → Option (Rw × Rdr)
  | 0, _ => none
  | n + 1, v1 =>
    (R02_reader_is n (⟨#[91]⟩) v1).bind (fun v3 =>
    cond v3 (
    (R02_reader_name n (Rdr.mk v1.l (IntKind.i64.wrap (v1.at_ + 1)) v1.bad)).bind (fun v6 =>
    (R02_reader_is n (⟨#[58]⟩) v6.2).bind (fun v9 =>
    cond v9 (
    (R02_reader_expr n (Rdr.mk v6.2.l (IntKind.i64.wrap (v6.2.at_ + 1)) v6.2.bad)).bind (fun v12 =>
    (R02_reader_skip n (⟨#[93]⟩) v12.2).bind (fun v16 =>
    (R02_reader_expr n v16).bind (fun v19 =>
    some ((Rw.mk 7 v6.1 ([v12.1, v19.1])), v19.2))))) (
    (R02_reader_skip n (⟨#[93]⟩) v6.2).bind (fun v24 =>
    (R02_reader_expr n v24).bind (fun v27 =>
    some ((Rw.mk 7 v6.1 ([(Rw.mk 3 ByteArray.empty ([])), v27.1])), v27.2))))))) (
    (R02_reader_name n (Rdr.mk v1.l (IntKind.i64.wrap (v1.at_ + 1)) v1.bad)).bind (fun v32 =>
    (R02_reader_is n (⟨#[58]⟩) v32.2).bind (fun v35 =>
    cond v35 (
    (R02_reader_expr n (Rdr.mk v32.2.l (IntKind.i64.wrap (v32.2.at_ + 1)) v32.2.bad)).bind (fun v38 =>
    (R02_reader_skip n (⟨#[125]⟩) v38.2).bind (fun v42 =>
    (R02_reader_expr n v42).bind (fun v45 =>
    some ((Rw.mk 5 v32.1 ([v38.1, v45.1])), v45.2))))) (
    (R02_reader_skip n (⟨#[125]⟩) v32.2).bind (fun v50 =>
    (R02_reader_expr n v50).bind (fun v53 =>
    some ((Rw.mk 5 v32.1 ([(Rw.mk 3 ByteArray.empty ([])), v53.1])), v53.2))))))))
def R02_reader_app : Nat → Rdr → Option (Rw × Bool × Rdr)
  | 0, _ => none
  | n + 1, v1 =>
    (R02_reader_atom n v1).bind (fun v3 =>
    R02_reader_app_L1 n v3.2 v3.1)
def R02_reader_app_L1 : Nat → Rdr → Rw → Option (Rw × Bool × Rdr)
  | 0, _, _ => none
  | n + 1, v15, v17 =>
    (R02_reader_atoms n v15).bind (fun v19 =>
    cond v19 (
    (R02_reader_atom n v15).bind (fun v22 =>
    R02_reader_app_L1 n v22.2 (Rw.mk 4 ByteArray.empty ([v17, v22.1])))) (
    (R02_reader_binds n v15).bind (fun v27 =>
    cond v27 (
    (R02_reader_binder n v15).bind (fun v30 =>
    some ((Rw.mk 4 ByteArray.empty ([v17, v30.1])), true, v30.2))) (
    some (v17, false, v15)))))
 end
end Go.Proofs.YtpibdcjdamibdaaGreatDoor
end

/-! FrA -/
section
namespace Go.Proofs.YtpibdcjdamibdaaGreatDoor
open Go.Tr Go
set_option linter.unusedVariables false
set_option linter.unusedSimpArgs false
set_option maxRecDepth 10000

abbrev TT : Type := Int × ByteArray
abbrev lparB : ByteArray := ⟨#[40]⟩
abbrev rparB : ByteArray := ⟨#[41]⟩
abbrev arrB : ByteArray := ⟨#[45, 62]⟩
abbrev colB : ByteArray := ⟨#[58]⟩
/-- The kind of a name's token. -/
def nkind (s : ByteArray) : Int := match s.data.toList with
  | [] => 1
  | c :: _ => if smallC c = true then 1 else 2
def wrT (b : Bool) (l : List TT) : List TT := if b = true then (4, lparB) :: (l ++ [(4, rparB)]) else l
def wideB (r : Rw) : Bool := (r.op == 6 || r.op == 5) || r.op == 7
/-- A binder's Op and brackets. -/
def brk (o : Int) (l r : UInt8) : Prop := (o = 5 ∧ l = 123 ∧ r = 125) ∨ (o = 7 ∧ l = 91 ∧ r = 93)
abbrev oneB (c : UInt8) : ByteArray := ⟨#[c]⟩

/-- A raw expression, its text and its tokens. -/
inductive Tx : Rw → ByteArray → List TT → Prop
  | ty : Tx (.mk 1 ByteArray.empty []) ⟨#[116, 121, 112, 101]⟩ [(1, ⟨#[116, 121, 112, 101]⟩)]
  | nm {s : ByteArray} (h : namedF s = true) : Tx (.mk 2 s []) s [(nkind s, s)]
  | ho : Tx (.mk 3 ByteArray.empty []) ⟨#[95]⟩ [(3, ⟨#[95]⟩)]
  | ap {a b : Rw} {A B : ByteArray} {xs1 ys1 : List TT} (ha : Tx a A xs1) (hb : Tx b B ys1) : Tx (.mk 4 ByteArray.empty [a, b]) ((wr (wideB a) A ++ (⟨#[32]⟩ : ByteArray)) ++ wr (wideB b || b.op == 4) B) (wrT (wideB a) xs1 ++ wrT (wideB b || b.op == 4) ys1)
  | ar {a b : Rw} {A B : ByteArray} {xs1 ys1 : List TT} (ha : Tx a A xs1) (hb : Tx b B ys1) : Tx (.mk 6 ByteArray.empty [a, b]) ((wr (wideB a) A ++ (⟨#[32, 45, 62, 32]⟩ : ByteArray)) ++ B) (wrT (wideB a) xs1 ++ (4, arrB) :: ys1)
  | b0 {o : Int} {l r : UInt8} {s : ByteArray} {b : Rw} {B : ByteArray} {ys1 : List TT} (ho : brk o l r) (h : namedF s = true) (hb : Tx b B ys1) : Tx (.mk o s [.mk 3 ByteArray.empty [], b]) ((((oneB l ++ s) ++ (⟨#[]⟩ : ByteArray)) ++ (⟨#[r, 32]⟩ : ByteArray)) ++ B) ((4, oneB l) :: (nkind s, s) :: (4, oneB r) :: ys1)
  | b1 {o : Int} {l r : UInt8} {s : ByteArray} {a b : Rw} {A B : ByteArray} {xs1 ys1 : List TT} (ho : brk o l r) (h : namedF s = true) (ha3 : a.op ≠ 3) (ha : Tx a A xs1) (hb : Tx b B ys1) : Tx (.mk o s [a, b]) ((((oneB l ++ s) ++ (colB ++ A)) ++ (⟨#[r, 32]⟩ : ByteArray)) ++ B) ((4, oneB l) :: (nkind s, s) :: (4, colB) :: (xs1 ++ (4, oneB r) :: ys1))

theorem rw_named {t : Rw} (h : okAll t.sk = true) (ho : t.op = 2 ∨ t.op = 5 ∨ t.op = 7) : namedF t.name = true := by
  have h1 := (rw_ok h).1
  simp only [okRaw, Bool.and_eq_true, beq_iff_eq] at h1
  rw [← h1.1.2]
  simp only [rawHas]
  rcases ho with e | e | e <;> simp [e]
theorem rw_noname {t : Rw} (h : okAll t.sk = true) (ho : t.op = 1 ∨ t.op = 3 ∨ t.op = 4 ∨ t.op = 6) : t.name = ByteArray.empty := by
  have h1 := (rw_ok h).1
  simp only [okRaw, Bool.and_eq_true, Bool.or_eq_true, beq_iff_eq] at h1
  have h2 := h1.2
  have h3 : rawHas t.op = false := by
    simp only [rawHas]
    rcases ho with e | e | e | e <;> simp [e]
  rcases h2 with h2 | h2
  · rw [h3] at h2; cases h2
  · rw [ByteArray.toList_eq, ByteArray.toList_eq] at h2
    exact ba_ext h2
theorem rw_leaf {t : Rw} (h : okAll t.sk = true) (ho : t.op = 1 ∨ t.op = 2 ∨ t.op = 3) : t.args = [] := by
  have h1 := (rw_ok h).1
  simp only [okRaw, Bool.and_eq_true, rawArgs] at h1
  have h2 := h1.1.1.2
  rw [if_neg (by omega)] at h2
  exact List.eq_nil_of_length_eq_zero (by simpa using h2)

set_option maxHeartbeats 1000000 in
theorem text_tx : ∀ (n : Nat) (t : Rw), okAll t.sk = true → t.sk.count ≤ n → n ≤ 1000 → ∃ (T : ByteArray) (ts : List TT), Ev (fun k => R02_Text k t) T ∧ T.size ≤ 20 * n ∧ Tx t T ts
  | 0, t, hok, hn, _ => by have := Tm.count_pos t.sk; omega
  | n + 1, t, hok, hn, hb => by
    have s40 : (⟨#[40]⟩ : ByteArray).size = 1 := rfl
    have s41 : (⟨#[41]⟩ : ByteArray).size = 1 := rfl
    have s32 : (⟨#[32]⟩ : ByteArray).size = 1 := rfl
    have sar : (⟨#[32, 45, 62, 32]⟩ : ByteArray).size = 4 := rfl
    have s91 : (⟨#[91]⟩ : ByteArray).size = 1 := rfl
    have s93 : (⟨#[93]⟩ : ByteArray).size = 1 := rfl
    have s58 : (⟨#[58]⟩ : ByteArray).size = 1 := rfl
    have s123 : (⟨#[123]⟩ : ByteArray).size = 1 := rfl
    have s125 : (⟨#[125]⟩ : ByteArray).size = 1 := rfl
    have sb1 : (⟨#[125, 32]⟩ : ByteArray).size = 2 := rfl
    have sb2 : (⟨#[93, 32]⟩ : ByteArray).size = 2 := rfl
    have s0 : (⟨#[]⟩ : ByteArray).size = 0 := rfl
    have ng : ∀ {x y : Int}, t.op = x → x ≠ y → (t.op == y) = false := fun e h => by rw [e]; exact beqI' h
    have mk : t = .mk t.op t.name t.args := by cases t; rfl
    rcases rw_op hok with ho | ho | ho | ho | ho | ho | ho
    · refine ⟨⟨#[116, 121, 112, 101]⟩, [(1, ⟨#[116, 121, 112, 101]⟩)], ?_, ?_, ?_⟩
      rotate_left 2
      · rw [mk, ho, rw_noname hok (by omega), rw_leaf hok (by omega)]; exact Tx.ty
      · refine Ev.succ (fun k => R02_Text.eq_2 ..) ?_
        exact Ev.t (beqI ho) (Ev.pure _)
      · show 4 ≤ _; omega
    · have hnm := rw_name hok (.inl ho)
      refine ⟨t.name, [(nkind t.name, t.name)], ?_, by omega, ?_⟩
      rotate_left
      · have := Tx.nm (rw_named hok (by omega))
        rw [mk, ho, rw_leaf hok (by omega)]; exact this
      · refine Ev.succ (fun k => R02_Text.eq_2 ..) ?_
        refine Ev.f (ng ho (by decide)) (Ev.t (beqI ho) (Ev.pure _))
    · refine ⟨⟨#[95]⟩, [(3, ⟨#[95]⟩)], ?_, ?_, ?_⟩
      rotate_left 2
      · rw [mk, ho, rw_noname hok (by omega), rw_leaf hok (by omega)]; exact Tx.ho
      · refine Ev.succ (fun k => R02_Text.eq_2 ..) ?_
        refine Ev.f (ng ho (by decide)) (Ev.f (ng ho (by decide)) (Ev.t (beqI ho) (Ev.pure _)))
      · show 1 ≤ _; omega
    · obtain ⟨a, b, e, ha, hb2, hcnt⟩ := rw_pair hok (by omega)
      have hpa := Tm.count_pos a.sk; have hpb := Tm.count_pos b.sk
      obtain ⟨A, xs1, a1, a2, a3⟩ := text_tx a.sk.count a ha (Nat.le_refl _) (by omega)
      obtain ⟨B, ys1, b1, b2, b3⟩ := text_tx b.sk.count b hb2 (Nat.le_refl _) (by omega)
      have i0 : idx t.args 0 = some a := by rw [e]; rfl
      have i1 : idx t.args 1 = some b := by rw [e]; rfl
      have hA := wr_size ((a.op == 6 || a.op == 5) || a.op == 7) A
      have hB := wr_size (((b.op == 6 || b.op == 5) || b.op == 7) || b.op == 4) B
      refine ⟨(wr ((a.op == 6 || a.op == 5) || a.op == 7) A ++ (⟨#[32]⟩ : ByteArray)) ++ wr (((b.op == 6 || b.op == 5) || b.op == 7) || b.op == 4) B, wrT (wideB a) xs1 ++ wrT (wideB b || b.op == 4) ys1, ?_, by simp only [ByteArray.size_append, s40, s41, s32, sar, s91, s93, s58, s123, s125, sb1, sb2, s0, decide_eq_true_eq]; omega, ?_⟩
      rotate_left
      · rw [mk, ho, rw_noname hok (by omega), e]; exact Tx.ap a3 b3
      · refine Ev.succ (fun k => R02_Text.eq_2 ..) ?_
        refine Ev.f (ng ho (by decide)) (Ev.f (ng ho (by decide)) (Ev.f (ng ho (by decide)) (Ev.t (beqI ho) ?_)))
        refine Ev.some i0 (Ev.some i0 (Ev.some i1 (Ev.some i1 (a1.bind ((wide_ev a).bind ((within_ev A _ (by omega)).bind ?_))))))
        refine Ev.need (by simp only [ByteArray.size_append, s40, s41, s32, sar, s91, s93, s58, s123, s125, sb1, sb2, s0, decide_eq_true_eq]; omega) ?_
        refine b1.bind ((wide_ev b).bind ?_)
        refine Ev.ite (fun hw => ?_) (fun hw => ?_)
        · rw [hw, Bool.true_or] at hB ⊢
          refine (within_ev B _ (by omega)).bind ?_
          exact Ev.need (by simp only [ByteArray.size_append, s40, s41, s32, sar, s91, s93, s58, s123, s125, sb1, sb2, s0, decide_eq_true_eq]; omega) (Ev.pure _)
        · rw [hw, Bool.false_or] at hB ⊢
          refine Ev.some i1 ((within_ev B _ (by omega)).bind ?_)
          exact Ev.need (by simp only [ByteArray.size_append, s40, s41, s32, sar, s91, s93, s58, s123, s125, sb1, sb2, s0, decide_eq_true_eq]; omega) (Ev.pure _)
    · obtain ⟨a, b, e, ha, hb2, hcnt⟩ := rw_pair hok (by omega)
      have hpa := Tm.count_pos a.sk; have hpb := Tm.count_pos b.sk
      have hnm := rw_name hok (by omega)
      have hnd := rw_named hok (by omega)
      obtain ⟨A, xs1, a1, a2, a3⟩ := text_tx a.sk.count a ha (Nat.le_refl _) (by omega)
      obtain ⟨B, ys1, b1, b2, b3⟩ := text_tx b.sk.count b hb2 (Nat.le_refl _) (by omega)
      have i0 : idx t.args 0 = some a := by rw [e]; rfl
      have i1 : idx t.args 1 = some b := by rw [e]; rfl
      have hbr : brk 5 123 125 := .inl ⟨rfl, rfl, rfl⟩
      by_cases h3 : a.op = 3
      · refine ⟨((((⟨#[123]⟩ : ByteArray) ++ t.name) ++ (⟨#[]⟩ : ByteArray)) ++ (⟨#[125, 32]⟩ : ByteArray)) ++ B, (4, oneB 123) :: (nkind t.name, t.name) :: (4, oneB 125) :: ys1, ?_, by simp only [ByteArray.size_append, s40, s41, s32, sar, s91, s93, s58, s123, s125, sb1, sb2, s0, decide_eq_true_eq]; omega, ?_⟩
        rotate_left
        · have hae : a = .mk 3 ByteArray.empty [] := by
            have : a = .mk a.op a.name a.args := by cases a; rfl
            rw [this, h3, rw_noname ha (by omega), rw_leaf ha (by omega)]
          have := Tx.b0 hbr hnd b3
          rw [mk, ho, e, hae]; exact this
        · refine Ev.succ (fun k => R02_Text.eq_2 ..) ?_
          refine Ev.f (ng ho (by decide)) (Ev.f (ng ho (by decide)) (Ev.f (ng ho (by decide)) (Ev.f (ng ho (by decide)) (Ev.f (ng ho (by decide)) ?_))))
          refine Ev.some i0 ?_
          refine Ev.f (bneI' h3) ?_
          refine Ev.t (beqI ho) ?_
          refine Ev.need (by simp only [ByteArray.size_append, s40, s41, s32, sar, s91, s93, s58, s123, s125, sb1, sb2, s0, decide_eq_true_eq]; omega) (Ev.need (by simp only [ByteArray.size_append, s40, s41, s32, sar, s91, s93, s58, s123, s125, sb1, sb2, s0, decide_eq_true_eq]; omega) (Ev.need (by simp only [ByteArray.size_append, s40, s41, s32, sar, s91, s93, s58, s123, s125, sb1, sb2, s0, decide_eq_true_eq]; omega) ?_))
          refine Ev.some i1 (b1.bind ?_)
          exact Ev.need (by simp only [ByteArray.size_append, s40, s41, s32, sar, s91, s93, s58, s123, s125, sb1, sb2, s0, decide_eq_true_eq]; omega) (Ev.pure _)
      · refine ⟨((((⟨#[123]⟩ : ByteArray) ++ t.name) ++ ((⟨#[58]⟩ : ByteArray) ++ A)) ++ (⟨#[125, 32]⟩ : ByteArray)) ++ B, (4, oneB 123) :: (nkind t.name, t.name) :: (4, colB) :: (xs1 ++ (4, oneB 125) :: ys1), ?_, by simp only [ByteArray.size_append, s40, s41, s32, sar, s91, s93, s58, s123, s125, sb1, sb2, s0, decide_eq_true_eq]; omega, ?_⟩
        rotate_left
        · have := Tx.b1 hbr hnd h3 a3 b3
          rw [mk, ho, e]; exact this
        · refine Ev.succ (fun k => R02_Text.eq_2 ..) ?_
          refine Ev.f (ng ho (by decide)) (Ev.f (ng ho (by decide)) (Ev.f (ng ho (by decide)) (Ev.f (ng ho (by decide)) (Ev.f (ng ho (by decide)) ?_))))
          refine Ev.some i0 ?_
          refine Ev.t (bneI h3) ?_
          refine Ev.some i0 (a1.bind ?_)
          refine Ev.need (by simp only [ByteArray.size_append, s40, s41, s32, sar, s91, s93, s58, s123, s125, sb1, sb2, s0, decide_eq_true_eq]; omega) ?_
          refine Ev.t (beqI ho) ?_
          refine Ev.need (by simp only [ByteArray.size_append, s40, s41, s32, sar, s91, s93, s58, s123, s125, sb1, sb2, s0, decide_eq_true_eq]; omega) (Ev.need (by simp only [ByteArray.size_append, s40, s41, s32, sar, s91, s93, s58, s123, s125, sb1, sb2, s0, decide_eq_true_eq]; omega) (Ev.need (by simp only [ByteArray.size_append, s40, s41, s32, sar, s91, s93, s58, s123, s125, sb1, sb2, s0, decide_eq_true_eq]; omega) ?_))
          refine Ev.some i1 (b1.bind ?_)
          exact Ev.need (by simp only [ByteArray.size_append, s40, s41, s32, sar, s91, s93, s58, s123, s125, sb1, sb2, s0, decide_eq_true_eq]; omega) (Ev.pure _)
    · obtain ⟨a, b, e, ha, hb2, hcnt⟩ := rw_pair hok (by omega)
      have hpa := Tm.count_pos a.sk; have hpb := Tm.count_pos b.sk
      obtain ⟨A, xs1, a1, a2, a3⟩ := text_tx a.sk.count a ha (Nat.le_refl _) (by omega)
      obtain ⟨B, ys1, b1, b2, b3⟩ := text_tx b.sk.count b hb2 (Nat.le_refl _) (by omega)
      have i0 : idx t.args 0 = some a := by rw [e]; rfl
      have i1 : idx t.args 1 = some b := by rw [e]; rfl
      have hA := wr_size ((a.op == 6 || a.op == 5) || a.op == 7) A
      refine ⟨(wr ((a.op == 6 || a.op == 5) || a.op == 7) A ++ (⟨#[32, 45, 62, 32]⟩ : ByteArray)) ++ B, wrT (wideB a) xs1 ++ (4, arrB) :: ys1, ?_, by simp only [ByteArray.size_append, s40, s41, s32, sar, s91, s93, s58, s123, s125, sb1, sb2, s0, decide_eq_true_eq]; omega, ?_⟩
      rotate_left
      · rw [mk, ho, rw_noname hok (by omega), e]; exact Tx.ar a3 b3
      · refine Ev.succ (fun k => R02_Text.eq_2 ..) ?_
        refine Ev.f (ng ho (by decide)) (Ev.f (ng ho (by decide)) (Ev.f (ng ho (by decide)) (Ev.f (ng ho (by decide)) (Ev.t (beqI ho) ?_))))
        refine Ev.some i0 (Ev.some i0 (Ev.some i1 (a1.bind ((wide_ev a).bind ((within_ev A _ (by omega)).bind ?_)))))
        refine Ev.need (by simp only [ByteArray.size_append, s40, s41, s32, sar, s91, s93, s58, s123, s125, sb1, sb2, s0, decide_eq_true_eq]; omega) ?_
        refine b1.bind ?_
        exact Ev.need (by simp only [ByteArray.size_append, s40, s41, s32, sar, s91, s93, s58, s123, s125, sb1, sb2, s0, decide_eq_true_eq]; omega) (Ev.pure _)
    · obtain ⟨a, b, e, ha, hb2, hcnt⟩ := rw_pair hok (by omega)
      have hpa := Tm.count_pos a.sk; have hpb := Tm.count_pos b.sk
      have hnm := rw_name hok (by omega)
      have hnd := rw_named hok (by omega)
      obtain ⟨A, xs1, a1, a2, a3⟩ := text_tx a.sk.count a ha (Nat.le_refl _) (by omega)
      obtain ⟨B, ys1, b1, b2, b3⟩ := text_tx b.sk.count b hb2 (Nat.le_refl _) (by omega)
      have i0 : idx t.args 0 = some a := by rw [e]; rfl
      have i1 : idx t.args 1 = some b := by rw [e]; rfl
      have hbr : brk 7 91 93 := .inr ⟨rfl, rfl, rfl⟩
      by_cases h3 : a.op = 3
      · refine ⟨((((⟨#[91]⟩ : ByteArray) ++ t.name) ++ (⟨#[]⟩ : ByteArray)) ++ (⟨#[93, 32]⟩ : ByteArray)) ++ B, (4, oneB 91) :: (nkind t.name, t.name) :: (4, oneB 93) :: ys1, ?_, by simp only [ByteArray.size_append, s40, s41, s32, sar, s91, s93, s58, s123, s125, sb1, sb2, s0, decide_eq_true_eq]; omega, ?_⟩
        rotate_left
        · have hae : a = .mk 3 ByteArray.empty [] := by
            have : a = .mk a.op a.name a.args := by cases a; rfl
            rw [this, h3, rw_noname ha (by omega), rw_leaf ha (by omega)]
          have := Tx.b0 hbr hnd b3
          rw [mk, ho, e, hae]; exact this
        · refine Ev.succ (fun k => R02_Text.eq_2 ..) ?_
          refine Ev.f (ng ho (by decide)) (Ev.f (ng ho (by decide)) (Ev.f (ng ho (by decide)) (Ev.f (ng ho (by decide)) (Ev.f (ng ho (by decide)) ?_))))
          refine Ev.some i0 ?_
          refine Ev.f (bneI' h3) ?_
          refine Ev.f (ng ho (by decide)) ?_
          refine Ev.need (by simp only [ByteArray.size_append, s40, s41, s32, sar, s91, s93, s58, s123, s125, sb1, sb2, s0, decide_eq_true_eq]; omega) (Ev.need (by simp only [ByteArray.size_append, s40, s41, s32, sar, s91, s93, s58, s123, s125, sb1, sb2, s0, decide_eq_true_eq]; omega) (Ev.need (by simp only [ByteArray.size_append, s40, s41, s32, sar, s91, s93, s58, s123, s125, sb1, sb2, s0, decide_eq_true_eq]; omega) ?_))
          refine Ev.some i1 (b1.bind ?_)
          exact Ev.need (by simp only [ByteArray.size_append, s40, s41, s32, sar, s91, s93, s58, s123, s125, sb1, sb2, s0, decide_eq_true_eq]; omega) (Ev.pure _)
      · refine ⟨((((⟨#[91]⟩ : ByteArray) ++ t.name) ++ ((⟨#[58]⟩ : ByteArray) ++ A)) ++ (⟨#[93, 32]⟩ : ByteArray)) ++ B, (4, oneB 91) :: (nkind t.name, t.name) :: (4, colB) :: (xs1 ++ (4, oneB 93) :: ys1), ?_, by simp only [ByteArray.size_append, s40, s41, s32, sar, s91, s93, s58, s123, s125, sb1, sb2, s0, decide_eq_true_eq]; omega, ?_⟩
        rotate_left
        · have := Tx.b1 hbr hnd h3 a3 b3
          rw [mk, ho, e]; exact this
        · refine Ev.succ (fun k => R02_Text.eq_2 ..) ?_
          refine Ev.f (ng ho (by decide)) (Ev.f (ng ho (by decide)) (Ev.f (ng ho (by decide)) (Ev.f (ng ho (by decide)) (Ev.f (ng ho (by decide)) ?_))))
          refine Ev.some i0 ?_
          refine Ev.t (bneI h3) ?_
          refine Ev.some i0 (a1.bind ?_)
          refine Ev.need (by simp only [ByteArray.size_append, s40, s41, s32, sar, s91, s93, s58, s123, s125, sb1, sb2, s0, decide_eq_true_eq]; omega) ?_
          refine Ev.f (ng ho (by decide)) ?_
          refine Ev.need (by simp only [ByteArray.size_append, s40, s41, s32, sar, s91, s93, s58, s123, s125, sb1, sb2, s0, decide_eq_true_eq]; omega) (Ev.need (by simp only [ByteArray.size_append, s40, s41, s32, sar, s91, s93, s58, s123, s125, sb1, sb2, s0, decide_eq_true_eq]; omega) (Ev.need (by simp only [ByteArray.size_append, s40, s41, s32, sar, s91, s93, s58, s123, s125, sb1, sb2, s0, decide_eq_true_eq]; omega) ?_))
          refine Ev.some i1 (b1.bind ?_)
          exact Ev.need (by simp only [ByteArray.size_append, s40, s41, s32, sar, s91, s93, s58, s123, s125, sb1, sb2, s0, decide_eq_true_eq]; omega) (Ev.pure _)
end Go.Proofs.YtpibdcjdamibdaaGreatDoor
end

/-! FrB -/
section
namespace Go.Proofs.YtpibdcjdamibdaaGreatDoor
open Go.Tr Go
set_option linter.unusedVariables false
set_option linter.unusedSimpArgs false
set_option maxRecDepth 10000

def bnd1 : List UInt8 → Prop
  | [] => True
  | c :: _ => nameC c = false
/-- Behind so many bytes stands this. -/
def At (s : ByteArray) (p : Nat) (u : List UInt8) : Prop := s.data.toList.drop p = u ∧ p + u.length = s.size
def prs (l : List Tk) : List TT := l.map (fun t => (t.kind, t.text))
/-- From here on the lexer reads these tokens. -/
def G (u : List UInt8) (ts : List TT) : Prop := ∀ (s : ByteArray) (p : Nat) (acc : List Tk), s.size ≤ 100000 → At s p u → acc.length ≤ p →
  ∃ q : Int, Ev (fun k => R01_space_L1 k s (p : Int)) q ∧ Yields (fun k => R01_Tokens_L1 k s acc q) (fun r => r.2.2 = 0 ∧ ∃ more, r.1 = acc ++ more ∧ prs more = ts ++ [(7, ByteArray.empty)])

theorem At.lt {s : ByteArray} {p : Nat} {c : UInt8} {u : List UInt8} (h : At s p (c :: u)) : p < s.size := by have := h.2; simp only [List.length_cons] at this; omega
theorem At.get {s : ByteArray} {p : Nat} {c : UInt8} {u : List UInt8} (h : At s p (c :: u)) : idx s.data.toList (p : Int) = some c := idx_get (getDrop h.1)
theorem At.next {s : ByteArray} {p : Nat} {c : UInt8} {u : List UInt8} (h : At s p (c :: u)) : At s (p + 1) u := ⟨dropDrop h.1, by have := h.2; simp only [List.length_cons] at this; omega⟩
theorem At.skip {s : ByteArray} {p : Nat} {w u : List UInt8} (h : At s p (w ++ u)) : At s (p + w.length) u := by
  obtain ⟨h1, h2⟩ := h
  refine ⟨?_, by simp only [List.length_append] at h2; omega⟩
  rw [← List.drop_drop, h1, List.drop_left]
theorem At.ext {s : ByteArray} {p : Nat} {w u : List UInt8} (h : At s p (w ++ u)) : s.extract p (p + w.length) = ⟨w.toArray⟩ := by
  refine ba_ext ?_
  rw [Lib.extract_data, h.1, Nat.add_sub_cancel_left, List.take_left]

theorem byteOf_ev (c : UInt8) : Ev (fun k => R01_byteOf k (c.toNat : Int)) (nameC c) := by
  refine Ev.succ (fun k => R01_byteOf.eq_2 ..) ?_
  have e1 : Ev (fun k => R01_letter k (c.toNat : Int)) (smallC c || capC c) := by
    refine Ev.succ (fun k => R01_letter.eq_2 ..) ?_
    have e2 : Ev (fun k => R01_small k (c.toNat : Int)) (smallC c) := Ev.succ (fun k => R01_small.eq_2 ..) (Ev.pure _)
    exact e2.bind (Ev.pure _)
  exact e1.bind (Ev.pure _)
theorem smallByte_ev (c : UInt8) : Ev (fun k => R01_small k (c.toNat : Int)) (smallC c) := Ev.succ (fun k => R01_small.eq_2 ..) (Ev.pure _)
theorem letter_ev (c : UInt8) : Ev (fun k => R01_letter k (c.toNat : Int)) (smallC c || capC c) := by
  refine Ev.succ (fun k => R01_letter.eq_2 ..) ?_
  exact (smallByte_ev c).bind (Ev.pure _)

theorem run_evL : ∀ (w u : List UInt8) (s : ByteArray) (p : Nat), s.size ≤ 100000 → (∀ c ∈ w, nameC c = true) → bnd1 u → At s p (w ++ u) → Ev (fun k => R01_run_L1 k s (p : Int)) ((p + w.length : Nat) : Int)
  | [], [], s, p, hs, hw, hb, h => by
    refine Ev.succ (fun k => R01_run_L1.eq_2 ..) ?_
    have := h.2
    simp only [List.append_nil, List.length_nil] at this
    exact Ev.f (by simp; omega) (Ev.pure _)
  | [], c :: u, s, p, hs, hw, hb, h => by
    refine Ev.succ (fun k => R01_run_L1.eq_2 ..) ?_
    rw [List.nil_append] at h
    have hlt := h.lt
    refine Ev.t (by simp; omega) (Ev.some h.get ((byteOf_ev c).bind ?_))
    rw [show nameC c = false from hb]
    exact Ev.f rfl (Ev.pure _)
  | c :: w, u, s, p, hs, hw, hb, h => by
    refine Ev.succ (fun k => R01_run_L1.eq_2 ..) ?_
    rw [List.cons_append] at h
    have hlt := h.lt
    refine Ev.t (by simp; omega) (Ev.some h.get ((byteOf_ev c).bind ?_))
    rw [hw c (List.mem_cons_self ..), wrapS (by omega)]
    refine Ev.t rfl ((run_evL w u s (p + 1) hs (fun x hx => hw x (List.mem_cons_of_mem _ hx)) hb h.next).eq ?_)
    simp only [List.length_cons]; omega
theorem run_ev1 {w u : List UInt8} {s : ByteArray} {p : Nat} (hs : s.size ≤ 100000) (hw : ∀ c ∈ w, nameC c = true) (hb : bnd1 u) (h : At s p (w ++ u)) : Ev (fun k => R01_run k s (p : Int)) ((p + w.length : Nat) : Int) :=
  Ev.succ (fun k => R01_run.eq_2 ..) (run_evL w u s p hs hw hb h)

theorem G_nil : G [] [] := by
  intro s p acc hs h ha
  have hp := h.2
  simp only [List.length_nil, Nat.add_zero] at hp
  refine ⟨(p : Int), ?_, ?_⟩
  · refine Ev.succ (fun k => R01_space_L1.eq_2 ..) ?_
    exact Ev.f (by simp; omega) (Ev.pure _)
  · refine Yields.succ (fun k => R01_Tokens_L1.eq_2 ..) ?_
    refine Yields.ite (fun h => by simp at h; omega) (fun _ => ?_)
    refine Yields.need (by simp; omega) (Yields.pure ⟨rfl, [_], rfl, rfl⟩)

theorem G_blank {u : List UInt8} {ts : List TT} (hG : G u ts) : G (32 :: u) ts := by
  intro s p acc hs h ha
  obtain ⟨q, h1, h2⟩ := hG s (p + 1) acc hs h.next (by omega)
  have hlt := h.lt
  refine ⟨q, ?_, h2⟩
  refine Ev.succ (fun k => R01_space_L1.eq_2 ..) ?_
  refine Ev.t (by simp; omega) (Ev.some h.get (Ev.t rfl ?_))
  rw [wrapS (by omega)]
  exact h1

theorem G_tok {c : UInt8} {w u : List UInt8} {ts : List TT} {kd : Int} (hc : ((c.toNat : Int) == 32) = false ∧ ((c.toNat : Int) == 9) = false ∧ ((c.toNat : Int) == 10) = false ∧ ((c.toNat : Int) == 13) = false ∧ ((c.toNat : Int) == 37) = false)
    (hn : ∀ (s : ByteArray) (p : Nat), s.size ≤ 100000 → At s p ((c :: w) ++ u) → Ev (fun k => R01_Next k s (p : Int)) (⟨kd, ⟨(c :: w).toArray⟩, (p : Int)⟩, true)) (hG : G u ts) : G ((c :: w) ++ u) ((kd, ⟨(c :: w).toArray⟩) :: ts) := by
  intro s p acc hs h ha
  have h' : At s p (c :: (w ++ u)) := h
  have hlt := h'.lt
  have hsk := h.skip
  have hlen := h.2
  simp only [List.length_append, List.length_cons] at hlen
  obtain ⟨q, h1, r, h2, h3, more, h4, h5⟩ := hG s (p + (c :: w).length) (acc ++ [⟨kd, ⟨(c :: w).toArray⟩, (p : Int)⟩]) hs hsk (by simp; omega)
  obtain ⟨c1, c2, c3, c4, c5⟩ := hc
  refine ⟨(p : Int), ?_, r, ?_, h3, _ :: more, by rw [h4]; simp; rfl, ?_⟩
  · refine Ev.succ (fun k => R01_space_L1.eq_2 ..) ?_
    refine Ev.t (by simp; omega) (Ev.some h'.get (Ev.f c1 (Ev.some h'.get (Ev.f c2 (Ev.some h'.get (Ev.f c3 (Ev.some h'.get (Ev.f c4 (Ev.some h'.get (Ev.f c5 (Ev.pure _)))))))))))
  · refine Ev.succ (fun k => R01_Tokens_L1.eq_2 ..) ?_
    refine Ev.t (by simp; omega) ((hn s p hs h).bind (Ev.f rfl ?_))
    refine Ev.need (by simp; omega) ?_
    have hsz : (((⟨(c :: w).toArray⟩ : ByteArray).size : Nat) : Int) = (((c :: w).length : Nat) : Int) := by rw [ba_size]
    simp only [hsz]
    rw [wrap_i64 (n := (p : Int) + (((c :: w).length : Nat) : Int)) (by omega) (by simp only [List.length_cons]; omega), show (p : Int) + (((c :: w).length : Nat) : Int) = ((p + (c :: w).length : Nat) : Int) by omega]
    exact (Ev.succ (fun k => R01_space.eq_2 ..) h1).bind h2
  · show (kd, _) :: prs more = _
    rw [h5]; rfl

/-- A name. -/
theorem named_ref {s0 : ByteArray} (hn : namedF s0 = true) : refNameF s0 = true := by
  rw [refNameF_eq]
  simp only [namedF, Bool.or_eq_true, Bool.and_eq_true] at hn
  rcases hn with h | h
  · rw [h]; simp
  · rw [h.1]; simp
theorem G_name {s0 : ByteArray} {u : List UInt8} {ts : List TT} (hr : refNameF s0 = true) (hb : bnd1 u) (hG : G u ts) : G (s0.data.toList ++ u) ((nkind s0, s0) :: ts) := by
  cases hl : s0.data.toList with
  | nil => unfold refNameF at hr; rw [hl] at hr; cases hr
  | cons c w =>
    have he : s0 = ⟨(c :: w).toArray⟩ := ba_ext (by rw [hl])
    have hr' := hr
    unfold refNameF at hr'
    rw [hl] at hr'
    simp only [Bool.and_eq_true, List.all_eq_true] at hr'
    obtain ⟨⟨_, hlet⟩, hall⟩ := hr'
    have hrange : (65 : Int) ≤ (c.toNat : Int) := by
      simp only [smallC, capC, Bool.or_eq_true, Bool.and_eq_true, decide_eq_true_eq] at hlet
      omega
    have hnk : nkind s0 = if smallC c = true then 1 else 2 := by unfold nkind; rw [hl]
    rw [hnk]
    conv => rhs; rw [he]
    refine G_tok ⟨by simp; omega, by simp; omega, by simp; omega, by simp; omega, by simp; omega⟩ ?_ hG
    intro s p hs h
    have h' : At s p (c :: (w ++ u)) := h
    have hlen := h.2
    simp only [List.length_append, List.length_cons] at hlen
    refine Ev.succ (fun k => R01_Next.eq_2 ..) ?_
    refine (run_ev1 hs hall hb h).bind (Ev.some h'.get ((letter_ev c).bind ?_))
    rw [hlet]
    refine Ev.t rfl (Ev.need ?_ ((smallByte_ev c).bind ?_))
    · simp only [decide_eq_true_eq, List.length_cons]; omega
    have hex : s.extract ((p : Int)).toNat (((p + (c :: w).length : Nat) : Int)).toNat = ⟨(c :: w).toArray⟩ := by
      rw [Int.toNat_natCast, Int.toNat_natCast]; exact h.ext
    rw [hex, ← he, hr]
    cases hsm : smallC c with
    | true => exact Ev.f rfl (Ev.pure _)
    | false => exact Ev.t rfl (Ev.pure _)

/-- A hole. -/
theorem G_hole {u : List UInt8} {ts : List TT} (hb : bnd1 u) (hG : G u ts) : G (95 :: u) ((3, ⟨#[95]⟩) :: ts) := by
  refine G_tok (c := 95) (w := []) (by decide) ?_ hG
  intro s p hs h
  have h' : At s p (95 :: u) := h
  have hlt := h'.lt
  refine Ev.succ (fun k => R01_Next.eq_2 ..) ?_
  refine (run_ev1 (w := [95]) hs (by decide) hb h).bind (Ev.some h'.get ((letter_ev 95).bind ?_))
  refine Ev.f rfl (Ev.t rfl ((Ev.pure _).eq ?_))
  rw [wrapS (by omega)]
  simp

/-- A sign of one byte. -/
theorem G_sign {c : UInt8} {u : List UInt8} {ts : List TT} (hc : c = 40 ∨ c = 41 ∨ c = 123 ∨ c = 125 ∨ c = 91 ∨ c = 93 ∨ c = 58) (hG : G u ts) : G (c :: u) ((4, oneB c) :: ts) := by
  refine G_tok (c := c) (w := []) (by rcases hc with h | h | h | h | h | h | h <;> subst h <;> decide) ?_ hG
  intro s p hs h
  have h' : At s p (c :: u) := h
  have hlt := h'.lt
  refine Ev.succ (fun k => R01_Next.eq_2 ..) ?_
  have hnc : nameC c = false := by rcases hc with h | h | h | h | h | h | h <;> subst h <;> decide
  refine (run_ev1 (w := []) (u := c :: u) hs (by simp) hnc h').bind (Ev.some h'.get ((letter_ev c).bind ?_))
  have hmin : (if (s.size : Int) < (p : Int) + 2 then (s.size : Int) else (p : Int) + 2) = ((min s.size (p + 2) : Nat) : Int) := by split <;> omega
  have e1 : s.extract p (p + 1) = oneB c := h.ext
  have etwo : ∃ l, (s.extract p (min s.size (p + 2))).toList = c :: l := by
    rw [ByteArray.toList_eq, Lib.extract_data, h'.1]
    obtain ⟨m, hm⟩ : ∃ m, min s.size (p + 2) - p = m + 1 := ⟨min s.size (p + 2) - p - 1, by omega⟩
    rw [hm]
    exact ⟨_, rfl⟩
  obtain ⟨l, hl⟩ := etwo
  have key : Ev (fun k => R01_sign k s (p : Int)) (⟨4, oneB c, (p : Int)⟩, true) := by
    refine Ev.succ (fun k => R01_sign.eq_2 ..) ?_
    rw [wrapS (by omega), wrap_i64 (n := (p : Int) + 2) (by omega) (by omega), hmin, Int.toNat_natCast, Int.toNat_natCast, Int.toNat_natCast, e1, hl, ByteArray.toList_eq, ByteArray.toList_eq]
    refine Ev.need (by simp only [decide_eq_true_eq]; omega) (Ev.need (by simp only [decide_eq_true_eq]; omega) ?_)
    refine Ev.f ?_ (Ev.some h'.get ?_)
    · rcases hc with h | h | h | h | h | h | h <;> subst h <;> rfl
    · rcases hc with h | h | h | h | h | h | h <;> subst h <;>
        first
        | exact Ev.t rfl (Ev.t rfl (Ev.pure _))
        | exact Ev.f rfl (Ev.t rfl (Ev.t rfl (Ev.pure _)))
        | exact Ev.f rfl (Ev.f rfl (Ev.t rfl (Ev.t rfl (Ev.pure _))))
        | exact Ev.f rfl (Ev.f rfl (Ev.f rfl (Ev.t rfl (Ev.t rfl (Ev.pure _)))))
        | exact Ev.f rfl (Ev.f rfl (Ev.f rfl (Ev.f rfl (Ev.t rfl (Ev.t rfl (Ev.pure _))))))
        | exact Ev.f rfl (Ev.f rfl (Ev.f rfl (Ev.f rfl (Ev.f rfl (Ev.t rfl (Ev.t rfl (Ev.pure _)))))))
        | exact Ev.f rfl (Ev.f rfl (Ev.f rfl (Ev.f rfl (Ev.f rfl (Ev.f rfl (Ev.t rfl (Ev.t rfl (Ev.pure _))))))))
        | exact Ev.f rfl (Ev.f rfl (Ev.f rfl (Ev.f rfl (Ev.f rfl (Ev.f rfl (Ev.f rfl (Ev.t rfl (Ev.t rfl (Ev.pure _)))))))))
        | exact Ev.f rfl (Ev.f rfl (Ev.f rfl (Ev.f rfl (Ev.f rfl (Ev.f rfl (Ev.f rfl (Ev.f rfl (Ev.t rfl (Ev.t rfl (Ev.pure _))))))))))
  rcases hc with h | h | h | h | h | h | h <;> subst h <;> exact Ev.f rfl (Ev.f rfl (Ev.f rfl (Ev.f rfl (key.bind (Ev.pure _)))))

/-- An arrow. -/
theorem G_arrow {u : List UInt8} {ts : List TT} (hG : G u ts) : G (45 :: 62 :: u) ((4, arrB) :: ts) := by
  refine G_tok (c := 45) (w := [62]) (by decide) ?_ hG
  intro s p hs h
  have h' : At s p (45 :: (62 :: u)) := h
  have hlen := h'.2
  simp only [List.length_cons] at hlen
  refine Ev.succ (fun k => R01_Next.eq_2 ..) ?_
  refine (run_ev1 (w := []) (u := 45 :: 62 :: u) hs (by simp) (by decide : nameC 45 = false) h').bind (Ev.some h'.get ((letter_ev 45).bind ?_))
  have key : Ev (fun k => R01_sign k s (p : Int)) (⟨4, arrB, (p : Int)⟩, true) := by
    refine Ev.succ (fun k => R01_sign.eq_2 ..) ?_
    have e2 : s.extract p (p + 2) = arrB := h.ext
    have hmin : (if (s.size : Int) < (p : Int) + 2 then (s.size : Int) else (p : Int) + 2) = ((p + 2 : Nat) : Int) := by split <;> omega
    rw [wrapS (by omega), wrap_i64 (n := (p : Int) + 2) (by omega) (by omega), hmin, Int.toNat_natCast, Int.toNat_natCast, Int.toNat_natCast, e2]
    refine Ev.need (by simp only [decide_eq_true_eq]; omega) (Ev.need (by simp only [decide_eq_true_eq]; omega) ?_)
    exact Ev.t (by simp) (Ev.pure _)
  exact Ev.f rfl (Ev.f rfl (Ev.f rfl (Ev.f rfl (key.bind (Ev.pure _)))))

theorem G_wr {b : Bool} {A : ByteArray} {xs1 : List TT} (h : ∀ u ts, bnd1 u → G u ts → G (A.data.toList ++ u) (xs1 ++ ts)) : ∀ u ts, bnd1 u → G u ts → G ((wr b A).data.toList ++ u) (wrT b xs1 ++ ts) := by
  intro u ts hb hG
  cases b with
  | false => exact h u ts hb hG
  | true =>
    have e : (wr true A).data.toList = 40 :: (A.data.toList ++ [41]) := by
      show ((lparB ++ A) ++ rparB).data.toList = _
      rw [app_toList, app_toList]; rfl
    have e2 : wrT true xs1 = (4, lparB) :: (xs1 ++ [(4, rparB)]) := rfl
    rw [e, e2, List.cons_append, List.cons_append, List.append_assoc, List.append_assoc]
    refine G_sign (by decide) (h _ _ (by decide : nameC 41 = false) ?_)
    exact G_sign (by decide) hG

/-- The lexer at a text. -/
theorem tx_lex {r : Rw} {T : ByteArray} {xs1 : List TT} (h : Tx r T xs1) : ∀ u ts, bnd1 u → G u ts → G (T.data.toList ++ u) (xs1 ++ ts) := by
  induction h with
  | ty => exact fun u ts hb hG => G_name (s0 := ⟨#[116, 121, 112, 101]⟩) (by decide) hb hG
  | nm h => exact fun u ts hb hG => G_name (named_ref h) hb hG
  | ho => exact fun u ts hb hG => G_hole hb hG
  | @ap a b A B xs ys ha hb' iha ihb =>
    intro u ts hb hG
    rw [app_toList, app_toList, List.append_assoc, List.append_assoc, List.append_assoc]
    refine G_wr iha _ _ (by decide : nameC 32 = false) ?_
    exact G_blank (G_wr ihb _ _ hb hG)
  | @ar a b A B xs ys ha hb' iha ihb =>
    intro u ts hb hG
    rw [app_toList, app_toList, List.append_assoc, List.append_assoc, List.append_assoc]
    refine G_wr iha _ _ (by decide : nameC 32 = false) ?_
    exact G_blank (G_arrow (G_blank (ihb _ _ hb hG)))
  | @b0 o l r s b B ys ho h hb' ihb =>
    intro u ts hb hG
    have e : (((((oneB l ++ s) ++ (⟨#[]⟩ : ByteArray)) ++ (⟨#[r, 32]⟩ : ByteArray)) ++ B).data.toList ++ u) = l :: (s.data.toList ++ (r :: (32 :: (B.data.toList ++ u)))) := by
      simp only [app_toList, List.append_assoc]; rfl
    rw [e]
    have hr : nameC r = false := by rcases ho with ⟨_, _, rfl⟩ | ⟨_, _, rfl⟩ <;> decide
    refine G_sign (by rcases ho with ⟨_, rfl, _⟩ | ⟨_, rfl, _⟩ <;> decide) (G_name (named_ref h) hr ?_)
    exact G_sign (by rcases ho with ⟨_, _, rfl⟩ | ⟨_, _, rfl⟩ <;> decide) (G_blank (ihb _ _ hb hG))
  | @b1 o l r s a b A B xs ys ho h ha3 ha hb' iha ihb =>
    intro u ts hb hG
    have e : (((((oneB l ++ s) ++ (colB ++ A)) ++ (⟨#[r, 32]⟩ : ByteArray)) ++ B).data.toList ++ u) = l :: (s.data.toList ++ (58 :: (A.data.toList ++ (r :: (32 :: (B.data.toList ++ u)))))) := by
      simp only [app_toList, List.append_assoc]; rfl
    rw [e]
    have hr : nameC r = false := by rcases ho with ⟨_, _, rfl⟩ | ⟨_, _, rfl⟩ <;> decide
    refine G_sign (by rcases ho with ⟨_, rfl, _⟩ | ⟨_, rfl, _⟩ <;> decide) (G_name (named_ref h) (by decide : nameC 58 = false) ?_)
    show G _ ((4, colB) :: ((xs ++ (4, oneB r) :: ys) ++ ts))
    rw [List.append_assoc]
    refine G_sign (by decide) (iha _ _ hr ?_)
    exact G_sign (by rcases ho with ⟨_, _, rfl⟩ | ⟨_, _, rfl⟩ <;> decide) (G_blank (ihb _ _ hb hG))
end Go.Proofs.YtpibdcjdamibdaaGreatDoor
end

/-! FrC -/
section
namespace Go.Proofs.YtpibdcjdamibdaaGreatDoor
open Go.Tr Go
set_option linter.unusedVariables false
set_option linter.unusedSimpArgs false
set_option maxRecDepth 10000

/-- From this place on stand these tokens. -/
def Rs (l : List Tk) (p : Nat) (ts : List TT) : Prop := prs (l.drop p) = ts ∧ l.length ≤ 100000
abbrev rd (l : List Tk) (p : Nat) : Rdr := ⟨l, (p : Int), false⟩

theorem Rs.head {l : List Tk} {p : Nat} {t : TT} {ts : List TT} (h : Rs l p (t :: ts)) : ∃ k, idx l (p : Int) = some k ∧ k.kind = t.1 ∧ k.text = t.2 ∧ Rs l (p + 1) ts ∧ p < l.length := by
  obtain ⟨h1, h2⟩ := h
  cases hd : l.drop p with
  | nil => rw [hd] at h1; cases h1
  | cons k r =>
    rw [hd] at h1
    simp only [prs, List.map_cons, List.cons.injEq] at h1
    have hg := getDrop hd
    refine ⟨k, idx_get hg, by rw [← h1.1], by rw [← h1.1], ⟨by rw [dropDrop hd]; exact h1.2, h2⟩, (List.getElem?_eq_some_iff.1 hg).1⟩
theorem Rs.skip {l : List Tk} {p : Nat} {xs ts : List TT} (h : Rs l p (xs ++ ts)) : Rs l (p + xs.length) ts := by
  obtain ⟨h1, h2⟩ := h
  refine ⟨?_, h2⟩
  rw [← List.drop_drop]
  unfold prs at h1 ⊢
  rw [List.map_drop, h1, List.drop_left]

theorem now_ev {l : List Tk} {p : Nat} {k : Tk} (h : idx l (p : Int) = some k) : Ev (fun n => R02_reader_now n (rd l p)) k := by
  refine Ev.succ (fun k => R02_reader_now.eq_2 ..) ?_
  exact Ev.some h (Ev.pure _)

def isS (t : TT) (s : ByteArray) : Bool := t.1 == 4 && t.2.data.toList == s.data.toList
theorem is_ev {l : List Tk} {p : Nat} {t : TT} {ts : List TT} (h : Rs l p (t :: ts)) (s : ByteArray) : Ev (fun n => R02_reader_is n s (rd l p)) (isS t s) := by
  obtain ⟨k, h1, h2, h3, _, _⟩ := h.head
  refine Ev.succ (fun k => R02_reader_is.eq_2 ..) ?_
  refine Ev.t rfl ((now_ev h1).bind ?_)
  rw [h2]
  unfold isS
  refine Ev.ite (fun hk => ?_) (fun hk => ?_)
  · refine (now_ev h1).bind ((Ev.pure _).eq ?_)
    rw [h3, hk, Bool.true_and, ByteArray.toList_eq, ByteArray.toList_eq]
  · refine (Ev.pure _).eq ?_
    rw [hk, Bool.false_and]

def atomS (t : TT) : Bool := ((t.1 == 1 || t.1 == 2) || t.1 == 3) || isS t lparB
def bindS (t : TT) : Bool := isS t (oneB 123) || isS t (oneB 91)
theorem atoms_ev {l : List Tk} {p : Nat} {t : TT} {ts : List TT} (h : Rs l p (t :: ts)) : Ev (fun n => R02_reader_atoms n (rd l p)) (atomS t) := by
  obtain ⟨k, h1, h2, h3, _, _⟩ := h.head
  refine Ev.succ (fun k => R02_reader_atoms.eq_2 ..) ?_
  refine (now_ev h1).bind (Ev.t rfl ?_)
  rw [h2]
  unfold atomS
  refine Ev.ite (fun hk => ?_) (fun hk => ?_)
  · exact (Ev.pure _).eq (by rw [hk]; rfl)
  · refine ((is_ev h lparB).bind (Ev.pure _)).eq (by rw [hk]; rfl)
theorem binds_ev {l : List Tk} {p : Nat} {t : TT} {ts : List TT} (h : Rs l p (t :: ts)) : Ev (fun n => R02_reader_binds n (rd l p)) (bindS t) := by
  refine Ev.succ (fun k => R02_reader_binds.eq_2 ..) ?_
  refine (is_ev h (oneB 123)).bind ?_
  unfold bindS
  refine Ev.ite (fun hk => ?_) (fun hk => ?_)
  · exact (Ev.pure _).eq (by rw [hk]; rfl)
  · refine ((is_ev h (oneB 91)).bind (Ev.pure _)).eq (by rw [hk]; rfl)

/-- Nothing goes on here. -/
def stop (ts : List TT) : Prop := ∃ t r, ts = t :: r ∧ atomS t = false ∧ bindS t = false ∧ isS t arrB = false ∧ isS t ⟨#[60, 45]⟩ = false

theorem skip_ev {l : List Tk} {p : Nat} {s : ByteArray} {ts : List TT} (h : Rs l p ((4, s) :: ts)) : Ev (fun n => R02_reader_skip n s (rd l p)) (rd l (p + 1)) := by
  obtain ⟨_, _, _, _, h4, hlt⟩ := h.head
  refine Ev.succ (fun k => R02_reader_skip.eq_2 ..) ?_
  refine (is_ev h s).bind ?_
  have e : isS (4, s) s = true := by unfold isS; simp
  rw [e]
  refine Ev.f rfl (Ev.t rfl ((Ev.pure _).eq ?_))
  have := h.2
  rw [wrapS (by omega)]

theorem named_not_type {s : ByteArray} (h : namedF s = true) : (s.toList == tyB.toList) = false := by
  simp only [namedF, Bool.or_eq_true, Bool.and_eq_true, Bool.not_eq_true'] at h
  rcases h with h | h
  · cases hc : (s.toList == tyB.toList) with
    | false => rfl
    | true =>
      have : s.toList = tyB.toList := by simpa using hc
      rw [ByteArray.toList_eq, ByteArray.toList_eq] at this
      have : s = tyB := ba_ext this
      rw [this] at h
      exact absurd h (by decide)
  · exact h.2
theorem nkind_12 (s : ByteArray) : nkind s = 1 ∨ nkind s = 2 := by
  unfold nkind
  split
  · exact .inl rfl
  · split
    · exact .inl rfl
    · exact .inr rfl

theorem name_evR {l : List Tk} {p : Nat} {s : ByteArray} {ts : List TT} (hn : namedF s = true) (h : Rs l p ((nkind s, s) :: ts)) : Ev (fun n => R02_reader_name n (rd l p)) (s, rd l (p + 1)) := by
  obtain ⟨k, h1, h2, h3, h4, hlt⟩ := h.head
  have hl := h.2
  refine Ev.succ (fun k => R02_reader_name.eq_2 ..) ?_
  refine Ev.f rfl ((now_ev h1).bind ?_)
  have e : Ev (fun n => R02_isName n k) true := by
    refine Ev.succ (fun k => R02_isName.eq_2 ..) ((Ev.pure _).eq ?_)
    rw [h2, h3, named_not_type hn]
    rcases nkind_12 s with e | e <;> simp [e]
  refine e.bind (Ev.f rfl ?_)
  rw [wrapS (by omega), show (((p + 1 : Nat) : Int) - 1) = (p : Int) by omega, wrap_i64 (n := (p : Int)) (by omega) (by omega)]
  refine Ev.some h1 ((Ev.pure _).eq ?_)
  rw [h3]

/-- The reader behind an app that goes on. -/
def AppL (r : Rw) (xs : List TT) : Prop := ∀ (l : List Tk) (p : Nat) (ts : List TT) (X : Rw × Bool × Rdr), Rs l p (xs ++ ts) → Ev (fun k => R02_reader_app_L1 k (rd l (p + xs.length)) r) X → Ev (fun k => R02_reader_app k (rd l p)) X
def ExprL (r : Rw) (xs : List TT) : Prop := ∀ (l : List Tk) (p : Nat) (ts : List TT), Rs l p (xs ++ ts) → stop ts → Ev (fun k => R02_reader_expr k (rd l p)) (r, rd l (p + xs.length))
def AtomL (r : Rw) (xs : List TT) : Prop := ∀ (l : List Tk) (p : Nat) (ts : List TT), Rs l p (xs ++ ts) → Ev (fun k => R02_reader_atom k (rd l p)) (r, rd l (p + xs.length))

theorem stop_rpar (ts : List TT) : stop ((4, rparB) :: ts) := ⟨_, _, rfl, by decide, by decide, by decide, by decide⟩

theorem atom_paren {r : Rw} {xs : List TT} (h : ExprL r xs) : AtomL r (wrT true xs) := by
  intro l p ts hR
  have hw : wrT true xs = (4, lparB) :: (xs ++ [(4, rparB)]) := rfl
  rw [hw] at hR ⊢
  rw [List.cons_append, List.append_assoc] at hR
  obtain ⟨k, h1, h2, h3, h4, hlt⟩ := hR.head
  have hl := hR.2
  refine Ev.succ (fun k => R02_reader_atom.eq_2 ..) ?_
  refine (atoms_ev hR).bind (Ev.f rfl ((now_ev h1).bind ?_))
  rw [h2]
  refine Ev.f rfl (Ev.t rfl ?_)
  have e1 : (rd l p).at_ = (p : Int) := rfl
  rw [e1, wrapS (by omega)]
  refine (h l (p + 1) _ h4 (stop_rpar ts)).bind ?_
  have h5 := h4.skip
  refine (skip_ev h5).bind ((Ev.pure _).eq ?_)
  simp only [List.length_cons, List.length_append, List.length_nil]
  rw [show p + 1 + xs.length + 1 = p + (xs.length + (0 + 1) + 1) by omega]

theorem app_of_atom {r : Rw} {xs : List TT} (h : AtomL r xs) : AppL r xs := by
  intro l p ts X hR hX
  refine Ev.succ (fun k => R02_reader_app.eq_2 ..) ?_
  exact (h l p ts hR).bind hX

theorem atom_not_bind {t : TT} (h : atomS t = true) : bindS t = false := by
  unfold atomS at h
  unfold bindS isS
  simp only [Bool.or_eq_true, beq_iff_eq] at h
  rcases h with ((h | h) | h) | h
  · simp [h]
  · simp [h]
  · simp [h]
  · simp only [isS, Bool.and_eq_true, beq_iff_eq] at h
    rw [h.1, h.2]; rfl

theorem expr_of_app {r : Rw} {xs : List TT} (h : AppL r xs) (hh : ∃ t xs', xs = t :: xs' ∧ atomS t = true) : ExprL r xs := by
  intro l p ts hR hs
  obtain ⟨t, xs', rfl, ht⟩ := hh
  obtain ⟨u, r', rfl, s1, s2, s3, s4⟩ := hs
  have hR' : Rs l p (t :: (xs' ++ u :: r')) := hR
  have h2 := hR.skip
  refine Ev.succ (fun k => R02_reader_expr.eq_2 ..) ?_
  refine Ev.f rfl ((binds_ev hR').bind ?_)
  rw [atom_not_bind ht]
  refine Ev.f rfl ((h l p _ (r, false, rd l (p + (t :: xs').length)) hR ?_).bind ?_)
  · refine Ev.succ (fun k => R02_reader_app_L1.eq_2 ..) ?_
    refine (atoms_ev h2).bind ?_
    rw [s1]
    refine Ev.f rfl ((binds_ev h2).bind ?_)
    rw [s2]
    exact Ev.f rfl (Ev.pure _)
  · refine Ev.t rfl ((is_ev h2 arrB).bind ?_)
    rw [s3]
    refine Ev.f rfl ?_
    refine Ev.succ (fun k => R02_reader_expr_L1.eq_2 ..) ?_
    refine Ev.t rfl ((is_ev h2 ⟨#[60, 45]⟩).bind ?_)
    rw [s4]
    exact Ev.f rfl (Ev.pure _)

theorem tx_head {r : Rw} {T : ByteArray} {xs : List TT} (h : Tx r T xs) : wideB r = false → ∃ t xs', xs = t :: xs' ∧ atomS t = true := by
  induction h with
  | ty => exact fun _ => ⟨_, _, rfl, rfl⟩
  | @nm s h =>
    refine fun _ => ⟨_, _, rfl, ?_⟩
    unfold atomS
    rcases nkind_12 s with e | e <;> simp [e]
  | ho => exact fun _ => ⟨_, _, rfl, rfl⟩
  | @ap a b A B xs ys ha hb' iha ihb =>
    intro _
    cases hw : wideB a with
    | true => exact ⟨(4, lparB), _, rfl, by decide⟩
    | false =>
      obtain ⟨t, xs', e, h⟩ := iha hw
      exact ⟨t, xs' ++ _, by rw [e]; rfl, h⟩
  | ar => exact fun h => absurd h (by simp [wideB, Rw.op])
  | @b0 o l r s b B ys ho h hb' ihb =>
    intro hw
    rcases ho with ⟨rfl, _⟩ | ⟨rfl, _⟩ <;> exact absurd hw (by simp [wideB, Rw.op])
  | @b1 o l r s a b A B xs ys ho h ha3 ha hb' iha ihb =>
    intro hw
    rcases ho with ⟨rfl, _⟩ | ⟨rfl, _⟩ <;> exact absurd hw (by simp [wideB, Rw.op])
theorem wr_head {r : Rw} {T : ByteArray} {xs : List TT} (h : Tx r T xs) (w : Bool) (hw : wideB r = true → w = true) : ∃ t xs', wrT w xs = t :: xs' ∧ atomS t = true := by
  cases w with
  | true => exact ⟨(4, lparB), _, rfl, by decide⟩
  | false =>
    have : wideB r = false := by cases hb : wideB r with
      | false => rfl
      | true => cases hw hb
    exact tx_head h this

theorem app_wr {a : Rw} {xs : List TT} (h1 : ExprL a xs) (h2 : wideB a = false → AppL a xs) : AppL a (wrT (wideB a) xs) := by
  cases hw : wideB a with
  | true => exact app_of_atom (atom_paren h1)
  | false => exact h2 hw

/-- Types, names and holes. -/
theorem atom_leaf {r : Rw} {T : ByteArray} {xs : List TT} (h : Tx r T xs) (ho : r.op = 1 ∨ r.op = 2 ∨ r.op = 3) : AtomL r xs := by
  cases h with
  | ty =>
    intro l p ts hR
    obtain ⟨k, h1, h2, h3, h4, hlt⟩ := hR.head
    have hl := hR.2
    refine Ev.succ (fun k => R02_reader_atom.eq_2 ..) ?_
    refine (atoms_ev hR).bind (Ev.f rfl ((now_ev h1).bind ?_))
    rw [h2, h3]
    refine Ev.f rfl (Ev.f rfl (Ev.t (by simp) ((Ev.pure _).eq ?_)))
    have e1 : (rd l p).at_ = (p : Int) := rfl
    rw [e1, wrapS (by omega)]; rfl
  | nm h =>
    intro l p ts hR
    obtain ⟨k, h1, h2, h3, h4, hlt⟩ := hR.head
    have hl := hR.2
    have hat : atomS (nkind T, T) = true := by
      unfold atomS
      rcases nkind_12 T with e | e <;> simp [e]
    refine Ev.succ (fun k => R02_reader_atom.eq_2 ..) ?_
    refine (atoms_ev hR).bind ?_
    rw [hat]
    refine Ev.f rfl ((now_ev h1).bind ?_)
    rw [h2, h3]
    refine Ev.f ?_ (Ev.f ?_ (Ev.f (named_not_type h) ((Ev.pure _).eq ?_)))
    · rcases nkind_12 T with e | e <;> simp [e]
    · rcases nkind_12 T with e | e <;> simp [e]
    · have e1 : (rd l p).at_ = (p : Int) := rfl
      rw [e1, wrapS (by omega)]; rfl
  | ho =>
    intro l p ts hR
    obtain ⟨k, h1, h2, h3, h4, hlt⟩ := hR.head
    have hl := hR.2
    refine Ev.succ (fun k => R02_reader_atom.eq_2 ..) ?_
    refine (atoms_ev hR).bind (Ev.f rfl ((now_ev h1).bind ?_))
    rw [h2]
    refine Ev.t rfl ((Ev.pure _).eq ?_)
    have e1 : (rd l p).at_ = (p : Int) := rfl
    rw [e1, wrapS (by omega)]; rfl
  | ap _ _ => simp [Rw.op] at ho
  | ar _ _ => simp [Rw.op] at ho
  | b0 hb _ _ => rcases hb with ⟨rfl, _⟩ | ⟨rfl, _⟩ <;> simp [Rw.op] at ho
  | b1 hb _ _ _ _ => rcases hb with ⟨rfl, _⟩ | ⟨rfl, _⟩ <;> simp [Rw.op] at ho

theorem tx_op {r : Rw} {T : ByteArray} {xs : List TT} (h : Tx r T xs) (hw : (wideB r || r.op == 4) = false) : r.op = 1 ∨ r.op = 2 ∨ r.op = 3 := by
  cases h with
  | ty => exact .inl rfl
  | nm _ => exact .inr (.inl rfl)
  | ho => exact .inr (.inr rfl)
  | ap _ _ => simp [wideB, Rw.op] at hw
  | ar _ _ => simp [wideB, Rw.op] at hw
  | b0 hb _ _ => rcases hb with ⟨rfl, _⟩ | ⟨rfl, _⟩ <;> simp [wideB, Rw.op] at hw
  | b1 hb _ _ _ _ => rcases hb with ⟨rfl, _⟩ | ⟨rfl, _⟩ <;> simp [wideB, Rw.op] at hw

theorem stop_brk {o : Int} {l r : UInt8} (h : brk o l r) (ts : List TT) : stop ((4, oneB r) :: ts) := by
  rcases h with ⟨_, _, rfl⟩ | ⟨_, _, rfl⟩ <;> exact ⟨_, _, rfl, by decide, by decide, by decide, by decide⟩
theorem brk_op {o : Int} {l r : UInt8} (h : brk o l r) (s : ByteArray) (as' : List Rw) : wideB (.mk o s as') = true := by
  rcases h with ⟨rfl, _⟩ | ⟨rfl, _⟩ <;> simp [wideB, Rw.op]

/-- The reader at the tokens of a raw expression. -/
theorem tx_read {r : Rw} {T : ByteArray} {xs : List TT} (h : Tx r T xs) : ExprL r xs ∧ (wideB r = false → AppL r xs) := by
  induction h with
  | ty =>
    have ha := app_of_atom (atom_leaf Tx.ty (.inl rfl))
    exact ⟨expr_of_app ha (tx_head Tx.ty rfl), fun _ => ha⟩
  | nm h =>
    have ha := app_of_atom (atom_leaf (Tx.nm h) (.inr (.inl rfl)))
    exact ⟨expr_of_app ha (tx_head (Tx.nm h) rfl), fun _ => ha⟩
  | ho =>
    have ha := app_of_atom (atom_leaf Tx.ho (.inr (.inr rfl)))
    exact ⟨expr_of_app ha (tx_head Tx.ho rfl), fun _ => ha⟩
  | @ap a b A B xs ys ha hb' iha ihb =>
    have hatom : AtomL b (wrT (wideB b || b.op == 4) ys) := by
      cases hw : (wideB b || b.op == 4) with
      | true => exact atom_paren ihb.1
      | false => exact atom_leaf hb' (tx_op hb' hw)
    have happ : AppL (.mk 4 ByteArray.empty [a, b]) (wrT (wideB a) xs ++ wrT (wideB b || b.op == 4) ys) := by
      intro l p ts X hR hX
      rw [List.append_assoc] at hR
      refine app_wr iha.1 iha.2 l p _ X hR ?_
      have h2 := hR.skip
      obtain ⟨t, ys', e, ht⟩ := wr_head hb' (wideB b || b.op == 4) (fun h => by rw [h]; rfl)
      refine Ev.succ (fun k => R02_reader_app_L1.eq_2 ..) ?_
      have h3 : Rs l (p + (wrT (wideB a) xs).length) (t :: (ys' ++ ts)) := by rw [e] at h2; exact h2
      refine (atoms_ev h3).bind ?_
      rw [ht]
      refine Ev.t rfl ((hatom l _ ts h2).bind ?_)
      rw [List.length_append, ← Nat.add_assoc] at hX
      exact hX
    refine ⟨expr_of_app happ ?_, fun _ => happ⟩
    obtain ⟨t, xs', e, ht⟩ := wr_head ha (wideB a) id
    exact ⟨t, xs' ++ _, by rw [e]; rfl, ht⟩
  | @ar a b A B xs ys ha hb' iha ihb =>
    refine ⟨?_, fun h => absurd h (by simp [wideB, Rw.op])⟩
    intro l p ts hR hs
    rw [List.append_assoc] at hR
    obtain ⟨t, xs', e, ht⟩ := wr_head ha (wideB a) id
    have h1 : Rs l p (t :: (xs' ++ (((4, arrB) :: ys) ++ ts))) := by rw [e] at hR; exact hR
    have h2 : Rs l (p + (wrT (wideB a) xs).length) ((4, arrB) :: (ys ++ ts)) := hR.skip
    obtain ⟨_, _, _, _, h3, hlt⟩ := h2.head
    have hl := hR.2
    refine Ev.succ (fun k => R02_reader_expr.eq_2 ..) ?_
    refine Ev.f rfl ((binds_ev h1).bind ?_)
    rw [atom_not_bind ht]
    refine Ev.f rfl ((app_wr iha.1 iha.2 l p _ (a, false, rd l (p + (wrT (wideB a) xs).length)) hR ?_).bind ?_)
    · refine Ev.succ (fun k => R02_reader_app_L1.eq_2 ..) ?_
      refine (atoms_ev h2).bind (Ev.f (by decide) ((binds_ev h2).bind (Ev.f (by decide) (Ev.pure _))))
    · refine Ev.t rfl ((is_ev h2 arrB).bind (Ev.t (by decide) ?_))
      simp only
      rw [wrapS (by omega)]
      refine (ihb.1 l _ ts h3 hs).bind ((Ev.pure _).eq ?_)
      simp only [List.length_append, List.length_cons]
      rw [show p + (wrT (wideB a) xs).length + 1 + ys.length = p + ((wrT (wideB a) xs).length + (ys.length + 1)) by omega]
  | @b0 o lb rb s b B ys ho h hb' ihb =>
    refine ⟨?_, fun hw => by rw [brk_op ho] at hw; cases hw⟩
    intro l p ts hR hs
    have hR1 : Rs l p ((4, oneB lb) :: (nkind s, s) :: (4, oneB rb) :: (ys ++ ts)) := hR
    obtain ⟨_, _, _, _, hR2, hlt⟩ := hR1.head
    obtain ⟨_, _, _, _, hR3, _⟩ := hR2.head
    obtain ⟨_, _, _, _, hR4, _⟩ := hR3.head
    have hl := hR.2
    have hbind : bindS (4, oneB lb) = true := by rcases ho with ⟨_, rfl, _⟩ | ⟨_, rfl, _⟩ <;> decide
    refine Ev.succ (fun k => R02_reader_expr.eq_2 ..) ?_
    refine Ev.f rfl ((binds_ev hR1).bind ?_)
    rw [hbind]
    refine Ev.t rfl ?_
    have key : Ev (fun k => R02_reader_binder k (rd l p)) (Rw.mk o s [.mk 3 ByteArray.empty [], b], rd l (p + 3 + ys.length)) := by
      refine Ev.succ (fun k => R02_reader_binder.eq_2 ..) ?_
      refine (is_ev hR1 (oneB 91)).bind ?_
      have e1 : (rd l p).at_ = (p : Int) := rfl
      rw [e1, wrapS (by omega)]
      have hc : isS (4, oneB rb) colB = false := by rcases ho with ⟨_, _, rfl⟩ | ⟨_, _, rfl⟩ <;> decide
      rcases ho with ⟨rfl, rfl, rfl⟩ | ⟨rfl, rfl, rfl⟩
      · refine Ev.f (by decide) ((name_evR h hR2).bind ((is_ev hR3 colB).bind (Ev.f hc ((skip_ev hR3).bind ((ihb.1 l _ ts hR4 hs).bind (Ev.pure _))))))
      · refine Ev.t (by decide) ((name_evR h hR2).bind ((is_ev hR3 colB).bind (Ev.f hc ((skip_ev hR3).bind ((ihb.1 l _ ts hR4 hs).bind (Ev.pure _))))))
    refine key.bind ((Ev.pure _).eq ?_)
    simp only [List.length_cons]
    rw [show p + 3 + ys.length = p + (ys.length + 1 + 1 + 1) by omega]
  | @b1 o lb rb s a b A B xs ys ho h ha3 ha hb' iha ihb =>
    refine ⟨?_, fun hw => by rw [brk_op ho] at hw; cases hw⟩
    intro l p ts hR hs
    have hR1 : Rs l p ((4, oneB lb) :: (nkind s, s) :: (4, colB) :: (xs ++ ((4, oneB rb) :: (ys ++ ts)))) := by
      have e : ((4, oneB lb) :: (nkind s, s) :: (4, colB) :: (xs ++ (4, oneB rb) :: ys)) ++ ts = (4, oneB lb) :: (nkind s, s) :: (4, colB) :: (xs ++ ((4, oneB rb) :: (ys ++ ts))) := by simp
      rw [e] at hR; exact hR
    obtain ⟨_, _, _, _, hR2, hlt⟩ := hR1.head
    obtain ⟨_, _, _, _, hR3, _⟩ := hR2.head
    obtain ⟨_, _, _, _, hR4, hlt4⟩ := hR3.head
    have hR5 := hR4.skip
    obtain ⟨_, _, _, _, hR6, _⟩ := hR5.head
    have hl := hR.2
    have hbind : bindS (4, oneB lb) = true := by rcases ho with ⟨_, rfl, _⟩ | ⟨_, rfl, _⟩ <;> decide
    refine Ev.succ (fun k => R02_reader_expr.eq_2 ..) ?_
    refine Ev.f rfl ((binds_ev hR1).bind ?_)
    rw [hbind]
    refine Ev.t rfl ?_
    have key : Ev (fun k => R02_reader_binder k (rd l p)) (Rw.mk o s [a, b], rd l (p + 1 + 1 + 1 + xs.length + 1 + ys.length)) := by
      refine Ev.succ (fun k => R02_reader_binder.eq_2 ..) ?_
      refine (is_ev hR1 (oneB 91)).bind ?_
      have e1 : (rd l p).at_ = (p : Int) := rfl
      rw [e1, wrapS (by omega)]
      have hst := stop_brk ho (ys ++ ts)
      have hw2 : IntKind.i64.wrap ((p + 1 + 1 : Nat) + 1 : Int) = ((p + 1 + 1 + 1 : Nat) : Int) := wrapS (by omega)
      rcases ho with ⟨rfl, rfl, rfl⟩ | ⟨rfl, rfl, rfl⟩
      · refine Ev.f (by decide) ((name_evR h hR2).bind ((is_ev hR3 colB).bind (Ev.t (by decide) ?_)))
        simp only
        rw [hw2]
        exact (iha.1 l _ _ hR4 hst).bind ((skip_ev hR5).bind ((ihb.1 l _ ts hR6 hs).bind (Ev.pure _)))
      · refine Ev.t (by decide) ((name_evR h hR2).bind ((is_ev hR3 colB).bind (Ev.t (by decide) ?_)))
        simp only
        rw [hw2]
        exact (iha.1 l _ _ hR4 hst).bind ((skip_ev hR5).bind ((ihb.1 l _ ts hR6 hs).bind (Ev.pure _)))
    refine key.bind ((Ev.pure _).eq ?_)
    simp only [List.length_cons, List.length_append]
    rw [show p + 1 + 1 + 1 + xs.length + 1 + ys.length = p + (xs.length + (ys.length + 1) + 1 + 1 + 1) by omega]
end Go.Proofs.YtpibdcjdamibdaaGreatDoor
end

/-! FrD -/
section
namespace Go.Proofs.YtpibdcjdamibdaaGreatDoor
open Go.Tr Go
set_option linter.unusedVariables false
set_option linter.unusedSimpArgs false
set_option maxRecDepth 10000

theorem named_pos {s : ByteArray} (h : namedF s = true) : 1 ≤ s.size := by
  have h1 := named_ref h
  unfold refNameF at h1
  have hsz : s.size = s.data.toList.length := Array.length_toList.symm
  cases hl : s.data.toList with
  | nil => rw [hl] at h1; cases h1
  | cons c l => rw [hsz, hl]; simp

theorem wrT_len (b : Bool) (A : ByteArray) (l : List TT) (h : l.length ≤ A.size) : (wrT b l).length ≤ (wr b A).size := by
  cases b with
  | false => exact h
  | true =>
    show (((4, lparB) : TT) :: (l ++ [(4, rparB)])).length ≤ ((lparB ++ A) ++ rparB).size
    have h1 : lparB.size = 1 := rfl
    have h2 : rparB.size = 1 := rfl
    simp only [List.length_cons, List.length_append, List.length_nil, ByteArray.size_append, h1, h2]
    omega

theorem tx_len {r : Rw} {T : ByteArray} {xs : List TT} (h : Tx r T xs) : xs.length ≤ T.size := by
  have s32 : (⟨#[32]⟩ : ByteArray).size = 1 := rfl
  have sar : (⟨#[32, 45, 62, 32]⟩ : ByteArray).size = 4 := rfl
  have s58 : colB.size = 1 := rfl
  have s0 : (⟨#[]⟩ : ByteArray).size = 0 := rfl
  have s1 : ∀ c, (oneB c).size = 1 := fun _ => rfl
  have s2 : ∀ c, (⟨#[c, 32]⟩ : ByteArray).size = 2 := fun _ => rfl
  induction h with
  | ty => decide
  | nm h => have := named_pos h; simpa using this
  | ho => decide
  | @ap a b A B xs ys ha hb' iha ihb =>
    have h1 := wrT_len (wideB a) A xs iha
    have h2 := wrT_len (wideB b || b.op == 4) B ys ihb
    simp only [List.length_append, ByteArray.size_append, s32]
    omega
  | @ar a b A B xs ys ha hb' iha ihb =>
    have h1 := wrT_len (wideB a) A xs iha
    simp only [List.length_append, List.length_cons, ByteArray.size_append, sar]
    omega
  | @b0 o l r s b B ys ho h hb' ihb =>
    have := named_pos h
    simp only [List.length_append, List.length_cons, ByteArray.size_append, s0, s1, s2]
    omega
  | @b1 o l r s a b A B xs ys ho h ha3 ha hb' iha ihb =>
    have := named_pos h
    simp only [List.length_append, List.length_cons, ByteArray.size_append, s0, s1, s2, s58]
    omega

theorem stop_end : stop [(7, ByteArray.empty)] := ⟨_, _, rfl, by decide, by decide, by decide, by decide⟩

/-- The tokens of a text. -/
theorem tx_toks {r : Rw} {T : ByteArray} {xs : List TT} (h : Tx r T xs) (hs : T.size ≤ 90000) : ∃ q l p0, Ev (fun k => R01_space_L1 k T 0) q ∧ Ev (fun k => R01_Tokens_L1 k T [] q) (l, p0, 0) ∧ Rs l 0 (xs ++ [(7, ByteArray.empty)]) := by
  have hG := tx_lex h [] [] trivial G_nil
  rw [List.append_nil, List.append_nil] at hG
  obtain ⟨q, h1, r1, h2, h3, more, h4, h5⟩ := hG T 0 [] (by omega) ⟨by simp, by simp⟩ (by simp)
  obtain ⟨l, p0, e⟩ := r1
  simp only at h3 h4
  subst h3
  rw [List.nil_append] at h4
  subst h4
  refine ⟨q, l, p0, h1, h2, ?_, ?_⟩
  · rw [List.drop_zero]; exact h5
  · have := tx_len h
    have h6 : (prs l).length = xs.length + 1 := by rw [h5]; simp
    unfold prs at h6
    rw [List.length_map] at h6
    omega

theorem prs_end {xs ys : List TT} {z : TT} (h : xs ++ [z] = ys ++ [z]) : xs = ys := List.append_cancel_right h

/-- Two raw expressions with one text are one. -/
theorem tx_inj {r r' : Rw} {T : ByteArray} {xs xs' : List TT} (h : Tx r T xs) (h' : Tx r' T xs') (hs : T.size ≤ 90000) : r = r' := by
  obtain ⟨q, l, p0, h1, h2, h3⟩ := tx_toks h hs
  obtain ⟨q', l', p0', h1', h2', h3'⟩ := tx_toks h' hs
  have eq := Ev.unique h1 h1'
  subst eq
  have el := Ev.unique h2 h2'
  have el1 : l = l' := congrArg Prod.fst el
  subst el1
  have ex : xs = xs' := prs_end (h3.1.symm.trans h3'.1)
  subst ex
  have a := (tx_read h).1 l 0 _ h3 stop_end
  have b := (tx_read h').1 l 0 _ h3' stop_end
  exact congrArg Prod.fst (Ev.unique a b)
end Go.Proofs.YtpibdcjdamibdaaGreatDoor
end

/-! FrE -/
section
namespace Go.Proofs.YtpibdcjdamibdaaGreatDoor
open Go.Tr Go
set_option linter.unusedVariables false
set_option linter.unusedSimpArgs false
set_option maxRecDepth 10000

/-- A name is free in a raw expression. -/
inductive FrI (x : ByteArray) : Rw → Prop
  | nm {as' : List Rw} : FrI x (.mk 2 x as')
  | dom {o : Int} {s : ByteArray} {a b : Rw} (ho : o = 5 ∨ o = 7) (h : FrI x a) : FrI x (.mk o s [a, b])
  | body {o : Int} {s : ByteArray} {a b : Rw} (ho : o = 5 ∨ o = 7) (hx : x ≠ s) (h : FrI x b) : FrI x (.mk o s [a, b])
  | sub {o : Int} {s : ByteArray} {as' : List Rw} {u : Rw} (h2 : o ≠ 2) (h5 : o ≠ 5) (h7 : o ≠ 7) (hu : u ∈ as') (h : FrI x u) : FrI x (.mk o s as')


mutual
theorem occ_level {hd : Int} (hh : hd ≠ 1) : ∀ (t : Tm) (k j : Int), occ hd t k = occ hd t j
  | .mk o h n us, k, j => by
    simp only [occ]
    rw [occ_levelL hh o us 0 k j]
    congr 1
    unfold occN
    rw [if_pos hh, if_pos hh]
theorem occ_levelL {hd : Int} (hh : hd ≠ 1) : ∀ (o : Int) (us : List Tm) (i : Nat) (k j : Int), occL hd o us i k = occL hd o us i j
  | o, [], i, k, j => rfl
  | o, u :: us, i, k, j => by
    simp only [occL]
    rw [occ_level hh u (k + under o i) (j + under o i), occ_levelL hh o us (i + 1) k j]
 end
mutual
theorem occ_up : ∀ (t : Tm) (k i : Int), i ∈ occ 1 t k → i ≠ 0 → i - 1 ∈ occ 1 t (k + 1)
  | .mk o h n us, k, i, hi, h0 => by
    simp only [occ, List.mem_append] at hi ⊢
    rcases hi with hi | hi
    · left
      unfold occN at hi ⊢
      by_cases h1 : o = 4 ∧ h = 1
      · rw [if_pos h1, if_neg (by omega)] at hi ⊢
        by_cases h2 : n ≥ k
        · rw [if_pos h2] at hi
          simp only [List.mem_singleton] at hi
          rw [if_pos (by omega)]
          simp only [List.mem_singleton]; omega
        · rw [if_neg h2] at hi; cases hi
      · rw [if_neg h1] at hi; cases hi
    · exact .inr (occ_upL o us 0 k i hi h0)
theorem occ_upL : ∀ (o : Int) (us : List Tm) (j : Nat) (k i : Int), i ∈ occL 1 o us j k → i ≠ 0 → i - 1 ∈ occL 1 o us j (k + 1)
  | o, [], j, k, i, hi, h0 => by cases hi
  | o, u :: us, j, k, i, hi, h0 => by
    simp only [occL, List.mem_append] at hi ⊢
    rcases hi with hi | hi
    · left
      have := occ_up u (k + under o j) i hi h0
      rw [show k + under o j + 1 = k + 1 + under o j by omega] at this
      exact this
    · exact .inr (occ_upL o us (j + 1) k i hi h0)
 end
theorem occL_mem {hd o : Int} {k x : Int} : ∀ {us : List Tm} {i j : Nat} {u : Tm}, us[j]? = some u → x ∈ occ hd u (k + under o ((i + j : Nat) : Int)) → x ∈ occL hd o us i k
  | [], i, j, u, hu, _ => by simp at hu
  | v :: us, i, 0, u, hu, hx => by
    simp at hu; subst hu
    simp only [occL, List.mem_append]
    exact .inl hx
  | v :: us, i, j + 1, u, hu, hx => by
    simp only [occL, List.mem_append]
    refine .inr (occL_mem (i := i + 1) (j := j) (by simpa using hu) ?_)
    rw [show i + 1 + j = i + (j + 1) by omega]; exact hx
theorem occ_arg {hd : Int} {t : Tm} {k x : Int} {j : Nat} {u : Tm} (hu : t.args[j]? = some u) (hx : x ∈ occ hd u (k + under t.op (j : Int))) : x ∈ occ hd t k := by
  cases t with
  | mk o h n us =>
    simp only [occ, List.mem_append]
    exact .inr (occL_mem (i := 0) hu (by rw [Nat.zero_add]; exact hx))

section
variable {sig : List Dc} {metas : List Mt} {names : List ByteArray} (K : Known sig metas names)
/-- A variable's name. -/
def VarN (sig : List Dc) (metas : List Mt) (names : List ByteArray) (l : Int) (x : ByteArray) : Prop := Ev (fun k => R07_Printer_variable k ⟨sig, metas, names⟩ l) x
def metaN (m : Int) (s : ByteArray) : ByteArray := if s = ByteArray.empty then (⟨#[77]⟩ : ByteArray) ++ itoaF m else s
/-- A name of a term, of whose binders so many are not looked at. -/
def Sc (sig : List Dc) (metas : List Mt) (names : List ByteArray) (x : ByteArray) (t : Tm) (n k : Int) : Prop :=
  (∃ i ∈ occ 1 t k, VarN sig metas names (n - 1 - i) x) ∨ (∃ c ∈ occ 2 t k, ∃ d, idx sig c = some d ∧ x = d.name) ∨ (∃ m ∈ occ 3 t k, ∃ q, idx metas m = some q ∧ x = metaN m q.name)

theorem Sc.arg {x : ByteArray} {t u : Tm} {n : Int} {j : Nat} (hu : t.args[j]? = some u) (h : Sc sig metas names x u n (under t.op (j : Int))) : Sc sig metas names x t n 0 := by
  rcases h with ⟨i, hi, h⟩ | ⟨i, hi, h⟩ | ⟨i, hi, h⟩
  · exact .inl ⟨i, occ_arg hu (by rw [Int.zero_add]; exact hi), h⟩
  · exact .inr (.inl ⟨i, occ_arg hu (by rw [Int.zero_add]; exact hi), h⟩)
  · exact .inr (.inr ⟨i, occ_arg hu (by rw [Int.zero_add]; exact hi), h⟩)
theorem Sc.out {x s : ByteArray} {t : Tm} {n : Int} (hv : VarN sig metas names n s) (hx : x ≠ s) (h : Sc sig metas names x t (n + 1) 0) : Sc sig metas names x t n 1 := by
  rcases h with ⟨i, hi, h⟩ | ⟨i, hi, h⟩ | ⟨i, hi, h⟩
  · by_cases h0 : i = 0
    · subst h0
      rw [show n + 1 - 1 - 0 = n by omega] at h
      exact absurd (Ev.unique h hv) hx
    · refine .inl ⟨i - 1, occ_up t 0 i hi h0, ?_⟩
      rw [show n - 1 - (i - 1) = n + 1 - 1 - i by omega]; exact h
  · exact .inr (.inl ⟨i, by rw [occ_level (by decide) t 1 0]; exact hi, h⟩)
  · exact .inr (.inr ⟨i, by rw [occ_level (by decide) t 1 0]; exact hi, h⟩)
include K
theorem head_nm {t : Tm} (hok : okAll t = true) (hop : t.op = 4) (v : Int) (h0 : 0 ≤ v) (h1 : v ≤ 90) (hs : nodeS sig.length metas.length t.op t.hd t.n v = true) :
    ∃ s, Ev (fun k => R07_Printer_head k ⟨sig, metas, names⟩ v t) s ∧ Sc sig metas names s t v 0 := by
  have hn := okAll_n hok
  have hm80 := K.few
  have hhd : t.hd = 1 ∨ t.hd = 2 ∨ t.hd = 3 := by
    cases t with
    | mk o h n us =>
      simp only [Tm.op, Tm.hd] at hop ⊢
      simp only [okAll, Bool.and_eq_true] at hok
      have h1 := hok.1
      subst hop
      simp [okNode] at h1
      omega
  have hocc : ∀ hd, t.hd = hd → (hd ≠ 1 → t.n ∈ occ hd t 0) ∧ (hd = 1 → t.n ∈ occ hd t 0) := by
    intro hd hh
    have e : occ hd t 0 = occN hd t.op t.hd t.n 0 ++ occL hd t.op t.args 0 0 := by cases t; rfl
    rw [e, hh, hop]
    unfold occN
    refine ⟨fun h => ?_, fun h => ?_⟩
    · simp [h]
    · subst h; simp; left; omega
  rcases hhd with hh | hh | hh
  · have hlt : t.n < v := by simpa [nodeS, hop, hh] using hs
    have hw : IntKind.i64.wrap (IntKind.i64.wrap (v - 1) - t.n) = v - 1 - t.n := by rw [wrap_i64 (n := v - 1) (by omega) (by omega), wrap_i64 (by omega) (by omega)]
    obtain ⟨r, r1, r2⟩ := name_ev sig metas names K.ok K.long K.first (v - 1 - t.n) (by omega) (by omega)
    refine ⟨r, ?_, .inl ⟨t.n, (hocc 1 hh).2 rfl, r2⟩⟩
    refine Ev.succ (fun k => R07_Printer_head.eq_2 ..) ?_
    refine Ev.t (beqI hh) ?_
    rw [hw]
    exact r2.bind (Ev.pure _)
  · have hlt : t.n < (sig.length : Int) := by simpa [nodeS, hop, hh] using hs
    obtain ⟨d, hd, _⟩ := idx_pre (sig := sig) (n := t.n) hn.1 hlt
    refine ⟨d.name, ?_, .inr (.inl ⟨t.n, (hocc 2 hh).1 (by decide), d, hd, rfl⟩)⟩
    refine Ev.succ (fun k => R07_Printer_head.eq_2 ..) ?_
    refine Ev.f (beqI' (by omega)) (Ev.t (beqI hh) (Ev.some hd (Ev.pure _)))
  · have hlt : t.n < (metas.length : Int) := by simpa [nodeS, hop, hh] using hs
    obtain ⟨i, hi⟩ : ∃ i : Nat, t.n = i := ⟨t.n.toNat, by omega⟩
    obtain ⟨m, hm, _, _⟩ := idxOf (l := metas) (i := i) (by omega)
    rw [← hi] at hm
    have s77 : (⟨#[77]⟩ : ByteArray).size = 1 := rfl
    have hz := itoa_size t.n (by omega) (by omega)
    refine ⟨metaN t.n m.name, ?_, .inr (.inr ⟨t.n, (hocc 3 hh).1 (by decide), m, hm, rfl⟩)⟩
    refine Ev.succ (fun k => R07_Printer_head.eq_2 ..) ?_
    refine Ev.f (beqI' (by omega)) (Ev.f (beqI' (by omega)) (Ev.some hm ?_))
    cases he : (m.name.toList == (⟨#[]⟩ : ByteArray).toList) with
    | false =>
      refine Ev.t rfl (Ev.some hm ((Ev.pure _).eq ?_))
      rw [metaN, if_neg]
      intro e
      rw [e] at he
      exact absurd he (by simp)
    | true =>
      have he' : m.name = ByteArray.empty := by
        have : m.name.toList = (⟨#[]⟩ : ByteArray).toList := by simpa using he
        rw [ByteArray.toList_eq, ByteArray.toList_eq] at this
        exact ba_ext this
      refine Ev.f rfl ?_
      refine Ev.need (by simp only [decide_eq_true_eq]; omega) (Ev.need (by simp only [s77, decide_eq_true_eq]; omega) ((Ev.pure _).eq ?_))
      rw [metaN, if_pos he']

end
end Go.Proofs.YtpibdcjdamibdaaGreatDoor
end

/-! FrF -/
section
namespace Go.Proofs.YtpibdcjdamibdaaGreatDoor
open Go.Tr Go
set_option linter.unusedVariables false
set_option linter.unusedSimpArgs false
set_option maxRecDepth 10000

theorem ba_eqb {x s : ByteArray} : (x.toList == s.toList) = true ↔ x = s := by
  constructor
  · intro h
    have : x.toList = s.toList := by simpa using h
    rw [ByteArray.toList_eq, ByteArray.toList_eq] at this
    exact ba_ext this
  · rintro rfl; simp
end Go.Proofs.YtpibdcjdamibdaaGreatDoor
end

/-! FrG -/
section
namespace Go.Proofs.YtpibdcjdamibdaaGreatDoor
open Go.Tr Go
set_option linter.unusedVariables false
set_option linter.unusedSimpArgs false
set_option maxRecDepth 10000

/-- What Raw answers: an error, or what a term's raw expression is. -/
theorem raw_cases {sig : List Dc} {metas : List Mt} {t : Tm} {n : Int} : ∃ r : Rw × Int, Ev (fun k => print_Raw k sig metas n t) r ∧
    (r.2 ≠ 0 ∨ r.2 = 0 ∧ sigOK sig = true ∧ metas.length ≤ 80 ∧ metasB metas = true ∧ isProper t = true ∧ 0 ≤ n ∧ n ≤ 30 ∧ nodesS sig.length metas.length t n = true ∧ fullB sig t = true ∧ rawOK r.1 = true ∧ Ev (fun k => R07_Printer_raw k ⟨sig, metas, []⟩ n t) r.1) := by
  by_cases hg : (sigOK sig && (decide (metas.length ≤ 80) && metasB metas) && isProper t) = true ∧ 0 ≤ n ∧ n ≤ 30
  · obtain ⟨hg, h0, h1⟩ := hg
    simp only [Bool.and_eq_true, decide_eq_true_eq] at hg
    obtain ⟨⟨hs, hm, hmB⟩, hp⟩ := hg
    obtain ⟨r, r1, r2, r3, r4⟩ := raw_both hs hm hmB hp n h0 h1
    refine ⟨r, r1, ?_⟩
    by_cases he : r.2 = 0
    · right
      have K : Known sig metas [] := ⟨hs, longest_le sig (sigOK_names hs), hm, ⟨by simp, fun i s h => by simp at h⟩⟩
      obtain ⟨hok, hh, hc⟩ := proper_small hp
      have hrs := refScoped_ev sig metas [] hp n h0
      cases hS : nodesS sig.length metas.length t n with
      | false =>
        rw [hS] at hrs
        have : Ev (fun k => R07_Printer_Raw k ⟨sig, metas, []⟩ n t) (noRw, 27) := by
          refine Ev.succ (fun k => R07_Printer_Raw.eq_2 ..) ?_
          exact hrs.bind (Ev.t rfl (Ev.pure _))
        have := Ev.unique r2 this
        rw [this] at he; cases he
      | true =>
        rw [hS] at hrs
        have hrf := refFull_ev sig metas [] t n hok (by omega) hS
        cases hF : fullB sig t with
        | false =>
          rw [hF] at hrf
          have : Ev (fun k => R07_Printer_Raw k ⟨sig, metas, []⟩ n t) (noRw, 23) := by
            refine Ev.succ (fun k => R07_Printer_Raw.eq_2 ..) ?_
            exact hrs.bind (Ev.f rfl (hrf.bind (Ev.t rfl (Ev.pure _))))
          have := Ev.unique r2 this
          rw [this] at he; cases he
        | true =>
          rw [hF] at hrf
          obtain ⟨q, _, q2⟩ := raw_ev K t.count t n (Nat.le_refl _) hp h0 (by omega) hS hF
          cases hr : rawOK q with
          | false =>
            have : Ev (fun k => R07_Printer_Raw k ⟨sig, metas, []⟩ n t) (noRw, 5) := by
              refine Ev.succ (fun k => R07_Printer_Raw.eq_2 ..) ?_
              refine hrs.bind (Ev.f rfl (hrf.bind (Ev.f rfl (q2.bind ?_))))
              rw [hr]
              exact Ev.t rfl (Ev.pure _)
            have := Ev.unique r2 this
            rw [this] at he; cases he
          | true =>
            have : Ev (fun k => R07_Printer_Raw k ⟨sig, metas, []⟩ n t) (q, 0) := by
              refine Ev.succ (fun k => R07_Printer_Raw.eq_2 ..) ?_
              refine hrs.bind (Ev.f rfl (hrf.bind (Ev.f rfl (q2.bind ?_))))
              rw [hr]
              exact Ev.f rfl (Ev.pure _)
            have := Ev.unique r2 this
            subst this
            exact ⟨rfl, hs, hm, hmB, hp, h0, h1, rfl, rfl, hr, q2⟩
    · exact .inl he
  · refine ⟨(noRw, 2), ?_, .inl (by decide)⟩
    refine Ev.succ (fun k => print_Raw.eq_2 ..) ?_
    refine (good_ev sig metas t).bind ?_
    refine Ev.t ?_ (Ev.pure _)
    cases hb : (sigOK sig && (decide (metas.length ≤ 80) && metasB metas) && isProper t) with
    | false => rfl
    | true =>
      rw [hb] at hg
      simp only [true_and] at hg
      simp
      omega

/-- What Text answers. -/
theorem text_cases {sig : List Dc} {metas : List Mt} {t : Tm} {n : Int} {r : Rw × Int} (hr : Ev (fun k => print_Raw k sig metas n t) r) (hok : r.2 = 0 → rawOK r.1 = true) :
    (r.2 ≠ 0 ∧ Ev (fun k => print_Text k sig metas n t) (⟨#[]⟩, r.2)) ∨ (r.2 = 0 ∧ ∃ T xs, Ev (fun k => print_Text k sig metas n t) (T, 0) ∧ Tx r.1 T xs ∧ T.size ≤ 8000) := by
  by_cases he : r.2 = 0
  · right
    refine ⟨he, ?_⟩
    have h1 := hok he
    obtain ⟨T, t1, t2⟩ := syntaxText_ev h1
    obtain ⟨h2, h3⟩ := rawOK_facts h1
    obtain ⟨T', xs, e1, e2, e3⟩ := text_tx r.1.sk.count r.1 h2 (Nat.le_refl _) (by omega)
    have := Ev.unique t2 e1
    subst this
    refine ⟨T, xs, ?_, e3, by omega⟩
    refine Ev.succ (fun k => print_Text.eq_2 ..) ?_
    exact hr.bind (Ev.f (bneI' he) (t1.bind (Ev.pure _)))
  · left
    refine ⟨he, ?_⟩
    refine Ev.succ (fun k => print_Text.eq_2 ..) ?_
    exact hr.bind (Ev.t (bneI he) (Ev.pure _))

end Go.Proofs.YtpibdcjdamibdaaGreatDoor
end

/-! FrI -/
section
namespace Go.Proofs.YtpibdcjdamibdaaGreatDoor
open Go.Tr Go
set_option linter.unusedVariables false
set_option linter.unusedSimpArgs false
set_option maxRecDepth 10000

theorem freshR (sig : List Dc) (metas : List Mt) (names : List ByteArray) (hs : sigOK sig = true) (hl : longest sig ≤ 16) : ∀ (q : Nat) (s : ByteArray), 17 - s.size ≤ q → s.size ≤ 20 → ∃ r, Ev (fun n => R07_Printer_variable_L1 n ⟨sig, metas, names⟩ s) r ∧ (∃ j, r.data.toList = s.data.toList ++ List.replicate j 39) ∧ fnd r sig 0 < 0
  | 0, s, hq, hz => by
    have hf := fnd_long s sig 0 (by omega)
    have hl1 := (sigOK_proper hs).1
    refine ⟨s, ?_, ⟨0, by simp⟩, by omega⟩
    refine Ev.succ (fun k => R07_Printer_variable_L1.eq_2 ..) ?_
    refine (refFind_ev sig s (by omega)).bind ?_
    rw [hf]
    exact Ev.f rfl (Ev.pure _)
  | q + 1, s, hq, hz => by
    have hl1 := (sigOK_proper hs).1
    have sq : (⟨#[39]⟩ : ByteArray).size = 1 := rfl
    by_cases hf : fnd s sig 0 < 0
    · refine ⟨s, ?_, ⟨0, by simp⟩, hf⟩
      refine Ev.succ (fun k => R07_Printer_variable_L1.eq_2 ..) ?_
      refine (refFind_ev sig s (by omega)).bind ?_
      exact Ev.f (by simp; omega) (Ev.pure _)
    · by_cases hsz : 17 ≤ s.size
      · exact absurd (by rw [fnd_long s sig 0 (by omega)]; decide) hf
      have hq' : 17 - (s ++ (⟨#[39]⟩ : ByteArray)).size ≤ q := by rw [ByteArray.size_append, sq]; omega
      obtain ⟨r, r2, ⟨j, r3⟩, r4⟩ := freshR sig metas names hs hl q (s ++ (⟨#[39]⟩ : ByteArray)) hq' (by rw [ByteArray.size_append, sq]; omega)
      refine ⟨r, ?_, ⟨j + 1, ?_⟩, r4⟩
      · refine Ev.succ (fun k => R07_Printer_variable_L1.eq_2 ..) ?_
        refine (refFind_ev sig s (by omega)).bind ?_
        refine Ev.t (by simp; omega) ?_
        exact Ev.need (by rw [sq]; simp only [decide_eq_true_eq]; omega) r2
      · rw [r3, app_toList, List.append_assoc]; rfl

theorem var_form {sig : List Dc} {metas : List Mt} {l : Int} {s : ByteArray} (hs : sigOK sig = true) (h0 : 0 ≤ l) (h1 : l ≤ 98) (h : VarN sig metas [] l s) :
    (∃ j, s.data.toList = 120 :: ((itoaF (l + 1)).data.toList ++ List.replicate j 39)) ∧ fnd s sig 0 < 0 := by
  have hw : IntKind.i64.wrap (l + 1) = l + 1 := wrap_i64 (by omega) (by omega)
  have hz := itoa_size (l + 1) (by omega) (by omega)
  have s120 : (⟨#[120]⟩ : ByteArray).size = 1 := rfl
  obtain ⟨r, r1, ⟨j, r2⟩, r3⟩ := freshR sig metas [] hs (longest_le sig (sigOK_names hs)) 17 ((⟨#[120]⟩ : ByteArray) ++ itoaF (l + 1)) (by omega) (by rw [ByteArray.size_append, s120]; omega)
  have : Ev (fun k => R07_Printer_variable k ⟨sig, metas, []⟩ l) r := by
    refine Ev.succ (fun k => R07_Printer_variable.eq_2 ..) ?_
    refine Ev.f (by simp; omega) ?_
    rw [hw]
    refine Ev.need (by simp only [decide_eq_true_eq]; omega) ?_
    exact Ev.need (by simp only [s120, decide_eq_true_eq]; omega) r1
  have := Ev.unique h this
  subst this
  refine ⟨⟨j, ?_⟩, r3⟩
  rw [r2, app_toList]; rfl

def decB (s : ByteArray) : Nat := s.data.toList.foldl (fun a c => 10 * a + (c.toNat - 48)) 0
theorem itoa_inj {a b : Int} (a0 : 0 ≤ a) (a1 : a ≤ 99) (b0 : 0 ≤ b) (b1 : b ≤ 99) (h : itoaF a = itoaF b) : a = b := by
  have key : ∀ k : Fin 100, decB (itoaF (k.val : Int)) = k.val := by decide +kernel
  have ha := key ⟨a.toNat, by omega⟩
  have hb := key ⟨b.toNat, by omega⟩
  simp only at ha hb
  rw [show ((a.toNat : Nat) : Int) = a by omega] at ha
  rw [show ((b.toNat : Nat) : Int) = b by omega] at hb
  rw [h] at ha
  omega
theorem itoa_no {a : Int} (a0 : 0 ≤ a) (a1 : a ≤ 99) : ∀ c ∈ (itoaF a).data.toList, c ≠ 39 := by
  have key : ∀ k : Fin 100, (itoaF (k.val : Int)).data.toList.all (fun c => c != 39) = true := by decide +kernel
  have ha := key ⟨a.toNat, by omega⟩
  simp only at ha
  rw [show ((a.toNat : Nat) : Int) = a by omega, List.all_eq_true] at ha
  intro c hc
  simpa using ha c hc
theorem cut39 {l l' : List UInt8} {j j' : Nat} (h : ∀ c ∈ l, c ≠ 39) (h' : ∀ c ∈ l', c ≠ 39) (e : l ++ List.replicate j 39 = l' ++ List.replicate j' 39) : l = l' := by
  induction l generalizing l' with
  | nil =>
    cases l' with
    | nil => rfl
    | cons c l' =>
      exfalso
      rw [List.nil_append, List.cons_append] at e
      cases j with
      | zero => cases e
      | succ j =>
        rw [List.replicate_succ] at e
        injection e with e1 e2
        exact h' c (by simp) e1.symm
  | cons c l ih =>
    cases l' with
    | nil =>
      exfalso
      rw [List.nil_append, List.cons_append] at e
      cases j' with
      | zero => cases e
      | succ j =>
        rw [List.replicate_succ] at e
        injection e with e1 e2
        exact h c (by simp) e1
    | cons c' l' =>
      rw [List.cons_append, List.cons_append] at e
      injection e with e1 e2
      rw [e1, ih (fun c hc => h c (List.mem_cons_of_mem _ hc)) (fun c hc => h' c (List.mem_cons_of_mem _ hc)) e2]

theorem var_inj {sig : List Dc} {metas : List Mt} {l l' : Int} {s : ByteArray} (hs : sigOK sig = true) (h0 : 0 ≤ l) (h1 : l ≤ 98) (h0' : 0 ≤ l') (h1' : l' ≤ 98) (h : VarN sig metas [] l s) (h' : VarN sig metas [] l' s) : l = l' := by
  obtain ⟨⟨j, e⟩, _⟩ := var_form hs h0 h1 h
  obtain ⟨⟨j', e'⟩, _⟩ := var_form hs h0' h1' h'
  rw [e] at e'
  injection e' with _ e2
  have e3 := cut39 (itoa_no (by omega) (by omega)) (itoa_no (by omega) (by omega)) e2
  have := itoa_inj (by omega) (by omega) (by omega) (by omega) (ba_ext e3)
  omega

theorem fnd_mem {d : Dc} : ∀ {l : List Dc} {i : Nat}, d ∈ l → 0 ≤ fnd d.name l i
  | [], i, h => by cases h
  | x :: l, i, h => by
    simp only [fnd]
    split
    · omega
    · rename_i hne
      rcases List.mem_cons.1 h with rfl | h
      · exact absurd (by simp) hne
      · exact fnd_mem h

theorem sigG_lt {d' : Dc} : ∀ {pre post : List Dc} {j : Nat}, sigG pre post = true → post[j]? = some d' → (∀ x ∈ pre, x.name ≠ d'.name) ∧ ∀ (i : Nat) (d : Dc), i < j → post[i]? = some d → d.name ≠ d'.name
  | pre, [], j, _, h => by simp at h
  | pre, x :: post, 0, hs, h => by
    simp only [sigG, Bool.and_eq_true] at hs
    simp at h; subst h
    refine ⟨fun y hy e => ?_, fun i d hi => by omega⟩
    have h1 := hs.1
    simp only [declOK, Bool.and_eq_true, Bool.not_eq_true'] at h1
    have h2 := h1.1.2
    rw [List.any_eq_false] at h2
    exact h2 y hy (by rw [e]; simp)
  | pre, x :: post, j + 1, hs, h => by
    simp only [sigG, Bool.and_eq_true] at hs
    obtain ⟨h1, h2⟩ := sigG_lt (j := j) hs.2 (by simpa using h)
    refine ⟨fun y hy => h1 y (List.mem_append_left _ hy), fun i d hi hd => ?_⟩
    cases i with
    | zero =>
      simp at hd; subst hd
      exact h1 x (by simp)
    | succ i => exact h2 i d (by omega) (by simpa using hd)

theorem idx_nat_of {α : Type} {l : List α} {a : Int} {x : α} (h : idx l a = some x) : ∃ i : Nat, a = i ∧ l[i]? = some x := by
  unfold idx at h
  by_cases h0 : 0 ≤ a
  · rw [decide_eq_true h0] at h
    exact ⟨a.toNat, by omega, h⟩
  · rw [decide_eq_false h0] at h; cases h
theorem const_inj {sig : List Dc} {a b : Int} {d d' : Dc} (hs : sigOK sig = true) (h : idx sig a = some d) (h' : idx sig b = some d') (e : d.name = d'.name) : a = b := by
  obtain ⟨i, rfl, hi⟩ := idx_nat_of h
  obtain ⟨j, rfl, hj⟩ := idx_nat_of h'
  have hg : sigG [] sig = true := by
    unfold sigOK at hs
    rw [Bool.and_eq_true] at hs
    exact hs.2
  rcases Nat.lt_trichotomy i j with hlt | hlt | hlt
  · exact absurd e ((sigG_lt hg hj).2 i d hlt hi)
  · rw [hlt]
  · exact absurd e.symm ((sigG_lt hg hi).2 j d' hlt hj)
theorem var_const {sig : List Dc} {metas : List Mt} {l a : Int} {d : Dc} (hs : sigOK sig = true) (h0 : 0 ≤ l) (h1 : l ≤ 98) (h : VarN sig metas [] l d.name) (h' : idx sig a = some d) : False := by
  obtain ⟨_, h2⟩ := var_form hs h0 h1 h
  obtain ⟨i, rfl, hi⟩ := idx_nat_of h'
  have := fnd_mem (i := 0) (List.mem_of_getElem? hi)
  omega
end Go.Proofs.YtpibdcjdamibdaaGreatDoor
end

/-! FrJ -/
section
namespace Go.Proofs.YtpibdcjdamibdaaGreatDoor
open Go.Tr Go
set_option linter.unusedVariables false
set_option linter.unusedSimpArgs false
set_option maxRecDepth 10000

/-- So many arguments are left out. -/
def outN (sig : List Dc) (o h n : Int) : Nat := if o = 4 ∧ h = 2 then (impAt sig n).toNat else 0
mutual
def erF (sig : List Dc) : Tm → Tm
  | .mk o h n us => .mk o h n ((erL sig us).drop (outN sig o h n))
def erL (sig : List Dc) : List Tm → List Tm
  | [] => []
  | u :: us => erF sig u :: erL sig us
 end
theorem erF_eq (sig : List Dc) (t : Tm) : erF sig t = .mk t.op t.hd t.n ((erL sig t.args).drop (outN sig t.op t.hd t.n)) := by cases t; rfl
theorem erL_map (sig : List Dc) : ∀ us : List Tm, erL sig us = us.map (erF sig)
  | [] => rfl
  | u :: us => by rw [erL, erL_map sig us]; rfl

theorem node_imp {sig : List Dc} (hs : sigOK sig = true) {t : Tm} {c m : Nat} {v : Int} (hc : c = sig.length) (hok : okAll t = true) (ho : t.op = 4) (hh : t.hd = 2) (h : nodeS c m t.op t.hd t.n v = true) : ∃ d, idx sig t.n = some d ∧ impAt sig t.n = d.implicit ∧ 0 ≤ d.implicit := by
  have hpos := okAll_n hok
  have hlt : t.n < (sig.length : Int) := by subst hc; simpa [nodeS, ho, hh] using h
  obtain ⟨d, hd', hdm⟩ := idx_pre (sig := sig) (n := t.n) hpos.1 hlt
  exact ⟨d, hd', by rw [impAt, hd'], (sigOK_imp hs d hdm).1⟩

theorem erased_ev {sig : List Dc} (hs : sigOK sig = true) (m : Nat) (t : Tm) : ∀ v : Int, okAll t = true → t.count ≤ 1000 → nodesS sig.length m t v = true → Ev (fun k => W07_erased k sig t) (erF sig t) := by
  induction t using Tm.ind with
  | h t ih =>
    intro v hok hc hS
    rw [nodesS_eq, Bool.and_eq_true] at hS
    have hcl := Tm.length_le_countL t.args
    have hce := Tm.count_eq t
    have sub : ∀ (j : Nat) (u : Tm), t.args[j]? = some u → Ev (fun k => W07_erased k sig u) (erF sig u) := by
      intro j u hu
      have hum := List.mem_of_getElem? hu
      have h1 := arg_count hum
      have h4 := nodesSL_get hS.2 hu
      exact ih u hum _ (okAll_arg hok hum) (by omega) h4
    have loop : ∀ (ts : List Tm) (i : Nat) (acc : List Tm), t.args.drop i = ts → i + ts.length = t.args.length → acc = ((erL sig t.args).take i).drop (outN sig t.op t.hd t.n) → Ev (fun k => W07_erased_L1 k t sig (Tm.mk t.op t.hd t.n acc) (i : Int)) (erF sig t) := by
      intro ts
      induction ts with
      | nil =>
        intro i acc hd hi ha
        simp only [List.length_nil, Nat.add_zero] at hi
        refine Ev.succ (fun k => W07_erased_L1.eq_2 ..) ?_
        refine Ev.f (by simp [Tm.encL_length, hi]) ((Ev.pure _).eq ?_)
        rw [erF_eq, ha, List.take_of_length_le (by rw [erL_map, List.length_map]; omega)]
      | cons u ts ihl =>
        intro i acc hd hi ha
        simp only [List.length_cons] at hi
        have hu := getDrop hd
        have hel : (erL sig t.args)[i]? = some (erF sig u) := by rw [erL_map, List.getElem?_map, hu]; rfl
        have hlen : (erL sig t.args).length = t.args.length := by rw [erL_map, List.length_map]
        have htake : (erL sig t.args).take (i + 1) = (erL sig t.args).take i ++ [erF sig u] := by
          rw [List.take_add_one, hel]; rfl
        have hacl : acc.length ≤ i := by rw [ha]; simp; omega
        have htl : ((erL sig t.args).take i).length = i := by rw [List.length_take]; omega
        refine Ev.succ (fun k => W07_erased_L1.eq_2 ..) ?_
        refine Ev.t (by simp [Tm.encL_length]; omega) ?_
        rw [wrapS (by omega)]
        have push : (outN sig t.op t.hd t.n ≤ i) → Ev (fun n => (idx t.args (i : Int)).bind (fun v35 => (W07_erased n sig v35).bind (fun v40 => cond (decide ((Tm.encL (acc ++ [v40])).length ≤ 1000000)) (W07_erased_L1 n t sig (Tm.mk t.op t.hd t.n (acc ++ [v40])) ((i + 1 : Nat) : Int)) none))) (erF sig t) := by
          intro hq
          refine Ev.some (idx_get hu) ((sub i u hu).bind (Ev.need (by simp [Tm.encL_length]; omega) ?_))
          refine ihl (i + 1) (acc ++ [erF sig u]) (dropDrop hd) (by omega) ?_
          rw [htake, ha, List.drop_append_of_le_length (by rw [htl]; exact hq)]
        refine Ev.ite (fun h => ?_) (fun h => ?_)
        · refine push ?_
          simp only [Bool.or_eq_true, bne_iff_ne, ne_eq] at h
          unfold outN
          rw [if_neg (by omega)]; omega
        · simp only [Bool.or_eq_false_iff, bne_eq_false_iff_eq] at h
          obtain ⟨d, hd', hi', hpos⟩ := node_imp hs rfl hok h.1 h.2 hS.1
          have ho : outN sig t.op t.hd t.n = d.implicit.toNat := by rw [outN, if_pos h, hi']
          refine Ev.some hd' ?_
          refine Ev.ite (fun hge => ?_) (fun hge => ?_)
          · refine push ?_
            rw [ho]
            simp only [decide_eq_true_eq] at hge
            omega
          · simp only [decide_eq_false_iff_not] at hge
            refine ihl (i + 1) acc (dropDrop hd) (by omega) ?_
            rw [ha, ho, List.drop_eq_nil_of_le (by rw [htl]; omega), List.drop_eq_nil_of_le (by rw [List.length_take]; omega)]
    refine Ev.succ (fun k => W07_erased.eq_2 ..) ?_
    exact loop t.args 0 [] rfl (by simp) (by simp)

theorem movedL_four (us : List Tm) (i : Nat) (b k : Int) : movedL 4 us i b k = us.map (fun u => movedF u b k) := by
  induction us generalizing i with
  | nil => rfl
  | cons u us ih =>
    have : under 4 (i : Int) = 0 := by rw [under]; simp
    rw [movedL, ih, this, Int.add_zero]; rfl

theorem map_inj_on {α β γ : Type} {f : α → β} {g : α → γ} : ∀ {us vs : List α}, (∀ u ∈ us, ∀ v ∈ vs, f u = f v → g u = g v) → us.map f = vs.map f → us.map g = vs.map g
  | [], [], _, _ => rfl
  | [], v :: vs, _, h => by simp at h
  | u :: us, [], _, h => by simp at h
  | u :: us, v :: vs, hk, h => by
    simp only [List.map_cons, List.cons.injEq] at h ⊢
    exact ⟨hk u (by simp) v (by simp) h.1, map_inj_on (fun a ha b hb => hk a (by simp [ha]) b (by simp [hb])) h.2⟩

theorem lowL_get {o : Int} {f g : Int} : ∀ {us : List Tm} {i j : Nat} {u : Tm}, lowL o us i f g = false → us[j]? = some u → lowF u (f + under o ((i + j : Nat) : Int)) (g + under o ((i + j : Nat) : Int)) = false
  | [], i, j, u, _, hu => by simp at hu
  | x :: us, i, 0, u, h, hu => by
    simp only [lowL, Bool.or_eq_false_iff] at h
    simp at hu; subst hu; exact h.1
  | x :: us, i, j + 1, u, h, hu => by
    simp only [lowL, Bool.or_eq_false_iff] at h
    have := lowL_get (j := j) h.2 (by simpa using hu)
    rw [show i + 1 + j = i + (j + 1) by omega] at this
    exact this

theorem tm_zero {t : Tm} (h : okAll t = true) (ho : t.op ≠ 4) : t.hd = 0 ∧ t.n = 0 := by
  cases t with
  | mk o hd n us =>
    simp only [okAll, Bool.and_eq_true] at h
    have h1 := h.1
    simp only [Tm.op] at ho
    simp only [Tm.hd, Tm.n]
    unfold okNode at h1
    split at h1
    · simp at h1; omega
    · split at h1
      · simp at h1; omega
      · split at h1
        · simp at h1; omega
        · simp [ho] at h1
theorem tm_leaf {t : Tm} (h : okAll t = true) (ho : t.op = 1) : t.args = [] := by
  cases t with
  | mk o hd n us =>
    simp only [okAll, Bool.and_eq_true] at h
    have h1 := h.1
    simp only [Tm.op] at ho
    subst ho
    simp [okNode] at h1
    exact h1.2

/-- What is moved alike is alike. -/
theorem er_unmoved (sig : List Dc) : ∀ (c : Nat) (t t' : Tm) (k : Int), t.count ≤ c → okAll t = true → okAll t' = true → 0 ≤ k → lowF t k k = false → lowF t' k k = false → erF sig (movedF t (-1) k) = erF sig (movedF t' (-1) k) → erF sig t = erF sig t'
  | 0, t, t', k, hc, _, _, _, _, _, _ => by have := Tm.count_pos t; omega
  | c + 1, t, t', k, hc, hok, hok', hk, hl, hl', h => by
    have hn := okAll_n hok
    have hn' := okAll_n hok'
    rw [movedF_eq, movedF_eq, erF, erF, Tm.mk.injEq] at h
    obtain ⟨e1, e2, e3, e4⟩ := h
    rw [lowF_eq, Bool.or_eq_false_iff] at hl hl'
    have cnt : ∀ u, u ∈ t.args → u.count ≤ c := by
      intro u hu
      have := arg_count hu
      omega
    have rcs : ∀ (j : Nat) (u u' : Tm), t.args[j]? = some u → t'.args[j]? = some u' → erF sig (movedF u (-1) (k + under t.op (j : Int))) = erF sig (movedF u' (-1) (k + under t.op (j : Int))) → erF sig u = erF sig u' := by
      intro j u u' hu hu' he
      have hum := List.mem_of_getElem? hu
      have hum' := List.mem_of_getElem? hu'
      have hul := under_le t.op (j : Int)
      have g1 := lowL_get hl.2 hu
      have g2 := lowL_get hl'.2 hu'
      rw [Nat.zero_add] at g1 g2
      rw [← e1] at g2
      exact er_unmoved sig c u u' _ (cnt u hum) (okAll_arg hok hum) (okAll_arg hok' hum') (by omega) g1 g2 he
    rw [erF_eq sig t, erF_eq sig t', ← e1, ← e2]
    rcases okAll_op hok with ho | ho | ho | ho
    · have z := tm_zero hok (by omega)
      have z' := tm_zero hok' (by omega)
      rw [z.2, z'.2, tm_leaf hok ho, tm_leaf hok' (by omega)]
    · have z := tm_zero hok (by omega)
      have z' := tm_zero hok' (by omega)
      obtain ⟨a, b, e, _⟩ := okAll_two hok ho
      obtain ⟨a', b', e', _⟩ := okAll_two hok' (by omega)
      have q0 : ∀ n, outN sig t.op t.hd n = 0 := by intro n; rw [outN, if_neg (by omega)]
      rw [← e1, ← e2, q0, q0, List.drop_zero, List.drop_zero, e, e'] at e4
      simp only [movedL, erL, List.cons.injEq, and_true] at e4
      have ha := rcs 0 a a' (by rw [e]; rfl) (by rw [e']; rfl) e4.1
      have hb := rcs 1 b b' (by rw [e]; rfl) (by rw [e']; rfl) e4.2
      rw [z.2, z'.2, q0, e, e']
      simp only [erL, ha, hb]
    · have z := tm_zero hok (by omega)
      have z' := tm_zero hok' (by omega)
      obtain ⟨a, e, _⟩ := okAll_one hok ho
      obtain ⟨a', e', _⟩ := okAll_one hok' (by omega)
      have q0 : ∀ n, outN sig t.op t.hd n = 0 := by intro n; rw [outN, if_neg (by omega)]
      rw [← e1, ← e2, q0, q0, List.drop_zero, List.drop_zero, e, e'] at e4
      simp only [movedL, erL, List.cons.injEq, and_true] at e4
      have ha := rcs 0 a a' (by rw [e]; rfl) (by rw [e']; rfl) e4
      rw [z.2, z'.2, q0, e, e']
      simp only [erL, ha]
    · have nn : t.n = t'.n := by
        by_cases h1 : t.hd = 1
        · have d1 : t.n ≠ k := by
            intro he
            have := hl.1
            rw [ho, h1, he] at this
            simp at this
          have d2 : t'.n ≠ k := by
            intro he
            have := hl'.1
            rw [← e1, ← e2, ho, h1, he] at this
            simp at this
          rw [← e1, ← e2] at e3
          by_cases g1 : t.n ≥ k
          · rw [if_pos ⟨⟨ho, h1⟩, g1⟩, wrap_i64 (by omega) (by omega)] at e3
            by_cases g2 : t'.n ≥ k
            · rw [if_pos ⟨⟨ho, h1⟩, g2⟩, wrap_i64 (by omega) (by omega)] at e3
              omega
            · rw [if_neg (fun h => g2 h.2)] at e3
              omega
          · rw [if_neg (fun h => g1 h.2)] at e3
            by_cases g2 : t'.n ≥ k
            · rw [if_pos ⟨⟨ho, h1⟩, g2⟩, wrap_i64 (by omega) (by omega)] at e3
              omega
            · rw [if_neg (fun h => g2 h.2)] at e3
              omega
        · rw [if_neg (fun h => h1 h.1.2), if_neg (fun h => h1 (by rw [e2]; exact h.1.2))] at e3
          exact e3
      have qq : ∀ (o h n n' : Int), (h = 1 ∨ n = n') → outN sig o h n = outN sig o h n' := by
        rintro o h n n' (e | e)
        · rw [outN, outN, if_neg (by omega), if_neg (by omega)]
        · rw [e]
      have hq1 : outN sig t.op t.hd (if (t.op = 4 ∧ t.hd = 1) ∧ t.n ≥ k then IntKind.i64.wrap (t.n + -1) else t.n) = outN sig t.op t.hd t.n := by
        refine qq _ _ _ _ ?_
        by_cases h1 : t.hd = 1
        · exact .inl h1
        · right; rw [if_neg (fun h => h1 h.1.2)]
      have hq2 : outN sig t'.op t'.hd (if (t'.op = 4 ∧ t'.hd = 1) ∧ t'.n ≥ k then IntKind.i64.wrap (t'.n + -1) else t'.n) = outN sig t'.op t'.hd t'.n := by
        refine qq _ _ _ _ ?_
        by_cases h1 : t'.hd = 1
        · exact .inl h1
        · right; rw [if_neg (fun h => h1 h.1.2)]
      rw [hq1, hq2, ← e1, ← e2, ← nn, ho, movedL_four, movedL_four, erL_map, erL_map, List.map_map, List.map_map, ← List.map_drop, ← List.map_drop] at e4
      rw [← nn, ho, erL_map, erL_map, ← List.map_drop, ← List.map_drop]
      have hu0 : ∀ j : Nat, under t.op (j : Int) = 0 := by intro j; rw [under]; simp [ho]
      congr 1
      refine map_inj_on (fun u hu v hv he => ?_) e4
      have hum := List.mem_of_mem_drop hu
      have hvm := List.mem_of_mem_drop hv
      obtain ⟨i, hi⟩ := List.mem_iff_getElem?.1 hum
      obtain ⟨j, hj⟩ := List.mem_iff_getElem?.1 hvm
      have g1 := lowL_get hl.2 hi
      have g2 := lowL_get hl'.2 hj
      rw [Nat.zero_add, hu0, Int.add_zero] at g1
      rw [Nat.zero_add, ← e1, hu0, Int.add_zero] at g2
      exact er_unmoved sig c u v k (cnt u hum) (okAll_arg hok hum) (okAll_arg hok' hvm) hk g1 g2 he
end Go.Proofs.YtpibdcjdamibdaaGreatDoor
end
