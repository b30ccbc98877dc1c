/- Merged texts: G1. Conditions stand in each rule. -/
import Derived.Test.YtogicnodmgdnbaaGreatSF
set_option linter.unusedSimpArgs false
set_option linter.unusedVariables false

namespace Go.Proofs.YtogicnodmgdnbaaGreat
section
open Go.Tr Go Go.Proofs.Tryz
set_option maxRecDepth 10000
structure Dc where
 name : ByteArray
 cls : Tm
 implicit : Int
abbrev Dc.enc (t : Dc) : D := .agg [.str t.name, .agg [.int .i64 t.cls.op, .int .i64 t.cls.hd, .int .i64 t.cls.n, .sl 4 (Tm.encL t.cls.args)], .int .i64 t.implicit]
abbrev Dc.encL (l : List Dc) : List D := l.map Dc.enc
theorem Dc.encL_eq (l : List Dc) : Dc.encL l = l.map Dc.enc := rfl
theorem Dc.enc_eq (t : Dc) : t.enc = .agg [.str t.name, .agg [.int .i64 t.cls.op, .int .i64 t.cls.hd, .int .i64 t.cls.n, .sl 4 (Tm.encL t.cls.args)], .int .i64 t.implicit] := rfl
theorem Dc.encL_length (l : List Dc) : (Dc.encL l).length = l.length := by simp
theorem Dc.encL_get {l : List Dc} {i : Nat} {t : Dc} (h : l[i]? = some t) : (Dc.encL l)[i]? = some (.agg [.str t.name, .agg [.int .i64 t.cls.op, .int .i64 t.cls.hd, .int .i64 t.cls.n, .sl 4 (Tm.encL t.cls.args)], .int .i64 t.implicit]) := by rw [Dc.encL_eq, List.getElem?_map, h]; rfl
structure Md where
 family : Int
 signs : (List Int)
abbrev Md.enc (t : Md) : D := .agg [.int .i64 t.family, .sl 1 (List.map (D.int .i64) t.signs)]
abbrev Md.encL (l : List Md) : List D := l.map Md.enc
theorem Md.encL_eq (l : List Md) : Md.encL l = l.map Md.enc := rfl
theorem Md.enc_eq (t : Md) : t.enc = .agg [.int .i64 t.family, .sl 1 (List.map (D.int .i64) t.signs)] := rfl
theorem Md.encL_length (l : List Md) : (Md.encL l).length = l.length := by simp
theorem Md.encL_get {l : List Md} {i : Nat} {t : Md} (h : l[i]? = some t) : (Md.encL l)[i]? = some (.agg [.int .i64 t.family, .sl 1 (List.map (D.int .i64) t.signs)]) := by rw [Md.encL_eq, List.getElem?_map, h]; rfl
structure Mt where
 name : ByteArray
 cls : Tm
 solved : Bool
 value : Tm
abbrev Mt.enc (t : Mt) : D := .agg [.str t.name, .agg [.int .i64 t.cls.op, .int .i64 t.cls.hd, .int .i64 t.cls.n, .sl 4 (Tm.encL t.cls.args)], .bool t.solved, .agg [.int .i64 t.value.op, .int .i64 t.value.hd, .int .i64 t.value.n, .sl 4 (Tm.encL t.value.args)]]
abbrev Mt.encL (l : List Mt) : List D := l.map Mt.enc
theorem Mt.encL_eq (l : List Mt) : Mt.encL l = l.map Mt.enc := rfl
theorem Mt.enc_eq (t : Mt) : t.enc = .agg [.str t.name, .agg [.int .i64 t.cls.op, .int .i64 t.cls.hd, .int .i64 t.cls.n, .sl 4 (Tm.encL t.cls.args)], .bool t.solved, .agg [.int .i64 t.value.op, .int .i64 t.value.hd, .int .i64 t.value.n, .sl 4 (Tm.encL t.value.args)]] := rfl
theorem Mt.encL_length (l : List Mt) : (Mt.encL l).length = l.length := by simp
theorem Mt.encL_get {l : List Mt} {i : Nat} {t : Mt} (h : l[i]? = some t) : (Mt.encL l)[i]? = some (.agg [.str t.name, .agg [.int .i64 t.cls.op, .int .i64 t.cls.hd, .int .i64 t.cls.n, .sl 4 (Tm.encL t.cls.args)], .bool t.solved, .agg [.int .i64 t.value.op, .int .i64 t.value.hd, .int .i64 t.value.n, .sl 4 (Tm.encL t.value.args)]]) := by rw [Mt.encL_eq, List.getElem?_map, h]; rfl
structure Kn where
 sig : (List Dc)
 metas : (List Mt)
abbrev Kn.enc (t : Kn) : D := .agg [.sl 6 (Dc.encL t.sig), .sl 10 (Mt.encL t.metas)]
abbrev Kn.encL (l : List Kn) : List D := l.map Kn.enc
theorem Kn.encL_eq (l : List Kn) : Kn.encL l = l.map Kn.enc := rfl
theorem Kn.enc_eq (t : Kn) : t.enc = .agg [.sl 6 (Dc.encL t.sig), .sl 10 (Mt.encL t.metas)] := rfl
theorem Kn.encL_length (l : List Kn) : (Kn.encL l).length = l.length := by simp
theorem Kn.encL_get {l : List Kn} {i : Nat} {t : Kn} (h : l[i]? = some t) : (Kn.encL l)[i]? = some (.agg [.sl 6 (Dc.encL t.sig), .sl 10 (Mt.encL t.metas)]) := by rw [Kn.encL_eq, List.getElem?_map, h]; rfl
structure Ct where
 n : Int
abbrev Ct.enc (t : Ct) : D := .agg [.int .i64 t.n]
abbrev Ct.encL (l : List Ct) : List D := l.map Ct.enc
theorem Ct.encL_eq (l : List Ct) : Ct.encL l = l.map Ct.enc := rfl
theorem Ct.enc_eq (t : Ct) : t.enc = .agg [.int .i64 t.n] := rfl
theorem Ct.encL_length (l : List Ct) : (Ct.encL l).length = l.length := by simp
theorem Ct.encL_get {l : List Ct} {i : Nat} {t : Ct} (h : l[i]? = some t) : (Ct.encL l)[i]? = some (.agg [.int .i64 t.n]) := by rw [Ct.encL_eq, List.getElem?_map, h]; rfl
structure Sta where
 opn : (List Bool)
 known : (List Bool)
abbrev Sta.enc (t : Sta) : D := .agg [.sl 1 (List.map D.bool t.opn), .sl 1 (List.map D.bool t.known)]
abbrev Sta.encL (l : List Sta) : List D := l.map Sta.enc
theorem Sta.encL_eq (l : List Sta) : Sta.encL l = l.map Sta.enc := rfl
theorem Sta.enc_eq (t : Sta) : t.enc = .agg [.sl 1 (List.map D.bool t.opn), .sl 1 (List.map D.bool t.known)] := rfl
theorem Sta.encL_length (l : List Sta) : (Sta.encL l).length = l.length := by simp
theorem Sta.encL_get {l : List Sta} {i : Nat} {t : Sta} (h : l[i]? = some t) : (Sta.encL l)[i]? = some (.agg [.sl 1 (List.map D.bool t.opn), .sl 1 (List.map D.bool t.known)]) := by rw [Sta.encL_eq, List.getElem?_map, h]; rfl
structure Wr where
 premise : Int
 arg : Int
abbrev Wr.enc (t : Wr) : D := .agg [.int .i64 t.premise, .int .i64 t.arg]
abbrev Wr.encL (l : List Wr) : List D := l.map Wr.enc
theorem Wr.encL_eq (l : List Wr) : Wr.encL l = l.map Wr.enc := rfl
theorem Wr.enc_eq (t : Wr) : t.enc = .agg [.int .i64 t.premise, .int .i64 t.arg] := rfl
theorem Wr.encL_length (l : List Wr) : (Wr.encL l).length = l.length := by simp
theorem Wr.encL_get {l : List Wr} {i : Nat} {t : Wr} (h : l[i]? = some t) : (Wr.encL l)[i]? = some (.agg [.int .i64 t.premise, .int .i64 t.arg]) := by rw [Wr.encL_eq, List.getElem?_map, h]; rfl
inductive Sm where
 | mk (args : (List Sm)) (con : Int)
def Sm.args : Sm → (List Sm) | .mk x _ => x
def Sm.con : Sm → Int | .mk _ x => x
mutual
def Sm.enc : Sm → D
 | .mk args con => .agg [.sl 2 (Sm.encL args), .int .i64 con]
def Sm.encL : List Sm → List D
 | [] => []
 | t :: ts => t.enc :: Sm.encL ts
 end
theorem Sm.encL_eq : ∀ (l : List Sm), Sm.encL l = l.map Sm.enc
 | [] => rfl
 | t :: ts => by simp only [Sm.encL, List.map_cons, Sm.encL_eq ts]
theorem Sm.enc_eq (t : Sm) : t.enc = .agg [.sl 2 (Sm.encL t.args), .int .i64 t.con] := by cases t; rfl
theorem Sm.encL_length (l : List Sm) : (Sm.encL l).length = l.length := by simp [Sm.encL_eq]
theorem Sm.encL_get {l : List Sm} {i : Nat} {t : Sm} (h : l[i]? = some t) : (Sm.encL l)[i]? = some (.agg [.sl 2 (Sm.encL t.args), .int .i64 t.con]) := by
 rw [Sm.encL_eq, List.getElem?_map, h]; cases t; rfl
theorem Od.enc_eq (t : Od) : t.enc = .agg [.int .i64 t.op, .int .i64 t.n, .sl 3 (Od.encL t.parts)] := by cases t; rfl
mutual
def R03_Split : Nat → Tm → Option ((List Tm) × Tm)
 | 0, _ => none
 | n + 1, v1 =>
  R03_Split_L1 n v1 ([])
def R03_Split_L1 : Nat → Tm → (List Tm) → Option ((List Tm) × Tm)
 | 0, _, _ => none
 | n + 1, v17, v19 =>
  cond (v17.op == 2) (
  (idx v17.args 0).bind (fun v22 =>
  cond (decide ((Tm.encL (v19 ++ [v22])).length ≤ 1000000)) (
  (idx v17.args 1).bind (fun v30 =>
  R03_Split_L1 n v30 (v19 ++ [v22]))) none)) (
  some (v19, v17))
 end
theorem qb2 (n : Nat) (v1 : Tm) (a2 : OA) (c2 : Nat) (r : (List Tm) × Tm) (hr : R03_Split n v1 = some r) : Pure Tryz.prog (.val (.fn (.func 86) [] [])) [(.agg [(iS v1.op), (iS v1.hd), (iS v1.n), (tU v1.args a2 c2)])] [(tQ v1.args a2 c2)] (fun r' out => ∃ (b1 : OA) (d1 : Nat), ∃ (b2 : OA) (d2 : Nat), r' = (.tup [(tU r.1 b1 d1), (.agg [(iS r.2.op), (iS r.2.hd), (iS r.2.n), (tU r.2.args b2 d2)])]) ∧ out = [(tQ r.1 b1 d1), (tQ r.2.args b2 d2)]) := by
 rcases n with _ | n
 ·exact qe hr
 rw [R03_Split.eq_2] at hr
 refine qb (N := 21) (m := 0) (dt := drawsOf [(5, .node [0, 1, 2] [(3, .leaf [])], [3], [])]) [] ttOK func86 rfl call86 ntmps86 rfl rfl rfl mixed (by kernel_rfl) ?_
 refine AtLoop.mk ⟨Nat × Tm × Option Addr × Nat × (List Tm) × Option Addr × Nat, fun x => [(1, (.loc 0 0)), (3, (.loc 1 0)), (4, (tU x.2.2.2.2.1 x.2.2.2.2.2.1 x.2.2.2.2.2.2))], fun x => ⟨[.cells 47 [(iS x.2.1.op), (iS x.2.1.hd), (iS x.2.1.n), (tU x.2.1.args x.2.2.1 x.2.2.2.1)], .cells 47 [(iS 0), (iS 0), (iS 0), (.v (.slice none 0 0))]], [⟨.slice x.2.2.2.2.2.1 ((Tm.encL x.2.2.2.2.1).length) x.2.2.2.2.2.2, 4, 47, (Tm.encL x.2.2.2.2.1)⟩], [(tQ x.2.1.args x.2.2.1 x.2.2.2.1), (tQ v1.args a2 c2)]⟩, fun x => R03_Split_L1 x.1 x.2.1 x.2.2.2.2.1 = some r, fun x => x.1, (n, v1, a2, c2, [], none, 0), hr, ⟨rfl, rfl, rfl, trivial⟩, (StLe.gen 2 [.nil 4 47] [.old 0, .old 0] rfl rfl rfl rfl rfl rfl rfl), fun x _ => ⟨rfl, rfl⟩, ?_⟩
 rintro ⟨n, v17, a18, c18, v19, a20, c20⟩ HH
 have hr : R03_Split_L1 n v17 v19 = some r := HH
 rcases n with _ | n
 ·exact qe hr
 rw [R03_Split_L1.eq_2] at hr
 refine AtIf.mk (fun h21 => ?_) (fun h21 => ?_)
 ·replace hr := qf h21 hr
  obtain ⟨v22, h23, hr⟩ := bind_some hr
  obtain ⟨h24, h25⟩ := qi h23
  refine qd ttOK 0 rfl rfl rfl rfl h24 (Tm.encL_get h25) ?_
  intro a26 c26 _ _
  refine ql (n := 1) ttOK 48 [.agg [.int .i64 v22.op, .int .i64 v22.hd, .int .i64 v22.n, .sl 4 (Tm.encL v22.args)]] (ds' := (Tm.encL ([v22]))) rfl (by kernel_rfl) ⟨⟨rfl, rfl, rfl, ⟨[(iS v22.op)], _, rfl, rfl, ⟨[(iS v22.hd)], _, rfl, rfl, ⟨[(iS v22.n)], _, rfl, rfl, ⟨[(tU v22.args a26 c26)], _, rfl, (.inl ⟨_, rfl, qr (j := 2) rfl⟩), rfl⟩⟩⟩⟩⟩, trivial⟩ rfl (by simp only [Tm.encL_eq, List.map_cons, List.map_nil, Tm.enc_eq] <;> rfl) (by decide) (by decide) ?_
  intro a27
  obtain ⟨h28, hr⟩ := qm hr
  refine qu (ds' := (Tm.encL (v19 ++ [v22]))) ttOK 48 0 3 rfl (by kernel_rfl) rfl rfl rfl rfl (by simp only [Tm.encL_eq, List.map_append]) h28 (by decide) ?_
  intro a29 c29
  obtain ⟨v30, h31, hr⟩ := bind_some hr
  obtain ⟨h32, h33⟩ := qi h31
  refine qd ttOK 0 rfl rfl rfl rfl h32 (Tm.encL_get h33) ?_
  intro a34 c34 _ _
  exact ⟨(n, v30, a34, c34, (v19 ++ [v22]), a29, c29), hr, Nat.lt_succ_self _, ⟨rfl, rfl, rfl, trivial⟩, (StLe.gen 2 [.old 0] [.old 4, .old 1] rfl rfl rfl rfl rfl rfl rfl)⟩
 ·replace hr := qg h21 hr
  replace hr := osi hr; subst hr
  exact qa [.froz 0, .old 0] [(tQ v19 a20 c20), (tQ v17.args a18 c18)] rfl rfl ⟨a20, c20, a18, c18, rfl, rfl⟩
def R05_Target : Nat → (List Dc) → Int → Option (Int)
 | 0, _, _ => none
 | n + 1, v1, v3 =>
  (idx v1 v3).bind (fun v4 =>
  (R03_Split n v4.cls).bind (fun v9 =>
  cond (v9.2.op == 1) (
  some (v3)) (
  some (v9.2.n))))
theorem qig (n : Nat) (v1 : (List Dc)) (v3 : Int) (a2 : OA) (c2 : Nat) (r : Int) (hr : R05_Target n v1 v3 = some r) : Pure Tryz.prog (.val (.fn (.func 51) [] [])) [(.v (.slice a2 ((Dc.encL v1).length) c2)), (iS v3)] [(.slice a2 ((Dc.encL v1).length) c2, .sl 6 (Dc.encL v1))] (fun r' out => r' = (iS r) ∧ out = []) := by
 rcases n with _ | n
 ·exact qe hr
 rw [R05_Target.eq_2] at hr
 refine qb (N := 22) (m := 0) (dt := fun _ => none) [] ttOK func51 rfl call51 ntmps51 rfl rfl rfl mixed (by kernel_rfl) ?_
 obtain ⟨v4, h5, hr⟩ := bind_some hr
 obtain ⟨h6, h7⟩ := qi h5
 refine qd ttOK 0 rfl rfl rfl rfl h6 (Dc.encL_get h7) ?_
 intro a8 c8 _ _
 obtain ⟨v9, h10, hr⟩ := bind_some hr
 refine (qb2 n v4.cls a8 c8 _ h10).atR [1] rfl rfl rfl ?_
 rintro _ _ ⟨a11, c11, a12, c12, rfl, rfl⟩
 refine AtIf.mk (fun h13 => ?_) (fun h13 => ?_)
 ·replace hr := qf h13 hr
  replace hr := osi hr; subst hr
  exact qa [] [] rfl rfl ⟨rfl, rfl⟩
 ·replace hr := qg h13 hr
  replace hr := osi hr; subst hr
  exact qa [] [] rfl rfl ⟨rfl, rfl⟩
def R05_Has : Nat → (List Dc) → Int → Option (Bool)
 | 0, _, _ => none
 | n + 1, v1, v3 =>
  some (((decide (v3 ≥ 0)) && (decide (v3 < ((Dc.encL v1).length : Int)))))
theorem qed (n : Nat) (v1 : (List Dc)) (v3 : Int) (a2 : OA) (c2 : Nat) (r : Bool) (hr : R05_Has n v1 v3 = some r) : Pure Tryz.prog (.val (.fn (.func 15) [] [])) [(.v (.slice a2 ((Dc.encL v1).length) c2)), (iS v3)] [(.slice a2 ((Dc.encL v1).length) c2, .sl 6 (Dc.encL v1))] (fun r' out => r' = (bS r) ∧ out = []) := by
 rcases n with _ | n
 ·exact qe hr
 rw [R05_Has.eq_2] at hr
 refine qb (N := 13) (m := 0) (dt := fun _ => none) [] ttOK func15 rfl call15 ntmps15 rfl rfl rfl mixed (by kernel_rfl) ?_
 replace hr := osi hr; subst hr
 exact qa [] [] rfl rfl ⟨rfl, rfl⟩
def R05_family : Nat → (List Dc) → Int → Option (Bool)
 | 0, _, _ => none
 | n + 1, v1, v3 =>
  (idx v1 v3).bind (fun v4 =>
  (R03_Split n v4.cls).bind (fun v9 =>
  some ((v9.2.op == 1))))
theorem qcy (n : Nat) (v1 : (List Dc)) (v3 : Int) (a2 : OA) (c2 : Nat) (r : Bool) (hr : R05_family n v1 v3 = some r) : Pure Tryz.prog (.val (.fn (.func 49) [] [])) [(.v (.slice a2 ((Dc.encL v1).length) c2)), (iS v3)] [(.slice a2 ((Dc.encL v1).length) c2, .sl 6 (Dc.encL v1))] (fun r' out => r' = (bS r) ∧ out = []) := by
 rcases n with _ | n
 ·exact qe hr
 rw [R05_family.eq_2] at hr
 refine qb (N := 19) (m := 0) (dt := fun _ => none) [] ttOK func49 rfl call49 ntmps49 rfl rfl rfl mixed (by kernel_rfl) ?_
 obtain ⟨v4, h5, hr⟩ := bind_some hr
 obtain ⟨h6, h7⟩ := qi h5
 refine qd ttOK 0 rfl rfl rfl rfl h6 (Dc.encL_get h7) ?_
 intro a8 c8 _ _
 obtain ⟨v9, h10, hr⟩ := bind_some hr
 refine (qb2 n v4.cls a8 c8 _ h10).atR [1] rfl rfl rfl ?_
 rintro _ _ ⟨a11, c11, a12, c12, rfl, rfl⟩
 replace hr := osi hr; subst hr
 exact qa [] [] rfl rfl ⟨rfl, rfl⟩
def R05_IsFamily : Nat → (List Dc) → Int → Option (Bool)
 | 0, _, _ => none
 | n + 1, v1, v3 =>
  (R05_family n v1 v3).bind (fun v4 =>
  some (v4))
theorem qbu (n : Nat) (v1 : (List Dc)) (v3 : Int) (a2 : OA) (c2 : Nat) (r : Bool) (hr : R05_IsFamily n v1 v3 = some r) : Pure Tryz.prog (.val (.fn (.func 16) [] [])) [(.v (.slice a2 ((Dc.encL v1).length) c2)), (iS v3)] [(.slice a2 ((Dc.encL v1).length) c2, .sl 6 (Dc.encL v1))] (fun r' out => r' = (bS r) ∧ out = []) := by
 rcases n with _ | n
 ·exact qe hr
 rw [R05_IsFamily.eq_2] at hr
 refine qb (N := 8) (m := 0) (dt := fun _ => none) [] ttOK func16 rfl call16 ntmps16 rfl rfl rfl mixed (by kernel_rfl) ?_
 obtain ⟨v4, h5, hr⟩ := bind_some hr
 refine (qcy n v1 v3 a2 c2 _ h5).atR [0] rfl rfl rfl ?_
 rintro _ _ ⟨rfl, rfl⟩
 replace hr := osi hr; subst hr
 exact qa [] [] rfl rfl ⟨rfl, rfl⟩
def R06_longer : Nat → (List Tm) → Tm → Option ((List Tm) × Int)
 | 0, _, _ => none
 | n + 1, v1, v3 =>
  cond (decide (((Tm.encL v1).length : Int) ≥ 30)) (
  some ([], 5)) (
  cond (decide ((Tm.encL v1).length ≤ 1000000)) (
  cond (decide ((Tm.encL (v1 ++ [v3])).length ≤ 1000000)) (
  some ((v1 ++ [v3]), 0)) none) none)
theorem qea (n : Nat) (v1 : (List Tm)) (v3 : Tm) (a2 : OA) (c2 : Nat) (a4 : OA) (c4 : Nat) (r : (List Tm) × Int) (hr : R06_longer n v1 v3 = some r) : Pure Tryz.prog (.val (.fn (.func 187) [] [])) [(tU v1 a2 c2), (.agg [(iS v3.op), (iS v3.hd), (iS v3.n), (tU v3.args a4 c4)])] [(tQ v1 a2 c2), (tQ v3.args a4 c4)] (fun r' out => ∃ (b1 : OA) (d1 : Nat), r' = (.tup [(tU r.1 b1 d1), (iS r.2)]) ∧ out = [(tQ r.1 b1 d1)]) := by
 rcases n with _ | n
 ·exact qe hr
 rw [R06_longer.eq_2] at hr
 refine qb (N := 18) (m := 0) (dt := fun _ => none) [] ttOK func187 rfl call187 ntmps187 rfl rfl rfl mixed (by kernel_rfl) ?_
 refine AtIf.mk (fun h5 => ?_) (fun h5 => ?_)
 ·replace hr := qf h5 hr
  replace hr := osi hr; subst hr
  exact qa [.nil 4] [(.slice none 0 0, .sl 4 [])] rfl rfl ⟨none, 0, rfl, rfl⟩
 ·replace hr := qg h5 hr
  obtain ⟨h6, hr⟩ := qm hr
  refine AtSem.le (S' := ⟨[.cells 47 [(iS v3.op), (iS v3.hd), (iS v3.n), (tU v3.args a4 c4)]], [⟨.slice none 0 0, 4, 47, []⟩], [(tQ v1 a2 c2), (tQ v3.args a4 c4)]⟩) (StLe.gen 1 [.nil 4 47] [.old 0, .old 1] rfl rfl rfl rfl rfl rfl rfl) rfl ?_
  refine qu (ds' := (Tm.encL v1)) ttOK 48 0 0 rfl (by kernel_rfl) rfl rfl rfl rfl (List.nil_append _).symm h6 (by decide) ?_
  intro a7 c7
  refine ql (n := 1) ttOK 48 [.agg [.int .i64 v3.op, .int .i64 v3.hd, .int .i64 v3.n, .sl 4 (Tm.encL v3.args)]] (ds' := (Tm.encL ([v3]))) rfl (by kernel_rfl) ⟨⟨rfl, rfl, rfl, ⟨[(iS v3.op)], _, rfl, rfl, ⟨[(iS v3.hd)], _, rfl, rfl, ⟨[(iS v3.n)], _, rfl, rfl, ⟨[(tU v3.args a4 c4)], _, rfl, (.inl ⟨_, rfl, qr (j := 1) rfl⟩), rfl⟩⟩⟩⟩⟩, trivial⟩ rfl (by simp only [Tm.encL_eq, List.map_cons, List.map_nil, Tm.enc_eq] <;> rfl) (by decide) (by decide) ?_
  intro a8
  obtain ⟨h9, hr⟩ := qm hr
  refine qu (ds' := (Tm.encL (v1 ++ [v3]))) ttOK 48 0 2 rfl (by kernel_rfl) rfl rfl rfl rfl (by simp only [Tm.encL_eq, List.map_append]) h9 (by decide) ?_
  intro a10 c10
  replace hr := osi hr; subst hr
  exact qa [.froz 0] [(tQ (v1 ++ [v3]) a10 c10)] rfl rfl ⟨a10, c10, rfl, rfl⟩
def R06_Kernel_class : Nat → Kn → (List Tm) → Tm → Option (Tm × Int)
 | 0, _, _, _ => none
 | n + 1, v1, v4, v6 =>
  cond (v6.hd == 1) (
  cond (decide (v6.n ≥ ((Tm.encL v4).length : Int))) (
  some ((Tm.mk 0 0 0 ([])), 27)) (
  (idx v4 (IntKind.i64.wrap ((IntKind.i64.wrap (((Tm.encL v4).length : Int) - 1)) - v6.n))).bind (fun v10 =>
  some (((shiftF v10 (IntKind.i64.wrap (v6.n + 1)) 0).1), (shiftF v10 (IntKind.i64.wrap (v6.n + 1)) 0).2)))) (
  cond (v6.hd == 2) (
  (R05_Has n v1.sig v6.n).bind (fun v20 =>
  cond (!v20) (
  some ((Tm.mk 0 0 0 ([])), 27)) (
  (R05_IsFamily n v1.sig v6.n).bind (fun v23 =>
  cond v23 (
  some ((Tm.mk 0 0 0 ([])), 22)) (
  (idx v1.sig v6.n).bind (fun v26 =>
  some (v26.cls, 0))))))) (
  cond (decide (v6.n ≥ ((Mt.encL v1.metas).length : Int))) (
  some ((Tm.mk 0 0 0 ([])), 27)) (
  (idx v1.metas v6.n).bind (fun v32 =>
  some (v32.cls, 0)))))
theorem qeh (n : Nat) (v1 : Kn) (v4 : (List Tm)) (v6 : Tm) (a2 : OA) (c2 : Nat) (a3 : OA) (c3 : Nat) (a5 : OA) (c5 : Nat) (a7 : OA) (c7 : Nat) (r : Tm × Int) (hr : R06_Kernel_class n v1 v4 v6 = some r) : Pure Tryz.prog (.val (.fn (.func 196) [] [])) [(.agg [(.v (.slice a2 ((Dc.encL v1.sig).length) c2)), (.v (.slice a3 ((Mt.encL v1.metas).length) c3))]), (tU v4 a5 c5), (.agg [(iS v6.op), (iS v6.hd), (iS v6.n), (tU v6.args a7 c7)])] [(.slice a2 ((Dc.encL v1.sig).length) c2, .sl 6 (Dc.encL v1.sig)), (.slice a3 ((Mt.encL v1.metas).length) c3, .sl 10 (Mt.encL v1.metas)), (tQ v4 a5 c5), (tQ v6.args a7 c7)] (fun r' out => ∃ (b1 : OA) (d1 : Nat), r' = (.tup [(.agg [(iS r.1.op), (iS r.1.hd), (iS r.1.n), (tU r.1.args b1 d1)]), (iS r.2)]) ∧ out = [(tQ r.1.args b1 d1)]) := by
 rcases n with _ | n
 ·exact qe hr
 rw [R06_Kernel_class.eq_2] at hr
 refine qb (N := 74) (m := 0) (dt := drawsOf [(5, .node [0, 1, 2, 3, 4, 5, 6, 7, 8, 9, 10, 11] [(12, .node [13, 14, 15] [(16, .node [] [(17, .leaf [18])])]), (16, .node [] [(12, .node [13, 14, 15] [(17, .leaf [18])])])], [12], [4])]) [] ttOK func196 rfl call196 ntmps196 rfl rfl rfl mixed (by kernel_rfl) ?_
 refine AtIf.mk (fun h8 => ?_) (fun h8 => ?_)
 ·replace hr := qf h8 hr
  refine AtIf.mk (fun h9 => ?_) (fun h9 => ?_)
  ·replace hr := qf h9 hr
   replace hr := osi hr; subst hr
   exact qa [.nil 4] [(.slice none 0 0, .sl 4 [])] rfl rfl ⟨none, 0, rfl, rfl⟩
  ·replace hr := qg h9 hr
   obtain ⟨v10, h11, hr⟩ := bind_some hr
   obtain ⟨h12, h13⟩ := qi h11
   refine qd ttOK 2 rfl rfl rfl rfl h12 (Tm.encL_get h13) ?_
   intro a16 c16 _ _
   refine ⟨?_, ?_⟩
   ·
    refine (qk6 v10 (IntKind.i64.wrap (v6.n + 1)) 0 a16 c16).atR [4] rfl rfl rfl ?_
    rintro _ _ ⟨a17, c17, rfl, rfl⟩
    refine ⟨OwnKeptBut.append, ?_⟩
    refine ⟨fun _ _ h => h, ?_⟩
    replace hr := osi hr; subst hr
    exact qa [.old 5] [(.slice a17 ((Tm.encL (((shiftF v10 (IntKind.i64.wrap (v6.n + 1)) 0).1).args)).length) c17, .sl 4 (Tm.encL (((shiftF v10 (IntKind.i64.wrap (v6.n + 1)) 0).1).args)))] rfl rfl ⟨a17, c17, rfl, rfl⟩
   ·
    refine ⟨OwnKeptBut.append, ?_⟩
    refine (qk6 v10 (IntKind.i64.wrap (v6.n + 1)) 0 a16 c16).atR [4] rfl rfl rfl ?_
    rintro _ _ ⟨a18, c18, rfl, rfl⟩
    refine ⟨fun _ _ h => h, ?_⟩
    replace hr := osi hr; subst hr
    exact qa [.old 5] [(.slice a18 ((Tm.encL (((shiftF v10 (IntKind.i64.wrap (v6.n + 1)) 0).1).args)).length) c18, .sl 4 (Tm.encL (((shiftF v10 (IntKind.i64.wrap (v6.n + 1)) 0).1).args)))] rfl rfl ⟨a18, c18, rfl, rfl⟩
 ·replace hr := qg h8 hr
  refine AtIf.mk (fun h19 => ?_) (fun h19 => ?_)
  ·replace hr := qf h19 hr
   obtain ⟨v20, h21, hr⟩ := bind_some hr
   refine (qed n v1.sig v6.n a2 c2 _ h21).atR [0] rfl rfl rfl ?_
   rintro _ _ ⟨rfl, rfl⟩
   refine AtIf.mk (fun h22 => ?_) (fun h22 => ?_)
   ·replace hr := qf h22 hr
    replace hr := osi hr; subst hr
    exact qa [.nil 4] [(.slice none 0 0, .sl 4 [])] rfl rfl ⟨none, 0, rfl, rfl⟩
   ·replace hr := qg h22 hr
    obtain ⟨v23, h24, hr⟩ := bind_some hr
    refine (qbu n v1.sig v6.n a2 c2 _ h24).atR [0] rfl rfl rfl ?_
    rintro _ _ ⟨rfl, rfl⟩
    refine AtIf.mk (fun h25 => ?_) (fun h25 => ?_)
    ·replace hr := qf h25 hr
     replace hr := osi hr; subst hr
     exact qa [.nil 4] [(.slice none 0 0, .sl 4 [])] rfl rfl ⟨none, 0, rfl, rfl⟩
    ·replace hr := qg h25 hr
     obtain ⟨v26, h27, hr⟩ := bind_some hr
     obtain ⟨h28, h29⟩ := qi h27
     refine qd ttOK 0 rfl rfl rfl rfl h28 (Dc.encL_get h29) ?_
     intro a30 c30 _ _
     replace hr := osi hr; subst hr
     exact qa [.old 4] [(tQ v26.cls.args a30 c30)] rfl rfl ⟨a30, c30, rfl, rfl⟩
  ·replace hr := qg h19 hr
   refine AtIf.mk (fun h31 => ?_) (fun h31 => ?_)
   ·replace hr := qf h31 hr
    replace hr := osi hr; subst hr
    exact qa [.nil 4] [(.slice none 0 0, .sl 4 [])] rfl rfl ⟨none, 0, rfl, rfl⟩
   ·replace hr := qg h31 hr
    obtain ⟨v32, h33, hr⟩ := bind_some hr
    obtain ⟨h34, h35⟩ := qi h33
    refine qd ttOK 1 rfl rfl rfl rfl h34 (Mt.encL_get h35) ?_
    intro a36 c36 _ _ a37 c37 _ _
    replace hr := osi hr; subst hr
    exact qa [.old 4] [(tQ v32.cls.args a36 c36)] rfl rfl ⟨a36, c36, rfl, rfl⟩
mutual
def R04_list : Nat → (List Tm) → Option (Bool)
 | 0, _ => none
 | n + 1, v1 =>
  R04_list_L1 n v1 0
def R04_list_L1 : Nat → (List Tm) → Int → Option (Bool)
 | 0, _, _ => none
 | n + 1, v1, v10 =>
  cond ((decide (v10 < ((Tm.encL v1).length : Int))) && (decide (((Tm.encL v1).length : Int) ≤ 600))) (
  (idx v1 v10).bind (fun v12 =>
  cond (!(refProper v12)) (
  some (false)) (
  R04_list_L1 n v1 (IntKind.i64.wrap (v10 + 1))))) (
  some ((decide (((Tm.encL v1).length : Int) ≤ 600))))
 end
theorem ql3 (n : Nat) (v1 : (List Tm)) (a2 : OA) (c2 : Nat) (r : Bool) (hr : R04_list n v1 = some r) : Pure Tryz.prog (.val (.fn (.func 194) [] [])) [(tU v1 a2 c2)] [(tQ v1 a2 c2)] (fun r' out => r' = (bS r) ∧ out = []) := by
 rcases n with _ | n
 ·exact qe hr
 rw [R04_list.eq_2] at hr
 refine qb (N := 24) (m := 0) (dt := fun _ => none) [] ttOK func194 rfl call194 ntmps194 rfl rfl rfl mixed (by kernel_rfl) ?_
 refine AtLoop.mk ⟨Nat × Int, fun x => [(0, (tU v1 a2 c2)), (3, (iS x.2))], fun x => ⟨[], [], [(tQ v1 a2 c2)]⟩, fun x => R04_list_L1 x.1 v1 x.2 = some r, fun x => x.1, (n, 0), hr, ⟨rfl, rfl, trivial⟩, (StLe.gen 0 [] [.old 0] rfl rfl rfl rfl rfl rfl rfl), fun x _ => ⟨rfl, rfl⟩, ?_⟩
 rintro ⟨n, v10⟩ HH
 have hr : R04_list_L1 n v1 v10 = some r := HH
 rcases n with _ | n
 ·exact qe hr
 rw [R04_list_L1.eq_2] at hr
 refine AtIf.mk (fun h11 => ?_) (fun h11 => ?_)
 ·replace hr := qf h11 hr
  obtain ⟨v12, h13, hr⟩ := bind_some hr
  obtain ⟨h14, h15⟩ := qi h13
  refine qd ttOK 0 rfl rfl rfl rfl h14 (Tm.encL_get h15) ?_
  intro a16 c16 _ _
  refine (qa2 v12 a16 c16).atR [1] rfl rfl rfl ?_
  rintro _ _ ⟨rfl, rfl⟩
  refine AtIf.mk (fun h17 => ?_) (fun h17 => ?_)
  ·replace hr := qf h17 hr
   replace hr := osi hr; subst hr
   exact qa [] [] rfl rfl ⟨rfl, rfl⟩
  ·replace hr := qg h17 hr
   exact ⟨(n, (IntKind.i64.wrap (v10 + 1))), hr, Nat.lt_succ_self _, ⟨rfl, rfl, trivial⟩, (StLe.gen 0 [] [.old 0] rfl rfl rfl rfl rfl rfl rfl)⟩
 ·replace hr := qg h11 hr
  replace hr := osi hr; subst hr
  exact qa [] [] rfl rfl ⟨rfl, rfl⟩
def R03_Simple : Nat → Tm → Option (Sm × Bool)
 | 0, _ => none
 | n + 1, v1 =>
  cond ((v1.op == 4) && (v1.hd == 2)) (
  some ((Sm.mk ([]) v1.n), true)) (
  cond (v1.op == 2) (
  (idx v1.args 0).bind (fun v5 =>
  (R03_Simple n v5).bind (fun v10 =>
  (idx v1.args 1).bind (fun v13 =>
  (R03_Simple n v13).bind (fun v18 =>
  cond ((!v10.2) || (!v18.2)) (
  some ((Sm.mk ([]) 0), false)) (
  cond (decide ((Sm.encL ([v10.1] ++ v18.1.args)).length ≤ 1000000)) (
  some ((Sm.mk ([v10.1] ++ v18.1.args) v18.1.con), true)) none)))))) (
  some ((Sm.mk ([]) 0), false)))
theorem qhf : ∀ (N : Nat), (∀ (n : Nat), n ≤ N → ∀ (v1 : Tm) (a2 : OA) (c2 : Nat) (r : Sm × Bool), R03_Simple n v1 = some r → Pure Tryz.prog (.val (.fn (.func 197) [] [])) [(.agg [(iS v1.op), (iS v1.hd), (iS v1.n), (tU v1.args a2 c2)])] [(tQ v1.args a2 c2)] (fun r' out => ∃ (b1 : OA) (d1 : Nat), r' = (.tup [(.agg [(.v (.slice b1 ((Sm.encL r.1.args).length) d1)), (iS r.1.con)]), (bS r.2)]) ∧ out = [(.slice b1 ((Sm.encL r.1.args).length) d1, .sl 2 (Sm.encL r.1.args))])) := by
 intro N
 induction N with
 | zero =>
  intro n hn v1 a2 c2 r hr; obtain rfl : n = 0 := (by omega); exact qe hr
 | succ N ih =>
  intro n hn v1 a2 c2 r hr
  rcases n with _ | n
  ·exact qe hr
  replace hn : n ≤ N := by omega
  rw [R03_Simple.eq_2] at hr
  refine qb (N := 59) (m := 0) (dt := fun _ => none) [] ttOK func197 rfl call197 ntmps197 rfl rfl rfl mixed (by kernel_rfl) ?_
  refine AtIf.mk (fun h3 => ?_) (fun h3 => ?_)
  ·replace hr := qf h3 hr
   replace hr := osi hr; subst hr
   exact qa [.nil 2] [(.slice none 0 0, .sl 2 [])] rfl rfl ⟨none, 0, rfl, rfl⟩
  ·replace hr := qg h3 hr
   refine AtIf.mk (fun h4 => ?_) (fun h4 => ?_)
   ·replace hr := qf h4 hr
    obtain ⟨v5, h6, hr⟩ := bind_some hr
    obtain ⟨h7, h8⟩ := qi h6
    refine qd ttOK 0 rfl rfl rfl rfl h7 (Tm.encL_get h8) ?_
    intro a9 c9 _ _
    obtain ⟨v10, h11, hr⟩ := bind_some hr
    refine (ih n (by omega) v5 a9 c9 _ h11).atR [1] rfl rfl rfl ?_
    rintro _ _ ⟨a12, c12, rfl, rfl⟩
    obtain ⟨v13, h14, hr⟩ := bind_some hr
    obtain ⟨h15, h16⟩ := qi h14
    refine qd ttOK 0 rfl rfl rfl rfl h15 (Tm.encL_get h16) ?_
    intro a17 c17 _ _
    obtain ⟨v18, h19, hr⟩ := bind_some hr
    refine (ih n (by omega) v13 a17 c17 _ h19).atR [3] rfl rfl rfl ?_
    rintro _ _ ⟨a20, c20, rfl, rfl⟩
    refine AtIf.mk (fun h21 => ?_) (fun h21 => ?_)
    ·replace hr := qf h21 hr
     replace hr := osi hr; subst hr
     exact qa [.nil 2] [(.slice none 0 0, .sl 2 [])] rfl rfl ⟨none, 0, rfl, rfl⟩
    ·replace hr := qg h21 hr
     refine qnz (n := 1) ttOK 32 [.agg [.sl 2 (Sm.encL v10.1.args), .int .i64 v10.1.con]] (ds' := (Sm.encL ([v10.1]))) rfl (by kernel_rfl) ⟨⟨rfl, rfl, rfl, ⟨[(.v (.slice a12 ((Sm.encL v10.1.args).length) c12))], _, rfl, (.inl ⟨_, rfl, qr (j := 2) rfl⟩), ⟨[(iS v10.1.con)], _, rfl, rfl, rfl⟩⟩⟩, trivial⟩ rfl (by simp only [Sm.encL_eq, List.map_cons, List.map_nil, Sm.enc_eq] <;> rfl) (by decide) (by decide) ?_
     intro a22
     obtain ⟨h23, hr⟩ := qm hr
     refine qu (ds' := (Sm.encL ([v10.1] ++ v18.1.args))) ttOK 32 0 4 rfl (by kernel_rfl) rfl rfl rfl rfl (by simp only [Sm.encL_eq, List.map_append]) h23 (by decide) ?_
     intro a24 c24
     replace hr := osi hr; subst hr
     exact qa [.froz 0] [(.slice a24 ((Sm.encL ([v10.1] ++ v18.1.args)).length) c24, .sl 2 (Sm.encL ([v10.1] ++ v18.1.args)))] rfl rfl ⟨a24, c24, rfl, rfl⟩
   ·replace hr := qg h4 hr
    replace hr := osi hr; subst hr
    exact qa [.nil 2] [(.slice none 0 0, .sl 2 [])] rfl rfl ⟨none, 0, rfl, rfl⟩
theorem qiq (n : Nat) (v1 : Tm) (a2 : OA) (c2 : Nat) (r : Sm × Bool) (hr : R03_Simple n v1 = some r) : Pure Tryz.prog (.val (.fn (.func 197) [] [])) [(.agg [(iS v1.op), (iS v1.hd), (iS v1.n), (tU v1.args a2 c2)])] [(tQ v1.args a2 c2)] (fun r' out => ∃ (b1 : OA) (d1 : Nat), r' = (.tup [(.agg [(.v (.slice b1 ((Sm.encL r.1.args).length) d1)), (iS r.1.con)]), (bS r.2)]) ∧ out = [(.slice b1 ((Sm.encL r.1.args).length) d1, .sl 2 (Sm.encL r.1.args))]) := (qhf n) n (Nat.le_refl _) v1 a2 c2 r hr
mutual
def R04_constants : Nat → Sm → Int → Option (Int)
 | 0, _, _ => none
 | n + 1, v1, v3 =>
  cond ((decide (v1.con < 0)) || (decide (v1.con > 9999))) (
  some ((-1))) (
  R04_constants_L1 n v1 v3 1 0)
def R04_constants_L1 : Nat → Sm → Int → Int → Int → Option (Int)
 | 0, _, _, _, _ => none
 | n + 1, v1, v3, v14, v15 =>
  cond ((decide (v15 < ((Sm.encL v1.args).length : Int))) && (decide (v14 ≤ v3))) (
  (idx v1.args v15).bind (fun v17 =>
  (R04_constants n v17 (IntKind.i64.wrap (v3 - v14))).bind (fun v22 =>
  cond (decide (v22 < 0)) (
  some ((-1))) (
  R04_constants_L1 n v1 v3 (IntKind.i64.wrap (v14 + v22)) (IntKind.i64.wrap (v15 + 1)))))) (
  some ((if (IntKind.i64.wrap (v3 + 1)) < v14 then (IntKind.i64.wrap (v3 + 1)) else v14)))
 end
theorem qe8 : ∀ (N : Nat), (∀ (n : Nat), n ≤ N → ∀ (v1 : Sm) (v3 : Int) (a2 : OA) (c2 : Nat) (r : Int), R04_constants n v1 v3 = some r → Pure Tryz.prog (.val (.fn (.func 201) [] [])) [(.agg [(.v (.slice a2 ((Sm.encL v1.args).length) c2)), (iS v1.con)]), (iS v3)] [(.slice a2 ((Sm.encL v1.args).length) c2, .sl 2 (Sm.encL v1.args))] (fun r' out => r' = (iS r) ∧ out = [])) := by
 intro N
 induction N with
 | zero =>
  intro n hn v1 v3 a2 c2 r hr; obtain rfl : n = 0 := (by omega); exact qe hr
 | succ N ih =>
  intro n hn v1 v3 a2 c2 r hr
  rcases n with _ | n
  ·exact qe hr
  replace hn : n ≤ N := by omega
  rw [R04_constants.eq_2] at hr
  refine qb (N := 46) (m := 0) (dt := fun _ => none) [] ttOK func201 rfl call201 ntmps201 rfl rfl rfl mixed (by kernel_rfl) ?_
  refine AtIf.mk (fun h4 => ?_) (fun h4 => ?_)
  ·replace hr := qf h4 hr
   replace hr := osi hr; subst hr
   exact qa [] [] rfl rfl ⟨rfl, rfl⟩
  ·replace hr := qg h4 hr
   refine AtLoop.mk ⟨Nat × Int × Int, fun x => [(1, (iS v3)), (2, (.loc 0 0)), (5, (iS x.2.1)), (6, (iS x.2.2))], fun x => ⟨[.cells 235 [(.v (.slice a2 ((Sm.encL v1.args).length) c2)), (iS v1.con)]], [], [(.slice a2 ((Sm.encL v1.args).length) c2, .sl 2 (Sm.encL v1.args))]⟩, fun x => x.1 ≤ N ∧ R04_constants_L1 x.1 v1 v3 x.2.1 x.2.2 = some r, fun x => x.1, (n, 1, 0), ⟨by omega, hr⟩, ⟨rfl, rfl, rfl, rfl, trivial⟩, (StLe.gen 1 [] [.old 0] rfl rfl rfl rfl rfl rfl rfl), fun x _ => ⟨rfl, rfl⟩, ?_⟩
   rintro ⟨n, v14, v15⟩ HH
   obtain ⟨hn, hr⟩ : n ≤ N ∧ R04_constants_L1 n v1 v3 v14 v15 = some r := HH
   rcases n with _ | n
   ·exact qe hr
   rw [R04_constants_L1.eq_2] at hr
   refine AtIf.mk (fun h16 => ?_) (fun h16 => ?_)
   ·replace hr := qf h16 hr
    obtain ⟨v17, h18, hr⟩ := bind_some hr
    obtain ⟨h19, h20⟩ := qi h18
    refine qd ttOK 0 rfl rfl rfl rfl h19 (Sm.encL_get h20) ?_
    intro a21 c21 _ _
    obtain ⟨v22, h23, hr⟩ := bind_some hr
    refine (ih n (by omega) v17 (IntKind.i64.wrap (v3 - v14)) a21 c21 _ h23).atR [1] rfl rfl rfl ?_
    rintro _ _ ⟨rfl, rfl⟩
    refine AtIf.mk (fun h24 => ?_) (fun h24 => ?_)
    ·replace hr := qf h24 hr
     replace hr := osi hr; subst hr
     exact qa [] [] rfl rfl ⟨rfl, rfl⟩
    ·replace hr := qg h24 hr
     exact ⟨(n, (IntKind.i64.wrap (v14 + v22)), (IntKind.i64.wrap (v15 + 1))), ⟨by omega, hr⟩, Nat.lt_succ_self _, ⟨rfl, rfl, rfl, rfl, trivial⟩, (StLe.gen 1 [] [.old 0] rfl rfl rfl rfl rfl rfl rfl)⟩
   ·replace hr := qg h16 hr
    refine at_min ?_
    replace hr := osi hr; subst hr
    exact qa [] [] rfl rfl ⟨rfl, rfl⟩
theorem qfp (n : Nat) (v1 : Sm) (v3 : Int) (a2 : OA) (c2 : Nat) (r : Int) (hr : R04_constants n v1 v3 = some r) : Pure Tryz.prog (.val (.fn (.func 201) [] [])) [(.agg [(.v (.slice a2 ((Sm.encL v1.args).length) c2)), (iS v1.con)]), (iS v3)] [(.slice a2 ((Sm.encL v1.args).length) c2, .sl 2 (Sm.encL v1.args))] (fun r' out => r' = (iS r) ∧ out = []) := (qe8 n) n (Nat.le_refl _) v1 v3 a2 c2 r hr
def R04_Small : Nat → Sm → Option (Bool)
 | 0, _ => none
 | n + 1, v1 =>
  (R04_constants n v1 600).bind (fun v3 =>
  some (((decide (v3 ≥ 1)) && (decide (v3 ≤ 600)))))
theorem qke (n : Nat) (v1 : Sm) (a2 : OA) (c2 : Nat) (r : Bool) (hr : R04_Small n v1 = some r) : Pure Tryz.prog (.val (.fn (.func 198) [] [])) [(.agg [(.v (.slice a2 ((Sm.encL v1.args).length) c2)), (iS v1.con)])] [(.slice a2 ((Sm.encL v1.args).length) c2, .sl 2 (Sm.encL v1.args))] (fun r' out => r' = (bS r) ∧ out = []) := by
 rcases n with _ | n
 ·exact qe hr
 rw [R04_Small.eq_2] at hr
 refine qb (N := 12) (m := 0) (dt := fun _ => none) [] ttOK func198 rfl call198 ntmps198 rfl rfl rfl mixed (by kernel_rfl) ?_
 obtain ⟨v3, h4, hr⟩ := bind_some hr
 refine (qfp n v1 600 a2 c2 _ h4).atR [0] rfl rfl rfl ?_
 rintro _ _ ⟨rfl, rfl⟩
 replace hr := osi hr; subst hr
 exact qa [] [] rfl rfl ⟨rfl, rfl⟩
def R04_whole : Nat → Tm → Option (Tm × Int)
 | 0, _ => none
 | n + 1, v1 =>
  cond (!(refProper v1)) (
  some ((Tm.mk 0 0 0 ([])), 5)) (
  some (v1, 0))
theorem qb1 (n : Nat) (v1 : Tm) (a2 : OA) (c2 : Nat) (r : Tm × Int) (hr : R04_whole n v1 = some r) : Pure Tryz.prog (.val (.fn (.func 202) [] [])) [(.agg [(iS v1.op), (iS v1.hd), (iS v1.n), (tU v1.args a2 c2)])] [(tQ v1.args a2 c2)] (fun r' out => ∃ (b1 : OA) (d1 : Nat), r' = (.tup [(.agg [(iS r.1.op), (iS r.1.hd), (iS r.1.n), (tU r.1.args b1 d1)]), (iS r.2)]) ∧ out = [(tQ r.1.args b1 d1)]) := by
 rcases n with _ | n
 ·exact qe hr
 rw [R04_whole.eq_2] at hr
 refine qb (N := 9) (m := 0) (dt := fun _ => none) [] ttOK func202 rfl call202 ntmps202 rfl rfl rfl mixed (by kernel_rfl) ?_
 refine (qa2 v1 a2 c2).atR [0] rfl rfl rfl ?_
 rintro _ _ ⟨rfl, rfl⟩
 refine AtIf.mk (fun h3 => ?_) (fun h3 => ?_)
 ·replace hr := qf h3 hr
  replace hr := osi hr; subst hr
  exact qa [.nil 4] [(.slice none 0 0, .sl 4 [])] rfl rfl ⟨none, 0, rfl, rfl⟩
 ·replace hr := qg h3 hr
  replace hr := osi hr; subst hr
  exact qa [.old 0] [(tQ v1.args a2 c2)] rfl rfl ⟨a2, c2, rfl, rfl⟩
mutual
def R04_moved : Nat → Tm → Int → Int → Option (Tm)
 | 0, _, _, _ => none
 | n + 1, v1, v3, v4 =>
  cond (((v1.op == 4) && (v1.hd == 1)) && (decide (v1.n ≥ v4))) (
  R04_moved_L1 n v1 v3 v4 (Tm.mk v1.op v1.hd (IntKind.i64.wrap (v1.n + v3)) ([])) 0) (
  R04_moved_L1 n v1 v3 v4 (Tm.mk v1.op v1.hd v1.n ([])) 0)
def R04_moved_L1 : Nat → Tm → Int → Int → Tm → Int → Option (Tm)
 | 0, _, _, _, _, _ => none
 | n + 1, v1, v3, v4, v19, v21 =>
  cond (decide (v21 < ((Tm.encL v1.args).length : Int))) (
  cond ((v1.op == 3) || ((v1.op == 2) && (v21 == 1))) (
  (idx v1.args v21).bind (fun v24 =>
  (R04_moved n v24 v3 (IntKind.i64.wrap (v4 + 1))).bind (fun v29 =>
  cond (decide ((Tm.encL (v19.args ++ [v29])).length ≤ 1000000)) (
  R04_moved_L1 n v1 v3 v4 (Tm.mk v19.op v19.hd v19.n (v19.args ++ [v29])) (IntKind.i64.wrap (v21 + 1))) none))) (
  (idx v1.args v21).bind (fun v35 =>
  (R04_moved n v35 v3 (IntKind.i64.wrap (v4 + 0))).bind (fun v40 =>
  cond (decide ((Tm.encL (v19.args ++ [v40])).length ≤ 1000000)) (
  R04_moved_L1 n v1 v3 v4 (Tm.mk v19.op v19.hd v19.n (v19.args ++ [v40])) (IntKind.i64.wrap (v21 + 1))) none)))) (
  some (v19))
 end
theorem qit : ∀ (N : Nat), (∀ (n : Nat), n ≤ N → ∀ (v1 : Tm) (v3 : Int) (v4 : Int) (a2 : OA) (c2 : Nat) (r : Tm), R04_moved n v1 v3 v4 = some r → Pure Tryz.prog (.val (.fn (.func 206) [] [])) [(.agg [(iS v1.op), (iS v1.hd), (iS v1.n), (tU v1.args a2 c2)]), (iS v3), (iS v4)] [(tQ v1.args a2 c2)] (fun r' out => ∃ (b1 : OA) (d1 : Nat), r' = (.agg [(iS r.op), (iS r.hd), (iS r.n), (tU r.args b1 d1)]) ∧ out = [(tQ r.args b1 d1)])) := by
 intro N
 induction N with
 | zero =>
  intro n hn v1 v3 v4 a2 c2 r hr; obtain rfl : n = 0 := (by omega); exact qe hr
 | succ N ih =>
  intro n hn v1 v3 v4 a2 c2 r hr
  rcases n with _ | n
  ·exact qe hr
  replace hn : n ≤ N := by omega
  rw [R04_moved.eq_2] at hr
  refine qb (N := 66) (m := 0) (dt := drawsOf [(11, .node [0, 1, 2, 3, 4, 5, 6, 7, 8, 9, 10] [(11, .node [] [(12, .node [] [(13, .node [14] [(15, .leaf [])])])])], [13, 15], [])]) [] ttOK func206 rfl call206 ntmps206 rfl rfl rfl mixed (by kernel_rfl) ?_
  refine AtIf.mk (fun h5 => ?_) (fun h5 => ?_)
  ·replace hr := qf h5 hr
   refine AtLoop.mk ⟨Nat × Tm × Option Addr × Nat × Int, fun x => [(1, (iS v3)), (2, (iS v4)), (3, (.loc 0 0)), (6, (.loc 1 0)), (7, (.loc 2 0)), (8, (iS x.2.2.2.2))], fun x => ⟨[.cells 47 [(iS v1.op), (iS v1.hd), (iS v1.n), (tU v1.args a2 c2)], .cells 47 [(iS 0), (iS 0), (iS 0), (.v (.slice none 0 0))], .cells 47 [(iS x.2.1.op), (iS x.2.1.hd), (iS x.2.1.n), (tU x.2.1.args x.2.2.1 x.2.2.2.1)]], [⟨.slice x.2.2.1 ((Tm.encL x.2.1.args).length) x.2.2.2.1, 4, 47, (Tm.encL x.2.1.args)⟩], [(tQ v1.args a2 c2)]⟩, fun x => x.1 ≤ N ∧ R04_moved_L1 x.1 v1 v3 v4 x.2.1 x.2.2.2.2 = some r, fun x => x.1, (n, (Tm.mk v1.op v1.hd (IntKind.i64.wrap (v1.n + v3)) ([])), none, 0, 0), ⟨by omega, hr⟩, ⟨rfl, rfl, rfl, rfl, rfl, rfl, trivial⟩, (StLe.gen 3 [.nil 4 47] [.old 0] rfl rfl rfl rfl rfl rfl rfl), fun x _ => ⟨rfl, rfl⟩, ?_⟩
   rintro ⟨n, v19, a20, c20, v21⟩ HH
   obtain ⟨hn, hr⟩ : n ≤ N ∧ R04_moved_L1 n v1 v3 v4 v19 v21 = some r := HH
   rcases n with _ | n
   ·exact qe hr
   rw [R04_moved_L1.eq_2] at hr
   refine AtIf.mk (fun h22 => ?_) (fun h22 => ?_)
   ·replace hr := qf h22 hr
    refine AtIf.mk (fun h23 => ?_) (fun h23 => ?_)
    ·replace hr := qf h23 hr
     obtain ⟨v24, h25, hr⟩ := bind_some hr
     obtain ⟨h26, h27⟩ := qi h25
     refine qd ttOK 0 rfl rfl rfl rfl h26 (Tm.encL_get h27) ?_
     intro a28 c28 _ _
     obtain ⟨v29, h30, hr⟩ := bind_some hr
     refine (ih n (by omega) v24 v3 (IntKind.i64.wrap (v4 + 1)) a28 c28 _ h30).atR [1] rfl rfl rfl ?_
     rintro _ _ ⟨a31, c31, rfl, rfl⟩
     refine ⟨fun _ _ h => h, ?_⟩
     refine ql (n := 1) ttOK 48 [.agg [.int .i64 v29.op, .int .i64 v29.hd, .int .i64 v29.n, .sl 4 (Tm.encL v29.args)]] (ds' := (Tm.encL ([v29]))) rfl (by kernel_rfl) ⟨⟨rfl, rfl, rfl, ⟨[(iS v29.op)], _, rfl, rfl, ⟨[(iS v29.hd)], _, rfl, rfl, ⟨[(iS v29.n)], _, rfl, rfl, ⟨[(tU v29.args a31 c31)], _, rfl, (.inl ⟨_, rfl, qr (j := 2) rfl⟩), rfl⟩⟩⟩⟩⟩, trivial⟩ rfl (by simp only [Tm.encL_eq, List.map_cons, List.map_nil, Tm.enc_eq] <;> rfl) (by decide) (by decide) ?_
     intro a32
     refine ⟨fun _ _ h => h, ?_⟩
     obtain ⟨h33, hr⟩ := qm hr
     refine qu (ds' := (Tm.encL (v19.args ++ [v29]))) ttOK 48 0 3 rfl (by kernel_rfl) rfl rfl rfl rfl (by simp only [Tm.encL_eq, List.map_append]) h33 (by decide) ?_
     intro a34 c34
     exact ⟨(n, (Tm.mk v19.op v19.hd v19.n (v19.args ++ [v29])), a34, c34, (IntKind.i64.wrap (v21 + 1))), ⟨by omega, hr⟩, Nat.lt_succ_self _, ⟨rfl, rfl, rfl, rfl, rfl, rfl, trivial⟩, (StLe.gen 3 [.old 0] [.old 0] rfl rfl rfl rfl rfl rfl rfl)⟩
    ·replace hr := qg h23 hr
     obtain ⟨v35, h36, hr⟩ := bind_some hr
     obtain ⟨h37, h38⟩ := qi h36
     refine qd ttOK 0 rfl rfl rfl rfl h37 (Tm.encL_get h38) ?_
     intro a39 c39 _ _
     obtain ⟨v40, h41, hr⟩ := bind_some hr
     refine (ih n (by omega) v35 v3 (IntKind.i64.wrap (v4 + 0)) a39 c39 _ h41).atR [1] rfl rfl rfl ?_
     rintro _ _ ⟨a42, c42, rfl, rfl⟩
     refine ⟨fun _ _ h => h, ?_⟩
     refine ql (n := 1) ttOK 48 [.agg [.int .i64 v40.op, .int .i64 v40.hd, .int .i64 v40.n, .sl 4 (Tm.encL v40.args)]] (ds' := (Tm.encL ([v40]))) rfl (by kernel_rfl) ⟨⟨rfl, rfl, rfl, ⟨[(iS v40.op)], _, rfl, rfl, ⟨[(iS v40.hd)], _, rfl, rfl, ⟨[(iS v40.n)], _, rfl, rfl, ⟨[(tU v40.args a42 c42)], _, rfl, (.inl ⟨_, rfl, qr (j := 2) rfl⟩), rfl⟩⟩⟩⟩⟩, trivial⟩ rfl (by simp only [Tm.encL_eq, List.map_cons, List.map_nil, Tm.enc_eq] <;> rfl) (by decide) (by decide) ?_
     intro a43
     refine ⟨fun _ _ h => h, ?_⟩
     obtain ⟨h44, hr⟩ := qm hr
     refine qu (ds' := (Tm.encL (v19.args ++ [v40]))) ttOK 48 0 3 rfl (by kernel_rfl) rfl rfl rfl rfl (by simp only [Tm.encL_eq, List.map_append]) h44 (by decide) ?_
     intro a45 c45
     exact ⟨(n, (Tm.mk v19.op v19.hd v19.n (v19.args ++ [v40])), a45, c45, (IntKind.i64.wrap (v21 + 1))), ⟨by omega, hr⟩, Nat.lt_succ_self _, ⟨rfl, rfl, rfl, rfl, rfl, rfl, trivial⟩, (StLe.gen 3 [.old 0] [.old 0] rfl rfl rfl rfl rfl rfl rfl)⟩
   ·replace hr := qg h22 hr
    replace hr := osi hr; subst hr
    exact qa [.froz 0] [(tQ v19.args a20 c20)] rfl rfl ⟨a20, c20, rfl, rfl⟩
  ·replace hr := qg h5 hr
   refine AtLoop.mk ⟨Nat × Tm × Option Addr × Nat × Int, fun x => [(1, (iS v3)), (2, (iS v4)), (3, (.loc 0 0)), (6, (.loc 1 0)), (7, (.loc 2 0)), (8, (iS x.2.2.2.2))], fun x => ⟨[.cells 47 [(iS v1.op), (iS v1.hd), (iS v1.n), (tU v1.args a2 c2)], .cells 47 [(iS 0), (iS 0), (iS 0), (.v (.slice none 0 0))], .cells 47 [(iS x.2.1.op), (iS x.2.1.hd), (iS x.2.1.n), (tU x.2.1.args x.2.2.1 x.2.2.2.1)]], [⟨.slice x.2.2.1 ((Tm.encL x.2.1.args).length) x.2.2.2.1, 4, 47, (Tm.encL x.2.1.args)⟩], [(tQ v1.args a2 c2)]⟩, fun x => x.1 ≤ N ∧ R04_moved_L1 x.1 v1 v3 v4 x.2.1 x.2.2.2.2 = some r, fun x => x.1, (n, (Tm.mk v1.op v1.hd v1.n ([])), none, 0, 0), ⟨by omega, hr⟩, ⟨rfl, rfl, rfl, rfl, rfl, rfl, trivial⟩, (StLe.gen 3 [.nil 4 47] [.old 0] rfl rfl rfl rfl rfl rfl rfl), fun x _ => ⟨rfl, rfl⟩, ?_⟩
   rintro ⟨n, v59, a60, c60, v61⟩ HH
   obtain ⟨hn, hr⟩ : n ≤ N ∧ R04_moved_L1 n v1 v3 v4 v59 v61 = some r := HH
   rcases n with _ | n
   ·exact qe hr
   rw [R04_moved_L1.eq_2] at hr
   refine AtIf.mk (fun h62 => ?_) (fun h62 => ?_)
   ·replace hr := qf h62 hr
    refine AtIf.mk (fun h63 => ?_) (fun h63 => ?_)
    ·replace hr := qf h63 hr
     obtain ⟨v64, h65, hr⟩ := bind_some hr
     obtain ⟨h66, h67⟩ := qi h65
     refine qd ttOK 0 rfl rfl rfl rfl h66 (Tm.encL_get h67) ?_
     intro a68 c68 _ _
     obtain ⟨v69, h70, hr⟩ := bind_some hr
     refine (ih n (by omega) v64 v3 (IntKind.i64.wrap (v4 + 1)) a68 c68 _ h70).atR [1] rfl rfl rfl ?_
     rintro _ _ ⟨a71, c71, rfl, rfl⟩
     refine ⟨fun _ _ h => h, ?_⟩
     refine ql (n := 1) ttOK 48 [.agg [.int .i64 v69.op, .int .i64 v69.hd, .int .i64 v69.n, .sl 4 (Tm.encL v69.args)]] (ds' := (Tm.encL ([v69]))) rfl (by kernel_rfl) ⟨⟨rfl, rfl, rfl, ⟨[(iS v69.op)], _, rfl, rfl, ⟨[(iS v69.hd)], _, rfl, rfl, ⟨[(iS v69.n)], _, rfl, rfl, ⟨[(tU v69.args a71 c71)], _, rfl, (.inl ⟨_, rfl, qr (j := 2) rfl⟩), rfl⟩⟩⟩⟩⟩, trivial⟩ rfl (by simp only [Tm.encL_eq, List.map_cons, List.map_nil, Tm.enc_eq] <;> rfl) (by decide) (by decide) ?_
     intro a72
     refine ⟨fun _ _ h => h, ?_⟩
     obtain ⟨h73, hr⟩ := qm hr
     refine qu (ds' := (Tm.encL (v59.args ++ [v69]))) ttOK 48 0 3 rfl (by kernel_rfl) rfl rfl rfl rfl (by simp only [Tm.encL_eq, List.map_append]) h73 (by decide) ?_
     intro a74 c74
     exact ⟨(n, (Tm.mk v59.op v59.hd v59.n (v59.args ++ [v69])), a74, c74, (IntKind.i64.wrap (v61 + 1))), ⟨by omega, hr⟩, Nat.lt_succ_self _, ⟨rfl, rfl, rfl, rfl, rfl, rfl, trivial⟩, (StLe.gen 3 [.old 0] [.old 0] rfl rfl rfl rfl rfl rfl rfl)⟩
    ·replace hr := qg h63 hr
     obtain ⟨v75, h76, hr⟩ := bind_some hr
     obtain ⟨h77, h78⟩ := qi h76
     refine qd ttOK 0 rfl rfl rfl rfl h77 (Tm.encL_get h78) ?_
     intro a79 c79 _ _
     obtain ⟨v80, h81, hr⟩ := bind_some hr
     refine (ih n (by omega) v75 v3 (IntKind.i64.wrap (v4 + 0)) a79 c79 _ h81).atR [1] rfl rfl rfl ?_
     rintro _ _ ⟨a82, c82, rfl, rfl⟩
     refine ⟨fun _ _ h => h, ?_⟩
     refine ql (n := 1) ttOK 48 [.agg [.int .i64 v80.op, .int .i64 v80.hd, .int .i64 v80.n, .sl 4 (Tm.encL v80.args)]] (ds' := (Tm.encL ([v80]))) rfl (by kernel_rfl) ⟨⟨rfl, rfl, rfl, ⟨[(iS v80.op)], _, rfl, rfl, ⟨[(iS v80.hd)], _, rfl, rfl, ⟨[(iS v80.n)], _, rfl, rfl, ⟨[(tU v80.args a82 c82)], _, rfl, (.inl ⟨_, rfl, qr (j := 2) rfl⟩), rfl⟩⟩⟩⟩⟩, trivial⟩ rfl (by simp only [Tm.encL_eq, List.map_cons, List.map_nil, Tm.enc_eq] <;> rfl) (by decide) (by decide) ?_
     intro a83
     refine ⟨fun _ _ h => h, ?_⟩
     obtain ⟨h84, hr⟩ := qm hr
     refine qu (ds' := (Tm.encL (v59.args ++ [v80]))) ttOK 48 0 3 rfl (by kernel_rfl) rfl rfl rfl rfl (by simp only [Tm.encL_eq, List.map_append]) h84 (by decide) ?_
     intro a85 c85
     exact ⟨(n, (Tm.mk v59.op v59.hd v59.n (v59.args ++ [v80])), a85, c85, (IntKind.i64.wrap (v61 + 1))), ⟨by omega, hr⟩, Nat.lt_succ_self _, ⟨rfl, rfl, rfl, rfl, rfl, rfl, trivial⟩, (StLe.gen 3 [.old 0] [.old 0] rfl rfl rfl rfl rfl rfl rfl)⟩
   ·replace hr := qg h62 hr
    replace hr := osi hr; subst hr
    exact qa [.froz 0] [(tQ v59.args a60 c60)] rfl rfl ⟨a60, c60, rfl, rfl⟩
theorem qj5 (n : Nat) (v1 : Tm) (v3 : Int) (v4 : Int) (a2 : OA) (c2 : Nat) (r : Tm) (hr : R04_moved n v1 v3 v4 = some r) : Pure Tryz.prog (.val (.fn (.func 206) [] [])) [(.agg [(iS v1.op), (iS v1.hd), (iS v1.n), (tU v1.args a2 c2)]), (iS v3), (iS v4)] [(tQ v1.args a2 c2)] (fun r' out => ∃ (b1 : OA) (d1 : Nat), r' = (.agg [(iS r.op), (iS r.hd), (iS r.n), (tU r.args b1 d1)]) ∧ out = [(tQ r.args b1 d1)]) := (qit n) n (Nat.le_refl _) v1 v3 v4 a2 c2 r hr
def R04_raised : Nat → Tm → Int → Option (Tm)
 | 0, _, _ => none
 | n + 1, v1, v3 =>
  (R04_moved n v1 v3 0).bind (fun v4 =>
  some (v4))
theorem qhs (n : Nat) (v1 : Tm) (v3 : Int) (a2 : OA) (c2 : Nat) (r : Tm) (hr : R04_raised n v1 v3 = some r) : Pure Tryz.prog (.val (.fn (.func 203) [] [])) [(.agg [(iS v1.op), (iS v1.hd), (iS v1.n), (tU v1.args a2 c2)]), (iS v3)] [(tQ v1.args a2 c2)] (fun r' out => ∃ (b1 : OA) (d1 : Nat), r' = (.agg [(iS r.op), (iS r.hd), (iS r.n), (tU r.args b1 d1)]) ∧ out = [(tQ r.args b1 d1)]) := by
 rcases n with _ | n
 ·exact qe hr
 rw [R04_raised.eq_2] at hr
 refine qb (N := 8) (m := 0) (dt := fun _ => none) [] ttOK func203 rfl call203 ntmps203 rfl rfl rfl mixed (by kernel_rfl) ?_
 obtain ⟨v4, h5, hr⟩ := bind_some hr
 refine (qj5 n v1 v3 0 a2 c2 _ h5).atR [0] rfl rfl rfl ?_
 rintro _ _ ⟨a6, c6, rfl, rfl⟩
 replace hr := osi hr; subst hr
 exact qa [.old 1] [(tQ v4.args a6 c6)] rfl rfl ⟨a6, c6, rfl, rfl⟩
mutual
def R04_count_put : Nat → Tm → Int → Tm → Sm → Ct → Option (Tm × Int × Ct)
 | 0, _, _, _, _, _ => none
 | n + 1, v1, v3, v4, v6, v8 =>
  cond (decide ((IntKind.i64.wrap (v8.n + 1)) > 20000)) (
  some ((Tm.mk 0 0 0 ([])), 5, (Ct.mk (IntKind.i64.wrap (v8.n + 1))))) (
  R04_count_put_L1 n v1 v3 v4 v6 (Ct.mk (IntKind.i64.wrap (v8.n + 1))) (Tm.mk v1.op v1.hd v1.n ([])) 0)
def R04_count_put_L1 : Nat → Tm → Int → Tm → Sm → Ct → Tm → Int → Option (Tm × Int × Ct)
 | 0, _, _, _, _, _, _, _ => none
 | n + 1, v1, v3, v4, v6, v26, v27, v29 =>
  cond (decide (v29 < ((Tm.encL v1.args).length : Int))) (
  cond ((v1.op == 3) || ((v1.op == 2) && (v29 == 1))) (
  (idx v1.args v29).bind (fun v32 =>
  (R04_count_put n v32 (IntKind.i64.wrap (v3 + 1)) v4 v6 v26).bind (fun v37 =>
  cond (v37.2.1 != 0) (
  some ((Tm.mk 0 0 0 ([])), v37.2.1, v37.2.2)) (
  cond (decide ((Tm.encL (v27.args ++ [v37.1])).length ≤ 1000000)) (
  R04_count_put_L1 n v1 v3 v4 v6 v37.2.2 (Tm.mk v27.op v27.hd v27.n (v27.args ++ [v37.1])) (IntKind.i64.wrap (v29 + 1))) none)))) (
  (idx v1.args v29).bind (fun v47 =>
  (R04_count_put n v47 (IntKind.i64.wrap (v3 + 0)) v4 v6 v26).bind (fun v52 =>
  cond (v52.2.1 != 0) (
  some ((Tm.mk 0 0 0 ([])), v52.2.1, v52.2.2)) (
  cond (decide ((Tm.encL (v27.args ++ [v52.1])).length ≤ 1000000)) (
  R04_count_put_L1 n v1 v3 v4 v6 v52.2.2 (Tm.mk v27.op v27.hd v27.n (v27.args ++ [v52.1])) (IntKind.i64.wrap (v29 + 1))) none))))) (
  cond (((v1.op != 4) || (v1.hd != 1)) || (decide (v1.n < v3))) (
  (R04_whole n v27).bind (fun v63 =>
  some (v63.1, v63.2, v26))) (
  cond (decide (v1.n > v3)) (
  (R04_whole n (Tm.mk v27.op v27.hd (IntKind.i64.wrap (v1.n - 1)) v27.args)).bind (fun v67 =>
  some (v67.1, v67.2, v26))) (
  (R04_raised n v4 v3).bind (fun v70 =>
  (R04_whole n v70).bind (fun v73 =>
  cond (v73.2 != 0) (
  some ((Tm.mk 0 0 0 ([])), v73.2, v26)) (
  (R04_count_apply n v73.1 v27.args v6 v26).bind (fun v77 =>
  some (v77.1, v77.2.1, v77.2.2))))))))
def R04_count_apply : Nat → Tm → (List Tm) → Sm → Ct → Option (Tm × Int × Ct)
 | 0, _, _, _, _ => none
 | n + 1, v1, v3, v5, v7 =>
  cond (((Tm.encL v3).length : Int) == 0) (
  (R04_whole n v1).bind (fun v9 =>
  some (v9.1, v9.2, v7))) (
  cond ((v1.op != 3) || (((Sm.encL v5.args).length : Int) == 0)) (
  some ((Tm.mk 0 0 0 ([])), 23, v7)) (
  (idx v1.args 0).bind (fun v13 =>
  (idx v3 0).bind (fun v18 =>
  (idx v5.args 0).bind (fun v23 =>
  (R04_count_put n v13 0 v18 v23 v7).bind (fun v28 =>
  cond (v28.2.1 != 0) (
  some ((Tm.mk 0 0 0 ([])), v28.2.1, v28.2.2)) (
  cond (decide ((0 : Int) ≤ 1 ∧ 1 ≤ ((Tm.encL v3).length : Int) ∧ ((Tm.encL v3).length : Int) ≤ ((Tm.encL v3).length : Int))) (
  cond (decide ((0 : Int) ≤ 1 ∧ 1 ≤ ((Sm.encL v5.args).length : Int) ∧ ((Sm.encL v5.args).length : Int) ≤ ((Sm.encL v5.args).length : Int))) (
  (R04_count_apply n v28.1 (v3.drop (1 : Int).toNat) (Sm.mk (v5.args.drop (1 : Int).toNat) v5.con) v28.2.2).bind (fun v40 =>
  some (v40.1, v40.2.1, v40.2.2))) none) none)))))))
 end
theorem qfd : ∀ (N : Nat), (∀ (n : Nat), n ≤ N → ∀ (v1 : Tm) (v3 : Int) (v4 : Tm) (v6 : Sm) (v8 : Ct) (a2 : OA) (c2 : Nat) (a5 : OA) (c5 : Nat) (a7 : OA) (c7 : Nat) (r : Tm × Int × Ct), R04_count_put n v1 v3 v4 v6 v8 = some r → Meets Tryz.prog (.val (.fn (.func 199) [] [])) [(.loc 0 0), (.agg [(iS v1.op), (iS v1.hd), (iS v1.n), (tU v1.args a2 c2)]), (iS v3), (.agg [(iS v4.op), (iS v4.hd), (iS v4.n), (tU v4.args a5 c5)]), (.agg [(.v (.slice a7 ((Sm.encL v6.args).length) c7)), (iS v6.con)])] ⟨[.cells 231 [(iS v8.n)]], [], [(tQ v1.args a2 c2), (tQ v4.args a5 c5), (.slice a7 ((Sm.encL v6.args).length) c7, .sl 2 (Sm.encL v6.args))]⟩ (fun o S' => ∃ (b1 : OA) (d1 : Nat), o = .ret (.tup [(.agg [(iS r.1.op), (iS r.1.hd), (iS r.1.n), (tU r.1.args b1 d1)]), (iS r.2.1)]) ∧ S' = ⟨[.cells 231 [(iS r.2.2.n)]], [], [(tQ r.1.args b1 d1)]⟩)) ∧ (∀ (n : Nat), n ≤ N → ∀ (v1 : Tm) (v3 : (List Tm)) (v5 : Sm) (v7 : Ct) (a2 : OA) (c2 : Nat) (a4 : OA) (c4 : Nat) (a6 : OA) (c6 : Nat) (r : Tm × Int × Ct), R04_count_apply n v1 v3 v5 v7 = some r → Meets Tryz.prog (.val (.fn (.func 204) [] [])) [(.loc 0 0), (.agg [(iS v1.op), (iS v1.hd), (iS v1.n), (tU v1.args a2 c2)]), (tU v3 a4 c4), (.agg [(.v (.slice a6 ((Sm.encL v5.args).length) c6)), (iS v5.con)])] ⟨[.cells 231 [(iS v7.n)]], [], [(tQ v1.args a2 c2), (tQ v3 a4 c4), (.slice a6 ((Sm.encL v5.args).length) c6, .sl 2 (Sm.encL v5.args))]⟩ (fun o S' => ∃ (b1 : OA) (d1 : Nat), o = .ret (.tup [(.agg [(iS r.1.op), (iS r.1.hd), (iS r.1.n), (tU r.1.args b1 d1)]), (iS r.2.1)]) ∧ S' = ⟨[.cells 231 [(iS r.2.2.n)]], [], [(tQ r.1.args b1 d1)]⟩)) := by
 intro N
 induction N with
 | zero =>
  refine ⟨?_, ?_⟩
  ·intro n hn v1 v3 v4 v6 v8 a2 c2 a5 c5 a7 c7 r hr; obtain rfl : n = 0 := (by omega); exact qe hr
  ·intro n hn v1 v3 v5 v7 a2 c2 a4 c4 a6 c6 r hr; obtain rfl : n = 0 := (by omega); exact qe hr
 | succ N ih =>
  obtain ⟨ih1, ih2⟩ := ih
  refine ⟨?_, ?_⟩
  ·
   intro n hn v1 v3 v4 v6 v8 a2 c2 a5 c5 a7 c7 r hr
   rcases n with _ | n
   ·exact qe hr
   replace hn : n ≤ N := by omega
   rw [R04_count_put.eq_2] at hr
   refine qb (N := 127) (m := 1) (dt := drawsOf [(12, .node [0, 1, 2, 3, 4, 5, 6, 7, 8, 9, 10] [(11, .node [12, 13, 14] [(15, .node [] [(16, .leaf [17])])]), (15, .node [] [(11, .node [12, 13, 14] [(16, .leaf [17])])])], [11], [7])]) [] ttOK func199 rfl call199 ntmps199 rfl rfl rfl mixed (by kernel_rfl) ?_
   refine AtIf.mk (fun h9 => ?_) (fun h9 => ?_)
   ·replace hr := qf h9 hr
    replace hr := osi hr; subst hr
    exact AtRet.gen ⟨[.cells 231 [(iS (IntKind.i64.wrap (v8.n + 1)))]], [], [(.slice none 0 0, .sl 4 [])]⟩ (StLe.gen 1 [] [.nil 4] rfl rfl rfl rfl rfl rfl rfl) rfl rfl ⟨none, 0, rfl, rfl⟩
   ·replace hr := qg h9 hr
    refine AtLoop.mk ⟨Nat × Ct × Tm × Option Addr × Nat × Int, fun x => [(0, (.loc 0 0)), (2, (iS v3)), (6, (.loc 1 0)), (8, (.loc 2 0)), (9, (.loc 3 0)), (10, (.loc 4 0)), (12, (.loc 5 0)), (13, (iS x.2.2.2.2.2))], fun x => ⟨[.cells 231 [(iS x.2.1.n)], .cells 47 [(iS v1.op), (iS v1.hd), (iS v1.n), (tU v1.args a2 c2)], .cells 47 [(iS v4.op), (iS v4.hd), (iS v4.n), (tU v4.args a5 c5)], .cells 235 [(.v (.slice a7 ((Sm.encL v6.args).length) c7)), (iS v6.con)], .cells 47 [(iS 0), (iS 0), (iS 0), (.v (.slice none 0 0))], .cells 47 [(iS x.2.2.1.op), (iS x.2.2.1.hd), (iS x.2.2.1.n), (tU x.2.2.1.args x.2.2.2.1 x.2.2.2.2.1)]], [⟨.slice x.2.2.2.1 ((Tm.encL x.2.2.1.args).length) x.2.2.2.2.1, 4, 47, (Tm.encL x.2.2.1.args)⟩], [(tQ v1.args a2 c2), (tQ v4.args a5 c5), (.slice a7 ((Sm.encL v6.args).length) c7, .sl 2 (Sm.encL v6.args))]⟩, fun x => x.1 ≤ N ∧ R04_count_put_L1 x.1 v1 v3 v4 v6 x.2.1 x.2.2.1 x.2.2.2.2.2 = some r, fun x => x.1, (n, (Ct.mk (IntKind.i64.wrap (v8.n + 1))), (Tm.mk v1.op v1.hd v1.n ([])), none, 0, 0), ⟨by omega, hr⟩, ⟨rfl, rfl, rfl, rfl, rfl, rfl, rfl, rfl, trivial⟩, (StLe.gen 6 [.nil 4 47] [.old 0, .old 1, .old 2] rfl rfl rfl rfl rfl rfl rfl), fun x _ => ⟨rfl, rfl⟩, ?_⟩
    rintro ⟨n, v26, v27, a28, c28, v29⟩ HH
    obtain ⟨hn, hr⟩ : n ≤ N ∧ R04_count_put_L1 n v1 v3 v4 v6 v26 v27 v29 = some r := HH
    rcases n with _ | n
    ·exact qe hr
    rw [R04_count_put_L1.eq_2] at hr
    refine AtIf.mk (fun h30 => ?_) (fun h30 => ?_)
    ·replace hr := qf h30 hr
     refine AtIf.mk (fun h31 => ?_) (fun h31 => ?_)
     ·replace hr := qf h31 hr
      obtain ⟨v32, h33, hr⟩ := bind_some hr
      obtain ⟨h34, h35⟩ := qi h33
      obtain ⟨v37, h38, hr⟩ := bind_some hr
      refine qd ttOK 0 rfl rfl rfl rfl h34 (Tm.encL_get h35) ?_
      intro a40 c40 _ _
      refine ⟨?_, ?_⟩
      ·
       refine (ih1 n (by omega) v32 (IntKind.i64.wrap (v3 + 1)) v4 v6 v26 a40 c40 a5 c5 a7 c7 _ h38).frameR [0] [3, 1, 2] rfl rfl rfl rfl rfl rfl rfl rfl ?_
       rintro _ _ ⟨a41, c41, rfl, rfl⟩
       refine ⟨rfl, rfl, [.cells 231 [(iS v37.2.2.n)]], rfl, ?_⟩
       refine ⟨OwnKeptBut.append, ?_⟩
       refine ⟨fun _ _ h => h, ?_⟩
       refine AtIf.mk (fun h42 => ?_) (fun h42 => ?_)
       ·replace hr := qf h42 hr
        replace hr := osi hr; subst hr
        exact AtRet.gen ⟨[.cells 231 [(iS v37.2.2.n)]], [], [(.slice none 0 0, .sl 4 [])]⟩ (StLe.gen 1 [] [.nil 4] rfl rfl rfl rfl rfl rfl rfl) rfl rfl ⟨none, 0, rfl, rfl⟩
       ·replace hr := qg h42 hr
        refine ql (n := 1) ttOK 48 [.agg [.int .i64 v37.1.op, .int .i64 v37.1.hd, .int .i64 v37.1.n, .sl 4 (Tm.encL v37.1.args)]] (ds' := (Tm.encL ([v37.1]))) rfl (by kernel_rfl) ⟨⟨rfl, rfl, rfl, ⟨[(iS v37.1.op)], _, rfl, rfl, ⟨[(iS v37.1.hd)], _, rfl, rfl, ⟨[(iS v37.1.n)], _, rfl, rfl, ⟨[(tU v37.1.args a41 c41)], _, rfl, (.inl ⟨_, rfl, qr (j := 4) rfl⟩), rfl⟩⟩⟩⟩⟩, trivial⟩ rfl (by simp only [Tm.encL_eq, List.map_cons, List.map_nil, Tm.enc_eq] <;> rfl) (by decide) (by decide) ?_
        intro a43
        obtain ⟨h44, hr⟩ := qm hr
        refine qu (ds' := (Tm.encL (v27.args ++ [v37.1]))) ttOK 48 0 5 rfl (by kernel_rfl) rfl rfl rfl rfl (by simp only [Tm.encL_eq, List.map_append]) h44 (by decide) ?_
        intro a45 c45
        exact ⟨(n, v37.2.2, (Tm.mk v27.op v27.hd v27.n (v27.args ++ [v37.1])), a45, c45, (IntKind.i64.wrap (v29 + 1))), ⟨by omega, hr⟩, Nat.lt_succ_self _, ⟨rfl, rfl, rfl, rfl, rfl, rfl, rfl, rfl, trivial⟩, (StLe.gen 6 [.old 0] [.old 0, .old 1, .old 2] rfl rfl rfl rfl rfl rfl rfl)⟩
      ·
       refine ⟨OwnKeptBut.append, ?_⟩
       refine (ih1 n (by omega) v32 (IntKind.i64.wrap (v3 + 1)) v4 v6 v26 a40 c40 a5 c5 a7 c7 _ h38).frameR [0] [3, 1, 2] rfl rfl rfl rfl rfl rfl rfl rfl ?_
       rintro _ _ ⟨a46, c46, rfl, rfl⟩
       refine ⟨rfl, rfl, [.cells 231 [(iS v37.2.2.n)]], rfl, ?_⟩
       refine ⟨fun _ _ h => h, ?_⟩
       refine AtIf.mk (fun h42 => ?_) (fun h42 => ?_)
       ·replace hr := qf h42 hr
        replace hr := osi hr; subst hr
        exact AtRet.gen ⟨[.cells 231 [(iS v37.2.2.n)]], [], [(.slice none 0 0, .sl 4 [])]⟩ (StLe.gen 1 [] [.nil 4] rfl rfl rfl rfl rfl rfl rfl) rfl rfl ⟨none, 0, rfl, rfl⟩
       ·replace hr := qg h42 hr
        refine ql (n := 1) ttOK 48 [.agg [.int .i64 v37.1.op, .int .i64 v37.1.hd, .int .i64 v37.1.n, .sl 4 (Tm.encL v37.1.args)]] (ds' := (Tm.encL ([v37.1]))) rfl (by kernel_rfl) ⟨⟨rfl, rfl, rfl, ⟨[(iS v37.1.op)], _, rfl, rfl, ⟨[(iS v37.1.hd)], _, rfl, rfl, ⟨[(iS v37.1.n)], _, rfl, rfl, ⟨[(tU v37.1.args a46 c46)], _, rfl, (.inl ⟨_, rfl, qr (j := 4) rfl⟩), rfl⟩⟩⟩⟩⟩, trivial⟩ rfl (by simp only [Tm.encL_eq, List.map_cons, List.map_nil, Tm.enc_eq] <;> rfl) (by decide) (by decide) ?_
        intro a43
        obtain ⟨h44, hr⟩ := qm hr
        refine qu (ds' := (Tm.encL (v27.args ++ [v37.1]))) ttOK 48 0 5 rfl (by kernel_rfl) rfl rfl rfl rfl (by simp only [Tm.encL_eq, List.map_append]) h44 (by decide) ?_
        intro a45 c45
        exact ⟨(n, v37.2.2, (Tm.mk v27.op v27.hd v27.n (v27.args ++ [v37.1])), a45, c45, (IntKind.i64.wrap (v29 + 1))), ⟨by omega, hr⟩, Nat.lt_succ_self _, ⟨rfl, rfl, rfl, rfl, rfl, rfl, rfl, rfl, trivial⟩, (StLe.gen 6 [.old 0] [.old 0, .old 1, .old 2] rfl rfl rfl rfl rfl rfl rfl)⟩
     ·replace hr := qg h31 hr
      obtain ⟨v47, h48, hr⟩ := bind_some hr
      obtain ⟨h49, h50⟩ := qi h48
      obtain ⟨v52, h53, hr⟩ := bind_some hr
      refine qd ttOK 0 rfl rfl rfl rfl h49 (Tm.encL_get h50) ?_
      intro a55 c55 _ _
      refine ⟨?_, ?_⟩
      ·
       refine (ih1 n (by omega) v47 (IntKind.i64.wrap (v3 + 0)) v4 v6 v26 a55 c55 a5 c5 a7 c7 _ h53).frameR [0] [3, 1, 2] rfl rfl rfl rfl rfl rfl rfl rfl ?_
       rintro _ _ ⟨a56, c56, rfl, rfl⟩
       refine ⟨rfl, rfl, [.cells 231 [(iS v52.2.2.n)]], rfl, ?_⟩
       refine ⟨OwnKeptBut.append, ?_⟩
       refine ⟨fun _ _ h => h, ?_⟩
       refine AtIf.mk (fun h57 => ?_) (fun h57 => ?_)
       ·replace hr := qf h57 hr
        replace hr := osi hr; subst hr
        exact AtRet.gen ⟨[.cells 231 [(iS v52.2.2.n)]], [], [(.slice none 0 0, .sl 4 [])]⟩ (StLe.gen 1 [] [.nil 4] rfl rfl rfl rfl rfl rfl rfl) rfl rfl ⟨none, 0, rfl, rfl⟩
       ·replace hr := qg h57 hr
        refine ql (n := 1) ttOK 48 [.agg [.int .i64 v52.1.op, .int .i64 v52.1.hd, .int .i64 v52.1.n, .sl 4 (Tm.encL v52.1.args)]] (ds' := (Tm.encL ([v52.1]))) rfl (by kernel_rfl) ⟨⟨rfl, rfl, rfl, ⟨[(iS v52.1.op)], _, rfl, rfl, ⟨[(iS v52.1.hd)], _, rfl, rfl, ⟨[(iS v52.1.n)], _, rfl, rfl, ⟨[(tU v52.1.args a56 c56)], _, rfl, (.inl ⟨_, rfl, qr (j := 4) rfl⟩), rfl⟩⟩⟩⟩⟩, trivial⟩ rfl (by simp only [Tm.encL_eq, List.map_cons, List.map_nil, Tm.enc_eq] <;> rfl) (by decide) (by decide) ?_
        intro a58
        obtain ⟨h59, hr⟩ := qm hr
        refine qu (ds' := (Tm.encL (v27.args ++ [v52.1]))) ttOK 48 0 5 rfl (by kernel_rfl) rfl rfl rfl rfl (by simp only [Tm.encL_eq, List.map_append]) h59 (by decide) ?_
        intro a60 c60
        exact ⟨(n, v52.2.2, (Tm.mk v27.op v27.hd v27.n (v27.args ++ [v52.1])), a60, c60, (IntKind.i64.wrap (v29 + 1))), ⟨by omega, hr⟩, Nat.lt_succ_self _, ⟨rfl, rfl, rfl, rfl, rfl, rfl, rfl, rfl, trivial⟩, (StLe.gen 6 [.old 0] [.old 0, .old 1, .old 2] rfl rfl rfl rfl rfl rfl rfl)⟩
      ·
       refine ⟨OwnKeptBut.append, ?_⟩
       refine (ih1 n (by omega) v47 (IntKind.i64.wrap (v3 + 0)) v4 v6 v26 a55 c55 a5 c5 a7 c7 _ h53).frameR [0] [3, 1, 2] rfl rfl rfl rfl rfl rfl rfl rfl ?_
       rintro _ _ ⟨a61, c61, rfl, rfl⟩
       refine ⟨rfl, rfl, [.cells 231 [(iS v52.2.2.n)]], rfl, ?_⟩
       refine ⟨fun _ _ h => h, ?_⟩
       refine AtIf.mk (fun h57 => ?_) (fun h57 => ?_)
       ·replace hr := qf h57 hr
        replace hr := osi hr; subst hr
        exact AtRet.gen ⟨[.cells 231 [(iS v52.2.2.n)]], [], [(.slice none 0 0, .sl 4 [])]⟩ (StLe.gen 1 [] [.nil 4] rfl rfl rfl rfl rfl rfl rfl) rfl rfl ⟨none, 0, rfl, rfl⟩
       ·replace hr := qg h57 hr
        refine ql (n := 1) ttOK 48 [.agg [.int .i64 v52.1.op, .int .i64 v52.1.hd, .int .i64 v52.1.n, .sl 4 (Tm.encL v52.1.args)]] (ds' := (Tm.encL ([v52.1]))) rfl (by kernel_rfl) ⟨⟨rfl, rfl, rfl, ⟨[(iS v52.1.op)], _, rfl, rfl, ⟨[(iS v52.1.hd)], _, rfl, rfl, ⟨[(iS v52.1.n)], _, rfl, rfl, ⟨[(tU v52.1.args a61 c61)], _, rfl, (.inl ⟨_, rfl, qr (j := 4) rfl⟩), rfl⟩⟩⟩⟩⟩, trivial⟩ rfl (by simp only [Tm.encL_eq, List.map_cons, List.map_nil, Tm.enc_eq] <;> rfl) (by decide) (by decide) ?_
        intro a58
        obtain ⟨h59, hr⟩ := qm hr
        refine qu (ds' := (Tm.encL (v27.args ++ [v52.1]))) ttOK 48 0 5 rfl (by kernel_rfl) rfl rfl rfl rfl (by simp only [Tm.encL_eq, List.map_append]) h59 (by decide) ?_
        intro a60 c60
        exact ⟨(n, v52.2.2, (Tm.mk v27.op v27.hd v27.n (v27.args ++ [v52.1])), a60, c60, (IntKind.i64.wrap (v29 + 1))), ⟨by omega, hr⟩, Nat.lt_succ_self _, ⟨rfl, rfl, rfl, rfl, rfl, rfl, rfl, rfl, trivial⟩, (StLe.gen 6 [.old 0] [.old 0, .old 1, .old 2] rfl rfl rfl rfl rfl rfl rfl)⟩
    ·replace hr := qg h30 hr
     refine AtIf.mk (fun h62 => ?_) (fun h62 => ?_)
     ·replace hr := qf h62 hr
      obtain ⟨v63, h64, hr⟩ := bind_some hr
      refine Meets.le (S' := ⟨[.cells 231 [(iS v26.n)], .cells 47 [(iS v1.op), (iS v1.hd), (iS v1.n), (tU v1.args a2 c2)], .cells 47 [(iS v4.op), (iS v4.hd), (iS v4.n), (tU v4.args a5 c5)], .cells 235 [(.v (.slice a7 ((Sm.encL v6.args).length) c7)), (iS v6.con)], .cells 47 [(iS 0), (iS 0), (iS 0), (.v (.slice none 0 0))], .cells 47 [(iS v27.op), (iS v27.hd), (iS v27.n), (tU v27.args a28 c28)]], [], [(tQ v27.args a28 c28), (tQ v1.args a2 c2), (tQ v4.args a5 c5), (.slice a7 ((Sm.encL v6.args).length) c7, .sl 2 (Sm.encL v6.args))]⟩) (StLe.gen 6 [] [.froz 0, .old 0, .old 1, .old 2] rfl rfl rfl rfl rfl rfl rfl) rfl ?_
      refine (qb1 n v27 a28 c28 _ h64).atR [0] rfl rfl rfl ?_
      rintro _ _ ⟨a65, c65, rfl, rfl⟩
      replace hr := osi hr; subst hr
      exact AtRet.gen ⟨[.cells 231 [(iS v26.n)]], [], [(tQ v63.1.args a65 c65)]⟩ (StLe.gen 1 [] [.old 4] rfl rfl rfl rfl rfl rfl rfl) rfl rfl ⟨a65, c65, rfl, rfl⟩
     ·replace hr := qg h62 hr
      refine AtIf.mk (fun h66 => ?_) (fun h66 => ?_)
      ·replace hr := qf h66 hr
       obtain ⟨v67, h68, hr⟩ := bind_some hr
       refine Meets.le (S' := ⟨[.cells 231 [(iS v26.n)], .cells 47 [(iS v1.op), (iS v1.hd), (iS v1.n), (tU v1.args a2 c2)], .cells 47 [(iS v4.op), (iS v4.hd), (iS v4.n), (tU v4.args a5 c5)], .cells 235 [(.v (.slice a7 ((Sm.encL v6.args).length) c7)), (iS v6.con)], .cells 47 [(iS 0), (iS 0), (iS 0), (.v (.slice none 0 0))], .cells 47 [(iS v27.op), (iS v27.hd), (iS (IntKind.i64.wrap (v1.n - 1))), (tU v27.args a28 c28)]], [], [(tQ v27.args a28 c28), (tQ v1.args a2 c2), (tQ v4.args a5 c5), (.slice a7 ((Sm.encL v6.args).length) c7, .sl 2 (Sm.encL v6.args))]⟩) (StLe.gen 6 [] [.froz 0, .old 0, .old 1, .old 2] rfl rfl rfl rfl rfl rfl rfl) rfl ?_
       refine (qb1 n (Tm.mk v27.op v27.hd (IntKind.i64.wrap (v1.n - 1)) v27.args) a28 c28 _ h68).atR [0] rfl rfl rfl ?_
       rintro _ _ ⟨a69, c69, rfl, rfl⟩
       replace hr := osi hr; subst hr
       exact AtRet.gen ⟨[.cells 231 [(iS v26.n)]], [], [(tQ v67.1.args a69 c69)]⟩ (StLe.gen 1 [] [.old 4] rfl rfl rfl rfl rfl rfl rfl) rfl rfl ⟨a69, c69, rfl, rfl⟩
      ·replace hr := qg h66 hr
       obtain ⟨v70, h71, hr⟩ := bind_some hr
       refine (qhs n v4 v3 a5 c5 _ h71).atR [1] rfl rfl rfl ?_
       rintro _ _ ⟨a72, c72, rfl, rfl⟩
       obtain ⟨v73, h74, hr⟩ := bind_some hr
       refine (qb1 n v70 a72 c72 _ h74).atR [3] rfl rfl rfl ?_
       rintro _ _ ⟨a75, c75, rfl, rfl⟩
       refine AtIf.mk (fun h76 => ?_) (fun h76 => ?_)
       ·replace hr := qf h76 hr
        replace hr := osi hr; subst hr
        exact AtRet.gen ⟨[.cells 231 [(iS v26.n)]], [], [(.slice none 0 0, .sl 4 [])]⟩ (StLe.gen 1 [] [.nil 4] rfl rfl rfl rfl rfl rfl rfl) rfl rfl ⟨none, 0, rfl, rfl⟩
       ·replace hr := qg h76 hr
        obtain ⟨v77, h78, hr⟩ := bind_some hr
        refine Meets.le (S' := ⟨[.cells 231 [(iS v26.n)], .cells 47 [(iS v1.op), (iS v1.hd), (iS v1.n), (tU v1.args a2 c2)], .cells 47 [(iS v4.op), (iS v4.hd), (iS v4.n), (tU v4.args a5 c5)], .cells 235 [(.v (.slice a7 ((Sm.encL v6.args).length) c7)), (iS v6.con)], .cells 47 [(iS 0), (iS 0), (iS 0), (.v (.slice none 0 0))], .cells 47 [(iS v27.op), (iS v27.hd), (iS v27.n), (tU v27.args a28 c28)], .cells 47 [(iS v73.1.op), (iS v73.1.hd), (iS v73.1.n), (tU v73.1.args a75 c75)]], [], [(tQ v27.args a28 c28), (tQ v1.args a2 c2), (tQ v4.args a5 c5), (.slice a7 ((Sm.encL v6.args).length) c7, .sl 2 (Sm.encL v6.args)), (tQ v70.args a72 c72), (tQ v73.1.args a75 c75)]⟩) (StLe.gen 7 [] [.froz 0, .old 0, .old 1, .old 2, .old 3, .old 4] rfl rfl rfl rfl rfl rfl rfl) rfl ?_
        refine (ih2 n (by omega) v73.1 v27.args v6 v26 a75 c75 a28 c28 a7 c7 _ h78).frameR [0] [5, 0, 3] rfl rfl rfl rfl rfl rfl rfl rfl ?_
        rintro _ _ ⟨a79, c79, rfl, rfl⟩
        refine ⟨rfl, rfl, [.cells 231 [(iS v77.2.2.n)]], rfl, ?_⟩
        replace hr := osi hr; subst hr
        exact AtRet.gen ⟨[.cells 231 [(iS v77.2.2.n)]], [], [(tQ v77.1.args a79 c79)]⟩ (StLe.gen 1 [] [.old 6] rfl rfl rfl rfl rfl rfl rfl) rfl rfl ⟨a79, c79, rfl, rfl⟩
  ·
   intro n hn v1 v3 v5 v7 a2 c2 a4 c4 a6 c6 r hr
   rcases n with _ | n
   ·exact qe hr
   replace hn : n ≤ N := by omega
   rw [R04_count_apply.eq_2] at hr
   refine qb (N := 62) (m := 1) (dt := drawsOf [(5, .node [0, 1, 2, 3, 4, 5, 6, 7, 8, 9, 10, 11] [(12, .node [13, 14, 15] [(16, .node [] [(17, .leaf [18])])]), (16, .node [] [(12, .node [13, 14, 15] [(17, .leaf [18])])])], [12], [7]), (8, .node [0, 1, 2, 3, 4, 5, 6, 7, 8, 9] [(10, .node [11, 12] [(13, .leaf [14])])], [10, 13], [])]) [] ttOK func204 rfl call204 ntmps204 rfl rfl rfl mixed (by kernel_rfl) ?_
   refine AtIf.mk (fun h8 => ?_) (fun h8 => ?_)
   ·replace hr := qf h8 hr
    obtain ⟨v9, h10, hr⟩ := bind_some hr
    refine (qb1 n v1 a2 c2 _ h10).atR [0] rfl rfl rfl ?_
    rintro _ _ ⟨a11, c11, rfl, rfl⟩
    replace hr := osi hr; subst hr
    exact AtRet.gen ⟨[.cells 231 [(iS v7.n)]], [], [(tQ v9.1.args a11 c11)]⟩ (StLe.gen 1 [] [.old 3] rfl rfl rfl rfl rfl rfl rfl) rfl rfl ⟨a11, c11, rfl, rfl⟩
   ·replace hr := qg h8 hr
    refine AtIf.mk (fun h12 => ?_) (fun h12 => ?_)
    ·replace hr := qf h12 hr
     replace hr := osi hr; subst hr
     exact AtRet.gen ⟨[.cells 231 [(iS v7.n)]], [], [(.slice none 0 0, .sl 4 [])]⟩ (StLe.gen 1 [] [.nil 4] rfl rfl rfl rfl rfl rfl rfl) rfl rfl ⟨none, 0, rfl, rfl⟩
    ·replace hr := qg h12 hr
     obtain ⟨v13, h14, hr⟩ := bind_some hr
     obtain ⟨h15, h16⟩ := qi h14
     obtain ⟨v18, h19, hr⟩ := bind_some hr
     obtain ⟨h20, h21⟩ := qi h19
     obtain ⟨v23, h24, hr⟩ := bind_some hr
     obtain ⟨h25, h26⟩ := qi h24
     obtain ⟨v28, h29, hr⟩ := bind_some hr
     refine qd ttOK 0 rfl rfl rfl rfl h15 (Tm.encL_get h16) ?_
     intro a31 c31 _ _
     refine qd ttOK 1 rfl rfl rfl rfl h20 (Tm.encL_get h21) ?_
     intro a32 c32 _ _
     refine qd ttOK 2 rfl rfl rfl rfl h25 (Sm.encL_get h26) ?_
     intro a33 c33 _ _
     refine ⟨?_, ?_⟩
     ·
      refine (ih1 n (by omega) v13 0 v18 v23 v7 a31 c31 a32 c32 a33 c33 _ h29).frameR [0] [3, 4, 5] rfl rfl rfl rfl rfl rfl rfl rfl ?_
      rintro _ _ ⟨a34, c34, rfl, rfl⟩
      refine ⟨rfl, rfl, [.cells 231 [(iS v28.2.2.n)]], rfl, ?_⟩
      refine ⟨OwnKeptBut.append, ?_⟩
      refine ⟨fun _ _ h => h, ?_⟩
      refine AtIf.mk (fun h35 => ?_) (fun h35 => ?_)
      ·replace hr := qf h35 hr
       replace hr := osi hr; subst hr
       exact AtRet.gen ⟨[.cells 231 [(iS v28.2.2.n)]], [], [(.slice none 0 0, .sl 4 [])]⟩ (StLe.gen 1 [] [.nil 4] rfl rfl rfl rfl rfl rfl rfl) rfl rfl ⟨none, 0, rfl, rfl⟩
      ·replace hr := qg h35 hr
       obtain ⟨h36, hr⟩ := qm hr
       refine qb7 ttOK 1 1 ((Tm.encL v3).length : Int) (ds' := (Tm.encL (v3.drop (1 : Int).toNat))) rfl rfl rfl (.inl ⟨_, rfl⟩) (.inr ⟨rfl, rfl⟩) h36 (by simp only [Tm.encL_eq]; exact sl_l ..) ?_
       intro a37 c37
       obtain ⟨h38, hr⟩ := qm hr
       refine qb7 ttOK 2 1 ((Sm.encL v5.args).length : Int) (ds' := (Sm.encL (v5.args.drop (1 : Int).toNat))) rfl rfl rfl (.inl ⟨_, rfl⟩) (.inr ⟨rfl, rfl⟩) h38 (by simp only [Sm.encL_eq]; exact sl_l ..) ?_
       intro a39 c39
       obtain ⟨v40, h41, hr⟩ := bind_some hr
       refine (ih2 n (by omega) v28.1 (v3.drop (1 : Int).toNat) (Sm.mk (v5.args.drop (1 : Int).toNat) v5.con) v28.2.2 a34 c34 a37 c37 a39 c39 _ h41).frameR [0] [6, 7, 8] rfl rfl rfl rfl rfl rfl rfl rfl ?_
       rintro _ _ ⟨a42, c42, rfl, rfl⟩
       refine ⟨rfl, rfl, [.cells 231 [(iS v40.2.2.n)]], rfl, ?_⟩
       replace hr := osi hr; subst hr
       exact AtRet.gen ⟨[.cells 231 [(iS v40.2.2.n)]], [], [(tQ v40.1.args a42 c42)]⟩ (StLe.gen 1 [] [.old 9] rfl rfl rfl rfl rfl rfl rfl) rfl rfl ⟨a42, c42, rfl, rfl⟩
     ·
      refine ⟨OwnKeptBut.append, ?_⟩
      refine (ih1 n (by omega) v13 0 v18 v23 v7 a31 c31 a32 c32 a33 c33 _ h29).frameR [0] [3, 4, 5] rfl rfl rfl rfl rfl rfl rfl rfl ?_
      rintro _ _ ⟨a43, c43, rfl, rfl⟩
      refine ⟨rfl, rfl, [.cells 231 [(iS v28.2.2.n)]], rfl, ?_⟩
      refine ⟨fun _ _ h => h, ?_⟩
      refine AtIf.mk (fun h35 => ?_) (fun h35 => ?_)
      ·replace hr := qf h35 hr
       replace hr := osi hr; subst hr
       exact AtRet.gen ⟨[.cells 231 [(iS v28.2.2.n)]], [], [(.slice none 0 0, .sl 4 [])]⟩ (StLe.gen 1 [] [.nil 4] rfl rfl rfl rfl rfl rfl rfl) rfl rfl ⟨none, 0, rfl, rfl⟩
      ·replace hr := qg h35 hr
       obtain ⟨h36, hr⟩ := qm hr
       refine qb7 ttOK 1 1 ((Tm.encL v3).length : Int) (ds' := (Tm.encL (v3.drop (1 : Int).toNat))) rfl rfl rfl (.inl ⟨_, rfl⟩) (.inr ⟨rfl, rfl⟩) h36 (by simp only [Tm.encL_eq]; exact sl_l ..) ?_
       intro a37 c37
       obtain ⟨h38, hr⟩ := qm hr
       refine qb7 ttOK 2 1 ((Sm.encL v5.args).length : Int) (ds' := (Sm.encL (v5.args.drop (1 : Int).toNat))) rfl rfl rfl (.inl ⟨_, rfl⟩) (.inr ⟨rfl, rfl⟩) h38 (by simp only [Sm.encL_eq]; exact sl_l ..) ?_
       intro a39 c39
       obtain ⟨v40, h41, hr⟩ := bind_some hr
       refine (ih2 n (by omega) v28.1 (v3.drop (1 : Int).toNat) (Sm.mk (v5.args.drop (1 : Int).toNat) v5.con) v28.2.2 a43 c43 a37 c37 a39 c39 _ h41).frameR [0] [6, 7, 8] rfl rfl rfl rfl rfl rfl rfl rfl ?_
       rintro _ _ ⟨a42, c42, rfl, rfl⟩
       refine ⟨rfl, rfl, [.cells 231 [(iS v40.2.2.n)]], rfl, ?_⟩
       replace hr := osi hr; subst hr
       exact AtRet.gen ⟨[.cells 231 [(iS v40.2.2.n)]], [], [(tQ v40.1.args a42 c42)]⟩ (StLe.gen 1 [] [.old 9] rfl rfl rfl rfl rfl rfl rfl) rfl rfl ⟨a42, c42, rfl, rfl⟩
theorem qf7 (n : Nat) (v1 : Tm) (v3 : Int) (v4 : Tm) (v6 : Sm) (v8 : Ct) (a2 : OA) (c2 : Nat) (a5 : OA) (c5 : Nat) (a7 : OA) (c7 : Nat) (r : Tm × Int × Ct) (hr : R04_count_put n v1 v3 v4 v6 v8 = some r) : Meets Tryz.prog (.val (.fn (.func 199) [] [])) [(.loc 0 0), (.agg [(iS v1.op), (iS v1.hd), (iS v1.n), (tU v1.args a2 c2)]), (iS v3), (.agg [(iS v4.op), (iS v4.hd), (iS v4.n), (tU v4.args a5 c5)]), (.agg [(.v (.slice a7 ((Sm.encL v6.args).length) c7)), (iS v6.con)])] ⟨[.cells 231 [(iS v8.n)]], [], [(tQ v1.args a2 c2), (tQ v4.args a5 c5), (.slice a7 ((Sm.encL v6.args).length) c7, .sl 2 (Sm.encL v6.args))]⟩ (fun o S' => ∃ (b1 : OA) (d1 : Nat), o = .ret (.tup [(.agg [(iS r.1.op), (iS r.1.hd), (iS r.1.n), (tU r.1.args b1 d1)]), (iS r.2.1)]) ∧ S' = ⟨[.cells 231 [(iS r.2.2.n)]], [], [(tQ r.1.args b1 d1)]⟩) := (qfd n).1 n (Nat.le_refl _) v1 v3 v4 v6 v8 a2 c2 a5 c5 a7 c7 r hr
def R04_count_step : Nat → Tm → Tm → Ct → Option (Tm × Int × Ct)
 | 0, _, _, _ => none
 | n + 1, v1, v3, v5 =>
  cond (v1.op != 2) (
  some ((Tm.mk 0 0 0 ([])), 23, v5)) (
  (idx v1.args 0).bind (fun v7 =>
  (R03_Simple n v7).bind (fun v12 =>
  cond (!v12.2) (
  some ((Tm.mk 0 0 0 ([])), 22, v5)) (
  (R04_Small n v12.1).bind (fun v16 =>
  cond (!v16) (
  some ((Tm.mk 0 0 0 ([])), 2, v5)) (
  (idx v1.args 1).bind (fun v19 =>
  (R04_count_put n v19 0 v3 v12.1 v5).bind (fun v24 =>
  some (v24.1, v24.2.1, v24.2.2)))))))))
theorem qcz (n : Nat) (v1 : Tm) (v3 : Tm) (v5 : Ct) (a2 : OA) (c2 : Nat) (a4 : OA) (c4 : Nat) (r : Tm × Int × Ct) (hr : R04_count_step n v1 v3 v5 = some r) : Meets Tryz.prog (.val (.fn (.func 195) [] [])) [(.loc 0 0), (.agg [(iS v1.op), (iS v1.hd), (iS v1.n), (tU v1.args a2 c2)]), (.agg [(iS v3.op), (iS v3.hd), (iS v3.n), (tU v3.args a4 c4)])] ⟨[.cells 231 [(iS v5.n)]], [], [(tQ v1.args a2 c2), (tQ v3.args a4 c4)]⟩ (fun o S' => ∃ (b1 : OA) (d1 : Nat), o = .ret (.tup [(.agg [(iS r.1.op), (iS r.1.hd), (iS r.1.n), (tU r.1.args b1 d1)]), (iS r.2.1)]) ∧ S' = ⟨[.cells 231 [(iS r.2.2.n)]], [], [(tQ r.1.args b1 d1)]⟩) := by
 rcases n with _ | n
 ·exact qe hr
 rw [R04_count_step.eq_2] at hr
 refine qb (N := 39) (m := 1) (dt := drawsOf [(8, .node [0, 1, 2, 3, 4, 5, 6] [(7, .node [8, 9] [(10, .leaf [11])])], [7, 10], [])]) [] ttOK func195 rfl call195 ntmps195 rfl rfl rfl mixed (by kernel_rfl) ?_
 refine AtIf.mk (fun h6 => ?_) (fun h6 => ?_)
 ·replace hr := qf h6 hr
  replace hr := osi hr; subst hr
  exact AtRet.gen ⟨[.cells 231 [(iS v5.n)]], [], [(.slice none 0 0, .sl 4 [])]⟩ (StLe.gen 1 [] [.nil 4] rfl rfl rfl rfl rfl rfl rfl) rfl rfl ⟨none, 0, rfl, rfl⟩
 ·replace hr := qg h6 hr
  obtain ⟨v7, h8, hr⟩ := bind_some hr
  obtain ⟨h9, h10⟩ := qi h8
  refine qd ttOK 0 rfl rfl rfl rfl h9 (Tm.encL_get h10) ?_
  intro a11 c11 _ _
  obtain ⟨v12, h13, hr⟩ := bind_some hr
  refine (qiq n v7 a11 c11 _ h13).atR [2] rfl rfl rfl ?_
  rintro _ _ ⟨a14, c14, rfl, rfl⟩
  refine AtIf.mk (fun h15 => ?_) (fun h15 => ?_)
  ·replace hr := qf h15 hr
   replace hr := osi hr; subst hr
   exact AtRet.gen ⟨[.cells 231 [(iS v5.n)]], [], [(.slice none 0 0, .sl 4 [])]⟩ (StLe.gen 1 [] [.nil 4] rfl rfl rfl rfl rfl rfl rfl) rfl rfl ⟨none, 0, rfl, rfl⟩
  ·replace hr := qg h15 hr
   obtain ⟨v16, h17, hr⟩ := bind_some hr
   refine (qke n v12.1 a14 c14 _ h17).atR [3] rfl rfl rfl ?_
   rintro _ _ ⟨rfl, rfl⟩
   refine AtIf.mk (fun h18 => ?_) (fun h18 => ?_)
   ·replace hr := qf h18 hr
    replace hr := osi hr; subst hr
    exact AtRet.gen ⟨[.cells 231 [(iS v5.n)]], [], [(.slice none 0 0, .sl 4 [])]⟩ (StLe.gen 1 [] [.nil 4] rfl rfl rfl rfl rfl rfl rfl) rfl rfl ⟨none, 0, rfl, rfl⟩
   ·replace hr := qg h18 hr
    obtain ⟨v19, h20, hr⟩ := bind_some hr
    obtain ⟨h21, h22⟩ := qi h20
    refine qd ttOK 0 rfl rfl rfl rfl h21 (Tm.encL_get h22) ?_
    intro a23 c23 _ _
    obtain ⟨v24, h25, hr⟩ := bind_some hr
    refine (qf7 n v19 0 v3 v12.1 v5 a23 c23 a4 c4 a14 c14 _ h25).frameR [0] [4, 1, 3] rfl rfl rfl rfl rfl rfl rfl rfl ?_
    rintro _ _ ⟨a26, c26, rfl, rfl⟩
    refine ⟨rfl, rfl, [.cells 231 [(iS v24.2.2.n)]], rfl, ?_⟩
    replace hr := osi hr; subst hr
    exact AtRet.gen ⟨[.cells 231 [(iS v24.2.2.n)]], [], [(tQ v24.1.args a26 c26)]⟩ (StLe.gen 1 [] [.old 5] rfl rfl rfl rfl rfl rfl rfl) rfl rfl ⟨a26, c26, rfl, rfl⟩
mutual
def R04_Instance : Nat → Tm → (List Tm) → Option (Tm × Int)
 | 0, _, _ => none
 | n + 1, v1, v3 =>
  cond (!(refProper v1)) (
  some ((Tm.mk 0 0 0 ([])), 2)) (
  (R04_list n v3).bind (fun v6 =>
  cond (!v6) (
  some ((Tm.mk 0 0 0 ([])), 2)) (
  R04_Instance_L1 n v3 v1 (Ct.mk 0) 0)))
def R04_Instance_L1 : Nat → (List Tm) → Tm → Ct → Int → Option (Tm × Int)
 | 0, _, _, _, _ => none
 | n + 1, v3, v21, v23, v24 =>
  cond (decide (v24 < ((Tm.encL v3).length : Int))) (
  (idx v3 v24).bind (fun v26 =>
  (R04_count_step n v21 v26 v23).bind (fun v31 =>
  cond (v31.2.1 != 0) (
  some ((Tm.mk 0 0 0 ([])), v31.2.1)) (
  R04_Instance_L1 n v3 v31.1 v31.2.2 (IntKind.i64.wrap (v24 + 1)))))) (
  some (v21, 0))
 end
theorem qbv (n : Nat) (v1 : Tm) (v3 : (List Tm)) (a2 : OA) (c2 : Nat) (a4 : OA) (c4 : Nat) (r : Tm × Int) (hr : R04_Instance n v1 v3 = some r) : Pure Tryz.prog (.val (.fn (.func 189) [] [])) [(.agg [(iS v1.op), (iS v1.hd), (iS v1.n), (tU v1.args a2 c2)]), (tU v3 a4 c4)] [(tQ v1.args a2 c2), (tQ v3 a4 c4)] (fun r' out => ∃ (b1 : OA) (d1 : Nat), r' = (.tup [(.agg [(iS r.1.op), (iS r.1.hd), (iS r.1.n), (tU r.1.args b1 d1)]), (iS r.2)]) ∧ out = [(tQ r.1.args b1 d1)]) := by
 rcases n with _ | n
 ·exact qe hr
 rw [R04_Instance.eq_2] at hr
 refine qb (N := 43) (m := 0) (dt := drawsOf [(7, .node [0, 1, 2, 3, 4, 5] [(6, .node [7, 8, 9] [(10, .node [] [(11, .leaf [12])])]), (10, .node [] [(6, .node [7, 8, 9] [(11, .leaf [12])])])], [6], [4])]) [] ttOK func189 rfl call189 ntmps189 rfl rfl rfl mixed (by kernel_rfl) ?_
 refine (qa2 v1 a2 c2).atR [0] rfl rfl rfl ?_
 rintro _ _ ⟨rfl, rfl⟩
 refine AtGuard.mk (fun h5 => ?_) (fun h5 => ?_)
 ·replace hr := qg h5 hr
  obtain ⟨v6, h7, hr⟩ := bind_some hr
  refine (ql3 n v3 a4 c4 _ h7).atR [1] rfl rfl rfl ?_
  rintro _ _ ⟨rfl, rfl⟩
  refine AtIf.mk (fun h8 => ?_) (fun h8 => ?_)
  ·replace hr := qf h8 hr
   replace hr := osi hr; subst hr
   exact qa [.nil 4] [(.slice none 0 0, .sl 4 [])] rfl rfl ⟨none, 0, rfl, rfl⟩
  ·replace hr := qg h8 hr
   refine AtLoop.mk ⟨Nat × Tm × Option Addr × Nat × Ct × Int, fun x => [(1, (tU v3 a4 c4)), (2, (.loc 0 0)), (4, (.loc 1 0)), (6, (.loc 2 0)), (7, (iS x.2.2.2.2.2))], fun x => ⟨[.cells 47 [(iS x.2.1.op), (iS x.2.1.hd), (iS x.2.1.n), (tU x.2.1.args x.2.2.1 x.2.2.2.1)], .cells 47 [(iS 0), (iS 0), (iS 0), (.v (.slice none 0 0))], .cells 231 [(iS x.2.2.2.2.1.n)]], [], [(tQ x.2.1.args x.2.2.1 x.2.2.2.1), (tQ v1.args a2 c2), (tQ v3 a4 c4)]⟩, fun x => R04_Instance_L1 x.1 v3 x.2.1 x.2.2.2.2.1 x.2.2.2.2.2 = some r, fun x => x.1, (n, v1, a2, c2, (Ct.mk 0), 0), hr, ⟨rfl, rfl, rfl, rfl, rfl, trivial⟩, (StLe.gen 3 [] [.old 0, .old 0, .old 1] rfl rfl rfl rfl rfl rfl rfl), fun x _ => ⟨rfl, rfl⟩, ?_⟩
   rintro ⟨n, v21, a22, c22, v23, v24⟩ HH
   have hr : R04_Instance_L1 n v3 v21 v23 v24 = some r := HH
   rcases n with _ | n
   ·exact qe hr
   rw [R04_Instance_L1.eq_2] at hr
   refine AtIf.mk (fun h25 => ?_) (fun h25 => ?_)
   ·replace hr := qf h25 hr
    obtain ⟨v26, h27, hr⟩ := bind_some hr
    obtain ⟨h28, h29⟩ := qi h27
    obtain ⟨v31, h32, hr⟩ := bind_some hr
    refine qd ttOK 2 rfl rfl rfl rfl h28 (Tm.encL_get h29) ?_
    intro a34 c34 _ _
    refine ⟨?_, ?_⟩
    ·
     refine (qcz n v21 v26 v23 a22 c22 a34 c34 _ h32).frameR [2] [0, 3] rfl rfl rfl rfl rfl rfl rfl rfl ?_
     rintro _ _ ⟨a35, c35, rfl, rfl⟩
     refine ⟨rfl, rfl, [.cells 231 [(iS v31.2.2.n)]], rfl, ?_⟩
     refine ⟨OwnKeptBut.append, ?_⟩
     refine ⟨fun _ _ h => h, ?_⟩
     refine AtIf.mk (fun h36 => ?_) (fun h36 => ?_)
     ·replace hr := qf h36 hr
      replace hr := osi hr; subst hr
      exact qa [.nil 4] [(.slice none 0 0, .sl 4 [])] rfl rfl ⟨none, 0, rfl, rfl⟩
     ·replace hr := qg h36 hr
      exact ⟨(n, v31.1, a35, c35, v31.2.2, (IntKind.i64.wrap (v24 + 1))), hr, Nat.lt_succ_self _, ⟨rfl, rfl, rfl, rfl, rfl, trivial⟩, (StLe.gen 3 [] [.old 4, .old 1, .old 2] rfl rfl rfl rfl rfl rfl rfl)⟩
    ·
     refine ⟨OwnKeptBut.append, ?_⟩
     refine (qcz n v21 v26 v23 a22 c22 a34 c34 _ h32).frameR [2] [0, 3] rfl rfl rfl rfl rfl rfl rfl rfl ?_
     rintro _ _ ⟨a37, c37, rfl, rfl⟩
     refine ⟨rfl, rfl, [.cells 231 [(iS v31.2.2.n)]], rfl, ?_⟩
     refine ⟨fun _ _ h => h, ?_⟩
     refine AtIf.mk (fun h36 => ?_) (fun h36 => ?_)
     ·replace hr := qf h36 hr
      replace hr := osi hr; subst hr
      exact qa [.nil 4] [(.slice none 0 0, .sl 4 [])] rfl rfl ⟨none, 0, rfl, rfl⟩
     ·replace hr := qg h36 hr
      exact ⟨(n, v31.1, a37, c37, v31.2.2, (IntKind.i64.wrap (v24 + 1))), hr, Nat.lt_succ_self _, ⟨rfl, rfl, rfl, rfl, rfl, trivial⟩, (StLe.gen 3 [] [.old 4, .old 1, .old 2] rfl rfl rfl rfl rfl rfl rfl)⟩
   ·replace hr := qg h25 hr
    replace hr := osi hr; subst hr
    exact qa [.old 0] [(tQ v21.args a22 c22)] rfl rfl ⟨a22, c22, rfl, rfl⟩
 ·replace hr := qf h5 hr
  refine AtIf.mk (fun _ => ?_) (fun h => tf h)
  replace hr := osi hr; subst hr
  exact qa [.nil 4] [(.slice none 0 0, .sl 4 [])] rfl rfl ⟨none, 0, rfl, rfl⟩
mutual
def R06_Kernel_fits : Nat → Kn → (List Tm) → (List Tm) → Tm → Option (Tm × Int)
 | 0, _, _, _, _ => none
 | n + 1, v1, v4, v6, v8 =>
  R06_Kernel_fits_L1 n v6 v1 v4 v8 0
def R06_Kernel_fits_L1 : Nat → (List Tm) → Kn → (List Tm) → Tm → Int → Option (Tm × Int)
 | 0, _, _, _, _, _ => none
 | n + 1, v6, v1, v4, v38, v40 =>
  cond (decide (v40 < ((Tm.encL v6).length : Int))) (
  cond (v38.op != 2) (
  some ((Tm.mk 0 0 0 ([])), 23)) (
  (idx v6 v40).bind (fun v43 =>
  (idx v38.args 0).bind (fun v48 =>
  (R06_Kernel_Object n v1 v4 v43 v48).bind (fun v53 =>
  cond (v53 != 0) (
  some ((Tm.mk 0 0 0 ([])), v53)) (
  (idx v6 v40).bind (fun v56 =>
  (R04_Instance n v38 ([v56])).bind (fun v62 =>
  cond (v62.2 != 0) (
  some ((Tm.mk 0 0 0 ([])), v62.2)) (
  R06_Kernel_fits_L1 n v6 v1 v4 v62.1 (IntKind.i64.wrap (v40 + 1))))))))))) (
  some (v38, 0))
def R06_Kernel_Object : Nat → Kn → (List Tm) → Tm → Tm → Option (Int)
 | 0, _, _, _, _ => none
 | n + 1, v1, v4, v6, v8 =>
  cond (v8.op == 2) (
  cond (v6.op == 4) (
  some (23)) (
  cond (v6.op != 3) (
  some (22)) (
  (idx v8.args 0).bind (fun v13 =>
  (R06_longer n v4 v13).bind (fun v18 =>
  cond (v18.2 != 0) (
  some (v18.2)) (
  (idx v6.args 0).bind (fun v22 =>
  (idx v8.args 1).bind (fun v27 =>
  (R06_Kernel_Object n v1 v18.1 v22 v27).bind (fun v32 =>
  some (v32)))))))))) (
  cond (v8.op == 4) (
  cond (v6.op == 3) (
  some (23)) (
  (R06_Kernel_Infer n v1 v4 v6).bind (fun v36 =>
  cond (v36.2 != 0) (
  some (v36.2)) (
  cond (!(sameF v8 v36.1)) (
  some (24)) (
  some (0)))))) (
  some (22)))
def R06_Kernel_Infer : Nat → Kn → (List Tm) → Tm → Option (Tm × Int)
 | 0, _, _, _ => none
 | n + 1, v1, v4, v6 =>
  cond (v6.op != 4) (
  some ((Tm.mk 0 0 0 ([])), 22)) (
  (R06_Kernel_class n v1 v4 v6).bind (fun v9 =>
  cond (v9.2 != 0) (
  some ((Tm.mk 0 0 0 ([])), v9.2)) (
  (R06_Kernel_fits n v1 v4 v6.args v9.1).bind (fun v13 =>
  cond (v13.2 != 0) (
  some ((Tm.mk 0 0 0 ([])), v13.2)) (
  cond (v13.1.op == 2) (
  some ((Tm.mk 0 0 0 ([])), 23)) (
  some (v13.1, 0)))))))
 end
theorem qd7 : ∀ (N : Nat), (∀ (n : Nat), n ≤ N → ∀ (v1 : Kn) (v4 : (List Tm)) (v6 : (List Tm)) (v8 : Tm) (a2 : OA) (c2 : Nat) (a3 : OA) (c3 : Nat) (a5 : OA) (c5 : Nat) (a7 : OA) (c7 : Nat) (a9 : OA) (c9 : Nat) (r : Tm × Int), R06_Kernel_fits n v1 v4 v6 v8 = some r → Pure Tryz.prog (.val (.fn (.func 168) [] [])) [(.agg [(.v (.slice a2 ((Dc.encL v1.sig).length) c2)), (.v (.slice a3 ((Mt.encL v1.metas).length) c3))]), (tU v4 a5 c5), (tU v6 a7 c7), (.agg [(iS v8.op), (iS v8.hd), (iS v8.n), (tU v8.args a9 c9)])] [(.slice a2 ((Dc.encL v1.sig).length) c2, .sl 6 (Dc.encL v1.sig)), (.slice a3 ((Mt.encL v1.metas).length) c3, .sl 10 (Mt.encL v1.metas)), (tQ v4 a5 c5), (tQ v6 a7 c7), (tQ v8.args a9 c9)] (fun r' out => ∃ (b1 : OA) (d1 : Nat), r' = (.tup [(.agg [(iS r.1.op), (iS r.1.hd), (iS r.1.n), (tU r.1.args b1 d1)]), (iS r.2)]) ∧ out = [(tQ r.1.args b1 d1)])) ∧ (∀ (n : Nat), n ≤ N → ∀ (v1 : Kn) (v4 : (List Tm)) (v6 : Tm) (v8 : Tm) (a2 : OA) (c2 : Nat) (a3 : OA) (c3 : Nat) (a5 : OA) (c5 : Nat) (a7 : OA) (c7 : Nat) (a9 : OA) (c9 : Nat) (r : Int), R06_Kernel_Object n v1 v4 v6 v8 = some r → Pure Tryz.prog (.val (.fn (.func 188) [] [])) [(.agg [(.v (.slice a2 ((Dc.encL v1.sig).length) c2)), (.v (.slice a3 ((Mt.encL v1.metas).length) c3))]), (tU v4 a5 c5), (.agg [(iS v6.op), (iS v6.hd), (iS v6.n), (tU v6.args a7 c7)]), (.agg [(iS v8.op), (iS v8.hd), (iS v8.n), (tU v8.args a9 c9)])] [(.slice a2 ((Dc.encL v1.sig).length) c2, .sl 6 (Dc.encL v1.sig)), (.slice a3 ((Mt.encL v1.metas).length) c3, .sl 10 (Mt.encL v1.metas)), (tQ v4 a5 c5), (tQ v6.args a7 c7), (tQ v8.args a9 c9)] (fun r' out => r' = (iS r) ∧ out = [])) ∧ (∀ (n : Nat), n ≤ N → ∀ (v1 : Kn) (v4 : (List Tm)) (v6 : Tm) (a2 : OA) (c2 : Nat) (a3 : OA) (c3 : Nat) (a5 : OA) (c5 : Nat) (a7 : OA) (c7 : Nat) (r : Tm × Int), R06_Kernel_Infer n v1 v4 v6 = some r → Pure Tryz.prog (.val (.fn (.func 193) [] [])) [(.agg [(.v (.slice a2 ((Dc.encL v1.sig).length) c2)), (.v (.slice a3 ((Mt.encL v1.metas).length) c3))]), (tU v4 a5 c5), (.agg [(iS v6.op), (iS v6.hd), (iS v6.n), (tU v6.args a7 c7)])] [(.slice a2 ((Dc.encL v1.sig).length) c2, .sl 6 (Dc.encL v1.sig)), (.slice a3 ((Mt.encL v1.metas).length) c3, .sl 10 (Mt.encL v1.metas)), (tQ v4 a5 c5), (tQ v6.args a7 c7)] (fun r' out => ∃ (b1 : OA) (d1 : Nat), r' = (.tup [(.agg [(iS r.1.op), (iS r.1.hd), (iS r.1.n), (tU r.1.args b1 d1)]), (iS r.2)]) ∧ out = [(tQ r.1.args b1 d1)])) := by
 intro N
 induction N with
 | zero =>
  refine ⟨?_, ?_, ?_⟩
  ·intro n hn v1 v4 v6 v8 a2 c2 a3 c3 a5 c5 a7 c7 a9 c9 r hr; obtain rfl : n = 0 := (by omega); exact qe hr
  ·intro n hn v1 v4 v6 v8 a2 c2 a3 c3 a5 c5 a7 c7 a9 c9 r hr; obtain rfl : n = 0 := (by omega); exact qe hr
  ·intro n hn v1 v4 v6 a2 c2 a3 c3 a5 c5 a7 c7 r hr; obtain rfl : n = 0 := (by omega); exact qe hr
 | succ N ih =>
  obtain ⟨ih1, ih2, ih3⟩ := ih
  refine ⟨?_, ?_, ?_⟩
  ·
   intro n hn v1 v4 v6 v8 a2 c2 a3 c3 a5 c5 a7 c7 a9 c9 r hr
   rcases n with _ | n
   ·exact qe hr
   replace hn : n ≤ N := by omega
   rw [R06_Kernel_fits.eq_2] at hr
   refine qb (N := 55) (m := 0) (dt := drawsOf [(6, .node [0, 1, 2, 3, 4, 5, 6, 7, 8, 9] [(10, .leaf [11])], [10], []), (9, .node [0, 1, 2, 3, 4] [(5, .node [] [(6, .node [7, 8, 9] [(10, .node [] [(11, .leaf [12])])]), (10, .node [] [(6, .node [7, 8, 9] [(11, .leaf [12])])])]), (10, .node [] [(5, .node [] [(6, .node [7, 8, 9] [(11, .leaf [12])])])])], [6], [6])]) [] ttOK func168 rfl call168 ntmps168 rfl rfl rfl mixed (by kernel_rfl) ?_
   refine AtLoop.mk ⟨Nat × Tm × Option Addr × Nat × Int, fun x => [(1, (tU v4 a5 c5)), (2, (tU v6 a7 c7)), (4, (.loc 0 0)), (7, (.loc 1 0)), (8, (.loc 2 0)), (10, (iS x.2.2.2.2))], fun x => ⟨[.cells 137 [(.v (.slice a2 ((Dc.encL v1.sig).length) c2)), (.v (.slice a3 ((Mt.encL v1.metas).length) c3))], .cells 47 [(iS x.2.1.op), (iS x.2.1.hd), (iS x.2.1.n), (tU x.2.1.args x.2.2.1 x.2.2.2.1)], .cells 47 [(iS 0), (iS 0), (iS 0), (.v (.slice none 0 0))]], [], [(tQ x.2.1.args x.2.2.1 x.2.2.2.1), (.slice a2 ((Dc.encL v1.sig).length) c2, .sl 6 (Dc.encL v1.sig)), (.slice a3 ((Mt.encL v1.metas).length) c3, .sl 10 (Mt.encL v1.metas)), (tQ v4 a5 c5), (tQ v6 a7 c7), (tQ v8.args a9 c9)]⟩, fun x => x.1 ≤ N ∧ R06_Kernel_fits_L1 x.1 v6 v1 v4 x.2.1 x.2.2.2.2 = some r, fun x => x.1, (n, v8, a9, c9, 0), ⟨by omega, hr⟩, ⟨rfl, rfl, rfl, rfl, rfl, rfl, trivial⟩, (StLe.gen 3 [] [.old 4, .old 0, .old 1, .old 2, .old 3, .old 4] rfl rfl rfl rfl rfl rfl rfl), fun x _ => ⟨rfl, rfl⟩, ?_⟩
   rintro ⟨n, v38, a39, c39, v40⟩ HH
   obtain ⟨hn, hr⟩ : n ≤ N ∧ R06_Kernel_fits_L1 n v6 v1 v4 v38 v40 = some r := HH
   rcases n with _ | n
   ·exact qe hr
   rw [R06_Kernel_fits_L1.eq_2] at hr
   refine AtIf.mk (fun h41 => ?_) (fun h41 => ?_)
   ·replace hr := qf h41 hr
    refine AtIf.mk (fun h42 => ?_) (fun h42 => ?_)
    ·replace hr := qf h42 hr
     replace hr := osi hr; subst hr
     exact qa [.nil 4] [(.slice none 0 0, .sl 4 [])] rfl rfl ⟨none, 0, rfl, rfl⟩
    ·replace hr := qg h42 hr
     obtain ⟨v43, h44, hr⟩ := bind_some hr
     obtain ⟨h45, h46⟩ := qi h44
     refine qd ttOK 4 rfl rfl rfl rfl h45 (Tm.encL_get h46) ?_
     intro a47 c47 _ _
     obtain ⟨v48, h49, hr⟩ := bind_some hr
     obtain ⟨h50, h51⟩ := qi h49
     refine qd ttOK 0 rfl rfl rfl rfl h50 (Tm.encL_get h51) ?_
     intro a52 c52 _ _
     obtain ⟨v53, h54, hr⟩ := bind_some hr
     refine (ih2 n (by omega) v1 v4 v43 v48 a2 c2 a3 c3 a5 c5 a47 c47 a52 c52 _ h54).atR [1, 2, 3, 6, 7] rfl rfl rfl ?_
     rintro _ _ ⟨rfl, rfl⟩
     refine AtIf.mk (fun h55 => ?_) (fun h55 => ?_)
     ·replace hr := qf h55 hr
      replace hr := osi hr; subst hr
      exact qa [.nil 4] [(.slice none 0 0, .sl 4 [])] rfl rfl ⟨none, 0, rfl, rfl⟩
     ·replace hr := qg h55 hr
      obtain ⟨v56, h57, hr⟩ := bind_some hr
      obtain ⟨h58, h59⟩ := qi h57
      obtain ⟨v62, h63, hr⟩ := bind_some hr
      refine qd ttOK 4 rfl rfl rfl rfl h58 (Tm.encL_get h59) ?_
      intro a65 c65 _ _
      refine ⟨?_, ?_⟩
      ·
       refine ql (n := 1) ttOK 48 [.agg [.int .i64 v56.op, .int .i64 v56.hd, .int .i64 v56.n, .sl 4 (Tm.encL v56.args)]] (ds' := (Tm.encL ([v56]))) rfl (by kernel_rfl) ⟨⟨rfl, rfl, rfl, ⟨[(iS v56.op)], _, rfl, rfl, ⟨[(iS v56.hd)], _, rfl, rfl, ⟨[(iS v56.n)], _, rfl, rfl, ⟨[(tU v56.args a65 c65)], _, rfl, (.inl ⟨_, rfl, qr (j := 8) rfl⟩), rfl⟩⟩⟩⟩⟩, trivial⟩ rfl (by simp only [Tm.encL_eq, List.map_cons, List.map_nil, Tm.enc_eq] <;> rfl) (by decide) (by decide) ?_
       intro a66
       refine ⟨fun _ _ h => h, ?_⟩
       refine ⟨?_, ?_⟩
       ·
        refine (qbv n v38 ([v56]) a39 c39 a66 1 _ h63).atR [0, 9] rfl rfl rfl ?_
        rintro _ _ ⟨a67, c67, rfl, rfl⟩
        refine ⟨OwnKeptBut.append, ?_⟩
        refine ⟨fun _ _ h => h, ?_⟩
        refine AtIf.mk (fun h68 => ?_) (fun h68 => ?_)
        ·replace hr := qf h68 hr
         replace hr := osi hr; subst hr
         exact qa [.nil 4] [(.slice none 0 0, .sl 4 [])] rfl rfl ⟨none, 0, rfl, rfl⟩
        ·replace hr := qg h68 hr
         exact ⟨(n, v62.1, a67, c67, (IntKind.i64.wrap (v40 + 1))), ⟨by omega, hr⟩, Nat.lt_succ_self _, ⟨rfl, rfl, rfl, rfl, rfl, rfl, trivial⟩, (StLe.gen 3 [] [.old 10, .old 1, .old 2, .old 3, .old 4, .old 5] rfl rfl rfl rfl rfl rfl rfl)⟩
       ·
        refine ⟨OwnKeptBut.append, ?_⟩
        refine (qbv n v38 ([v56]) a39 c39 a66 1 _ h63).atR [0, 9] rfl rfl rfl ?_
        rintro _ _ ⟨a69, c69, rfl, rfl⟩
        refine ⟨fun _ _ h => h, ?_⟩
        refine AtIf.mk (fun h68 => ?_) (fun h68 => ?_)
        ·replace hr := qf h68 hr
         replace hr := osi hr; subst hr
         exact qa [.nil 4] [(.slice none 0 0, .sl 4 [])] rfl rfl ⟨none, 0, rfl, rfl⟩
        ·replace hr := qg h68 hr
         exact ⟨(n, v62.1, a69, c69, (IntKind.i64.wrap (v40 + 1))), ⟨by omega, hr⟩, Nat.lt_succ_self _, ⟨rfl, rfl, rfl, rfl, rfl, rfl, trivial⟩, (StLe.gen 3 [] [.old 10, .old 1, .old 2, .old 3, .old 4, .old 5] rfl rfl rfl rfl rfl rfl rfl)⟩
      ·
       refine ⟨OwnKeptBut.append, ?_⟩
       refine ql (n := 1) ttOK 48 [.agg [.int .i64 v56.op, .int .i64 v56.hd, .int .i64 v56.n, .sl 4 (Tm.encL v56.args)]] (ds' := (Tm.encL ([v56]))) rfl (by kernel_rfl) ⟨⟨rfl, rfl, rfl, ⟨[(iS v56.op)], _, rfl, rfl, ⟨[(iS v56.hd)], _, rfl, rfl, ⟨[(iS v56.n)], _, rfl, rfl, ⟨[(tU v56.args a65 c65)], _, rfl, (.inl ⟨_, rfl, qr (j := 8) rfl⟩), rfl⟩⟩⟩⟩⟩, trivial⟩ rfl (by simp only [Tm.encL_eq, List.map_cons, List.map_nil, Tm.enc_eq] <;> rfl) (by decide) (by decide) ?_
       intro a70
       refine ⟨fun _ _ h => h, ?_⟩
       refine (qbv n v38 ([v56]) a39 c39 a70 1 _ h63).atR [0, 9] rfl rfl rfl ?_
       rintro _ _ ⟨a71, c71, rfl, rfl⟩
       refine ⟨fun _ _ h => h, ?_⟩
       refine AtIf.mk (fun h68 => ?_) (fun h68 => ?_)
       ·replace hr := qf h68 hr
        replace hr := osi hr; subst hr
        exact qa [.nil 4] [(.slice none 0 0, .sl 4 [])] rfl rfl ⟨none, 0, rfl, rfl⟩
       ·replace hr := qg h68 hr
        exact ⟨(n, v62.1, a71, c71, (IntKind.i64.wrap (v40 + 1))), ⟨by omega, hr⟩, Nat.lt_succ_self _, ⟨rfl, rfl, rfl, rfl, rfl, rfl, trivial⟩, (StLe.gen 3 [] [.old 10, .old 1, .old 2, .old 3, .old 4, .old 5] rfl rfl rfl rfl rfl rfl rfl)⟩
   ·replace hr := qg h41 hr
    replace hr := osi hr; subst hr
    exact qa [.old 0] [(tQ v38.args a39 c39)] rfl rfl ⟨a39, c39, rfl, rfl⟩
  ·
   intro n hn v1 v4 v6 v8 a2 c2 a3 c3 a5 c5 a7 c7 a9 c9 r hr
   rcases n with _ | n
   ·exact qe hr
   replace hn : n ≤ N := by omega
   rw [R06_Kernel_Object.eq_2] at hr
   refine qb (N := 65) (m := 0) (dt := drawsOf [(10, .node [0, 1, 2, 3, 4, 5, 6, 7, 8, 9] [(10, .leaf [11])], [10], [])]) [] ttOK func188 rfl call188 ntmps188 rfl rfl rfl mixed (by kernel_rfl) ?_
   refine AtIf.mk (fun h10 => ?_) (fun h10 => ?_)
   ·replace hr := qf h10 hr
    refine AtIf.mk (fun h11 => ?_) (fun h11 => ?_)
    ·replace hr := qf h11 hr
     replace hr := osi hr; subst hr
     exact qa [] [] rfl rfl ⟨rfl, rfl⟩
    ·replace hr := qg h11 hr
     refine AtIf.mk (fun h12 => ?_) (fun h12 => ?_)
     ·replace hr := qf h12 hr
      replace hr := osi hr; subst hr
      exact qa [] [] rfl rfl ⟨rfl, rfl⟩
     ·replace hr := qg h12 hr
      obtain ⟨v13, h14, hr⟩ := bind_some hr
      obtain ⟨h15, h16⟩ := qi h14
      refine qd ttOK 4 rfl rfl rfl rfl h15 (Tm.encL_get h16) ?_
      intro a17 c17 _ _
      obtain ⟨v18, h19, hr⟩ := bind_some hr
      refine (qea n v4 v13 a5 c5 a17 c17 _ h19).atR [2, 5] rfl rfl rfl ?_
      rintro _ _ ⟨a20, c20, rfl, rfl⟩
      refine AtIf.mk (fun h21 => ?_) (fun h21 => ?_)
      ·replace hr := qf h21 hr
       replace hr := osi hr; subst hr
       exact qa [] [] rfl rfl ⟨rfl, rfl⟩
      ·replace hr := qg h21 hr
       obtain ⟨v22, h23, hr⟩ := bind_some hr
       obtain ⟨h24, h25⟩ := qi h23
       refine qd ttOK 3 rfl rfl rfl rfl h24 (Tm.encL_get h25) ?_
       intro a26 c26 _ _
       obtain ⟨v27, h28, hr⟩ := bind_some hr
       obtain ⟨h29, h30⟩ := qi h28
       refine qd ttOK 4 rfl rfl rfl rfl h29 (Tm.encL_get h30) ?_
       intro a31 c31 _ _
       obtain ⟨v32, h33, hr⟩ := bind_some hr
       refine (ih2 n (by omega) v1 v18.1 v22 v27 a2 c2 a3 c3 a20 c20 a26 c26 a31 c31 _ h33).atR [0, 1, 6, 7, 8] rfl rfl rfl ?_
       rintro _ _ ⟨rfl, rfl⟩
       replace hr := osi hr; subst hr
       exact qa [] [] rfl rfl ⟨rfl, rfl⟩
   ·replace hr := qg h10 hr
    refine AtIf.mk (fun h34 => ?_) (fun h34 => ?_)
    ·replace hr := qf h34 hr
     refine AtIf.mk (fun h35 => ?_) (fun h35 => ?_)
     ·replace hr := qf h35 hr
      replace hr := osi hr; subst hr
      exact qa [] [] rfl rfl ⟨rfl, rfl⟩
     ·replace hr := qg h35 hr
      obtain ⟨v36, h37, hr⟩ := bind_some hr
      refine (ih3 n (by omega) v1 v4 v6 a2 c2 a3 c3 a5 c5 a7 c7 _ h37).atR [0, 1, 2, 3] rfl rfl rfl ?_
      rintro _ _ ⟨a38, c38, rfl, rfl⟩
      refine AtIf.mk (fun h39 => ?_) (fun h39 => ?_)
      ·replace hr := qf h39 hr
       replace hr := osi hr; subst hr
       exact qa [] [] rfl rfl ⟨rfl, rfl⟩
      ·replace hr := qg h39 hr
       refine (qns v8 v36.1 a9 a38 c9 c38).atR [4, 5] rfl rfl rfl ?_
       rintro _ _ ⟨rfl, rfl⟩
       refine AtIf.mk (fun h40 => ?_) (fun h40 => ?_)
       ·replace hr := qf h40 hr
        replace hr := osi hr; subst hr
        exact qa [] [] rfl rfl ⟨rfl, rfl⟩
       ·replace hr := qg h40 hr
        replace hr := osi hr; subst hr
        exact qa [] [] rfl rfl ⟨rfl, rfl⟩
    ·replace hr := qg h34 hr
     replace hr := osi hr; subst hr
     exact qa [] [] rfl rfl ⟨rfl, rfl⟩
  ·
   intro n hn v1 v4 v6 a2 c2 a3 c3 a5 c5 a7 c7 r hr
   rcases n with _ | n
   ·exact qe hr
   replace hn : n ≤ N := by omega
   rw [R06_Kernel_Infer.eq_2] at hr
   refine qb (N := 44) (m := 0) (dt := fun _ => none) [] ttOK func193 rfl call193 ntmps193 rfl rfl rfl mixed (by kernel_rfl) ?_
   refine AtIf.mk (fun h8 => ?_) (fun h8 => ?_)
   ·replace hr := qf h8 hr
    replace hr := osi hr; subst hr
    exact qa [.nil 4] [(.slice none 0 0, .sl 4 [])] rfl rfl ⟨none, 0, rfl, rfl⟩
   ·replace hr := qg h8 hr
    obtain ⟨v9, h10, hr⟩ := bind_some hr
    refine (qeh n v1 v4 v6 a2 c2 a3 c3 a5 c5 a7 c7 _ h10).atR [0, 1, 2, 3] rfl rfl rfl ?_
    rintro _ _ ⟨a11, c11, rfl, rfl⟩
    refine AtIf.mk (fun h12 => ?_) (fun h12 => ?_)
    ·replace hr := qf h12 hr
     replace hr := osi hr; subst hr
     exact qa [.nil 4] [(.slice none 0 0, .sl 4 [])] rfl rfl ⟨none, 0, rfl, rfl⟩
    ·replace hr := qg h12 hr
     obtain ⟨v13, h14, hr⟩ := bind_some hr
     refine (ih1 n (by omega) v1 v4 v6.args v9.1 a2 c2 a3 c3 a5 c5 a7 c7 a11 c11 _ h14).atR [0, 1, 2, 3, 4] rfl rfl rfl ?_
     rintro _ _ ⟨a15, c15, rfl, rfl⟩
     refine AtIf.mk (fun h16 => ?_) (fun h16 => ?_)
     ·replace hr := qf h16 hr
      replace hr := osi hr; subst hr
      exact qa [.nil 4] [(.slice none 0 0, .sl 4 [])] rfl rfl ⟨none, 0, rfl, rfl⟩
     ·replace hr := qg h16 hr
      refine AtIf.mk (fun h17 => ?_) (fun h17 => ?_)
      ·replace hr := qf h17 hr
       replace hr := osi hr; subst hr
       exact qa [.nil 4] [(.slice none 0 0, .sl 4 [])] rfl rfl ⟨none, 0, rfl, rfl⟩
      ·replace hr := qg h17 hr
       replace hr := osi hr; subst hr
       exact qa [.old 5] [(tQ v13.1.args a15 c15)] rfl rfl ⟨a15, c15, rfl, rfl⟩
theorem qcg (n : Nat) (v1 : Kn) (v4 : (List Tm)) (v6 : (List Tm)) (v8 : Tm) (a2 : OA) (c2 : Nat) (a3 : OA) (c3 : Nat) (a5 : OA) (c5 : Nat) (a7 : OA) (c7 : Nat) (a9 : OA) (c9 : Nat) (r : Tm × Int) (hr : R06_Kernel_fits n v1 v4 v6 v8 = some r) : Pure Tryz.prog (.val (.fn (.func 168) [] [])) [(.agg [(.v (.slice a2 ((Dc.encL v1.sig).length) c2)), (.v (.slice a3 ((Mt.encL v1.metas).length) c3))]), (tU v4 a5 c5), (tU v6 a7 c7), (.agg [(iS v8.op), (iS v8.hd), (iS v8.n), (tU v8.args a9 c9)])] [(.slice a2 ((Dc.encL v1.sig).length) c2, .sl 6 (Dc.encL v1.sig)), (.slice a3 ((Mt.encL v1.metas).length) c3, .sl 10 (Mt.encL v1.metas)), (tQ v4 a5 c5), (tQ v6 a7 c7), (tQ v8.args a9 c9)] (fun r' out => ∃ (b1 : OA) (d1 : Nat), r' = (.tup [(.agg [(iS r.1.op), (iS r.1.hd), (iS r.1.n), (tU r.1.args b1 d1)]), (iS r.2)]) ∧ out = [(tQ r.1.args b1 d1)]) := (qd7 n).1 n (Nat.le_refl _) v1 v4 v6 v8 a2 c2 a3 c3 a5 c5 a7 c7 a9 c9 r hr
mutual
def R06_Kernel_Kind : Nat → Kn → (List Tm) → Tm → Option (Int)
 | 0, _, _, _ => none
 | n + 1, v1, v4, v6 =>
  cond (v6.op == 1) (
  some (0)) (
  cond (v6.op == 2) (
  (R06_Kernel_pi n v1 v4 v6 true).bind (fun v10 =>
  some (v10))) (
  some (22)))
def R06_Kernel_Type : Nat → Kn → (List Tm) → Tm → Option (Int)
 | 0, _, _, _ => none
 | n + 1, v1, v4, v6 =>
  cond (v6.op == 2) (
  (R06_Kernel_pi n v1 v4 v6 false).bind (fun v9 =>
  some (v9))) (
  cond ((v6.op != 4) || (v6.hd != 2)) (
  some (22)) (
  (R05_Has n v1.sig v6.n).bind (fun v12 =>
  cond (!v12) (
  some (27)) (
  (R05_IsFamily n v1.sig v6.n).bind (fun v15 =>
  cond (!v15) (
  some (22)) (
  (idx v1.sig v6.n).bind (fun v18 =>
  (R06_Kernel_fits n v1 v4 v6.args v18.cls).bind (fun v23 =>
  cond (v23.2 != 0) (
  some (v23.2)) (
  cond (v23.1.op != 1) (
  some (23)) (
  some (0)))))))))))
def R06_Kernel_pi : Nat → Kn → (List Tm) → Tm → Bool → Option (Int)
 | 0, _, _, _, _ => none
 | n + 1, v1, v4, v6, v8 =>
  (idx v6.args 0).bind (fun v9 =>
  (R06_Kernel_Type n v1 v4 v9).bind (fun v14 =>
  cond (v14 != 0) (
  some (v14)) (
  (idx v6.args 0).bind (fun v17 =>
  (R06_longer n v4 v17).bind (fun v22 =>
  cond (v22.2 != 0) (
  some (v22.2)) (
  cond v8 (
  (idx v6.args 1).bind (fun v27 =>
  (R06_Kernel_Kind n v1 v22.1 v27).bind (fun v32 =>
  some (v32)))) (
  (idx v6.args 1).bind (fun v34 =>
  (R06_Kernel_Type n v1 v22.1 v34).bind (fun v39 =>
  some (v39))))))))))
 end
theorem qb6 : ∀ (N : Nat), (∀ (n : Nat), n ≤ N → ∀ (v1 : Kn) (v4 : (List Tm)) (v6 : Tm) (a2 : OA) (c2 : Nat) (a3 : OA) (c3 : Nat) (a5 : OA) (c5 : Nat) (a7 : OA) (c7 : Nat) (r : Int), R06_Kernel_Kind n v1 v4 v6 = some r → Pure Tryz.prog (.val (.fn (.func 133) [] [])) [(.agg [(.v (.slice a2 ((Dc.encL v1.sig).length) c2)), (.v (.slice a3 ((Mt.encL v1.metas).length) c3))]), (tU v4 a5 c5), (.agg [(iS v6.op), (iS v6.hd), (iS v6.n), (tU v6.args a7 c7)])] [(.slice a2 ((Dc.encL v1.sig).length) c2, .sl 6 (Dc.encL v1.sig)), (.slice a3 ((Mt.encL v1.metas).length) c3, .sl 10 (Mt.encL v1.metas)), (tQ v4 a5 c5), (tQ v6.args a7 c7)] (fun r' out => r' = (iS r) ∧ out = [])) ∧ (∀ (n : Nat), n ≤ N → ∀ (v1 : Kn) (v4 : (List Tm)) (v6 : Tm) (a2 : OA) (c2 : Nat) (a3 : OA) (c3 : Nat) (a5 : OA) (c5 : Nat) (a7 : OA) (c7 : Nat) (r : Int), R06_Kernel_Type n v1 v4 v6 = some r → Pure Tryz.prog (.val (.fn (.func 134) [] [])) [(.agg [(.v (.slice a2 ((Dc.encL v1.sig).length) c2)), (.v (.slice a3 ((Mt.encL v1.metas).length) c3))]), (tU v4 a5 c5), (.agg [(iS v6.op), (iS v6.hd), (iS v6.n), (tU v6.args a7 c7)])] [(.slice a2 ((Dc.encL v1.sig).length) c2, .sl 6 (Dc.encL v1.sig)), (.slice a3 ((Mt.encL v1.metas).length) c3, .sl 10 (Mt.encL v1.metas)), (tQ v4 a5 c5), (tQ v6.args a7 c7)] (fun r' out => r' = (iS r) ∧ out = [])) ∧ (∀ (n : Nat), n ≤ N → ∀ (v1 : Kn) (v4 : (List Tm)) (v6 : Tm) (v8 : Bool) (a2 : OA) (c2 : Nat) (a3 : OA) (c3 : Nat) (a5 : OA) (c5 : Nat) (a7 : OA) (c7 : Nat) (r : Int), R06_Kernel_pi n v1 v4 v6 v8 = some r → Pure Tryz.prog (.val (.fn (.func 167) [] [])) [(.agg [(.v (.slice a2 ((Dc.encL v1.sig).length) c2)), (.v (.slice a3 ((Mt.encL v1.metas).length) c3))]), (tU v4 a5 c5), (.agg [(iS v6.op), (iS v6.hd), (iS v6.n), (tU v6.args a7 c7)]), (bS v8)] [(.slice a2 ((Dc.encL v1.sig).length) c2, .sl 6 (Dc.encL v1.sig)), (.slice a3 ((Mt.encL v1.metas).length) c3, .sl 10 (Mt.encL v1.metas)), (tQ v4 a5 c5), (tQ v6.args a7 c7)] (fun r' out => r' = (iS r) ∧ out = [])) := by
 intro N
 induction N with
 | zero =>
  refine ⟨?_, ?_, ?_⟩
  ·intro n hn v1 v4 v6 a2 c2 a3 c3 a5 c5 a7 c7 r hr; obtain rfl : n = 0 := (by omega); exact qe hr
  ·intro n hn v1 v4 v6 a2 c2 a3 c3 a5 c5 a7 c7 r hr; obtain rfl : n = 0 := (by omega); exact qe hr
  ·intro n hn v1 v4 v6 v8 a2 c2 a3 c3 a5 c5 a7 c7 r hr; obtain rfl : n = 0 := (by omega); exact qe hr
 | succ N ih =>
  obtain ⟨ih1, ih2, ih3⟩ := ih
  refine ⟨?_, ?_, ?_⟩
  ·
   intro n hn v1 v4 v6 a2 c2 a3 c3 a5 c5 a7 c7 r hr
   rcases n with _ | n
   ·exact qe hr
   replace hn : n ≤ N := by omega
   rw [R06_Kernel_Kind.eq_2] at hr
   refine qb (N := 17) (m := 0) (dt := fun _ => none) [] ttOK func133 rfl call133 ntmps133 rfl rfl rfl mixed (by kernel_rfl) ?_
   refine AtIf.mk (fun h8 => ?_) (fun h8 => ?_)
   ·replace hr := qf h8 hr
    replace hr := osi hr; subst hr
    exact qa [] [] rfl rfl ⟨rfl, rfl⟩
   ·replace hr := qg h8 hr
    refine AtIf.mk (fun h9 => ?_) (fun h9 => ?_)
    ·replace hr := qf h9 hr
     obtain ⟨v10, h11, hr⟩ := bind_some hr
     refine (ih3 n (by omega) v1 v4 v6 true a2 c2 a3 c3 a5 c5 a7 c7 _ h11).atR [0, 1, 2, 3] rfl rfl rfl ?_
     rintro _ _ ⟨rfl, rfl⟩
     replace hr := osi hr; subst hr
     exact qa [] [] rfl rfl ⟨rfl, rfl⟩
    ·replace hr := qg h9 hr
     replace hr := osi hr; subst hr
     exact qa [] [] rfl rfl ⟨rfl, rfl⟩
  ·
   intro n hn v1 v4 v6 a2 c2 a3 c3 a5 c5 a7 c7 r hr
   rcases n with _ | n
   ·exact qe hr
   replace hn : n ≤ N := by omega
   rw [R06_Kernel_Type.eq_2] at hr
   refine qb (N := 61) (m := 0) (dt := drawsOf [(9, .node [0, 1, 2, 3, 4, 5, 6, 7, 8, 9, 10] [(11, .node [12, 13, 14] [(15, .node [] [(16, .leaf [17])])]), (15, .node [] [(11, .node [12, 13, 14] [(16, .leaf [17])])])], [11], [3])]) [] ttOK func134 rfl call134 ntmps134 rfl rfl rfl mixed (by kernel_rfl) ?_
   refine AtIf.mk (fun h8 => ?_) (fun h8 => ?_)
   ·replace hr := qf h8 hr
    obtain ⟨v9, h10, hr⟩ := bind_some hr
    refine (ih3 n (by omega) v1 v4 v6 false a2 c2 a3 c3 a5 c5 a7 c7 _ h10).atR [0, 1, 2, 3] rfl rfl rfl ?_
    rintro _ _ ⟨rfl, rfl⟩
    replace hr := osi hr; subst hr
    exact qa [] [] rfl rfl ⟨rfl, rfl⟩
   ·replace hr := qg h8 hr
    refine AtIf.mk (fun h11 => ?_) (fun h11 => ?_)
    ·replace hr := qf h11 hr
     replace hr := osi hr; subst hr
     exact qa [] [] rfl rfl ⟨rfl, rfl⟩
    ·replace hr := qg h11 hr
     obtain ⟨v12, h13, hr⟩ := bind_some hr
     refine (qed n v1.sig v6.n a2 c2 _ h13).atR [0] rfl rfl rfl ?_
     rintro _ _ ⟨rfl, rfl⟩
     refine AtIf.mk (fun h14 => ?_) (fun h14 => ?_)
     ·replace hr := qf h14 hr
      replace hr := osi hr; subst hr
      exact qa [] [] rfl rfl ⟨rfl, rfl⟩
     ·replace hr := qg h14 hr
      obtain ⟨v15, h16, hr⟩ := bind_some hr
      refine (qbu n v1.sig v6.n a2 c2 _ h16).atR [0] rfl rfl rfl ?_
      rintro _ _ ⟨rfl, rfl⟩
      refine AtIf.mk (fun h17 => ?_) (fun h17 => ?_)
      ·replace hr := qf h17 hr
       replace hr := osi hr; subst hr
       exact qa [] [] rfl rfl ⟨rfl, rfl⟩
      ·replace hr := qg h17 hr
       obtain ⟨v18, h19, hr⟩ := bind_some hr
       obtain ⟨h20, h21⟩ := qi h19
       obtain ⟨v23, h24, hr⟩ := bind_some hr
       refine qd ttOK 0 rfl rfl rfl rfl h20 (Dc.encL_get h21) ?_
       intro a26 c26 _ _
       refine ⟨?_, ?_⟩
       ·
        refine (qcg n v1 v4 v6.args v18.cls a2 c2 a3 c3 a5 c5 a7 c7 a26 c26 _ h24).atR [0, 1, 2, 3, 4] rfl rfl rfl ?_
        rintro _ _ ⟨a27, c27, rfl, rfl⟩
        refine ⟨OwnKeptBut.append, ?_⟩
        refine ⟨fun _ _ h => h, ?_⟩
        refine AtIf.mk (fun h28 => ?_) (fun h28 => ?_)
        ·replace hr := qf h28 hr
         replace hr := osi hr; subst hr
         exact qa [] [] rfl rfl ⟨rfl, rfl⟩
        ·replace hr := qg h28 hr
         refine AtIf.mk (fun h29 => ?_) (fun h29 => ?_)
         ·replace hr := qf h29 hr
          replace hr := osi hr; subst hr
          exact qa [] [] rfl rfl ⟨rfl, rfl⟩
         ·replace hr := qg h29 hr
          replace hr := osi hr; subst hr
          exact qa [] [] rfl rfl ⟨rfl, rfl⟩
       ·
        refine ⟨OwnKeptBut.append, ?_⟩
        refine (qcg n v1 v4 v6.args v18.cls a2 c2 a3 c3 a5 c5 a7 c7 a26 c26 _ h24).atR [0, 1, 2, 3, 4] rfl rfl rfl ?_
        rintro _ _ ⟨a30, c30, rfl, rfl⟩
        refine ⟨fun _ _ h => h, ?_⟩
        refine AtIf.mk (fun h28 => ?_) (fun h28 => ?_)
        ·replace hr := qf h28 hr
         replace hr := osi hr; subst hr
         exact qa [] [] rfl rfl ⟨rfl, rfl⟩
        ·replace hr := qg h28 hr
         refine AtIf.mk (fun h29 => ?_) (fun h29 => ?_)
         ·replace hr := qf h29 hr
          replace hr := osi hr; subst hr
          exact qa [] [] rfl rfl ⟨rfl, rfl⟩
         ·replace hr := qg h29 hr
          replace hr := osi hr; subst hr
          exact qa [] [] rfl rfl ⟨rfl, rfl⟩
  ·
   intro n hn v1 v4 v6 v8 a2 c2 a3 c3 a5 c5 a7 c7 r hr
   rcases n with _ | n
   ·exact qe hr
   replace hn : n ≤ N := by omega
   rw [R06_Kernel_pi.eq_2] at hr
   refine qb (N := 49) (m := 0) (dt := drawsOf [(1, .node [0, 1, 2, 3, 4, 5] [(6, .leaf [7])], [6], []), (8, .node [0, 1, 2, 3, 4, 5] [(6, .leaf [7])], [6], []), (9, .node [0, 1, 2, 3, 4, 5] [(6, .leaf [7])], [6], [])]) [] ttOK func167 rfl call167 ntmps167 rfl rfl rfl mixed (by kernel_rfl) ?_
   obtain ⟨v9, h10, hr⟩ := bind_some hr
   obtain ⟨h11, h12⟩ := qi h10
   refine qd ttOK 3 rfl rfl rfl rfl h11 (Tm.encL_get h12) ?_
   intro a13 c13 _ _
   obtain ⟨v14, h15, hr⟩ := bind_some hr
   refine (ih2 n (by omega) v1 v4 v9 a2 c2 a3 c3 a5 c5 a13 c13 _ h15).atR [0, 1, 2, 4] rfl rfl rfl ?_
   rintro _ _ ⟨rfl, rfl⟩
   refine AtIf.mk (fun h16 => ?_) (fun h16 => ?_)
   ·replace hr := qf h16 hr
    replace hr := osi hr; subst hr
    exact qa [] [] rfl rfl ⟨rfl, rfl⟩
   ·replace hr := qg h16 hr
    obtain ⟨v17, h18, hr⟩ := bind_some hr
    obtain ⟨h19, h20⟩ := qi h18
    refine qd ttOK 3 rfl rfl rfl rfl h19 (Tm.encL_get h20) ?_
    intro a21 c21 _ _
    obtain ⟨v22, h23, hr⟩ := bind_some hr
    refine (qea n v4 v17 a5 c5 a21 c21 _ h23).atR [2, 5] rfl rfl rfl ?_
    rintro _ _ ⟨a24, c24, rfl, rfl⟩
    refine AtIf.mk (fun h25 => ?_) (fun h25 => ?_)
    ·replace hr := qf h25 hr
     replace hr := osi hr; subst hr
     exact qa [] [] rfl rfl ⟨rfl, rfl⟩
    ·replace hr := qg h25 hr
     refine AtIf.mk (fun h26 => ?_) (fun h26 => ?_)
     ·replace hr := qf h26 hr
      obtain ⟨v27, h28, hr⟩ := bind_some hr
      obtain ⟨h29, h30⟩ := qi h28
      refine qd ttOK 3 rfl rfl rfl rfl h29 (Tm.encL_get h30) ?_
      intro a31 c31 _ _
      obtain ⟨v32, h33, hr⟩ := bind_some hr
      refine (ih1 n (by omega) v1 v22.1 v27 a2 c2 a3 c3 a24 c24 a31 c31 _ h33).atR [0, 1, 6, 7] rfl rfl rfl ?_
      rintro _ _ ⟨rfl, rfl⟩
      replace hr := osi hr; subst hr
      exact qa [] [] rfl rfl ⟨rfl, rfl⟩
     ·replace hr := qg h26 hr
      obtain ⟨v34, h35, hr⟩ := bind_some hr
      obtain ⟨h36, h37⟩ := qi h35
      refine qd ttOK 3 rfl rfl rfl rfl h36 (Tm.encL_get h37) ?_
      intro a38 c38 _ _
      obtain ⟨v39, h40, hr⟩ := bind_some hr
      refine (ih2 n (by omega) v1 v22.1 v34 a2 c2 a3 c3 a24 c24 a38 c38 _ h40).atR [0, 1, 6, 7] rfl rfl rfl ?_
      rintro _ _ ⟨rfl, rfl⟩
      replace hr := osi hr; subst hr
      exact qa [] [] rfl rfl ⟨rfl, rfl⟩
theorem qex (n : Nat) (v1 : Kn) (v4 : (List Tm)) (v6 : Tm) (a2 : OA) (c2 : Nat) (a3 : OA) (c3 : Nat) (a5 : OA) (c5 : Nat) (a7 : OA) (c7 : Nat) (r : Int) (hr : R06_Kernel_Kind n v1 v4 v6 = some r) : Pure Tryz.prog (.val (.fn (.func 133) [] [])) [(.agg [(.v (.slice a2 ((Dc.encL v1.sig).length) c2)), (.v (.slice a3 ((Mt.encL v1.metas).length) c3))]), (tU v4 a5 c5), (.agg [(iS v6.op), (iS v6.hd), (iS v6.n), (tU v6.args a7 c7)])] [(.slice a2 ((Dc.encL v1.sig).length) c2, .sl 6 (Dc.encL v1.sig)), (.slice a3 ((Mt.encL v1.metas).length) c3, .sl 10 (Mt.encL v1.metas)), (tQ v4 a5 c5), (tQ v6.args a7 c7)] (fun r' out => r' = (iS r) ∧ out = []) := (qb6 n).1 n (Nat.le_refl _) v1 v4 v6 a2 c2 a3 c3 a5 c5 a7 c7 r hr
theorem qew (n : Nat) (v1 : Kn) (v4 : (List Tm)) (v6 : Tm) (a2 : OA) (c2 : Nat) (a3 : OA) (c3 : Nat) (a5 : OA) (c5 : Nat) (a7 : OA) (c7 : Nat) (r : Int) (hr : R06_Kernel_Type n v1 v4 v6 = some r) : Pure Tryz.prog (.val (.fn (.func 134) [] [])) [(.agg [(.v (.slice a2 ((Dc.encL v1.sig).length) c2)), (.v (.slice a3 ((Mt.encL v1.metas).length) c3))]), (tU v4 a5 c5), (.agg [(iS v6.op), (iS v6.hd), (iS v6.n), (tU v6.args a7 c7)])] [(.slice a2 ((Dc.encL v1.sig).length) c2, .sl 6 (Dc.encL v1.sig)), (.slice a3 ((Mt.encL v1.metas).length) c3, .sl 10 (Mt.encL v1.metas)), (tQ v4 a5 c5), (tQ v6.args a7 c7)] (fun r' out => r' = (iS r) ∧ out = []) := (qb6 n).2.1 n (Nat.le_refl _) v1 v4 v6 a2 c2 a3 c3 a5 c5 a7 c7 r hr
def R06_Kernel_Class : Nat → Kn → Tm → Option (Int)
 | 0, _, _ => none
 | n + 1, v1, v4 =>
  (R03_Split n v4).bind (fun v6 =>
  cond (v6.2.op == 1) (
  (R06_Kernel_Kind n v1 ([]) v4).bind (fun v11 =>
  some (v11))) (
  (R06_Kernel_Type n v1 ([]) v4).bind (fun v13 =>
  some (v13))))
theorem qeg (n : Nat) (v1 : Kn) (v4 : Tm) (a2 : OA) (c2 : Nat) (a3 : OA) (c3 : Nat) (a5 : OA) (c5 : Nat) (r : Int) (hr : R06_Kernel_Class n v1 v4 = some r) : Pure Tryz.prog (.val (.fn (.func 95) [] [])) [(.agg [(.v (.slice a2 ((Dc.encL v1.sig).length) c2)), (.v (.slice a3 ((Mt.encL v1.metas).length) c3))]), (.agg [(iS v4.op), (iS v4.hd), (iS v4.n), (tU v4.args a5 c5)])] [(.slice a2 ((Dc.encL v1.sig).length) c2, .sl 6 (Dc.encL v1.sig)), (.slice a3 ((Mt.encL v1.metas).length) c3, .sl 10 (Mt.encL v1.metas)), (tQ v4.args a5 c5)] (fun r' out => r' = (iS r) ∧ out = []) := by
 rcases n with _ | n
 ·exact qe hr
 rw [R06_Kernel_Class.eq_2] at hr
 refine qb (N := 21) (m := 0) (dt := fun _ => none) [] ttOK func95 rfl call95 ntmps95 rfl rfl rfl mixed (by kernel_rfl) ?_
 obtain ⟨v6, h7, hr⟩ := bind_some hr
 refine (qb2 n v4 a5 c5 _ h7).atR [2] rfl rfl rfl ?_
 rintro _ _ ⟨a8, c8, a9, c9, rfl, rfl⟩
 refine AtIf.mk (fun h10 => ?_) (fun h10 => ?_)
 ·replace hr := qf h10 hr
  obtain ⟨v11, h12, hr⟩ := bind_some hr
  refine Meets.nilRep 4 ?_
  refine (qex n v1 ([]) v4 a2 c2 a3 c3 none 0 a5 c5 _ h12).atR [1, 2, 0, 3] rfl rfl rfl ?_
  rintro _ _ ⟨rfl, rfl⟩
  replace hr := osi hr; subst hr
  exact qa [] [] rfl rfl ⟨rfl, rfl⟩
 ·replace hr := qg h10 hr
  obtain ⟨v13, h14, hr⟩ := bind_some hr
  refine Meets.nilRep 4 ?_
  refine (qew n v1 ([]) v4 a2 c2 a3 c3 none 0 a5 c5 _ h14).atR [1, 2, 0, 3] rfl rfl rfl ?_
  rintro _ _ ⟨rfl, rfl⟩
  replace hr := osi hr; subst hr
  exact qa [] [] rfl rfl ⟨rfl, rfl⟩
mutual
def R06_Signature : Nat → (List Dc) → Option (Int × Int)
 | 0, _ => none
 | n + 1, v1 =>
  R06_Signature_L1 n v1 0
def R06_Signature_L1 : Nat → (List Dc) → Int → Option (Int × Int)
 | 0, _, _ => none
 | n + 1, v1, v14 =>
  cond (decide (v14 < ((Dc.encL v1).length : Int))) (
  (idx v1 v14).bind (fun v16 =>
  cond (decide ((0 : Int) ≤ (0 : Int) ∧ (0 : Int) ≤ v14 ∧ v14 ≤ ((Dc.encL v1).length : Int))) (
  (R06_Kernel_Class n (Kn.mk (v1.take v14.toNat) ([])) v16.cls).bind (fun v23 =>
  cond (v23 != 0) (
  some (v14, v23)) (
  R06_Signature_L1 n v1 (IntKind.i64.wrap (v14 + 1))))) none)) (
  some (((Dc.encL v1).length : Int), 0))
 end
theorem qgc (n : Nat) (v1 : (List Dc)) (a2 : OA) (c2 : Nat) (r : Int × Int) (hr : R06_Signature n v1 = some r) : Pure Tryz.prog (.val (.fn (.func 46) [] [])) [(.v (.slice a2 ((Dc.encL v1).length) c2))] [(.slice a2 ((Dc.encL v1).length) c2, .sl 6 (Dc.encL v1))] (fun r' out => r' = (.tup [(iS r.1), (iS r.2)]) ∧ out = []) := by
 rcases n with _ | n
 ·exact qe hr
 rw [R06_Signature.eq_2] at hr
 refine qb (N := 30) (m := 0) (dt := fun _ => none) [] ttOK func46 rfl call46 ntmps46 rfl rfl rfl mixed (by kernel_rfl) ?_
 refine AtLoop.mk ⟨Nat × Int, fun x => [(0, (.v (.slice a2 ((Dc.encL v1).length) c2))), (8, (.v (.slice a2 ((Dc.encL v1).length) c2))), (9, (iS ((Dc.encL v1).length : Int))), (10, (iS x.2))], fun x => ⟨[], [], [(.slice a2 ((Dc.encL v1).length) c2, .sl 6 (Dc.encL v1))]⟩, fun x => R06_Signature_L1 x.1 v1 x.2 = some r, fun x => x.1, (n, 0), hr, ⟨rfl, rfl, rfl, rfl, trivial⟩, (StLe.gen 0 [] [.old 0] rfl rfl rfl rfl rfl rfl rfl), fun x _ => ⟨rfl, rfl⟩, ?_⟩
 rintro ⟨n, v14⟩ HH
 have hr : R06_Signature_L1 n v1 v14 = some r := HH
 rcases n with _ | n
 ·exact qe hr
 rw [R06_Signature_L1.eq_2] at hr
 refine AtIf.mk (fun h15 => ?_) (fun h15 => ?_)
 ·replace hr := qf h15 hr
  obtain ⟨v16, h17, hr⟩ := bind_some hr
  obtain ⟨h18, h19⟩ := qi h17
  refine qd ttOK 0 rfl rfl rfl rfl h18 (Dc.encL_get h19) ?_
  intro a20 c20 _ _
  obtain ⟨h21, hr⟩ := qm hr
  refine qb7 ttOK 0 0 v14 (ds' := (Dc.encL (v1.take v14.toNat))) rfl rfl rfl (.inr ⟨rfl, rfl⟩) (.inl ⟨_, rfl⟩) h21 (by simp only [Dc.encL_eq]; exact sl_h ..) ?_
  intro a22 c22
  obtain ⟨v23, h24, hr⟩ := bind_some hr
  refine Meets.nilRep 10 ?_
  refine (qeg n (Kn.mk (v1.take v14.toNat) ([])) v16.cls a22 c22 none 0 a20 c20 _ h24).atR [3, 0, 2] rfl rfl rfl ?_
  rintro _ _ ⟨rfl, rfl⟩
  refine AtIf.mk (fun h25 => ?_) (fun h25 => ?_)
  ·replace hr := qf h25 hr
   replace hr := osi hr; subst hr
   exact qa [] [] rfl rfl ⟨rfl, rfl⟩
  ·replace hr := qg h25 hr
   exact ⟨(n, (IntKind.i64.wrap (v14 + 1))), hr, Nat.lt_succ_self _, ⟨rfl, rfl, rfl, rfl, trivial⟩, (StLe.gen 0 [] [.old 1] rfl rfl rfl rfl rfl rfl rfl)⟩
 ·replace hr := qg h15 hr
  replace hr := osi hr; subst hr
  exact qa [] [] rfl rfl ⟨rfl, rfl⟩
mutual
def R03_nodes : Nat → Tm → Int → Option (Int)
 | 0, _, _ => none
 | n + 1, v1, v3 =>
  R03_nodes_L1 n v1 v3 1 0
def R03_nodes_L1 : Nat → Tm → Int → Int → Int → Option (Int)
 | 0, _, _, _, _ => none
 | n + 1, v1, v3, v12, v13 =>
  cond ((decide (v13 < ((Tm.encL v1.args).length : Int))) && (decide (v12 ≤ v3))) (
  (idx v1.args v13).bind (fun v15 =>
  (R03_nodes n v15 (IntKind.i64.wrap (v3 - v12))).bind (fun v20 =>
  R03_nodes_L1 n v1 v3 (IntKind.i64.wrap (v12 + v20)) (IntKind.i64.wrap (v13 + 1))))) (
  some ((if (IntKind.i64.wrap (v3 + 1)) < v12 then (IntKind.i64.wrap (v3 + 1)) else v12)))
 end
theorem qje : ∀ (N : Nat), (∀ (n : Nat), n ≤ N → ∀ (v1 : Tm) (v3 : Int) (a2 : OA) (c2 : Nat) (r : Int), R03_nodes n v1 v3 = some r → Pure Tryz.prog (.val (.fn (.func 69) [] [])) [(.agg [(iS v1.op), (iS v1.hd), (iS v1.n), (tU v1.args a2 c2)]), (iS v3)] [(tQ v1.args a2 c2)] (fun r' out => r' = (iS r) ∧ out = [])) := by
 intro N
 induction N with
 | zero =>
  intro n hn v1 v3 a2 c2 r hr; obtain rfl : n = 0 := (by omega); exact qe hr
 | succ N ih =>
  intro n hn v1 v3 a2 c2 r hr
  rcases n with _ | n
  ·exact qe hr
  replace hn : n ≤ N := by omega
  rw [R03_nodes.eq_2] at hr
  refine qb (N := 34) (m := 0) (dt := fun _ => none) [] ttOK func69 rfl call69 ntmps69 rfl rfl rfl mixed (by kernel_rfl) ?_
  refine AtLoop.mk ⟨Nat × Int × Int, fun x => [(1, (iS v3)), (2, (.loc 0 0)), (5, (iS x.2.1)), (6, (iS x.2.2))], fun x => ⟨[.cells 47 [(iS v1.op), (iS v1.hd), (iS v1.n), (tU v1.args a2 c2)]], [], [(tQ v1.args a2 c2)]⟩, fun x => x.1 ≤ N ∧ R03_nodes_L1 x.1 v1 v3 x.2.1 x.2.2 = some r, fun x => x.1, (n, 1, 0), ⟨by omega, hr⟩, ⟨rfl, rfl, rfl, rfl, trivial⟩, (StLe.gen 1 [] [.old 0] rfl rfl rfl rfl rfl rfl rfl), fun x _ => ⟨rfl, rfl⟩, ?_⟩
  rintro ⟨n, v12, v13⟩ HH
  obtain ⟨hn, hr⟩ : n ≤ N ∧ R03_nodes_L1 n v1 v3 v12 v13 = some r := HH
  rcases n with _ | n
  ·exact qe hr
  rw [R03_nodes_L1.eq_2] at hr
  refine AtIf.mk (fun h14 => ?_) (fun h14 => ?_)
  ·replace hr := qf h14 hr
   obtain ⟨v15, h16, hr⟩ := bind_some hr
   obtain ⟨h17, h18⟩ := qi h16
   refine qd ttOK 0 rfl rfl rfl rfl h17 (Tm.encL_get h18) ?_
   intro a19 c19 _ _
   obtain ⟨v20, h21, hr⟩ := bind_some hr
   refine (ih n (by omega) v15 (IntKind.i64.wrap (v3 - v12)) a19 c19 _ h21).atR [1] rfl rfl rfl ?_
   rintro _ _ ⟨rfl, rfl⟩
   exact ⟨(n, (IntKind.i64.wrap (v12 + v20)), (IntKind.i64.wrap (v13 + 1))), ⟨by omega, hr⟩, Nat.lt_succ_self _, ⟨rfl, rfl, rfl, rfl, trivial⟩, (StLe.gen 1 [] [.old 0] rfl rfl rfl rfl rfl rfl rfl)⟩
  ·replace hr := qg h14 hr
   refine at_min ?_
   replace hr := osi hr; subst hr
   exact qa [] [] rfl rfl ⟨rfl, rfl⟩
theorem qkb (n : Nat) (v1 : Tm) (v3 : Int) (a2 : OA) (c2 : Nat) (r : Int) (hr : R03_nodes n v1 v3 = some r) : Pure Tryz.prog (.val (.fn (.func 69) [] [])) [(.agg [(iS v1.op), (iS v1.hd), (iS v1.n), (tU v1.args a2 c2)]), (iS v3)] [(tQ v1.args a2 c2)] (fun r' out => r' = (iS r) ∧ out = []) := (qje n) n (Nat.le_refl _) v1 v3 a2 c2 r hr
mutual
def R03_Depth : Nat → Tm → Option (Int)
 | 0, _ => none
 | n + 1, v1 =>
  R03_Depth_L1 n v1 0 0
def R03_Depth_L1 : Nat → Tm → Int → Int → Option (Int)
 | 0, _, _, _ => none
 | n + 1, v1, v11, v12 =>
  cond (decide (v12 < ((Tm.encL v1.args).length : Int))) (
  (idx v1.args v12).bind (fun v14 =>
  (R03_Depth n v14).bind (fun v19 =>
  R03_Depth_L1 n v1 (if v19 > v11 then v19 else v11) (IntKind.i64.wrap (v12 + 1))))) (
  some ((IntKind.i64.wrap (v11 + 1))))
 end
theorem qjl : ∀ (N : Nat), (∀ (n : Nat), n ≤ N → ∀ (v1 : Tm) (a2 : OA) (c2 : Nat) (r : Int), R03_Depth n v1 = some r → Pure Tryz.prog (.val (.fn (.func 94) [] [])) [(.agg [(iS v1.op), (iS v1.hd), (iS v1.n), (tU v1.args a2 c2)])] [(tQ v1.args a2 c2)] (fun r' out => r' = (iS r) ∧ out = [])) := by
 intro N
 induction N with
 | zero =>
  intro n hn v1 a2 c2 r hr; obtain rfl : n = 0 := (by omega); exact qe hr
 | succ N ih =>
  intro n hn v1 a2 c2 r hr
  rcases n with _ | n
  ·exact qe hr
  replace hn : n ≤ N := by omega
  rw [R03_Depth.eq_2] at hr
  refine qb (N := 22) (m := 0) (dt := fun _ => none) [] ttOK func94 rfl call94 ntmps94 rfl rfl rfl mixed (by kernel_rfl) ?_
  refine AtLoop.mk ⟨Nat × Int × Int, fun x => [(1, (.loc 0 0)), (3, (iS x.2.1)), (4, (iS x.2.2))], fun x => ⟨[.cells 47 [(iS v1.op), (iS v1.hd), (iS v1.n), (tU v1.args a2 c2)]], [], [(tQ v1.args a2 c2)]⟩, fun x => x.1 ≤ N ∧ R03_Depth_L1 x.1 v1 x.2.1 x.2.2 = some r, fun x => x.1, (n, 0, 0), ⟨by omega, hr⟩, ⟨rfl, rfl, rfl, trivial⟩, (StLe.gen 1 [] [.old 0] rfl rfl rfl rfl rfl rfl rfl), fun x _ => ⟨rfl, rfl⟩, ?_⟩
  rintro ⟨n, v11, v12⟩ HH
  obtain ⟨hn, hr⟩ : n ≤ N ∧ R03_Depth_L1 n v1 v11 v12 = some r := HH
  rcases n with _ | n
  ·exact qe hr
  rw [R03_Depth_L1.eq_2] at hr
  refine AtIf.mk (fun h13 => ?_) (fun h13 => ?_)
  ·replace hr := qf h13 hr
   obtain ⟨v14, h15, hr⟩ := bind_some hr
   obtain ⟨h16, h17⟩ := qi h15
   refine qd ttOK 0 rfl rfl rfl rfl h16 (Tm.encL_get h17) ?_
   intro a18 c18 _ _
   obtain ⟨v19, h20, hr⟩ := bind_some hr
   refine (ih n (by omega) v14 a18 c18 _ h20).atR [1] rfl rfl rfl ?_
   rintro _ _ ⟨rfl, rfl⟩
   refine at_max ?_
   exact ⟨(n, (if v19 > v11 then v19 else v11), (IntKind.i64.wrap (v12 + 1))), ⟨by omega, hr⟩, Nat.lt_succ_self _, ⟨rfl, rfl, rfl, trivial⟩, (StLe.gen 1 [] [.old 0] rfl rfl rfl rfl rfl rfl rfl)⟩
  ·replace hr := qg h13 hr
   replace hr := osi hr; subst hr
   exact qa [] [] rfl rfl ⟨rfl, rfl⟩
theorem qj2 (n : Nat) (v1 : Tm) (a2 : OA) (c2 : Nat) (r : Int) (hr : R03_Depth n v1 = some r) : Pure Tryz.prog (.val (.fn (.func 94) [] [])) [(.agg [(iS v1.op), (iS v1.hd), (iS v1.n), (tU v1.args a2 c2)])] [(tQ v1.args a2 c2)] (fun r' out => r' = (iS r) ∧ out = []) := (qjl n) n (Nat.le_refl _) v1 a2 c2 r hr
def R03_Size : Nat → Tm → Option (Int × Int)
 | 0, _ => none
 | n + 1, v1 =>
  (R03_nodes n v1 600).bind (fun v3 =>
  (R03_Depth n v1).bind (fun v5 =>
  some (v3, v5)))
theorem qlw (n : Nat) (v1 : Tm) (a2 : OA) (c2 : Nat) (r : Int × Int) (hr : R03_Size n v1 = some r) : Pure Tryz.prog (.val (.fn (.func 45) [] [])) [(.agg [(iS v1.op), (iS v1.hd), (iS v1.n), (tU v1.args a2 c2)])] [(tQ v1.args a2 c2)] (fun r' out => r' = (.tup [(iS r.1), (iS r.2)]) ∧ out = []) := by
 rcases n with _ | n
 ·exact qe hr
 rw [R03_Size.eq_2] at hr
 refine qb (N := 8) (m := 0) (dt := drawsOf [(1, .node [0, 2] [(1, .node [] [(3, .leaf [4, 5])])], [3], [])]) [] ttOK func45 rfl call45 ntmps45 rfl rfl rfl mixed (by kernel_rfl) ?_
 obtain ⟨v3, h4, hr⟩ := bind_some hr
 refine (qkb n v1 600 a2 c2 _ h4).atR [0] rfl rfl rfl ?_
 rintro _ _ ⟨rfl, rfl⟩
 refine ⟨fun _ _ h => h, ?_⟩
 obtain ⟨v5, h6, hr⟩ := bind_some hr
 refine (qj2 n v1 a2 c2 _ h6).atR [0] rfl rfl rfl ?_
 rintro _ _ ⟨rfl, rfl⟩
 replace hr := osi hr; subst hr
 exact qa [] [] rfl rfl ⟨rfl, rfl⟩
end
end Go.Proofs.YtogicnodmgdnbaaGreat
