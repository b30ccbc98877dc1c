/- Merged texts: G1 Rd1 EvA JoinLay HandJ Gm. Functions of signatures and terms, with fuel, and their contracts. Conditions stand in each. How arguments of struct types read (written by gen_read.py). Condition: each slice that is met weighs no more than the form's own reach. Plain law: functions with fuel that yield what is said of them; loops over lists; what is known of short lists. No program in sight. The facts that the library's contract of strings.Join asks of the program. No condition. The contract of strings.Join at a slice that can be read. Conditions: fewer than 1000000 elements, a text of at most 1000000 bytes. Maps from ints to structs with one slice each: what is known of all entries together. No condition: lemmas for the texts that gen.py prints. -/
import Derived.Test.YtpibdcjdamibdaaGreatDoorQF
import Derived.Shelf.Strings.OnBuilder
/-! G1 -/
section
namespace Go.Proofs.YtpibdcjdamibdaaGreatDoor
open Go.Tr Go
set_option maxRecDepth 10000
set_option linter.unusedVariables false

structure Dc where
  name : ByteArray
  cls : Tm
  implicit : Int
abbrev Dc.enc (t : Dc) : D := .agg [.str t.name, .agg [.int .i64 t.cls.op, .int .i64 t.cls.hd, .int .i64 t.cls.n, .sl 4 (Tm.encL t.cls.args)], .int .i64 t.implicit]
abbrev Dc.encL (l : List Dc) : List D := l.map Dc.enc
theorem Dc.encL_eq (l : List Dc) : Dc.encL l = l.map Dc.enc := rfl
theorem Dc.enc_eq (t : Dc) : t.enc = .agg [.str t.name, .agg [.int .i64 t.cls.op, .int .i64 t.cls.hd, .int .i64 t.cls.n, .sl 4 (Tm.encL t.cls.args)], .int .i64 t.implicit] := rfl
theorem Dc.encL_length (l : List Dc) : (Dc.encL l).length = l.length := by simp
theorem Dc.encL_get {l : List Dc} {i : Nat} {t : Dc} (h : l[i]? = some t) : (Dc.encL l)[i]? = some (.agg [.str t.name, .agg [.int .i64 t.cls.op, .int .i64 t.cls.hd, .int .i64 t.cls.n, .sl 4 (Tm.encL t.cls.args)], .int .i64 t.implicit]) := by rw [Dc.encL_eq, List.getElem?_map, h]; rfl
structure Mt where
  name : ByteArray
  cls : Tm
  solved : Bool
  value : Tm
abbrev Mt.enc (t : Mt) : D := .agg [.str t.name, .agg [.int .i64 t.cls.op, .int .i64 t.cls.hd, .int .i64 t.cls.n, .sl 4 (Tm.encL t.cls.args)], .bool t.solved, .agg [.int .i64 t.value.op, .int .i64 t.value.hd, .int .i64 t.value.n, .sl 4 (Tm.encL t.value.args)]]
abbrev Mt.encL (l : List Mt) : List D := l.map Mt.enc
theorem Mt.encL_eq (l : List Mt) : Mt.encL l = l.map Mt.enc := rfl
theorem Mt.enc_eq (t : Mt) : t.enc = .agg [.str t.name, .agg [.int .i64 t.cls.op, .int .i64 t.cls.hd, .int .i64 t.cls.n, .sl 4 (Tm.encL t.cls.args)], .bool t.solved, .agg [.int .i64 t.value.op, .int .i64 t.value.hd, .int .i64 t.value.n, .sl 4 (Tm.encL t.value.args)]] := rfl
theorem Mt.encL_length (l : List Mt) : (Mt.encL l).length = l.length := by simp
theorem Mt.encL_get {l : List Mt} {i : Nat} {t : Mt} (h : l[i]? = some t) : (Mt.encL l)[i]? = some (.agg [.str t.name, .agg [.int .i64 t.cls.op, .int .i64 t.cls.hd, .int .i64 t.cls.n, .sl 4 (Tm.encL t.cls.args)], .bool t.solved, .agg [.int .i64 t.value.op, .int .i64 t.value.hd, .int .i64 t.value.n, .sl 4 (Tm.encL t.value.args)]]) := by rw [Mt.encL_eq, List.getElem?_map, h]; rfl
structure Prt where
  sig : (List Dc)
  metas : (List Mt)
  first : Int
abbrev Prt.enc (t : Prt) : D := .agg [.sl 6 (Dc.encL t.sig), .sl 10 (Mt.encL t.metas), .int .i64 t.first]
abbrev Prt.encL (l : List Prt) : List D := l.map Prt.enc
theorem Prt.encL_eq (l : List Prt) : Prt.encL l = l.map Prt.enc := rfl
theorem Prt.enc_eq (t : Prt) : t.enc = .agg [.sl 6 (Dc.encL t.sig), .sl 10 (Mt.encL t.metas), .int .i64 t.first] := rfl
theorem Prt.encL_length (l : List Prt) : (Prt.encL l).length = l.length := by simp
theorem Prt.encL_get {l : List Prt} {i : Nat} {t : Prt} (h : l[i]? = some t) : (Prt.encL l)[i]? = some (.agg [.sl 6 (Dc.encL t.sig), .sl 10 (Mt.encL t.metas), .int .i64 t.first]) := by rw [Prt.encL_eq, List.getElem?_map, h]; rfl
structure Rpr where
  sig : (List Dc)
  metas : (List Mt)
  names : (List ByteArray)
abbrev Rpr.enc (t : Rpr) : D := .agg [.sl 6 (Dc.encL t.sig), .sl 10 (Mt.encL t.metas), .sl 1 (List.map D.str t.names)]
abbrev Rpr.encL (l : List Rpr) : List D := l.map Rpr.enc
theorem Rpr.encL_eq (l : List Rpr) : Rpr.encL l = l.map Rpr.enc := rfl
theorem Rpr.enc_eq (t : Rpr) : t.enc = .agg [.sl 6 (Dc.encL t.sig), .sl 10 (Mt.encL t.metas), .sl 1 (List.map D.str t.names)] := rfl
theorem Rpr.encL_length (l : List Rpr) : (Rpr.encL l).length = l.length := by simp
theorem Rpr.encL_get {l : List Rpr} {i : Nat} {t : Rpr} (h : l[i]? = some t) : (Rpr.encL l)[i]? = some (.agg [.sl 6 (Dc.encL t.sig), .sl 10 (Mt.encL t.metas), .sl 1 (List.map D.str t.names)]) := by rw [Rpr.encL_eq, List.getElem?_map, h]; rfl
structure Ask where
  sig : (List Dc)
  metas : (List Mt)
  n : Int
  t : Tm
abbrev Ask.enc (t : Ask) : D := .agg [.sl 6 (Dc.encL t.sig), .sl 10 (Mt.encL t.metas), .int .i64 t.n, .agg [.int .i64 t.t.op, .int .i64 t.t.hd, .int .i64 t.t.n, .sl 4 (Tm.encL t.t.args)]]
abbrev Ask.encL (l : List Ask) : List D := l.map Ask.enc
theorem Ask.encL_eq (l : List Ask) : Ask.encL l = l.map Ask.enc := rfl
theorem Ask.enc_eq (t : Ask) : t.enc = .agg [.sl 6 (Dc.encL t.sig), .sl 10 (Mt.encL t.metas), .int .i64 t.n, .agg [.int .i64 t.t.op, .int .i64 t.t.hd, .int .i64 t.t.n, .sl 4 (Tm.encL t.t.args)]] := rfl
theorem Ask.encL_length (l : List Ask) : (Ask.encL l).length = l.length := by simp
theorem Ask.encL_get {l : List Ask} {i : Nat} {t : Ask} (h : l[i]? = some t) : (Ask.encL l)[i]? = some (.agg [.sl 6 (Dc.encL t.sig), .sl 10 (Mt.encL t.metas), .int .i64 t.n, .agg [.int .i64 t.t.op, .int .i64 t.t.hd, .int .i64 t.t.n, .sl 4 (Tm.encL t.t.args)]]) := by rw [Ask.encL_eq, List.getElem?_map, h]; rfl
mutual
def slices_Index : Nat → (List Int) → Int → Option (Int)
  | 0, _, _ => none
  | n + 1, v1, v3 =>
    slices_Index_L1 n v1 v3 0
def slices_Index_L1 : Nat → (List Int) → Int → Int → Option (Int)
  | 0, _, _, _ => none
  | n + 1, v1, v3, v10 =>
    cond (decide (v10 < ((List.map (D.int .i64) v1).length : Int))) (
    (idx v1 v10).bind (fun v12 =>
    cond (v3 == v12) (
    some (v10)) (
    slices_Index_L1 n v1 v3 (IntKind.i64.wrap (v10 + 1))))) (
    some ((-1)))
 end
theorem slices_Index_spec (n : Nat) (v1 : (List Int)) (v3 : Int) (a2 : Option Addr) (c2 : Nat) (r : Int) (hr : slices_Index n v1 v3 = some r) : Pure Tryz.prog (.val (.fn (.func 126) [] [])) [(.v (.slice a2 ((List.map (D.int .i64) v1).length) c2)), (.v (.int .i64 v3))] [(.slice a2 ((List.map (D.int .i64) v1).length) c2, .sl 1 (List.map (D.int .i64) v1))] (fun r' out => r' = (.v (.int .i64 r)) ∧ out = []) := by
  rcases n with _ | n
  · exact no_some hr
  rw [slices_Index.eq_2] at hr
  refine spec_of_body (N := 19) (m := 0) (dt := fun _ => none) [] ttOK Tryz.func126 rfl Tryz.call126 Tryz.ntmps126 rfl rfl rfl mixed (by kernel_rfl) ?_
  refine AtLoop.mk ⟨Nat × Int, fun x => [(0, (.v (.slice a2 ((List.map (D.int .i64) v1).length) c2))), (1, (.v (.int .i64 v3))), (7, (.v (.int .i64 ((List.map (D.int .i64) v1).length : Int)))), (8, (.v (.int .i64 x.2)))], fun x => ⟨[], [], [(.slice a2 ((List.map (D.int .i64) v1).length) c2, .sl 1 (List.map (D.int .i64) v1))]⟩, fun x => slices_Index_L1 x.1 v1 v3 x.2 = some r, fun x => x.1, (n, 0), hr, ⟨rfl, rfl, rfl, rfl, trivial⟩, (StLe.gen 0 [] [.old 0] rfl rfl rfl rfl rfl rfl rfl), fun x _ => ⟨rfl, rfl⟩, ?_⟩
  rintro ⟨n, v10⟩ HH
  have hr : slices_Index_L1 n v1 v3 v10 = some r := HH
  rcases n with _ | n
  · exact no_some hr
  rw [slices_Index_L1.eq_2] at hr
  refine AtIf.mk (fun h11 => ?_) (fun h11 => ?_)
  · replace hr := cond_t h11 hr
    obtain ⟨v12, h13, hr⟩ := bind_some hr
    obtain ⟨h14, h15⟩ := idx_some h13
    refine at_index ttOK 0 rfl rfl rfl rfl h14 (map_get (D.int .i64) h15) ?_
    refine AtIf.mk (fun h16 => ?_) (fun h16 => ?_)
    · replace hr := cond_t h16 hr
      replace hr := Option.some.inj hr
      subst hr
      exact AtRet.pureG [] [] rfl rfl ⟨rfl, rfl⟩
    · replace hr := cond_f h16 hr
      exact ⟨(n, (IntKind.i64.wrap (v10 + 1))), hr, Nat.lt_succ_self _, ⟨rfl, rfl, rfl, rfl, trivial⟩, (StLe.gen 0 [] [.old 0] rfl rfl rfl rfl rfl rfl rfl)⟩
  · replace hr := cond_f h11 hr
    replace hr := Option.some.inj hr
    subst hr
    exact AtRet.pureG [] [] rfl rfl ⟨rfl, rfl⟩
def slices_Contains : Nat → (List Int) → Int → Option (Bool)
  | 0, _, _ => none
  | n + 1, v1, v3 =>
    (slices_Index n v1 v3).bind (fun v4 =>
    some ((decide (v4 ≥ 0))))
theorem slices_Contains_spec (n : Nat) (v1 : (List Int)) (v3 : Int) (a2 : Option Addr) (c2 : Nat) (r : Bool) (hr : slices_Contains n v1 v3 = some r) : Pure Tryz.prog (.val (.fn (.func 93) [] [])) [(.v (.slice a2 ((List.map (D.int .i64) v1).length) c2)), (.v (.int .i64 v3))] [(.slice a2 ((List.map (D.int .i64) v1).length) c2, .sl 1 (List.map (D.int .i64) v1))] (fun r' out => r' = (.v (.bool r)) ∧ out = []) := by
  rcases n with _ | n
  · exact no_some hr
  rw [slices_Contains.eq_2] at hr
  refine spec_of_body (N := 9) (m := 0) (dt := fun _ => none) [] ttOK Tryz.func93 rfl Tryz.call93 Tryz.ntmps93 rfl rfl rfl mixed (by kernel_rfl) ?_
  obtain ⟨v4, h5, hr⟩ := bind_some hr
  refine (slices_Index_spec n v1 v3 a2 c2 _ h5).atR [0] rfl rfl rfl ?_
  rintro _ _ ⟨rfl, rfl⟩
  replace hr := Option.some.inj hr
  subst hr
  exact AtRet.pureG [] [] rfl rfl ⟨rfl, rfl⟩
def syntax_text : Nat → Rw → (List Int) → Option (ByteArray)
  | 0, _, _ => none
  | n + 1, v1, v3 =>
    cond (v1.op == 1) (
    (slices_Contains n v3 v1.op).bind (fun v6 =>
    cond v6 (
    cond (decide ((⟨#[40]⟩ : ByteArray).size + (⟨#[116, 121, 112, 101]⟩ : ByteArray).size ≤ 1000000)) (
    cond (decide (((⟨#[40]⟩ : ByteArray) ++ (⟨#[116, 121, 112, 101]⟩ : ByteArray)).size + (⟨#[41]⟩ : ByteArray).size ≤ 1000000)) (
    some ((((⟨#[40]⟩ : ByteArray) ++ (⟨#[116, 121, 112, 101]⟩ : ByteArray)) ++ (⟨#[41]⟩ : ByteArray)))) none) none) (
    some (⟨#[116, 121, 112, 101]⟩)))) (
    cond (v1.op == 2) (
    (slices_Contains n v3 v1.op).bind (fun v12 =>
    cond v12 (
    cond (decide ((⟨#[40]⟩ : ByteArray).size + v1.name.size ≤ 1000000)) (
    cond (decide (((⟨#[40]⟩ : ByteArray) ++ v1.name).size + (⟨#[41]⟩ : ByteArray).size ≤ 1000000)) (
    some ((((⟨#[40]⟩ : ByteArray) ++ v1.name) ++ (⟨#[41]⟩ : ByteArray)))) none) none) (
    some (v1.name)))) (
    cond (v1.op == 3) (
    (slices_Contains n v3 v1.op).bind (fun v18 =>
    cond v18 (
    cond (decide ((⟨#[40]⟩ : ByteArray).size + (⟨#[95]⟩ : ByteArray).size ≤ 1000000)) (
    cond (decide (((⟨#[40]⟩ : ByteArray) ++ (⟨#[95]⟩ : ByteArray)).size + (⟨#[41]⟩ : ByteArray).size ≤ 1000000)) (
    some ((((⟨#[40]⟩ : ByteArray) ++ (⟨#[95]⟩ : ByteArray)) ++ (⟨#[41]⟩ : ByteArray)))) none) none) (
    some (⟨#[95]⟩)))) (
    cond (v1.op == 4) (
    (idx v1.args 0).bind (fun v24 =>
    (idx v1.args 1).bind (fun v29 =>
    (syntax_text n v24 ([6, 5, 7])).bind (fun v35 =>
    cond (decide (v35.size + (⟨#[32]⟩ : ByteArray).size ≤ 1000000)) (
    (syntax_text n v29 ([4, 6, 5, 7])).bind (fun v39 =>
    cond (decide ((v35 ++ (⟨#[32]⟩ : ByteArray)).size + v39.size ≤ 1000000)) (
    (slices_Contains n v3 v1.op).bind (fun v46 =>
    cond v46 (
    cond (decide ((⟨#[40]⟩ : ByteArray).size + ((v35 ++ (⟨#[32]⟩ : ByteArray)) ++ v39).size ≤ 1000000)) (
    cond (decide (((⟨#[40]⟩ : ByteArray) ++ ((v35 ++ (⟨#[32]⟩ : ByteArray)) ++ v39)).size + (⟨#[41]⟩ : ByteArray).size ≤ 1000000)) (
    some ((((⟨#[40]⟩ : ByteArray) ++ ((v35 ++ (⟨#[32]⟩ : ByteArray)) ++ v39)) ++ (⟨#[41]⟩ : ByteArray)))) none) none) (
    some (((v35 ++ (⟨#[32]⟩ : ByteArray)) ++ v39))))) none)) none)))) (
    cond (v1.op == 6) (
    (idx v1.args 0).bind (fun v52 =>
    (idx v1.args 1).bind (fun v57 =>
    (syntax_text n v52 ([6, 5, 7])).bind (fun v63 =>
    cond (decide (v63.size + (⟨#[32, 45, 62, 32]⟩ : ByteArray).size ≤ 1000000)) (
    (syntax_text n v57 ([])).bind (fun v66 =>
    cond (decide ((v63 ++ (⟨#[32, 45, 62, 32]⟩ : ByteArray)).size + v66.size ≤ 1000000)) (
    (slices_Contains n v3 v1.op).bind (fun v69 =>
    cond v69 (
    cond (decide ((⟨#[40]⟩ : ByteArray).size + ((v63 ++ (⟨#[32, 45, 62, 32]⟩ : ByteArray)) ++ v66).size ≤ 1000000)) (
    cond (decide (((⟨#[40]⟩ : ByteArray) ++ ((v63 ++ (⟨#[32, 45, 62, 32]⟩ : ByteArray)) ++ v66)).size + (⟨#[41]⟩ : ByteArray).size ≤ 1000000)) (
    some ((((⟨#[40]⟩ : ByteArray) ++ ((v63 ++ (⟨#[32, 45, 62, 32]⟩ : ByteArray)) ++ v66)) ++ (⟨#[41]⟩ : ByteArray)))) none) none) (
    some (((v63 ++ (⟨#[32, 45, 62, 32]⟩ : ByteArray)) ++ v66))))) none)) none)))) (
    cond (v1.op == 7) (
    cond (decide ((⟨#[91]⟩ : ByteArray).size + v1.name.size ≤ 1000000)) (
    (idx v1.args 0).bind (fun v76 =>
    cond (v76.op != 3) (
    (idx v1.args 0).bind (fun v82 =>
    (syntax_text n v82 ([])).bind (fun v87 =>
    cond (decide ((⟨#[58]⟩ : ByteArray).size + v87.size ≤ 1000000)) (
    cond (decide (((⟨#[91]⟩ : ByteArray) ++ v1.name).size + ((⟨#[58]⟩ : ByteArray) ++ v87).size ≤ 1000000)) (
    cond (decide ((⟨#[93]⟩ : ByteArray).size + (⟨#[32]⟩ : ByteArray).size ≤ 1000000)) (
    (idx v1.args 1).bind (fun v92 =>
    (syntax_text n v92 ([])).bind (fun v97 =>
    cond (decide (((⟨#[93]⟩ : ByteArray) ++ (⟨#[32]⟩ : ByteArray)).size + v97.size ≤ 1000000)) (
    cond (decide ((((⟨#[91]⟩ : ByteArray) ++ v1.name) ++ ((⟨#[58]⟩ : ByteArray) ++ v87)).size + (((⟨#[93]⟩ : ByteArray) ++ (⟨#[32]⟩ : ByteArray)) ++ v97).size ≤ 1000000)) (
    (slices_Contains n v3 v1.op).bind (fun v101 =>
    cond v101 (
    cond (decide ((⟨#[40]⟩ : ByteArray).size + ((((⟨#[91]⟩ : ByteArray) ++ v1.name) ++ ((⟨#[58]⟩ : ByteArray) ++ v87)) ++ (((⟨#[93]⟩ : ByteArray) ++ (⟨#[32]⟩ : ByteArray)) ++ v97)).size ≤ 1000000)) (
    cond (decide (((⟨#[40]⟩ : ByteArray) ++ ((((⟨#[91]⟩ : ByteArray) ++ v1.name) ++ ((⟨#[58]⟩ : ByteArray) ++ v87)) ++ (((⟨#[93]⟩ : ByteArray) ++ (⟨#[32]⟩ : ByteArray)) ++ v97))).size + (⟨#[41]⟩ : ByteArray).size ≤ 1000000)) (
    some ((((⟨#[40]⟩ : ByteArray) ++ ((((⟨#[91]⟩ : ByteArray) ++ v1.name) ++ ((⟨#[58]⟩ : ByteArray) ++ v87)) ++ (((⟨#[93]⟩ : ByteArray) ++ (⟨#[32]⟩ : ByteArray)) ++ v97))) ++ (⟨#[41]⟩ : ByteArray)))) none) none) (
    some (((((⟨#[91]⟩ : ByteArray) ++ v1.name) ++ ((⟨#[58]⟩ : ByteArray) ++ v87)) ++ (((⟨#[93]⟩ : ByteArray) ++ (⟨#[32]⟩ : ByteArray)) ++ v97)))))) none) none))) none) none) none))) (
    cond (decide ((⟨#[93]⟩ : ByteArray).size + (⟨#[32]⟩ : ByteArray).size ≤ 1000000)) (
    (idx v1.args 1).bind (fun v107 =>
    (syntax_text n v107 ([])).bind (fun v112 =>
    cond (decide (((⟨#[93]⟩ : ByteArray) ++ (⟨#[32]⟩ : ByteArray)).size + v112.size ≤ 1000000)) (
    cond (decide (((⟨#[91]⟩ : ByteArray) ++ v1.name).size + (((⟨#[93]⟩ : ByteArray) ++ (⟨#[32]⟩ : ByteArray)) ++ v112).size ≤ 1000000)) (
    (slices_Contains n v3 v1.op).bind (fun v116 =>
    cond v116 (
    cond (decide ((⟨#[40]⟩ : ByteArray).size + (((⟨#[91]⟩ : ByteArray) ++ v1.name) ++ (((⟨#[93]⟩ : ByteArray) ++ (⟨#[32]⟩ : ByteArray)) ++ v112)).size ≤ 1000000)) (
    cond (decide (((⟨#[40]⟩ : ByteArray) ++ (((⟨#[91]⟩ : ByteArray) ++ v1.name) ++ (((⟨#[93]⟩ : ByteArray) ++ (⟨#[32]⟩ : ByteArray)) ++ v112))).size + (⟨#[41]⟩ : ByteArray).size ≤ 1000000)) (
    some ((((⟨#[40]⟩ : ByteArray) ++ (((⟨#[91]⟩ : ByteArray) ++ v1.name) ++ (((⟨#[93]⟩ : ByteArray) ++ (⟨#[32]⟩ : ByteArray)) ++ v112))) ++ (⟨#[41]⟩ : ByteArray)))) none) none) (
    some ((((⟨#[91]⟩ : ByteArray) ++ v1.name) ++ (((⟨#[93]⟩ : ByteArray) ++ (⟨#[32]⟩ : ByteArray)) ++ v112)))))) none) none))) none))) none) (
    cond (decide ((⟨#[123]⟩ : ByteArray).size + v1.name.size ≤ 1000000)) (
    (idx v1.args 0).bind (fun v122 =>
    cond (v122.op != 3) (
    (idx v1.args 0).bind (fun v128 =>
    (syntax_text n v128 ([])).bind (fun v133 =>
    cond (decide ((⟨#[58]⟩ : ByteArray).size + v133.size ≤ 1000000)) (
    cond (decide (((⟨#[123]⟩ : ByteArray) ++ v1.name).size + ((⟨#[58]⟩ : ByteArray) ++ v133).size ≤ 1000000)) (
    cond (decide ((⟨#[125]⟩ : ByteArray).size + (⟨#[32]⟩ : ByteArray).size ≤ 1000000)) (
    (idx v1.args 1).bind (fun v138 =>
    (syntax_text n v138 ([])).bind (fun v143 =>
    cond (decide (((⟨#[125]⟩ : ByteArray) ++ (⟨#[32]⟩ : ByteArray)).size + v143.size ≤ 1000000)) (
    cond (decide ((((⟨#[123]⟩ : ByteArray) ++ v1.name) ++ ((⟨#[58]⟩ : ByteArray) ++ v133)).size + (((⟨#[125]⟩ : ByteArray) ++ (⟨#[32]⟩ : ByteArray)) ++ v143).size ≤ 1000000)) (
    (slices_Contains n v3 v1.op).bind (fun v147 =>
    cond v147 (
    cond (decide ((⟨#[40]⟩ : ByteArray).size + ((((⟨#[123]⟩ : ByteArray) ++ v1.name) ++ ((⟨#[58]⟩ : ByteArray) ++ v133)) ++ (((⟨#[125]⟩ : ByteArray) ++ (⟨#[32]⟩ : ByteArray)) ++ v143)).size ≤ 1000000)) (
    cond (decide (((⟨#[40]⟩ : ByteArray) ++ ((((⟨#[123]⟩ : ByteArray) ++ v1.name) ++ ((⟨#[58]⟩ : ByteArray) ++ v133)) ++ (((⟨#[125]⟩ : ByteArray) ++ (⟨#[32]⟩ : ByteArray)) ++ v143))).size + (⟨#[41]⟩ : ByteArray).size ≤ 1000000)) (
    some ((((⟨#[40]⟩ : ByteArray) ++ ((((⟨#[123]⟩ : ByteArray) ++ v1.name) ++ ((⟨#[58]⟩ : ByteArray) ++ v133)) ++ (((⟨#[125]⟩ : ByteArray) ++ (⟨#[32]⟩ : ByteArray)) ++ v143))) ++ (⟨#[41]⟩ : ByteArray)))) none) none) (
    some (((((⟨#[123]⟩ : ByteArray) ++ v1.name) ++ ((⟨#[58]⟩ : ByteArray) ++ v133)) ++ (((⟨#[125]⟩ : ByteArray) ++ (⟨#[32]⟩ : ByteArray)) ++ v143)))))) none) none))) none) none) none))) (
    cond (decide ((⟨#[125]⟩ : ByteArray).size + (⟨#[32]⟩ : ByteArray).size ≤ 1000000)) (
    (idx v1.args 1).bind (fun v153 =>
    (syntax_text n v153 ([])).bind (fun v158 =>
    cond (decide (((⟨#[125]⟩ : ByteArray) ++ (⟨#[32]⟩ : ByteArray)).size + v158.size ≤ 1000000)) (
    cond (decide (((⟨#[123]⟩ : ByteArray) ++ v1.name).size + (((⟨#[125]⟩ : ByteArray) ++ (⟨#[32]⟩ : ByteArray)) ++ v158).size ≤ 1000000)) (
    (slices_Contains n v3 v1.op).bind (fun v162 =>
    cond v162 (
    cond (decide ((⟨#[40]⟩ : ByteArray).size + (((⟨#[123]⟩ : ByteArray) ++ v1.name) ++ (((⟨#[125]⟩ : ByteArray) ++ (⟨#[32]⟩ : ByteArray)) ++ v158)).size ≤ 1000000)) (
    cond (decide (((⟨#[40]⟩ : ByteArray) ++ (((⟨#[123]⟩ : ByteArray) ++ v1.name) ++ (((⟨#[125]⟩ : ByteArray) ++ (⟨#[32]⟩ : ByteArray)) ++ v158))).size + (⟨#[41]⟩ : ByteArray).size ≤ 1000000)) (
    some ((((⟨#[40]⟩ : ByteArray) ++ (((⟨#[123]⟩ : ByteArray) ++ v1.name) ++ (((⟨#[125]⟩ : ByteArray) ++ (⟨#[32]⟩ : ByteArray)) ++ v158))) ++ (⟨#[41]⟩ : ByteArray)))) none) none) (
    some ((((⟨#[123]⟩ : ByteArray) ++ v1.name) ++ (((⟨#[125]⟩ : ByteArray) ++ (⟨#[32]⟩ : ByteArray)) ++ v158)))))) none) none))) none))) none))))))
theorem syntax_text_specN : ∀ (N : Nat), (∀ (n : Nat), n ≤ N → ∀ (v1 : Rw) (v3 : (List Int)) (a2 : Option Addr) (c2 : Nat) (a4 : Option Addr) (c4 : Nat) (r : ByteArray), syntax_text n v1 v3 = some r → Pure Tryz.prog (.val (.fn (.func 56) [] [])) [(.agg [(.v (.int .i64 v1.op)), (.v (.string v1.name)), (.v (.slice a2 ((Rw.encL v1.args).length) c2))]), (.v (.slice a4 ((List.map (D.int .i64) v3).length) c4))] [(.slice a2 ((Rw.encL v1.args).length) c2, .sl 3 (Rw.encL v1.args)), (.slice a4 ((List.map (D.int .i64) v3).length) c4, .sl 1 (List.map (D.int .i64) v3))] (fun r' out => r' = (.v (.string r)) ∧ out = [])) := by
  intro N
  induction N with
  | zero =>
    intro n hn v1 v3 a2 c2 a4 c4 r hr; obtain rfl : n = 0 := (by omega); exact no_some hr
  | succ N ih =>
    intro n hn v1 v3 a2 c2 a4 c4 r hr
    rcases n with _ | n
    · exact no_some hr
    replace hn : n ≤ N := by omega
    rw [syntax_text.eq_2] at hr
    refine spec_of_body (N := 88) (m := 0) (dt := drawsOf [(17, .node [0, 1, 2, 3, 7, 8, 9, 10] [(4, .node [] [(5, .node [6] [(11, .node [] [(12, .leaf [13, 14])])]), (11, .node [] [(5, .node [6] [(12, .leaf [13, 14])])])]), (11, .node [] [(4, .node [] [(5, .node [6] [(12, .leaf [13, 14])])])])], [], []), (19, .node [0, 1, 2, 3, 7, 8, 9, 10] [(4, .node [] [(5, .node [6] [(11, .leaf [12, 13])])])], [], [])]) [] ttOK Tryz.func56 rfl Tryz.call56 Tryz.ntmps56 rfl rfl rfl mixed (by kernel_rfl) ?_
    refine AtIf.mk (fun h5 => ?_) (fun h5 => ?_)
    · replace hr := cond_t h5 hr
      obtain ⟨v6, h7, hr⟩ := bind_some hr
      refine (slices_Contains_spec n v3 v1.op a4 c4 _ h7).atR [1] rfl rfl rfl ?_
      rintro _ _ ⟨rfl, rfl⟩
      refine AtIf.mk (fun h8 => ?_) (fun h8 => ?_)
      · replace hr := cond_t h8 hr
        obtain ⟨h9, hr⟩ := cond_need hr
        refine at_concat (of_decide_eq_true h9) ?_
        obtain ⟨h10, hr⟩ := cond_need hr
        refine at_concat (of_decide_eq_true h10) ?_
        replace hr := Option.some.inj hr
        subst hr
        exact AtRet.pureG [] [] rfl rfl ⟨rfl, rfl⟩
      · replace hr := cond_f h8 hr
        replace hr := Option.some.inj hr
        subst hr
        exact AtRet.pureG [] [] rfl rfl ⟨rfl, rfl⟩
    · replace hr := cond_f h5 hr
      refine AtIf.mk (fun h11 => ?_) (fun h11 => ?_)
      · replace hr := cond_t h11 hr
        obtain ⟨v12, h13, hr⟩ := bind_some hr
        refine (slices_Contains_spec n v3 v1.op a4 c4 _ h13).atR [1] rfl rfl rfl ?_
        rintro _ _ ⟨rfl, rfl⟩
        refine AtIf.mk (fun h14 => ?_) (fun h14 => ?_)
        · replace hr := cond_t h14 hr
          obtain ⟨h15, hr⟩ := cond_need hr
          refine at_concat (of_decide_eq_true h15) ?_
          obtain ⟨h16, hr⟩ := cond_need hr
          refine at_concat (of_decide_eq_true h16) ?_
          replace hr := Option.some.inj hr
          subst hr
          exact AtRet.pureG [] [] rfl rfl ⟨rfl, rfl⟩
        · replace hr := cond_f h14 hr
          replace hr := Option.some.inj hr
          subst hr
          exact AtRet.pureG [] [] rfl rfl ⟨rfl, rfl⟩
      · replace hr := cond_f h11 hr
        refine AtIf.mk (fun h17 => ?_) (fun h17 => ?_)
        · replace hr := cond_t h17 hr
          obtain ⟨v18, h19, hr⟩ := bind_some hr
          refine (slices_Contains_spec n v3 v1.op a4 c4 _ h19).atR [1] rfl rfl rfl ?_
          rintro _ _ ⟨rfl, rfl⟩
          refine AtIf.mk (fun h20 => ?_) (fun h20 => ?_)
          · replace hr := cond_t h20 hr
            obtain ⟨h21, hr⟩ := cond_need hr
            refine at_concat (of_decide_eq_true h21) ?_
            obtain ⟨h22, hr⟩ := cond_need hr
            refine at_concat (of_decide_eq_true h22) ?_
            replace hr := Option.some.inj hr
            subst hr
            exact AtRet.pureG [] [] rfl rfl ⟨rfl, rfl⟩
          · replace hr := cond_f h20 hr
            replace hr := Option.some.inj hr
            subst hr
            exact AtRet.pureG [] [] rfl rfl ⟨rfl, rfl⟩
        · replace hr := cond_f h17 hr
          refine AtIf.mk (fun h23 => ?_) (fun h23 => ?_)
          · replace hr := cond_t h23 hr
            obtain ⟨v24, h25, hr⟩ := bind_some hr
            obtain ⟨h26, h27⟩ := idx_some h25
            obtain ⟨v29, h30, hr⟩ := bind_some hr
            obtain ⟨h31, h32⟩ := idx_some h30
            obtain ⟨v35, h36, hr⟩ := bind_some hr
            obtain ⟨h37, hr⟩ := cond_need hr
            obtain ⟨v39, h40, hr⟩ := bind_some hr
            obtain ⟨h41, hr⟩ := cond_need hr
            refine at_index ttOK 0 rfl rfl rfl rfl h26 (Rw.encL_get h27) ?_
            intro a42 c42 _ _
            refine at_index ttOK 0 rfl rfl rfl rfl h31 (Rw.encL_get h32) ?_
            intro a43 c43 _ _
            refine ⟨?_, ?_⟩
            ·
              refine at_buildG (n := 3) ttOK 8 [.int .i64 6, .int .i64 5, .int .i64 7] (ds' := (List.map (D.int .i64) ([6, 5, 7]))) rfl (by kernel_rfl) ⟨⟨rfl, rfl, rfl, rfl⟩, ⟨⟨rfl, rfl, rfl, rfl⟩, ⟨⟨rfl, rfl, rfl, rfl⟩, trivial⟩⟩⟩ rfl rfl (by decide) (by decide) ?_
              intro a44
              refine ⟨fun _ _ h => h, ?_⟩
              refine ⟨?_, ?_⟩
              ·
                refine (ih n (by omega) v24 ([6, 5, 7]) a42 c42 a44 3 _ h36).atR [2, 4] rfl rfl rfl ?_
                rintro _ _ ⟨rfl, rfl⟩
                refine ⟨fun _ _ h => h, ?_⟩
                refine at_concat (of_decide_eq_true h37) ?_
                refine at_buildG (n := 4) ttOK 8 [.int .i64 4, .int .i64 6, .int .i64 5, .int .i64 7] (ds' := (List.map (D.int .i64) ([4, 6, 5, 7]))) rfl (by kernel_rfl) ⟨⟨rfl, rfl, rfl, rfl⟩, ⟨⟨rfl, rfl, rfl, rfl⟩, ⟨⟨rfl, rfl, rfl, rfl⟩, ⟨⟨rfl, rfl, rfl, rfl⟩, trivial⟩⟩⟩⟩ rfl rfl (by decide) (by decide) ?_
                intro a45
                refine ⟨fun _ _ h => h, ?_⟩
                refine (ih n (by omega) v29 ([4, 6, 5, 7]) a43 c43 a45 4 _ h40).atR [3, 5] rfl rfl rfl ?_
                rintro _ _ ⟨rfl, rfl⟩
                refine ⟨fun _ _ h => h, ?_⟩
                refine at_concat (of_decide_eq_true h41) ?_
                obtain ⟨v46, h47, hr⟩ := bind_some hr
                refine (slices_Contains_spec n v3 v1.op a4 c4 _ h47).atR [1] rfl rfl rfl ?_
                rintro _ _ ⟨rfl, rfl⟩
                refine AtIf.mk (fun h48 => ?_) (fun h48 => ?_)
                · replace hr := cond_t h48 hr
                  obtain ⟨h49, hr⟩ := cond_need hr
                  refine at_concat (of_decide_eq_true h49) ?_
                  obtain ⟨h50, hr⟩ := cond_need hr
                  refine at_concat (of_decide_eq_true h50) ?_
                  replace hr := Option.some.inj hr
                  subst hr
                  exact AtRet.pureG [] [] rfl rfl ⟨rfl, rfl⟩
                · replace hr := cond_f h48 hr
                  replace hr := Option.some.inj hr
                  subst hr
                  exact AtRet.pureG [] [] rfl rfl ⟨rfl, rfl⟩
              ·
                refine at_buildG (n := 4) ttOK 8 [.int .i64 4, .int .i64 6, .int .i64 5, .int .i64 7] (ds' := (List.map (D.int .i64) ([4, 6, 5, 7]))) rfl (by kernel_rfl) ⟨⟨rfl, rfl, rfl, rfl⟩, ⟨⟨rfl, rfl, rfl, rfl⟩, ⟨⟨rfl, rfl, rfl, rfl⟩, ⟨⟨rfl, rfl, rfl, rfl⟩, trivial⟩⟩⟩⟩ rfl rfl (by decide) (by decide) ?_
                intro a51
                refine ⟨fun _ _ h => h, ?_⟩
                refine (ih n (by omega) v24 ([6, 5, 7]) a42 c42 a44 3 _ h36).atR [2, 4] rfl rfl rfl ?_
                rintro _ _ ⟨rfl, rfl⟩
                refine ⟨fun _ _ h => h, ?_⟩
                refine at_concat (of_decide_eq_true h37) ?_
                refine (ih n (by omega) v29 ([4, 6, 5, 7]) a43 c43 a51 4 _ h40).atR [3, 5] rfl rfl rfl ?_
                rintro _ _ ⟨rfl, rfl⟩
                refine ⟨fun _ _ h => h, ?_⟩
                refine at_concat (of_decide_eq_true h41) ?_
                obtain ⟨v46, h47, hr⟩ := bind_some hr
                refine (slices_Contains_spec n v3 v1.op a4 c4 _ h47).atR [1] rfl rfl rfl ?_
                rintro _ _ ⟨rfl, rfl⟩
                refine AtIf.mk (fun h48 => ?_) (fun h48 => ?_)
                · replace hr := cond_t h48 hr
                  obtain ⟨h49, hr⟩ := cond_need hr
                  refine at_concat (of_decide_eq_true h49) ?_
                  obtain ⟨h50, hr⟩ := cond_need hr
                  refine at_concat (of_decide_eq_true h50) ?_
                  replace hr := Option.some.inj hr
                  subst hr
                  exact AtRet.pureG [] [] rfl rfl ⟨rfl, rfl⟩
                · replace hr := cond_f h48 hr
                  replace hr := Option.some.inj hr
                  subst hr
                  exact AtRet.pureG [] [] rfl rfl ⟨rfl, rfl⟩
            ·
              refine at_buildG (n := 4) ttOK 8 [.int .i64 4, .int .i64 6, .int .i64 5, .int .i64 7] (ds' := (List.map (D.int .i64) ([4, 6, 5, 7]))) rfl (by kernel_rfl) ⟨⟨rfl, rfl, rfl, rfl⟩, ⟨⟨rfl, rfl, rfl, rfl⟩, ⟨⟨rfl, rfl, rfl, rfl⟩, ⟨⟨rfl, rfl, rfl, rfl⟩, trivial⟩⟩⟩⟩ rfl rfl (by decide) (by decide) ?_
              intro a51
              refine ⟨fun _ _ h => h, ?_⟩
              refine at_buildG (n := 3) ttOK 8 [.int .i64 6, .int .i64 5, .int .i64 7] (ds' := (List.map (D.int .i64) ([6, 5, 7]))) rfl (by kernel_rfl) ⟨⟨rfl, rfl, rfl, rfl⟩, ⟨⟨rfl, rfl, rfl, rfl⟩, ⟨⟨rfl, rfl, rfl, rfl⟩, trivial⟩⟩⟩ rfl rfl (by decide) (by decide) ?_
              intro a52
              refine ⟨fun _ _ h => h, ?_⟩
              refine (ih n (by omega) v24 ([6, 5, 7]) a42 c42 a52 3 _ h36).atR [2, 5] rfl rfl rfl ?_
              rintro _ _ ⟨rfl, rfl⟩
              refine ⟨fun _ _ h => h, ?_⟩
              refine at_concat (of_decide_eq_true h37) ?_
              refine (ih n (by omega) v29 ([4, 6, 5, 7]) a43 c43 a51 4 _ h40).atR [3, 4] rfl rfl rfl ?_
              rintro _ _ ⟨rfl, rfl⟩
              refine ⟨fun _ _ h => h, ?_⟩
              refine at_concat (of_decide_eq_true h41) ?_
              obtain ⟨v46, h47, hr⟩ := bind_some hr
              refine (slices_Contains_spec n v3 v1.op a4 c4 _ h47).atR [1] rfl rfl rfl ?_
              rintro _ _ ⟨rfl, rfl⟩
              refine AtIf.mk (fun h48 => ?_) (fun h48 => ?_)
              · replace hr := cond_t h48 hr
                obtain ⟨h49, hr⟩ := cond_need hr
                refine at_concat (of_decide_eq_true h49) ?_
                obtain ⟨h50, hr⟩ := cond_need hr
                refine at_concat (of_decide_eq_true h50) ?_
                replace hr := Option.some.inj hr
                subst hr
                exact AtRet.pureG [] [] rfl rfl ⟨rfl, rfl⟩
              · replace hr := cond_f h48 hr
                replace hr := Option.some.inj hr
                subst hr
                exact AtRet.pureG [] [] rfl rfl ⟨rfl, rfl⟩
          · replace hr := cond_f h23 hr
            refine AtIf.mk (fun h51 => ?_) (fun h51 => ?_)
            · replace hr := cond_t h51 hr
              obtain ⟨v52, h53, hr⟩ := bind_some hr
              obtain ⟨h54, h55⟩ := idx_some h53
              refine at_index ttOK 0 rfl rfl rfl rfl h54 (Rw.encL_get h55) ?_
              intro a56 c56 _ _
              obtain ⟨v57, h58, hr⟩ := bind_some hr
              obtain ⟨h59, h60⟩ := idx_some h58
              refine at_index ttOK 0 rfl rfl rfl rfl h59 (Rw.encL_get h60) ?_
              intro a61 c61 _ _
              refine at_buildG (n := 3) ttOK 8 [.int .i64 6, .int .i64 5, .int .i64 7] (ds' := (List.map (D.int .i64) ([6, 5, 7]))) rfl (by kernel_rfl) ⟨⟨rfl, rfl, rfl, rfl⟩, ⟨⟨rfl, rfl, rfl, rfl⟩, ⟨⟨rfl, rfl, rfl, rfl⟩, trivial⟩⟩⟩ rfl rfl (by decide) (by decide) ?_
              intro a62
              refine ⟨fun _ _ h => h, ?_⟩
              obtain ⟨v63, h64, hr⟩ := bind_some hr
              refine (ih n (by omega) v52 ([6, 5, 7]) a56 c56 a62 3 _ h64).atR [2, 4] rfl rfl rfl ?_
              rintro _ _ ⟨rfl, rfl⟩
              refine ⟨fun _ _ h => h, ?_⟩
              obtain ⟨h65, hr⟩ := cond_need hr
              refine at_concat (of_decide_eq_true h65) ?_
              obtain ⟨v66, h67, hr⟩ := bind_some hr
              refine Meets.nilRep 1 ?_
              refine (ih n (by omega) v57 ([]) a61 c61 none 0 _ h67).atR [4, 0] rfl rfl rfl ?_
              rintro _ _ ⟨rfl, rfl⟩
              refine ⟨fun _ _ h => h, ?_⟩
              obtain ⟨h68, hr⟩ := cond_need hr
              refine at_concat (of_decide_eq_true h68) ?_
              obtain ⟨v69, h70, hr⟩ := bind_some hr
              refine (slices_Contains_spec n v3 v1.op a4 c4 _ h70).atR [2] rfl rfl rfl ?_
              rintro _ _ ⟨rfl, rfl⟩
              refine AtIf.mk (fun h71 => ?_) (fun h71 => ?_)
              · replace hr := cond_t h71 hr
                obtain ⟨h72, hr⟩ := cond_need hr
                refine at_concat (of_decide_eq_true h72) ?_
                obtain ⟨h73, hr⟩ := cond_need hr
                refine at_concat (of_decide_eq_true h73) ?_
                replace hr := Option.some.inj hr
                subst hr
                exact AtRet.pureG [] [] rfl rfl ⟨rfl, rfl⟩
              · replace hr := cond_f h71 hr
                replace hr := Option.some.inj hr
                subst hr
                exact AtRet.pureG [] [] rfl rfl ⟨rfl, rfl⟩
            · replace hr := cond_f h51 hr
              refine AtIf.mk (fun h74 => ?_) (fun h74 => ?_)
              · replace hr := cond_t h74 hr
                obtain ⟨h75, hr⟩ := cond_need hr
                refine at_concat (of_decide_eq_true h75) ?_
                obtain ⟨v76, h77, hr⟩ := bind_some hr
                obtain ⟨h78, h79⟩ := idx_some h77
                refine at_index ttOK 0 rfl rfl rfl rfl h78 (Rw.encL_get h79) ?_
                intro a80 c80 _ _
                refine AtIf.mk (fun h81 => ?_) (fun h81 => ?_)
                · replace hr := cond_t h81 hr
                  obtain ⟨v82, h83, hr⟩ := bind_some hr
                  obtain ⟨h84, h85⟩ := idx_some h83
                  refine at_index ttOK 0 rfl rfl rfl rfl h84 (Rw.encL_get h85) ?_
                  intro a86 c86 _ _
                  obtain ⟨v87, h88, hr⟩ := bind_some hr
                  refine Meets.nilRep 1 ?_
                  refine (ih n (by omega) v82 ([]) a86 c86 none 0 _ h88).atR [4, 0] rfl rfl rfl ?_
                  rintro _ _ ⟨rfl, rfl⟩
                  obtain ⟨h89, hr⟩ := cond_need hr
                  refine at_concat (of_decide_eq_true h89) ?_
                  obtain ⟨h90, hr⟩ := cond_need hr
                  refine at_concat (of_decide_eq_true h90) ?_
                  obtain ⟨h91, hr⟩ := cond_need hr
                  refine at_concat (of_decide_eq_true h91) ?_
                  obtain ⟨v92, h93, hr⟩ := bind_some hr
                  obtain ⟨h94, h95⟩ := idx_some h93
                  refine at_index ttOK 1 rfl rfl rfl rfl h94 (Rw.encL_get h95) ?_
                  intro a96 c96 _ _
                  obtain ⟨v97, h98, hr⟩ := bind_some hr
                  refine (ih n (by omega) v92 ([]) a96 c96 none 0 _ h98).atR [5, 0] rfl rfl rfl ?_
                  rintro _ _ ⟨rfl, rfl⟩
                  obtain ⟨h99, hr⟩ := cond_need hr
                  refine at_concat (of_decide_eq_true h99) ?_
                  obtain ⟨h100, hr⟩ := cond_need hr
                  refine at_concat (of_decide_eq_true h100) ?_
                  obtain ⟨v101, h102, hr⟩ := bind_some hr
                  refine (slices_Contains_spec n v3 v1.op a4 c4 _ h102).atR [2] rfl rfl rfl ?_
                  rintro _ _ ⟨rfl, rfl⟩
                  refine AtIf.mk (fun h103 => ?_) (fun h103 => ?_)
                  · replace hr := cond_t h103 hr
                    obtain ⟨h104, hr⟩ := cond_need hr
                    refine at_concat (of_decide_eq_true h104) ?_
                    obtain ⟨h105, hr⟩ := cond_need hr
                    refine at_concat (of_decide_eq_true h105) ?_
                    replace hr := Option.some.inj hr
                    subst hr
                    exact AtRet.pureG [] [] rfl rfl ⟨rfl, rfl⟩
                  · replace hr := cond_f h103 hr
                    replace hr := Option.some.inj hr
                    subst hr
                    exact AtRet.pureG [] [] rfl rfl ⟨rfl, rfl⟩
                · replace hr := cond_f h81 hr
                  obtain ⟨h106, hr⟩ := cond_need hr
                  refine at_concat (of_decide_eq_true h106) ?_
                  obtain ⟨v107, h108, hr⟩ := bind_some hr
                  obtain ⟨h109, h110⟩ := idx_some h108
                  refine at_index ttOK 0 rfl rfl rfl rfl h109 (Rw.encL_get h110) ?_
                  intro a111 c111 _ _
                  obtain ⟨v112, h113, hr⟩ := bind_some hr
                  refine Meets.nilRep 1 ?_
                  refine (ih n (by omega) v107 ([]) a111 c111 none 0 _ h113).atR [4, 0] rfl rfl rfl ?_
                  rintro _ _ ⟨rfl, rfl⟩
                  obtain ⟨h114, hr⟩ := cond_need hr
                  refine at_concat (of_decide_eq_true h114) ?_
                  obtain ⟨h115, hr⟩ := cond_need hr
                  refine at_concat (of_decide_eq_true h115) ?_
                  obtain ⟨v116, h117, hr⟩ := bind_some hr
                  refine (slices_Contains_spec n v3 v1.op a4 c4 _ h117).atR [2] rfl rfl rfl ?_
                  rintro _ _ ⟨rfl, rfl⟩
                  refine AtIf.mk (fun h118 => ?_) (fun h118 => ?_)
                  · replace hr := cond_t h118 hr
                    obtain ⟨h119, hr⟩ := cond_need hr
                    refine at_concat (of_decide_eq_true h119) ?_
                    obtain ⟨h120, hr⟩ := cond_need hr
                    refine at_concat (of_decide_eq_true h120) ?_
                    replace hr := Option.some.inj hr
                    subst hr
                    exact AtRet.pureG [] [] rfl rfl ⟨rfl, rfl⟩
                  · replace hr := cond_f h118 hr
                    replace hr := Option.some.inj hr
                    subst hr
                    exact AtRet.pureG [] [] rfl rfl ⟨rfl, rfl⟩
              · replace hr := cond_f h74 hr
                obtain ⟨h121, hr⟩ := cond_need hr
                refine at_concat (of_decide_eq_true h121) ?_
                obtain ⟨v122, h123, hr⟩ := bind_some hr
                obtain ⟨h124, h125⟩ := idx_some h123
                refine at_index ttOK 0 rfl rfl rfl rfl h124 (Rw.encL_get h125) ?_
                intro a126 c126 _ _
                refine AtIf.mk (fun h127 => ?_) (fun h127 => ?_)
                · replace hr := cond_t h127 hr
                  obtain ⟨v128, h129, hr⟩ := bind_some hr
                  obtain ⟨h130, h131⟩ := idx_some h129
                  refine at_index ttOK 0 rfl rfl rfl rfl h130 (Rw.encL_get h131) ?_
                  intro a132 c132 _ _
                  obtain ⟨v133, h134, hr⟩ := bind_some hr
                  refine Meets.nilRep 1 ?_
                  refine (ih n (by omega) v128 ([]) a132 c132 none 0 _ h134).atR [4, 0] rfl rfl rfl ?_
                  rintro _ _ ⟨rfl, rfl⟩
                  obtain ⟨h135, hr⟩ := cond_need hr
                  refine at_concat (of_decide_eq_true h135) ?_
                  obtain ⟨h136, hr⟩ := cond_need hr
                  refine at_concat (of_decide_eq_true h136) ?_
                  obtain ⟨h137, hr⟩ := cond_need hr
                  refine at_concat (of_decide_eq_true h137) ?_
                  obtain ⟨v138, h139, hr⟩ := bind_some hr
                  obtain ⟨h140, h141⟩ := idx_some h139
                  refine at_index ttOK 1 rfl rfl rfl rfl h140 (Rw.encL_get h141) ?_
                  intro a142 c142 _ _
                  obtain ⟨v143, h144, hr⟩ := bind_some hr
                  refine (ih n (by omega) v138 ([]) a142 c142 none 0 _ h144).atR [5, 0] rfl rfl rfl ?_
                  rintro _ _ ⟨rfl, rfl⟩
                  obtain ⟨h145, hr⟩ := cond_need hr
                  refine at_concat (of_decide_eq_true h145) ?_
                  obtain ⟨h146, hr⟩ := cond_need hr
                  refine at_concat (of_decide_eq_true h146) ?_
                  obtain ⟨v147, h148, hr⟩ := bind_some hr
                  refine (slices_Contains_spec n v3 v1.op a4 c4 _ h148).atR [2] rfl rfl rfl ?_
                  rintro _ _ ⟨rfl, rfl⟩
                  refine AtIf.mk (fun h149 => ?_) (fun h149 => ?_)
                  · replace hr := cond_t h149 hr
                    obtain ⟨h150, hr⟩ := cond_need hr
                    refine at_concat (of_decide_eq_true h150) ?_
                    obtain ⟨h151, hr⟩ := cond_need hr
                    refine at_concat (of_decide_eq_true h151) ?_
                    replace hr := Option.some.inj hr
                    subst hr
                    exact AtRet.pureG [] [] rfl rfl ⟨rfl, rfl⟩
                  · replace hr := cond_f h149 hr
                    replace hr := Option.some.inj hr
                    subst hr
                    exact AtRet.pureG [] [] rfl rfl ⟨rfl, rfl⟩
                · replace hr := cond_f h127 hr
                  obtain ⟨h152, hr⟩ := cond_need hr
                  refine at_concat (of_decide_eq_true h152) ?_
                  obtain ⟨v153, h154, hr⟩ := bind_some hr
                  obtain ⟨h155, h156⟩ := idx_some h154
                  refine at_index ttOK 0 rfl rfl rfl rfl h155 (Rw.encL_get h156) ?_
                  intro a157 c157 _ _
                  obtain ⟨v158, h159, hr⟩ := bind_some hr
                  refine Meets.nilRep 1 ?_
                  refine (ih n (by omega) v153 ([]) a157 c157 none 0 _ h159).atR [4, 0] rfl rfl rfl ?_
                  rintro _ _ ⟨rfl, rfl⟩
                  obtain ⟨h160, hr⟩ := cond_need hr
                  refine at_concat (of_decide_eq_true h160) ?_
                  obtain ⟨h161, hr⟩ := cond_need hr
                  refine at_concat (of_decide_eq_true h161) ?_
                  obtain ⟨v162, h163, hr⟩ := bind_some hr
                  refine (slices_Contains_spec n v3 v1.op a4 c4 _ h163).atR [2] rfl rfl rfl ?_
                  rintro _ _ ⟨rfl, rfl⟩
                  refine AtIf.mk (fun h164 => ?_) (fun h164 => ?_)
                  · replace hr := cond_t h164 hr
                    obtain ⟨h165, hr⟩ := cond_need hr
                    refine at_concat (of_decide_eq_true h165) ?_
                    obtain ⟨h166, hr⟩ := cond_need hr
                    refine at_concat (of_decide_eq_true h166) ?_
                    replace hr := Option.some.inj hr
                    subst hr
                    exact AtRet.pureG [] [] rfl rfl ⟨rfl, rfl⟩
                  · replace hr := cond_f h164 hr
                    replace hr := Option.some.inj hr
                    subst hr
                    exact AtRet.pureG [] [] rfl rfl ⟨rfl, rfl⟩
theorem syntax_text_spec (n : Nat) (v1 : Rw) (v3 : (List Int)) (a2 : Option Addr) (c2 : Nat) (a4 : Option Addr) (c4 : Nat) (r : ByteArray) (hr : syntax_text n v1 v3 = some r) : Pure Tryz.prog (.val (.fn (.func 56) [] [])) [(.agg [(.v (.int .i64 v1.op)), (.v (.string v1.name)), (.v (.slice a2 ((Rw.encL v1.args).length) c2))]), (.v (.slice a4 ((List.map (D.int .i64) v3).length) c4))] [(.slice a2 ((Rw.encL v1.args).length) c2, .sl 3 (Rw.encL v1.args)), (.slice a4 ((List.map (D.int .i64) v3).length) c4, .sl 1 (List.map (D.int .i64) v3))] (fun r' out => r' = (.v (.string r)) ∧ out = []) := (syntax_text_specN n) n (Nat.le_refl _) v1 v3 a2 c2 a4 c4 r hr
def syntax_TextItem : Nat → It → Option (ByteArray × Int)
  | 0, _ => none
  | n + 1, v1 =>
    cond ((if itemOK v1 then (0 : Int) else 2) != 0) (
    some (⟨#[]⟩, (if itemOK v1 then (0 : Int) else 2))) (
    cond (v1.word.toList == (⟨#[]⟩ : ByteArray).toList) (
    cond (decide (v1.name.size + (⟨#[32, 58, 32]⟩ : ByteArray).size ≤ 1000000)) (
    (syntax_text n v1.raw ([])).bind (fun v7 =>
    cond (decide ((v1.name ++ (⟨#[32, 58, 32]⟩ : ByteArray)).size + v7.size ≤ 1000000)) (
    cond (decide (((v1.name ++ (⟨#[32, 58, 32]⟩ : ByteArray)) ++ v7).size + (⟨#[46]⟩ : ByteArray).size ≤ 1000000)) (
    some ((((v1.name ++ (⟨#[32, 58, 32]⟩ : ByteArray)) ++ v7) ++ (⟨#[46]⟩ : ByteArray)), 0)) none) none)) none) (
    cond (((Pt.encL v1.parts).length : Int) == 0) (
    cond (decide ((⟨#[37]⟩ : ByteArray).size + v1.word.size ≤ 1000000)) (
    cond (decide (((⟨#[37]⟩ : ByteArray) ++ v1.word).size + (⟨#[46]⟩ : ByteArray).size ≤ 1000000)) (
    some ((((⟨#[37]⟩ : ByteArray) ++ v1.word) ++ (⟨#[46]⟩ : ByteArray)), 0)) none) none) (
    cond (decide ((⟨#[37]⟩ : ByteArray).size + v1.word.size ≤ 1000000)) (
    cond (decide (((⟨#[37]⟩ : ByteArray) ++ v1.word).size + (⟨#[32]⟩ : ByteArray).size ≤ 1000000)) (
    none) none) none)))
theorem syntax_TextItem_spec (n : Nat) (v1 : It) (a2 : Option Addr) (c2 : Nat) (a3 : Option Addr) (c3 : Nat) (r : ByteArray × Int) (hr : syntax_TextItem n v1 = some r) : Pure Tryz.prog (.val (.fn (.func 58) [] [])) [(.agg [(.v (.string v1.word)), (.v (.string v1.name)), (.v (.int .i64 v1.raw.op)), (.v (.string v1.raw.name)), (.v (.slice a2 ((Rw.encL v1.raw.args).length) c2)), (.v (.slice a3 ((Pt.encL v1.parts).length) c3))])] [(.slice a2 ((Rw.encL v1.raw.args).length) c2, .sl 3 (Rw.encL v1.raw.args)), (.slice a3 ((Pt.encL v1.parts).length) c3, .sl 8 (Pt.encL v1.parts))] (fun r' out => r' = (.tup [(.v (.string r.1)), (.v (.int .i64 r.2))]) ∧ out = []) := by
  rcases n with _ | n
  · exact no_some hr
  rw [syntax_TextItem.eq_2] at hr
  refine spec_of_body (N := 40) (m := 0) (dt := drawsOf [(5, .node [0, 1, 2, 3, 4] [(5, .leaf [6, 7, 8, 9])], [], []), (8, .node [0, 1, 2, 3, 4, 5] [(6, .leaf [7, 8, 9, 10])], [], [])]) [] ttOK Tryz.func58 rfl Tryz.call58 Tryz.ntmps58 rfl rfl rfl mixed (by kernel_rfl) ?_
  refine (checkItem_spec v1 a2 c2 a3 c3).atR [0, 1] rfl rfl rfl ?_
  rintro _ _ ⟨rfl, rfl⟩
  refine AtIf.mk (fun h4 => ?_) (fun h4 => ?_)
  · replace hr := cond_t h4 hr
    replace hr := Option.some.inj hr
    subst hr
    exact AtRet.pureG [] [] rfl rfl ⟨rfl, rfl⟩
  · replace hr := cond_f h4 hr
    refine AtIf.mk (fun h5 => ?_) (fun h5 => ?_)
    · replace hr := cond_t h5 hr
      obtain ⟨h6, hr⟩ := cond_need hr
      refine at_concat (of_decide_eq_true h6) ?_
      obtain ⟨v7, h8, hr⟩ := bind_some hr
      refine Meets.nilRep 1 ?_
      refine (syntax_text_spec n v1.raw ([]) a2 c2 none 0 _ h8).atR [1, 0] rfl rfl rfl ?_
      rintro _ _ ⟨rfl, rfl⟩
      refine ⟨fun _ _ h => h, ?_⟩
      obtain ⟨h9, hr⟩ := cond_need hr
      refine at_concat (of_decide_eq_true h9) ?_
      obtain ⟨h10, hr⟩ := cond_need hr
      refine at_concat (of_decide_eq_true h10) ?_
      replace hr := Option.some.inj hr
      subst hr
      exact AtRet.pureG [] [] rfl rfl ⟨rfl, rfl⟩
    · replace hr := cond_f h5 hr
      refine AtIf.mk (fun h11 => ?_) (fun h11 => ?_)
      · replace hr := cond_t h11 hr
        obtain ⟨h12, hr⟩ := cond_need hr
        refine at_concat (of_decide_eq_true h12) ?_
        obtain ⟨h13, hr⟩ := cond_need hr
        refine at_concat (of_decide_eq_true h13) ?_
        replace hr := Option.some.inj hr
        subst hr
        exact AtRet.pureG [] [] rfl rfl ⟨rfl, rfl⟩
      · replace hr := cond_f h11 hr
        obtain ⟨h14, hr⟩ := cond_need hr
        refine at_concat (of_decide_eq_true h14) ?_
        obtain ⟨h15, hr⟩ := cond_need hr
        refine at_concat (of_decide_eq_true h15) ?_
        exact no_some hr
def syntax_Text : Nat → Rw → Option (ByteArray × Int)
  | 0, _ => none
  | n + 1, v1 =>
    cond ((if rawOK v1 then (0 : Int) else 2) != 0) (
    some (⟨#[]⟩, (if rawOK v1 then (0 : Int) else 2))) (
    (syntax_text n v1 ([])).bind (fun v4 =>
    some (v4, 0)))
theorem syntax_Text_spec (n : Nat) (v1 : Rw) (a2 : Option Addr) (c2 : Nat) (r : ByteArray × Int) (hr : syntax_Text n v1 = some r) : Pure Tryz.prog (.val (.fn (.func 27) [] [])) [(.agg [(.v (.int .i64 v1.op)), (.v (.string v1.name)), (.v (.slice a2 ((Rw.encL v1.args).length) c2))])] [(.slice a2 ((Rw.encL v1.args).length) c2, .sl 3 (Rw.encL v1.args))] (fun r' out => r' = (.tup [(.v (.string r.1)), (.v (.int .i64 r.2))]) ∧ out = []) := by
  rcases n with _ | n
  · exact no_some hr
  rw [syntax_Text.eq_2] at hr
  refine spec_of_body (N := 12) (m := 0) (dt := fun _ => none) [] ttOK Tryz.func27 rfl Tryz.call27 Tryz.ntmps27 rfl rfl rfl mixed (by kernel_rfl) ?_
  refine (checkRaw_spec v1 a2 c2).atR [0] rfl rfl rfl ?_
  rintro _ _ ⟨rfl, rfl⟩
  refine AtIf.mk (fun h3 => ?_) (fun h3 => ?_)
  · replace hr := cond_t h3 hr
    replace hr := Option.some.inj hr
    subst hr
    exact AtRet.pureG [] [] rfl rfl ⟨rfl, rfl⟩
  · replace hr := cond_f h3 hr
    obtain ⟨v4, h5, hr⟩ := bind_some hr
    refine Meets.nilRep 1 ?_
    refine (syntax_text_spec n v1 ([]) a2 c2 none 0 _ h5).atR [1, 0] rfl rfl rfl ?_
    rintro _ _ ⟨rfl, rfl⟩
    replace hr := Option.some.inj hr
    subst hr
    exact AtRet.pureG [] [] rfl rfl ⟨rfl, rfl⟩
def R02_within : Nat → ByteArray → Bool → Option (ByteArray)
  | 0, _, _ => none
  | n + 1, v1, v2 =>
    cond v2 (
    cond (decide ((⟨#[40]⟩ : ByteArray).size + v1.size ≤ 1000000)) (
    cond (decide (((⟨#[40]⟩ : ByteArray) ++ v1).size + (⟨#[41]⟩ : ByteArray).size ≤ 1000000)) (
    some ((((⟨#[40]⟩ : ByteArray) ++ v1) ++ (⟨#[41]⟩ : ByteArray)))) none) none) (
    some (v1))
def R02_wide : Nat → Rw → Option (Bool)
  | 0, _ => none
  | n + 1, v1 =>
    some ((((v1.op == 6) || (v1.op == 5)) || (v1.op == 7)))
def R02_Text : Nat → Rw → Option (ByteArray)
  | 0, _ => none
  | n + 1, v1 =>
    cond (v1.op == 1) (
    some (⟨#[116, 121, 112, 101]⟩)) (
    cond (v1.op == 2) (
    some (v1.name)) (
    cond (v1.op == 3) (
    some (⟨#[95]⟩)) (
    cond (v1.op == 4) (
    (idx v1.args 0).bind (fun v7 =>
    (idx v1.args 0).bind (fun v12 =>
    (idx v1.args 1).bind (fun v17 =>
    (idx v1.args 1).bind (fun v22 =>
    (R02_Text n v7).bind (fun v27 =>
    (R02_wide n v12).bind (fun v29 =>
    (R02_within n v27 v29).bind (fun v31 =>
    cond (decide (v31.size + (⟨#[32]⟩ : ByteArray).size ≤ 1000000)) (
    (R02_Text n v17).bind (fun v34 =>
    (R02_wide n v22).bind (fun v36 =>
    cond v36 (
    (R02_within n v34 true).bind (fun v47 =>
    cond (decide ((v31 ++ (⟨#[32]⟩ : ByteArray)).size + v47.size ≤ 1000000)) (
    some (((v31 ++ (⟨#[32]⟩ : ByteArray)) ++ v47))) none)) (
    (idx v1.args 1).bind (fun v39 =>
    (R02_within n v34 (v39.op == 4)).bind (fun v44 =>
    cond (decide ((v31 ++ (⟨#[32]⟩ : ByteArray)).size + v44.size ≤ 1000000)) (
    some (((v31 ++ (⟨#[32]⟩ : ByteArray)) ++ v44))) none)))))) none)))))))) (
    cond (v1.op == 6) (
    (idx v1.args 0).bind (fun v51 =>
    (idx v1.args 0).bind (fun v56 =>
    (idx v1.args 1).bind (fun v61 =>
    (R02_Text n v51).bind (fun v66 =>
    (R02_wide n v56).bind (fun v68 =>
    (R02_within n v66 v68).bind (fun v70 =>
    cond (decide (v70.size + (⟨#[32, 45, 62, 32]⟩ : ByteArray).size ≤ 1000000)) (
    (R02_Text n v61).bind (fun v73 =>
    cond (decide ((v70 ++ (⟨#[32, 45, 62, 32]⟩ : ByteArray)).size + v73.size ≤ 1000000)) (
    some (((v70 ++ (⟨#[32, 45, 62, 32]⟩ : ByteArray)) ++ v73))) none)) none))))))) (
    (idx v1.args 0).bind (fun v76 =>
    cond (v76.op != 3) (
    (idx v1.args 0).bind (fun v82 =>
    (R02_Text n v82).bind (fun v87 =>
    cond (decide ((⟨#[58]⟩ : ByteArray).size + v87.size ≤ 1000000)) (
    cond (v1.op == 5) (
    cond (decide ((⟨#[123]⟩ : ByteArray).size + v1.name.size ≤ 1000000)) (
    cond (decide (((⟨#[123]⟩ : ByteArray) ++ v1.name).size + ((⟨#[58]⟩ : ByteArray) ++ v87).size ≤ 1000000)) (
    cond (decide ((((⟨#[123]⟩ : ByteArray) ++ v1.name) ++ ((⟨#[58]⟩ : ByteArray) ++ v87)).size + (⟨#[125, 32]⟩ : ByteArray).size ≤ 1000000)) (
    (idx v1.args 1).bind (fun v94 =>
    (R02_Text n v94).bind (fun v99 =>
    cond (decide (((((⟨#[123]⟩ : ByteArray) ++ v1.name) ++ ((⟨#[58]⟩ : ByteArray) ++ v87)) ++ (⟨#[125, 32]⟩ : ByteArray)).size + v99.size ≤ 1000000)) (
    some ((((((⟨#[123]⟩ : ByteArray) ++ v1.name) ++ ((⟨#[58]⟩ : ByteArray) ++ v87)) ++ (⟨#[125, 32]⟩ : ByteArray)) ++ v99))) none))) none) none) none) (
    cond (decide ((⟨#[91]⟩ : ByteArray).size + v1.name.size ≤ 1000000)) (
    cond (decide (((⟨#[91]⟩ : ByteArray) ++ v1.name).size + ((⟨#[58]⟩ : ByteArray) ++ v87).size ≤ 1000000)) (
    cond (decide ((((⟨#[91]⟩ : ByteArray) ++ v1.name) ++ ((⟨#[58]⟩ : ByteArray) ++ v87)).size + (⟨#[93, 32]⟩ : ByteArray).size ≤ 1000000)) (
    (idx v1.args 1).bind (fun v105 =>
    (R02_Text n v105).bind (fun v110 =>
    cond (decide (((((⟨#[91]⟩ : ByteArray) ++ v1.name) ++ ((⟨#[58]⟩ : ByteArray) ++ v87)) ++ (⟨#[93, 32]⟩ : ByteArray)).size + v110.size ≤ 1000000)) (
    some ((((((⟨#[91]⟩ : ByteArray) ++ v1.name) ++ ((⟨#[58]⟩ : ByteArray) ++ v87)) ++ (⟨#[93, 32]⟩ : ByteArray)) ++ v110))) none))) none) none) none)) none))) (
    cond (v1.op == 5) (
    cond (decide ((⟨#[123]⟩ : ByteArray).size + v1.name.size ≤ 1000000)) (
    cond (decide (((⟨#[123]⟩ : ByteArray) ++ v1.name).size + (⟨#[]⟩ : ByteArray).size ≤ 1000000)) (
    cond (decide ((((⟨#[123]⟩ : ByteArray) ++ v1.name) ++ (⟨#[]⟩ : ByteArray)).size + (⟨#[125, 32]⟩ : ByteArray).size ≤ 1000000)) (
    (idx v1.args 1).bind (fun v117 =>
    (R02_Text n v117).bind (fun v122 =>
    cond (decide (((((⟨#[123]⟩ : ByteArray) ++ v1.name) ++ (⟨#[]⟩ : ByteArray)) ++ (⟨#[125, 32]⟩ : ByteArray)).size + v122.size ≤ 1000000)) (
    some ((((((⟨#[123]⟩ : ByteArray) ++ v1.name) ++ (⟨#[]⟩ : ByteArray)) ++ (⟨#[125, 32]⟩ : ByteArray)) ++ v122))) none))) none) none) none) (
    cond (decide ((⟨#[91]⟩ : ByteArray).size + v1.name.size ≤ 1000000)) (
    cond (decide (((⟨#[91]⟩ : ByteArray) ++ v1.name).size + (⟨#[]⟩ : ByteArray).size ≤ 1000000)) (
    cond (decide ((((⟨#[91]⟩ : ByteArray) ++ v1.name) ++ (⟨#[]⟩ : ByteArray)).size + (⟨#[93, 32]⟩ : ByteArray).size ≤ 1000000)) (
    (idx v1.args 1).bind (fun v128 =>
    (R02_Text n v128).bind (fun v133 =>
    cond (decide (((((⟨#[91]⟩ : ByteArray) ++ v1.name) ++ (⟨#[]⟩ : ByteArray)) ++ (⟨#[93, 32]⟩ : ByteArray)).size + v133.size ≤ 1000000)) (
    some ((((((⟨#[91]⟩ : ByteArray) ++ v1.name) ++ (⟨#[]⟩ : ByteArray)) ++ (⟨#[93, 32]⟩ : ByteArray)) ++ v133))) none))) none) none) none))))))))
def R03_below : Nat → Tm → Int → Option (Int)
  | 0, _, _ => none
  | n + 1, v1, v3 =>
    cond ((v1.op == 3) || ((v1.op == 2) && (v3 == 1))) (
    some (1)) (
    some (0))
mutual
def R03_low : Nat → Tm → Int → Int → Option (Bool)
  | 0, _, _, _ => none
  | n + 1, v1, v3, v4 =>
    cond ((((v1.op == 4) && (v1.hd == 1)) && (decide (v1.n ≥ v3))) && (decide (v1.n ≤ v4))) (
    some (true)) (
    R03_low_L1 n v1 v3 v4 0)
def R03_low_L1 : Nat → Tm → Int → Int → Int → Option (Bool)
  | 0, _, _, _, _ => none
  | n + 1, v1, v3, v4, v17 =>
    cond (decide (v17 < ((Tm.encL v1.args).length : Int))) (
    (R03_below n v1 v17).bind (fun v19 =>
    (idx v1.args v17).bind (fun v21 =>
    (R03_low n v21 (IntKind.i64.wrap (v3 + v19)) (IntKind.i64.wrap (v4 + v19))).bind (fun v26 =>
    cond v26 (
    some (true)) (
    R03_low_L1 n v1 v3 v4 (IntKind.i64.wrap (v17 + 1))))))) (
    some (false))
 end
def R03_Occurs : Nat → Tm → Int → Option (Bool)
  | 0, _, _ => none
  | n + 1, v1, v3 =>
    cond (decide (v3 ≥ 0)) (
    (R03_low n v1 v3 v3).bind (fun v5 =>
    some (v5))) (
    some (false))
def term_Occurs : Nat → Tm → Int → Option (Bool × Int)
  | 0, _, _ => none
  | n + 1, v1, v3 =>
    (slices_Contains n (freeL v1) v3).bind (fun v5 =>
    some (v5, (freeE v1)))
theorem term_Occurs_spec (n : Nat) (v1 : Tm) (v3 : Int) (a2 : Option Addr) (c2 : Nat) (r : Bool × Int) (hr : term_Occurs n v1 v3 = some r) : Pure Tryz.prog (.val (.fn (.func 91) [] [])) [(.agg [(.v (.int .i64 v1.op)), (.v (.int .i64 v1.hd)), (.v (.int .i64 v1.n)), (.v (.slice a2 ((Tm.encL v1.args).length) c2))]), (.v (.int .i64 v3))] [(.slice a2 ((Tm.encL v1.args).length) c2, .sl 4 (Tm.encL v1.args))] (fun r' out => r' = (.tup [(.v (.bool r.1)), (.v (.int .i64 r.2))]) ∧ out = []) := by
  rcases n with _ | n
  · exact no_some hr
  rw [term_Occurs.eq_2] at hr
  refine spec_of_body (N := 17) (m := 0) (dt := fun _ => none) [] ttOK Tryz.func91 rfl Tryz.call91 Tryz.ntmps91 rfl rfl rfl mixed (by kernel_rfl) ?_
  refine (free0 v1 a2 c2).atR [0] rfl rfl rfl ?_
  rintro _ _ ⟨a4, c4, rfl, rfl⟩
  obtain ⟨v5, h6, hr⟩ := bind_some hr
  refine (slices_Contains_spec n (freeL v1) v3 a4 c4 _ h6).atR [1] rfl rfl rfl ?_
  rintro _ _ ⟨rfl, rfl⟩
  replace hr := Option.some.inj hr
  subst hr
  exact AtRet.pureG [] [] rfl rfl ⟨rfl, rfl⟩
def term_Under : Nat → Tm → Int → Option (Int)
  | 0, _, _ => none
  | n + 1, v1, v3 =>
    cond ((v1.op == 3) || ((v1.op == 2) && (v3 == 1))) (
    some (1)) (
    some (0))
theorem term_Under_spec (n : Nat) (v1 : Tm) (v3 : Int) (a2 : Option Addr) (c2 : Nat) (r : Int) (hr : term_Under n v1 v3 = some r) : Pure Tryz.prog (.val (.fn (.func 89) [] [])) [(.agg [(.v (.int .i64 v1.op)), (.v (.int .i64 v1.hd)), (.v (.int .i64 v1.n)), (.v (.slice a2 ((Tm.encL v1.args).length) c2))]), (.v (.int .i64 v3))] [(.slice a2 ((Tm.encL v1.args).length) c2, .sl 4 (Tm.encL v1.args))] (fun r' out => r' = (.v (.int .i64 r)) ∧ out = []) := by
  rcases n with _ | n
  · exact no_some hr
  rw [term_Under.eq_2] at hr
  refine spec_of_body (N := 17) (m := 0) (dt := fun _ => none) [] ttOK Tryz.func89 rfl Tryz.call89 Tryz.ntmps89 rfl rfl rfl mixed (by kernel_rfl) ?_
  refine AtIf.mk (fun h4 => ?_) (fun h4 => ?_)
  · replace hr := cond_t h4 hr
    replace hr := Option.some.inj hr
    subst hr
    exact AtRet.pureG [] [] rfl rfl ⟨rfl, rfl⟩
  · replace hr := cond_f h4 hr
    replace hr := Option.some.inj hr
    subst hr
    exact AtRet.pureG [] [] rfl rfl ⟨rfl, rfl⟩
mutual
def term_Map_term_Moved_1 : Nat → Tm → Int → Int → Int → Option (Tm)
  | 0, _, _, _, _ => none
  | n + 1, v1, v3, v4, v5 =>
    cond (((v1.op == 4) && (v1.hd == 1)) && (decide ((IntKind.i64.wrap (v1.n - v3)) ≥ v4))) (
    term_Map_term_Moved_1_L1 n v1 v3 v4 v5 (Tm.mk v1.op v1.hd (IntKind.i64.wrap (v1.n + v5)) ([])) 0) (
    term_Map_term_Moved_1_L1 n v1 v3 v4 v5 (Tm.mk v1.op v1.hd v1.n ([])) 0)
def term_Map_term_Moved_1_L1 : Nat → Tm → Int → Int → Int → Tm → Int → Option (Tm)
  | 0, _, _, _, _, _, _ => none
  | n + 1, v1, v3, v4, v5, v21, v23 =>
    cond (decide (v23 < ((Tm.encL v1.args).length : Int))) (
    (idx v1.args v23).bind (fun v25 =>
    (term_Under n v1 v23).bind (fun v30 =>
    (term_Map_term_Moved_1 n v25 (IntKind.i64.wrap (v3 + v30)) v4 v5).bind (fun v32 =>
    cond (decide ((Tm.encL (v21.args ++ [v32])).length ≤ 1000000)) (
    term_Map_term_Moved_1_L1 n v1 v3 v4 v5 (Tm.mk v21.op v21.hd v21.n (v21.args ++ [v32])) (IntKind.i64.wrap (v23 + 1))) none)))) (
    some (v21))
 end
theorem term_Map_term_Moved_1_specN : ∀ (N : Nat), (∀ (n : Nat), n ≤ N → ∀ (v1 : Tm) (v3 : Int) (v4 : Int) (v5 : Int) (a2 : Option Addr) (c2 : Nat) (r : Tm), term_Map_term_Moved_1 n v1 v3 v4 v5 = some r → Meets Tryz.prog (.val (.fn (.func 124) [] [])) [(.agg [(.v (.int .i64 v1.op)), (.v (.int .i64 v1.hd)), (.v (.int .i64 v1.n)), (.v (.slice a2 ((Tm.encL v1.args).length) c2))]), (.v (.int .i64 v3)), (.fn (.func 125) [] [(.loc 0 0), (.loc 1 0)])] ⟨[.cells 3 [(.v (.int .i64 v4))], .cells 3 [(.v (.int .i64 v5))]], [], [(.slice a2 ((Tm.encL v1.args).length) c2, .sl 4 (Tm.encL v1.args))]⟩ (fun o S' => ∃ (b1 : Option Addr) (d1 : Nat), o = .ret (.agg [(.v (.int .i64 r.op)), (.v (.int .i64 r.hd)), (.v (.int .i64 r.n)), (.v (.slice b1 ((Tm.encL r.args).length) d1))]) ∧ S' = ⟨[.cells 3 [(.v (.int .i64 v4))], .cells 3 [(.v (.int .i64 v5))]], [], [(.slice b1 ((Tm.encL r.args).length) d1, .sl 4 (Tm.encL r.args))]⟩)) := by
  intro N
  induction N with
  | zero =>
    intro n hn v1 v3 v4 v5 a2 c2 r hr; obtain rfl : n = 0 := (by omega); exact no_some hr
  | succ N ih =>
    intro n hn v1 v3 v4 v5 a2 c2 r hr
    rcases n with _ | n
    · exact no_some hr
    replace hn : n ≤ N := by omega
    rw [term_Map_term_Moved_1.eq_2] at hr
    refine spec_of_body (N := 43) (m := 2) (dt := drawsOf [(5, .node [0, 1, 2, 3, 4, 5, 8] [(6, .node [7] [(9, .node [] [(10, .node [] [(11, .node [12] [(13, .leaf [])])])])])], [11, 13], [])]) [] ttOK Tryz.func124 rfl Tryz.call124 Tryz.ntmps124 rfl rfl rfl mixed (by kernel_rfl) ?_
    refine spec_of_body (N := 29) (m := 4) (dt := fun _ => none) [] ttOK Tryz.func125 rfl Tryz.call125 Tryz.ntmps125 rfl rfl rfl mixed (by kernel_rfl) ?_
    refine AtIf.mk (fun h6 => ?_) (fun h6 => ?_)
    · replace hr := cond_t h6 hr
      refine AtRet.gen _ (StLe.refl _) rfl rfl ?_
      refine AtLoop.mk ⟨Nat × Tm × Option Addr × Nat × Int, fun x => [(1, (.v (.int .i64 v3))), (2, (.fn (.func 125) [] [(.loc 0 0), (.loc 1 0)])), (3, (.loc 2 0)), (6, (.loc 3 0)), (7, (.loc 6 0)), (21, (.v (.slice a2 ((Tm.encL v1.args).length) c2))), (22, (.v (.int .i64 ((Tm.encL v1.args).length : Int)))), (23, (.v (.int .i64 x.2.2.2.2)))], fun x => ⟨[.cells 3 [(.v (.int .i64 v4))], .cells 3 [(.v (.int .i64 v5))], .cells 26 [(.v (.int .i64 v1.op)), (.v (.int .i64 v1.hd)), (.v (.int .i64 v1.n)), (.v (.slice a2 ((Tm.encL v1.args).length) c2))], .cells 26 [(.v (.int .i64 0)), (.v (.int .i64 0)), (.v (.int .i64 0)), (.v (.slice none 0 0))], .cells 26 [(.v (.int .i64 v1.op)), (.v (.int .i64 v1.hd)), (.v (.int .i64 (IntKind.i64.wrap (v1.n + v5)))), (.v (.slice none 0 0))], .cells 26 [(.v (.int .i64 v1.op)), (.v (.int .i64 v1.hd)), (.v (.int .i64 (IntKind.i64.wrap (v1.n + v5)))), (.v (.slice none 0 0))], .cells 26 [(.v (.int .i64 x.2.1.op)), (.v (.int .i64 x.2.1.hd)), (.v (.int .i64 x.2.1.n)), (.v (.slice x.2.2.1 ((Tm.encL x.2.1.args).length) x.2.2.2.1))]], [⟨.slice x.2.2.1 ((Tm.encL x.2.1.args).length) x.2.2.2.1, 4, 26, (Tm.encL x.2.1.args)⟩], [(.slice a2 ((Tm.encL v1.args).length) c2, .sl 4 (Tm.encL v1.args))]⟩, fun x => x.1 ≤ N ∧ term_Map_term_Moved_1_L1 x.1 v1 v3 v4 v5 x.2.1 x.2.2.2.2 = some r, fun x => x.1, (n, (Tm.mk v1.op v1.hd (IntKind.i64.wrap (v1.n + v5)) ([])), none, 0, 0), ⟨by omega, hr⟩, ⟨rfl, rfl, rfl, rfl, rfl, rfl, rfl, rfl, trivial⟩, (StLe.gen 7 [.nil 4 26] [.old 0] rfl rfl rfl rfl rfl rfl rfl), fun x _ => ⟨rfl, rfl⟩, ?_⟩
      rintro ⟨n, v21, a22, c22, v23⟩ HH
      obtain ⟨hn, hr⟩ : n ≤ N ∧ term_Map_term_Moved_1_L1 n v1 v3 v4 v5 v21 v23 = some r := HH
      rcases n with _ | n
      · exact no_some hr
      rw [term_Map_term_Moved_1_L1.eq_2] at hr
      refine AtIf.mk (fun h24 => ?_) (fun h24 => ?_)
      · replace hr := cond_t h24 hr
        obtain ⟨v25, h26, hr⟩ := bind_some hr
        obtain ⟨h27, h28⟩ := idx_some h26
        refine at_index ttOK 0 rfl rfl rfl rfl h27 (Tm.encL_get h28) ?_
        intro a29 c29 _ _
        obtain ⟨v30, h31, hr⟩ := bind_some hr
        refine (term_Under_spec n v1 v23 a2 c2 _ h31).atR [0] rfl rfl rfl ?_
        rintro _ _ ⟨rfl, rfl⟩
        refine ⟨fun _ _ h => h, ?_⟩
        obtain ⟨v32, h33, hr⟩ := bind_some hr
        refine (ih n (by omega) v25 (IntKind.i64.wrap (v3 + v30)) v4 v5 a29 c29 _ h33).frameR [0, 1] [1] rfl rfl rfl rfl rfl rfl rfl rfl ?_
        rintro _ _ ⟨a34, c34, rfl, rfl⟩
        refine ⟨rfl, rfl, [.cells 3 [(.v (.int .i64 v4))], .cells 3 [(.v (.int .i64 v5))]], rfl, ?_⟩
        refine ⟨fun _ _ h => h, ?_⟩
        refine at_buildG (n := 1) ttOK 48 [.agg [.int .i64 v32.op, .int .i64 v32.hd, .int .i64 v32.n, .sl 4 (Tm.encL v32.args)]] (ds' := (Tm.encL ([v32]))) rfl (by kernel_rfl) ⟨⟨rfl, rfl, rfl, ⟨[(.v (.int .i64 v32.op))], _, rfl, rfl, ⟨[(.v (.int .i64 v32.hd))], _, rfl, rfl, ⟨[(.v (.int .i64 v32.n))], _, rfl, rfl, ⟨[(.v (.slice a34 ((Tm.encL v32.args).length) c34))], _, rfl, (.inl ⟨_, rfl, nth_mem (j := 2) rfl⟩), rfl⟩⟩⟩⟩⟩, trivial⟩ rfl (by simp only [Tm.encL_eq, List.map_cons, List.map_nil, Tm.enc_eq] <;> rfl) (by decide) (by decide) ?_
        intro a35
        refine ⟨fun _ _ h => h, ?_⟩
        obtain ⟨h36, hr⟩ := cond_need hr
        refine at_appendG (ds' := (Tm.encL (v21.args ++ [v32]))) ttOK 48 0 3 rfl (by kernel_rfl) rfl rfl rfl rfl (by simp only [Tm.encL_eq, List.map_append]) h36 (by decide) ?_
        intro a37 c37
        exact ⟨(n, (Tm.mk v21.op v21.hd v21.n (v21.args ++ [v32])), a37, c37, (IntKind.i64.wrap (v23 + 1))), ⟨by omega, hr⟩, Nat.lt_succ_self _, ⟨rfl, rfl, rfl, rfl, rfl, rfl, rfl, rfl, trivial⟩, (StLe.gen 7 [.old 0] [.old 0] rfl rfl rfl rfl rfl rfl rfl)⟩
      · replace hr := cond_f h24 hr
        replace hr := Option.some.inj hr
        subst hr
        exact AtRet.gen ⟨[.cells 3 [(.v (.int .i64 v4))], .cells 3 [(.v (.int .i64 v5))]], [], [(.slice a22 ((Tm.encL v21.args).length) c22, .sl 4 (Tm.encL v21.args))]⟩ (StLe.gen 2 [] [.froz 0] rfl rfl rfl rfl rfl rfl rfl) rfl rfl ⟨a22, c22, rfl, rfl⟩
    · replace hr := cond_f h6 hr
      refine AtRet.gen _ (StLe.refl _) rfl rfl ?_
      refine AtLoop.mk ⟨Nat × Tm × Option Addr × Nat × Int, fun x => [(1, (.v (.int .i64 v3))), (2, (.fn (.func 125) [] [(.loc 0 0), (.loc 1 0)])), (3, (.loc 2 0)), (6, (.loc 3 0)), (7, (.loc 6 0)), (21, (.v (.slice a2 ((Tm.encL v1.args).length) c2))), (22, (.v (.int .i64 ((Tm.encL v1.args).length : Int)))), (23, (.v (.int .i64 x.2.2.2.2)))], fun x => ⟨[.cells 3 [(.v (.int .i64 v4))], .cells 3 [(.v (.int .i64 v5))], .cells 26 [(.v (.int .i64 v1.op)), (.v (.int .i64 v1.hd)), (.v (.int .i64 v1.n)), (.v (.slice a2 ((Tm.encL v1.args).length) c2))], .cells 26 [(.v (.int .i64 0)), (.v (.int .i64 0)), (.v (.int .i64 0)), (.v (.slice none 0 0))], .cells 26 [(.v (.int .i64 v1.op)), (.v (.int .i64 v1.hd)), (.v (.int .i64 v1.n)), (.v (.slice none 0 0))], .cells 26 [(.v (.int .i64 v1.op)), (.v (.int .i64 v1.hd)), (.v (.int .i64 v1.n)), (.v (.slice none 0 0))], .cells 26 [(.v (.int .i64 x.2.1.op)), (.v (.int .i64 x.2.1.hd)), (.v (.int .i64 x.2.1.n)), (.v (.slice x.2.2.1 ((Tm.encL x.2.1.args).length) x.2.2.2.1))]], [⟨.slice x.2.2.1 ((Tm.encL x.2.1.args).length) x.2.2.2.1, 4, 26, (Tm.encL x.2.1.args)⟩], [(.slice a2 ((Tm.encL v1.args).length) c2, .sl 4 (Tm.encL v1.args))]⟩, fun x => x.1 ≤ N ∧ term_Map_term_Moved_1_L1 x.1 v1 v3 v4 v5 x.2.1 x.2.2.2.2 = some r, fun x => x.1, (n, (Tm.mk v1.op v1.hd v1.n ([])), none, 0, 0), ⟨by omega, hr⟩, ⟨rfl, rfl, rfl, rfl, rfl, rfl, rfl, rfl, trivial⟩, (StLe.gen 7 [.nil 4 26] [.old 0] rfl rfl rfl rfl rfl rfl rfl), fun x _ => ⟨rfl, rfl⟩, ?_⟩
      rintro ⟨n, v52, a53, c53, v54⟩ HH
      obtain ⟨hn, hr⟩ : n ≤ N ∧ term_Map_term_Moved_1_L1 n v1 v3 v4 v5 v52 v54 = some r := HH
      rcases n with _ | n
      · exact no_some hr
      rw [term_Map_term_Moved_1_L1.eq_2] at hr
      refine AtIf.mk (fun h55 => ?_) (fun h55 => ?_)
      · replace hr := cond_t h55 hr
        obtain ⟨v56, h57, hr⟩ := bind_some hr
        obtain ⟨h58, h59⟩ := idx_some h57
        refine at_index ttOK 0 rfl rfl rfl rfl h58 (Tm.encL_get h59) ?_
        intro a60 c60 _ _
        obtain ⟨v61, h62, hr⟩ := bind_some hr
        refine (term_Under_spec n v1 v54 a2 c2 _ h62).atR [0] rfl rfl rfl ?_
        rintro _ _ ⟨rfl, rfl⟩
        refine ⟨fun _ _ h => h, ?_⟩
        obtain ⟨v63, h64, hr⟩ := bind_some hr
        refine (ih n (by omega) v56 (IntKind.i64.wrap (v3 + v61)) v4 v5 a60 c60 _ h64).frameR [0, 1] [1] rfl rfl rfl rfl rfl rfl rfl rfl ?_
        rintro _ _ ⟨a65, c65, rfl, rfl⟩
        refine ⟨rfl, rfl, [.cells 3 [(.v (.int .i64 v4))], .cells 3 [(.v (.int .i64 v5))]], rfl, ?_⟩
        refine ⟨fun _ _ h => h, ?_⟩
        refine at_buildG (n := 1) ttOK 48 [.agg [.int .i64 v63.op, .int .i64 v63.hd, .int .i64 v63.n, .sl 4 (Tm.encL v63.args)]] (ds' := (Tm.encL ([v63]))) rfl (by kernel_rfl) ⟨⟨rfl, rfl, rfl, ⟨[(.v (.int .i64 v63.op))], _, rfl, rfl, ⟨[(.v (.int .i64 v63.hd))], _, rfl, rfl, ⟨[(.v (.int .i64 v63.n))], _, rfl, rfl, ⟨[(.v (.slice a65 ((Tm.encL v63.args).length) c65))], _, rfl, (.inl ⟨_, rfl, nth_mem (j := 2) rfl⟩), rfl⟩⟩⟩⟩⟩, trivial⟩ rfl (by simp only [Tm.encL_eq, List.map_cons, List.map_nil, Tm.enc_eq] <;> rfl) (by decide) (by decide) ?_
        intro a66
        refine ⟨fun _ _ h => h, ?_⟩
        obtain ⟨h67, hr⟩ := cond_need hr
        refine at_appendG (ds' := (Tm.encL (v52.args ++ [v63]))) ttOK 48 0 3 rfl (by kernel_rfl) rfl rfl rfl rfl (by simp only [Tm.encL_eq, List.map_append]) h67 (by decide) ?_
        intro a68 c68
        exact ⟨(n, (Tm.mk v52.op v52.hd v52.n (v52.args ++ [v63])), a68, c68, (IntKind.i64.wrap (v54 + 1))), ⟨by omega, hr⟩, Nat.lt_succ_self _, ⟨rfl, rfl, rfl, rfl, rfl, rfl, rfl, rfl, trivial⟩, (StLe.gen 7 [.old 0] [.old 0] rfl rfl rfl rfl rfl rfl rfl)⟩
      · replace hr := cond_f h55 hr
        replace hr := Option.some.inj hr
        subst hr
        exact AtRet.gen ⟨[.cells 3 [(.v (.int .i64 v4))], .cells 3 [(.v (.int .i64 v5))]], [], [(.slice a53 ((Tm.encL v52.args).length) c53, .sl 4 (Tm.encL v52.args))]⟩ (StLe.gen 2 [] [.froz 0] rfl rfl rfl rfl rfl rfl rfl) rfl rfl ⟨a53, c53, rfl, rfl⟩
theorem term_Map_term_Moved_1_spec (n : Nat) (v1 : Tm) (v3 : Int) (v4 : Int) (v5 : Int) (a2 : Option Addr) (c2 : Nat) (r : Tm) (hr : term_Map_term_Moved_1 n v1 v3 v4 v5 = some r) : Meets Tryz.prog (.val (.fn (.func 124) [] [])) [(.agg [(.v (.int .i64 v1.op)), (.v (.int .i64 v1.hd)), (.v (.int .i64 v1.n)), (.v (.slice a2 ((Tm.encL v1.args).length) c2))]), (.v (.int .i64 v3)), (.fn (.func 125) [] [(.loc 0 0), (.loc 1 0)])] ⟨[.cells 3 [(.v (.int .i64 v4))], .cells 3 [(.v (.int .i64 v5))]], [], [(.slice a2 ((Tm.encL v1.args).length) c2, .sl 4 (Tm.encL v1.args))]⟩ (fun o S' => ∃ (b1 : Option Addr) (d1 : Nat), o = .ret (.agg [(.v (.int .i64 r.op)), (.v (.int .i64 r.hd)), (.v (.int .i64 r.n)), (.v (.slice b1 ((Tm.encL r.args).length) d1))]) ∧ S' = ⟨[.cells 3 [(.v (.int .i64 v4))], .cells 3 [(.v (.int .i64 v5))]], [], [(.slice b1 ((Tm.encL r.args).length) d1, .sl 4 (Tm.encL r.args))]⟩) := (term_Map_term_Moved_1_specN n) n (Nat.le_refl _) v1 v3 v4 v5 a2 c2 r hr
def term_Moved : Nat → Tm → Int → Int → Option (Tm)
  | 0, _, _, _ => none
  | n + 1, v1, v3, v4 =>
    (term_Map_term_Moved_1 n v1 0 v4 v3).bind (fun v5 =>
    some (v5))
theorem term_Moved_spec (n : Nat) (v1 : Tm) (v3 : Int) (v4 : Int) (a2 : Option Addr) (c2 : Nat) (r : Tm) (hr : term_Moved n v1 v3 v4 = some r) : Pure Tryz.prog (.val (.fn (.func 92) [] [])) [(.agg [(.v (.int .i64 v1.op)), (.v (.int .i64 v1.hd)), (.v (.int .i64 v1.n)), (.v (.slice a2 ((Tm.encL v1.args).length) c2))]), (.v (.int .i64 v3)), (.v (.int .i64 v4))] [(.slice a2 ((Tm.encL v1.args).length) c2, .sl 4 (Tm.encL v1.args))] (fun r' out => ∃ (b1 : Option Addr) (d1 : Nat), r' = (.agg [(.v (.int .i64 r.op)), (.v (.int .i64 r.hd)), (.v (.int .i64 r.n)), (.v (.slice b1 ((Tm.encL r.args).length) d1))]) ∧ out = [(.slice b1 ((Tm.encL r.args).length) d1, .sl 4 (Tm.encL r.args))]) := by
  rcases n with _ | n
  · exact no_some hr
  rw [term_Moved.eq_2] at hr
  refine spec_of_body (N := 10) (m := 0) (dt := fun _ => none) [] ttOK Tryz.func92 rfl Tryz.call92 Tryz.ntmps92 rfl rfl rfl mixed (by kernel_rfl) ?_
  obtain ⟨v5, h6, hr⟩ := bind_some hr
  refine (term_Map_term_Moved_1_spec n v1 0 v4 v3 a2 c2 _ h6).frameR [2, 1] [0] rfl rfl rfl rfl rfl rfl rfl rfl ?_
  rintro _ _ ⟨a7, c7, rfl, rfl⟩
  refine ⟨rfl, rfl, [.cells 3 [(.v (.int .i64 v4))], .cells 3 [(.v (.int .i64 v3))]], rfl, ?_⟩
  replace hr := Option.some.inj hr
  subst hr
  exact AtRet.pureG [.old 1] [(.slice a7 ((Tm.encL v5.args).length) c7, .sl 4 (Tm.encL v5.args))] rfl rfl ⟨a7, c7, rfl, rfl⟩
mutual
def R05_Find : Nat → (List Dc) → ByteArray → Option (Int)
  | 0, _, _ => none
  | n + 1, v1, v3 =>
    R05_Find_L1 n v1 v3 0
def R05_Find_L1 : Nat → (List Dc) → ByteArray → Int → Option (Int)
  | 0, _, _, _ => none
  | n + 1, v1, v3, v11 =>
    cond (decide (v11 < ((Dc.encL v1).length : Int))) (
    (idx v1 v11).bind (fun v13 =>
    cond (v13.name.toList == v3.toList) (
    some (v11)) (
    R05_Find_L1 n v1 v3 (IntKind.i64.wrap (v11 + 1))))) (
    some ((-1)))
 end
def sign_name : Nat → ByteArray → Option (Bool)
  | 0, _ => none
  | n + 1, v1 =>
    some (((isSmallF v1) && (!(v1.toList == (⟨#[116, 121, 112, 101]⟩ : ByteArray).toList))))
theorem sign_name_spec (n : Nat) (v1 : ByteArray)  (r : Bool) (hr : sign_name n v1 = some r) : Pure Tryz.prog (.val (.fn (.func 116) [] [])) [(.v (.string v1))] [] (fun r' out => r' = (.v (.bool r)) ∧ out = []) := by
  rcases n with _ | n
  · exact no_some hr
  rw [sign_name.eq_2] at hr
  refine spec_of_body (N := 9) (m := 0) (dt := fun _ => none) [] ttOK Tryz.func116 rfl Tryz.call116 Tryz.ntmps116 rfl rfl rfl mixed (by kernel_rfl) ?_
  refine (isSmall_spec v1).atR [] rfl rfl rfl ?_
  rintro _ _ ⟨rfl, rfl⟩
  replace hr := Option.some.inj hr
  subst hr
  exact AtRet.pureG [] [] rfl rfl ⟨rfl, rfl⟩
mutual
def term_Domains : Nat → Tm → Option ((List Tm) × Tm)
  | 0, _ => none
  | n + 1, v1 =>
    term_Domains_L1 n v1 ([])
def term_Domains_L1 : Nat → Tm → (List Tm) → Option ((List Tm) × Tm)
  | 0, _, _ => none
  | n + 1, v17, v19 =>
    cond (v17.op == 2) (
    (idx v17.args 0).bind (fun v22 =>
    cond (decide ((Tm.encL (v19 ++ [v22])).length ≤ 1000000)) (
    (idx v17.args 1).bind (fun v30 =>
    term_Domains_L1 n v30 (v19 ++ [v22]))) none)) (
    some (v19, v17))
 end
theorem term_Domains_spec (n : Nat) (v1 : Tm) (a2 : Option Addr) (c2 : Nat) (r : (List Tm) × Tm) (hr : term_Domains n v1 = some r) : Pure Tryz.prog (.val (.fn (.func 117) [] [])) [(.agg [(.v (.int .i64 v1.op)), (.v (.int .i64 v1.hd)), (.v (.int .i64 v1.n)), (.v (.slice a2 ((Tm.encL v1.args).length) c2))])] [(.slice a2 ((Tm.encL v1.args).length) c2, .sl 4 (Tm.encL v1.args))] (fun r' out => ∃ (b1 : Option Addr) (d1 : Nat), ∃ (b2 : Option Addr) (d2 : Nat), r' = (.tup [(.v (.slice b1 ((Tm.encL r.1).length) d1)), (.agg [(.v (.int .i64 r.2.op)), (.v (.int .i64 r.2.hd)), (.v (.int .i64 r.2.n)), (.v (.slice b2 ((Tm.encL r.2.args).length) d2))])]) ∧ out = [(.slice b1 ((Tm.encL r.1).length) d1, .sl 4 (Tm.encL r.1)), (.slice b2 ((Tm.encL r.2.args).length) d2, .sl 4 (Tm.encL r.2.args))]) := by
  rcases n with _ | n
  · exact no_some hr
  rw [term_Domains.eq_2] at hr
  refine spec_of_body (N := 21) (m := 0) (dt := drawsOf [(5, .node [0, 1, 2] [(3, .leaf [])], [3], [])]) [] ttOK Tryz.func117 rfl Tryz.call117 Tryz.ntmps117 rfl rfl rfl mixed (by kernel_rfl) ?_
  refine AtLoop.mk ⟨Nat × Tm × Option Addr × Nat × (List Tm) × Option Addr × Nat, fun x => [(1, (.loc 0 0)), (3, (.loc 1 0)), (4, (.v (.slice x.2.2.2.2.2.1 ((Tm.encL x.2.2.2.2.1).length) x.2.2.2.2.2.2)))], fun x => ⟨[.cells 26 [(.v (.int .i64 x.2.1.op)), (.v (.int .i64 x.2.1.hd)), (.v (.int .i64 x.2.1.n)), (.v (.slice x.2.2.1 ((Tm.encL x.2.1.args).length) x.2.2.2.1))], .cells 26 [(.v (.int .i64 0)), (.v (.int .i64 0)), (.v (.int .i64 0)), (.v (.slice none 0 0))]], [⟨.slice x.2.2.2.2.2.1 ((Tm.encL x.2.2.2.2.1).length) x.2.2.2.2.2.2, 4, 26, (Tm.encL x.2.2.2.2.1)⟩], [(.slice x.2.2.1 ((Tm.encL x.2.1.args).length) x.2.2.2.1, .sl 4 (Tm.encL x.2.1.args)), (.slice a2 ((Tm.encL v1.args).length) c2, .sl 4 (Tm.encL v1.args))]⟩, fun x => term_Domains_L1 x.1 x.2.1 x.2.2.2.2.1 = some r, fun x => x.1, (n, v1, a2, c2, [], none, 0), hr, ⟨rfl, rfl, rfl, trivial⟩, (StLe.gen 2 [.nil 4 26] [.old 0, .old 0] rfl rfl rfl rfl rfl rfl rfl), fun x _ => ⟨rfl, rfl⟩, ?_⟩
  rintro ⟨n, v17, a18, c18, v19, a20, c20⟩ HH
  have hr : term_Domains_L1 n v17 v19 = some r := HH
  rcases n with _ | n
  · exact no_some hr
  rw [term_Domains_L1.eq_2] at hr
  refine AtIf.mk (fun h21 => ?_) (fun h21 => ?_)
  · replace hr := cond_t h21 hr
    obtain ⟨v22, h23, hr⟩ := bind_some hr
    obtain ⟨h24, h25⟩ := idx_some h23
    refine at_index ttOK 0 rfl rfl rfl rfl h24 (Tm.encL_get h25) ?_
    intro a26 c26 _ _
    refine at_buildG (n := 1) ttOK 48 [.agg [.int .i64 v22.op, .int .i64 v22.hd, .int .i64 v22.n, .sl 4 (Tm.encL v22.args)]] (ds' := (Tm.encL ([v22]))) rfl (by kernel_rfl) ⟨⟨rfl, rfl, rfl, ⟨[(.v (.int .i64 v22.op))], _, rfl, rfl, ⟨[(.v (.int .i64 v22.hd))], _, rfl, rfl, ⟨[(.v (.int .i64 v22.n))], _, rfl, rfl, ⟨[(.v (.slice a26 ((Tm.encL v22.args).length) c26))], _, rfl, (.inl ⟨_, rfl, nth_mem (j := 2) rfl⟩), rfl⟩⟩⟩⟩⟩, trivial⟩ rfl (by simp only [Tm.encL_eq, List.map_cons, List.map_nil, Tm.enc_eq] <;> rfl) (by decide) (by decide) ?_
    intro a27
    obtain ⟨h28, hr⟩ := cond_need hr
    refine at_appendG (ds' := (Tm.encL (v19 ++ [v22]))) ttOK 48 0 3 rfl (by kernel_rfl) rfl rfl rfl rfl (by simp only [Tm.encL_eq, List.map_append]) h28 (by decide) ?_
    intro a29 c29
    obtain ⟨v30, h31, hr⟩ := bind_some hr
    obtain ⟨h32, h33⟩ := idx_some h31
    refine at_index ttOK 0 rfl rfl rfl rfl h32 (Tm.encL_get h33) ?_
    intro a34 c34 _ _
    exact ⟨(n, v30, a34, c34, (v19 ++ [v22]), a29, c29), hr, Nat.lt_succ_self _, ⟨rfl, rfl, rfl, trivial⟩, (StLe.gen 2 [.old 0] [.old 4, .old 1] rfl rfl rfl rfl rfl rfl rfl)⟩
  · replace hr := cond_f h21 hr
    replace hr := Option.some.inj hr
    subst hr
    exact AtRet.pureG [.froz 0, .old 0] [(.slice a20 ((Tm.encL v19).length) c20, .sl 4 (Tm.encL v19)), (.slice a18 ((Tm.encL v17.args).length) c18, .sl 4 (Tm.encL v17.args))] rfl rfl ⟨a20, c20, a18, c18, rfl, rfl⟩
def sign_kind : Nat → Tm → Option (Bool)
  | 0, _ => none
  | n + 1, v1 =>
    (term_Domains n v1).bind (fun v3 =>
    some ((v3.2.op == 1)))
theorem sign_kind_spec (n : Nat) (v1 : Tm) (a2 : Option Addr) (c2 : Nat) (r : Bool) (hr : sign_kind n v1 = some r) : Pure Tryz.prog (.val (.fn (.func 119) [] [])) [(.agg [(.v (.int .i64 v1.op)), (.v (.int .i64 v1.hd)), (.v (.int .i64 v1.n)), (.v (.slice a2 ((Tm.encL v1.args).length) c2))])] [(.slice a2 ((Tm.encL v1.args).length) c2, .sl 4 (Tm.encL v1.args))] (fun r' out => r' = (.v (.bool r)) ∧ out = []) := by
  rcases n with _ | n
  · exact no_some hr
  rw [sign_kind.eq_2] at hr
  refine spec_of_body (N := 13) (m := 0) (dt := fun _ => none) [] ttOK Tryz.func119 rfl Tryz.call119 Tryz.ntmps119 rfl rfl rfl mixed (by kernel_rfl) ?_
  obtain ⟨v3, h4, hr⟩ := bind_some hr
  refine (term_Domains_spec n v1 a2 c2 _ h4).atR [0] rfl rfl rfl ?_
  rintro _ _ ⟨a5, c5, a6, c6, rfl, rfl⟩
  replace hr := Option.some.inj hr
  subst hr
  exact AtRet.pureG [] [] rfl rfl ⟨rfl, rfl⟩
def sign_target : Nat → Tm → Option (Int × Bool)
  | 0, _ => none
  | n + 1, v1 =>
    (term_Domains n v1).bind (fun v3 =>
    some (v3.2.n, ((v3.2.op == 4) && (v3.2.hd == 2))))
theorem sign_target_spec (n : Nat) (v1 : Tm) (a2 : Option Addr) (c2 : Nat) (r : Int × Bool) (hr : sign_target n v1 = some r) : Pure Tryz.prog (.val (.fn (.func 120) [] [])) [(.agg [(.v (.int .i64 v1.op)), (.v (.int .i64 v1.hd)), (.v (.int .i64 v1.n)), (.v (.slice a2 ((Tm.encL v1.args).length) c2))])] [(.slice a2 ((Tm.encL v1.args).length) c2, .sl 4 (Tm.encL v1.args))] (fun r' out => r' = (.tup [(.v (.int .i64 r.1)), (.v (.bool r.2))]) ∧ out = []) := by
  rcases n with _ | n
  · exact no_some hr
  rw [sign_target.eq_2] at hr
  refine spec_of_body (N := 21) (m := 0) (dt := drawsOf [(2, .leaf [0, 1, 2, 3, 4, 5, 6, 7, 8, 9, 10, 11], [], [])]) [] ttOK Tryz.func120 rfl Tryz.call120 Tryz.ntmps120 rfl rfl rfl mixed (by kernel_rfl) ?_
  obtain ⟨v3, h4, hr⟩ := bind_some hr
  refine (term_Domains_spec n v1 a2 c2 _ h4).atR [0] rfl rfl rfl ?_
  rintro _ _ ⟨a5, c5, a6, c6, rfl, rfl⟩
  replace hr := Option.some.inj hr
  subst hr
  exact AtRet.pureG [] [] rfl rfl ⟨rfl, rfl⟩
def sign_formed_1 : Nat → Tm → Int → Bool → (List Dc) → Option (Bool)
  | 0, _, _, _, _ => none
  | n + 1, v1, v3, v4, v5 =>
    cond (v1.op != 4) (
    some (v4)) (
    some ((((v4 && (v1.hd != 3)) && ((v1.hd != 1) || (decide (v1.n < v3)))) && ((v1.hd != 2) || (decide (v1.n < ((Dc.encL v5).length : Int)))))))
theorem sign_formed_1_spec (n : Nat) (v1 : Tm) (v3 : Int) (v4 : Bool) (v5 : (List Dc)) (a2 : Option Addr) (c2 : Nat) (a6 : Option Addr) (c6 : Nat) (r : Bool) (hr : sign_formed_1 n v1 v3 v4 v5 = some r) : Meets Tryz.prog (.val (.fn (.func 118) [] [(.loc 0 0), (.loc 1 0)])) [(.agg [(.v (.int .i64 v1.op)), (.v (.int .i64 v1.hd)), (.v (.int .i64 v1.n)), (.v (.slice a2 ((Tm.encL v1.args).length) c2))]), (.v (.int .i64 v3))] ⟨[.cells 4 [(.v (.bool v4))], .cells 22 [(.v (.slice a6 ((Dc.encL v5).length) c6))]], [], [(.slice a2 ((Tm.encL v1.args).length) c2, .sl 4 (Tm.encL v1.args)), (.slice a6 ((Dc.encL v5).length) c6, .sl 6 (Dc.encL v5))]⟩ (fun o S' => o = .ret (.tup []) ∧ S' = ⟨[.cells 4 [(.v (.bool r))], .cells 22 [(.v (.slice a6 ((Dc.encL v5).length) c6))]], [], []⟩) := by
  rcases n with _ | n
  · exact no_some hr
  rw [sign_formed_1.eq_2] at hr
  refine spec_of_body (N := 38) (m := 2) (dt := fun _ => none) [] ttOK Tryz.func118 rfl Tryz.call118 Tryz.ntmps118 rfl rfl rfl mixed (by kernel_rfl) ?_
  refine AtIf.mk (fun h7 => ?_) (fun h7 => ?_)
  · replace hr := cond_t h7 hr
    replace hr := Option.some.inj hr
    subst hr
    exact AtRet.gen ⟨[.cells 4 [(.v (.bool v4))], .cells 22 [(.v (.slice a6 ((Dc.encL v5).length) c6))]], [], []⟩ (StLe.gen 2 [] [] rfl rfl rfl rfl rfl rfl rfl) rfl rfl ⟨rfl, rfl⟩
  · replace hr := cond_f h7 hr
    replace hr := Option.some.inj hr
    subst hr
    exact AtRet.gen ⟨[.cells 4 [(.v (.bool (((v4 && (v1.hd != 3)) && ((v1.hd != 1) || (decide (v1.n < v3)))) && ((v1.hd != 2) || (decide (v1.n < ((Dc.encL v5).length : Int)))))))], .cells 22 [(.v (.slice a6 ((Dc.encL v5).length) c6))]], [], []⟩ (StLe.gen 2 [] [] rfl rfl rfl rfl rfl rfl rfl) rfl rfl ⟨rfl, rfl⟩
mutual
def term_Each_sign_formed_1 : Nat → Tm → Int → Bool → (List Dc) → Option (Bool)
  | 0, _, _, _, _ => none
  | n + 1, v1, v3, v4, v5 =>
    (sign_formed_1 n v1 v3 v4 v5).bind (fun v7 =>
    term_Each_sign_formed_1_L1 n v1 v3 v5 v7 0)
def term_Each_sign_formed_1_L1 : Nat → Tm → Int → (List Dc) → Bool → Int → Option (Bool)
  | 0, _, _, _, _, _ => none
  | n + 1, v1, v3, v5, v19, v20 =>
    cond (decide (v20 < ((Tm.encL v1.args).length : Int))) (
    (idx v1.args v20).bind (fun v22 =>
    (term_Under n v1 v20).bind (fun v27 =>
    (term_Each_sign_formed_1 n v22 (IntKind.i64.wrap (v3 + v27)) v19 v5).bind (fun v29 =>
    term_Each_sign_formed_1_L1 n v1 v3 v5 v29 (IntKind.i64.wrap (v20 + 1)))))) (
    some (v19))
 end
theorem term_Each_sign_formed_1_specN : ∀ (N : Nat), (∀ (n : Nat), n ≤ N → ∀ (v1 : Tm) (v3 : Int) (v4 : Bool) (v5 : (List Dc)) (a2 : Option Addr) (c2 : Nat) (a6 : Option Addr) (c6 : Nat) (r : Bool), term_Each_sign_formed_1 n v1 v3 v4 v5 = some r → Meets Tryz.prog (.val (.fn (.func 48) [] [])) [(.agg [(.v (.int .i64 v1.op)), (.v (.int .i64 v1.hd)), (.v (.int .i64 v1.n)), (.v (.slice a2 ((Tm.encL v1.args).length) c2))]), (.v (.int .i64 v3)), (.fn (.func 118) [] [(.loc 0 0), (.loc 1 0)])] ⟨[.cells 4 [(.v (.bool v4))], .cells 22 [(.v (.slice a6 ((Dc.encL v5).length) c6))]], [], [(.slice a2 ((Tm.encL v1.args).length) c2, .sl 4 (Tm.encL v1.args)), (.slice a6 ((Dc.encL v5).length) c6, .sl 6 (Dc.encL v5))]⟩ (fun o S' => o = .ret (.tup []) ∧ S' = ⟨[.cells 4 [(.v (.bool r))], .cells 22 [(.v (.slice a6 ((Dc.encL v5).length) c6))]], [], []⟩)) := by
  intro N
  induction N with
  | zero =>
    intro n hn v1 v3 v4 v5 a2 c2 a6 c6 r hr; obtain rfl : n = 0 := (by omega); exact no_some hr
  | succ N ih =>
    intro n hn v1 v3 v4 v5 a2 c2 a6 c6 r hr
    rcases n with _ | n
    · exact no_some hr
    replace hn : n ≤ N := by omega
    rw [term_Each_sign_formed_1.eq_2] at hr
    refine spec_of_body (N := 29) (m := 2) (dt := drawsOf [(5, .node [0, 1, 2, 3, 6] [(4, .node [5] [(7, .leaf [])])], [7], [])]) [] ttOK Tryz.func48 rfl Tryz.call48 Tryz.ntmps48 rfl rfl rfl mixed (by kernel_rfl) ?_
    obtain ⟨v7, h8, hr⟩ := bind_some hr
    refine (sign_formed_1_spec n v1 v3 v4 v5 a2 c2 a6 c6 _ h8).frameR [0, 1] [0, 1] rfl rfl rfl rfl rfl rfl rfl rfl ?_
    rintro _ _ ⟨rfl, rfl⟩
    refine ⟨rfl, rfl, [.cells 4 [(.v (.bool v7))], .cells 22 [(.v (.slice a6 ((Dc.encL v5).length) c6))]], rfl, ?_⟩
    refine AtLoop.mk ⟨Nat × Bool × Int, fun x => [(1, (.v (.int .i64 v3))), (2, (.fn (.func 118) [] [(.loc 0 0), (.loc 1 0)])), (3, (.loc 2 0)), (13, (.v (.slice a2 ((Tm.encL v1.args).length) c2))), (14, (.v (.int .i64 ((Tm.encL v1.args).length : Int)))), (15, (.v (.int .i64 x.2.2)))], fun x => ⟨[.cells 4 [(.v (.bool x.2.1))], .cells 22 [(.v (.slice a6 ((Dc.encL v5).length) c6))], .cells 26 [(.v (.int .i64 v1.op)), (.v (.int .i64 v1.hd)), (.v (.int .i64 v1.n)), (.v (.slice a2 ((Tm.encL v1.args).length) c2))]], [], [(.slice a2 ((Tm.encL v1.args).length) c2, .sl 4 (Tm.encL v1.args)), (.slice a6 ((Dc.encL v5).length) c6, .sl 6 (Dc.encL v5))]⟩, fun x => x.1 ≤ N ∧ term_Each_sign_formed_1_L1 x.1 v1 v3 v5 x.2.1 x.2.2 = some r, fun x => x.1, (n, v7, 0), ⟨by omega, hr⟩, ⟨rfl, rfl, rfl, rfl, rfl, rfl, trivial⟩, (StLe.gen 3 [] [.old 0, .old 1] rfl rfl rfl rfl rfl rfl rfl), fun x _ => ⟨rfl, rfl⟩, ?_⟩
    rintro ⟨n, v19, v20⟩ HH
    obtain ⟨hn, hr⟩ : n ≤ N ∧ term_Each_sign_formed_1_L1 n v1 v3 v5 v19 v20 = some r := HH
    rcases n with _ | n
    · exact no_some hr
    rw [term_Each_sign_formed_1_L1.eq_2] at hr
    refine AtIf.mk (fun h21 => ?_) (fun h21 => ?_)
    · replace hr := cond_t h21 hr
      obtain ⟨v22, h23, hr⟩ := bind_some hr
      obtain ⟨h24, h25⟩ := idx_some h23
      refine at_index ttOK 0 rfl rfl rfl rfl h24 (Tm.encL_get h25) ?_
      intro a26 c26 _ _
      obtain ⟨v27, h28, hr⟩ := bind_some hr
      refine (term_Under_spec n v1 v20 a2 c2 _ h28).atR [0] rfl rfl rfl ?_
      rintro _ _ ⟨rfl, rfl⟩
      refine ⟨fun _ _ h => h, ?_⟩
      obtain ⟨v29, h30, hr⟩ := bind_some hr
      refine (ih n (by omega) v22 (IntKind.i64.wrap (v3 + v27)) v19 v5 a26 c26 a6 c6 _ h30).frameR [0, 1] [2, 1] rfl rfl rfl rfl rfl rfl rfl rfl ?_
      rintro _ _ ⟨rfl, rfl⟩
      refine ⟨rfl, rfl, [.cells 4 [(.v (.bool v29))], .cells 22 [(.v (.slice a6 ((Dc.encL v5).length) c6))]], rfl, ?_⟩
      exact ⟨(n, v29, (IntKind.i64.wrap (v20 + 1))), ⟨by omega, hr⟩, Nat.lt_succ_self _, ⟨rfl, rfl, rfl, rfl, rfl, rfl, trivial⟩, (StLe.gen 3 [] [.old 0, .old 1] rfl rfl rfl rfl rfl rfl rfl)⟩
    · replace hr := cond_f h21 hr
      replace hr := Option.some.inj hr
      subst hr
      exact AtRet.gen ⟨[.cells 4 [(.v (.bool v19))], .cells 22 [(.v (.slice a6 ((Dc.encL v5).length) c6))]], [], []⟩ (StLe.gen 2 [] [] rfl rfl rfl rfl rfl rfl rfl) rfl rfl ⟨rfl, rfl⟩
theorem term_Each_sign_formed_1_spec (n : Nat) (v1 : Tm) (v3 : Int) (v4 : Bool) (v5 : (List Dc)) (a2 : Option Addr) (c2 : Nat) (a6 : Option Addr) (c6 : Nat) (r : Bool) (hr : term_Each_sign_formed_1 n v1 v3 v4 v5 = some r) : Meets Tryz.prog (.val (.fn (.func 48) [] [])) [(.agg [(.v (.int .i64 v1.op)), (.v (.int .i64 v1.hd)), (.v (.int .i64 v1.n)), (.v (.slice a2 ((Tm.encL v1.args).length) c2))]), (.v (.int .i64 v3)), (.fn (.func 118) [] [(.loc 0 0), (.loc 1 0)])] ⟨[.cells 4 [(.v (.bool v4))], .cells 22 [(.v (.slice a6 ((Dc.encL v5).length) c6))]], [], [(.slice a2 ((Tm.encL v1.args).length) c2, .sl 4 (Tm.encL v1.args)), (.slice a6 ((Dc.encL v5).length) c6, .sl 6 (Dc.encL v5))]⟩ (fun o S' => o = .ret (.tup []) ∧ S' = ⟨[.cells 4 [(.v (.bool r))], .cells 22 [(.v (.slice a6 ((Dc.encL v5).length) c6))]], [], []⟩) := (term_Each_sign_formed_1_specN n) n (Nat.le_refl _) v1 v3 v4 v5 a2 c2 a6 c6 r hr
def sign_formed : Nat → (List Dc) → Dc → Option (Bool)
  | 0, _, _ => none
  | n + 1, v1, v3 =>
    cond ((if isProper v3.cls then (0 : Int) else 2) != 0) (
    some (false)) (
    (sign_name n v3.name).bind (fun v6 =>
    cond ((!v6) || (decide (v3.implicit < 0))) (
    some (false)) (
    (term_Domains n v3.cls).bind (fun v9 =>
    (term_Each_sign_formed_1 n v3.cls 0 (decide (v3.implicit ≤ ((Tm.encL v9.1).length : Int))) v1).bind (fun v13 =>
    (sign_kind n v3.cls).bind (fun v15 =>
    cond v15 (
    some (v13)) (
    (sign_target n v3.cls).bind (fun v18 =>
    cond (v13 && v18.2) (
    (idx v1 v18.1).bind (fun v21 =>
    (sign_kind n v21.cls).bind (fun v26 =>
    some (v26)))) (
    some (false))))))))))
theorem sign_formed_spec (n : Nat) (v1 : (List Dc)) (v3 : Dc) (a2 : Option Addr) (c2 : Nat) (a4 : Option Addr) (c4 : Nat) (r : Bool) (hr : sign_formed n v1 v3 = some r) : Pure Tryz.prog (.val (.fn (.func 85) [] [])) [(.v (.slice a2 ((Dc.encL v1).length) c2)), (.agg [(.v (.string v3.name)), (.v (.int .i64 v3.cls.op)), (.v (.int .i64 v3.cls.hd)), (.v (.int .i64 v3.cls.n)), (.v (.slice a4 ((Tm.encL v3.cls.args).length) c4)), (.v (.int .i64 v3.implicit))])] [(.slice a2 ((Dc.encL v1).length) c2, .sl 6 (Dc.encL v1)), (.slice a4 ((Tm.encL v3.cls.args).length) c4, .sl 4 (Tm.encL v3.cls.args))] (fun r' out => r' = (.v (.bool r)) ∧ out = []) := by
  rcases n with _ | n
  · exact no_some hr
  rw [sign_formed.eq_2] at hr
  refine spec_of_body (N := 62) (m := 0) (dt := fun _ => none) [] ttOK Tryz.func85 rfl Tryz.call85 Tryz.ntmps85 rfl rfl rfl mixed (by kernel_rfl) ?_
  refine (check_spec v3.cls a4 c4).atR [1] rfl rfl rfl ?_
  rintro _ _ ⟨rfl, rfl⟩
  refine AtGuard.mk (fun h5 => ?_) (fun h5 => ?_)
  · replace hr := cond_f h5 hr
    obtain ⟨v6, h7, hr⟩ := bind_some hr
    refine (sign_name_spec n v3.name _ h7).atR [] rfl rfl rfl ?_
    rintro _ _ ⟨rfl, rfl⟩
    refine AtIf.mk (fun h8 => ?_) (fun h8 => ?_)
    · replace hr := cond_t h8 hr
      replace hr := Option.some.inj hr
      subst hr
      exact AtRet.pureG [] [] rfl rfl ⟨rfl, rfl⟩
    · replace hr := cond_f h8 hr
      obtain ⟨v9, h10, hr⟩ := bind_some hr
      refine (term_Domains_spec n v3.cls a4 c4 _ h10).atR [1] rfl rfl rfl ?_
      rintro _ _ ⟨a11, c11, a12, c12, rfl, rfl⟩
      obtain ⟨v13, h14, hr⟩ := bind_some hr
      refine (term_Each_sign_formed_1_spec n v3.cls 0 (decide (v3.implicit ≤ ((Tm.encL v9.1).length : Int))) v1 a4 c4 a2 c2 _ h14).frameR [3, 0] [1, 0] rfl rfl rfl rfl rfl rfl rfl rfl ?_
      rintro _ _ ⟨rfl, rfl⟩
      refine ⟨rfl, rfl, [.cells 4 [(.v (.bool v13))], .cells 22 [(.v (.slice a2 ((Dc.encL v1).length) c2))]], rfl, ?_⟩
      obtain ⟨v15, h16, hr⟩ := bind_some hr
      refine (sign_kind_spec n v3.cls a4 c4 _ h16).atR [1] rfl rfl rfl ?_
      rintro _ _ ⟨rfl, rfl⟩
      refine AtIf.mk (fun h17 => ?_) (fun h17 => ?_)
      · replace hr := cond_t h17 hr
        replace hr := Option.some.inj hr
        subst hr
        exact AtRet.pureG [] [] rfl rfl ⟨rfl, rfl⟩
      · replace hr := cond_f h17 hr
        obtain ⟨v18, h19, hr⟩ := bind_some hr
        refine (sign_target_spec n v3.cls a4 c4 _ h19).atR [1] rfl rfl rfl ?_
        rintro _ _ ⟨rfl, rfl⟩
        refine AtGuard.mk (fun h20 => ?_) (fun h20 => ?_)
        · replace hr := cond_t h20 hr
          obtain ⟨v21, h22, hr⟩ := bind_some hr
          obtain ⟨h23, h24⟩ := idx_some h22
          refine at_index ttOK 0 rfl rfl rfl rfl h23 (Dc.encL_get h24) ?_
          intro a25 c25 _ _
          obtain ⟨v26, h27, hr⟩ := bind_some hr
          refine (sign_kind_spec n v21.cls a25 c25 _ h27).atR [4] rfl rfl rfl ?_
          rintro _ _ ⟨rfl, rfl⟩
          replace hr := Option.some.inj hr
          subst hr
          exact AtRet.pureG [] [] rfl rfl ⟨rfl, rfl⟩
        · replace hr := cond_f h20 hr
          replace hr := Option.some.inj hr
          subst hr
          exact AtRet.pureG [] [] rfl rfl ⟨rfl, rfl⟩
  · replace hr := cond_t h5 hr
    refine AtIf.mk (fun _ => ?_) (fun h => tf h)
    replace hr := Option.some.inj hr
    subst hr
    exact AtRet.pureG [] [] rfl rfl ⟨rfl, rfl⟩
mutual
def sign_Check : Nat → (List Dc) → Option (Int)
  | 0, _ => none
  | n + 1, v1 =>
    cond (decide (((Dc.encL v1).length : Int) > 100)) (
    some (2)) (
    sign_Check_L1 n v1 ([]) 0)
def sign_Check_L1 : Nat → (List Dc) → (List (ByteArray × Bool)) → Int → Option (Int)
  | 0, _, _, _ => none
  | n + 1, v1, v16, v17 =>
    cond (decide (v17 < ((Dc.encL v1).length : Int))) (
    (idx v1 v17).bind (fun v19 =>
    cond (decide ((0 : Int) ≤ (0 : Int) ∧ (0 : Int) ≤ v17 ∧ v17 ≤ ((Dc.encL v1).length : Int))) (
    cond ((mget v16 v19.name).getD false) (
    some (2)) (
    (sign_formed n (v1.take v17.toNat) v19).bind (fun v27 =>
    cond (!v27) (
    some (2)) (
    sign_Check_L1 n v1 (mput v19.name true v16) (IntKind.i64.wrap (v17 + 1)))))) none)) (
    some (0))
 end
theorem sign_Check_spec (n : Nat) (v1 : (List Dc)) (a2 : Option Addr) (c2 : Nat) (r : Int) (hr : sign_Check n v1 = some r) : Pure Tryz.prog (.val (.fn (.func 45) [] [])) [(.v (.slice a2 ((Dc.encL v1).length) c2))] [(.slice a2 ((Dc.encL v1).length) c2, .sl 6 (Dc.encL v1))] (fun r' out => r' = (.v (.int .i64 r)) ∧ out = []) := by
  rcases n with _ | n
  · exact no_some hr
  rw [sign_Check.eq_2] at hr
  refine spec_of_body (N := 27) (m := 0) (dt := fun _ => none) [] ttOK Tryz.func45 rfl Tryz.call45 Tryz.ntmps45 rfl rfl rfl mixed (by kernel_rfl) ?_
  refine AtIf.mk (fun h3 => ?_) (fun h3 => ?_)
  · replace hr := cond_t h3 hr
    replace hr := Option.some.inj hr
    subst hr
    exact AtRet.pureG [] [] rfl rfl ⟨rfl, rfl⟩
  · replace hr := cond_f h3 hr
    refine at_makeMapS ?_
    refine spec_of_body (N := 4) (m := 3) (dt := fun _ => none) [] ttOK Tryz.func84 rfl Tryz.call84 Tryz.ntmps84 rfl rfl rfl mixed (by kernel_rfl) ?_
    refine AtRet.gen _ (StLe.refl _) rfl rfl ?_
    refine AtRange.mk ⟨[(2, (.loc 0 0)), (3, (.loc 2 0))], ⟨rfl, rfl, trivial⟩, rfl, rfl, ⟨_, _, _, rfl, Tryz.call115⟩, ?_⟩
    refine spec_of_body (N := 20) (m := 5) (dt := drawsOf [(3, .node [0, 1, 2, 3, 4] [(5, .leaf [6])], [5], [])]) [] ttOK Tryz.func115 rfl Tryz.call115 Tryz.ntmps115 rfl rfl rfl mixed (by kernel_rfl) ?_
    refine AtLoop.mk ⟨Nat × (List (ByteArray × Bool)) × Int, fun x => [(0, (.yld 4)), (1, (.loc 3 0)), (5, (.v (.slice a2 ((Dc.encL v1).length) c2))), (6, (.v (.int .i64 ((Dc.encL v1).length : Int)))), (7, (.v (.int .i64 x.2.2)))], fun x => ⟨[.cells 32 [(.v (.int .i64 0))], .obj (mapS (encM Value.bool x.2.1)), .cells 139 [(.mp 1)], .cells 22 [(.v (.slice a2 ((Dc.encL v1).length) c2))], .lp ⟨27, [(2, (.loc 0 0)), (3, (.loc 2 0))], #[12, 13], rfAs Tryz.f45, rfBody Tryz.f45, .ready, none⟩], [], [(.slice a2 ((Dc.encL v1).length) c2, .sl 6 (Dc.encL v1))]⟩, fun x => sign_Check_L1 x.1 v1 x.2.1 x.2.2 = some r, fun x => x.1, (n, [], 0), hr, ⟨rfl, rfl, rfl, rfl, rfl, trivial⟩, (StLe.gen 5 [] [.old 0] rfl rfl rfl rfl rfl rfl rfl), fun x _ => ⟨rfl, rfl⟩, ?_⟩
    rintro ⟨n, v16, v17⟩ HH
    have hr : sign_Check_L1 n v1 v16 v17 = some r := HH
    rcases n with _ | n
    · exact no_some hr
    rw [sign_Check_L1.eq_2] at hr
    refine AtIf.mk (fun h18 => ?_) (fun h18 => ?_)
    · replace hr := cond_t h18 hr
      obtain ⟨v19, h20, hr⟩ := bind_some hr
      obtain ⟨h21, h22⟩ := idx_some h20
      refine at_index ttOK 0 rfl rfl rfl rfl h21 (Dc.encL_get h22) ?_
      intro a23 c23 _ _
      obtain ⟨h24, hr⟩ := cond_need hr
      refine at_sliceG ttOK 0 0 v17 (ds' := (Dc.encL (v1.take v17.toNat))) rfl rfl rfl (.inr ⟨rfl, rfl⟩) (.inl ⟨_, rfl⟩) h24 (by simp only [Dc.encL_eq]; exact sl_h ..) ?_
      intro a25 c25
      refine spec_of_round (N := 27) (m := 7) (dt := fun _ => none) [] ttOK rfl rfl rfl rfl rfl rfl mixed (by kernel_rfl) (by kernel_rfl) ?_
      refine at_lookupSG ttOK Value.bool false rfl Tryz.underlying9 rfl rfl rfl rfl ?_
      refine AtGuard.mk (fun h26 => ?_) (fun h26 => ?_)
      · replace hr := cond_f h26 hr
        obtain ⟨v27, h28, hr⟩ := bind_some hr
        refine (sign_formed_spec n (v1.take v17.toNat) v19 a25 c25 a23 c23 _ h28).atR [2, 1] rfl rfl rfl ?_
        rintro _ _ ⟨rfl, rfl⟩
        refine AtIf.mk (fun h29 => ?_) (fun h29 => ?_)
        · replace hr := cond_t h29 hr
          refine AtRet.gen _ (StLe.refl _) rfl rfl ?_
          refine AtIf.mk (fun _ => ?_) (fun h => tf h)
          refine AtRet.gen _ (StLe.refl _) rfl rfl ?_
          replace hr := Option.some.inj hr
          subst hr
          exact AtRet.pureG [] [] rfl rfl ⟨rfl, rfl⟩
        · replace hr := cond_f h29 hr
          refine at_mapPutS ttOK (.bool true) rfl Tryz.underlying9 rfl rfl rfl (fun _ => rfl) ?_
          rw [putS_enc]
          refine AtRet.gen _ (StLe.refl _) rfl rfl ?_
          refine AtIf.mk (fun h => ff h) (fun _ => ?_)
          exact ⟨(n, (mput v19.name true v16), (IntKind.i64.wrap (v17 + 1))), hr, Nat.lt_succ_self _, ⟨rfl, rfl, rfl, rfl, rfl, trivial⟩, (StLe.gen 5 [] [.old 0] rfl rfl rfl rfl rfl rfl rfl)⟩
      · replace hr := cond_t h26 hr
        refine AtIf.mk (fun _ => ?_) (fun h => tf h)
        refine AtRet.gen _ (StLe.refl _) rfl rfl ?_
        refine AtIf.mk (fun _ => ?_) (fun h => tf h)
        refine AtRet.gen _ (StLe.refl _) rfl rfl ?_
        replace hr := Option.some.inj hr
        subst hr
        exact AtRet.pureG [] [] rfl rfl ⟨rfl, rfl⟩
    · replace hr := cond_f h18 hr
      refine AtRet.gen _ (StLe.refl _) rfl rfl ?_
      replace hr := Option.some.inj hr
      subst hr
      exact AtRet.pureG [] [] rfl rfl ⟨rfl, rfl⟩
mutual
def sign_Find : Nat → (List Dc) → ByteArray → Option (Int × Int)
  | 0, _, _ => none
  | n + 1, v1, v3 =>
    (sign_Check n v1).bind (fun v4 =>
    cond (v4 != 0) (
    some (0, v4)) (
    sign_Find_L1 n v1 v3 0))
def sign_Find_L1 : Nat → (List Dc) → ByteArray → Int → Option (Int × Int)
  | 0, _, _, _ => none
  | n + 1, v1, v3, v14 =>
    cond (decide (v14 < ((Dc.encL v1).length : Int))) (
    (idx v1 v14).bind (fun v16 =>
    cond (v16.name.toList == v3.toList) (
    some (v14, 0)) (
    sign_Find_L1 n v1 v3 (IntKind.i64.wrap (v14 + 1))))) (
    some (0, 6))
 end
theorem sign_Find_spec (n : Nat) (v1 : (List Dc)) (v3 : ByteArray) (a2 : Option Addr) (c2 : Nat) (r : Int × Int) (hr : sign_Find n v1 v3 = some r) : Pure Tryz.prog (.val (.fn (.func 71) [] [])) [(.v (.slice a2 ((Dc.encL v1).length) c2)), (.v (.string v3))] [(.slice a2 ((Dc.encL v1).length) c2, .sl 6 (Dc.encL v1))] (fun r' out => r' = (.tup [(.v (.int .i64 r.1)), (.v (.int .i64 r.2))]) ∧ out = []) := by
  rcases n with _ | n
  · exact no_some hr
  rw [sign_Find.eq_2] at hr
  refine spec_of_body (N := 27) (m := 0) (dt := fun _ => none) [] ttOK Tryz.func71 rfl Tryz.call71 Tryz.ntmps71 rfl rfl rfl mixed (by kernel_rfl) ?_
  obtain ⟨v4, h5, hr⟩ := bind_some hr
  refine (sign_Check_spec n v1 a2 c2 _ h5).atR [0] rfl rfl rfl ?_
  rintro _ _ ⟨rfl, rfl⟩
  refine AtIf.mk (fun h6 => ?_) (fun h6 => ?_)
  · replace hr := cond_t h6 hr
    replace hr := Option.some.inj hr
    subst hr
    exact AtRet.pureG [] [] rfl rfl ⟨rfl, rfl⟩
  · replace hr := cond_f h6 hr
    refine AtLoop.mk ⟨Nat × Int, fun x => [(1, (.v (.string v3))), (14, (.v (.slice a2 ((Dc.encL v1).length) c2))), (15, (.v (.int .i64 ((Dc.encL v1).length : Int)))), (16, (.v (.int .i64 x.2)))], fun x => ⟨[], [], [(.slice a2 ((Dc.encL v1).length) c2, .sl 6 (Dc.encL v1))]⟩, fun x => sign_Find_L1 x.1 v1 v3 x.2 = some r, fun x => x.1, (n, 0), hr, ⟨rfl, rfl, rfl, rfl, trivial⟩, (StLe.gen 0 [] [.old 0] rfl rfl rfl rfl rfl rfl rfl), fun x _ => ⟨rfl, rfl⟩, ?_⟩
    rintro ⟨n, v14⟩ HH
    have hr : sign_Find_L1 n v1 v3 v14 = some r := HH
    rcases n with _ | n
    · exact no_some hr
    rw [sign_Find_L1.eq_2] at hr
    refine AtIf.mk (fun h15 => ?_) (fun h15 => ?_)
    · replace hr := cond_t h15 hr
      obtain ⟨v16, h17, hr⟩ := bind_some hr
      obtain ⟨h18, h19⟩ := idx_some h17
      refine at_index ttOK 0 rfl rfl rfl rfl h18 (Dc.encL_get h19) ?_
      intro a20 c20 _ _
      refine AtIf.mk (fun h21 => ?_) (fun h21 => ?_)
      · replace hr := cond_t h21 hr
        replace hr := Option.some.inj hr
        subst hr
        exact AtRet.pureG [] [] rfl rfl ⟨rfl, rfl⟩
      · replace hr := cond_f h21 hr
        exact ⟨(n, (IntKind.i64.wrap (v14 + 1))), hr, Nat.lt_succ_self _, ⟨rfl, rfl, rfl, rfl, trivial⟩, (StLe.gen 0 [] [.old 0] rfl rfl rfl rfl rfl rfl rfl)⟩
    · replace hr := cond_f h15 hr
      replace hr := Option.some.inj hr
      subst hr
      exact AtRet.pureG [] [] rfl rfl ⟨rfl, rfl⟩
def R03_Metas : Nat → Tm → Option ((List Int))
  | 0, _ => none
  | n + 1, v1 =>
    cond (decide ((0 : Int) ≤ 0 ∧ (0 : Int) + (v1.height : Int) ≤ 1000000 ∧ ([] : List Int).length + v1.count ≤ 1000000)) (
    some ((headsF 3 v1 0 ([])))) none
def R03_Free : Nat → Tm → Option ((List Int))
  | 0, _ => none
  | n + 1, v1 =>
    cond (decide ((0 : Int) ≤ 0 ∧ (0 : Int) + (v1.height : Int) ≤ 1000000 ∧ ([] : List Int).length + v1.count ≤ 1000000)) (
    some ((headsF 1 v1 0 ([])))) none
def R03_Constants : Nat → Tm → Option ((List Int))
  | 0, _ => none
  | n + 1, v1 =>
    cond (decide ((0 : Int) ≤ 0 ∧ (0 : Int) + (v1.height : Int) ≤ 1000000 ∧ ([] : List Int).length + v1.count ≤ 1000000)) (
    some ((headsF 2 v1 0 ([])))) none
end Go.Proofs.YtpibdcjdamibdaaGreatDoor
end

/-! Rd1 -/
section
namespace Go.Proofs.YtpibdcjdamibdaaGreatDoor
open Go.Tr Go
open Go.ChangeShapes Go.WideShapes Go.ChangeAt Go.RowKit
set_option maxRecDepth 10000
set_option linter.unusedVariables false

theorem cz3 : Tryz.prog.cellsOf 3 = 1 := by kernel_rfl
theorem cz9 : Tryz.prog.cellsOf 9 = 1 := by kernel_rfl
theorem cz24 : Tryz.prog.cellsOf 24 = 1 := by kernel_rfl
theorem cz26 : Tryz.prog.cellsOf 26 = 4 := by kernel_rfl
theorem cz42 : Tryz.prog.cellsOf 42 = 6 := by kernel_rfl
section
variable {H : Type} {enc : TypeId × Value → H} {W : World}

theorem repC_Tm {W : World} {t : Tm} {a1 : Option Addr} {c1 : Nat} (r1 : RepC (fun _ => True) W (.sl 4 (Tm.encL t.args)) [.slice a1 (Tm.encL t.args).length c1]) : RepC (fun _ => True) W t.enc [.int .i64 t.op, .int .i64 t.hd, .int .i64 t.n, .slice a1 (Tm.encL t.args).length c1] := by
  rw [Tm.enc_eq]
  exact ⟨[.int .i64 t.op], _, rfl, rfl, [.int .i64 t.hd], _, rfl, rfl, [.int .i64 t.n], _, rfl, rfl, [.slice a1 (Tm.encL t.args).length c1], _, rfl, r1, rfl⟩

theorem bz26 : 1 ≤ Tryz.prog.bytesOf 26 := by decide +kernel

theorem rds_Tm (n : Nat) (hel : ∀ m, m < n → ∀ cs x, DataW.trod enc Tryz.prog W 0 (fun _ => true) true m 26 cs = some x → (∀ y ∈ x.1.weights Tryz.prog 26, y ≤ reachBytes) → ∃ t : Tm, RepC (fun _ => True) W t.enc cs)
    {cs : List Value} {x : DataW H × List MemPlace} (h : DataW.trod enc Tryz.prog W 0 (fun _ => true) true n 24 cs = some x) (hw : ∀ y ∈ x.1.weights Tryz.prog 24, y ≤ reachBytes) :
    ∃ (l : List Tm) (a : Option Addr) (c : Nat), cs = [.slice a (Tm.encL l).length c] ∧ RepC (fun _ => True) W (.sl 4 (Tm.encL l)) [.slice a (Tm.encL l).length c] := by
  obtain ⟨l, a, c, e, hr⟩ := read_slice Tryz.underlying24 cz26 (by decide) bz26 Tm.enc n hel h hw
  subst e
  exact ⟨l, a, c, by rw [Tm.encL_length], by rw [Tm.encL_eq, List.length_map]; exact hr⟩

theorem rd_Tm : ∀ (n : Nat) (cs : List Value) (x : DataW H × List MemPlace), DataW.trod enc Tryz.prog W 0 (fun _ => true) true n 26 cs = some x → (∀ y ∈ x.1.weights Tryz.prog 26, y ≤ reachBytes) →
    ∃ (t : Tm) (a1 : Option Addr) (c1 : Nat), cs = [.int .i64 t.op, .int .i64 t.hd, .int .i64 t.n, .slice a1 (Tm.encL t.args).length c1] ∧ RepC (fun _ => True) W (.sl 4 (Tm.encL t.args)) [.slice a1 (Tm.encL t.args).length c1] := by
  intro n
  induction n using Nat.strongRecOn with
  | ind n ih =>
  intro cs x h hw
  obtain ⟨xs, m, rfl, rfl, hl, hlen, hf⟩ := DataW.trod_struct Tryz.underlying26 h
  match xs, hlen with
  | [y0, y1, y2, y3], _ =>
  rw [cz26] at hl
  match cs, hl with
  | [v0, v1, v2, v3], _ =>
  have h0 : DataW.trod enc Tryz.prog W 0 (fun _ => true) true m 3 (([v0, v1, v2, v3].drop 0).take (Tryz.prog.cellsOf 3)) = some y0 := hf 0 _ rfl
  have h1 : DataW.trod enc Tryz.prog W 0 (fun _ => true) true m 3 (([v0, v1, v2, v3].drop 1).take (Tryz.prog.cellsOf 3)) = some y1 := hf 1 _ rfl
  have h2 : DataW.trod enc Tryz.prog W 0 (fun _ => true) true m 3 (([v0, v1, v2, v3].drop 2).take (Tryz.prog.cellsOf 3)) = some y2 := hf 2 _ rfl
  have h3 : DataW.trod enc Tryz.prog W 0 (fun _ => true) true m 24 (([v0, v1, v2, v3].drop 3).take (Tryz.prog.cellsOf 24)) = some y3 := hf 3 _ rfl
  simp only [cz24, cz3, List.drop_zero, List.drop_succ_cons, List.take_succ_cons, List.take_zero] at h0 h1 h2 h3
  simp only [DataW.weights, Tryz.underlying26, List.map_cons, List.map_nil, DataW.weightsEach, List.append_nil, List.mem_append] at hw
  obtain ⟨f0, e0, _, _⟩ := DataW.trod_int Tryz.underlying3 h0
  obtain ⟨f1, e1, _, _⟩ := DataW.trod_int Tryz.underlying3 h1
  obtain ⟨f2, e2, _, _⟩ := DataW.trod_int Tryz.underlying3 h2
  obtain ⟨f3, a1, c1, e3, r1⟩ := rds_Tm m (fun m' hm' cs' x' h' hw' => by
    obtain ⟨t, a1, c1, rfl, r1⟩ := ih m' (by omega) cs' x' h' hw'
    exact ⟨t, repC_Tm r1⟩) h3 (fun y hy => hw y (.inr (.inr (.inr hy))))
  simp only [List.cons.injEq, and_true] at e0 e1 e2 e3
  subst e0
  subst e1
  subst e2
  subst e3
  exact ⟨.mk f0 f1 f2 f3, a1, c1, rfl, r1⟩

theorem repC_Dc {W : World} {t : Dc} {a1 : Option Addr} {c1 : Nat} (r1 : RepC (fun _ => True) W (.sl 4 (Tm.encL t.cls.args)) [.slice a1 (Tm.encL t.cls.args).length c1]) : RepC (fun _ => True) W t.enc [.string t.name, .int .i64 t.cls.op, .int .i64 t.cls.hd, .int .i64 t.cls.n, .slice a1 (Tm.encL t.cls.args).length c1, .int .i64 t.implicit] := by
  rw [Dc.enc_eq]
  exact ⟨[.string t.name], _, rfl, rfl, [.int .i64 t.cls.op, .int .i64 t.cls.hd, .int .i64 t.cls.n, .slice a1 (Tm.encL t.cls.args).length c1], _, rfl, ⟨[.int .i64 t.cls.op], _, rfl, rfl, [.int .i64 t.cls.hd], _, rfl, rfl, [.int .i64 t.cls.n], _, rfl, rfl, [.slice a1 (Tm.encL t.cls.args).length c1], _, rfl, r1, rfl⟩, [.int .i64 t.implicit], _, rfl, rfl, rfl⟩

theorem bz42 : 1 ≤ Tryz.prog.bytesOf 42 := by decide +kernel

theorem rds_Dc (n : Nat) (hel : ∀ m, m < n → ∀ cs x, DataW.trod enc Tryz.prog W 0 (fun _ => true) true m 42 cs = some x → (∀ y ∈ x.1.weights Tryz.prog 42, y ≤ reachBytes) → ∃ t : Dc, RepC (fun _ => True) W t.enc cs)
    {cs : List Value} {x : DataW H × List MemPlace} (h : DataW.trod enc Tryz.prog W 0 (fun _ => true) true n 22 cs = some x) (hw : ∀ y ∈ x.1.weights Tryz.prog 22, y ≤ reachBytes) :
    ∃ (l : List Dc) (a : Option Addr) (c : Nat), cs = [.slice a (Dc.encL l).length c] ∧ RepC (fun _ => True) W (.sl 6 (Dc.encL l)) [.slice a (Dc.encL l).length c] := by
  obtain ⟨l, a, c, e, hr⟩ := read_slice Tryz.underlying22 cz42 (by decide) bz42 Dc.enc n hel h hw
  subst e
  exact ⟨l, a, c, by rw [Dc.encL_length], by rw [Dc.encL_eq, List.length_map]; exact hr⟩

theorem rd_Dc : ∀ (n : Nat) (cs : List Value) (x : DataW H × List MemPlace), DataW.trod enc Tryz.prog W 0 (fun _ => true) true n 42 cs = some x → (∀ y ∈ x.1.weights Tryz.prog 42, y ≤ reachBytes) →
    ∃ (t : Dc) (a1 : Option Addr) (c1 : Nat), cs = [.string t.name, .int .i64 t.cls.op, .int .i64 t.cls.hd, .int .i64 t.cls.n, .slice a1 (Tm.encL t.cls.args).length c1, .int .i64 t.implicit] ∧ RepC (fun _ => True) W (.sl 4 (Tm.encL t.cls.args)) [.slice a1 (Tm.encL t.cls.args).length c1] := by
  intro n
  intro cs x h hw
  obtain ⟨xs, m, rfl, rfl, hl, hlen, hf⟩ := DataW.trod_struct Tryz.underlying42 h
  match xs, hlen with
  | [y0, y1, y2], _ =>
  rw [cz42] at hl
  match cs, hl with
  | [v0, v1, v2, v3, v4, v5], _ =>
  have h0 : DataW.trod enc Tryz.prog W 0 (fun _ => true) true m 9 (([v0, v1, v2, v3, v4, v5].drop 0).take (Tryz.prog.cellsOf 9)) = some y0 := hf 0 _ rfl
  have h1 : DataW.trod enc Tryz.prog W 0 (fun _ => true) true m 26 (([v0, v1, v2, v3, v4, v5].drop 1).take (Tryz.prog.cellsOf 26)) = some y1 := hf 1 _ rfl
  have h2 : DataW.trod enc Tryz.prog W 0 (fun _ => true) true m 3 (([v0, v1, v2, v3, v4, v5].drop 5).take (Tryz.prog.cellsOf 3)) = some y2 := hf 2 _ rfl
  simp only [cz26, cz3, cz9, List.drop_zero, List.drop_succ_cons, List.take_succ_cons, List.take_zero] at h0 h1 h2
  simp only [DataW.weights, Tryz.underlying42, List.map_cons, List.map_nil, DataW.weightsEach, List.append_nil, List.mem_append] at hw
  obtain ⟨f0, e0, _, _⟩ := DataW.trod_string Tryz.underlying9 h0
  obtain ⟨f1, a1, c1, e1, r1⟩ := rd_Tm m _ _ h1 (fun y hy => hw y (.inr (.inl hy)))
  obtain ⟨f2, e2, _, _⟩ := DataW.trod_int Tryz.underlying3 h2
  simp only [List.cons.injEq, and_true] at e0 e1 e2
  subst e0
  obtain ⟨rfl, rfl, rfl, rfl⟩ := e1
  subst e2
  exact ⟨.mk f0 f1 f2, a1, c1, rfl, r1⟩

theorem rdl_Dc (n : Nat) (cs : List Value) (x : DataW H × List MemPlace) (h : DataW.trod enc Tryz.prog W 0 (fun _ => true) true n 22 cs = some x) (hw : ∀ y ∈ x.1.weights Tryz.prog 22, y ≤ reachBytes) :
    ∃ (l : List Dc) (a : Option Addr) (c : Nat), cs = [.slice a (Dc.encL l).length c] ∧ RepC (fun _ => True) W (.sl 6 (Dc.encL l)) [.slice a (Dc.encL l).length c] :=
  rds_Dc n (fun m' _ cs' x' h' hw' => by
    obtain ⟨t, a1, c1, rfl, r1⟩ := rd_Dc m' cs' x' h' hw'
    exact ⟨t, repC_Dc r1⟩) h hw

theorem argl_Dc {base : Nat} {v : Value} {d : DataW H} {p : List MemPlace} (hok : Value.okWide Tryz.prog W .any base 22 v) (h : DataW.Trod enc Tryz.prog W 0 (fun _ => true) true 22 v d p) (hw : ∀ y ∈ d.weights Tryz.prog 22, y ≤ reachBytes) :
    ∃ (l : List Dc) (a : Option Addr) (c : Nat), v = .slice a (Dc.encL l).length c ∧ Rep (fun _ => True) W (.slice a (Dc.encL l).length c) (.sl 6 (Dc.encL l)) := by
  obtain ⟨a0, l0, c0, rfl⟩ := okWide_slice Tryz.underlying22 hok
  obtain ⟨n, hn⟩ := h
  obtain ⟨l, a, c, e, hr⟩ := rdl_Dc n _ _ hn hw
  simp only [Value.cells, List.cons.injEq, and_true] at e
  exact ⟨l, a, c, e, hr⟩

end
end Go.Proofs.YtpibdcjdamibdaaGreatDoor
end

/-! EvA -/
section
namespace Go.Proofs.YtpibdcjdamibdaaGreatDoor
open Go.Tr Go
set_option linter.unusedVariables false

theorem wrapS {i : Nat} (h : i < 2000000000000000000) : IntKind.i64.wrap ((i : Int) + 1) = ((i + 1 : Nat) : Int) := by
  rw [wrap_i64 (by omega) (by omega)]; omega

/-- f yields something, given fuel enough. -/
def Tot {α : Type} (f : Nat → Option α) : Prop := ∃ r, Ev f r
theorem Ev.tot {α : Type} {f : Nat → Option α} {r : α} (h : Ev f r) : Tot f := ⟨r, h⟩
theorem Ev.unique {α : Type} {f : Nat → Option α} {r r' : α} (h : Ev f r) (h' : Ev f r') : r = r' := by
  obtain ⟨N, h⟩ := h
  obtain ⟨M, h'⟩ := h'
  have e1 := h (max N M) (by omega)
  have e2 := h' (max N M) (by omega)
  rw [e1] at e2
  exact Option.some.inj e2

/-- f yields something of which p holds. -/
def Yields {α : Type} (f : Nat → Option α) (p : α → Prop) : Prop := ∃ r, Ev f r ∧ p r
theorem Yields.succ {α : Type} {f g : Nat → Option α} {p : α → Prop} (hf : ∀ n, f (n + 1) = g n) (h : Yields g p) : Yields f p := by
  obtain ⟨r, h1, h2⟩ := h; exact ⟨r, h1.succ hf, h2⟩
theorem Yields.bind {α β : Type} {f : Nat → Option α} {g : Nat → α → Option β} {q : α → Prop} {p : β → Prop} (h : Yields f q) (k : ∀ x, q x → Yields (fun n => g n x) p) : Yields (fun n => (f n).bind (g n)) p := by
  obtain ⟨x, h1, h2⟩ := h
  obtain ⟨r, h3, h4⟩ := k x h2
  exact ⟨r, h1.bind h3, h4⟩
theorem Yields.pure {α : Type} {p : α → Prop} {r : α} (h : p r) : Yields (fun _ => some r) p := ⟨r, Ev.pure r, h⟩
theorem Yields.ite {α : Type} {b : Bool} {f g : Nat → Option α} {p : α → Prop} (h : b = true → Yields f p) (k : b = false → Yields g p) : Yields (fun n => cond b (f n) (g n)) p := by
  cases b with
  | true => exact h rfl
  | false => exact k rfl
theorem Yields.need {α : Type} {b : Bool} {f : Nat → Option α} {p : α → Prop} (hb : b = true) (h : Yields f p) : Yields (fun n => cond b (f n) none) p := by
  subst hb; exact h
theorem Yields.some {α β : Type} {o : Option α} {x : α} {g : Nat → α → Option β} {p : β → Prop} (ho : o = Option.some x) (k : Yields (fun n => g n x) p) : Yields (fun n => o.bind (g n)) p := by
  subst ho; exact k
theorem Yields.mono {α : Type} {f : Nat → Option α} {p q : α → Prop} (h : Yields f p) (k : ∀ r, p r → q r) : Yields f q := by
  obtain ⟨r, h1, h2⟩ := h; exact ⟨r, h1, k r h2⟩
theorem Ev.yields {α : Type} {f : Nat → Option α} {r : α} {p : α → Prop} (h : Ev f r) (hp : p r) : Yields f p := ⟨r, h, hp⟩
theorem Yields.ev {α : Type} {f : Nat → Option α} {r : α} (h : Yields f (· = r)) : Ev f r := by
  obtain ⟨r', h1, rfl⟩ := h; exact h1
theorem Ev.some {α β : Type} {o : Option α} {x : α} {g : Nat → α → Option β} {r : β} (ho : o = Option.some x) (k : Ev (fun n => g n x) r) : Ev (fun n => o.bind (g n)) r := by
  subst ho; exact k
theorem Ev.need {α : Type} {b : Bool} {f : Nat → Option α} {r : α} (hb : b = true) (h : Ev f r) : Ev (fun n => cond b (f n) none) r := by
  subst hb; exact h

theorem idx_get {α : Type} {l : List α} {i : Nat} {x : α} (h : l[i]? = Option.some x) : idx l (i : Int) = Option.some x := by rw [idx_nat, h]
theorem idx_get0 {α : Type} {x : α} {l : List α} : idx (x :: l) 0 = Option.some x := rfl
theorem idx_get1 {α : Type} {x y : α} {l : List α} : idx (x :: y :: l) 1 = Option.some y := rfl

end Go.Proofs.YtpibdcjdamibdaaGreatDoor
end

/-! JoinLay -/
section
namespace Go.Proofs.YtpibdcjdamibdaaGreatDoor
open Go Go.Shelf
end Go.Proofs.YtpibdcjdamibdaaGreatDoor
end

/-! HandJ -/
section
namespace Go.Proofs.YtpibdcjdamibdaaGreatDoor
open Go.Tr Go
set_option maxRecDepth 10000

end Go.Proofs.YtpibdcjdamibdaaGreatDoor
end

/-! Gm -/
section
namespace Go.Tr
open Go
set_option maxRecDepth 10000

/-- An entry: what it is, and where its slice lies. -/
abbrev GE (α : Type) : Type := α × Option Addr × Nat
/-- Without places. -/
def er {κ α : Type} (g : List (κ × GE α)) : List (κ × α) := g.map fun p => (p.1, p.2.1)

def AllR {κ α : Type} (J : Nat → Prop) (w : World) (k : Nat) (p : α → List D) (g : List (κ × GE α)) : Prop := ∀ x ∈ g, RepC J w (.sl k (p x.2.1)) [.slice x.2.2.1 (p x.2.1).length x.2.2.2]

theorem AllR.get {κ α : Type} [DecidableEq κ] {J : Nat → Prop} {w : World} {k : Nat} {p : α → List D} {n : κ} {v : GE α} : ∀ {g : List (κ × GE α)}, AllR J w k p g → mget g n = some v → RepC J w (.sl k (p v.1)) [.slice v.2.1 (p v.1).length v.2.2]
  | [], _, h => by cases h
  | (k', u) :: r, hA, h => by
    simp only [mget] at h
    split at h
    · simp only [Option.some.injEq] at h; subst h; exact hA _ (List.mem_cons_self ..)
    · exact AllR.get (g := r) (fun y hy => hA y (List.mem_cons_of_mem _ hy)) h

theorem AllR.put {κ α : Type} [DecidableEq κ] {J : Nat → Prop} {w : World} {k : Nat} {p : α → List D} {n : κ} {v : GE α} (hv : RepC J w (.sl k (p v.1)) [.slice v.2.1 (p v.1).length v.2.2]) : ∀ {g : List (κ × GE α)}, AllR J w k p g → AllR J w k p (mput n v g)
  | [], _ => by
    intro x hx
    simp only [mput, List.mem_singleton] at hx
    subst hx; exact hv
  | (k', u) :: r, hA => by
    have hr : AllR J w k p r := fun y hy => hA y (List.mem_cons_of_mem _ hy)
    simp only [mput]
    split
    · intro x hx
      rcases List.mem_cons.1 hx with rfl | hx
      · exact hv
      · exact hr x hx
    · intro x hx
      rcases List.mem_cons.1 hx with rfl | hx
      · exact hA _ (List.mem_cons_self ..)
      · exact AllR.put hv hr x hx

/-- A place in an array. -/
theorem at_index_arrG {P : Program} {tt : Tab} (hT : TTOK P tt) {t e : TypeId} {k len : Nat} {zs : List Value} {x ix : SV} {S : St} {K : SV → St → Prop} {i off : Nat} {n : Int} {kk : IntKind} (hx : x = .loc i off) (hi : ix = .v (.int kk n)) (ht : tt t = some (.arr len e k zs)) (h0 : 0 ≤ n) (hlt : n < len) (hl : Nat.blt i S.own.length = true)
    (h : K (.loc i (off + n.toNat * k)) S) : AtPure P (fun ℓ => Instr.indexAt t (x.den ℓ) (ix.den ℓ)) S K := by
  subst hx hi
  refine AtPure.val _ (by simpa [SV.wf] using hl) (fun ℓ w => ?_) h
  obtain ⟨_, _, _, hu, hse⟩ := hT t _ ht
  simp only [Instr.indexAt, SV.den, asIntOf, pure_bind, Sem.run_bind, run_underlying' hu, Result.andThen_ok, Instr.sureAddr]
  rw [if_pos ⟨h0, hlt⟩]
  simp only [Sem.run_bind, hse, Result.andThen_ok, Sem.run_pure, addr_add, Nat.add_assoc]

end Go.Tr
end
