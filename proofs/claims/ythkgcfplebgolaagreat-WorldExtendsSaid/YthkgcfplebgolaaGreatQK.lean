/- Merged texts: HandX W0 HandM HandN FwW HandQ HandK. Conditions stand in each rule. -/
import Derived.Test.YthkgcfplebgolaaGreatQJ
set_option linter.unusedSimpArgs false
set_option linter.unusedVariables false

namespace Go.Proofs.YthkgcfplebgolaaGreat
section
open Go.Tr Go Go.Shelf
set_option maxRecDepth 10000
theorem growTB (m : Nat) (h1 : m * 48 ≤ 281474976710656) :
  Meets Tryz.prog (fnS 251) [.v (.slice none 0 0), iS m] ⟨[], [], [(.slice none 0 0, .sl 4 [])]⟩
   (fun o S' => ∃ (b : OA) (d : Nat), m ≤ d ∧ o = .ret (.v (.slice b (Tm.encL []).length d)) ∧ S' = ⟨[], [⟨.slice b (Tm.encL []).length d, 4, 41, Tm.encL []⟩], []⟩) := by
 intro J ℓ w hG hJ
 have hl : ℓ = [] := by have := hG.len; simpa using this
 subst hl
 refine ⟨.enter 251 #[.slice none 0 0, .int .i64 m], ?_, ?_⟩
 ·simp only [Cal.sem, SV.den, qd, Deferred.ofValue, Sem.run_bind, Sem.run_pure, Result.andThen_ok, invoke]
  exact Tryz.call251 _ _
 ·rcases Nat.eq_zero_or_pos m with rfl | hm
  ·have hc := Any8.slices_Grow_room growTLays none 0 0 0 w (by omega) (by omega) (by omega) (by omega)
   refine CallsIn.mono ((callsIn_wide (n := 0)).2 hc) ?_
   rintro e w' ⟨rfl, rfl⟩
   exact ⟨[], .ret (.v (.slice none 0 0)), ⟨[], [⟨.slice none 0 0, 4, 41, []⟩], []⟩, rfl, rfl, List.prefix_refl _, Ext.refl _ _, qg0 (by simp [accBlk]) (by simp [accBlk]) (.inl ⟨rfl, rfl⟩), by simp [mutS, mutL, accBlk], none, 0, Nat.le_refl _, rfl, rfl⟩
  ·obtain ⟨i0, z, hi0, hs0, hb0, hz0, hzs⟩ := qcz (P := Tryz.prog) (e := 41) (k := 4) (bytes := 48) (by kernel_rfl)
   have hc := growNil growTLays i0 z hi0 hz0 (by omega) m hm w (by rw [hb0]; exact h1) (by omega)
   refine CallsIn.mono ((callsIn_wide (n := 0)).2 hc) ?_
   rintro e w' ⟨rfl, rfl⟩
   have hge := grownCap_ge w m 0 (growTRen.t 25)
   refine ⟨[], .ret (.v (.slice (some ⟨w.heap.size, 0, none⟩) 0 (grownCap w m 0 41))), ⟨[], [⟨.slice (some ⟨w.heap.size, 0, none⟩) 0 (grownCap w m 0 41), 4, 41, []⟩], []⟩, rfl, rfl, List.prefix_refl _, ⟨rfl, rfl, ?_, ?_⟩, qg0 (by simp [accBlk]) ?_ (.row ⟨w.heap.size, _, _, rfl, World.alloc_heap_new w.drew _, ?_, ⟨Nat.zero_le _, by simp⟩, by simp [RepE]⟩), ?_, some ⟨w.heap.size, 0, none⟩, _, hge, rfl, rfl⟩
   ·show w.heap.size ≤ (w.heap.push _).size
    simp
   ·intro b hb _
    show (w.heap.push _)[b]? = _
    rw [Array.getElem?_push, if_neg (by omega)]
   ·intro b hb
    simp [accBlk] at hb
    subst hb
    exact ⟨by show w.heap.size < (w.heap.push _).size; simp, hJ _ (Nat.le_refl _)⟩
   ·simp only [Array.size_append, List.size_toArray, size_zeroCells, hzs, List.length_nil, Nat.zero_add, Nat.sub_zero, ← Nat.add_mul]
    congr 1
    have hgr : grownCap w m 0 (growTRen.t 25) = grownCap w m 0 41 := rfl
    rw [hgr] at hge ⊢
    omega
   ·intro b hb
    simp [mutS, mutL, accBlk] at hb
    subst hb
    exact .inr (Nat.le_refl _)
theorem qne {α : Type} {l : List (List α)} {i : Nat} (h : i < l.length) : (l.take (i + 1)).flatten = (l.take i).flatten ++ l[i] := by
 rw [← List.take_append_getElem h, List.flatten_append]
 simp only [List.flatten_cons, List.flatten_nil, List.append_nil]
theorem idxNat {α : Type} {l : List α} {i : Nat} (h : i < l.length) : idx l (i : Int) = some l[i] := by
 simp [idx, h]
theorem flat_le {α : Type} (l : List (List α)) (i : Nat) : (l.take i).flatten.length ≤ l.flatten.length := by
 conv => rhs; rw [← List.take_append_drop i l, List.flatten_append, List.length_append]
 omega
theorem concat0 (v1 : List (List Tm)) (l : List Tm) (hl : v1.flatten = l) (hb : l.length * 48 ≤ 281474976710656) (a2 : OA) (c2 : Nat) :
  Pure Tryz.prog (fnS 179) [(.v (.slice a2 ((List.map (fun l => D.sl 4 (Tm.encL l)) v1).length) c2))] [(.slice a2 ((List.map (fun l => D.sl 4 (Tm.encL l)) v1).length) c2, .sl 1 (List.map (fun l => D.sl 4 (Tm.encL l)) v1))]
   (fun r' out => ∃ (b1 : OA) (d1 : Nat), r' = (.v (.slice b1 ((Tm.encL l).length) d1)) ∧ out = [(.slice b1 ((Tm.encL l).length) d1, .sl 4 (Tm.encL l))]) := by
 refine qa4 fun hok => ?_
 have hn : v1.length ≤ 1152921504606846976 := by
  have := hok _ (List.mem_cons_self ..)
  simp only [okD, List.length_map] at this
  exact this.1
 have hbi : ∀ i, (v1.take i).flatten.length * 48 ≤ 281474976710656 := fun i => by have := flat_le v1 i; rw [hl] at this; omega
 refine qb (N := 36) (m := 0) (dt := fun _ => none) [] ttOK Tryz.func179 rfl Tryz.call179 Tryz.ntmps179 rfl rfl rfl mixed (by kernel_rfl) ?_
 refine AtLoop.mk ⟨Nat, fun i => [(0, (.v (.slice a2 ((List.map (fun l => D.sl 4 (Tm.encL l)) v1).length) c2))), (3, (.v (.int .i64 ((v1.take i).flatten.length : Int)))), (9, (.v (.slice a2 ((List.map (fun l => D.sl 4 (Tm.encL l)) v1).length) c2))), (10, (.v (.int .i64 ((List.map (fun l => D.sl 4 (Tm.encL l)) v1).length : Int)))), (11, (.v (.int .i64 (i : Int))))], fun i => ⟨[], [], [(.slice a2 ((List.map (fun l => D.sl 4 (Tm.encL l)) v1).length) c2, .sl 1 (List.map (fun l => D.sl 4 (Tm.encL l)) v1))]⟩, fun i => i ≤ v1.length, fun i => v1.length - i, 0, Nat.zero_le _, ⟨rfl, rfl, rfl, rfl, rfl, trivial⟩, (StLe.gen 0 [] [.old 0] rfl rfl rfl rfl rfl rfl rfl), fun x _ => ⟨rfl, rfl⟩, ?_⟩
 rintro i hi
 have hi : i ≤ v1.length := hi
 refine AtIf.mk (fun h5 => ?_) (fun h5 => ?_)
 ·have hlt : i < v1.length := by simpa using h5
  obtain ⟨h8, h9⟩ := qi (idxNat hlt)
  refine qh ttOK 0 rfl rfl rfl rfl h8 (qa7 (fun l => D.sl 4 (Tm.encL l)) h9) ?_
  intro a10 c10 _ _
  have hs := qne hlt
  have hsl : (v1.take (i + 1)).flatten.length = (v1.take i).flatten.length + v1[i].length := by rw [hs, List.length_append]
  have hbs := hbi (i + 1)
  have hw : IntKind.i64.wrap (((v1.take i).flatten.length : Int) + ((Tm.encL v1[i]).length : Int)) = ((v1.take (i + 1)).flatten.length : Int) := by
   rw [Tm.encL_length, wrap_i64 (by omega) (by omega), hsl]
   omega
  have hwi : IntKind.i64.wrap ((i : Int) + 1) = ((i + 1 : Nat) : Int) := by
   rw [wrap_i64 (by omega) (by omega)]; omega
  refine AtIf.mk (fun h11 => ?_) (fun h11 => ?_)
  ·exfalso
   rw [hw] at h11
   have := of_decide_eq_true h11
   omega
  ·exact ⟨i + 1, hlt, (by show v1.length - (i + 1) < v1.length - i; omega), ⟨rfl, by simp only [← hw]; rfl, rfl, rfl, by simp only [← hwi]; rfl, trivial⟩, (StLe.gen 0 [] [.old 0] rfl rfl rfl rfl rfl rfl rfl)⟩
 ·refine Meets.nilRep 4 ?_
  refine (growTB (v1.take i).flatten.length (hbi i)).frameRA [] [] [0] rfl rfl rfl rfl rfl rfl rfl rfl rfl ?_
  rintro _ _ ⟨a13, c13, hcap, rfl, rfl⟩
  refine ⟨rfl, [], rfl, ?_⟩
  have hiv : i = v1.length := by
   have : ¬ i < v1.length := by simpa using h5
   omega
  subst hiv
  rw [List.take_length, hl] at hcap
  clear h5 hi
  refine AtLoop.mk ⟨Nat, fun i => [(6, (.v (.slice a13 ((Tm.encL (v1.take i).flatten).length) c13))), (25, (.v (.slice a2 ((List.map (fun l => D.sl 4 (Tm.encL l)) v1).length) c2))), (26, (.v (.int .i64 ((List.map (fun l => D.sl 4 (Tm.encL l)) v1).length : Int)))), (27, (.v (.int .i64 (i : Int))))], fun i => ⟨[], [⟨.slice a13 ((Tm.encL (v1.take i).flatten).length) c13, 4, 41, (Tm.encL (v1.take i).flatten)⟩], [(.slice none 0 0, .sl 4 []), (.slice a2 ((List.map (fun l => D.sl 4 (Tm.encL l)) v1).length) c2, .sl 1 (List.map (fun l => D.sl 4 (Tm.encL l)) v1))]⟩, fun i => i ≤ v1.length, fun i => v1.length - i, 0, Nat.zero_le _, ⟨rfl, rfl, rfl, rfl, trivial⟩, (StLe.gen 0 [.old 0] [.old 0, .old 1] rfl rfl rfl rfl rfl rfl rfl), fun x _ => ⟨rfl, rfl⟩, ?_⟩
  rintro i hi
  have hi : i ≤ v1.length := hi
  refine AtIf.mk (fun h18 => ?_) (fun h18 => ?_)
  ·have hlt : i < v1.length := by simpa using h18
   obtain ⟨h21, h22⟩ := qi (idxNat hlt)
   refine qh ttOK 1 rfl rfl rfl rfl h21 (qa7 (fun l => D.sl 4 (Tm.encL l)) h22) ?_
   intro a23 c23 _ _
   have hfl := flat_le v1 (i + 1)
   rw [hl] at hfl
   have hwi : IntKind.i64.wrap ((i : Int) + 1) = ((i + 1 : Nat) : Int) := by
    rw [wrap_i64 (by omega) (by omega)]; omega
   refine ql9 (ds' := (Tm.encL (v1.take (i + 1)).flatten)) ttOK 48 0 2 rfl (by kernel_rfl) rfl rfl rfl rfl (by rw [qne hlt]; simp only [Tm.encL_eq, List.map_append]) (by rw [Tm.encL_length]; omega) (by rw [Tm.encL_length]; omega) ?_
   exact ⟨i + 1, hlt, (by show v1.length - (i + 1) < v1.length - i; omega), ⟨rfl, rfl, rfl, by simp only [← hwi]; rfl, trivial⟩, (StLe.gen 0 [.old 0] [.old 0, .old 1] rfl rfl rfl rfl rfl rfl rfl)⟩
  ·have hiv : i = v1.length := by
    have : ¬ i < v1.length := by simpa using h18
    omega
   have hl : (v1.take i).flatten = l := by rw [hiv, List.take_length, hl]
   subst hl
   exact qa [.froz 0] [(.slice a13 ((Tm.encL (v1.take i).flatten).length) c13, .sl 4 (Tm.encL (v1.take i).flatten))] rfl rfl ⟨a13, c13, rfl, rfl⟩
theorem concatT (v1 : List (List Tm)) (a2 : OA) (c2 : Nat) (hb : v1.flatten.length * 48 ≤ 281474976710656) :
  Pure Tryz.prog (fnS 179) [(.v (.slice a2 ((List.map (fun l => D.sl 4 (Tm.encL l)) v1).length) c2))] [(.slice a2 ((List.map (fun l => D.sl 4 (Tm.encL l)) v1).length) c2, .sl 1 (List.map (fun l => D.sl 4 (Tm.encL l)) v1))]
   (fun r' out => ∃ (b1 : OA) (d1 : Nat), r' = (.v (.slice b1 ((Tm.encL v1.flatten).length) d1)) ∧ out = [(.slice b1 ((Tm.encL v1.flatten).length) d1, .sl 4 (Tm.encL v1.flatten))]) := concat0 v1 _ rfl hb a2 c2
def qc3 : Nat → List (List Tm) → Option (List Tm)
 | 0, _ => none
 | _ + 1, v1 => cond (decide (v1.flatten.length * 48 ≤ 281474976710656)) (some v1.flatten) none
theorem qbn (n : Nat) (v1 : List (List Tm)) (a2 : OA) (c2 : Nat) (r : List Tm) (hr : qc3 n v1 = some r) :
  Pure Tryz.prog (fnS 179) [(.v (.slice a2 ((List.map (fun l => D.sl 4 (Tm.encL l)) v1).length) c2))] [(.slice a2 ((List.map (fun l => D.sl 4 (Tm.encL l)) v1).length) c2, .sl 1 (List.map (fun l => D.sl 4 (Tm.encL l)) v1))]
   (fun r' out => ∃ (b1 : OA) (d1 : Nat), r' = (.v (.slice b1 ((Tm.encL r).length) d1)) ∧ out = [(.slice b1 ((Tm.encL r).length) d1, .sl 4 (Tm.encL r))]) := by
 rcases n with _ | n
 ·cases hr
 ·rw [qc3] at hr
  cases hd : decide (v1.flatten.length * 48 ≤ 281474976710656) with
  | false => rw [hd] at hr; cases hr
  | true =>
   rw [hd] at hr
   cases hr
   exact concatT v1 a2 c2 (of_decide_eq_true hd)
end

section
open Go.Tr Go Go.Proofs.Tryz
set_option maxRecDepth 10000
structure Bk where
 som : (List Tm)
 lst : (List Tm)
abbrev Bk.enc (t : Bk) : D := .agg [.sl 4 (Tm.encL t.som), .sl 4 (Tm.encL t.lst)]
abbrev Bk.encL (l : List Bk) : List D := l.map Bk.enc
theorem Bk.encL_eq (l : List Bk) : Bk.encL l = l.map Bk.enc := rfl
theorem Bk.enc_eq (t : Bk) : t.enc = .agg [.sl 4 (Tm.encL t.som), .sl 4 (Tm.encL t.lst)] := rfl
theorem Bk.encL_length (l : List Bk) : (Bk.encL l).length = l.length := by simp
theorem Bk.encL_get {l : List Bk} {i : Nat} {t : Bk} (h : l[i]? = some t) : (Bk.encL l)[i]? = some (.agg [.sl 4 (Tm.encL t.som), .sl 4 (Tm.encL t.lst)]) := by rw [Bk.encL_eq, List.getElem?_map, h]; rfl
def sign_Family : Nat → (List Dc) → Int → Option (Bool)
 | 0, _, _ => none
 | n + 1, v1, v3 =>
  (idx v1 v3).bind (fun v4 =>
  (sign_kind n v4.cls).bind (fun v9 =>
  some (v9)))
theorem qir (n : Nat) (v1 : (List Dc)) (v3 : Int) (a2 : OA) (c2 : Nat) (r : Bool) (hr : sign_Family n v1 v3 = some r) : Pure Tryz.prog (.val (.fn (.func 193) [] [])) [(.v (.slice a2 ((Dc.encL v1).length) c2)), (.v (.int .i64 v3))] [(.slice a2 ((Dc.encL v1).length) c2, .sl 6 (Dc.encL v1))] (fun r' out => r' = (.v (.bool r)) ∧ out = []) := by
 rcases n with _ | n
 ·exact qe hr
 rw [sign_Family.eq_2] at hr
 refine qb (N := 11) (m := 0) (dt := fun _ => none) [] ttOK Tryz.func193 rfl Tryz.call193 Tryz.ntmps193 rfl rfl rfl mixed (by kernel_rfl) ?_
 obtain ⟨v4, h5, hr⟩ := bind_some hr
 obtain ⟨h6, h7⟩ := qi h5
 refine qh ttOK 0 rfl rfl rfl rfl h6 (Dc.encL_get h7) ?_
 intro a8 c8 _ _
 obtain ⟨v9, h10, hr⟩ := bind_some hr
 refine (qdq n v4.cls a8 c8 _ h10).atR [1] rfl rfl rfl ?_
 rintro _ _ ⟨rfl, rfl⟩
 replace hr := Option.some.inj hr
 subst hr
 exact qa [] [] rfl rfl ⟨rfl, rfl⟩
def check_good_1 : Nat → Tm → Option (Bool)
 | 0, _ => none
 | n + 1, v1 =>
  some (((if isProper v1 then (0 : Int) else 2) != 0))
theorem qhv (n : Nat) (v1 : Tm) (a2 : OA) (c2 : Nat) (r : Bool) (hr : check_good_1 n v1 = some r) : Pure Tryz.prog (.val (.fn (.func 335) [] [])) [(.agg [(.v (.int .i64 v1.op)), (.v (.int .i64 v1.hd)), (.v (.int .i64 v1.n)), (.v (.slice a2 ((Tm.encL v1.args).length) c2))])] [(.slice a2 ((Tm.encL v1.args).length) c2, .sl 4 (Tm.encL v1.args))] (fun r' out => r' = (.v (.bool r)) ∧ out = []) := by
 rcases n with _ | n
 ·exact qe hr
 rw [check_good_1.eq_2] at hr
 refine qb (N := 6) (m := 0) (dt := fun _ => none) [] ttOK Tryz.func335 rfl Tryz.call335 Tryz.ntmps335 rfl rfl rfl mixed (by kernel_rfl) ?_
 refine (qb7 v1 a2 c2).atR [0] rfl rfl rfl ?_
 rintro _ _ ⟨rfl, rfl⟩
 replace hr := Option.some.inj hr
 subst hr
 exact qa [] [] rfl rfl ⟨rfl, rfl⟩
mutual
def slices_IndexFunc_check_good_1 : Nat → (List Tm) → Option (Int)
 | 0, _ => none
 | n + 1, v1 =>
  slices_IndexFunc_check_good_1_L1 n v1 0
def slices_IndexFunc_check_good_1_L1 : Nat → (List Tm) → Int → Option (Int)
 | 0, _, _ => none
 | n + 1, v1, v3 =>
  cond (decide (v3 < ((Tm.encL v1).length : Int))) (
  (idx v1 v3).bind (fun v5 =>
  (check_good_1 n v5).bind (fun v10 =>
  cond v10 (
  some (v3)) (
  slices_IndexFunc_check_good_1_L1 n v1 (IntKind.i64.wrap (v3 + 1)))))) (
  some ((-1)))
 end
theorem qbx (n : Nat) (v1 : (List Tm)) (a2 : OA) (c2 : Nat) (r : Int) (hr : slices_IndexFunc_check_good_1 n v1 = some r) : Pure Tryz.prog (.val (.fn (.func 250) [] [])) [(.v (.slice a2 ((Tm.encL v1).length) c2)), (.fn (.func 335) [] [])] [(.slice a2 ((Tm.encL v1).length) c2, .sl 4 (Tm.encL v1))] (fun r' out => r' = (.v (.int .i64 r)) ∧ out = []) := by
 rcases n with _ | n
 ·exact qe hr
 rw [slices_IndexFunc_check_good_1.eq_2] at hr
 refine qb (N := 19) (m := 0) (dt := fun _ => none) [] ttOK Tryz.func250 rfl Tryz.call250 Tryz.ntmps250 rfl rfl rfl mixed (by kernel_rfl) ?_
 refine AtLoop.mk ⟨Nat × Int, fun x => [(0, (.v (.slice a2 ((Tm.encL v1).length) c2))), (1, (.fn (.func 335) [] [])), (7, (.v (.int .i64 ((Tm.encL v1).length : Int)))), (8, (.v (.int .i64 x.2)))], fun x => ⟨[], [], [(.slice a2 ((Tm.encL v1).length) c2, .sl 4 (Tm.encL v1))]⟩, fun x => slices_IndexFunc_check_good_1_L1 x.1 v1 x.2 = some r, fun x => x.1, (n, 0), hr, ⟨rfl, rfl, rfl, rfl, trivial⟩, (StLe.gen 0 [] [.old 0] rfl rfl rfl rfl rfl rfl rfl), fun x _ => ⟨rfl, rfl⟩, ?_⟩
 rintro ⟨n, v3⟩ HH
 have hr : slices_IndexFunc_check_good_1_L1 n v1 v3 = some r := HH
 rcases n with _ | n
 ·exact qe hr
 rw [slices_IndexFunc_check_good_1_L1.eq_2] at hr
 refine AtIf.mk (fun h4 => ?_) (fun h4 => ?_)
 ·replace hr := qg h4 hr
  obtain ⟨v5, h6, hr⟩ := bind_some hr
  obtain ⟨h7, h8⟩ := qi h6
  refine qh ttOK 0 rfl rfl rfl rfl h7 (Tm.encL_get h8) ?_
  intro a9 c9 _ _
  obtain ⟨v10, h11, hr⟩ := bind_some hr
  refine (qhv n v5 a9 c9 _ h11).atR [1] rfl rfl rfl ?_
  rintro _ _ ⟨rfl, rfl⟩
  refine AtIf.mk (fun h12 => ?_) (fun h12 => ?_)
  ·replace hr := qg h12 hr
   replace hr := Option.some.inj hr
   subst hr
   exact qa [] [] rfl rfl ⟨rfl, rfl⟩
  ·replace hr := qf h12 hr
   exact ⟨(n, (IntKind.i64.wrap (v3 + 1))), hr, Nat.lt_succ_self _, ⟨rfl, rfl, rfl, rfl, trivial⟩, (StLe.gen 0 [] [.old 0] rfl rfl rfl rfl rfl rfl rfl)⟩
 ·replace hr := qf h4 hr
  replace hr := Option.some.inj hr
  subst hr
  exact qa [] [] rfl rfl ⟨rfl, rfl⟩
def slices_ContainsFunc_check_good_1 : Nat → (List Tm) → Option (Bool)
 | 0, _ => none
 | n + 1, v1 =>
  (slices_IndexFunc_check_good_1 n v1).bind (fun v3 =>
  some ((decide (v3 ≥ 0))))
theorem qbk (n : Nat) (v1 : (List Tm)) (a2 : OA) (c2 : Nat) (r : Bool) (hr : slices_ContainsFunc_check_good_1 n v1 = some r) : Pure Tryz.prog (.val (.fn (.func 178) [] [])) [(.v (.slice a2 ((Tm.encL v1).length) c2)), (.fn (.func 335) [] [])] [(.slice a2 ((Tm.encL v1).length) c2, .sl 4 (Tm.encL v1))] (fun r' out => r' = (.v (.bool r)) ∧ out = []) := by
 rcases n with _ | n
 ·exact qe hr
 rw [slices_ContainsFunc_check_good_1.eq_2] at hr
 refine qb (N := 9) (m := 0) (dt := fun _ => none) [] ttOK Tryz.func178 rfl Tryz.call178 Tryz.ntmps178 rfl rfl rfl mixed (by kernel_rfl) ?_
 obtain ⟨v3, h4, hr⟩ := bind_some hr
 refine (qbx n v1 a2 c2 _ h4).atR [0] rfl rfl rfl ?_
 rintro _ _ ⟨rfl, rfl⟩
 replace hr := Option.some.inj hr
 subst hr
 exact qa [] [] rfl rfl ⟨rfl, rfl⟩
mutual
def check_good : Nat → (List Dc) → (List Mt) → (List Tm) → (List Tm) → Option (Bool)
 | 0, _, _, _, _ => none
 | n + 1, v1, v3, v5, v7 =>
  (sign_Check n v1).bind (fun v9 =>
  cond (((v9 != 0) || (decide (((Mt.encL v3).length : Int) > 80))) || (decide (((Tm.encL v5).length : Int) > 30))) (
  some (false)) (
  check_good_L1 n v3 v5 v7 0))
def check_good_L1 : Nat → (List Mt) → (List Tm) → (List Tm) → Int → Option (Bool)
 | 0, _, _, _, _ => none
 | n + 1, v3, v5, v7, v12 =>
  cond (decide (v12 < ((Mt.encL v3).length : Int))) (
  (idx v3 v12).bind (fun v14 =>
  cond (((freeE v14.cls) != 0) || (decide (((List.map (D.int .i64) (freeL v14.cls)).length : Int) > 0))) (
  some (false)) (
  check_good_L1 n v3 v5 v7 (IntKind.i64.wrap (v12 + 1))))) (
  cond (decide (([v5, v7]).flatten.length * 48 ≤ 281474976710656)) (
  (slices_ContainsFunc_check_good_1 n (([v5, v7]).flatten)).bind (fun v25 =>
  some ((!v25)))) none)
 end
theorem qi9 (n : Nat) (v1 : (List Dc)) (v3 : (List Mt)) (v5 : (List Tm)) (v7 : (List Tm)) (a2 : OA) (c2 : Nat) (a4 : OA) (c4 : Nat) (a6 : OA) (c6 : Nat) (a8 : OA) (c8 : Nat) (r : Bool) (hr : check_good n v1 v3 v5 v7 = some r) : Pure Tryz.prog (.val (.fn (.func 276) [] [])) [(.v (.slice a2 ((Dc.encL v1).length) c2)), (.v (.slice a4 ((Mt.encL v3).length) c4)), (.v (.slice a6 ((Tm.encL v5).length) c6)), (.v (.slice a8 ((Tm.encL v7).length) c8))] [(.slice a2 ((Dc.encL v1).length) c2, .sl 6 (Dc.encL v1)), (.slice a4 ((Mt.encL v3).length) c4, .sl 10 (Mt.encL v3)), (.slice a6 ((Tm.encL v5).length) c6, .sl 4 (Tm.encL v5)), (.slice a8 ((Tm.encL v7).length) c8, .sl 4 (Tm.encL v7))] (fun r' out => r' = (.v (.bool r)) ∧ out = []) := by
 rcases n with _ | n
 ·exact qe hr
 rw [check_good.eq_2] at hr
 refine qb (N := 52) (m := 0) (dt := fun _ => none) [] ttOK Tryz.func276 rfl Tryz.call276 Tryz.ntmps276 rfl rfl rfl mixed (by kernel_rfl) ?_
 obtain ⟨v9, h10, hr⟩ := bind_some hr
 refine (qe4 n v1 a2 c2 _ h10).atR [0] rfl rfl rfl ?_
 rintro _ _ ⟨rfl, rfl⟩
 refine AtIf.mk (fun h11 => ?_) (fun h11 => ?_)
 ·replace hr := qg h11 hr
  replace hr := Option.some.inj hr
  subst hr
  exact qa [] [] rfl rfl ⟨rfl, rfl⟩
 ·replace hr := qf h11 hr
  refine AtLoop.mk ⟨Nat × Int, fun x => [(2, (.v (.slice a6 ((Tm.encL v5).length) c6))), (3, (.v (.slice a8 ((Tm.encL v7).length) c8))), (26, (.v (.slice a4 ((Mt.encL v3).length) c4))), (27, (.v (.int .i64 ((Mt.encL v3).length : Int)))), (28, (.v (.int .i64 x.2)))], fun x => ⟨[], [], [(.slice a2 ((Dc.encL v1).length) c2, .sl 6 (Dc.encL v1)), (.slice a4 ((Mt.encL v3).length) c4, .sl 10 (Mt.encL v3)), (.slice a6 ((Tm.encL v5).length) c6, .sl 4 (Tm.encL v5)), (.slice a8 ((Tm.encL v7).length) c8, .sl 4 (Tm.encL v7))]⟩, fun x => check_good_L1 x.1 v3 v5 v7 x.2 = some r, fun x => x.1, (n, 0), hr, ⟨rfl, rfl, rfl, rfl, rfl, trivial⟩, (StLe.gen 0 [] [.old 0, .old 1, .old 2, .old 3] rfl rfl rfl rfl rfl rfl rfl), fun x _ => ⟨rfl, rfl⟩, ?_⟩
  rintro ⟨n, v12⟩ HH
  have hr : check_good_L1 n v3 v5 v7 v12 = some r := HH
  rcases n with _ | n
  ·exact qe hr
  rw [check_good_L1.eq_2] at hr
  refine AtIf.mk (fun h13 => ?_) (fun h13 => ?_)
  ·replace hr := qg h13 hr
   obtain ⟨v14, h15, hr⟩ := bind_some hr
   obtain ⟨h16, h17⟩ := qi h15
   refine qh ttOK 1 rfl rfl rfl rfl h16 (Mt.encL_get h17) ?_
   intro a18 c18 _ _ a19 c19 _ _
   refine (free0 v14.cls a18 c18).atR [4] rfl rfl rfl ?_
   rintro _ _ ⟨a20, c20, rfl, rfl⟩
   refine AtIf.mk (fun h21 => ?_) (fun h21 => ?_)
   ·replace hr := qg h21 hr
    replace hr := Option.some.inj hr
    subst hr
    exact qa [] [] rfl rfl ⟨rfl, rfl⟩
   ·replace hr := qf h21 hr
    exact ⟨(n, (IntKind.i64.wrap (v12 + 1))), hr, Nat.lt_succ_self _, ⟨rfl, rfl, rfl, rfl, rfl, trivial⟩, (StLe.gen 0 [] [.old 0, .old 1, .old 2, .old 3] rfl rfl rfl rfl rfl rfl rfl)⟩
  ·replace hr := qf h13 hr
   refine qk (n := 2) ttOK 24 [.sl 4 (Tm.encL v5), .sl 4 (Tm.encL v7)] (ds' := (List.map (fun l => D.sl 4 (Tm.encL l)) ([v5, v7]))) rfl (by kernel_rfl) ⟨⟨rfl, rfl, rfl, (.inl ⟨_, rfl, ql (j := 2) rfl⟩)⟩, ⟨⟨rfl, rfl, rfl, (.inl ⟨_, rfl, ql (j := 3) rfl⟩)⟩, trivial⟩⟩ rfl rfl (by decide) (by decide) ?_
   intro a22
   obtain ⟨h23, hr⟩ := qj hr
   refine (concatT ([v5, v7]) a22 2 (of_decide_eq_true h23)).atR [4] rfl rfl rfl ?_
   rintro _ _ ⟨a24, c24, rfl, rfl⟩
   obtain ⟨v25, h26, hr⟩ := bind_some hr
   refine (qbk n (([v5, v7]).flatten) a24 c24 _ h26).atR [5] rfl rfl rfl ?_
   rintro _ _ ⟨rfl, rfl⟩
   replace hr := Option.some.inj hr
   subst hr
   exact qa [] [] rfl rfl ⟨rfl, rfl⟩
def world_fails : Nat → Int → Option (Bool)
 | 0, _ => none
 | n + 1, v1 =>
  some ((((v1 == 26) || (v1 == 27)) || (v1 == 23)))
theorem qik (n : Nat) (v1 : Int)  (r : Bool) (hr : world_fails n v1 = some r) : Pure Tryz.prog (.val (.fn (.func 219) [] [])) [(.v (.int .i64 v1))] [] (fun r' out => r' = (.v (.bool r)) ∧ out = []) := by
 rcases n with _ | n
 ·exact qe hr
 rw [world_fails.eq_2] at hr
 refine qb (N := 13) (m := 0) (dt := fun _ => none) [] ttOK Tryz.func219 rfl Tryz.call219 Tryz.ntmps219 rfl rfl rfl mixed (by kernel_rfl) ?_
 replace hr := Option.some.inj hr
 subst hr
 exact qa [] [] rfl rfl ⟨rfl, rfl⟩
def subst_Subst : Nat → Tm → Int → Tm → Sm → Option (Tm × Int)
 | 0, _, _, _, _ => none
 | n + 1, v1, v3, v4, v6 =>
  (subst_good n ([v1, v4]) ([v6]) ([v3])).bind (fun v11 =>
  cond (!v11) (
  some ((Tm.mk 0 0 0 ([])), 2)) (
  bindC (subst_work_subst n v1 v3 v4 v6 (SWk.mk 0)) (fun e16 =>
  some ((Tm.mk 0 0 0 ([])), e16)) (fun v14 =>
  some (v14.1, 0))))
theorem qif (n : Nat) (v1 : Tm) (v3 : Int) (v4 : Tm) (v6 : Sm) (a2 : OA) (c2 : Nat) (a5 : OA) (c5 : Nat) (a7 : OA) (c7 : Nat) (r : Tm × Int) (hr : subst_Subst n v1 v3 v4 v6 = some r) : Pure Tryz.prog (.val (.fn (.func 212) [] [])) [(.agg [(.v (.int .i64 v1.op)), (.v (.int .i64 v1.hd)), (.v (.int .i64 v1.n)), (.v (.slice a2 ((Tm.encL v1.args).length) c2))]), (.v (.int .i64 v3)), (.agg [(.v (.int .i64 v4.op)), (.v (.int .i64 v4.hd)), (.v (.int .i64 v4.n)), (.v (.slice a5 ((Tm.encL v4.args).length) c5))]), (.agg [(.v (.slice a7 ((Sm.encL v6.args).length) c7)), (.v (.int .i64 v6.con))])] [(.slice a2 ((Tm.encL v1.args).length) c2, .sl 4 (Tm.encL v1.args)), (.slice a5 ((Tm.encL v4.args).length) c5, .sl 4 (Tm.encL v4.args)), (.slice a7 ((Sm.encL v6.args).length) c7, .sl 2 (Sm.encL v6.args))] (fun r' out => ∃ (b1 : OA) (d1 : Nat), r' = (.tup [(.agg [(.v (.int .i64 r.1.op)), (.v (.int .i64 r.1.hd)), (.v (.int .i64 r.1.n)), (.v (.slice b1 ((Tm.encL r.1.args).length) d1))]), (.v (.int .i64 r.2))]) ∧ out = [(.slice b1 ((Tm.encL r.1.args).length) d1, .sl 4 (Tm.encL r.1.args))]) := by
 rcases n with _ | n
 ·exact qe hr
 rw [subst_Subst.eq_2] at hr
 refine qiu (N := 29) (m := 0) (dt := fun _ => none) [(8, (.loc 3 0)), (9, (.loc 4 0))] 5 [] ttOK Tryz.func212 rfl Tryz.call212 Tryz.ntmps212 rfl rfl rfl mixed (by kernel_rfl) (by kernel_rfl) (by kernel_rfl) (by kernel_rfl) (by kernel_rfl) (by kernel_rfl) rfl rfl rfl Tryz.call285 2 quietS ?_
 refine qk (n := 2) ttOK 48 [.agg [.int .i64 v1.op, .int .i64 v1.hd, .int .i64 v1.n, .sl 4 (Tm.encL v1.args)], .agg [.int .i64 v4.op, .int .i64 v4.hd, .int .i64 v4.n, .sl 4 (Tm.encL v4.args)]] (ds' := (Tm.encL ([v1, v4]))) rfl (by kernel_rfl) ⟨⟨rfl, rfl, rfl, ⟨[(.v (.int .i64 v1.op))], _, rfl, rfl, ⟨[(.v (.int .i64 v1.hd))], _, rfl, rfl, ⟨[(.v (.int .i64 v1.n))], _, rfl, rfl, ⟨[(.v (.slice a2 ((Tm.encL v1.args).length) c2))], _, rfl, (.inl ⟨_, rfl, ql (j := 0) rfl⟩), rfl⟩⟩⟩⟩⟩, ⟨⟨rfl, rfl, rfl, ⟨[(.v (.int .i64 v4.op))], _, rfl, rfl, ⟨[(.v (.int .i64 v4.hd))], _, rfl, rfl, ⟨[(.v (.int .i64 v4.n))], _, rfl, rfl, ⟨[(.v (.slice a5 ((Tm.encL v4.args).length) c5))], _, rfl, (.inl ⟨_, rfl, ql (j := 1) rfl⟩), rfl⟩⟩⟩⟩⟩, trivial⟩⟩ rfl (by simp only [Tm.encL_eq, List.map_cons, List.map_nil, Tm.enc_eq] <;> rfl) (by decide) (by decide) ?_
 intro a8
 refine qk (n := 1) ttOK 32 [.agg [.sl 2 (Sm.encL v6.args), .int .i64 v6.con]] (ds' := (Sm.encL ([v6]))) rfl (by kernel_rfl) ⟨⟨rfl, rfl, rfl, ⟨[(.v (.slice a7 ((Sm.encL v6.args).length) c7))], _, rfl, (.inl ⟨_, rfl, ql (j := 2) rfl⟩), ⟨[(.v (.int .i64 v6.con))], _, rfl, rfl, rfl⟩⟩⟩, trivial⟩ rfl (by simp only [Sm.encL_eq, List.map_cons, List.map_nil, Sm.enc_eq] <;> rfl) (by decide) (by decide) ?_
 intro a9
 refine qk (n := 1) ttOK 8 [.int .i64 v3] (ds' := (List.map (D.int .i64) ([v3]))) rfl (by kernel_rfl) ⟨⟨rfl, rfl, rfl, rfl⟩, trivial⟩ rfl rfl (by decide) (by decide) ?_
 intro a10
 obtain ⟨v11, h12, hr⟩ := bind_some hr
 refine (qjz n ([v1, v4]) ([v6]) ([v3]) a8 2 a9 1 a10 1 _ h12).atR [3, 4, 5] rfl rfl rfl ?_
 rintro _ _ ⟨rfl, rfl⟩
 refine AtIf.mk (fun h13 => ?_) (fun h13 => ?_)
 ·replace hr := qg h13 hr
  replace hr := Option.some.inj hr
  subst hr
  exact qa [.nil 4] [(.slice none 0 0, .sl 4 [])] rfl rfl ⟨none, 0, rfl, rfl⟩
 ·replace hr := qf h13 hr
  refine ⟨[(.loc 3 0), (.loc 4 0)], rfl, rfl, rfl, rfl, ⟨rfl, rfl, trivial⟩, ?_⟩
  rcases qhm hr with ⟨e16, h15, hr⟩ | ⟨v14, h15, hr⟩
  ·
   refine (qco n v1 v3 v4 v6 (SWk.mk 0) a2 c2 a5 c5 a7 c7 _ h15).frameRA [5] [] [0, 1, 2] rfl rfl rfl rfl rfl rfl rfl rfl rfl ?_
   rintro _ _ ⟨rfl, rfl⟩
   refine ⟨rfl, [.lost], rfl, ?_⟩
   refine ⟨rfl, ?_⟩
   refine qcy (N := 20) (m := 6) (d := 7) (dt := drawsOf [(7, .node [0, 1, 2, 3, 4, 5] [(6, .node [7] [(8, .leaf [])])], [8], [])]) [] ttOK Tryz.func285 rfl Tryz.ntmps285 rfl rfl rfl mixed (by kernel_rfl) (by kernel_rfl) rfl rfl (fun ev w => rfl) rfl rfl ?_
   refine qc0 (ms := #[]) (by kernel_rfl) ?_
   refine AtIf.mk (fun h => ff h) (fun _ => ?_)
   refine qd1 Tryz.underlying405 rfl ?_
   refine AtIf.mk (fun _ => ?_) (fun h => tf h)
   refine ⟨fun _ _ h => h, ?_⟩
   refine AtRet.gen _ (StLe.refl _) rfl rfl ?_
   replace hr := Option.some.inj hr
   subst hr
   exact qa [.nil 4] [(.slice none 0 0, .sl 4 [])] rfl rfl ⟨none, 0, rfl, rfl⟩
  ·
   refine (qco n v1 v3 v4 v6 (SWk.mk 0) a2 c2 a5 c5 a7 c7 _ h15).frameRA [5] [] [0, 1, 2] rfl rfl rfl rfl rfl rfl rfl rfl rfl ?_
   rintro _ _ ⟨a18, c18, rfl, rfl⟩
   refine ⟨rfl, [.cells 359 [(.v (.int .i64 v14.2.steps))]], rfl, ?_⟩
   replace hr := Option.some.inj hr
   subst hr
   exact qa [.old 6] [(.slice a18 ((Tm.encL v14.1.args).length) c18, .sl 4 (Tm.encL v14.1.args))] rfl rfl ⟨a18, c18, rfl, rfl⟩
mutual
def world_put : Nat → Tm → (List Tm) → (List Tm) → Int → Option (Tm × Int)
 | 0, _, _, _, _ => none
 | n + 1, v1, v3, v5, v7 =>
  world_put_L1 n v5 v3 v7 v1 (IntKind.i64.wrap (((Tm.encL v5).length : Int) - 1))
def world_put_L1 : Nat → (List Tm) → (List Tm) → Int → Tm → Int → Option (Tm × Int)
 | 0, _, _, _, _, _ => none
 | n + 1, v5, v3, v7, v8, v10 =>
  cond (decide (v10 ≥ 0)) (
  (idx v5 v10).bind (fun v12 =>
  (idx v3 v10).bind (fun v17 =>
  (term_Simple n v17).bind (fun v22 =>
  cond (v22.2 != 0) (
  some (v8, v22.2)) (
  (term_Shift n v12 v10 0).bind (fun v26 =>
  cond (v26.2 != 0) (
  some (v8, v26.2)) (
  (subst_Subst n v8 v7 v26.1 v22.1).bind (fun v30 =>
  cond (v30.2 != 0) (
  some (v30.1, v30.2)) (
  world_put_L1 n v5 v3 v7 v30.1 (IntKind.i64.wrap (v10 - 1))))))))))) (
  some (v8, 0))
 end
theorem qft (n : Nat) (v1 : Tm) (v3 : (List Tm)) (v5 : (List Tm)) (v7 : Int) (a2 : OA) (c2 : Nat) (a4 : OA) (c4 : Nat) (a6 : OA) (c6 : Nat) (r : Tm × Int) (hr : world_put n v1 v3 v5 v7 = some r) : Pure Tryz.prog (.val (.fn (.func 133) [] [])) [(.agg [(.v (.int .i64 v1.op)), (.v (.int .i64 v1.hd)), (.v (.int .i64 v1.n)), (.v (.slice a2 ((Tm.encL v1.args).length) c2))]), (.v (.slice a4 ((Tm.encL v3).length) c4)), (.v (.slice a6 ((Tm.encL v5).length) c6)), (.v (.int .i64 v7))] [(.slice a2 ((Tm.encL v1.args).length) c2, .sl 4 (Tm.encL v1.args)), (.slice a4 ((Tm.encL v3).length) c4, .sl 4 (Tm.encL v3)), (.slice a6 ((Tm.encL v5).length) c6, .sl 4 (Tm.encL v5))] (fun r' out => ∃ (b1 : OA) (d1 : Nat), r' = (.tup [(.agg [(.v (.int .i64 r.1.op)), (.v (.int .i64 r.1.hd)), (.v (.int .i64 r.1.n)), (.v (.slice b1 ((Tm.encL r.1.args).length) d1))]), (.v (.int .i64 r.2))]) ∧ out = [(.slice b1 ((Tm.encL r.1.args).length) d1, .sl 4 (Tm.encL r.1.args))]) := by
 rcases n with _ | n
 ·exact qe hr
 rw [world_put.eq_2] at hr
 refine qb (N := 53) (m := 0) (dt := fun _ => none) [] ttOK Tryz.func133 rfl Tryz.call133 Tryz.ntmps133 rfl rfl rfl mixed (by kernel_rfl) ?_
 refine qb (N := 4) (m := 5) (dt := fun _ => none) [] ttOK Tryz.func209 rfl Tryz.call209 Tryz.ntmps209 rfl rfl rfl mixed (by kernel_rfl) ?_
 refine AtRet.gen _ (StLe.refl _) rfl rfl ?_
 refine AtRange.mk ⟨[(4, (.loc 0 0)), (5, (.loc 1 0)), (7, (.loc 2 0)), (8, (.loc 3 0)), (9, (.loc 4 0))], ⟨rfl, rfl, rfl, rfl, rfl, trivial⟩, rfl, rfl, ⟨_, _, _, rfl, Tryz.call280⟩, ?_⟩
 refine qb (N := 19) (m := 7) (dt := fun _ => none) [] ttOK Tryz.func280 rfl Tryz.call280 Tryz.ntmps280 rfl rfl rfl mixed (by kernel_rfl) ?_
 refine AtLoop.mk ⟨Nat × Tm × Option Addr × Nat × Int, fun x => [(0, (.yld 6)), (1, (.loc 5 0)), (3, (.v (.int .i64 x.2.2.2.2)))], fun x => ⟨[.cells 41 [(.v (.int .i64 x.2.1.op)), (.v (.int .i64 x.2.1.hd)), (.v (.int .i64 x.2.1.n)), (.v (.slice x.2.2.1 ((Tm.encL x.2.1.args).length) x.2.2.2.1))], .cells 39 [(.v (.slice a4 ((Tm.encL v3).length) c4))], .cells 3 [(.v (.int .i64 v7))], .cells 41 [(.v (.int .i64 0)), (.v (.int .i64 0)), (.v (.int .i64 0)), (.v (.slice none 0 0))], .cells 29 [(.v (.int .i64 0))], .cells 39 [(.v (.slice a6 ((Tm.encL v5).length) c6))], .lp ⟨53, [(4, (.loc 0 0)), (5, (.loc 1 0)), (7, (.loc 2 0)), (8, (.loc 3 0)), (9, (.loc 4 0))], #[16, 17], rfAs Tryz.f133, rfBody Tryz.f133, .ready, none, exF Tryz.prog⟩], [], [(.slice x.2.2.1 ((Tm.encL x.2.1.args).length) x.2.2.2.1, .sl 4 (Tm.encL x.2.1.args)), (.slice a2 ((Tm.encL v1.args).length) c2, .sl 4 (Tm.encL v1.args)), (.slice a4 ((Tm.encL v3).length) c4, .sl 4 (Tm.encL v3)), (.slice a6 ((Tm.encL v5).length) c6, .sl 4 (Tm.encL v5))]⟩, fun x => world_put_L1 x.1 v5 v3 v7 x.2.1 x.2.2.2.2 = some r, fun x => x.1, (n, v1, a2, c2, (IntKind.i64.wrap (((Tm.encL v5).length : Int) - 1))), hr, ⟨rfl, rfl, rfl, trivial⟩, (StLe.gen 7 [] [.old 0, .old 0, .old 1, .old 2] rfl rfl rfl rfl rfl rfl rfl), fun x _ => ⟨rfl, rfl⟩, ?_⟩
 rintro ⟨n, v8, a9, c9, v10⟩ HH
 have hr : world_put_L1 n v5 v3 v7 v8 v10 = some r := HH
 rcases n with _ | n
 ·exact qe hr
 rw [world_put_L1.eq_2] at hr
 refine AtIf.mk (fun h11 => ?_) (fun h11 => ?_)
 ·replace hr := qg h11 hr
  obtain ⟨v12, h13, hr⟩ := bind_some hr
  obtain ⟨h14, h15⟩ := qi h13
  refine qh ttOK 3 rfl rfl rfl rfl h14 (Tm.encL_get h15) ?_
  intro a16 c16 _ _
  refine qcv (N := 53) (m := 8) (dt := fun _ => none) [] ttOK rfl rfl rfl rfl rfl rfl mixed (by kernel_rfl) (by kernel_rfl) ?_
  obtain ⟨v17, h18, hr⟩ := bind_some hr
  obtain ⟨h19, h20⟩ := qi h18
  refine qh ttOK 2 rfl rfl rfl rfl h19 (Tm.encL_get h20) ?_
  intro a21 c21 _ _
  obtain ⟨v22, h23, hr⟩ := bind_some hr
  refine (qis n v17 a21 c21 _ h23).atR [5] rfl rfl rfl ?_
  rintro _ _ ⟨a24, c24, rfl, rfl⟩
  refine AtIf.mk (fun h25 => ?_) (fun h25 => ?_)
  ·replace hr := qg h25 hr
   refine AtRet.gen _ (StLe.refl _) rfl rfl ?_
   refine AtIf.mk (fun _ => ?_) (fun h => tf h)
   refine AtRet.gen _ (StLe.refl _) rfl rfl ?_
   replace hr := Option.some.inj hr
   subst hr
   exact qa [.old 0] [(.slice a9 ((Tm.encL v8.args).length) c9, .sl 4 (Tm.encL v8.args))] rfl rfl ⟨a9, c9, rfl, rfl⟩
  ·replace hr := qf h25 hr
   obtain ⟨v26, h27, hr⟩ := bind_some hr
   refine (qb4 n v12 v10 0 a16 c16 _ h27).atR [4] rfl rfl rfl ?_
   rintro _ _ ⟨a28, c28, rfl, rfl⟩
   refine AtIf.mk (fun h29 => ?_) (fun h29 => ?_)
   ·replace hr := qg h29 hr
    refine AtRet.gen _ (StLe.refl _) rfl rfl ?_
    refine AtIf.mk (fun _ => ?_) (fun h => tf h)
    refine AtRet.gen _ (StLe.refl _) rfl rfl ?_
    replace hr := Option.some.inj hr
    subst hr
    exact qa [.old 0] [(.slice a9 ((Tm.encL v8.args).length) c9, .sl 4 (Tm.encL v8.args))] rfl rfl ⟨a9, c9, rfl, rfl⟩
   ·replace hr := qf h29 hr
    obtain ⟨v30, h31, hr⟩ := bind_some hr
    refine (qif n v8 v7 v26.1 v22.1 a9 c9 a28 c28 a24 c24 _ h31).atR [0, 7, 6] rfl rfl rfl ?_
    rintro _ _ ⟨a32, c32, rfl, rfl⟩
    refine AtIf.mk (fun h33 => ?_) (fun h33 => ?_)
    ·replace hr := qg h33 hr
     refine AtRet.gen _ (StLe.refl _) rfl rfl ?_
     refine AtIf.mk (fun _ => ?_) (fun h => tf h)
     refine AtRet.gen _ (StLe.refl _) rfl rfl ?_
     replace hr := Option.some.inj hr
     subst hr
     exact qa [.old 8] [(.slice a32 ((Tm.encL v30.1.args).length) c32, .sl 4 (Tm.encL v30.1.args))] rfl rfl ⟨a32, c32, rfl, rfl⟩
    ·replace hr := qf h33 hr
     refine AtRet.gen _ (StLe.refl _) rfl rfl ?_
     refine AtIf.mk (fun h => ff h) (fun _ => ?_)
     exact ⟨(n, v30.1, a32, c32, (IntKind.i64.wrap (v10 - 1))), hr, Nat.lt_succ_self _, ⟨rfl, rfl, rfl, trivial⟩, (StLe.gen 7 [] [.old 8, .old 1, .old 2, .old 3] rfl rfl rfl rfl rfl rfl rfl)⟩
 ·replace hr := qf h11 hr
  refine AtRet.gen _ (StLe.refl _) rfl rfl ?_
  replace hr := Option.some.inj hr
  subst hr
  exact qa [.old 0] [(.slice a9 ((Tm.encL v8.args).length) c9, .sl 4 (Tm.encL v8.args))] rfl rfl ⟨a9, c9, rfl, rfl⟩
end

section
open Go.Tr Go Go.Proofs.Tryz
set_option maxRecDepth 100000
def md1F (r : Pb × Int) : Int := if r.2 ≠ 0 then r.2 else if r.1.left.length > 0 then 33 else 0
def m1F (r : Pb × Int) : Int := if md1F r = 26 ∨ md1F r = 27 ∨ md1F r = 23 then 33 else md1F r
abbrev dsR (sig : List Dc) (a : OA) (c : Nat) : Value × D := (.slice a (Dc.encL sig).length c, .sl 6 (Dc.encL sig))
abbrev tsR (l : List Tm) (a : OA) (c : Nat) : Value × D := (.slice a (Tm.encL l).length c, .sl 4 (Tm.encL l))
theorem put_nil (t : Tm) (l : List Tm) (m : Nat) : world_put (m + 2) t l [] 0 = some (t, 0) := by
 rw [world_put.eq_2, world_put_L1.eq_2]
 rfl
set_option maxHeartbeats 4000000 in
theorem matched1 (n : Nat) (sig : List Dc) (ctx : List Tm) (t x : Tm) (a1 : OA) (c1 : Nat) (a2 : OA) (c2 : Nat) (a3 : OA) (c3 : Nat) (a4 : OA) (c4 : Nat) (a5 : OA) (c5 : Nat) (r : Pb × Int) (hl : ctx.length ≤ 29) (hr : unify_Demand n sig ⟨[], []⟩ ctx t x = some r) :
  Pure Tryz.prog (fnS 218) [.v (.slice a1 (Dc.encL sig).length c1), .v (.slice a2 (Tm.encL ctx).length c2), .agg [.v (.slice a3 (Tm.encL ([] : List Tm)).length c3), .v (.slice a4 (Tm.encL [t]).length c4)], .v (.slice a5 (Tm.encL [x]).length c5)] [dsR sig a1 c1, tsR ctx a2 c2, tsR [] a3 c3, tsR [t] a4 c4, tsR [x] a5 c5] (fun r' out => r' = .tup [nilS, iS (md1F r)] ∧ out = []) := by
 have hlc : (Tm.encL ctx).length = ctx.length := Tm.encL_length ctx
 refine qb (N := 157) (m := 0) (dt := drawsOf [(8, .node [0, 1, 2, 3, 4, 5] [(6, .node [7, 8, 9] [(10, .node [] [(11, .leaf [12])])]), (10, .node [] [(6, .node [7, 8, 9] [(11, .leaf [12])])])], [6, 11], []), (24, .node [0, 1, 2, 3, 4, 5, 6, 7] [(8, .node [9, 10, 11] [(12, .node [] [(13, .leaf [14])])]), (12, .node [] [(8, .node [9, 10, 11] [(13, .leaf [14])])])], [8, 13], [])]) [] ttOK Tryz.func218 rfl Tryz.call218 Tryz.ntmps218 rfl rfl rfl mixed (by kernel_rfl) ?_
 refine AtIf.mk (fun h => by simp [Tm.encL_length, Tm.encL, Tm.encL_eq] at h) (fun _ => ?_)
 refine qc1 2 [(0, .v (.slice a1 (Dc.encL sig).length c1)), (1, .v (.slice a2 (Tm.encL ctx).length c2)), (3, .v (.slice a5 (Tm.encL [x]).length c5)), (6, .loc 0 0), (10, .loc 1 0), (11, nilS), (35, .v (.slice a3 (Tm.encL ([] : List Tm)).length c3)), (36, iS 0), (37, iS 0)] _ ⟨rfl, rfl, rfl, rfl, rfl, rfl, rfl, rfl, rfl, trivial⟩ (StLe.refl _) ?_
 refine Unr.mk rfl rfl ?_
 refine AtIf.mk (fun h => by simp [Tm.encL_length, Tm.encL, Tm.encL_eq] at h) (fun _ => ?_)
 refine (cloneT ctx a2 c2 (by omega)).frameRA [] [] [1] rfl rfl rfl rfl rfl rfl rfl rfl rfl ?_
 rintro _ _ ⟨b1, d1, rfl, rfl⟩
 refine ⟨rfl, [], rfl, ?_⟩
 refine qc1 3 [(0, .v (.slice a1 (Dc.encL sig).length c1)), (3, .v (.slice a5 (Tm.encL [x]).length c5)), (6, .loc 0 0), (10, .loc 1 0), (11, nilS), (18, .v (.slice b1 (Tm.encL ctx).length d1)), (77, .v (.slice a4 (Tm.encL [t]).length c4)), (78, iS 1), (79, iS 0)] _ ⟨rfl, rfl, rfl, rfl, rfl, rfl, rfl, rfl, rfl, trivial⟩ (StLe.refl _) ?_
 refine Unr.mk rfl rfl ?_
 refine AtIf.mk (fun _ => ?_) (fun h => by simp [Tm.encL_length, Tm.encL_eq] at h)
 refine qh ttOK 3 rfl rfl rfl rfl (by decide) (Tm.encL_get (l := [t]) (i := 0) rfl) ?_
 intro a6 c6 _ _
 refine Meets.nilRep 4 ?_
 refine (qft 2 t [] [] 0 a6 c6 a3 c3 none 0 (t, 0) (put_nil t [] 0)).atR [6, 3, 0] rfl rfl rfl ?_
 rintro _ _ ⟨a7, c7, rfl, rfl⟩
 refine AtIf.mk (fun h => ff h) (fun _ => ?_)
 refine qh ttOK 5 rfl rfl rfl rfl (by decide) (Tm.encL_get (l := [x]) (i := 0) rfl) ?_
 intro a8 c8 _ _
 refine ⟨?_, ?_⟩
 ·
  refine qlw _ [.old 1, .nil 10, .nil 13, .froz 0, .old 7, .old 8] rfl ?_
  refine (qd3 n sig ⟨[], []⟩ ctx t x a1 c1 none 0 none 0 b1 d1 a7 c7 a8 c8 r hr).frameRA [] [] [0, 1, 2, 3, 4, 5] rfl rfl rfl rfl rfl rfl rfl rfl rfl ?_
  rintro _ _ ⟨_, _, rfl, rfl, _, e1, f1, e2, f2, rfl, rfl⟩
  refine ⟨rfl, [], rfl, ?_⟩
  refine ⟨_, [], _, rfl, rfl, rfl, (fun _ h => by cases h), ?_⟩
  refine ⟨OwnKeptBut.append, ?_⟩
  refine AtIf.mk (fun h => ?_) (fun h => ?_)
  ·have h : r.2 ≠ 0 := by simpa using h
   exact qa [] [] rfl rfl ⟨by rw [show md1F r = r.2 by simp [md1F, h]]; rfl, rfl⟩
  have h : r.2 = 0 := by simpa using h
  refine AtIf.mk (fun h9 => by simp [hlc] at h9; omega) (fun _ => ?_)
  refine qh ttOK 5 rfl rfl rfl rfl (by decide) (Tm.encL_get (l := [x]) (i := 0) rfl) ?_
  intro a9 c9 _ _
  refine qk (n := 1) ttOK 48 [.agg [.int .i64 x.op, .int .i64 x.hd, .int .i64 x.n, .sl 4 (Tm.encL x.args)]] (ds' := (Tm.encL ([x]))) rfl (by kernel_rfl) ⟨⟨rfl, rfl, rfl, ⟨[(.v (.int .i64 x.op))], _, rfl, rfl, ⟨[(.v (.int .i64 x.hd))], _, rfl, rfl, ⟨[(.v (.int .i64 x.n))], _, rfl, rfl, ⟨[(.v (.slice a9 ((Tm.encL x.args).length) c9))], _, rfl, (.inl ⟨_, rfl, ql (j := 9) rfl⟩), rfl⟩⟩⟩⟩⟩, trivial⟩ rfl (by simp only [Tm.encL_eq, List.map_cons, List.map_nil, Tm.enc_eq] <;> rfl) (by decide) (by decide) ?_
  intro a10
  refine qm (ds' := (Tm.encL (ctx ++ [x]))) ttOK 48 0 10 rfl (by kernel_rfl) rfl rfl rfl rfl (by simp only [Tm.encL_eq, List.map_append]) (decide_eq_true (by rw [Tm.encL_length, List.length_append]; simp only [List.length_cons, List.length_nil]; omega)) (by decide) ?_
  intro a11 c11
  refine ⟨2, [(3, .v (.slice a5 (Tm.encL [x]).length c5)), (6, .loc 0 0), (10, .loc 1 0), (11, nilS), (77, .v (.slice a4 (Tm.encL [t]).length c4)), (78, iS 1), (79, iS 1)], _, by decide, ⟨rfl, rfl, rfl, rfl, rfl, rfl, rfl, trivial⟩, StLe.refl _, ?_⟩
  refine Unr.mk rfl rfl ?_
  refine AtIf.mk (fun h => ff h) (fun _ => ?_)
  refine AtIf.mk (fun h9 => ?_) (fun h9 => ?_)
  ·have h9 : r.1.left.length > 0 := by simpa [Qn.encL_length] using h9
   exact qa [] [] rfl rfl ⟨by rw [show md1F r = 33 by simp [md1F, h, h9]], rfl⟩
  have h9 : ¬ r.1.left.length > 0 := by simpa [Qn.encL_length] using h9
  refine qc1 2 [(11, nilS), (134, nilS), (135, iS 0), (136, iS 0)] _ ⟨rfl, rfl, rfl, rfl, trivial⟩ (StLe.refl _) ?_
  refine Unr.mk rfl rfl ?_
  refine AtIf.mk (fun h => ff h) (fun _ => ?_)
  exact qa [] [] rfl rfl ⟨by rw [show md1F r = 0 by simp [md1F, h, h9]], rfl⟩
 ·
  refine ⟨OwnKeptBut.append, ?_⟩
  refine qlw _ [.old 1, .nil 10, .nil 13, .froz 0, .old 7, .old 8] rfl ?_
  refine (qd3 n sig ⟨[], []⟩ ctx t x a1 c1 none 0 none 0 b1 d1 a7 c7 a8 c8 r hr).frameRA [] [] [0, 1, 2, 3, 4, 5] rfl rfl rfl rfl rfl rfl rfl rfl rfl ?_
  rintro _ _ ⟨_, _, rfl, rfl, _, e1, f1, e2, f2, rfl, rfl⟩
  refine ⟨rfl, [], rfl, ?_⟩
  refine ⟨_, [], _, rfl, rfl, rfl, (fun _ h => by cases h), ?_⟩
  refine AtIf.mk (fun h => ?_) (fun h => ?_)
  ·have h : r.2 ≠ 0 := by simpa using h
   exact qa [] [] rfl rfl ⟨by rw [show md1F r = r.2 by simp [md1F, h]]; rfl, rfl⟩
  have h : r.2 = 0 := by simpa using h
  refine AtIf.mk (fun h9 => by simp [hlc] at h9; omega) (fun _ => ?_)
  refine qh ttOK 5 rfl rfl rfl rfl (by decide) (Tm.encL_get (l := [x]) (i := 0) rfl) ?_
  intro a9 c9 _ _
  refine qk (n := 1) ttOK 48 [.agg [.int .i64 x.op, .int .i64 x.hd, .int .i64 x.n, .sl 4 (Tm.encL x.args)]] (ds' := (Tm.encL ([x]))) rfl (by kernel_rfl) ⟨⟨rfl, rfl, rfl, ⟨[(.v (.int .i64 x.op))], _, rfl, rfl, ⟨[(.v (.int .i64 x.hd))], _, rfl, rfl, ⟨[(.v (.int .i64 x.n))], _, rfl, rfl, ⟨[(.v (.slice a9 ((Tm.encL x.args).length) c9))], _, rfl, (.inl ⟨_, rfl, ql (j := 9) rfl⟩), rfl⟩⟩⟩⟩⟩, trivial⟩ rfl (by simp only [Tm.encL_eq, List.map_cons, List.map_nil, Tm.enc_eq] <;> rfl) (by decide) (by decide) ?_
  intro a10
  refine qm (ds' := (Tm.encL (ctx ++ [x]))) ttOK 48 0 10 rfl (by kernel_rfl) rfl rfl rfl rfl (by simp only [Tm.encL_eq, List.map_append]) (decide_eq_true (by rw [Tm.encL_length, List.length_append]; simp only [List.length_cons, List.length_nil]; omega)) (by decide) ?_
  intro a11 c11
  refine ⟨2, [(3, .v (.slice a5 (Tm.encL [x]).length c5)), (6, .loc 0 0), (10, .loc 1 0), (11, nilS), (77, .v (.slice a4 (Tm.encL [t]).length c4)), (78, iS 1), (79, iS 1)], _, by decide, ⟨rfl, rfl, rfl, rfl, rfl, rfl, rfl, trivial⟩, StLe.refl _, ?_⟩
  refine Unr.mk rfl rfl ?_
  refine AtIf.mk (fun h => ff h) (fun _ => ?_)
  refine AtIf.mk (fun h9 => ?_) (fun h9 => ?_)
  ·have h9 : r.1.left.length > 0 := by simpa [Qn.encL_length] using h9
   exact qa [] [] rfl rfl ⟨by rw [show md1F r = 33 by simp [md1F, h, h9]], rfl⟩
  have h9 : ¬ r.1.left.length > 0 := by simpa [Qn.encL_length] using h9
  refine qc1 2 [(11, nilS), (134, nilS), (135, iS 0), (136, iS 0)] _ ⟨rfl, rfl, rfl, rfl, trivial⟩ (StLe.refl _) ?_
  refine Unr.mk rfl rfl ?_
  refine AtIf.mk (fun h => ff h) (fun _ => ?_)
  exact qa [] [] rfl rfl ⟨by rw [show md1F r = 0 by simp [md1F, h, h9]], rfl⟩
def wmF (n : Nat) (sig : List Dc) (ctx : List Tm) (b : Bk) (l : List Tm) : Option Int :=
 match b, l with
 | ⟨[], [t]⟩, [x] => if ctx.length ≤ 29 then (unify_Demand n sig ⟨[], []⟩ ctx t x).map m1F else none
 | _, _ => none
theorem wmF_spec (n : Nat) (sig : List Dc) (ctx : List Tm) (b : Bk) (l : List Tm) (a1 : OA) (c1 : Nat) (a2 : OA) (c2 : Nat) (a3 : OA) (c3 : Nat) (a4 : OA) (c4 : Nat) (a5 : OA) (c5 : Nat) (e : Int) (hr : wmF n sig ctx b l = some e) :
  Pure Tryz.prog (fnS 140) [.v (.slice a1 (Dc.encL sig).length c1), .v (.slice a2 (Tm.encL ctx).length c2), .agg [.v (.slice a3 (Tm.encL b.som).length c3), .v (.slice a4 (Tm.encL b.lst).length c4)], .v (.slice a5 (Tm.encL l).length c5)] [dsR sig a1 c1, tsR ctx a2 c2, tsR b.som a3 c3, tsR b.lst a4 c4, tsR l a5 c5] (fun r' out => r' = .tup [nilS, iS e] ∧ out = []) := by
 unfold wmF at hr
 split at hr
 case h_2 => cases hr
 rename_i t x
 split at hr
 case isFalse => cases hr
 rename_i hl
 obtain ⟨r, hr, he⟩ := Option.map_eq_some_iff.1 hr
 simp only
 refine qb (N := 26) (m := 0) (dt := fun _ => none) [] ttOK Tryz.func140 rfl Tryz.call140 Tryz.ntmps140 rfl rfl rfl mixed (by kernel_rfl) ?_
 refine (matched1 n sig ctx t x a1 c1 a2 c2 a3 c3 a4 c4 a5 c5 r hl hr).atR [0, 1, 2, 3, 4] rfl rfl rfl ?_
 rintro _ _ ⟨rfl, rfl⟩
 refine (qik 1 (md1F r) _ rfl).atR [] rfl rfl rfl ?_
 rintro _ _ ⟨rfl, rfl⟩
 refine AtIf.mk (fun h => ?_) (fun h => ?_)
 ·have h : (md1F r = 26 ∨ md1F r = 27) ∨ md1F r = 23 := by simpa using h
  have h2 : m1F r = 33 := by unfold m1F; rw [if_pos (by rcases h with (h | h) | h <;> simp [h])]
  refine AtIf.mk (fun _ => ?_) (fun h => tf h)
  exact qa [] [] rfl rfl ⟨by rw [← he, h2], rfl⟩
 ·have h : ¬ ((md1F r = 26 ∨ md1F r = 27) ∨ md1F r = 23) := by simpa using h
  have h2 : m1F r = md1F r := by unfold m1F; rw [if_neg (by rintro (h3 | h3 | h3) <;> simp [h3] at h)]
  refine AtIf.mk (fun h3 => ?_) (fun h3 => ?_)
  ·exact qa [] [] rfl rfl ⟨by rw [← he, h2], rfl⟩
  ·have h3 : md1F r = 0 := by simpa using h3
   exact qa [] [] rfl rfl ⟨by rw [← he, h2, h3], rfl⟩
end

section
open Go.Tr Go Go.Proofs.Tryz
set_option maxRecDepth 100000
theorem qb3 {P : Program} {tt : Tab} (hT : TTOK P tt) {t e ty : TypeId} {k : Nat} {x y : SV} {S : St} {K : SV → St → Prop} {a0 a : Option Addr} {n m c : Nat} {ds es ds' : List D} (bytes j i : Nat) (ht : tt t = some (.slice e k)) (hel : elemB P e k bytes = true)
  (hx : x = .v (.slice a0 n n)) (hr0 : nth S.reps j = some (.slice a0 n n, .sl k ds)) (hy : y = .v (.slice a m c)) (hr : nth S.reps i = some (.slice a m c, .sl k es)) (hes : es ≠ []) (hds : ds' = ds ++ es) (hlen : decide (ds'.length ≤ 1000000) = true) (hb : bytes ≤ 100000000)
  (h : ∀ a' c', addReps S [(.slice a' ds'.length c', .sl k ds')] (fun S' => K (.v (.slice a' ds'.length c')) S')) : AtSem P (fun ℓ => Builtin.append_ #[t, t] ty (qd ℓ [x, y]).toArray) S K := by
 subst hds
 have hlen := of_decide_eq_true hlen
 rw [List.length_append] at hlen h
 refine qle hT bytes j i ht hel hx hr0 hy hr hes ?_ (by omega) h
 exact Nat.le_trans (Nat.mul_le_mul hlen hb) (by decide)
def lkB : Option Value → Option Bool
 | none => some false
 | some (.bool b) => some b
 | _ => none
theorem lkB_bool {v : Value} {b : Bool} (h : lkB (some v) = some b) : v = .bool b := by
 cases v <;> simp_all [lkB]
theorem at_lookupB {P : Program} {tt : Tab} (hT : TTOK P tt) {t k e : TypeId} {q : IntKind} {x ix : SV} {S : St} {K : SV → St → Prop} {i : Nat} {n : Int} {l : List (Int × Value)} {b : Bool} (ht : tt t = some (.map k e)) (hk : P.underlying k = some (.int q)) (hz : ∀ w, (zeroValue e).run P w = .ok (.bool false) w)
  (hx : x = .mp i) (hi : nth S.own i = some (.obj (mapO q l))) (hix : ix = .v (.int q n)) (hb : lkB (lookM l n) = some b) (h : K (.v (.bool b)) S) : AtSem P (fun ℓ => Instr.lookup t (x.den ℓ) (ix.den ℓ) false) S K := by
 refine at_lookup hT (.bool false) ht hk hz hx hi hix (fun v hv => ?_) (fun hv => ?_)
 ·rw [hv] at hb
  obtain rfl := lkB_bool hb
  simpa using h
 ·rw [hv] at hb
  cases hb
  simpa using h
mutual
def cutF : Nat → List Dc → List Bk → List Tm → List Tm → List Int → List (Int × Value) → Option (Option (List Int) × List (Int × Value))
 | 0, _, _, _, _, _, _ => none
 | n + 1, sig, w, ctx, l, bef, h =>
  if l.length = 0 then some (some bef, h) else
  (lkB (lookM h l.length)).bind fun b => if b = true then some (none, h) else cutL n sig w ctx l bef h 0
def cutL : Nat → List Dc → List Bk → List Tm → List Tm → List Int → List (Int × Value) → Int → Option (Option (List Int) × List (Int × Value))
 | 0, _, _, _, _, _, _, _ => none
 | n + 1, sig, w, ctx, l, bef, h, i =>
  if i < w.length then
   (idx w i).bind fun b =>
    if b.lst.length = 0 ∨ l.length < b.lst.length then cutL n sig w ctx l bef h (IntKind.i64.wrap (i + 1)) else
    (wmF n sig ctx b (l.take b.lst.length)).bind fun e =>
     if e = 33 then cutL n sig w ctx l bef h (IntKind.i64.wrap (i + 1)) else
     if e ≠ 0 then none else
     (qc3 n [ctx, l.take b.lst.length]).bind fun ctx' =>
     if 900000 < bef.length then none else
     (cutF n sig w ctx' (l.drop b.lst.length) (bef ++ [i]) h).bind fun r =>
      match r with
      | (some out, h') => some (some out, h')
      | (none, h') => cutL n sig w ctx l bef h' (IntKind.i64.wrap (i + 1))
  else some (none, putAt l.length (.bool true) h)
end
abbrev bsR (w : List Bk) (a : OA) (c : Nat) : Value × D := (.slice a (Bk.encL w).length c, .sl 2 (Bk.encL w))
abbrev isR (l : List Int) (a : OA) (c : Nat) : Value × D := (.slice a (List.map (D.int .i64) l).length c, .sl 1 (List.map (D.int .i64) l))
noncomputable abbrev lpW (st : LoopState) (pd : Option Code) : Blk := .lp ⟨29, [(8, .loc 8 0), (10, .loc 9 0)], #[24], rfAs Tryz.f138, rfBody Tryz.f138, st, pd, exF Tryz.prog⟩
noncomputable abbrev own10 (sig : List Dc) (a1 : OA) (c1 : Nat) (w : List Bk) (a2 : OA) (c2 : Nat) (h : List (Int × Value)) (st : LoopState) (pd : Option Code) (f : Int) (o : SV) (d : Bool) : List Blk :=
 [.cells 3 [iS f], .cells 362 [.yld 7], .cells 363 [.mp 6], .cells 106 [.v (.slice a2 (Bk.encL w).length c2)], .cells 22 [.v (.slice a1 (Dc.encL sig).length c1)],
  .cells 364 [.fn (.func 293) [] [.loc 0 0, .loc 1 0, .loc 2 0, .loc 3 0, .loc 4 0, .loc 5 0]], .obj (mapO .i64 h), lpW st pd, .cells 73 [o], .cells 4 [bS d]]
theorem idxB {w : List Bk} {i : Int} {b : Bk} (h : idx w i = some b) : 0 ≤ i ∧ w[i.toNat]? = some b := qi h
set_option maxHeartbeats 8000000 in
theorem cut_spec : ∀ (N n : Nat), n ≤ N → ∀ (sig : List Dc) (w : List Bk) (ctx l : List Tm) (bef : List Int) (h : List (Int × Value)) (a1 : OA) (c1 : Nat) (a2 : OA) (c2 : Nat) (a3 : OA) (c3 : Nat) (a4 : OA) (c4 : Nat) (a5 : OA) (c5 : Nat) (r : Option (List Int) × List (Int × Value)), cutF n sig w ctx l bef h = some r →
  Meets Tryz.prog (.val (.fn (.func 293) [] [.loc 0 0, .loc 1 0, .loc 2 0, .loc 3 0, .loc 4 0, .loc 5 0])) [.v (.slice a3 (Tm.encL ctx).length c3), .v (.slice a4 (Tm.encL l).length c4), .v (.slice a5 (List.map (D.int .i64) bef).length c5)]
   ⟨own10 sig a1 c1 w a2 c2 h .ready none 0 nilS false, [], [dsR sig a1 c1, bsR w a2 c2, tsR ctx a3 c3, tsR l a4 c4, isR bef a5 c5]⟩
   (fun o S' => match r.1 with
    | some out => ∃ (a : OA) (c : Nat), o = .ret (bS false) ∧ S' = ⟨own10 sig a1 c1 w a2 c2 r.2 .done (some (.exit 0)) 1 (.v (.slice a (List.map (D.int .i64) out).length c)) true, [], [isR out a c]⟩
    | none => o = .ret (bS true) ∧ S' = ⟨own10 sig a1 c1 w a2 c2 r.2 .ready none 0 nilS false, [], []⟩) := by
 intro N
 induction N with
 | zero =>
  intro n hn sig w ctx l bef h a1 c1 a2 c2 a3 c3 a4 c4 a5 c5 r hr
  obtain rfl : n = 0 := by omega
  cases hr
 | succ N ih =>
 intro n hn sig w ctx l bef h a1 c1 a2 c2 a3 c3 a4 c4 a5 c5 r hr
 rcases n with _ | n
 ·cases hr
 have hlT : ∀ l : List Tm, (Tm.encL l).length = l.length := Tm.encL_length
 rw [cutF.eq_2] at hr
 refine qb (N := 91) (m := 10) (dt := drawsOf [(12, .node [0, 1, 2, 3, 4, 5] [(6, .leaf [7, 8, 9, 10, 11])], [6], []), (16, .node [0, 1, 2, 3, 4, 7, 8, 9, 10, 12] [(5, .node [] [(6, .node [] [(11, .node [] [(13, .node [] [(14, .node [] [(15, .leaf [16])])])]), (13, .node [] [(11, .node [] [(14, .node [] [(15, .leaf [16])])])])]), (13, .node [] [(6, .node [] [(11, .node [] [(14, .node [] [(15, .leaf [16])])])])])]), (13, .node [] [(5, .node [] [(6, .node [] [(11, .node [] [(14, .node [] [(15, .leaf [16])])])])])])], [15], [])]) [] ttOK Tryz.func293 rfl Tryz.call293 Tryz.ntmps293 rfl rfl rfl mixed (by kernel_rfl) ?_
 refine AtIf.mk (fun h1 => ?_) (fun h1 => ?_)
 ·have h1 : l.length = 0 := by simpa [hlT] using h1
  rw [if_pos h1] at hr
  cases hr
  refine qcv (N := 29) (m := 10) (dt := fun _ => none) [] ttOK rfl rfl rfl rfl rfl rfl mixed (by kernel_rfl) (by kernel_rfl) ?_
  refine AtRet.gen _ (StLe.refl _) rfl rfl ?_
  exact AtRet.gen ⟨own10 sig a1 c1 w a2 c2 h .done (some (.exit 0)) 1 (.v (.slice a5 (List.map (D.int .i64) bef).length c5)) true, [], [isR bef a5 c5]⟩ (StLe.gen 10 [] [.old 4] rfl rfl rfl rfl rfl rfl rfl) rfl rfl ⟨a5, c5, rfl, rfl⟩
 have h1 : ¬ l.length = 0 := by simpa [hlT] using h1
 rw [if_neg h1] at hr
 obtain ⟨b, hb, hr⟩ := bind_some hr
 have hlB : ∀ l : List Bk, (Bk.encL l).length = l.length := Bk.encL_length
 refine at_lookupB ttOK rfl Tryz.underlying3 Tryz.zeroValue4 rfl rfl rfl (by rw [hlT l]; exact hb) ?_
 refine AtIf.mk (fun hb => ?_) (fun hb => ?_)
 ·rw [if_pos hb] at hr
  cases hr
  exact AtRet.gen ⟨own10 sig a1 c1 w a2 c2 h .ready none 0 nilS false, [], []⟩ (StLe.gen 10 [] [] rfl rfl rfl rfl rfl rfl rfl) rfl rfl ⟨rfl, rfl⟩
 rw [if_neg (by rw [hb]; simp)] at hr
 refine AtLoop.mk ⟨Nat × Int × List (Int × Value), fun x => [(0, .v (.slice a3 (Tm.encL ctx).length c3)), (1, .v (.slice a4 (Tm.encL l).length c4)), (2, .v (.slice a5 (List.map (D.int .i64) bef).length c5)), (3, .loc 0 0), (4, .loc 1 0), (5, .loc 2 0), (6, .loc 3 0), (7, .loc 4 0), (8, .loc 5 0), (13, iS 0), (32, .v (.slice a2 (Bk.encL w).length c2)), (33, iS ((Bk.encL w).length : Int)), (34, iS x.2.1)], fun x => ⟨own10 sig a1 c1 w a2 c2 x.2.2 .ready none 0 nilS false, [], [dsR sig a1 c1, bsR w a2 c2, tsR ctx a3 c3, tsR l a4 c4, isR bef a5 c5]⟩, fun x => x.1 ≤ N ∧ cutL x.1 sig w ctx l bef x.2.2 x.2.1 = some r, fun x => x.1, (n, 0, h), ⟨by omega, hr⟩, ⟨rfl, rfl, rfl, rfl, rfl, rfl, rfl, rfl, rfl, rfl, rfl, rfl, rfl, trivial⟩, (StLe.gen 10 [] [.old 0, .old 1, .old 2, .old 3, .old 4] rfl rfl rfl rfl rfl rfl rfl), fun x _ => ⟨rfl, rfl⟩, ?_⟩
 rintro ⟨k, i, h⟩ ⟨hk, hr⟩
 simp only at hk hr
 rcases k with _ | k
 ·cases hr
 rw [cutL.eq_2] at hr
 refine AtIf.mk (fun h2 => ?_) (fun h2 => ?_)
 ·have h2 : i < (w.length : Int) := by simpa [hlB] using h2
  rw [if_pos h2] at hr
  obtain ⟨b, hb, hr⟩ := bind_some hr
  obtain ⟨hb0, hb1⟩ := qi hb
  refine qh ttOK 1 rfl rfl rfl rfl hb0 (Bk.encL_get hb1) ?_
  intro a6 c6 _ _ a7 c7 _ _
  refine AtIf.mk (fun h3 => ?_) (fun h3 => ?_)
  ·have h3 : b.lst.length = 0 ∨ l.length < b.lst.length := by simpa [hlT] using h3
   rw [if_pos h3] at hr
   exact ⟨(k, IntKind.i64.wrap (i + 1), h), ⟨by omega, hr⟩, Nat.lt_succ_self _, ⟨rfl, rfl, rfl, rfl, rfl, rfl, rfl, rfl, rfl, rfl, rfl, rfl, rfl, trivial⟩, (StLe.gen 10 [] [.old 0, .old 1, .old 2, .old 3, .old 4] rfl rfl rfl rfl rfl rfl rfl)⟩
  have h3 : ¬ (b.lst.length = 0 ∨ l.length < b.lst.length) := by simpa [hlT] using h3
  rw [if_neg h3] at hr
  obtain ⟨e, he, hr⟩ := bind_some hr
  refine qaa ttOK 3 0 ((Tm.encL b.lst).length : Int) (ds' := Tm.encL (l.take b.lst.length)) rfl rfl rfl (.inr ⟨rfl, rfl⟩) (.inl ⟨_, rfl⟩) (decide_eq_true (by rw [hlT, hlT]; omega)) (by rw [hlT]; simp [Tm.encL_eq, List.map_take]) ?_
  intro a8 c8
  refine (wmF_spec k sig ctx b (l.take b.lst.length) a1 c1 a3 c3 a6 c6 a7 c7 a8 c8 e he).atR [0, 2, 5, 6, 7] rfl rfl rfl ?_
  rintro _ _ ⟨rfl, rfl⟩
  refine AtIf.mk (fun h4 => ?_) (fun h4 => ?_)
  ·have h4 : e = 33 := by simpa using h4
   rw [if_pos h4] at hr
   exact ⟨(k, IntKind.i64.wrap (i + 1), h), ⟨by omega, hr⟩, Nat.lt_succ_self _, ⟨rfl, rfl, rfl, rfl, rfl, rfl, rfl, rfl, rfl, rfl, rfl, rfl, rfl, trivial⟩, (StLe.gen 10 [] [.old 0, .old 1, .old 2, .old 3, .old 4] rfl rfl rfl rfl rfl rfl rfl)⟩
  have h4 : ¬ e = 33 := by simpa using h4
  rw [if_neg h4] at hr
  refine AtIf.mk (fun h5 => ?_) (fun h5 => ?_)
  ·have h5 : e ≠ 0 := by simpa using h5
   rw [if_pos h5] at hr
   cases hr
  have h5 : ¬ e ≠ 0 := by simpa using h5
  rw [if_neg h5] at hr
  obtain ⟨ctx', hx, hr⟩ := bind_some hr
  split at hr
  ·cases hr
  rename_i hbl
  obtain ⟨r2, hr2, hr⟩ := bind_some hr
  refine qaa ttOK 3 0 ((Tm.encL b.lst).length : Int) (ds' := Tm.encL (l.take b.lst.length)) rfl rfl rfl (.inr ⟨rfl, rfl⟩) (.inl ⟨_, rfl⟩) (decide_eq_true (by rw [hlT, hlT]; omega)) (by rw [hlT]; simp [Tm.encL_eq, List.map_take]) ?_
  intro a9 c9
  refine qaa ttOK 3 ((Tm.encL b.lst).length : Int) ((Tm.encL l).length : Int) (ds' := Tm.encL (l.drop b.lst.length)) rfl rfl rfl (.inl ⟨_, rfl⟩) (.inr ⟨rfl, rfl⟩) (decide_eq_true (by rw [hlT, hlT]; omega)) (by rw [show ((Tm.encL l).length : Int).toNat = (Tm.encL l).length from by simp, List.take_length, hlT]; simp [Tm.encL_eq, List.map_drop]) ?_
  intro a10 c10
  refine ⟨?_, ?_⟩
  ·
   refine qk (n := 2) ttOK 24 [.sl 4 (Tm.encL ctx), .sl 4 (Tm.encL (l.take b.lst.length))] (ds' := (List.map (fun l => D.sl 4 (Tm.encL l)) ([ctx, l.take b.lst.length]))) rfl (by kernel_rfl) ⟨⟨rfl, rfl, rfl, (.inl ⟨_, rfl, ql (j := 2) rfl⟩)⟩, ⟨⟨rfl, rfl, rfl, (.inl ⟨_, rfl, ql (j := 8) rfl⟩)⟩, trivial⟩⟩ rfl rfl (by decide) (by decide) ?_
   intro a11
   refine ⟨fun _ _ h => h, ?_⟩
   refine ⟨?_, ?_⟩
   ·
    refine (qbn k ([ctx, l.take b.lst.length]) a11 2 _ hx).atR [10] rfl rfl rfl ?_
    rintro _ _ ⟨a12, c12, rfl, rfl⟩
    refine ⟨fun _ _ h => h, ?_⟩
    refine ⟨?_, ?_⟩
    ·
     refine qb (N := 9) (m := 12) (dt := fun _ => none) [] ttOK Tryz.func294 rfl Tryz.call294 Tryz.ntmps294 rfl rfl rfl mixed (by kernel_rfl) ?_
     refine qmq ttOK 4 rfl rfl rfl rfl rfl ?_
     intro a13
     refine AtRet.gen _ (StLe.refl _) rfl rfl ?_
     refine ⟨fun _ _ h => h, ?_⟩
     refine qk (n := 1) ttOK 8 [D.int .i64 i] (ds' := List.map (D.int .i64) [i]) rfl (by kernel_rfl) ⟨⟨rfl, rfl, rfl, rfl⟩, trivial⟩ rfl rfl (by decide) (by decide) ?_
     intro a14
     refine ⟨fun _ _ h => h, ?_⟩
     refine qb3 (ds' := List.map (D.int .i64) (bef ++ [i])) ttOK 8 12 13 rfl (by kernel_rfl) rfl rfl rfl rfl (by simp) (by rw [List.map_append]) (decide_eq_true (by rw [List.length_map, List.length_append]; simp only [List.length_cons, List.length_nil]; omega)) (by decide) ?_
     intro a15 c15
     refine ⟨fun _ _ h => h, ?_⟩
     refine (ih k (by omega) sig w ctx' (l.drop b.lst.length) (bef ++ [i]) h a1 c1 a2 c2 a12 c12 a10 c10 a15 c15 r2 hr2).frameR [0, 1, 2, 3, 4, 5, 6, 7, 8, 9] [0, 1, 11, 9, 14] rfl rfl rfl rfl rfl rfl rfl rfl ?_
     obtain ⟨o2, h2⟩ := r2
     cases o2 with
     | some out =>
      rintro _ _ ⟨a16, c16, rfl, rfl⟩
      refine ⟨rfl, rfl, own10 sig a1 c1 w a2 c2 h2 .done (some (.exit 0)) 1 (.v (.slice a16 (List.map (D.int .i64) out).length c16)) true, rfl, ?_⟩
      refine AtIf.mk (fun _ => ?_) (fun h => tf h)
      cases hr
      exact AtRet.gen ⟨own10 sig a1 c1 w a2 c2 h2 .done (some (.exit 0)) 1 (.v (.slice a16 (List.map (D.int .i64) out).length c16)) true, [], [isR out a16 c16]⟩ (StLe.gen 10 [] [.old 15] rfl rfl rfl rfl rfl rfl rfl) rfl rfl ⟨a16, c16, rfl, rfl⟩
     | none =>
      rintro _ _ ⟨rfl, rfl⟩
      refine ⟨rfl, rfl, own10 sig a1 c1 w a2 c2 h2 .ready none 0 nilS false, rfl, ?_⟩
      refine AtIf.mk (fun h => ff h) (fun _ => ?_)
      exact ⟨(k, IntKind.i64.wrap (i + 1), h2), ⟨by omega, hr⟩, Nat.lt_succ_self _, ⟨rfl, rfl, rfl, rfl, rfl, rfl, rfl, rfl, rfl, rfl, rfl, rfl, rfl, trivial⟩, (StLe.gen 10 [] [.old 0, .old 1, .old 2, .old 3, .old 4] rfl rfl rfl rfl rfl rfl rfl)⟩
    ·
     refine qk (n := 1) ttOK 8 [D.int .i64 i] (ds' := List.map (D.int .i64) [i]) rfl (by kernel_rfl) ⟨⟨rfl, rfl, rfl, rfl⟩, trivial⟩ rfl rfl (by decide) (by decide) ?_
     intro a14
     refine ⟨fun _ _ h => h, ?_⟩
     refine qb (N := 9) (m := 12) (dt := fun _ => none) [] ttOK Tryz.func294 rfl Tryz.call294 Tryz.ntmps294 rfl rfl rfl mixed (by kernel_rfl) ?_
     refine qmq ttOK 4 rfl rfl rfl rfl rfl ?_
     intro a13
     refine AtRet.gen _ (StLe.refl _) rfl rfl ?_
     refine ⟨fun _ _ h => h, ?_⟩
     refine qb3 (ds' := List.map (D.int .i64) (bef ++ [i])) ttOK 8 13 12 rfl (by kernel_rfl) rfl rfl rfl rfl (by simp) (by rw [List.map_append]) (decide_eq_true (by rw [List.length_map, List.length_append]; simp only [List.length_cons, List.length_nil]; omega)) (by decide) ?_
     intro a15 c15
     refine ⟨fun _ _ h => h, ?_⟩
     refine (ih k (by omega) sig w ctx' (l.drop b.lst.length) (bef ++ [i]) h a1 c1 a2 c2 a12 c12 a10 c10 a15 c15 r2 hr2).frameR [0, 1, 2, 3, 4, 5, 6, 7, 8, 9] [0, 1, 11, 9, 14] rfl rfl rfl rfl rfl rfl rfl rfl ?_
     obtain ⟨o2, h2⟩ := r2
     cases o2 with
     | some out =>
      rintro _ _ ⟨a16, c16, rfl, rfl⟩
      refine ⟨rfl, rfl, own10 sig a1 c1 w a2 c2 h2 .done (some (.exit 0)) 1 (.v (.slice a16 (List.map (D.int .i64) out).length c16)) true, rfl, ?_⟩
      refine AtIf.mk (fun _ => ?_) (fun h => tf h)
      cases hr
      exact AtRet.gen ⟨own10 sig a1 c1 w a2 c2 h2 .done (some (.exit 0)) 1 (.v (.slice a16 (List.map (D.int .i64) out).length c16)) true, [], [isR out a16 c16]⟩ (StLe.gen 10 [] [.old 15] rfl rfl rfl rfl rfl rfl rfl) rfl rfl ⟨a16, c16, rfl, rfl⟩
     | none =>
      rintro _ _ ⟨rfl, rfl⟩
      refine ⟨rfl, rfl, own10 sig a1 c1 w a2 c2 h2 .ready none 0 nilS false, rfl, ?_⟩
      refine AtIf.mk (fun h => ff h) (fun _ => ?_)
      exact ⟨(k, IntKind.i64.wrap (i + 1), h2), ⟨by omega, hr⟩, Nat.lt_succ_self _, ⟨rfl, rfl, rfl, rfl, rfl, rfl, rfl, rfl, rfl, rfl, rfl, rfl, rfl, trivial⟩, (StLe.gen 10 [] [.old 0, .old 1, .old 2, .old 3, .old 4] rfl rfl rfl rfl rfl rfl rfl)⟩
   ·
    refine qk (n := 1) ttOK 8 [D.int .i64 i] (ds' := List.map (D.int .i64) [i]) rfl (by kernel_rfl) ⟨⟨rfl, rfl, rfl, rfl⟩, trivial⟩ rfl rfl (by decide) (by decide) ?_
    intro a14
    refine ⟨fun _ _ h => h, ?_⟩
    refine (qbn k ([ctx, l.take b.lst.length]) a11 2 _ hx).atR [10] rfl rfl rfl ?_
    rintro _ _ ⟨a12, c12, rfl, rfl⟩
    refine ⟨fun _ _ h => h, ?_⟩
    refine qb (N := 9) (m := 12) (dt := fun _ => none) [] ttOK Tryz.func294 rfl Tryz.call294 Tryz.ntmps294 rfl rfl rfl mixed (by kernel_rfl) ?_
    refine qmq ttOK 4 rfl rfl rfl rfl rfl ?_
    intro a13
    refine AtRet.gen _ (StLe.refl _) rfl rfl ?_
    refine ⟨fun _ _ h => h, ?_⟩
    refine qb3 (ds' := List.map (D.int .i64) (bef ++ [i])) ttOK 8 13 11 rfl (by kernel_rfl) rfl rfl rfl rfl (by simp) (by rw [List.map_append]) (decide_eq_true (by rw [List.length_map, List.length_append]; simp only [List.length_cons, List.length_nil]; omega)) (by decide) ?_
    intro a15 c15
    refine ⟨fun _ _ h => h, ?_⟩
    refine (ih k (by omega) sig w ctx' (l.drop b.lst.length) (bef ++ [i]) h a1 c1 a2 c2 a12 c12 a10 c10 a15 c15 r2 hr2).frameR [0, 1, 2, 3, 4, 5, 6, 7, 8, 9] [0, 1, 12, 9, 14] rfl rfl rfl rfl rfl rfl rfl rfl ?_
    obtain ⟨o2, h2⟩ := r2
    cases o2 with
    | some out =>
     rintro _ _ ⟨a16, c16, rfl, rfl⟩
     refine ⟨rfl, rfl, own10 sig a1 c1 w a2 c2 h2 .done (some (.exit 0)) 1 (.v (.slice a16 (List.map (D.int .i64) out).length c16)) true, rfl, ?_⟩
     refine AtIf.mk (fun _ => ?_) (fun h => tf h)
     cases hr
     exact AtRet.gen ⟨own10 sig a1 c1 w a2 c2 h2 .done (some (.exit 0)) 1 (.v (.slice a16 (List.map (D.int .i64) out).length c16)) true, [], [isR out a16 c16]⟩ (StLe.gen 10 [] [.old 15] rfl rfl rfl rfl rfl rfl rfl) rfl rfl ⟨a16, c16, rfl, rfl⟩
    | none =>
     rintro _ _ ⟨rfl, rfl⟩
     refine ⟨rfl, rfl, own10 sig a1 c1 w a2 c2 h2 .ready none 0 nilS false, rfl, ?_⟩
     refine AtIf.mk (fun h => ff h) (fun _ => ?_)
     exact ⟨(k, IntKind.i64.wrap (i + 1), h2), ⟨by omega, hr⟩, Nat.lt_succ_self _, ⟨rfl, rfl, rfl, rfl, rfl, rfl, rfl, rfl, rfl, rfl, rfl, rfl, rfl, trivial⟩, (StLe.gen 10 [] [.old 0, .old 1, .old 2, .old 3, .old 4] rfl rfl rfl rfl rfl rfl rfl)⟩
  ·
   refine qk (n := 1) ttOK 8 [D.int .i64 i] (ds' := List.map (D.int .i64) [i]) rfl (by kernel_rfl) ⟨⟨rfl, rfl, rfl, rfl⟩, trivial⟩ rfl rfl (by decide) (by decide) ?_
   intro a14
   refine ⟨fun _ _ h => h, ?_⟩
   refine qk (n := 2) ttOK 24 [.sl 4 (Tm.encL ctx), .sl 4 (Tm.encL (l.take b.lst.length))] (ds' := (List.map (fun l => D.sl 4 (Tm.encL l)) ([ctx, l.take b.lst.length]))) rfl (by kernel_rfl) ⟨⟨rfl, rfl, rfl, (.inl ⟨_, rfl, ql (j := 2) rfl⟩)⟩, ⟨⟨rfl, rfl, rfl, (.inl ⟨_, rfl, ql (j := 8) rfl⟩)⟩, trivial⟩⟩ rfl rfl (by decide) (by decide) ?_
   intro a11
   refine ⟨fun _ _ h => h, ?_⟩
   refine (qbn k ([ctx, l.take b.lst.length]) a11 2 _ hx).atR [11] rfl rfl rfl ?_
   rintro _ _ ⟨a12, c12, rfl, rfl⟩
   refine ⟨fun _ _ h => h, ?_⟩
   refine qb (N := 9) (m := 12) (dt := fun _ => none) [] ttOK Tryz.func294 rfl Tryz.call294 Tryz.ntmps294 rfl rfl rfl mixed (by kernel_rfl) ?_
   refine qmq ttOK 4 rfl rfl rfl rfl rfl ?_
   intro a13
   refine AtRet.gen _ (StLe.refl _) rfl rfl ?_
   refine ⟨fun _ _ h => h, ?_⟩
   refine qb3 (ds' := List.map (D.int .i64) (bef ++ [i])) ttOK 8 13 10 rfl (by kernel_rfl) rfl rfl rfl rfl (by simp) (by rw [List.map_append]) (decide_eq_true (by rw [List.length_map, List.length_append]; simp only [List.length_cons, List.length_nil]; omega)) (by decide) ?_
   intro a15 c15
   refine ⟨fun _ _ h => h, ?_⟩
   refine (ih k (by omega) sig w ctx' (l.drop b.lst.length) (bef ++ [i]) h a1 c1 a2 c2 a12 c12 a10 c10 a15 c15 r2 hr2).frameR [0, 1, 2, 3, 4, 5, 6, 7, 8, 9] [0, 1, 12, 9, 14] rfl rfl rfl rfl rfl rfl rfl rfl ?_
   obtain ⟨o2, h2⟩ := r2
   cases o2 with
   | some out =>
    rintro _ _ ⟨a16, c16, rfl, rfl⟩
    refine ⟨rfl, rfl, own10 sig a1 c1 w a2 c2 h2 .done (some (.exit 0)) 1 (.v (.slice a16 (List.map (D.int .i64) out).length c16)) true, rfl, ?_⟩
    refine AtIf.mk (fun _ => ?_) (fun h => tf h)
    cases hr
    exact AtRet.gen ⟨own10 sig a1 c1 w a2 c2 h2 .done (some (.exit 0)) 1 (.v (.slice a16 (List.map (D.int .i64) out).length c16)) true, [], [isR out a16 c16]⟩ (StLe.gen 10 [] [.old 15] rfl rfl rfl rfl rfl rfl rfl) rfl rfl ⟨a16, c16, rfl, rfl⟩
   | none =>
    rintro _ _ ⟨rfl, rfl⟩
    refine ⟨rfl, rfl, own10 sig a1 c1 w a2 c2 h2 .ready none 0 nilS false, rfl, ?_⟩
    refine AtIf.mk (fun h => ff h) (fun _ => ?_)
    exact ⟨(k, IntKind.i64.wrap (i + 1), h2), ⟨by omega, hr⟩, Nat.lt_succ_self _, ⟨rfl, rfl, rfl, rfl, rfl, rfl, rfl, rfl, rfl, rfl, rfl, rfl, rfl, trivial⟩, (StLe.gen 10 [] [.old 0, .old 1, .old 2, .old 3, .old 4] rfl rfl rfl rfl rfl rfl rfl)⟩
 ·have h2 : ¬ i < (w.length : Int) := by simpa [hlB] using h2
  rw [if_neg h2] at hr
  cases hr
  refine qoc ttOK (.bool true) rfl Tryz.underlying3 rfl rfl rfl (fun ℓ => rfl) ?_
  rw [hlT l]
  exact AtRet.gen ⟨own10 sig a1 c1 w a2 c2 (putAt (l.length : Int) (.bool true) h) .ready none 0 nilS false, [], []⟩ (StLe.gen 10 [] [] rfl rfl rfl rfl rfl rfl rfl) rfl rfl ⟨rfl, rfl⟩
end
end Go.Proofs.YthkgcfplebgolaaGreat

namespace Go.Tr
section
open Go
section
variable {P : Program} {tt : Tab} {c : Cx} {ℓ : List Base} {kn : Atoms} {gen : Gen} {env : Env} {S : St} {a : Act} {w : World}
theorem qii {f : FuncId} {fn : Func} {A B : Code} {id : Nat} {o1 o2 : Oper} {d : Nat} {h : FuncId} {tys : Array TypeId} {N m : Nat} {dt : Draws} {caps args : List SV} {R : Out → St → Prop} (fzE : Env) (m2 : Nat) (cuts : List Nat) (hT : TTOK P tt) (hf : P.funcs[f]? = some fn)
  (hb : fn.body = some (A.seq (Code.scope ((Code.region id #[o1, o2] false).seq B)))) (hcall : ∀ ag w, (callFunc f ag).run P w = .ok (.enter f ag) w)
  (hN : fn.ntmps = N) (hle : Nat.ble (args ++ caps).length N = true) (hwf : qr S.own.length (args ++ caps) = true) (hm : S.own.length = m)
  (hD : P.follows .mixedOrders = true) (hdrA : DrawsOK dt A = true) (hdrB : DrawsOK dt B = true) (hzA : FzOK [N] A = true) (hzB : FzOK (fzE.map (·.1)) B = true)
  (h1g : o1.guard = none) (h1d : o1.dst = some d) (h1o : ∀ c, o1.op ≠ .defer c) (h2g : o2.guard = none) (h2d : o2.dst = none) (h2o : o2.op = .defer { callee := .value (.tmp d), args := #[], argTypes := tys }) (hdN : Nat.beq d N = false)
  (hcallh : ∀ ag w, (callFunc h ag).run P w = .ok (.enter h ag) w) (k : Nat) (hq : ∀ (ag : Array Value) (w : World), ag.size = k → CallsDIn (fen none) 0 P h ag .returning w (fun e u' w' => (∃ v, e = .returned v) ∧ u' = .returning ∧ w' = w))
  (hv : vcC P tt N m none dt A cuts (seqK (fun env S => ∃ cs, cs.length = k ∧ qr S.own.length cs = true ∧ Nat.beq S.own.length m2 = true ∧ stepPure tt S.own [] (getter [] env []) o1.op = some (.fn (.func h) [] cs) ∧ putK N (some d) (.fn (.func h) [] cs) [] [] env (fun env' => find env' d = some (.fn (.func h) [] cs) ∧ envLe env' fzE ∧ vcC P tt N m2 none dt B cuts (vcEndR P tt m fn.results.toList fzE h cs R) env' S)) (fun _ _ _ => False)) (argEnv 0 (args ++ caps)) S) : Meets P (.val (.fn (.func f) [] caps)) args S R := by
 intro J ℓ w hG hJ
 refine ⟨.enter f (qd ℓ (args ++ caps)).toArray, ?_, ?_⟩
 ·simp only [Cal.sem, SV.den, qd, Deferred.ofValue, Sem.run_bind, Sem.run_pure, Result.andThen_ok, invoke, qar]
  simpa using hcall _ w
 ·let c : Cx := ⟨J, ℓ, S, w, N, none, [], [N], #[]⟩
  have hout : ∀ (Y : Array Value), Y.size = N → Y.getD N undef = (#[] : Array Value).getD N undef := by
   intro Y hY
   rw [Array.getD_eq_getD_getElem?, Array.getElem?_eq_none (by omega)]
   simp
  have hsz : (qd ℓ (args ++ caps)).toArray.size ≤ fn.ntmps := by
   rw [List.size_toArray, qo, hN]; exact Nat.le_of_ble_eq_true hle
  have hI : Inv c ℓ [] [] (argEnv 0 (args ++ caps)) S { tmps := (qd ℓ (args ++ caps)).toArray ++ Array.replicate (fn.ntmps - (qd ℓ (args ++ caps)).toArray.size) undef, defers := [] } w := by
   refine ⟨?_, ⟨rfl, by simp [marksOf], by simp [marksOf]⟩, ?_, fun t s tags h => by simp [gfind] at h, by simp [Holds], hG.toJ (fun b _ hb => ⟨hb, by simp [marksOf]⟩), hJ, List.prefix_refl _, Ext.refl _ _, fun b hb => .inl hb⟩
   ·have hs : ((qd ℓ (args ++ caps)).toArray ++ Array.replicate (fn.ntmps - (qd ℓ (args ++ caps)).toArray.size) undef).size = N := by
     rw [Array.size_append, Array.size_replicate]; omega
    refine ⟨hs, fun t ht => ?_, fun _ => rfl⟩
    have ht : t = N := by simpa [c] using ht
    subst ht
    exact hout _ hs
   ·intro t s hs
    obtain ⟨_, hs⟩ := qb9 _ _ _ _ hs
    rw [Nat.sub_zero] at hs
    refine ⟨SV.wfL_iff.1 hwf s (List.mem_of_getElem? hs), ?_⟩
    have hlt : t < (args ++ caps).length := (List.getElem?_eq_some_iff.1 hs).1
    have hget : (qd ℓ (args ++ caps))[t]? = some (s.den ℓ) := by rw [qcx, hs]; rfl
    rw [Array.getD_eq_getD_getElem?, Array.getElem?_append_left (by rw [List.size_toArray, qo]; exact hlt)]
    simp [hget]
  have hm' : c.ℓ0.length = m := by rw [← hm]; exact hG.len
  refine qci (F := fen none) hf hb trivial (fun b hbf => ?_)
  have hbe : (P.funcs[b.fn]?).isSome = true := by rw [hbf, hf]; rfl
  refine qdp (qav (qa8 (c := c) rfl hm' hT (fun i hi => by cases hi) hD (fun _ => hbe) A hdrA hzA cuts _ ℓ _ S _ w hI hv) ?_)
  intro e a1 w1 hq1
  cases e with
  | normal =>
   obtain ⟨ℓ1, env1, S1, hI1, cs, hk, hcw, hm2, hs1, hp1⟩ := hq1
   have hm2 := Nat.eq_of_beq_eq_true hm2
   refine qob (fun _ _ _ hq => hq.elim) (qdp (qe3 (qcw ?_)))
   show wpOpsIn (fen none) 0 P #[o1, o2] _ [0, 1] a1 w1
   have hpure := qaq (hI1.pctx hT (by simp [Holds])) o1 hs1
   have hdz : ∀ e, some d = some e → e ∉ c.fz := by
    intro e he hmm
    injection he with he
    subst he
    have : d = N := by simpa [c] using hmm
    subst this
    rw [Nat.beq_refl] at hdN
    cases hdN
   obtain ⟨env2, ⟨hfd, hle2, hB⟩, hI2⟩ := qa6 (N := N) (c := c) rfl hdz hI1 hpure.1 hp1
   refine qd2 (ro := none) (o := o1) rfl ?_
   rw [if_pos (by simp [Region.wanted, h1g])]
   refine up_wp h1o (qbr hpure.2 ?_)
   rw [h1d]
   refine qd2 (ro := none) (o := o2) rfl ?_
   rw [if_pos (by simp [Region.wanted, h2g])]
   have hev := hI2.env d _ hfd
   have hden : (SV.fn (.func h) [] cs).den ℓ1 = .func (.func h) #[] (qd ℓ1 cs).toArray := by simp [SV.den, qd]
   have hres : (execOp (a1.put (some d) ((SV.fn (.func h) [] cs).den ℓ1)).eval o2).run P w1 = .ok (.defer { target := .fn (.func h) (qd ℓ1 cs).toArray, args := #[] }) w1 := by
    have he : (a1.put (some d) ((SV.fn (.func h) [] cs).den ℓ1)).eval (.tmp d) = .func (.func h) #[] (qd ℓ1 cs).toArray := by rw [← hden]; exact hev.2
    simp only [execOp, h2o, resolve, he, Deferred.ofValue, Sem.run_bind]
    simp [Sem.run_pure]
   refine ⟨fun _ _ => trivial, ?_⟩
   rw [show (fen none).round = none from rfl, Oper.semAt_none, hres, Oper.uponIn_defer, h2d]
   show Exit.then _ _ .normal _ _
   generalize ha2 : a1.put (some d) ((SV.fn (.func h) [] cs).den ℓ1) = a2 at hI2 ⊢
   have hmk2 : marksOf a2.defers = [] := hI2.size.2.2 (by simp [c])
   have hrs2 : a2.defers = [] := by rw [← qax hmk2]; exact hI2.defers.eq
   let d0 : Deferred := { target := .fn (.func h) (qd ℓ1 cs).toArray, args := #[] }
   let c2 : Cx := ⟨J, ℓ1, S1, w1, N, none, [d0], fzE.map (·.1), a2.tmps⟩
   have hI3 : Inv c2 ℓ1 [] [] env2 S1 { a2 with defers := d0 :: a2.defers } w1 := by
    rw [hrs2]
    refine ⟨⟨hI2.size.1, fun t _ => rfl, fun _ => rfl⟩, ⟨rfl, by simp [marksOf, d0], by simp [marksOf, d0]⟩, hI2.env, hI2.gen, hI2.kn, ?_, fun b hb => hI2.fresh0 b (Nat.le_trans hI2.ext.size hb), List.prefix_refl _, Ext.refl _ _, fun b hb => .inl hb⟩
    exact hI2.good.toJ (fun b _ hb => ⟨hb.1, by simp [marksOf, d0]⟩)
   have hm3 : c2.ℓ0.length = m2 := by rw [← hm2]; exact hI2.good.len
   show wpB b (fen none) 0 P B _ { a2 with defers := d0 :: a2.defers } w1
   refine qav (qa8 (c := c2) rfl hm3 hT (fun i hi => by cases hi) hD (fun _ => hbe) B hdrB hzB cuts _ ℓ1 env2 S1 _ w1 hI3 hB) ?_
   have hcden : ∀ ℓ', ℓ1 <+: ℓ' → qd ℓ' cs = qd ℓ1 cs := fun ℓ' hp => qx (n := S1.own.length) (fun i hi => qau hp (by rw [hI2.good.len]; exact hi)) cs hcw
   have fin : ∀ ℓ' env' S' a' w' r, Inv { c2 with base := [] } ℓ' [] [] env' S' a' w' → a'.defers = [] → resOf tt S'.own env' fn.results.toList = some r → AtRet m (.ret r) S' R → LeavesIn (fen none) 0 P fn a'.tmps (CallPost J ℓ S w R) [] .returning w' := by
    intro ℓ' env' S' a' w' r hI' hda hr hk2
    have hres := qb5 (P := P) hT (fn := fn) hI' hr
    have hIc : Inv c ℓ' [] [] env' S' a' w' := qhq (c := c) (c' := { c2 with base := [] }) hI2 rfl rfl rfl rfl rfl hI' hda rfl (fun t ht => by
     have ht : t = N := by simpa [c] using ht
     subst ht
     exact hout _ hI'.size.1)
    exact ⟨_, hres.2, qf0 (c := c) rfl rfl rfl hm' hIc (fun b hb => hb.1) hk2⟩
   have hret : ∀ ℓ' env' S' a' w' r, Inv c2 ℓ' [] [] env' S' a' w' → resOf tt S'.own env' fn.results.toList = some r → AtRet m (.ret r) S' R → LeavesInM (fen none) 0 P fn a'.tmps (CallPost J ℓ S w R) a'.defers .returning w' := by
    intro ℓ' env' S' a' w' r hI' hr hk2
    refine qbg (by simp) _ _ _ ?_ hI'.defers (fun w2 hs => ?_)
    ·intro d' hd'
     have hd' : d' = d0 := by simpa [c2] using hd'
     subst hd'
     refine ⟨rfl, _, _, h, (qd ℓ1 cs).toArray, rfl, fun w => ?_, fun w => hq _ w (by simp [qo, hk])⟩
     simp only [invoke, d0]
     simpa using hcallh _ w
    ·exact fin ℓ' env' S' { a' with defers := [] } _ r (hI'.shut hs) rfl hr hk2
   intro e a' w' hq2
   cases e with
   | normal =>
    obtain ⟨ℓ', env', S', hI', hk2⟩ := hq2
    simp only [vcEndR, vcEnd] at hk2
    split at hk2
    ·rename_i r hr
     exact hret _ _ _ _ _ _ hI' hr hk2
    ·exact hk2.elim
   | ret =>
    obtain ⟨ℓ', env', S', hI', hk2⟩ := hq2
    simp only [vcEndR, vcEnd] at hk2
    split at hk2
    ·rename_i r hr
     exact hret _ _ _ _ _ _ hI' hr hk2
    ·exact hk2.elim
   | exit id =>
    obtain ⟨ℓ', env', S', hI', hk2⟩ := hq2
    exact hk2.elim
   | goto l => exact hq2.elim
   | panic ch =>
    obtain ⟨ℓ', S', v, hI', hv, rfl, hk2⟩ := hq2
    obtain ⟨hne, hcat⟩ := hk2
    have hmk : marksOf a'.defers = [] := hI'.size.2.2 (by
     show fzE.map (·.1) ≠ []
     intro h0
     rw [List.map_eq_nil_iff] at h0
     subst h0
     cases hne)
    have hds : a'.defers = [d0] := by rw [← qax hmk]; exact hI'.defers.eq
    rw [show bodyPostM (fen none) 0 P fn (CallPost J ℓ S w R) (.panic [{ v := v.den ℓ', recovered := false }]) a' w' = LeavesInM (fen none) 0 P fn a'.tmps (CallPost J ℓ S w R) a'.defers (.panicking [{ v := v.den ℓ', recovered := false }]) w' from rfl, hds]
    refine ⟨by simp, .inr ⟨fun h => by simp [fen] at h, _, _, h, (qd ℓ1 cs).toArray, rfl, ?_, fun _ _ => trivial, ?_⟩⟩
    ·simp only [invoke, d0]
     simpa using hcallh _ w'
    ·have hcc := hcat (c2.Ja a') ℓ' w' hI'.good hI'.freshJ
     rw [hcden ℓ' hI'.pre] at hcc
     refine CallsDIn.mono hcc ?_
     rintro e u' w4 ⟨⟨x, rfl⟩, hset, ℓ4, S4, hst, hRS⟩
     simp only [hset]
     have hI4 := hI'.step hst
     have hI5 := hI4.clear hmk
     have hI6 : Inv { c2 with base := [] } ℓ4 [] [] fzE S4 { a' with defers := [] } w4 := by
      refine ⟨hI5.size, hI5.defers, ?_, hI5.gen, hI5.kn, hI5.good, hI5.fresh0, hI5.pre, hI5.ext, hI5.fresh⟩
      intro t s hs
      obtain ⟨hw1, hd1⟩ := hI2.env t s (qca hle2 t s hs)
      have hmem : t ∈ fzE.map (·.1) := qiw hs
      have hp4 : ℓ1 <+: ℓ4 := hI5.pre
      refine ⟨SV.wf_mono ?_ s hw1, ?_⟩
      ·rw [← hI2.good.len, ← hI5.good.len]; exact hp4.length_le
      ·have h1 := hI5.size.2.1 t hmem
       rw [h1]
       show a2.tmps.getD t undef = _
       rw [hd1]
       exact (qy (n := S1.own.length) (fun i hi => qau hp4 (by rw [hI2.good.len]; exact hi)) s hw1).symm
     revert hRS
     split
     ·rename_i r hr
      intro hRS
      exact fin ℓ4 fzE S4 { a' with defers := [] } _ r hI6 rfl hr hRS
     ·exact fun hRS => hRS.elim
   | outgrown => exact hq2.elim
  | exit id => obtain ⟨ℓ', env', S', hI', hk2⟩ := hq1; exact hk2.elim
  | goto l => exact hq1.elim
  | ret => obtain ⟨ℓ', env', S', hI', hk2⟩ := hq1; exact hk2.elim
  | panic ch => obtain ⟨ℓ', S', v, hI', hv, rfl, hk2⟩ := hq1; exact hk2.elim
  | outgrown => exact hq1.elim
end
end
end Go.Tr

namespace Go.Proofs.YthkgcfplebgolaaGreat
section
open Go.Tr Go Go.Proofs.Tryz
set_option maxRecDepth 100000
theorem quietW (xs : Array Value) (w : World) (h : xs.size = 2) : CallsDIn (fen none) 0 Tryz.prog 216 xs .returning w (fun e u' w' => (∃ v, e = .returned v) ∧ u' = .returning ∧ w' = w) := by
 obtain ⟨l⟩ := xs
 match l, h with
 | [p, q], _ =>
 refine callsDIn_of_wpSIn Tryz.func216 rfl trivial fun c₀ cs hu => ?_
 apply wpSIn_seq
 apply wpSIn_region
 simp [wpOpsSIn, go_sem, recoverD, hu, Tryz.ntmps216, Exit.thenS, fen]
 refine wpSIn_of_wpIn rfl ?_
 apply wpIn_block
 apply wpIn_seq
 apply wpIn_region
 simp [wpOpsIn, Oper.wpIn, Oper.uponIn, go_sem, Exit.then, Exit.thenS]
 refine wpIn_cond (t := true) (by simp [Act.eval, Array.replicate]) ?_
 simp only [if_true]
 apply wpIn_region
 simp [wpOpsIn, Oper.wpIn, Oper.uponIn, go_sem, Exit.then, Exit.thenS]
 cases c₀
 simp_all [bodyPostS, results, Tryz.results216]
def qf6 (n : Nat) (sig : List Dc) (w : List Bk) (ctx l : List Tm) : Option (List Int × Int) :=
 cond (decide (IntKind.i64.wrap (((Tm.encL ctx).length : Int) + ((Tm.encL l).length : Int)) > 30)) (some ([], 5))
  ((cutF n sig w ctx l [] []).bind fun r => match r.1 with
   | some out => some (out, 0)
   | none => some ([], 33))
set_option maxHeartbeats 4000000 in
theorem qil (n : Nat) (sig : List Dc) (w : List Bk) (ctx l : List Tm) (a1 : OA) (c1 : Nat) (a2 : OA) (c2 : Nat) (a3 : OA) (c3 : Nat) (a4 : OA) (c4 : Nat) (r : List Int × Int) (hr : qf6 n sig w ctx l = some r) :
  Pure Tryz.prog (.val (.fn (.func 138) [] [])) [.v (.slice a1 (Dc.encL sig).length c1), .v (.slice a2 (Bk.encL w).length c2), .v (.slice a3 (Tm.encL ctx).length c3), .v (.slice a4 (Tm.encL l).length c4)] [(.slice a1 (Dc.encL sig).length c1, .sl 6 (Dc.encL sig)), (.slice a2 (Bk.encL w).length c2, .sl 2 (Bk.encL w)), (.slice a3 (Tm.encL ctx).length c3, .sl 4 (Tm.encL ctx)), (.slice a4 (Tm.encL l).length c4, .sl 4 (Tm.encL l))]
   (fun r' out => ∃ (a : OA) (c : Nat), r' = .tup [.v (.slice a (List.map (D.int .i64) r.1).length c), .v (.int .i64 r.2)] ∧ out = [(.slice a (List.map (D.int .i64) r.1).length c, .sl 1 (List.map (D.int .i64) r.1))]) := by
 unfold qf6 at hr
 show Meets _ _ _ _ _
 refine qii (N := 29) (m := 0) (dt := fun _ => none) (d := 12) (h := 216) [] 2 [] ttOK Tryz.func138 rfl Tryz.call138 Tryz.ntmps138 rfl rfl rfl mixed (by kernel_rfl) (by kernel_rfl) (by kernel_rfl) (by kernel_rfl) rfl rfl ?o1 rfl rfl rfl rfl Tryz.call216 2 quietW ?_
 case o1 => intro c h; cases h
 refine ⟨[.loc 0 0, .loc 1 0], rfl, rfl, rfl, rfl, ?_⟩
 refine ⟨rfl, trivial, ?_⟩
 refine AtIf.mk (fun h1 => ?_) (fun h1 => ?_)
 ·replace hr := qg h1 hr
  cases hr
  exact qa [.nil 1] [(.slice none 0 0, .sl 1 [])] rfl rfl ⟨none, 0, rfl, rfl⟩
 replace hr := qf h1 hr
 obtain ⟨r2, hr2, hr⟩ := bind_some hr
 refine qb (N := 10) (m := 3) (dt := fun _ => none) [] ttOK Tryz.func217 rfl Tryz.call217 Tryz.ntmps217 rfl rfl rfl mixed (by kernel_rfl) ?_
 refine AtRet.gen _ (StLe.refl _) rfl rfl ?_
 refine AtRange.mk ⟨[(8, .loc 0 0), (10, .loc 2 0)], ⟨rfl, rfl, trivial⟩, rfl, rfl, ⟨_, _, _, rfl, Tryz.call292⟩, ?_⟩
 refine qb (N := 15) (m := 8) (dt := fun _ => none) [] ttOK Tryz.func292 rfl Tryz.call292 Tryz.ntmps292 rfl rfl rfl mixed (by kernel_rfl) ?_
 refine qfi .i64 ?_
 refine Meets.nilRep 1 ?_
 refine (cut_spec n n (Nat.le_refl _) sig w ctx l [] [] a1 c1 a2 c2 a3 c3 a4 c4 none 0 r2 hr2).frameR [9, 8, 11, 4, 3, 12, 10, 7, 0, 2] [1, 2, 3, 4, 0] rfl rfl rfl rfl rfl rfl rfl rfl ?_
 obtain ⟨o2, h2⟩ := r2
 cases o2 with
 | some out =>
  rintro _ _ ⟨a9, c9, rfl, rfl⟩
  refine ⟨rfl, rfl, [.cells 3 [iS 1], .cells 362 [.yld 7], .cells 363 [.mp 10], .cells 106 [.v (.slice a2 (Bk.encL w).length c2)], .cells 22 [.v (.slice a1 (Dc.encL sig).length c1)],
   .cells 364 [.fn (.func 293) [] [.loc 9 0, .loc 8 0, .loc 11 0, .loc 4 0, .loc 3 0, .loc 12 0]], .obj (mapO .i64 h2), .lp ⟨29, [(8, .loc 0 0), (10, .loc 2 0)], #[24], rfAs Tryz.f138, rfBody Tryz.f138, .done, some (.exit 0), exF Tryz.prog⟩, .cells 73 [.v (.slice a9 (List.map (D.int .i64) out).length c9)], .cells 4 [bS true]], rfl, ?_⟩
  refine AtRet.gen _ (StLe.refl _) rfl rfl ?_
  refine AtIf.mk (fun h => ff h) (fun _ => ?_)
  cases hr
  exact qa [.old 5] [isR out a9 c9] rfl rfl ⟨a9, c9, rfl, rfl⟩
 | none =>
  rintro _ _ ⟨rfl, rfl⟩
  refine ⟨rfl, rfl, [.cells 3 [iS 0], .cells 362 [.yld 7], .cells 363 [.mp 10], .cells 106 [.v (.slice a2 (Bk.encL w).length c2)], .cells 22 [.v (.slice a1 (Dc.encL sig).length c1)],
   .cells 364 [.fn (.func 293) [] [.loc 9 0, .loc 8 0, .loc 11 0, .loc 4 0, .loc 3 0, .loc 12 0]], .obj (mapO .i64 h2), .lp ⟨29, [(8, .loc 0 0), (10, .loc 2 0)], #[24], rfAs Tryz.f138, rfBody Tryz.f138, .ready, none, exF Tryz.prog⟩, .cells 73 [nilS], .cells 4 [bS false]], rfl, ?_⟩
  refine AtRet.gen _ (StLe.refl _) rfl rfl ?_
  refine AtIf.mk (fun _ => ?_) (fun h => tf h)
  cases hr
  exact qa [.nil 1] [(.slice none 0 0, .sl 1 [])] rfl rfl ⟨none, 0, rfl, rfl⟩
end

section
open Go.Tr Go Go.Proofs.Tryz
set_option maxRecDepth 100000
abbrev knS (sig : List Dc) (a1 : OA) (c1 : Nat) (ms : List Mt) (a2 : OA) (c2 : Nat) : SV := .agg [.ifc 399 (.agg [.v (.slice a1 (Dc.encL sig).length c1), .v (.slice a2 (Mt.encL ms).length c2)]), .v (.slice a1 (Dc.encL sig).length c1)]
def atomF (n : Nat) (sig : List Dc) (t : Tm) : Bool := match t with
 | ⟨4, 2, k, []⟩ => (match idx sig k with
  | some d => decide (k < (sig.length : Int)) && (sign_Family n sig k == some true) && (d.cls.op == 1)
  | none => false)
 | _ => false
set_option maxHeartbeats 4000000 in
theorem isType0 (n : Nat) (sig : List Dc) (ms : List Mt) (ctx : List Tm) (k : Int) (d : Dc) (a1 : OA) (c1 : Nat) (a2 : OA) (c2 : Nat) (a3 : OA) (c3 : Nat) (a4 : OA) (c4 : Nat) (hd : idx sig k = some d) (hk : k < (sig.length : Int)) (hf : sign_Family n sig k = some true) (hop : d.cls.op = 1) :
  Pure Tryz.prog (fnS 278) [knS sig a1 c1 ms a2 c2, .v (.slice a3 (Tm.encL ctx).length c3), .agg [iS 4, iS 2, iS k, .v (.slice a4 (Tm.encL ([] : List Tm)).length c4)]] [dsR sig a1 c1, tsR ctx a3 c3, tsR [] a4 c4] (fun r' out => r' = iS 0 ∧ out = []) := by
 obtain ⟨h0, h1⟩ := qi hd
 have hlD : ∀ l : List Dc, (Dc.encL l).length = l.length := Dc.encL_length
 refine qb (N := 65) (m := 0) (dt := drawsOf [(9, .node [0, 1, 2, 3, 4, 5, 6, 7, 8, 9, 10] [(11, .node [12, 13, 14] [(15, .node [] [(16, .leaf [17])])]), (15, .node [] [(11, .node [12, 13, 14] [(16, .leaf [17])])])], [11, 16], [])]) [] ttOK Tryz.func278 rfl Tryz.call278 Tryz.ntmps278 rfl rfl rfl mixed (by kernel_rfl) ?_
 refine AtIf.mk (fun h => ff h) (fun _ => ?_)
 refine AtIf.mk (fun h => ff h) (fun _ => ?_)
 refine AtIf.mk (fun h => by simp [hlD] at h; omega) (fun _ => ?_)
 refine (qir n sig k a1 c1 true hf).atR [0] rfl rfl rfl ?_
 rintro _ _ ⟨rfl, rfl⟩
 refine AtIf.mk (fun h => ff h) (fun _ => ?_)
 refine qh ttOK 0 rfl rfl rfl rfl h0 (Dc.encL_get h1) ?_
 intro a5 c5 _ _
 refine ⟨?_, ?_⟩
 ·
  refine qb (N := 51) (m := 3) (dt := drawsOf [(6, .node [0, 1, 2, 3, 4, 5, 6] [(7, .leaf [8])], [7], [])]) [] ttOK Tryz.func337 rfl Tryz.call337 Tryz.ntmps337 rfl rfl rfl mixed (by kernel_rfl) ?_
  refine qc1 2 [(7, .loc 4 0), (8, .loc 5 0), (16, iS 0), (17, iS 0)] _ ⟨rfl, rfl, rfl, rfl, trivial⟩ (StLe.refl _) ?_
  refine Unr.mk rfl rfl ?_
  refine AtIf.mk (fun h => ff h) (fun _ => ?_)
  refine AtRet.gen _ (StLe.refl _) rfl rfl ?_
  refine ⟨OwnKeptBut.append, ?_⟩
  refine AtIf.mk (fun h => by simp [hop] at h) (fun _ => ?_)
  exact qa [] [] rfl rfl ⟨rfl, rfl⟩
 ·
  refine ⟨OwnKeptBut.append, ?_⟩
  refine qb (N := 51) (m := 4) (dt := drawsOf [(6, .node [0, 1, 2, 3, 4, 5, 6] [(7, .leaf [8])], [7], [])]) [] ttOK Tryz.func337 rfl Tryz.call337 Tryz.ntmps337 rfl rfl rfl mixed (by kernel_rfl) ?_
  refine qc1 2 [(7, .loc 5 0), (8, .loc 6 0), (16, iS 0), (17, iS 0)] _ ⟨rfl, rfl, rfl, rfl, trivial⟩ (StLe.refl _) ?_
  refine Unr.mk rfl rfl ?_
  refine AtIf.mk (fun h => ff h) (fun _ => ?_)
  refine AtRet.gen _ (StLe.refl _) rfl rfl ?_
  refine AtIf.mk (fun h => by simp [hop] at h) (fun _ => ?_)
  exact qa [] [] rfl rfl ⟨rfl, rfl⟩
def qeb (n : Nat) (sig : List Dc) (ms : List Mt) (ctx : List Tm) : Option Int :=
 (check_good n sig ms ctx []).bind fun g => cond (!g) (some 2) (cond (decide (ctx.length ≤ 1000) && ctx.all (atomF n sig)) (some 0) none)
theorem atomF_spec {n : Nat} {sig : List Dc} {t : Tm} (h : atomF n sig t = true) : ∃ k d, t = ⟨4, 2, k, []⟩ ∧ idx sig k = some d ∧ k < (sig.length : Int) ∧ sign_Family n sig k = some true ∧ d.cls.op = 1 := by
 unfold atomF at h
 split at h
 case h_2 => cases h
 rename_i k
 split at h
 case h_2 => cases h
 rename_i d hd
 simp only [Bool.and_eq_true, decide_eq_true_eq, beq_iff_eq] at h
 exact ⟨k, d, rfl, hd, h.1.1, h.1.2, h.2⟩
set_option maxHeartbeats 4000000 in
theorem qg1 (n : Nat) (sig : List Dc) (ms : List Mt) (ctx : List Tm) (a1 : OA) (c1 : Nat) (a2 : OA) (c2 : Nat) (a3 : OA) (c3 : Nat) (r : Int) (hr : qeb n sig ms ctx = some r) :
  Pure Tryz.prog (.val (.fn (.func 204) [] [])) [.v (.slice a1 (Dc.encL sig).length c1), .v (.slice a2 (Mt.encL ms).length c2), .v (.slice a3 (Tm.encL ctx).length c3)] [(.slice a1 (Dc.encL sig).length c1, .sl 6 (Dc.encL sig)), (.slice a2 (Mt.encL ms).length c2, .sl 10 (Mt.encL ms)), (.slice a3 (Tm.encL ctx).length c3, .sl 4 (Tm.encL ctx))] (fun r' out => r' = .v (.int .i64 r) ∧ out = []) := by
 unfold qeb at hr
 have hlT : ∀ l : List Tm, (Tm.encL l).length = l.length := Tm.encL_length
 obtain ⟨g, hg, hr⟩ := bind_some hr
 refine qb (N := 34) (m := 0) (dt := drawsOf [(6, .node [0, 1, 3, 4, 5, 6] [(2, .node [] [(7, .leaf [8])])], [7], [])]) [] ttOK Tryz.func204 rfl Tryz.call204 Tryz.ntmps204 rfl rfl rfl mixed (by kernel_rfl) ?_
 refine Meets.nilRep 4 ?_
 refine (qi9 n sig ms ctx [] a1 c1 a2 c2 a3 c3 none 0 g hg).atR [1, 2, 3, 0] rfl rfl rfl ?_
 rintro _ _ ⟨rfl, rfl⟩
 refine AtIf.mk (fun h1 => ?_) (fun h1 => ?_)
 ·replace hr := qg h1 hr
  cases hr
  exact qa [] [] rfl rfl ⟨rfl, rfl⟩
 replace hr := qf h1 hr
 cases hall : decide (ctx.length ≤ 1000) && ctx.all (atomF n sig) with
 | false => rw [hall] at hr; cases hr
 | true =>
 rw [hall] at hr
 cases hr
 simp only [Bool.and_eq_true, decide_eq_true_eq] at hall
 obtain ⟨hlen, hall⟩ := hall
 refine AtLoop.mk ⟨Int, fun i => [(0, .v (.slice a1 (Dc.encL sig).length c1)), (1, .v (.slice a2 (Mt.encL ms).length c2)), (2, .v (.slice a3 (Tm.encL ctx).length c3)), (15, .v (.slice a3 (Tm.encL ctx).length c3)), (16, iS ((Tm.encL ctx).length : Int)), (17, iS i)], fun _ => ⟨[], [], [dsR sig a1 c1, (.slice a2 (Mt.encL ms).length c2, .sl 10 (Mt.encL ms)), tsR ctx a3 c3]⟩, fun i => 0 ≤ i ∧ i ≤ ctx.length, fun i => (ctx.length - i).toNat, 0, ⟨Int.le_refl _, by omega⟩, ⟨rfl, rfl, rfl, rfl, rfl, rfl, trivial⟩, (StLe.gen 0 [] [.old 1, .old 2, .old 3] rfl rfl rfl rfl rfl rfl rfl), fun _ _ => ⟨rfl, rfl⟩, ?_⟩
 rintro i ⟨hi0, hi1⟩
 refine AtIf.mk (fun h2 => ?_) (fun h2 => ?_)
 ·have h2 : i < (ctx.length : Int) := by simpa [hlT] using h2
  obtain ⟨t, ht⟩ : ∃ t, ctx[i.toNat]? = some t := ⟨_, List.getElem?_eq_getElem (show i.toNat < ctx.length by omega)⟩
  obtain ⟨k, d, rfl, hd, hk, hf, hop⟩ := atomF_spec (List.all_eq_true.1 hall t (List.mem_of_getElem? ht))
  refine qh ttOK 2 rfl rfl rfl rfl hi0 (Tm.encL_get ht) ?_
  intro a4 c4 _ _
  refine qaa ttOK 2 0 i (ds' := Tm.encL (ctx.take i.toNat)) rfl rfl rfl (.inr ⟨rfl, rfl⟩) (.inl ⟨_, rfl⟩) (decide_eq_true (by rw [hlT]; omega)) (by simp [Tm.encL_eq, List.map_take]) ?_
  intro a5 c5
  refine qb (N := 11) (m := 2) (dt := fun _ => none) [] ttOK Tryz.func277 rfl Tryz.call277 Tryz.ntmps277 rfl rfl rfl mixed (by kernel_rfl) ?_
  refine qae (by kernel_rfl) rfl ?_
  refine AtRet.gen _ (StLe.refl _) rfl rfl ?_
  refine ⟨OwnKeptBut.append, ?_⟩
  refine (isType0 n sig ms (ctx.take i.toNat) k d a1 c1 a2 c2 a5 c5 a4 c4 hd hk hf hop).atR [0, 4, 3] rfl rfl rfl ?_
  rintro _ _ ⟨rfl, rfl⟩
  refine AtIf.mk (fun h => ff h) (fun _ => ?_)
  exact ⟨IntKind.i64.wrap (i + 1), by rw [wrap_i64 (by omega) (by omega)]; omega, by simp only; rw [wrap_i64 (by omega) (by omega)]; omega, ⟨rfl, rfl, rfl, rfl, rfl, rfl, trivial⟩, (StLe.gen 0 [] [.old 0, .old 1, .old 2] rfl rfl rfl rfl rfl rfl rfl)⟩
 ·exact qa [] [] rfl rfl ⟨rfl, rfl⟩
end
end Go.Proofs.YthkgcfplebgolaaGreat
