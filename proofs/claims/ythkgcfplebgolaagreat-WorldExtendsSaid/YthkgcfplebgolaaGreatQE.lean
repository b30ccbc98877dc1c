/- Merged texts: TermB TermC Sorted Free OrdA OrdB OrdC OrdD OrdE OrdF Ref3A Ref3B Ref3C Ref3D FwQ Ref15A Ref15B Orders LawA LawB FwR Reads RowKit FwS. Conditions stand in each rule. -/
import Derived.Test.YthkgcfplebgolaaGreatQD
import Derived.Sort.OwnSortedInts
import Derived.Laws.CopyRow
import Derived.RowKit3
import Derived.ProofKit
import Derived.OpenShut
import Derived.JoinedCond
import Derived.ReadAgain
import Derived.ChangeReads
import Derived.ChangeArms
import Derived.ChangeSame
import Derived.Deep.CondSized
import Derived.Test.YthkgcfplebgolaaGreatRows
import Derived.SizedLaws
import Derived.Handed
import Derived.WalkKit
set_option linter.unusedSimpArgs false
set_option linter.unusedVariables false

namespace Go.Proofs.YthkgcfplebgolaaGreat
section
open Go.Tr Go Go.Proofs.Tryz
set_option maxRecDepth 10000
theorem qo9 (t : Tm) : ∀ (depth k : Int) (a : OA) (c : Nat), 0 ≤ depth → depth ≤ 41 → 0 ≤ k → k ≤ 600 →
  Meets Tryz.prog (fnS 252) [tmS t a c, iS depth, .loc 0 0] ⟨[.cells 3 [iS k]], [], [tmR t a c]⟩
   (fun o S' => o = .ret (bS (properF t depth k).1) ∧ S' = ⟨[.cells 3 [iS (properF t depth k).2]], [], []⟩) := by
 induction t using Tm.ind with
 | h t ih =>
 intro depth k a c hd1 hd2 hk1 hk2
 refine qa4 fun hok => ?_
 have hB : (Tm.encL t.args).length ≤ 1152921504606846976 := (hok _ (List.mem_cons_self ..)).1
 have hlen := Tm.encL_length t.args
 refine qb (N := 95) (m := 1) (dt := fun _ => none) [6] ttOK Tryz.func252 rfl Tryz.call252 Tryz.ntmps252 rfl rfl rfl mixed (by kernel_rfl) ?_
 have hw : IntKind.i64.wrap (k + 1) = k + 1 := wrap_i64 (by omega) (by omega)
 have hF := qhc t depth k
 refine AtIf.mk ?_ ?_
 ·intro h
  rw [hw] at h
  refine qf8 [.cells 3 [iS (k + 1)]] (by simp only [hw]; rfl) rfl rfl rfl rfl ?_
  rw [hF, if_pos (by simpa using h)]
  exact ⟨rfl, rfl⟩
 ·intro h
  rw [hw] at h
  have hno : ¬ (600 < k + 1 ∨ 40 < depth) := by simpa using h
  rw [if_neg hno] at hF
  refine AtCut.mk ⟨Unit, fun _ => [(7, iS (Tm.encL t.args).length), (8, bS (okNode t.op t.hd t.n t.args.length)), (3, .loc 1 0), (1, iS depth), (2, .loc 0 0)],
   fun _ => ⟨[.cells 3 [iS (k + 1)], .cells 41 [iS t.op, iS t.hd, iS t.n, .v (.slice a (Tm.encL t.args).length c)]], [], [tmR t a c]⟩,
   fun _ => True, fun _ _ => ⟨rfl, rfl⟩, ?_, ?_⟩
  ·have fin : ∀ {b : Bool} {env : Env} {S : St}, b = okNode t.op t.hd t.n t.args.length → S = ⟨[.cells 3 [iS (IntKind.i64.wrap (k + 1))], .cells 41 [iS t.op, iS t.hd, iS t.n, .v (.slice a (Tm.encL t.args).length c)]], [], [tmR t a c]⟩ →
     envLe env [(7, iS (Tm.encL t.args).length), (8, bS b), (3, .loc 1 0), (1, iS depth), (2, .loc 0 0)] → 
     ∃ x : Unit, True ∧ envLe env [(7, iS (Tm.encL t.args).length), (8, bS (okNode t.op t.hd t.n t.args.length)), (3, .loc 1 0), (1, iS depth), (2, .loc 0 0)] ∧ StLe S ⟨[.cells 3 [iS (k + 1)], .cells 41 [iS t.op, iS t.hd, iS t.n, .v (.slice a (Tm.encL t.args).length c)]], [], [tmR t a c]⟩ := by
    rintro b env S rfl rfl he
    exact ⟨(), trivial, he, by rw [hw]; exact StLe.refl _⟩
   refine AtIf.mk (fun h1 => ?_) (fun h1 => AtIf.mk (fun h2 => ?_) (fun h2 => AtIf.mk (fun h3 => ?_) (fun h3 => AtIf.mk (fun h4 => ?_) (fun h4 => ?_))))
   ·refine fin ?_ rfl ⟨rfl, rfl, rfl, rfl, rfl, trivial⟩
    simp only [beq_iff_eq] at h1
    simp only [okNode, h1, hlen]
    rw [Bool.eq_iff_iff]; simp
   ·refine fin ?_ rfl ⟨rfl, rfl, rfl, rfl, rfl, trivial⟩
    simp only [beq_iff_eq] at h2
    simp only [okNode, h2, hlen]
    rw [Bool.eq_iff_iff]; simp; omega
   ·refine fin ?_ rfl ⟨rfl, rfl, rfl, rfl, rfl, trivial⟩
    simp only [beq_iff_eq] at h3
    simp only [okNode, h3, hlen]
    rw [Bool.eq_iff_iff]; simp; omega
   ·refine fin ?_ rfl ⟨rfl, rfl, rfl, rfl, rfl, trivial⟩
    simp only [beq_iff_eq] at h4
    simp only [okNode, h4]
    rw [Bool.eq_iff_iff]; simp
   ·simp only [beq_eq_false_iff_ne] at h1 h2 h3 h4
    refine qf8 [.cells 3 [iS (k + 1)]] (by simp only [hw]; rfl) rfl rfl rfl rfl ?_
    have : okNode t.op t.hd t.n t.args.length = false := by simp [okNode, h1, h2, h3, h4]
    rw [hF, this]
    exact ⟨rfl, rfl⟩
  ·intro _ _
   refine AtLoop.mk ⟨Nat × Bool × Int, fun x => [(9, iS x.1), (7, iS (Tm.encL t.args).length), (8, bS x.2.1), (3, .loc 1 0), (1, iS depth), (2, .loc 0 0)],
    fun x => ⟨[.cells 3 [iS x.2.2], .cells 41 [iS t.op, iS t.hd, iS t.n, .v (.slice a (Tm.encL t.args).length c)]], [], [tmR t a c]⟩,
    fun x => x.1 ≤ t.args.length ∧ 0 ≤ x.2.2 ∧ (x.2.1 = true → x.2.2 ≤ 600) ∧ properF t depth k = if x.2.1 then properL (t.args.drop x.1) (depth + 1) x.2.2 else (false, x.2.2),
    fun x => t.args.length - x.1, (0, okNode t.op t.hd t.n t.args.length, k + 1), ?_, ⟨rfl, rfl, rfl, rfl, rfl, rfl, trivial⟩, StLe.refl _, fun x _ => ⟨rfl, rfl⟩, ?_⟩
   ·exact ⟨Nat.zero_le _, by simp; omega, fun _ => by simp; omega, by simpa using hF⟩
   ·rintro ⟨i, ok, kk⟩ ⟨hi, hk0, hk6, hinv⟩
    simp only at hi hk0 hk6 hinv ⊢
    refine AtIf.mk (fun h1 => ?_) (fun h1 => ?_)
    ·simp only [Bool.and_eq_true, decide_eq_true_eq, hlen] at h1
     obtain ⟨h1, rfl⟩ := h1
     have hlt : i < t.args.length := by omega
     obtain ⟨t', ht'⟩ : ∃ t', t.args[i]? = some t' := ⟨_, List.getElem?_eq_getElem hlt⟩
     refine qh ttOK 0 rfl rfl rfl rfl (by omega) (by rw [Int.toNat_natCast]; exact Tm.encL_get ht') ?_
     intro a' c' _ _
     have hw2 : IntKind.i64.wrap (depth + 1) = depth + 1 := wrap_i64 (by omega) (by omega)
     have hspec := ih t' (List.mem_of_getElem? ht') (depth + 1) kk a' c' (by omega) (by omega) hk0 (hk6 rfl)
     refine hspec.frame [0] rfl (by simp only [hw2]; rfl) (by simp) rfl ?_ ?_ rfl rfl ?_
     ·intro p q hp
      match p, hp with
      | 0, hp => simp at hp; subst hp; exact ⟨0, rfl, rfl, rfl⟩
     ·intro p hp; simp at hp; subst hp; exact List.mem_cons_of_mem _ (List.mem_cons_self ..)
     ·rintro o s' ⟨rfl, rfl⟩
      refine ⟨rfl, rfl, [.cells 3 [iS (properF t' (depth + 1) kk).2]], rfl, ?_⟩
      have hle := qlh t' (depth + 1) kk hk0 (hk6 rfl)
      have hw3 : IntKind.i64.wrap (i + 1) = ((i + 1 : Nat) : Int) := wrap_i64 (by omega) (by omega)
      refine ⟨(i + 1, (properF t' (depth + 1) kk).1, (properF t' (depth + 1) kk).2), ⟨by omega, by simp; omega, hle.2.2, ?_⟩, by simp; omega, ⟨by rw [← hw3]; rfl, rfl, rfl, rfl, rfl, rfl, trivial⟩, StLe.to _ _ rfl (by simp) rfl rfl⟩
      rw [hinv]
      have hd : t.args.drop i = t' :: t.args.drop (i + 1) := by
       rw [List.drop_eq_getElem_cons hlt]
       congr 1
       rw [List.getElem?_eq_getElem hlt] at ht'
       simpa using ht'
      simp only [if_true, hd, properL]
      cases properF t' (depth + 1) kk with
      | mk b k' => cases b <;> rfl
    ·refine qf8 [.cells 3 [iS kk]] rfl rfl rfl rfl rfl ?_
     have : properF t depth k = (ok, kk) := by
      rw [hinv]
      cases ok with
      | false => rfl
      | true =>
       simp only [Bool.and_true, decide_eq_false_iff_not, hlen] at h1
       rw [List.drop_of_length_le (by omega)]
       rfl
     rw [this]
     exact ⟨rfl, rfl⟩
def isProper (t : Tm) : Bool := (properF t 1 0).1
theorem qb7 (t : Tm) (a : OA) (c : Nat) : Pure Tryz.prog (fnS 181) [tmS t a c] [tmR t a c] (fun r out => r = iS (if isProper t then 0 else 2) ∧ out = []) := by
 refine qb (N := 7) (m := 0) (dt := fun _ => none) [] ttOK Tryz.func181 rfl Tryz.call181 Tryz.ntmps181 rfl rfl rfl mixed (by kernel_rfl) ?_
 have hs := qo9 t 1 0 a c (by omega) (by omega) (by omega) (by omega)
 refine hs.frame [1] rfl rfl (by decide) rfl ?_ (by simp) rfl rfl ?_
 ·intro p q hp
  match p, hp with
  | 0, hp => simp at hp; subst hp; exact ⟨1, rfl, rfl, rfl⟩
 rintro o s' ⟨rfl, rfl⟩
 refine ⟨rfl, rfl, [.cells 3 [iS (properF t 1 0).2]], rfl, ?_⟩
 refine AtIf.mk (fun h => ?_) (fun h => ?_)
 ·refine AtRet.pure [] rfl (by simp) ⟨?_, rfl⟩
  simp only [Bool.not_eq_true'] at h
  simp [isProper, h]
 ·refine AtRet.pure [] rfl (by simp) ⟨?_, rfl⟩
  simp only [Bool.not_eq_false'] at h
  simp [isProper, h]
end

section
open Go.Tr Go Go.Proofs.Tryz
set_option maxRecDepth 10000
theorem qgc : ∀ (n : Nat) (l : List Nat), l.Nodup → (∀ m ∈ l, m < n) → l.length ≤ n
 | 0, l, _, h => by
  cases l with
  | nil => simp
  | cons a l => have := h a (by simp); omega
 | n + 1, l, hn, h => by
  by_cases hm : n ∈ l
  ·have h1 := qgc n (l.erase n) (hn.erase n) (fun m hm' => by
    have := (hn.mem_erase_iff.1 hm')
    have := h m this.2
    omega)
   rw [List.length_erase_of_mem hm] at h1
   omega
  ·have h1 := qgc n l hn (fun m hm' => by
    have h2 := h m hm'
    have h3 : m ≠ n := fun e => hm (e ▸ hm')
    omega)
   omega
theorem int_under : Tryz.prog.underlying 3 = some (.int .i64) := Tryz.underlying3
def noteStep (f : Tm → Int → Int × Bool) (l : List (Int × Value)) (t : Tm) (b : Int) : List (Int × Value) :=
 if t.op = 4 ∧ (f t b).2 = true then putAt (f t b).1 (.bool true) l else l
def AsksOK (OF : SV) (f : Tm → Int → Int × Bool) : Prop :=
 ∀ t b a c, 0 ≤ b → b ≤ 1000000 → Pure Tryz.prog (.val OF) [tmS t a c, iS b] [tmR t a c] (fun r out => r = .tup [iS (f t b).1, bS (f t b).2] ∧ out = [])
theorem qml (OF : SV) (hOF : OF.wf 0 = true) (f : Tm → Int → Int × Bool) (hf : AsksOK OF f) (t : Tm) (a : OA) (c : Nat) (b : Int) (hb : 0 ≤ b) (hb1 : b ≤ 1000000) (l : List (Int × Value)) :
  Meets Tryz.prog (.val (.fn (.func 320) [] [.loc 0 0, .loc 2 0])) [tmS t a c, iS b] ⟨[.cells 325 [OF], .obj (mapO .i64 l), .cells 363 [.mp 1]], [], [tmR t a c]⟩
   (fun o S' => o = .ret (.tup []) ∧ S' = ⟨[.cells 325 [OF], .obj (mapO .i64 (noteStep f l t b)), .cells 363 [.mp 1]], [], []⟩) := by
 refine qb (N := 21) (m := 3) (dt := fun _ => none) [] ttOK Tryz.func320 rfl Tryz.call320 Tryz.ntmps320 rfl (by simp [qr, SV.wf]) rfl mixed (by kernel_rfl) ?_
 refine AtIf.mk (fun h => ?_) (fun h => ?_)
 ·simp only [beq_iff_eq] at h
  refine (hf t b a c hb hb1).at (by simp) rfl hOF ?_
  rintro r out ⟨rfl, rfl⟩
  refine AtIf.mk (fun h2 => ?_) (fun h2 => ?_)
  ·refine qoc ttOK (.bool true) rfl int_under rfl rfl rfl (fun _ => rfl) ?_
   refine qf8 [.cells 325 [OF], .obj (mapO .i64 (putAt (f t b).1 (.bool true) l)), .cells 363 [.mp 1]] rfl rfl rfl ?_ rfl ⟨rfl, ?_⟩
   ·simp [wfB, Blk.wf, qr, SV.wf, SV.wf_mono (Nat.zero_le _) OF hOF, mapO]; rfl
   ·rw [noteStep, if_pos ⟨h, h2⟩]
  ·refine qf8 [.cells 325 [OF], .obj (mapO .i64 l), .cells 363 [.mp 1]] rfl rfl rfl ?_ rfl ⟨rfl, ?_⟩
   ·simp [wfB, Blk.wf, qr, SV.wf, SV.wf_mono (Nat.zero_le _) OF hOF, mapO]; rfl
   ·rw [noteStep, if_neg (fun hh => by rw [h2] at hh; cases hh.2)]
 ·simp only [beq_eq_false_iff_ne] at h
  refine qf8 [.cells 325 [OF], .obj (mapO .i64 l), .cells 363 [.mp 1]] rfl rfl rfl ?_ rfl ⟨rfl, ?_⟩
  ·simp [wfB, Blk.wf, qr, SV.wf, SV.wf_mono (Nat.zero_le _) OF hOF, mapO]; rfl
  ·rw [noteStep, if_neg (fun hh => h hh.1)]
def freeOf (t : Tm) (b : Int) : Int × Bool := (IntKind.i64.wrap (t.n - b), t.hd == 1 && decide (b ≤ t.n))
theorem ql4 : AsksOK (.fn (.func 361) [] []) freeOf := by
 intro t b a c _ _
 refine qb (N := 19) (m := 0) (dt := drawsOf [(1, .leaf [0, 1, 2, 3, 4, 5, 6, 7, 8, 9, 10, 11, 12, 13, 14], [], [])]) [] ttOK Tryz.func361 rfl Tryz.call361 Tryz.ntmps361 rfl rfl rfl mixed (by kernel_rfl) ?_
 refine AtRet.pure [] rfl (by simp) ⟨rfl, rfl⟩
structure AsksKey (n0 : Nat) (Y : SV) {σ : Type} (m0 m1 : Blk) (B2 B3 : σ → Blk) (A : σ → List Acc) (kof : σ → List Int) (L : Nat) : Prop where
 wf : Y.wf n0 = true
 does : ∀ s k, (kof s).length < L → Meets Tryz.prog (.val Y) [iS k] ⟨[m0, m1, B2 s, B3 s], A s, []⟩ (fun o S' => o = .ret (bS true) ∧ ∃ s', kof s' = kof s ++ [k] ∧ S' = ⟨[m0, m1, B2 s', B3 s'], A s', []⟩)
theorem keys1_spec (l : List (Int × Value)) {σ : Type} (Y : SV) (B2 B3 : σ → Blk) (A : σ → List Acc) (kof : σ → List Int) (hY : AsksKey 4 Y (.obj (mapO .i64 l)) (.cells 363 [.mp 0]) B2 B3 A kof l.length)
  (hB : ∀ s s', (B2 s).mut = (B2 s').mut ∧ (B3 s).mut = (B3 s').mut) (hwf : ∀ s, (B2 s).wf 4 = true ∧ (B3 s).wf 4 = true) (s0 : σ) (h0 : kof s0 = []) :
  Meets Tryz.prog (.val (.fn (.func 365) [] [.loc 1 0])) [Y] ⟨[.obj (mapO .i64 l), .cells 363 [.mp 0], B2 s0, B3 s0], A s0, []⟩
   (fun o S' => o = .ret (.tup []) ∧ ∃ s, (kof s).Perm (l.map (·.1)) ∧ S' = ⟨[.obj (mapO .i64 l), .cells 363 [.mp 0], B2 s, B3 s], A s, []⟩) := by
 refine qb (N := 14) (m := 4) (dt := fun _ => none) [] ttOK Tryz.func365 rfl Tryz.call365 Tryz.ntmps365 rfl (by simp [qr, SV.wf, hY.wf]) rfl mixed (by kernel_rfl) ?_
 refine at_range ttOK rfl rfl rfl ?_
 have hlt : ∀ (seen : Array Nat), seen.toList.Nodup → (∀ m ∈ seen.toList, m < l.length) → seen.size ≤ l.length := fun seen h1 h2 => by
  simpa using qgc l.length seen.toList h1 h2
 refine AtLoop.mk ⟨σ × Array Nat, fun _ => [(5, .loc 4 0), (0, Y)], fun x => ⟨[.obj (mapO .i64 l), .cells 363 [.mp 0], B2 x.1, B3 x.1, .iter 0 l.length x.2 l.length], A x.1, []⟩,
  fun x => kof x.1 = x.2.toList.map (fun m => ((l[m]?).map (·.1)).getD 0) ∧ x.2.toList.Nodup ∧ ∀ m ∈ x.2.toList, m < l.length, fun x => l.length - x.2.size, (s0, #[]), ⟨by simp [h0], by simp, by simp⟩, ⟨rfl, rfl, trivial⟩, StLe.refl _, ?_, ?_⟩
 ·intro x _
  refine ⟨?_, rfl⟩
  simp [envWf, SV.wf, SV.wf_mono (show 4 ≤ 5 by omega) Y hY.wf]
  rfl
 rintro ⟨s, seen⟩ ⟨hk, hnd, hsm⟩
 simp only at hk hnd hsm ⊢
 refine at_next rfl rfl rfl ?_ ?_
 ·intro hall
  refine AtIf.mk (fun h => by cases h) (fun _ => ?_)
  refine qiy [.obj (mapO .i64 l), .cells 363 [.mp 0], B2 s, B3 s] rfl rfl rfl ?_ rfl ⟨rfl, s, ?_, rfl⟩
  ·have := hwf s
   simp only [wfB, List.length_cons, List.length_nil, this.1, this.2]
   rfl
  ·rw [hk]
   have hp : seen.toList.Perm (List.range l.length) := by
    refine (List.perm_ext_iff_of_nodup hnd List.nodup_range).2 (fun m => ?_)
    rw [List.mem_range]
    exact ⟨hsm m, fun hm => by simpa using hall m hm⟩
   refine (hp.map _).trans (List.Perm.of_eq ?_)
   apply List.ext_getElem?
   intro m
   simp only [List.getElem?_map]
   rcases Nat.lt_or_ge m l.length with h | h
   ·simp [h]
   ·simp [Nat.not_lt.2 h]
 ·intro m p hp hns
  refine AtIf.mk (fun _ => ?_) (fun h => by cases h)
  refine at_entry rfl rfl rfl hp ?_
  have hmlt : m < l.length := (List.getElem?_eq_some_iff.1 hp).1
  have hsz : (seen.push m).size ≤ l.length := hlt (seen.push m) (by simp [List.nodup_append, hnd]; intro a ha e; subst e; exact hns (by simpa using ha)) (by simp; rintro a (ha | ha); exact hsm a (by simpa using ha); omega)
  have hs := hY.does s p.1 (by rw [hk]; simp at hsz ⊢; omega)
  have hw := hwf s
  refine hs.frame0 [.iter 0 l.length (seen.push m) l.length] [] rfl (by simp) ?_ (by simp) rfl hY.wf ?_
  ·intro q hq
   simp only [List.mem_cons, List.not_mem_nil, or_false] at hq
   rcases hq with rfl | rfl | rfl | rfl
   ·rfl
   ·rfl
   ·exact hw.1
   ·exact hw.2
  rintro o s' ⟨rfl, s2, hk2, rfl⟩
  refine ⟨by simp [hB s s2], ?_⟩
  refine AtIf.mk (fun h => by cases h) (fun _ => ?_)
  refine ⟨(s2, seen.push m), ⟨?_, ?_, ?_⟩, ?_, ⟨rfl, rfl, trivial⟩, ?_⟩
  ·simp [hk2, hk, hp]
  ·simp [List.nodup_append, hnd]; intro a ha e; subst e; exact hns (by simpa using ha)
  ·simp; rintro a (ha | ha); exact hsm a (by simpa using ha); omega
  ·simp at hsz ⊢; omega
  ·simp only [List.append_nil]
   exact StLe.refl _
abbrev seqB2 (x : List Int × Option Addr × Nat × Nat) : Blk := .cells 73 [.v (.slice x.2.1 x.2.2.1 x.2.2.2)]
abbrev seqA (x : List Int × Option Addr × Nat × Nat) : List Acc := [⟨.slice x.2.1 x.2.2.1 x.2.2.2, 1, 3, x.1.map (D.int .i64)⟩]
theorem qlg (l : List (Int × Value)) (hL : l.length ≤ 1000000) :
  Meets Tryz.prog (fnS 396) [.v (.slice none 0 0), .fn (.func 365) [] [.loc 1 0]] ⟨[.obj (mapO .i64 l), .cells 363 [.mp 0]], [⟨.slice none 0 0, 1, 3, []⟩], []⟩
   (fun o S' => ∃ (ks : List Int) (x0 : OA) (n0 c0 : Nat), ks.Perm (l.map (·.1)) ∧ o = .ret (.v (.slice x0 n0 c0)) ∧ S' = ⟨[.obj (mapO .i64 l), .cells 363 [.mp 0]], [⟨.slice x0 n0 c0, 1, 3, ks.map (D.int .i64)⟩], []⟩) := by
 refine qb (N := 13) (m := 2) (dt := fun _ => none) [] ttOK Tryz.func396 rfl Tryz.call396 Tryz.ntmps396 rfl rfl rfl mixed (by kernel_rfl) ?_
 refine AtRange.mk ⟨[(2, .loc 2 0)], ⟨rfl, trivial⟩, rfl, rfl, ⟨_, _, _, rfl, Tryz.call365⟩, ?_⟩
 refine (keys1_spec l (.yld 3) seqB2 (fun _ => _) seqA (·.1) ⟨rfl, ?_⟩ (fun _ _ => ⟨rfl, rfl⟩) (fun _ => ⟨rfl, rfl⟩) ([], none, 0, 0) rfl).mono ?_
 ·rintro ⟨ks, x0, n0, c0⟩ k hlt
  simp only at hlt
  refine qcv (N := 13) (m := 4) (dt := fun _ => none) [] ttOK rfl rfl rfl rfl rfl rfl mixed (by kernel_rfl) (by kernel_rfl) ?_
  refine qmh ttOK 8 [.int .i64 k] rfl (by kernel_rfl) ⟨⟨rfl, rfl, rfl, rfl⟩, trivial⟩ rfl (by decide) (by decide) ?_
  intro a
  refine qjk ttOK 8 0 0 rfl (by kernel_rfl) rfl rfl rfl rfl (by simp; omega) (by simp; omega) ?_
  intro a' c'
  refine qiy [.obj (mapO .i64 l), .cells 363 [.mp 0], seqB2 (ks ++ [k], a', (ks.map (D.int .i64)).length + 1, c'), _] rfl rfl rfl rfl rfl ⟨rfl, (ks ++ [k], a', (ks.map (D.int .i64)).length + 1, c'), rfl, ?_⟩
  simp [stOf]
 ·rintro o S' ⟨rfl, ⟨ks, x0, n0, c0⟩, hp, rfl⟩
  refine ⟨⟨_, StLe.of (S' := ⟨[.obj (mapO .i64 l), .cells 363 [.mp 0]], seqA (ks, x0, n0, c0), []⟩) rfl (List.Sublist.refl _) (by simp) rfl rfl, Nat.le_refl _, rfl, ks, x0, n0, c0, hp, rfl, rfl⟩⟩
end

section
open Go.Tr Go Go.Proofs.Tryz
set_option maxRecDepth 10000
theorem qj3 {J : Nat → Prop} {w : World} : ∀ (ks : List Int) (cs : List Value), RepE J w 1 (ks.map (D.int .i64)) cs ↔ cs.take ks.length = ks.map (Value.int .i64)
 | [], cs => by simp [RepE]
 | k :: ks, cs => by
  simp only [List.map_cons, RepE, qj3 ks, RepC, List.length_cons]
  cases cs with
  | nil => simp
  | cons c cs => simp
def sorted (ks : List Int) : List Int := ks.mergeSort fun x y => decide (x ≤ y)
theorem qo2 {l l' : List Int} (h : l.Perm l') : sorted l = sorted l' := by
 have tr : ∀ a b c : Int, decide (a ≤ b) = true → decide (b ≤ c) = true → decide (a ≤ c) = true := by simp; omega
 have tot : ∀ a b : Int, (decide (a ≤ b) || decide (b ≤ a)) = true := by simp; omega
 refine List.Perm.eq_of_pairwise (le := fun x y : Int => x ≤ y) ?_ ?_ ?_ (((List.mergeSort_perm l _).trans h).trans (List.mergeSort_perm l' _).symm)
 ·intro a b _ _ h1 h2; omega
 ·exact (List.pairwise_mergeSort tr tot l).imp (by simp)
 ·exact (List.pairwise_mergeSort tr tot l').imp (by simp)
theorem sort_some (ks : List Int) (b cap : Nat) (hlen : ks.length < 4611686018427387904) :
  Meets Tryz.prog (fnS 364) [.v (.slice (some ⟨b, 0, none⟩) ks.length cap)] ⟨[], [⟨.slice (some ⟨b, 0, none⟩) ks.length cap, 1, 3, ks.map (D.int .i64)⟩], []⟩
   (fun o S' => o = .ret (.tup []) ∧ S' = ⟨[], [⟨.slice (some ⟨b, 0, none⟩) ks.length cap, 1, 3, (sorted ks).map (D.int .i64)⟩], []⟩) := by
 intro J ℓ w hG hJ
 have hl : ℓ = [] := by have := hG.len; simpa using this
 subst hl
 have hacc := (hG.accs _ (List.mem_singleton.2 rfl)).two (fun _ _ _ e => by cases e)
 rcases hacc with ⟨hv, _⟩ | ⟨g, cp, c, hv, hgb, hcs, hle, hre⟩
 ·cases hv
 simp only [List.length_map, Value.slice.injEq, Option.some.injEq, Addr.mk.injEq, and_true, true_and] at hv
 obtain ⟨rfl, rfl⟩ := hv
 simp only [List.length_map] at hle
 have ht := (qj3 ks c.toList).1 hre
 refine ⟨.enter 364 #[.slice (some ⟨b, 0, none⟩) ks.length cap], ?_, ?_⟩
 ·simp only [Cal.sem, SV.den, qd, Deferred.ofValue, Sem.run_bind, Sem.run_pure, Result.andThen_ok, invoke]
  exact Tryz.call364 _ _
 ·have hc := Any.slices_Sort_int sortLays b 0 cap ks w (holds_of_blockI hgb ht) (qag hgb) hlen
  refine CallsIn.mono ((callsIn_wide (n := 0)).2 hc) ?_
  rintro e w' ⟨rfl, n, os, rfl⟩
  have hsl : (sorted ks).length = ks.length := by simp [sorted, List.length_mergeSort]
  have hgr := grownBy_sortedI (w := w) (g := b) (n := n) (os := os) (sorted ks).toArray
  have hhs := heap_sortedI (n := n) (os := os) (sorted ks).toArray hgb
  have hgood := hG.regrow (j := 0) (a' := ⟨.slice (some ⟨b, 0, none⟩) ks.length cap, 1, 3, (sorted ks).map (D.int .i64)⟩) (w' := Go.Sort.grow (Go.Sort.putRow (Value.int .i64) (Go.Sort.ahead w n) b 0 (sorted ks).toArray) os) hJ rfl hgr.size
   (fun x hx hm => hgr.block x hx (fun e => hm (by simp only [Option.some.injEq] at e; simp [accBlk, e]))) (by simp [accBlk]) (fun x hx => ?_) (fun J' hj => ?_)
  ·refine ⟨[], .ret (.tup []), _, rfl, rfl, List.prefix_refl _, ⟨hgr.os, hgr.output, hgr.size, fun x hx hm => hgr.block x hx (fun e => hm ?_)⟩, hgood.1, hgood.2, rfl, rfl⟩
   simp only [Option.some.injEq] at e
   simp [mutS, mutL, accBlk, e]
  ·simp [accBlk] at hx
   subst hx
   exact ⟨.inl (by simp [accBlk]), qag hhs⟩
  ·refine .row ⟨b, cap, _, by simp [hsl], hhs, by simp [Go.Sort.putCells, hcs], by simp [hsl]; exact hle, ?_⟩
   rw [qj3, hsl, ← hsl]
   exact take_putCellsI c (sorted ks) (by rw [hsl, hcs]; simp; exact hle.1)
abbrev nilS : SV := .v (.slice none 0 0)
theorem insertion_none : Pure Tryz.prog (fnS 410) [nilS, iS 0, iS 0] [] (fun r out => r = .tup [] ∧ out = []) := by
 refine qb (N := 49) (m := 0) (dt := drawsOf [(4, .node [0, 1, 2, 3, 4, 5, 6, 7, 8, 9, 10, 11, 12] [(13, .leaf [14])], [13], []), (6, .node [0, 1, 2, 3, 4, 5, 6, 7, 8, 9, 10, 11, 12, 13, 14] [(15, .node [16] [(17, .leaf [])])], [17], [])]) [] ttOK Tryz.func410 rfl Tryz.call410 Tryz.ntmps410 rfl rfl rfl mixed (by kernel_rfl) ?_
 refine AtLoop.mk ⟨Unit, fun _ => [(6, iS 1), (2, iS 0)], fun _ => ⟨[], [], []⟩, fun _ => True, fun _ => 0, (), trivial, ⟨rfl, rfl, trivial⟩, StLe.refl _, fun _ _ => ⟨rfl, rfl⟩, ?_⟩
 intro _ _
 refine AtIf.mk (fun h => by cases h) (fun _ => ?_)
 exact AtRet.pure [] rfl (by simp) ⟨rfl, rfl⟩
theorem pdq_none (lim : Int) : Pure Tryz.prog (fnS 397) [nilS, iS 0, iS 0, iS lim] [] (fun r out => r = .tup [] ∧ out = []) := by
 refine qb (N := 134) (m := 0) (dt := drawsOf [(17, .node [0, 1, 2, 3, 4, 5, 6, 7, 8, 9, 10, 11] [(12, .leaf [13, 14])], [12], [])]) [] ttOK Tryz.func397 rfl Tryz.call397 Tryz.ntmps397 rfl rfl rfl mixed (by kernel_rfl) ?_
 refine AtLoop.mk ⟨Unit, fun _ => [(0, nilS), (1, iS 0), (2, iS 0)], fun _ => ⟨[], [], []⟩, fun _ => True, fun _ => 0, (), trivial, ⟨rfl, rfl, rfl, trivial⟩, StLe.refl _, fun _ _ => ⟨rfl, rfl⟩, ?_⟩
 intro _ _
 refine AtIf.mk (fun _ => ?_) (fun h => by cases h)
 refine insertion_none.at (by simp) rfl rfl ?_
 rintro r out ⟨rfl, rfl⟩
 exact AtRet.pure [] rfl (by simp) ⟨rfl, rfl⟩
theorem len64_zero : Pure Tryz.prog (fnS 420) [.v (.int .u64 0)] [] (fun r out => r = iS 0 ∧ out = []) := by
 refine qb (N := 25) (m := 0) (dt := fun _ => none) [] ttOK Tryz.func420 rfl Tryz.call420 Tryz.ntmps420 rfl rfl rfl mixed (by kernel_rfl) ?_
 refine AtIf.mk (fun h => by cases h) (fun _ => ?_)
 refine AtIf.mk (fun h => by cases h) (fun _ => ?_)
 refine AtIf.mk (fun h => by cases h) (fun _ => ?_)
 refine AtSem.val (.v (.int .u8 0)) rfl (fun _ _ => by kernel_rfl) ?_
 refine AtPure.val (.v (.int .u8 0)) rfl (fun _ _ => by kernel_rfl) ?_
 refine AtSem.val (.v (.int .i64 0)) rfl (fun _ _ => by kernel_rfl) ?_
 exact AtRet.pure [] rfl (by simp) ⟨rfl, rfl⟩
theorem len_zero : Pure Tryz.prog (fnS 398) [.v (.int .u64 0)] [] (fun r out => r = iS 0 ∧ out = []) := by
 refine qb (N := 8) (m := 0) (dt := fun _ => none) [] ttOK Tryz.func398 rfl Tryz.call398 Tryz.ntmps398 rfl rfl rfl mixed (by kernel_rfl) ?_
 refine AtIf.mk (fun h => by cases h) (fun _ => ?_)
 refine len64_zero.at (by simp) rfl rfl ?_
 rintro r out ⟨rfl, rfl⟩
 exact AtRet.pure [] rfl (by simp) ⟨rfl, rfl⟩
theorem sort_none : Pure Tryz.prog (fnS 364) [nilS] [] (fun r out => r = .tup [] ∧ out = []) := by
 refine qb (N := 11) (m := 0) (dt := fun _ => none) [] ttOK Tryz.func364 rfl Tryz.call364 Tryz.ntmps364 rfl rfl rfl mixed (by kernel_rfl) ?_
 refine AtSem.val (.v (.int .u64 0)) rfl (fun _ _ => by kernel_rfl) ?_
 refine len_zero.at (by simp) rfl rfl ?_
 rintro r out ⟨rfl, rfl⟩
 refine (pdq_none 0).at (by simp) rfl rfl ?_
 rintro r out ⟨rfl, rfl⟩
 exact AtRet.pure [] rfl (by simp) ⟨rfl, rfl⟩
theorem acc_cases {P : Program} {cl : Cal} {args : List SV} {x0 : Option Addr} {n0 c0 : Nat} {k : Nat} {T : TypeId} {ds : List D} {R : Out → St → Prop} (h1 : Value.slice x0 n0 c0 = .slice none 0 0 → ds = [] → Meets P cl args ⟨[], [⟨.slice x0 n0 c0, k, T, ds⟩], []⟩ R) (h2 : ∀ b cap, Value.slice x0 n0 c0 = .slice (some ⟨b, 0, none⟩) ds.length cap → Meets P cl args ⟨[], [⟨.slice x0 n0 c0, k, T, ds⟩], []⟩ R) : Meets P cl args ⟨[], [⟨.slice x0 n0 c0, k, T, ds⟩], []⟩ R := by
 intro J ℓ w hG hJ
 rcases (hG.accs _ (List.mem_singleton.2 rfl)).two (fun _ _ _ e => by cases e) with ⟨hv, hd⟩ | ⟨b, cap, c, hv, _⟩
 ·exact h1 hv hd J ℓ w hG hJ
 ·exact h2 b cap hv J ℓ w hG hJ
theorem sort_spec (ks : List Int) (x0 : OA) (n0 c0 : Nat) (hlen : ks.length < 4611686018427387904) :
  Meets Tryz.prog (fnS 364) [.v (.slice x0 n0 c0)] ⟨[], [⟨.slice x0 n0 c0, 1, 3, ks.map (D.int .i64)⟩], []⟩ (fun o S' => o = .ret (.tup []) ∧ S' = ⟨[], [⟨.slice x0 n0 c0, 1, 3, (sorted ks).map (D.int .i64)⟩], []⟩) := by
 refine acc_cases (fun hv hd => ?_) (fun b cap hv => ?_)
 ·have hk : ks = [] := by simpa using hd
  subst hk
  simp only [Value.slice.injEq] at hv
  obtain ⟨rfl, rfl, rfl⟩ := hv
  refine sort_none.at (by simp) rfl rfl ?_
  rintro r out ⟨rfl, rfl⟩
  exact ⟨rfl, by simp [sorted]⟩
 ·simp only [Value.slice.injEq, List.length_map] at hv
  obtain ⟨rfl, rfl, rfl⟩ := hv
  exact sort_some ks b _ hlen
theorem qnk (l : List (Int × Value)) (hL : l.length ≤ 1000000) :
  Meets Tryz.prog (fnS 363) [.fn (.func 365) [] [.loc 1 0]] ⟨[.obj (mapO .i64 l), .cells 363 [.mp 0]], [], []⟩
   (fun o S' => ∃ (ks : List Int) (x0 : OA) (n0 c0 : Nat), ks.Perm (l.map (·.1)) ∧ o = .ret (.v (.slice x0 n0 c0)) ∧ S' = ⟨[.obj (mapO .i64 l), .cells 363 [.mp 0]], [⟨.slice x0 n0 c0, 1, 3, ks.map (D.int .i64)⟩], []⟩) := by
 refine qb (N := 5) (m := 2) (dt := fun _ => none) [] ttOK Tryz.func363 rfl Tryz.call363 Tryz.ntmps363 rfl rfl rfl mixed (by kernel_rfl) ?_
 refine (Meets.nilAcc 1 3 (qlg l hL)).frame0 [] [] rfl (by simp) ?_ (by simp) rfl rfl ?_
 ·intro q hq
  simp only [List.mem_cons, List.not_mem_nil, or_false] at hq
  rcases hq with rfl | rfl <;> rfl
 rintro o s' ⟨ks, x0, n0, c0, hp, rfl, rfl⟩
 refine ⟨rfl, ?_⟩
 exact qiy [.obj (mapO .i64 l), .cells 363 [.mp 0]] rfl rfl rfl rfl rfl ⟨ks, x0, n0, c0, hp, rfl, rfl⟩
theorem qo1 (l : List (Int × Value)) (hL : l.length ≤ 1000000) :
  Meets Tryz.prog (fnS 321) [.fn (.func 365) [] [.loc 1 0]] ⟨[.obj (mapO .i64 l), .cells 363 [.mp 0]], [], []⟩
   (fun o S' => ∃ (x0 : OA) (n0 c0 : Nat), o = .ret (.v (.slice x0 n0 c0)) ∧ S' = ⟨[.obj (mapO .i64 l), .cells 363 [.mp 0]], [⟨.slice x0 n0 c0, 1, 3, (sorted (l.map (·.1))).map (D.int .i64)⟩], []⟩) := by
 refine qb (N := 9) (m := 2) (dt := fun _ => none) [] ttOK Tryz.func321 rfl Tryz.call321 Tryz.ntmps321 rfl rfl rfl mixed (by kernel_rfl) ?_
 refine (qnk l hL).frame0 [] [] rfl (by simp) ?_ (by simp) rfl rfl ?_
 ·intro q hq
  simp only [List.mem_cons, List.not_mem_nil, or_false] at hq
  rcases hq with rfl | rfl <;> rfl
 rintro o s' ⟨ks, x0, n0, c0, hp, rfl, rfl⟩
 refine ⟨rfl, ?_⟩
 have hks : ks.length ≤ 1000000 := by rw [hp.length_eq, List.length_map]; exact hL
 refine (sort_spec ks x0 n0 c0 (by omega)).frame0 [.obj (mapO .i64 l), .cells 363 [.mp 0]] [] rfl (by simp) (by simp) (by simp) rfl rfl ?_
 rintro o s' ⟨rfl, rfl⟩
 refine ⟨rfl, ?_⟩
 refine qiy [.obj (mapO .i64 l), .cells 363 [.mp 0]] rfl rfl rfl rfl rfl ⟨x0, n0, c0, rfl, ?_⟩
 have hs : sorted ks = sorted (l.map (·.1)) := qo2 hp
 rw [hs]; rfl
end

section
open Go.Tr Go Go.Proofs.Tryz
set_option maxRecDepth 10000
theorem keys_spec (l : List (Int × Value)) : Meets Tryz.prog (fnS 322) [.mp 0] ⟨[.obj (mapO .i64 l)], [], []⟩
  (fun o S' => o = .ret (.fn (.func 365) [] [.loc 1 0]) ∧ S' = ⟨[.obj (mapO .i64 l), .cells 363 [.mp 0]], [], []⟩) := by
 refine qb (N := 4) (m := 1) (dt := fun _ => none) [] ttOK Tryz.func322 rfl Tryz.call322 Tryz.ntmps322 rfl rfl rfl mixed (by kernel_rfl) ?_
 exact AtRet.mk ⟨⟨[.obj (mapO .i64 l), .cells 363 [.mp 0]], [], []⟩, StLe.to _ _ rfl (by simp) rfl rfl, Nat.le_of_ble_eq_true rfl, rfl, rfl, rfl⟩
def numsOf (f : Tm → Int → Int × Bool) (t : Tm) : List Int := sorted ((walkF (noteStep f) t [] 0).map (·.1))
theorem qh5 (n : Int) (v : Value) : ∀ (l : List (Int × Value)), (putAt n v l).length ≤ l.length + 1
 | [] => by simp [putAt]
 | (k, u) :: r => by
  simp only [putAt]
  split
  ·simp
  ·simp; exact qh5 n v r
mutual
def Tm.count : Tm → Nat
 | .mk _ _ _ args => qn args + 1
def qn : List Tm → Nat
 | [] => 0
 | t :: ts => t.count + qn ts
 end
theorem qi2 (f : Tm → Int → Int × Bool) (l : List (Int × Value)) (t : Tm) (b : Int) : (noteStep f l t b).length ≤ l.length + 1 := by
 unfold noteStep; split
 ·exact qh5 _ _ _
 ·omega
mutual
theorem qh9 (f : Tm → Int → Int × Bool) : ∀ (t : Tm) (l : List (Int × Value)) (b : Int), (walkF (noteStep f) t l b).length ≤ l.length + t.count
 | .mk o h n args, l, b => by
  simp only [walkF, Tm.count]
  have h1 := qia f o args 0 (noteStep f l (.mk o h n args) b) b
  have h2 := qi2 f l (.mk o h n args) b
  omega
theorem qia (f : Tm → Int → Int × Bool) : ∀ (o : Int) (ts : List Tm) (i : Nat) (l : List (Int × Value)) (b : Int), (walkL (noteStep f) o ts i l b).length ≤ l.length + qn ts
 | o, [], i, l, b => by simp [walkL, qn]
 | o, t :: ts, i, l, b => by
  simp only [walkL, qn]
  have h1 := qh9 f t l (b + under o i)
  have h2 := qia f o ts (i + 1) (walkF (noteStep f) t l (b + under o i)) b
  omega
 end
mutual
theorem qeg : ∀ (t : Tm) (d k : Int), (properF t d k).1 = true → (properF t d k).2 = k + t.count ∧ d + t.height ≤ 41
 | .mk o h n args, d, k, hp => by
  rw [qhc] at hp ⊢
  split at hp
  ·cases hp
  ·split at hp
   ·rename_i h1 h2
    have h3 := qgy args (d + 1) (k + 1) hp
    rw [if_neg h1, if_pos h2]
    simp only [Tm.args, Tm.count, Tm.height] at h3 ⊢
    refine ⟨by omega, ?_⟩
    have := h3.2
    rcases this with h4 | h4
    ·omega
    ·subst h4; simp only [qp]; omega
   ·cases hp
theorem qgy : ∀ (ts : List Tm) (d k : Int), (properL ts d k).1 = true → (properL ts d k).2 = k + qn ts ∧ (d + qp ts ≤ 41 ∨ ts = [])
 | [], d, k, _ => by simp [properL, qn]
 | t :: ts, d, k, hp => by
  simp only [properL] at hp ⊢
  cases hq : properF t d k with
  | mk b k' =>
   rw [hq] at hp
   cases b with
   | false => cases hp
   | true =>
    simp only at hp ⊢
    have h1 := qeg t d k (by rw [hq])
    rw [hq] at h1
    have h2 := qgy ts d k' hp
    simp only [qn, qp] at h1 h2 ⊢
    refine ⟨by omega, .inl ?_⟩
    rcases h2.2 with h3 | h3
    ·omega
    ·subst h3; simp only [qp]; omega
 end
theorem qkx {t : Tm} (h : isProper t = true) : t.count ≤ 600 ∧ t.height ≤ 40 := by
 have h1 := qeg t 1 0 h
 have h2 := qlh t 1 0 (by omega) (by omega)
 have h3 := h2.2.2 h
 omega
abbrev intsD (l : List Int) : D := .sl 1 (l.map (D.int .i64))
abbrev fS (g : Nat) : SV := .fn (.func g) [] []
theorem qex (g : Nat) (f : Tm → Int → Int × Bool) (hf : AsksOK (fS g) f) (t : Tm) (a : OA) (c : Nat) :
  Pure Tryz.prog (fnS 245) [tmS t a c, fS g] [tmR t a c] (fun r out => (isProper t = false ∧ r = .tup [nilS, iS 2] ∧ out = []) ∨
   (isProper t = true ∧ ∃ v, r = .tup [.v v, iS 0] ∧ out = [(v, intsD (numsOf f t))])) := by
 refine qb (N := 20) (m := 0) (dt := fun _ => none) [] ttOK Tryz.func245 rfl Tryz.call245 Tryz.ntmps245 rfl rfl rfl mixed (by kernel_rfl) ?_
 refine (qb7 t a c).at (by simp) rfl rfl ?_
 rintro r out ⟨rfl, rfl⟩
 refine AtIf.mk (fun h => ?_) (fun h => ?_)
 ·cases hp : isProper t with
  | true => rw [hp] at h; cases h
  | false => exact AtRet.pure [] rfl (by simp) (.inl ⟨rfl, by simp, rfl⟩)
 cases hp : isProper t with
 | false => rw [hp] at h; cases h
 | true =>
 obtain ⟨hc1, hc2⟩ := qkx hp
 refine qfi .i64 ?_
 have hv := each_spec3 (.fn (.func 320) [] [.loc 0 0, .loc 2 0]) rfl (fun _ : List (Int × Value) => .cells 325 [fS g]) (fun l => .obj (mapO .i64 l)) (fun _ => .cells 363 [.mp 1]) (fun _ => True) (noteStep f)
  (fun _ _ => ⟨rfl, rfl, rfl⟩) (fun _ => ⟨rfl, rfl, rfl⟩) (fun _ => ⟨rfl, rfl, rfl⟩) rfl
  (fun l t b a c _ hb hb1 => (qml (fS g) rfl f hf t a c b hb hb1 l).mono (by rintro o S' ⟨rfl, rfl⟩; exact ⟨rfl, trivial, rfl⟩)) t [] 0 a c trivial (by omega) (by omega)
 refine hv.frame [1, 2, 3] rfl rfl (by decide) rfl ?_ (by simp) rfl rfl ?_
 ·intro p q hp
  match p, hp with
  | 0, hp => simp at hp; subst hp; exact ⟨1, rfl, rfl, rfl⟩
  | 1, hp => simp at hp; subst hp; exact ⟨2, rfl, rfl, rfl⟩
  | 2, hp => simp at hp; subst hp; exact ⟨3, rfl, rfl, rfl⟩
 rintro o s' ⟨rfl, _, rfl⟩
 have hl := qh9 f t [] 0
 generalize hl' : walkF (noteStep f) t [] 0 = l at hl ⊢
 refine ⟨rfl, rfl, [.cells 325 [fS g], .obj (mapO .i64 l), .cells 363 [.mp 2]], rfl, ?_⟩
 refine (keys_spec l).frameG [2] (rest := []) rfl rfl (List.Perm.refl _) (by decide) rfl ?_ (by simp) rfl rfl ?_
 ·intro p q hp
  match p, hp with
  | 0, hp => simp at hp; subst hp; exact ⟨2, rfl, rfl, rfl⟩
 rintro o s' ⟨rfl, rfl⟩ _ _
 refine ⟨[.obj (mapO .i64 l)], [.cells 363 [.mp 0]], rfl, rfl, ?_⟩
 refine (qo1 l (by simp at hl; omega)).frameG [2, 4] (rest := []) rfl rfl (List.Perm.refl _) (by decide) rfl ?_ (by simp) rfl rfl ?_
 ·intro p q hp
  match p, hp with
  | 0, hp => simp at hp; subst hp; exact ⟨2, rfl, rfl, rfl⟩
  | 1, hp => simp at hp; subst hp; exact ⟨4, rfl, rfl, rfl⟩
 rintro o s' ⟨x0, n0, c0, rfl, rfl⟩ _ _
 refine ⟨_, [], (List.append_nil _).symm, rfl, ?_⟩
 refine qkh [(.slice x0 n0 c0, intsD (numsOf f t))] rfl (fun p hp => .inr ?_) (.inr ⟨rfl, _, rfl, rfl⟩)
 simp only [List.mem_singleton] at hp
 subst hp
 refine ⟨_, List.mem_append.2 (.inl (List.mem_singleton.2 rfl)), ?_⟩
 simp only [numsOf, hl', accVal]
theorem free_spec (t : Tm) (a : OA) (c : Nat) :
  Pure Tryz.prog (fnS 317) [tmS t a c] [tmR t a c] (fun r out => (isProper t = false ∧ r = .tup [nilS, iS 2] ∧ out = []) ∨
   (isProper t = true ∧ ∃ v, r = .tup [.v v, iS 0] ∧ out = [(v, intsD (numsOf freeOf t))])) := by
 refine qb (N := 8) (m := 0) (dt := fun _ => none) [] ttOK Tryz.func317 rfl Tryz.call317 Tryz.ntmps317 rfl rfl rfl mixed (by kernel_rfl) ?_
 refine (qex 361 freeOf ql4 t a c).at (by simp) rfl rfl ?_
 rintro r out (⟨hp, rfl, rfl⟩ | ⟨hp, v, rfl, rfl⟩)
 ·exact AtRet.pure [] rfl (by simp) (.inl ⟨hp, rfl, rfl⟩)
 ·exact AtRet.pure [(v, intsD (numsOf freeOf t))] rfl (by simp) (.inr ⟨hp, v, rfl, rfl⟩)
end

section
open Go.Tr Go Go.Proofs.Tryz
set_option maxRecDepth 10000
def all2 (p : Tm → Tm → Bool) : List Tm → List Tm → Bool
 | a :: us, b :: vs => p a b && all2 p us vs
 | _, _ => true
mutual
def sameF : Tm → Tm → Bool
 | .mk o h n us, b => ((o == b.op && h == b.hd) && n == b.n) && (us.length == b.args.length && sameL us b.args)
def sameL : List Tm → List Tm → Bool
 | u :: us, v :: vs => sameF u v && sameL us vs
 | _, _ => true
 end
theorem sameF_eq (a b : Tm) : sameF a b = (((a.op == b.op && a.hd == b.hd) && a.n == b.n) && (a.args.length == b.args.length && sameL a.args b.args)) := by cases a; rfl
end

section
open Go.Tr Go Go.Proofs.Tryz
set_option maxRecDepth 10000
def lookI : List (Int × Int) → Int → Option Int
 | [], _ => none
 | (k, v) :: r, n => if n = k then some v else lookI r n
def putI (n v : Int) : List (Int × Int) → List (Int × Int)
 | [] => [(n, v)]
 | (k, u) :: r => if n = k then (k, v) :: r else (k, u) :: putI n v r
end

section
open Go.Tr Go Go.Proofs.Tryz
set_option maxRecDepth 10000
end

section
open Go.Tr Go Go.Proofs.Tryz
set_option maxRecDepth 10000
section
variable {σ : Type} (vis : σ → Tm → Int → Bool × σ) (fx : Int)
end
structure Visits {σ : Type} (vis : σ → Tm → Int → Bool × σ) (Y : SV) (B0 B1 B2 B3 : σ → Blk) (xr : Value × D) (I : σ → Prop) : Prop where
 wf0 : Y.wf 4 = true
 wf : ∀ s, (B0 s).wf 4 = true ∧ (B1 s).wf 4 = true ∧ (B2 s).wf 4 = true ∧ (B3 s).wf 4 = true
 mt : ∀ s s', (B0 s).mut = (B0 s').mut ∧ (B1 s).mut = (B1 s').mut ∧ (B2 s).mut = (B2 s').mut ∧ (B3 s).mut = (B3 s').mut
 does : ∀ s t k a c, I s → Meets Tryz.prog (.val Y) [tmS t a c, iS k] ⟨[B0 s, B1 s, B2 s, B3 s], [], [tmR t a c, xr]⟩ (fun o S' => o = .ret (bS (vis s t k).1) ∧ ((vis s t k).1 = true → I (vis s t k).2) ∧ S' = ⟨[B0 (vis s t k).2, B1 (vis s t k).2, B2 (vis s t k).2, B3 (vis s t k).2], [], []⟩)
end

section
open Go.Tr Go Go.Proofs.Tryz
set_option maxRecDepth 10000
noncomputable def rfOf : Code → Option (Code × Code)
 | .rangeFunc _ _ a b => some (a, b)
 | .seq a b => match rfOf a with
  | some r => some r
  | none => rfOf b
 | .cond _ t e => match rfOf t with
  | some r => some r
  | none => rfOf e
 | .block _ b => rfOf b
 | .loop b => rfOf b
 | .scope b => rfOf b
 | _ => none
noncomputable def rfAs (f : Func) : Code := match f.body with
 | none => .skip
 | some c => match rfOf c with
  | some (a, _) => a
  | none => .skip
noncomputable def rfBody (f : Func) : Code := match f.body with
 | none => .skip
 | some c => match rfOf c with
  | some (_, b) => b
  | none => .skip
end

section
open Go.Tr Go Go.Proofs.Tryz
set_option maxRecDepth 10000
mutual
def okAll : Tm → Bool
 | .mk o h n us => okNode o h n us.length && okAllL us
def okAllL : List Tm → Bool
 | [] => true
 | u :: us => okAll u && okAllL us
 end
theorem qln : ∀ {us : List Tm} {u : Tm}, okAllL us = true → u ∈ us → okAll u = true
 | [], u, _, h => by simp at h
 | v :: us, u, h, hm => by
  simp only [okAllL, Bool.and_eq_true] at h
  rcases List.mem_cons.1 hm with e | e
  ·subst e; exact h.1
  ·exact qln h.2 e
theorem okAll_arg {t u : Tm} (h : okAll t = true) (hu : u ∈ t.args) : okAll u = true := by
 cases t; simp only [okAll, Bool.and_eq_true] at h; exact qln h.2 hu
mutual
theorem qah : ∀ t : Tm, 1 ≤ t.count
 | .mk _ _ _ us => by simp only [Tm.count]; omega
theorem qa3 : ∀ t : Tm, 1 ≤ t.height
 | .mk _ _ _ us => by simp only [Tm.height]; omega
 end
mutual
theorem qji : ∀ (t : Tm) (d k : Int), (properF t d k).1 = true ↔ okAll t = true ∧ k + t.count ≤ 600 ∧ d + t.height ≤ 41
 | .mk o h n us, d, k => by
  have hl := qkr us (d + 1) (k + 1)
  simp only [properF, Tm.count, Tm.height, okAll, Bool.and_eq_true]
  by_cases h1 : 600 < k + 1 ∨ 40 < d
  ·rw [if_pos h1]
   simp only [Bool.false_eq_true, false_iff]
   omega
  ·rw [if_neg h1]
   by_cases h2 : okNode o h n us.length = true
   ·rw [if_pos h2, hl]
    simp only [h2, true_and]
    constructor
    ·rintro ⟨h3, h4, h5⟩
     refine ⟨h3, ?_, ?_⟩
     ·rcases h4 with h4 | rfl
      ·omega
      ·simp only [qn]; omega
     rcases h5 with rfl | h5
     ·simp only [qp]; omega
     ·omega
    ·rintro ⟨h3, h4, h5⟩
     exact ⟨h3, .inl (by omega), .inr (by omega)⟩
   ·rw [if_neg h2]
    simp [h2]
theorem qkr : ∀ (us : List Tm) (d k : Int), (properL us d k).1 = true ↔ okAllL us = true ∧ (k + qn us ≤ 600 ∨ us = []) ∧ (us = [] ∨ d + qp us ≤ 41)
 | [], d, k => by simp [properL, okAllL]
 | u :: us, d, k => by
  have h1 := qji u d k
  have hc := fun h => qeg u d k h
  have hp := qah u
  have hq := qa3 u
  simp only [properL, okAllL, qn, qp, Bool.and_eq_true]
  cases hu : properF u d k with
  | mk b k' =>
   rw [hu] at h1 hc
   cases b with
   | false =>
    simp only [Bool.false_eq_true, false_iff] at h1 ⊢
    rintro ⟨⟨h2, h3⟩, h4, h5⟩
    simp at h4 h5
    exact h1 ⟨h2, by omega, by omega⟩
   | true =>
    have h1 := h1.1 rfl
    have hk := (hc rfl).1
    simp only at hk
    subst hk
    simp only
    rw [qkr us d (k + u.count)]
    simp only [h1.1, true_and, reduceCtorEq, or_false, false_or]
    constructor
    ·rintro ⟨h2, h3, h4⟩
     refine ⟨h2, ?_, ?_⟩
     ·rcases h3 with h3 | rfl
      ·omega
      ·simp only [qn]; omega
     ·rcases h4 with rfl | h4
      ·simp only [qp]; omega
      ·omega
    ·rintro ⟨h2, h3, h4⟩
     exact ⟨h2, .inl (by omega), .inr (by omega)⟩
 end
theorem qbb (t : Tm) : isProper t = true ↔ okAll t = true ∧ t.count ≤ 600 ∧ t.height ≤ 40 := by
 rw [isProper, qji]
 constructor
 ·rintro ⟨h1, h2, h3⟩; exact ⟨h1, by omega, by omega⟩
 ·rintro ⟨h1, h2, h3⟩; exact ⟨h1, by omega, by omega⟩
end

section
open Go.Tr Go Go.Proofs.Tryz
set_option maxRecDepth 10000
theorem qbo {α : Type} {l : List α} {i : Nat} {x : α} (h : l[i]? = some x) : l.drop i = x :: l.drop (i + 1) := by
 obtain ⟨hlt, he⟩ := List.getElem?_eq_some_iff.1 h
 rw [List.drop_eq_getElem_cons hlt, he]
mutual
def formedF : Tm → Int → Bool
 | .mk o h n us, d => if 40 < d then false else okNode o h n us.length && formedL us (d + 1)
def formedL : List Tm → Int → Bool
 | [], _ => true
 | u :: us, d => formedF u d && formedL us d
 end
theorem formedF_eq (t : Tm) (d : Int) : formedF t d = if 40 < d then false else okNode t.op t.hd t.n t.args.length && formedL t.args (d + 1) := by cases t; rfl
theorem qoz (t : Tm) : ∀ (d : Int) (a : OA) (c : Nat), 0 ≤ d → d ≤ 41 → Pure Tryz.prog (fnS 114) [tmS t a c, iS d] [tmR t a c] (fun r out => r = bS (formedF t d) ∧ out = []) := by
 induction t using Tm.ind with
 | h t ih =>
 intro d a c hd0 hd1
 refine qa4 fun hok => ?_
 have hB : (Tm.encL t.args).length ≤ 1152921504606846976 := (hok _ (List.mem_cons_self ..)).1
 have hlen := Tm.encL_length t.args
 have hF := formedF_eq t d
 refine qb (N := 94) (m := 0) (dt := fun _ => none) [3] ttOK Tryz.func114 rfl Tryz.call114 Tryz.ntmps114 rfl rfl rfl mixed (by kernel_rfl) ?_
 refine AtIf.mk (fun h => ?_) (fun h => ?_)
 ·simp only [decide_eq_true_eq] at h
  exact AtRet.pure [] rfl (by simp) ⟨by rw [hF, if_pos h], rfl⟩
 have h : ¬ 40 < d := by simpa using h
 rw [if_neg h] at hF
 refine AtCut.mk ⟨Unit, fun _ => [(2, .loc 0 0), (1, iS d)],
   fun _ => ⟨[.cells 41 [iS t.op, iS t.hd, iS t.n, .v (.slice a (Tm.encL t.args).length c)]], [], [tmR t a c]⟩,
   fun _ => okNode t.op t.hd t.n t.args.length = true, fun _ _ => ⟨rfl, rfl⟩, ?_, ?_⟩
 ·have bad : okNode t.op t.hd t.n t.args.length = false → formedF t d = false := fun h => by rw [hF, h]; rfl
  refine AtIf.mk (fun h1 => ?_) (fun h1 => AtIf.mk (fun h2 => ?_) (fun h2 => AtIf.mk (fun h3 => ?_) (fun h3 => AtIf.mk (fun h4 => ?_) (fun h4 => ?_))))
  ·simp only [beq_iff_eq] at h1
   refine AtIf.mk (fun h5 => ?_) (fun h5 => ?_)
   ·refine AtRet.pure [] rfl (by simp) ⟨?_, rfl⟩
    rw [bad]
    simp only [okNode, h1]
    simp [hlen] at h5 ⊢
    first | omega | (intros; simp_all) | simp_all
   ·refine ⟨(), ?_, ⟨rfl, rfl, trivial⟩, StLe.refl _⟩
    simp only [okNode, h1]
    simp [hlen] at h5 ⊢
    first | omega | (intros; simp_all) | simp_all
  ·simp only [beq_iff_eq] at h2
   refine AtIf.mk (fun h5 => ?_) (fun h5 => ?_)
   ·refine AtRet.pure [] rfl (by simp) ⟨?_, rfl⟩
    rw [bad]
    simp only [okNode, h2]
    simp [hlen] at h5 ⊢
    omega
   ·refine ⟨(), ?_, ⟨rfl, rfl, trivial⟩, StLe.refl _⟩
    simp only [okNode, h2]
    simp [hlen] at h5 ⊢
    omega
  ·simp only [beq_iff_eq] at h3
   refine AtIf.mk (fun h5 => ?_) (fun h5 => ?_)
   ·refine AtRet.pure [] rfl (by simp) ⟨?_, rfl⟩
    rw [bad]
    simp only [okNode, h3]
    simp [hlen] at h5 ⊢
    omega
   ·refine ⟨(), ?_, ⟨rfl, rfl, trivial⟩, StLe.refl _⟩
    simp only [okNode, h3]
    simp [hlen] at h5 ⊢
    omega
  ·simp only [beq_iff_eq] at h4
   refine AtIf.mk (fun h5 => ?_) (fun h5 => ?_)
   ·refine AtRet.pure [] rfl (by simp) ⟨?_, rfl⟩
    rw [bad]
    simp only [okNode, h4]
    simp at h5 ⊢
    omega
   ·refine ⟨(), ?_, ⟨rfl, rfl, trivial⟩, StLe.refl _⟩
    simp only [okNode, h4]
    simp at h5 ⊢
    omega
  ·simp only [beq_eq_false_iff_ne] at h1 h2 h3 h4
   refine AtRet.pure [] rfl (by simp) ⟨?_, rfl⟩
   rw [bad]
   simp [okNode, h1, h2, h3, h4]
 intro _ hok2
 rw [hok2, Bool.true_and] at hF
 refine AtLoop.mk ⟨Nat, fun i => [(5, iS i), (2, .loc 0 0), (1, iS d)], fun _ => ⟨[.cells 41 [iS t.op, iS t.hd, iS t.n, .v (.slice a (Tm.encL t.args).length c)]], [], [tmR t a c]⟩,
  fun i => i ≤ t.args.length ∧ formedF t d = formedL (t.args.drop i) (d + 1), fun i => t.args.length - i, 0, ⟨Nat.zero_le _, hF⟩, ⟨rfl, rfl, rfl, trivial⟩, StLe.refl _, fun _ _ => ⟨rfl, rfl⟩, ?_⟩
 rintro i ⟨hi, hinv⟩
 refine AtIf.mk (fun h1 => ?_) (fun h1 => ?_)
 ·simp only [decide_eq_true_eq, hlen] at h1
  obtain ⟨x, hx⟩ : ∃ x, t.args[i]? = some x := ⟨_, List.getElem?_eq_getElem (by omega)⟩
  refine qh ttOK 0 rfl rfl rfl rfl (by omega) (by rw [Int.toNat_natCast]; exact Tm.encL_get hx) ?_
  intro a1 c1 _ _
  have hw2 : IntKind.i64.wrap (d + 1) = d + 1 := wrap_i64 (by omega) (by omega)
  have hsp := ih x (List.mem_of_getElem? hx) (d + 1) a1 c1 (by omega) (by omega)
  rw [← hw2] at hsp
  refine hsp.at (by simp) rfl rfl ?_
  rintro r out ⟨rfl, rfl⟩
  rw [qbo hx, formedL, ← hw2] at hinv
  refine AtIf.mk (fun h2 => ?_) (fun h2 => ?_)
  ·have h2 : formedF x (IntKind.i64.wrap (d + 1)) = false := by simpa using h2
   exact AtRet.pure [] rfl (by simp) ⟨by rw [hinv, h2]; rfl, rfl⟩
  ·have h2 : formedF x (IntKind.i64.wrap (d + 1)) = true := by simpa using h2
   have hw3 : IntKind.i64.wrap (i + 1) = ((i + 1 : Nat) : Int) := wrap_i64 (by omega) (by omega)
   exact ⟨i + 1, ⟨by omega, by rw [hinv, h2, hw2]; rfl⟩, by simp only; omega, ⟨by rw [← hw3]; rfl, rfl, rfl, trivial⟩, StLe.to _ _ rfl (by simp) rfl rfl⟩
 ·simp only [decide_eq_false_iff_not, hlen] at h1
  rw [List.drop_of_length_le (by omega)] at hinv
  exact AtRet.pure [] rfl (by simp) ⟨by rw [hinv]; rfl, rfl⟩
mutual
def nodesF : Tm → Int → Int
 | .mk _ _ _ us, m => if m + 1 < nodesL us m 1 then m + 1 else nodesL us m 1
def nodesL : List Tm → Int → Int → Int
 | [], _, n => n
 | u :: us, m, n => if n ≤ m then nodesL us m (n + nodesF u (m - n)) else n
 end
theorem nodesF_eq (t : Tm) (m : Int) : nodesF t m = if m + 1 < nodesL t.args m 1 then m + 1 else nodesL t.args m 1 := by cases t; rfl
mutual
theorem qks : ∀ (t : Tm) (m : Int), 0 ≤ m → 1 ≤ nodesF t m ∧ nodesF t m ≤ m + 1
 | .mk _ _ _ us, m, h => by
  have := qog us m 1 (by omega) (by omega)
  simp only [nodesF]
  split <;> omega
theorem qog : ∀ (us : List Tm) (m n : Int), 1 ≤ n → n ≤ m + 1 → n ≤ nodesL us m n ∧ nodesL us m n ≤ m + 1
 | [], m, n, h1, h2 => by simp only [nodesL]; omega
 | u :: us, m, n, h1, h2 => by
  simp only [nodesL]
  split
  ·have h3 := qks u (m - n) (by omega)
   have h4 := qog us m (n + nodesF u (m - n)) (by omega) (by omega)
   omega
  ·omega
 end
theorem nodes_spec (t : Tm) : ∀ (m : Int) (a : OA) (c : Nat), 0 ≤ m → m ≤ 1000000 → Pure Tryz.prog (fnS 113) [tmS t a c, iS m] [tmR t a c] (fun r out => r = iS (nodesF t m) ∧ out = []) := by
 induction t using Tm.ind with
 | h t ih =>
 intro m a c hm0 hm1
 refine qa4 fun hok => ?_
 have hB : (Tm.encL t.args).length ≤ 1152921504606846976 := (hok _ (List.mem_cons_self ..)).1
 have hlen := Tm.encL_length t.args
 refine qb (N := 34) (m := 0) (dt := fun _ => none) [] ttOK Tryz.func113 rfl Tryz.call113 Tryz.ntmps113 rfl rfl rfl mixed (by kernel_rfl) ?_
 refine AtLoop.mk ⟨Nat × Int, fun x => [(6, iS x.1), (5, iS x.2), (2, .loc 0 0), (1, iS m)], fun _ => ⟨[.cells 41 [iS t.op, iS t.hd, iS t.n, .v (.slice a (Tm.encL t.args).length c)]], [], [tmR t a c]⟩,
  fun x => x.1 ≤ t.args.length ∧ 1 ≤ x.2 ∧ x.2 ≤ m + 1 ∧ nodesL t.args m 1 = nodesL (t.args.drop x.1) m x.2, fun x => t.args.length - x.1, (0, 1), ⟨Nat.zero_le _, Int.le_refl _, by simp only; omega, rfl⟩, ⟨rfl, rfl, rfl, rfl, trivial⟩, StLe.refl _, fun _ _ => ⟨rfl, rfl⟩, ?_⟩
 rintro ⟨i, n⟩ ⟨hi, hn0, hn1, hinv⟩
 simp only at hi hn0 hn1 hinv ⊢
 refine AtIf.mk (fun h1 => ?_) (fun h1 => ?_)
 ·simp only [Bool.and_eq_true, decide_eq_true_eq, hlen] at h1
  obtain ⟨x, hx⟩ : ∃ x, t.args[i]? = some x := ⟨_, List.getElem?_eq_getElem (by omega)⟩
  refine qh ttOK 0 rfl rfl rfl rfl (by omega) (by rw [Int.toNat_natCast]; exact Tm.encL_get hx) ?_
  intro a1 c1 _ _
  have hw2 : IntKind.i64.wrap (m - n) = m - n := wrap_i64 (by omega) (by omega)
  have hsp := ih x (List.mem_of_getElem? hx) (m - n) a1 c1 (by omega) (by omega)
  rw [← hw2] at hsp
  refine hsp.at (by simp) rfl rfl ?_
  rintro r out ⟨rfl, rfl⟩
  have hle := qks x (m - n) (by omega)
  have hw3 : IntKind.i64.wrap (i + 1) = ((i + 1 : Nat) : Int) := wrap_i64 (by omega) (by omega)
  have hw4 : IntKind.i64.wrap (n + nodesF x (m - n)) = n + nodesF x (m - n) := wrap_i64 (by omega) (by omega)
  refine ⟨(i + 1, n + nodesF x (m - n)), ⟨by omega, by simp only; omega, by simp only; omega, ?_⟩, by simp only; omega, ⟨by rw [← hw3]; rfl, by simp only [hw2, hw4]; rfl, rfl, rfl, trivial⟩, StLe.to _ _ rfl (by simp) rfl rfl⟩
  rw [hinv, qbo hx, nodesL, if_pos h1.2]
 ·have hw2 : IntKind.i64.wrap (m + 1) = m + 1 := wrap_i64 (by omega) (by omega)
  refine at_min ?_
  have hres : nodesL t.args m 1 = n := by
   rw [hinv]
   by_cases hlt : i < t.args.length
   ·obtain ⟨x, hx⟩ : ∃ x, t.args[i]? = some x := ⟨_, List.getElem?_eq_getElem (by omega)⟩
    simp only [Bool.and_eq_false_iff, decide_eq_false_iff_not, hlen] at h1
    rw [qbo hx, nodesL, if_neg (by omega)]
   ·rw [List.drop_of_length_le (by omega), nodesL]
  refine AtRet.pure [] rfl (by simp) ⟨?_, rfl⟩
  rw [nodesF_eq, hres, hw2]
def refProper (t : Tm) : Bool := decide (nodesF t 600 ≤ 600) && formedF t 1
theorem qam (t : Tm) (a : OA) (c : Nat) : Pure Tryz.prog (fnS 38) [tmS t a c] [tmR t a c] (fun r out => r = bS (refProper t) ∧ out = []) := by
 refine qb (N := 10) (m := 0) (dt := fun _ => none) [] ttOK Tryz.func38 rfl Tryz.call38 Tryz.ntmps38 rfl rfl rfl mixed (by kernel_rfl) ?_
 refine (nodes_spec t 600 a c (by omega) (by omega)).at (by simp) rfl rfl ?_
 rintro r out ⟨rfl, rfl⟩
 refine AtGuard.mk (fun h => ?_) (fun h => ?_)
 ·refine (qoz t 1 a c (by omega) (by omega)).at (by simp) rfl rfl ?_
  rintro r out ⟨rfl, rfl⟩
  have h : decide (nodesF t 600 ≤ 600) = true := h
  exact AtRet.pure [] rfl (by simp) ⟨by rw [refProper, h]; rfl, rfl⟩
 ·have h : decide (nodesF t 600 ≤ 600) = false := h
  exact AtRet.pure [] rfl (by simp) ⟨by rw [refProper, h]; rfl, rfl⟩
end

section
open Go.Tr Go Go.Proofs.Tryz
set_option maxRecDepth 10000
theorem qic (t : Tm) : ∀ (u : Tm) (a1 a2 : OA) (c1 c2 : Nat), Pure Tryz.prog (fnS 78) [tmS t a1 c1, tmS u a2 c2] [tmR t a1 c1, tmR u a2 c2] (fun r out => r = bS (sameF t u) ∧ out = []) := by
 induction t using Tm.ind with
 | h t ih =>
 intro u a1 a2 c1 c2
 refine qa4 fun hok => ?_
 have hB : (Tm.encL t.args).length ≤ 1152921504606846976 := (hok _ (List.mem_cons_self ..)).1
 have hlen := Tm.encL_length t.args
 have hlen2 := Tm.encL_length u.args
 have hF := sameF_eq t u
 refine qb (N := 53) (m := 0) (dt := drawsOf [(6, .node [0, 1, 2, 3, 4, 5, 6, 7, 8, 9] [(10, .leaf [11])], [10], [])]) [] ttOK Tryz.func78 rfl Tryz.call78 Tryz.ntmps78 rfl rfl rfl mixed (by kernel_rfl) ?_
 refine AtIf.mk (fun h1 => ?_) (fun h1 => ?_)
 ·refine AtRet.pure [] rfl (by simp) ⟨?_, rfl⟩
  simp only [hlen, hlen2] at h1
  have : sameF t u = false := by
   rw [hF]
   simp at h1 ⊢
   intro e1 e2 e3 e4
   omega
  rw [this]
 have hl : t.args.length = u.args.length := by
  simp only [hlen, hlen2] at h1
  simp at h1
  omega
 have hF : sameF t u = sameL t.args u.args := by
  simp only [hlen, hlen2] at h1
  simp at h1
  obtain ⟨⟨⟨e1, e2⟩, e3⟩, e4⟩ := h1
  rw [hF]
  simp [e1, e2, e3, hl]
 refine AtLoop.mk ⟨Nat, fun i => [(5, iS i), (2, .loc 0 0), (3, .loc 1 0)], fun _ => ⟨[.cells 41 [iS t.op, iS t.hd, iS t.n, .v (.slice a1 (Tm.encL t.args).length c1)], .cells 41 [iS u.op, iS u.hd, iS u.n, .v (.slice a2 (Tm.encL u.args).length c2)]], [], [tmR t a1 c1, tmR u a2 c2]⟩,
  fun i => i ≤ t.args.length ∧ sameF t u = sameL (t.args.drop i) (u.args.drop i), fun i => t.args.length - i, 0, ⟨Nat.zero_le _, hF⟩, ⟨rfl, rfl, rfl, trivial⟩, StLe.refl _, fun _ _ => ⟨rfl, rfl⟩, ?_⟩
 rintro i ⟨hi, hinv⟩
 refine AtIf.mk (fun h1 => ?_) (fun h1 => ?_)
 ·simp only [decide_eq_true_eq, hlen] at h1
  obtain ⟨x, hx⟩ : ∃ x, t.args[i]? = some x := ⟨_, List.getElem?_eq_getElem (by omega)⟩
  obtain ⟨y, hy⟩ : ∃ y, u.args[i]? = some y := ⟨_, List.getElem?_eq_getElem (by omega)⟩
  refine qh ttOK 0 rfl rfl rfl rfl (by omega) (by rw [Int.toNat_natCast]; exact Tm.encL_get hx) ?_
  intro b1 d1 _ _
  refine qh ttOK 1 rfl rfl rfl rfl (by omega) (by rw [Int.toNat_natCast]; exact Tm.encL_get hy) ?_
  intro b2 d2 _ _
  refine (ih x (List.mem_of_getElem? hx) y b1 b2 d1 d2).at (by simp) rfl rfl ?_
  rintro r out ⟨rfl, rfl⟩
  rw [qbo hx, qbo hy, sameL] at hinv
  refine AtIf.mk (fun h2 => ?_) (fun h2 => ?_)
  ·have h2 : sameF x y = false := by simpa using h2
   exact AtRet.pure [] rfl (by simp) ⟨by rw [hinv, h2]; rfl, rfl⟩
  ·have h2 : sameF x y = true := by simpa using h2
   have hw3 : IntKind.i64.wrap (i + 1) = ((i + 1 : Nat) : Int) := wrap_i64 (by omega) (by omega)
   exact ⟨i + 1, ⟨by omega, by rw [hinv, h2]; rfl⟩, by simp only; omega, ⟨by rw [← hw3]; rfl, rfl, rfl, trivial⟩, StLe.to _ _ rfl (by simp) rfl rfl⟩
 ·simp only [decide_eq_false_iff_not, hlen] at h1
  rw [List.drop_of_length_le (by omega)] at hinv
  exact AtRet.pure [] rfl (by simp) ⟨by rw [hinv]; rfl, rfl⟩
theorem ql7 (t : Tm) (a : OA) (c : Nat) (i : Int) : Pure Tryz.prog (fnS 288) [tmS t a c, iS i] [] (fun r out => r = iS (under t.op i) ∧ out = []) := by
 refine qb (N := 17) (m := 0) (dt := fun _ => none) [] ttOK Tryz.func288 rfl Tryz.call288 Tryz.ntmps288 rfl rfl rfl mixed (by kernel_rfl) ?_
 refine AtIf.mk (fun h => ?_) (fun h => ?_)
 ·refine AtRet.pure [] rfl (by simp) ⟨?_, rfl⟩
  simp at h
  rw [under, if_pos h]
 ·refine AtRet.pure [] rfl (by simp) ⟨?_, rfl⟩
  have : ¬ (t.op = 3 ∨ t.op = 2 ∧ i = 1) := by
   simp at h
   omega
  rw [under, if_neg this]
mutual
def lowF : Tm → Int → Int → Bool
 | .mk o h n us, f, g => (((o == 4 && h == 1) && decide (n ≥ f)) && decide (n ≤ g)) || lowL o us 0 f g
def lowL : Int → List Tm → Nat → Int → Int → Bool
 | _, [], _, _, _ => false
 | o, u :: us, i, f, g => lowF u (f + under o i) (g + under o i) || lowL o us (i + 1) f g
 end
theorem lowF_eq (t : Tm) (f g : Int) : lowF t f g = ((((t.op == 4 && t.hd == 1) && decide (t.n ≥ f)) && decide (t.n ≤ g)) || lowL t.op t.args 0 f g) := by cases t; rfl
theorem low_spec (t : Tm) : ∀ (f g : Int) (a : OA) (c : Nat), 0 ≤ f → -1 ≤ g → f + t.height ≤ 1000000 → g + t.height ≤ 1000000 → Pure Tryz.prog (fnS 256) [tmS t a c, iS f, iS g] [tmR t a c] (fun r out => r = bS (lowF t f g) ∧ out = []) := by
 induction t using Tm.ind with
 | h t ih =>
 intro f g a c hf0 hg0 hf1 hg1
 refine qa4 fun hok => ?_
 have hB : (Tm.encL t.args).length ≤ 1152921504606846976 := (hok _ (List.mem_cons_self ..)).1
 have hlen := Tm.encL_length t.args
 have hth := Tm.height_eq t
 have hF := lowF_eq t f g
 refine qb (N := 51) (m := 0) (dt := fun _ => none) [] ttOK Tryz.func256 rfl Tryz.call256 Tryz.ntmps256 rfl rfl rfl mixed (by kernel_rfl) ?_
 refine AtIf.mk (fun h1 => ?_) (fun h1 => ?_)
 ·refine AtRet.pure [] rfl (by simp) ⟨?_, rfl⟩
  rw [hF]
  have h1 : (((t.op == 4 && t.hd == 1) && decide (t.n ≥ f)) && decide (t.n ≤ g)) = true := h1
  rw [h1]; rfl
 have h1 : (((t.op == 4 && t.hd == 1) && decide (t.n ≥ f)) && decide (t.n ≤ g)) = false := h1
 rw [h1, Bool.false_or] at hF
 refine AtLoop.mk ⟨Nat, fun i => [(7, iS i), (3, .loc 0 0), (1, iS f), (2, iS g)], fun _ => ⟨[.cells 41 [iS t.op, iS t.hd, iS t.n, .v (.slice a (Tm.encL t.args).length c)]], [], [tmR t a c]⟩,
  fun i => i ≤ t.args.length ∧ lowF t f g = lowL t.op (t.args.drop i) i f g, fun i => t.args.length - i, 0, ⟨Nat.zero_le _, hF⟩, ⟨rfl, rfl, rfl, rfl, trivial⟩, StLe.refl _, fun _ _ => ⟨rfl, rfl⟩, ?_⟩
 rintro i ⟨hi, hinv⟩
 refine AtIf.mk (fun h1 => ?_) (fun h1 => ?_)
 ·simp only [decide_eq_true_eq, hlen] at h1
  obtain ⟨x, hx⟩ : ∃ x, t.args[i]? = some x := ⟨_, List.getElem?_eq_getElem (by omega)⟩
  have hxm := List.mem_of_getElem? hx
  have hxh := qdo hxm
  have hu := qb1 t.op i
  refine (ql7 t a c i).at (by simp) rfl rfl ?_
  rintro r out ⟨rfl, rfl⟩
  refine qh ttOK 0 rfl rfl rfl rfl (by omega) (by rw [Int.toNat_natCast]; exact Tm.encL_get hx) ?_
  intro a1 c1 _ _
  have hw1 : IntKind.i64.wrap (f + under t.op i) = f + under t.op i := wrap_i64 (by omega) (by omega)
  have hw2 : IntKind.i64.wrap (g + under t.op i) = g + under t.op i := wrap_i64 (by omega) (by omega)
  have hsp := ih x hxm (f + under t.op i) (g + under t.op i) a1 c1 (by omega) (by omega) (by omega) (by omega)
  rw [← hw1, ← hw2] at hsp
  refine hsp.at (by simp) rfl rfl ?_
  rintro r out ⟨rfl, rfl⟩
  rw [qbo hx, lowL, ← hw1, ← hw2] at hinv
  refine AtIf.mk (fun h2 => ?_) (fun h2 => ?_)
  ·have h2 : lowF x (IntKind.i64.wrap (f + under t.op i)) (IntKind.i64.wrap (g + under t.op i)) = true := h2
   exact AtRet.pure [] rfl (by simp) ⟨by rw [hinv, h2]; rfl, rfl⟩
  ·have h2 : lowF x (IntKind.i64.wrap (f + under t.op i)) (IntKind.i64.wrap (g + under t.op i)) = false := h2
   have hw3 : IntKind.i64.wrap (i + 1) = ((i + 1 : Nat) : Int) := wrap_i64 (by omega) (by omega)
   exact ⟨i + 1, ⟨by omega, by rw [hinv, h2]; rfl⟩, by simp only; omega, ⟨by rw [← hw3]; rfl, rfl, rfl, rfl, trivial⟩, StLe.to _ _ rfl (by simp) rfl rfl⟩
 ·simp only [decide_eq_false_iff_not, hlen] at h1
  rw [List.drop_of_length_le (by omega)] at hinv
  exact AtRet.pure [] rfl (by simp) ⟨by rw [hinv]; rfl, rfl⟩
end

section
open Go.Tr Go Go.Proofs.Tryz
set_option maxRecDepth 10000
theorem nilRep {P : Program} {cl : Cal} {args : List SV} {own : List Blk} {accs : List Acc} {rs : List (Value × D)} {R : Out → St → Prop} (k : Nat) (h : Meets P cl args ⟨own, accs, (.slice none 0 0, .sl k []) :: rs⟩ R) : Meets P cl args ⟨own, accs, rs⟩ R := by
 intro J ℓ w hG hJ
 refine h J ℓ w ⟨hG.len, hG.nodup, hG.lt, hG.memJ, hG.wf, hG.own, hG.accs, ?_⟩ hJ
 intro p hp
 rcases List.mem_cons.1 hp with e | e
 ·subst e
  exact ⟨none, 0, rfl, ⟨Nat.zero_le _, Nat.zero_le _⟩, .inl rfl⟩
 ·exact hG.reps p e
def putF : List Int → Int → List Int
 | [], n => [n]
 | x :: xs, n => if x < n then x :: putF xs n else if x = n then x :: xs else n :: x :: xs
mutual
def headsF (hd : Int) : Tm → Int → List Int → List Int
 | .mk o h n us, k, l => headsL hd o us 0 k (if o = 4 ∧ h = hd then (if hd ≠ 1 then putF l n else if n ≥ k then putF l (IntKind.i64.wrap (n - k)) else l) else l)
def headsL (hd : Int) : Int → List Tm → Nat → Int → List Int → List Int
 | _, [], _, _, l => l
 | o, u :: us, i, k, l => headsL hd o us (i + 1) k (headsF hd u (k + under o i) l)
 end
theorem qc5 : ∀ (l : List Int) (n : Int), (putF l n).length ≤ l.length + 1
 | [], n => by simp [putF]
 | x :: xs, n => by
  simp only [putF]
  split
  ·have := qc5 xs n; simp; omega
  ·split <;> simp
mutual
theorem qed (hd : Int) : ∀ (t : Tm) (k : Int) (l : List Int), (headsF hd t k l).length ≤ l.length + t.count
 | .mk o h n us, k, l => by
  simp only [headsF, Tm.count]
  refine Nat.le_trans (qg3 hd o us 0 k _) ?_
  have h1 := qc5 l n
  have h2 := qc5 l (IntKind.i64.wrap (n - k))
  split
  ·split
   ·omega
   ·split <;> omega
  ·omega
theorem qg3 (hd : Int) : ∀ (o : Int) (us : List Tm) (i : Nat) (k : Int) (l : List Int), (headsL hd o us i k l).length ≤ l.length + qn us
 | o, [], i, k, l => by simp [headsL, qn]
 | o, u :: us, i, k, l => by
  simp only [headsL, qn]
  have h1 := qg3 hd o us (i + 1) k (headsF hd u (k + under o i) l)
  have h2 := qed hd u (k + under o i) l
  omega
 end
theorem count_arg {t x : Tm} {i : Nat} (h : t.args[i]? = some x) : x.count + qn (t.args.drop (i + 1)) = qn (t.args.drop i) := by
 rw [qbo h]; rfl
theorem qai (t : Tm) : t.count = qn t.args + 1 := by cases t; rfl
end

section
open Go.Tr Go Go.Proofs.Tryz
set_option maxRecDepth 10000
theorem Tm.enc_eq (t : Tm) : t.enc = .agg [.int .i64 t.op, .int .i64 t.hd, .int .i64 t.n, .sl 4 (Tm.encL t.args)] := by cases t; rfl
theorem RepS_tm {reps : List (Value × D)} {t : Tm} {a : Option Addr} {c : Nat} (h : tmR t a c ∈ reps) : RepS reps t.enc (cellsOf (tmS t a c)) := by
 rw [Tm.enc_eq]
 exact ⟨[iS t.op], _, rfl, rfl, [iS t.hd], _, rfl, rfl, [iS t.n], _, rfl, rfl, [.v (.slice a (Tm.encL t.args).length c)], [], rfl, .inl ⟨_, rfl, h⟩, rfl⟩
theorem qnh (l : List Tm) (t : Tm) : Tm.encL (l ++ [t]) = Tm.encL l ++ [t.enc] := by simp [Tm.encL_eq]
mutual
def movedF : Tm → Int → Int → Tm
 | .mk o h n us, by_, f => .mk o h (if (o = 4 ∧ h = 1) ∧ n ≥ f then IntKind.i64.wrap (n + by_) else n) (movedL o us 0 by_ f)
def movedL : Int → List Tm → Nat → Int → Int → List Tm
 | _, [], _, _, _ => []
 | o, u :: us, i, by_, f => movedF u by_ (f + under o i) :: movedL o us (i + 1) by_ f
 end
theorem movedF_eq (t : Tm) (by_ f : Int) : movedF t by_ f = .mk t.op t.hd (if (t.op = 4 ∧ t.hd = 1) ∧ t.n ≥ f then IntKind.i64.wrap (t.n + by_) else t.n) (movedL t.op t.args 0 by_ f) := by cases t; rfl
theorem qg2 : ∀ (o : Int) (us : List Tm) (i : Nat) (by_ f : Int), (movedL o us i by_ f).length = us.length
 | o, [], i, by_, f => rfl
 | o, u :: us, i, by_, f => by simp only [movedL, List.length_cons, qg2 o us]
theorem qkq : ∀ (us : List Tm) (i : Nat), qn (us.drop i) ≤ qn us
 | us, 0 => by simp
 | [], i + 1 => by simp
 | u :: us, i + 1 => by
  have := qkq us i
  simp only [List.drop_succ_cons, qn]
  omega
theorem moved_spec (t : Tm) (b : Int) : ∀ (f : Int) (a : OA) (c : Nat), 0 ≤ f → f + t.height ≤ 1000000 → t.count ≤ 1000000 → Pure Tryz.prog (fnS 289) [tmS t a c, iS b, iS f] [tmR t a c] (fun r out => ∃ a' c', r = tmS (movedF t b f) a' c' ∧ out = [tmR (movedF t b f) a' c']) := by
 induction t using Tm.ind with
 | h t ih =>
 intro f a c hf0 hf1 hct
 refine qa4 fun hok => ?_
 have hB : (Tm.encL t.args).length ≤ 1152921504606846976 := (hok _ (List.mem_cons_self ..)).1
 have hlen := Tm.encL_length t.args
 have hth := Tm.height_eq t
 have htc := qai t
 have hF := movedF_eq t b f
 have hcl : ∀ us : List Tm, us.length ≤ qn us := by
  intro us
  induction us with
  | nil => simp
  | cons u us ih => have := qah u; simp only [List.length_cons, qn]; omega
 have hcl := hcl t.args
 refine Meets.nilAcc 4 41 ?_
 refine qb (N := 55) (m := 0) (dt := drawsOf [(8, .node [0, 1, 2, 3, 4, 5, 6, 7, 8, 9, 10] [(11, .node [12] [(13, .node [] [(14, .node [] [(15, .node [16] [(17, .leaf [])])])])])], [15, 17], [])]) [3] ttOK Tryz.func289 rfl Tryz.call289 Tryz.ntmps289 rfl rfl rfl mixed (by kernel_rfl) ?_
 refine AtCut.mk ⟨Unit, fun _ => [(3, .loc 0 0), (6, .loc 1 0), (7, .loc 2 0), (1, iS b), (2, iS f)],
  fun _ => ⟨[.cells 41 [iS t.op, iS t.hd, iS t.n, .v (.slice a (Tm.encL t.args).length c)], .cells 41 [iS 0, iS 0, iS 0, .v (.slice none 0 0)], .cells 41 [iS t.op, iS t.hd, iS (movedF t b f).n, .v (.slice none 0 0)]], [⟨.slice none 0 0, 4, 41, []⟩], [tmR t a c]⟩, fun _ => True, fun _ _ => ⟨rfl, rfl⟩, ?_, ?_⟩
 ·refine AtIf.mk (fun h1 => ?_) (fun h1 => ?_)
  ·have h1 : (t.op = 4 ∧ t.hd = 1) ∧ t.n ≥ f := by simpa using h1
   have hn : (movedF t b f).n = IntKind.i64.wrap (t.n + b) := by rw [hF, if_pos h1]; rfl
   exact ⟨(), trivial, ⟨rfl, rfl, rfl, rfl, rfl, trivial⟩, StLe.of (by rw [hn]; rfl) (List.Sublist.refl _) (by simp) rfl rfl⟩
  ·have h1 : ¬ ((t.op = 4 ∧ t.hd = 1) ∧ t.n ≥ f) := by
    intro hh
    simp [hh.1.1, hh.1.2, hh.2] at h1
   have hn : (movedF t b f).n = t.n := by rw [hF, if_neg h1]; rfl
   exact ⟨(), trivial, ⟨rfl, rfl, rfl, rfl, rfl, trivial⟩, StLe.of (by rw [hn]; rfl) (List.Sublist.refl _) (by simp) rfl rfl⟩
 intro _ _
 refine AtLoop.mk ⟨Nat × List Tm × Option Addr × Nat, fun x => [(8, iS x.1), (3, .loc 0 0), (6, .loc 1 0), (7, .loc 2 0), (1, iS b), (2, iS f)],
  fun x => ⟨[.cells 41 [iS t.op, iS t.hd, iS t.n, .v (.slice a (Tm.encL t.args).length c)], .cells 41 [iS 0, iS 0, iS 0, .v (.slice none 0 0)], .cells 41 [iS t.op, iS t.hd, iS (movedF t b f).n, .v (.slice x.2.2.1 (Tm.encL x.2.1).length x.2.2.2)]], [⟨.slice x.2.2.1 (Tm.encL x.2.1).length x.2.2.2, 4, 41, Tm.encL x.2.1⟩], [tmR t a c]⟩,
  fun x => x.1 ≤ t.args.length ∧ x.2.1.length = x.1 ∧ movedL t.op t.args 0 b f = x.2.1 ++ movedL t.op (t.args.drop x.1) x.1 b f, fun x => t.args.length - x.1, (0, [], none, 0), ⟨Nat.zero_le _, rfl, rfl⟩, ⟨rfl, rfl, rfl, rfl, rfl, rfl, trivial⟩, StLe.refl _, fun _ _ => ⟨rfl, rfl⟩, ?_⟩
 rintro ⟨i, done, a2, c2⟩ ⟨hi, hdl, hinv⟩
 simp only at hi hdl hinv ⊢
 have hdle := Tm.encL_length done
 refine AtIf.mk (fun h1 => ?_) (fun h1 => ?_)
 ·simp only [decide_eq_true_eq, hlen] at h1
  obtain ⟨x, hx⟩ : ∃ x, t.args[i]? = some x := ⟨_, List.getElem?_eq_getElem (by omega)⟩
  have hxm := List.mem_of_getElem? hx
  have hxh := qdo hxm
  have hxc : x.count ≤ 1000000 := by
   have h2 := count_arg hx
   have h3 := qkq t.args i
   omega
  have hu := qb1 t.op i
  refine qh ttOK 0 rfl rfl rfl rfl (by omega) (by rw [Int.toNat_natCast]; exact Tm.encL_get hx) ?_
  intro a5 c5 _ _
  refine (ql7 t a c i).at (by simp) rfl rfl ?_
  rintro r out ⟨rfl, rfl⟩
  refine ⟨fun _ _ h => h, ?_⟩
  have hw1 : IntKind.i64.wrap (f + under t.op i) = f + under t.op i := wrap_i64 (by omega) (by omega)
  have hsp := ih x hxm (f + under t.op i) a5 c5 (by omega) (by omega) hxc
  rw [← hw1] at hsp
  refine hsp.at (by simp) rfl rfl ?_
  rintro r out ⟨a6, c6, rfl, rfl⟩
  refine ⟨fun _ _ h => h, ?_⟩
  refine qmh ttOK 48 [(movedF x b (IntKind.i64.wrap (f + under t.op i))).enc] rfl (by kernel_rfl) ⟨⟨rfl, rfl, rfl, RepS_tm (by simp)⟩, trivial⟩ rfl (by decide) (by decide) ?_
  intro a7
  refine ⟨fun _ _ h => h, ?_⟩
  refine qjk ttOK 48 0 3 rfl (by kernel_rfl) rfl rfl rfl rfl (by simp; omega) (by simp; omega) ?_
  intro a8 c8
  rw [qbo hx, movedL, ← hw1] at hinv
  have hw3 : IntKind.i64.wrap (i + 1) = ((i + 1 : Nat) : Int) := wrap_i64 (by omega) (by omega)
  have he : (Tm.encL (done ++ [movedF x b (IntKind.i64.wrap (f + under t.op i))])).length = (Tm.encL done).length + 1 := by simp [Tm.encL_length]
  refine ⟨(i + 1, done ++ [movedF x b (IntKind.i64.wrap (f + under t.op i))], a8, c8), ⟨by omega, by simp [hdl], by rw [hinv]; simp⟩, by simp only; omega, ⟨by rw [← hw3]; rfl, rfl, rfl, rfl, rfl, rfl, trivial⟩, StLe.of ?_ ?_ (by simp) rfl rfl⟩
  ·simp only [he]; rfl
  ·rw [qnh, List.length_append]; exact List.Sublist.refl _
 ·simp only [decide_eq_false_iff_not, hlen] at h1
  rw [List.drop_of_length_le (by omega)] at hinv
  simp only [movedL, List.append_nil] at hinv
  have hm : movedF t b f = .mk t.op t.hd (movedF t b f).n done := by rw [hF, hinv]; rfl
  refine qkh [(.slice a2 (Tm.encL done).length c2, .sl 4 (Tm.encL done))] rfl (fun p hp => .inr ?_) ⟨a2, c2, ?_⟩
  ·simp only [List.mem_singleton] at hp
   subst hp
   exact ⟨_, List.mem_singleton.2 rfl, rfl⟩
  ·rw [hm]
   exact ⟨rfl, rfl⟩
mutual
theorem qhy : ∀ (t : Tm) (m : Int), 0 ≤ m → nodesF t m = min (t.count : Int) (m + 1)
 | .mk o h n us, m, hm => by
  have := qh4 us m 1 (by omega)
  have e := qai (.mk o h n us)
  simp only [Tm.args] at e
  rw [e]
  simp only [nodesF, this]
  split <;> omega
theorem qh4 : ∀ (us : List Tm) (m n : Int), n ≤ m + 1 → nodesL us m n = min (n + (qn us : Nat)) (m + 1)
 | [], m, n, h => by simp only [nodesL, qn]; omega
 | u :: us, m, n, h => by
  have hp := qah u
  simp only [nodesL, qn]
  split
  ·have h1 := qhy u (m - n) (by omega)
   have h2 := qks u (m - n) (by omega)
   have h3 := qh4 us m (n + nodesF u (m - n)) (by omega)
   rw [h3, h1]
   omega
  ·omega
 end
mutual
theorem qj4 : ∀ (t : Tm) (d : Int), formedF t d = true ↔ okAll t = true ∧ d + t.height ≤ 41
 | .mk o h n us, d => by
  have hl := qj2 us (d + 1)
  simp only [formedF, okAll, Tm.height, Bool.and_eq_true]
  by_cases h1 : 40 < d
  ·rw [if_pos h1]
   simp only [Bool.false_eq_true, false_iff]
   omega
  ·rw [if_neg h1, Bool.and_eq_true, hl]
   constructor
   ·rintro ⟨h2, h3, h4⟩
    refine ⟨⟨h2, h3⟩, ?_⟩
    rcases h4 with rfl | h4
    ·simp only [qp]; omega
    ·omega
   ·rintro ⟨⟨h2, h3⟩, h4⟩
    exact ⟨h2, h3, .inr (by omega)⟩
theorem qj2 : ∀ (us : List Tm) (d : Int), formedL us d = true ↔ okAllL us = true ∧ (us = [] ∨ d + qp us ≤ 41)
 | [], d => by simp [formedL, okAllL]
 | u :: us, d => by
  have h1 := qj4 u d
  have h2 := qj2 us d
  have hq := qa3 u
  simp only [formedL, okAllL, qp, Bool.and_eq_true, h1, h2, reduceCtorEq, false_or]
  constructor
  ·rintro ⟨⟨h3, h4⟩, h5, h6⟩
   refine ⟨⟨h3, h5⟩, ?_⟩
   rcases h6 with rfl | h6
   ·simp only [qp]; omega
   ·omega
  ·rintro ⟨⟨h3, h5⟩, h6⟩
   exact ⟨⟨h3, by omega⟩, h5, .inr (by omega)⟩
 end
theorem qap (t : Tm) : refProper t = isProper t := by
 rw [Bool.eq_iff_iff, qbb, refProper, Bool.and_eq_true, qj4, qhy t 600 (by omega), decide_eq_true_eq]
 constructor
 ·rintro ⟨h1, h2, h3⟩
  exact ⟨h2, by omega, by omega⟩
 ·rintro ⟨h1, h2, h3⟩
  exact ⟨by omega, h1, by omega⟩
def tm0 : Tm := .mk 0 0 0 []
def shiftF (t : Tm) (b f : Int) : Tm × Int :=
 if isProper t = false ∨ b < -9999 ∨ b > 9999 ∨ f < 0 ∨ f > 9999 then (tm0, 2)
 else if b < 0 ∧ lowF t f (f - b - 1) = true then (tm0, 27)
 else if isProper (movedF t b f) = false then (tm0, 5)
 else (movedF t b f, 0)
theorem qhf (t : Tm) (b f : Int) (a : OA) (c : Nat) : Pure Tryz.prog (fnS 214) [tmS t a c, iS b, iS f] [tmR t a c] (fun r out => ∃ a' c', r = .tup [tmS (shiftF t b f).1 a' c', iS (shiftF t b f).2] ∧ out = [tmR (shiftF t b f).1 a' c']) := by
 refine nilRep 4 ?_
 refine qb (N := 50) (m := 0) (dt := fun _ => none) [3] ttOK Tryz.func214 rfl Tryz.call214 Tryz.ntmps214 rfl rfl rfl mixed (by kernel_rfl) ?_
 refine (qam t a c).at (by simp) rfl rfl ?_
 rintro r out ⟨rfl, rfl⟩
 rw [qap]
 refine AtIf.mk (fun h1 => ?_) (fun h1 => ?_)
 ·have h1 : isProper t = false ∨ b < -9999 ∨ b > 9999 ∨ f < 0 ∨ f > 9999 := by
   simp only [Bool.or_eq_true, Bool.not_eq_true', decide_eq_true_eq] at h1
   rcases h1 with (((h1 | h1) | h1) | h1) | h1 <;> simp [h1]
  refine AtRet.pure [tmR tm0 none 0] rfl (by simp [tm0, Tm.args, Tm.encL]) ⟨none, 0, ?_⟩
  rw [shiftF, if_pos h1]
  exact ⟨rfl, rfl⟩
 simp only [Bool.or_eq_false_iff, Bool.not_eq_false', decide_eq_false_iff_not] at h1
 obtain ⟨⟨⟨⟨hp, hb1⟩, hb2⟩, hf1⟩, hf2⟩ := h1
 have hno : ¬ (isProper t = false ∨ b < -9999 ∨ b > 9999 ∨ f < 0 ∨ f > 9999) := by
  rw [hp]
  simp only [Bool.true_eq_false, false_or]
  omega
 have hpp := (qbb t).1 hp
 have hw1 : IntKind.i64.wrap (f - b) = f - b := wrap_i64 (by omega) (by omega)
 have hw2 : IntKind.i64.wrap (f - b - 1) = f - b - 1 := wrap_i64 (by omega) (by omega)
 refine AtCut.mk ⟨Unit, fun _ => [(3, .loc 0 0), (6, .loc 1 0), (1, iS b), (2, iS f)], fun _ => ⟨[.cells 41 [iS t.op, iS t.hd, iS t.n, .v (.slice a (Tm.encL t.args).length c)], .cells 41 [iS 0, iS 0, iS 0, .v (.slice none 0 0)]], [], [(.slice none 0 0, .sl 4 []), tmR t a c]⟩,
  fun _ => ¬ (b < 0 ∧ lowF t f (f - b - 1) = true), fun _ _ => ⟨rfl, rfl⟩, ?_, ?_⟩
 ·refine AtGuard.mk (fun h2 => ?_) (fun h2 => ?_)
  ·have h2 : b < 0 := by simpa using h2
   have hsp := low_spec t f (f - b - 1) a c (by omega) (by omega) (by omega) (by omega)
   rw [← hw2, ← hw1] at hsp
   refine hsp.at (by simp) rfl rfl ?_
   rintro r out ⟨rfl, rfl⟩
   rw [hw1, hw2]
   refine AtIf.mk (fun h3 => ?_) (fun h3 => ?_)
   ·have h3 : b < 0 ∧ lowF t f (f - b - 1) = true := ⟨h2, by simpa [h2] using h3⟩
    refine AtRet.pure [tmR tm0 none 0] rfl (by simp [tm0, Tm.args, Tm.encL]) ⟨none, 0, ?_⟩
    rw [shiftF, if_neg hno, if_pos h3]
    exact ⟨rfl, rfl⟩
   ·refine ⟨(), ?_, ⟨rfl, rfl, rfl, rfl, trivial⟩, StLe.to _ _ rfl (by simp) rfl rfl⟩
    rintro ⟨h4, h5⟩
    simp [h5] at h3
  ·have h2 : ¬ b < 0 := by simpa using h2
   refine AtIf.mk (fun h3 => ?_) (fun h3 => ?_)
   ·simp at h3
   ·exact ⟨(), fun h => h2 h.1, ⟨rfl, rfl, rfl, rfl, trivial⟩, StLe.to _ _ rfl (by simp) rfl rfl⟩
 intro _ hno2
 refine (moved_spec t b f a c (by omega) (by omega) (by omega)).at (by simp) rfl rfl ?_
 rintro r out ⟨a1, c1, rfl, rfl⟩
 refine (qam (movedF t b f) a1 c1).at (by simp) rfl rfl ?_
 rintro r out ⟨rfl, rfl⟩
 rw [qap]
 refine AtIf.mk (fun h3 => ?_) (fun h3 => ?_)
 ·have h3 : isProper (movedF t b f) = false := by simpa using h3
  refine AtRet.pure [tmR tm0 none 0] rfl (by simp [tm0, Tm.args, Tm.encL]) ⟨none, 0, ?_⟩
  rw [shiftF, if_neg hno, if_neg hno2, if_pos h3]
  exact ⟨rfl, rfl⟩
 ·have h3 : isProper (movedF t b f) = true := by simpa using h3
  refine AtRet.pure [tmR (movedF t b f) a1 c1] rfl (by simp) ⟨a1, c1, ?_⟩
  rw [shiftF, if_neg hno, if_neg hno2, if_neg (by simp [h3])]
  exact ⟨rfl, rfl⟩
end
end Go.Proofs.YthkgcfplebgolaaGreat

namespace Go.Tr
section
open Go
theorem Meets.nilRep {P : Program} {cl : Cal} {args : List SV} {own : List Blk} {accs : List Acc} {rs : List (Value × D)} {R : Out → St → Prop} (k : Nat) (h : Meets P cl args ⟨own, accs, (.slice none 0 0, .sl k []) :: rs⟩ R) : Meets P cl args ⟨own, accs, rs⟩ R := by
 intro J ℓ w hG hJ
 refine h J ℓ w ⟨hG.len, hG.nodup, hG.lt, hG.memJ, hG.wf, hG.own, hG.accs, ?_⟩ hJ
 intro p hp
 rcases List.mem_cons.1 hp with e | e
 ·subst e
  exact ⟨none, 0, rfl, ⟨Nat.zero_le _, Nat.zero_le _⟩, .inl rfl⟩
 ·exact hG.reps p e
theorem qn1 {P : Program} {tt : Tab} (hT : TTOK P tt) {t e : TypeId} {k : Nat} {x ix : SV} {S : St} {K : SV → St → Prop} {b n c : Nat} {i : Int} {kk : IntKind} (hx : x = .v (.slice (some ⟨b, 0, none⟩) n c)) (hi : ix = .v (.int kk i)) (ht : tt t = some (.slice e k))
  (h0 : 0 ≤ i) (hlt : i < n) (h : K (.v (.pointer (some ⟨b, i.toNat * k, none⟩))) S) : AtPure P (fun ℓ => Instr.indexAt t (x.den ℓ) (ix.den ℓ)) S K := by
 subst hx hi
 refine AtPure.val _ rfl (fun ℓ w => ?_) h
 obtain ⟨_, hu, hse⟩ := hT t _ ht
 simp only [Instr.indexAt, SV.den, asIntOf, pure_bind, Sem.run_bind, qq hu, Result.andThen_ok, Sem.run_pure]
 rw [if_pos ⟨h0, hlt⟩]
 simp only [Sem.run_bind, hse, Result.andThen_ok, Sem.run_pure, qbz, Nat.zero_add]
end
end Go.Tr

namespace Go.Proofs.YthkgcfplebgolaaGreat
section
open Go.Tr Go Go.Proofs.Tryz
set_option maxRecDepth 10000
theorem qhl {t : Tm} (h : okAll t = true) : 0 ≤ t.n ∧ t.n ≤ 9999 := by
 cases t with
 | mk o hd n us =>
  simp only [okAll, Bool.and_eq_true] at h
  have h1 := h.1
  simp only [Tm.n]
  unfold okNode at h1
  split at h1
  ·simp at h1; omega
  ·split at h1
   ·simp at h1; omega
   ·split at h1
    ·simp at h1; omega
    ·split at h1
     ·simp at h1; omega
     ·cases h1
end

section
open Go.Tr Go Go.Proofs.Tryz
set_option maxRecDepth 10000
section
variable (fx : Int) (a : Tm)
end
theorem okL_mem : ∀ {ds : List D} {d : D}, okL ds → d ∈ ds → okD d
 | [], d, _, h => by simp at h
 | e :: ds, d, h, hm => by
  simp only [okL] at h
  rcases List.mem_cons.1 hm with r | r
  ·subst r; exact h.1
  ·exact okL_mem h.2 r
end

section
open Go.Tr Go Go.Proofs.Tryz
set_option maxRecDepth 10000
inductive Od where
 | mk (op n : Int) (parts : List Od)
def Od.op : Od → Int | .mk o _ _ => o
def Od.n : Od → Int | .mk _ n _ => n
def Od.parts : Od → List Od | .mk _ _ p => p
mutual
def Od.enc : Od → D
 | .mk o n p => .agg [.int .i64 o, .int .i64 n, .sl 3 (Od.encL p)]
def Od.encL : List Od → List D
 | [] => []
 | t :: ts => t.enc :: Od.encL ts
 end
theorem Od.encL_eq : ∀ (l : List Od), Od.encL l = l.map Od.enc
 | [] => rfl
 | t :: ts => by simp only [Od.encL, List.map_cons, Od.encL_eq ts]
theorem Od.encL_length (l : List Od) : (Od.encL l).length = l.length := by simp [Od.encL_eq]
theorem Od.encL_get {l : List Od} {i : Nat} {t : Od} (h : l[i]? = some t) : (Od.encL l)[i]? = some (.agg [.int .i64 t.op, .int .i64 t.n, .sl 3 (Od.encL t.parts)]) := by
 rw [Od.encL_eq, List.getElem?_map, h]; cases t; rfl
theorem Od.ind {motive : Od → Prop} (h : ∀ t, (∀ x ∈ t.parts, motive x) → motive t) (t : Od) : motive t := by
 induction t using Od.rec (motive_2 := fun ts => ∀ x ∈ ts, motive x) with
 | nil => rename_i x hx; cases hx
 | cons t ts ih1 ih2 => rename_i x hx; rcases List.mem_cons.1 hx with e | e; (subst e; exact ih1); exact ih2 x e
 | mk op n parts ih => exact h _ ih
end

section
open Go.Tr Go Go.Proofs.Tryz
set_option maxRecDepth 10000
theorem qg9 (n v : Int) : ∀ (l : List (Int × Int)) (m : Int), lookI (putI n v l) m = if m = n then some v else lookI l m
 | [], m => by simp only [putI, lookI]
 | (k, u) :: r, m => by
  simp only [putI]
  by_cases h : n = k
  ·subst h
   rw [if_pos rfl]
   simp only [lookI]
   split <;> rfl
  ·rw [if_neg h]
   simp only [lookI, qg9 n v r m]
   by_cases h2 : m = k
   ·rw [if_pos h2, if_neg (by omega)]; simp [h2]
   ·rw [if_neg h2]; simp [h2]
structure Rel (st : Nat) (ch : List (Int × Int)) (l : List Int) : Prop where
 len : l.length = st
 none : ∀ y : Nat, y < st → lookI ch y = none → l.getD y 0 = -1
 some : ∀ (y : Nat) (x : Int), y < st → lookI ch y = some x → l.getD y 0 = x ∧ 0 ≤ x
theorem qmt {l : List Int} {i j : Nat} {x : Int} (h : i < l.length) : (l.set i x).getD j 0 = if j = i then x else l.getD j 0 := by
 simp only [List.getD_eq_getElem?_getD, List.getElem?_set]
 by_cases hj : i = j
 ·subst hj; simp [h]
 ·rw [if_neg hj, if_neg (by omega)]
theorem Rel.put {st : Nat} {ch : List (Int × Int)} {l : List Int} (h : Rel st ch l) (y : Nat) (x : Int) (hy : y < st) (hx : 0 ≤ x) : Rel st (putI y x ch) (l.set y x) := by
 have hl := h.len
 refine ⟨by rw [List.length_set, hl], ?_, ?_⟩
 ·intro z hz hn
  rw [qg9] at hn
  split at hn
  ·cases hn
  ·rename_i hne
   rw [qmt (by omega), if_neg (by omega)]
   exact h.none z hz hn
 ·intro z w hz hn
  rw [qg9] at hn
  split at hn
  ·rename_i he
   cases hn
   rw [qmt (by omega), if_pos (by omega)]
   exact ⟨rfl, hx⟩
  ·rename_i hne
   rw [qmt (by omega), if_neg (by omega)]
   exact h.some z w hz hn
section
variable (fx : Int) (a : Tm) (ha : okAll a = true) (hh : a.height ≤ 1000000) (hf0 : 0 ≤ fx) (hf1 : fx ≤ 1000000)
include ha hh
include hf0 hf1
end
end

section
open Go.Tr Go Go.Proofs.Tryz
set_option maxRecDepth 10000
theorem qix (x n : Int) : ∀ (l : List Int), x ∈ putF l n ↔ x = n ∨ x ∈ l
 | [] => by simp [putF]
 | y :: l => by
  simp only [putF]
  split
  ·simp only [List.mem_cons, qix x n l]
   constructor
   ·rintro (h | h | h)
    ·exact .inr (.inl h)
    ·exact .inl h
    ·exact .inr (.inr h)
   ·rintro (h | h | h)
    ·exact .inr (.inl h)
    ·exact .inl h
    ·exact .inr (.inr h)
  ·split
   ·rename_i h1 h2
    subst h2
    simp
   ·simp
theorem qf4 (n : Int) : ∀ (l : List Int), l.Pairwise (· < ·) → (putF l n).Pairwise (· < ·)
 | [], _ => by simp [putF]
 | y :: l, h => by
  simp only [putF]
  rw [List.pairwise_cons] at h
  split
  ·rename_i h1
   rw [List.pairwise_cons]
   refine ⟨?_, qf4 n l h.2⟩
   intro z hz
   rw [qix] at hz
   rcases hz with rfl | hz
   ·exact h1
   ·exact h.1 z hz
  ·split
   ·rw [List.pairwise_cons]; exact h
   ·rename_i h1 h2
    rw [List.pairwise_cons, List.pairwise_cons]
    refine ⟨?_, h⟩
    intro z hz
    rcases List.mem_cons.1 hz with rfl | hz
    ·omega
    ·have := h.1 z hz; omega
theorem qnx (x n : Int) (v : Value) : ∀ (l : List (Int × Value)), x ∈ (putAt n v l).map (·.1) ↔ x = n ∨ x ∈ l.map (·.1)
 | [] => by simp [putAt]
 | (k, u) :: r => by
  simp only [putAt]
  split
  ·rename_i h
   subst h
   simp
  ·simp only [List.map_cons, List.mem_cons, qnx x n v r]
   constructor
   ·rintro (h | h | h)
    ·exact .inr (.inl h)
    ·exact .inl h
    ·exact .inr (.inr h)
   ·rintro (h | h | h)
    ·exact .inr (.inl h)
    ·exact .inl h
    ·exact .inr (.inr h)
theorem sorted_mem (x : Int) (l : List Int) : x ∈ sorted l ↔ x ∈ l := by
 simp only [sorted, List.mem_mergeSort]
end
end Go.Proofs.YthkgcfplebgolaaGreat

namespace Go.Tr
section
open Go
theorem list_of {α : Type} {p : Nat → α → Prop} : ∀ (n : Nat), (∀ i, i < n → ∃ a, p i a) → ∃ l : List α, l.length = n ∧ ∀ i, i < n → ∃ a, l[i]? = some a ∧ p i a
 | 0, _ => ⟨[], rfl, fun i h => by omega⟩
 | n + 1, h => by
  obtain ⟨l, hl, hp⟩ := list_of n (fun i hi => h i (by omega))
  obtain ⟨a, ha⟩ := h n (by omega)
  refine ⟨l ++ [a], by simp [hl], fun i hi => ?_⟩
  by_cases hin : i < n
  ·obtain ⟨b, h1, h2⟩ := hp i hin
   exact ⟨b, by rw [List.getElem?_append_left (by omega)]; exact h1, h2⟩
  ·have : i = n := by omega
   subst this
   exact ⟨a, by rw [List.getElem?_append_right (by omega)]; simp [hl], ha⟩
theorem qg5 {J : Nat → Prop} {w : World} {k : Nat} : ∀ {ds : List D} {cs : List Value}, (∀ (i : Nat) (d : D), ds[i]? = some d → i * k + k ≤ cs.length ∧ RepC J w d ((cs.drop (i * k)).take k)) → RepE J w k ds cs
 | [], _, _ => by simp [RepE]
 | d :: ds, cs, h => by
  simp only [RepE]
  have h0 := h 0 d rfl
  simp only [Nat.zero_mul, Nat.zero_add, List.drop_zero] at h0
  refine ⟨h0.1, h0.2, qg5 fun i e hi => ?_⟩
  have h1 := h (i + 1) e (by simpa using hi)
  rw [Nat.add_mul, Nat.one_mul] at h1
  refine ⟨by rw [List.length_drop]; omega, ?_⟩
  rw [List.drop_drop, Nat.add_comm k]
  exact h1.2
theorem cells_take {w : World} {b off n k : Nat} {c : Array Value} {T : TypeId} {fz : Nat × Nat} {cs : List Value} (hb : w.heap[b]? = some (.cells c T fz)) (h : w.cells? 0 ((⟨b, off, none⟩ : Addr).add n) k = some cs) :
  (k = 0 ∨ n + k ≤ (c.toList.drop off).length) ∧ ((c.toList.drop off).drop n).take k = cs := by
 obtain ⟨_, hl, hc⟩ := World.cells?_some h
 have he : ((c.toList.drop off).drop n).take k = cs := by
  apply List.ext_getElem?
  intro j
  rw [List.getElem?_take]
  by_cases hj : j < k
  ·rw [if_pos hj]
   have := hc j hj
   rw [qbz, qbz] at this
   simp only [World.cell?, hb] at this
   rw [← this]
   simp [List.getElem?_drop, Nat.add_assoc]
  ·rw [if_neg hj, List.getElem?_eq_none (by omega)]
 refine ⟨?_, he⟩
 have := congrArg List.length he
 rw [List.length_take, List.length_drop, hl] at this
 omega
theorem qfp {H : Type} {P : Program} {e : TypeId} {d : DataW H} {y : Nat} (hy : y ∈ d.weights P e) : ∀ {l : List (DataW H)}, d ∈ l → y ∈ DataW.weightsAll P e l
 | [], h => by simp at h
 | x :: l, h => by
  simp only [DataW.weightsAll, List.mem_append]
  rcases List.mem_cons.1 h with r | r
  ·subst r; exact .inl hy
  ·exact .inr (qfp hy r)
section
variable {H : Type} {enc : TypeId × Value → H} {P : Program} {W : World}
theorem qht {t e : TypeId} {k : Nat} (ht : P.underlying t = some (.slice e)) (hk : P.cellsOf e = k) (hk0 : 0 < k) (hby : 1 ≤ P.bytesOf e) {α : Type} (en : α → D) (n : Nat)
  (hel : ∀ m, m < n → ∀ cs x, DataW.trod enc P W 0 (fun _ => true) true m e cs = some x → (∀ y ∈ x.1.weights P e, y ≤ reachBytes) → ∃ a, RepC (fun _ => True) W (en a) cs)
  {cs : List Value} {x : DataW H × List MemPlace} (h : DataW.trod enc P W 0 (fun _ => true) true n t cs = some x) (hw : ∀ y ∈ x.1.weights P t, y ≤ reachBytes) :
  ∃ (l : List α) (a : OA) (c : Nat), cs = [.slice a l.length c] ∧ RepC (fun _ => True) W (.sl k (l.map en)) cs := by
 rcases DataW.trod_slice ht h with ⟨rfl, rfl⟩ | ⟨a, len, cap, elems, rest, m, rfl, rfl, rfl, _, hlc, hcm, hlen, hels, _, _⟩
 ·exact ⟨[], none, 0, rfl, none, 0, rfl, ⟨Nat.le_refl _, Nat.zero_le _⟩, .inl rfl⟩
 simp only [DataW.weights, ht] at hw
 have hsz : len ≤ 1152921504606846976 := by
  have h1 := hw _ (List.mem_cons_self ..)
  simp only [List.length_map, hlen] at h1
  have h2 : len ≤ (len + rest.length) * P.bytesOf e := Nat.le_trans (Nat.le_add_right _ _) (Nat.le_mul_of_pos_right _ hby)
  have h3 : reachBytes = 140737488351232 := rfl
  omega
 have hex : ∀ i, i < len → ∃ b : α, ∃ cs', W.cells? 0 (a.add (i * k)) k = some cs' ∧ RepC (fun _ => True) W (en b) cs' := by
  intro i hi
  have h1 := hels i hi
  rw [hk, List.getElem?_eq_getElem (by omega)] at h1
  obtain ⟨cs', h2, h3⟩ := Option.bind_eq_some_iff.1 h1
  obtain ⟨b, hb⟩ := hel m (by omega) cs' _ h3 (fun y hy => hw y (List.mem_cons_of_mem _ (List.mem_append.2 (.inl (qfp hy (List.mem_map_of_mem (List.getElem_mem (by omega))))))))
  exact ⟨b, cs', h2, hb⟩
 obtain ⟨l, hl, hp⟩ := list_of len hex
 refine ⟨l, some a, cap, by rw [hl], some a, cap, by rw [List.length_map, hl], ⟨by rw [List.length_map, hl]; exact hlc, by rw [List.length_map, hl]; exact hsz⟩, ?_⟩
 by_cases hz : len = 0
 ·left
  have : l = [] := List.eq_nil_of_length_eq_zero (by omega)
  rw [this]; rfl
 right
 -- the block
 obtain ⟨b0, _, cs0, h0, _⟩ := hp 0 (by omega)
 obtain ⟨_, hl0, hc0⟩ := World.cells?_some h0
 have hc := hc0 0 hk0
 rw [List.getElem?_eq_getElem (by omega)] at hc
 have ha0 : (a.add (0 * k)).add 0 = a := by simp [Addr.add]
 rw [ha0] at hc
 simp only [World.cell?] at hc
 split at hc
 ·rename_i c T fz hb
  split at hc
  ·cases hc
  ·rename_i hs
   have hsp : a.spot = none := by cases hq : a.spot with | none => rfl | some v => simp [hq] at hs
   obtain ⟨bk, off, sp⟩ := a
   simp only at hsp
   subst hsp
   refine ⟨bk, off, c, T, fz, rfl, trivial, hb, qg5 fun i d hi => ?_⟩
   rw [List.getElem?_map] at hi
   have hil : i < len := by
    rcases Nat.lt_or_ge i len with h1 | h1
    ·exact h1
    ·rw [List.getElem?_eq_none (by omega)] at hi; cases hi
   obtain ⟨b', h1, cs', h2, h3⟩ := hp i hil
   rw [h1] at hi
   cases hi
   obtain ⟨h4, h5⟩ := cells_take hb h2
   rw [h5]
   exact ⟨by omega, h3⟩
 ·cases hc
theorem qk6 {W W' : World} (h : Ext [] W W') (may : MemPlace → Prop) : W.keptBut W' may := by
 refine ⟨h.os, h.output, fun i hi => ?_⟩
 rw [h.block i hi (by simp)]
 exact (World.keptBut_refl W may).2.2 i hi
theorem qmc {W W' : World} (h : Ext [] W W') {a : Addr} (ha : a.block < W.heap.size) : W'.frozen? a = W.frozen? a := by
 simp only [World.frozen?, h.block a.block ha (by simp)]
theorem qms {W W' : World} (h : Ext [] W W') {p : MemPlace} (hp : p.block < W.heap.size) : W.sameAt W' p := by
 cases p with
 | cell b off =>
  simp only [World.sameAt, World.cell?]
  rw [h.block b hp (by simp)]
 | map b => exact h.block b hp (by simp)
theorem qgq {W' : World} {base : Nat} {spare : Nat → Bool} {held : Bool} : ∀ {ts : List TypeId} {vs : List Value} {ds : List (DataW H)} {ps : List MemPlace}, DataW.TrodAll enc P W base spare held ts vs ds ps → (∀ p ∈ ps, W.sameAt W' p) → DataW.TrodAll enc P W' base spare held ts vs ds ps
 | [], [], [], _, h, _ => h
 | _ :: _, _ :: _, _ :: _, _, ⟨p, q, ⟨n, h1⟩, h2, e⟩, hs => ⟨p, q, ⟨n, DataW.trod_carry n _ _ _ h1 (fun x hx => hs x (by rw [e]; exact List.mem_append_left _ hx))⟩, qgq h2 (fun x hx => hs x (by rw [e]; exact List.mem_append_right _ hx)), e⟩
theorem qke {base : Nat} {spare : Nat → Bool} {held : Bool} : ∀ {ts : List TypeId} {vs : List Value} {ds : List (DataW H)} {ps : List MemPlace}, DataW.TrodAll enc P W base spare held ts vs ds ps → ds.length = ts.length
 | [], [], [], _, _ => rfl
 | _ :: _, _ :: _, _ :: _, _, ⟨_, _, _, h2, _⟩ => by simp only [List.length_cons, qke h2]
theorem post_true {f : Func} {s : ChangeSpec} {fresh handsOn again : Bool} {t : TypeId} {W W' : World} {args : Array Value} {ds gs : List (DataW H)} {before : List MemPlace} (K : Kids P (· < P.types.size)) (hz : ∀ t e, t < P.types.size → P.underlying t = some (.slice e) → 0 < P.cellsOf e)
  (hW : DataW.Whole enc P f.params.toList s.vars false W args.toList ds gs before) (hv : s.vars = []) (hT : ∀ t ∈ f.params.toList, t < P.types.size)
  (hs : ∀ ds : List (DataW H), ds.length = f.params.size → s.fn H ds = { results := [.lit (.bool true)], args := ds }) (hr : f.resultTypes = #[t]) (ht : P.underlying t = some .bool) (hx : Ext [] W W') :
  s.post enc P f false fresh handsOn again W args (.bool true) W' := by
 have hW0 := hW
 obtain ⟨p, q, hA, hV, rfl, hfz, hnd⟩ := hW0
 rw [hv] at hV
 obtain ⟨rfl, rfl⟩ := Go.ChangeShapes.trodVars_none hV
 have hlen : (ds ++ ([] : List (DataW H))).length = f.params.size := by
  rw [List.append_nil]
  have := qke hA
  simpa using this
 have hfn := hs (ds ++ []) hlen
 rw [List.append_nil] at hW
 have hlt : ∀ x ∈ p, x.block < W.heap.size := fun x hx => hW.lt x hx
 have hcar := qgq hA (fun x hx' => qms hx (hlt x hx'))
 have hargs : ∀ sp : Nat → Bool, (∀ x ∈ p, sp x.block = true) → DataW.TrodAll enc P W' 0 sp true f.params.toList args.toList ds p := fun sp hsp => hcar.respare K hz hT hsp
 have hres : ∀ (b : Nat) (sp : Nat → Bool) (hd : Bool), DataW.TrodAll enc P W' b sp hd f.resultTypes.toList ((Value.bool true).resultList f.resultTypes.size) [.lit (.bool true)] [] := by
  intro b sp hd
  rw [hr]
  exact trodAll_cons_mk (Go.RowKit.shut_bool ht _) Go.ChangeShapes.trodAll_mk0
 have hok : ∀ (j : Nat) (t' : TypeId) (r : Value), f.resultTypes[j]? = some t' → ((Value.bool true).resultList f.resultTypes.size)[j]? = some r → Value.okWide P W' .any 0 t' r := Go.RowKit.ok_one hr rfl (Go.RowKit.okWide_bool_mk ht _)
 have hold : ∀ x ∈ p, (fun b => decide (b < W.heap.size)) x.block = true := fun x hx => by simpa using hlt x hx
 refine ⟨ds, [], p, [], p, [], by rw [hv]; simpa [hv] using hW, ?_, ?_, ?_, World.keptBut_mono (fun x hx => ⟨hx, .inr (.inl hx)⟩) (qk6 hx (· ∈ p)), fun _ => ?_⟩
 ·rw [hfn]; exact hres _ _ _
 ·rw [hfn, List.append_nil]; exact hargs _ hold
 ·rw [hfn, hv]; exact rfl
 ·refine ⟨hok, _, [], ([] ++ p) ++ [], ⟨[] ++ p, [], Go.ChangeShapes.trodAll_append (hargs _ (fun _ _ => rfl)) (hres _ _ _), by rw [hv]; exact rfl, rfl, ?_, by intro h; cases h⟩, ?_⟩
  ·intro b off hp
   have hp : MemPlace.cell b off ∈ p := by simpa using hp
   rw [qmc hx (hlt _ hp)]
   exact hfz b off (by simpa using hp)
  ·intro y hy _
   simpa using hy
end
theorem Pure.calls {P : Program} {f : FuncId} {args : List SV} {rs : List (Value × D)} {R : SV → List (Value × D) → Prop} (h : Pure P (.val (.fn (.func f) [] [])) args rs R) (hc : ∀ ag w, (callFunc f ag).run P w = .ok (.enter f ag) w) {W : World} (hr : ∀ p ∈ rs, Rep (fun _ => True) W p.1 p.2) :
  Calls P f (qd [] args).toArray W (fun e W' => ∃ r out, e = .returned (r.den []) ∧ R r out ∧ Ext [] W W') := by
 have hm : mutS [] (⟨[], [], rs⟩ : St) = [] := rfl
 have hG : Good (fun _ => True) [] ⟨[], [], rs⟩ W := by
  refine ⟨rfl, by simp [hm], by simp [hm], by simp [hm], by simp, by simp, by simp, ?_⟩
  intro p hp
  rw [hm]
  exact (hr p hp).map (fun b _ _ => ⟨⟨trivial, by simp⟩, rfl⟩)
 obtain ⟨nx, h1, h2⟩ := h (fun _ => True) [] W hG (fun _ _ => trivial)
 simp only [Cal.sem, SV.den, qd, Deferred.ofValue, Sem.run_bind, Sem.run_pure, Result.andThen_ok, invoke] at h1
 have h3 := hc (qd [] args).toArray W
 have h4 : nx = .enter f (qd [] args).toArray := by
  have h5 := h1
  simp only [List.append_nil, Array.append_empty, Array.empty_append] at h5
  rw [h3] at h5
  cases h5
  rfl
 subst h4
 refine (callsIn_wide (n := 0)).1 (CallsIn.mono h2 ?_)
 rintro e w' ⟨ℓ', o, S', rfl, _, _, hx, hG', _, r, out, rfl, rfl, hwf, hR⟩
 have hl : ℓ' = [] := by have := hG'.len; simpa using this
 subst hl
 exact ⟨r, out, rfl, hR, hx⟩
end
end Go.Tr

namespace Go.Proofs.YthkgcfplebgolaaGreat
section
open Go.Tr Go Go.Proofs.Tryz
set_option maxRecDepth 10000
section
variable {H : Type} {enc : TypeId × Value → H} {W : World}
end
end

section
open Go.Tr Go Go.Proofs.Tryz
open Go.ChangeShapes Go.WideShapes Go.ChangeAt Go.RowKit
set_option maxRecDepth 10000
theorem own : ownKnob Tryz.prog.godebug = none := by kernel_rfl
theorem kids : Kids Tryz.prog (· < Tryz.prog.types.size) := kids_rows (by kernel_rfl) (by kernel_rfl)
theorem full : ∀ t e, t < Tryz.prog.types.size → Tryz.prog.underlying t = some (.slice e) → 0 < Tryz.prog.cellsOf e := slices_full_of Tryz.prog (by kernel_rfl)
theorem all_le {l : List Nat} (h : l.all (· ≤ reachBytes) = true) : ∀ y ∈ l, y ≤ reachBytes := fun y hy => by simpa using List.all_eq_true.1 h y hy
section
variable {H : Type} {enc : TypeId × Value → H} {W : World}
end
end
end Go.Proofs.YthkgcfplebgolaaGreat

namespace Go.Tr
section
open Go
theorem bytes_get (s : ByteArray) (i : Nat) : s[i]? = s.data[i]? := by
 simp [getElem?_def]; rfl
theorem strEq (a b : ByteArray) : (a.toList == b.toList) = decide (a = b) := by
 rw [Bool.eq_iff_iff]
 simp only [ByteArray.toList_eq, beq_iff_eq, decide_eq_true_eq]
 constructor
 ·intro h
  cases a; cases b
  simp only [Array.toList_inj] at h
  subst h; rfl
 ·intro h; rw [h]
theorem strBeq (a b : ByteArray) : (a == b) = decide (a = b) := by
 cases a with | mk a => cases b with | mk b =>
 have h : ((⟨a⟩ : ByteArray) == ⟨b⟩) = (a == b) := by
  first | rfl | simp [BEq.beq]
 rw [h, Bool.eq_iff_iff]; simp
theorem qcm {P : Program} {tt : Tab} (hT : TTOK P tt) {t : TypeId} {x ix : SV} {S : St} {K : SV → St → Prop} {s : ByteArray} {i : Int} {kk : IntKind} {b : UInt8} (hx : x = .v (.string s)) (hi : ix = .v (.int kk i)) (ht : tt t = some .str) (h0 : 0 ≤ i) (hb : s.data.toList[i.toNat]? = some b)
  (h : K (.v (.int .u8 b.toNat)) S) : AtPure P (fun ℓ => Instr.index t (x.den ℓ) (ix.den ℓ)) S K := by
 subst hx hi
 refine AtPure.val _ rfl (fun ℓ w => ?_) h
 have hu := (hT t _ ht).2
 have hb' : s.data[i.toNat]? = some b := by rw [← Array.getElem?_toList]; exact hb
 simp only [Instr.index, SV.den, asIntOf, pure_bind, Sem.run_bind, qq hu, Result.andThen_ok, if_pos h0, bytes_get, hb', Sem.run_pure]
def entriesS : List (ByteArray × Value) → Nat → List MapEntry
 | [], _ => []
 | (k, v) :: r, i => ⟨.string k, v, i⟩ :: entriesS r (i + 1)
def mapS (l : List (ByteArray × Value)) : Obj := .map (entriesS l 0).toArray l.length
def lookS : List (ByteArray × Value) → ByteArray → Option Value
 | [], _ => none
 | (k, v) :: r, n => if n = k then some v else lookS r n
def putS (n : ByteArray) (v : Value) : List (ByteArray × Value) → List (ByteArray × Value)
 | [] => [(n, v)]
 | (k, u) :: r => if n = k then (k, v) :: r else (k, u) :: putS n v r
theorem qe9 : ∀ (l l' : List (ByteArray × Value)) (i : Nat), entriesS (l ++ l') i = entriesS l i ++ entriesS l' (i + l.length)
 | [], l', i => by simp [entriesS]
 | (k, v) :: r, l', i => by
  simp only [List.cons_append, entriesS, qe9 r l', List.length_cons]
  congr 3; omega
theorem qo5 (a b : ByteArray) : Instr.sameNow .string (.string a) (.string b) = some (decide (a = b)) := by
 simp only [Instr.sameNow, strBeq]
theorem qjd (n : ByteArray) : ∀ (l : List (ByteArray × Value)) (i j : Nat), Instr.findNow .string (.string n) (entriesS l i) j =
  some (match l.findIdx? (fun p => n = p.1) with
   | some m => (l[m]?).map (fun p => (j + m, p.2))
   | none => none)
 | [], i, j => by simp [entriesS, Instr.findNow]
 | (k, v) :: r, i, j => by
  simp only [entriesS, Instr.findNow, qo5]
  by_cases h : n = k
  ·subst h; simp [List.findIdx?_cons]
  ·simp only [h, decide_false, qjd n r (i + 1) (j + 1), List.findIdx?_cons]
   cases hf : r.findIdx? (fun p => n = p.1) with
   | none => simp
   | some m =>
    have e : j + 1 + m = j + (m + 1) := by omega
    simp [e]
theorem qn5 (n : ByteArray) : ∀ (l : List (ByteArray × Value)), lookS l n = match l.findIdx? (fun p => n = p.1) with
  | some m => (l[m]?).map (·.2)
  | none => none
 | [] => rfl
 | (k, v) :: r => by
  simp only [lookS, List.findIdx?_cons]
  by_cases h : n = k
  ·subst h; simp
  ·rw [if_neg h, qn5 n r]
   simp only [h, decide_false]
   cases hf : r.findIdx? (fun p => n = p.1) with
   | none => simp
   | some m => simp
theorem qnw (n : ByteArray) (v : Value) : ∀ (l : List (ByteArray × Value)), l.findIdx? (fun p => n = p.1) = none → putS n v l = l ++ [(n, v)]
 | [], _ => rfl
 | (k, u) :: r, h => by
  simp only [List.findIdx?_cons] at h
  by_cases hk : n = k
  ·subst hk; simp at h
  ·simp only [putS, if_neg hk, List.cons_append]
   rw [qnw n v r]
   cases hf : r.findIdx? (fun p => n = p.1) with
   | none => rfl
   | some m => rw [hf] at h; simp [hk] at h
theorem qnz (n : ByteArray) (v : Value) : ∀ (l : List (ByteArray × Value)) (m i : Nat), l.findIdx? (fun p => n = p.1) = some m → (entriesS l i).modify m (fun e => { e with key := .string n, val := v }) = entriesS (putS n v l) i ∧ (putS n v l).length = l.length
 | [], m, i, h => by simp at h
 | (k, u) :: r, m, i, h => by
  simp only [List.findIdx?_cons] at h
  by_cases hk : n = k
  ·subst hk
   simp at h
   subst h
   simp [putS, entriesS]
  ·simp only [hk, decide_false] at h
   cases hf : r.findIdx? (fun p => n = p.1) with
   | none => rw [hf] at h; simp at h
   | some m' =>
    rw [hf] at h
    simp at h
    subst h
    obtain ⟨h1, h2⟩ := qnz n v r m' (i + 1) hf
    simp only [putS, if_neg hk, entriesS, List.modify_succ_cons, h1, List.length_cons, h2, and_self]
theorem qnp (l : List (ByteArray × Value)) (i m : Nat) : ((entriesS l i)[m]?).map (·.key) = (l[m]?).map (fun p => Value.string p.1) := by
 induction l generalizing i m with
 | nil => simp [entriesS]
 | cons p r ih =>
  obtain ⟨k, v⟩ := p
  cases m with
  | zero => simp [entriesS]
  | succ m => simpa [entriesS] using ih (i + 1) m
theorem qel {P : Program} {k : TypeId} (hk : P.underlying k = some .string) (b : Bool) (n : ByteArray) (w : World) : (Instr.checkKey b 10000 k (.string n)).run P w = .ok () w := by
 unfold Instr.checkKey
 simp [run_underlying hk]
theorem qjw {P : Program} {t : TypeId} {S : St} {K : SV → St → Prop} (h : forceL (S.own ++ [.obj (mapS [])]) (fun own => putOwn S own (fun S' => K (.mp S.own.length) S'))) : AtSem P (fun ℓ => Instr.makeMap t (denO ℓ none)) S K := by
 rw [qu, qan] at h
 refine qfi .i64 ?_
 rw [qu, qan]
 exact h
theorem at_lookupS {P : Program} {tt : Tab} (hT : TTOK P tt) {t k e : TypeId} {x ix : SV} {S : St} {K : SV → St → Prop} {i : Nat} {n : ByteArray} {l : List (ByteArray × Value)} {ok : Bool} (z : Value) (ht : tt t = some (.map k e)) (hk : P.underlying k = some .string) (hz : ∀ w, (zeroValue e).run P w = .ok z w)
  (hx : x = .mp i) (hi : nth S.own i = some (.obj (mapS l))) (hix : ix = .v (.string n))
  (h1 : ∀ v, lookS l n = some v → K (if ok then .tup [.v v, .v (.bool true)] else .v v) S) (h2 : lookS l n = none → K (if ok then .tup [.v z, .v (.bool false)] else .v z) S) : AtSem P (fun ℓ => Instr.lookup t (x.den ℓ) (ix.den ℓ) ok) S K := by
 subst hx hix
 constructor
 intro J ℓ w hG hJ
 obtain ⟨b, hb, hk', hbl, hoff, hh⟩ := qf5 hG hi
 have hu := (hT t _ ht).2
 have hrun : (Instr.lookup t ((SV.mp i).den ℓ) ((SV.v (.string n)).den ℓ) ok).run P w = .ok ((match lookS l n with
   | some v => (if ok then SV.tup [.v v, .v (.bool true)] else .v v)
   | none => (if ok then .tup [.v z, .v (.bool false)] else .v z)).den ℓ) w := by
  simp only [Instr.lookup, SV.den, Sem.run_bind, qq hu, Result.andThen_ok]
  have hg := qce (P := P) hh
  rw [hbl]
  simp only [Sem.run_bind, hg, Result.andThen_ok, Sem.run_pure]
  simp only [qel hk, Result.andThen_ok, Instr.findKey, Sem.run_bind, run_underlying hk, qjd]
  rw [qn5]
  cases hf : l.findIdx? (fun p => n = p.1) with
  | none => simp [hz, Result.andThen]; cases ok <;> simp [SV.den, qd]
  | some m =>
   have hlt : m < l.length := by
    obtain ⟨hlt, _⟩ := List.findIdx?_eq_some_iff_getElem.1 hf
    exact hlt
   simp only [List.getElem?_eq_getElem hlt, Option.map_some, Sem.run_pure, Result.andThen_ok]
   cases ok <;> simp [SV.den, qd]
 cases hl : lookS l n with
 | some v =>
  rw [hl] at hrun
  exact ⟨_, ℓ, S, w, hrun, by cases ok <;> rfl, List.prefix_refl _, Ext.refl _ _, hG, fun b hb => .inl hb, h1 v hl⟩
 | none =>
  rw [hl] at hrun
  exact ⟨_, ℓ, S, w, hrun, by cases ok <;> rfl, List.prefix_refl _, Ext.refl _ _, hG, fun b hb => .inl hb, h2 hl⟩
theorem at_mapPutS {P : Program} {tt : Tab} (hT : TTOK P tt) {t k e : TypeId} {x ix y : SV} {S : St} {K : SV → St → Prop} {i : Nat} {n : ByteArray} {l : List (ByteArray × Value)} (v : Value) (ht : tt t = some (.map k e)) (hk : P.underlying k = some .string)
  (hx : x = .mp i) (hi : nth S.own i = some (.obj (mapS l))) (hix : ix = .v (.string n)) (hy : ∀ ℓ, y.den ℓ = v)
  (h : forceL (setNth S.own i (.obj (mapS (putS n v l)))) (fun own => putOwn S own (fun S' => K undefS S'))) : AtSem P (fun ℓ => do Instr.mapUpdate t (x.den ℓ) (ix.den ℓ) (y.den ℓ); pure undef) S K := by
 subst hx hix
 rw [qu, qan] at h
 constructor
 intro J ℓ w hG hJ
 obtain ⟨b, hb, hk', hbl, hoff, hh⟩ := qf5 hG hi
 have hu := (hT t _ ht).2
 have hrun : (Instr.mapUpdate t ((SV.mp i).den ℓ) ((SV.v (.string n)).den ℓ) (y.den ℓ)).run P w = .ok () (w.putObj b.block (mapS (putS n v l))) := by
  simp only [Instr.mapUpdate, SV.den, hy, Sem.run_bind, qq hu, Result.andThen_ok, hbl]
  have hg := qce (P := P) hh
  simp only [hg, Result.andThen_ok, qel hk, Instr.findKey, Sem.run_bind, run_underlying hk, qjd]
  cases hf : l.findIdx? (fun p => n = p.1) with
  | none =>
   simp only [Sem.run_pure, Result.andThen_ok]
   rw [qfh _ hh, qnw n v l hf]
   simp [mapS, qe9, entriesS]
  | some m =>
   obtain ⟨hlt, hpm, _⟩ := List.findIdx?_eq_some_iff_getElem.1 hf
   simp only [decide_eq_true_eq] at hpm
   simp only [List.getElem?_eq_getElem hlt, Option.map_some, Sem.run_pure, Result.andThen_ok, Nat.zero_add]
   have hkey : (((entriesS l 0).toArray[m]?).map (·.key)).getD (.string n) = .string n := by
    have := qnp l 0 m
    simp only [List.getElem?_toArray]
    rw [this, List.getElem?_eq_getElem hlt]
    simp [← hpm]
   rw [hkey]
   have hst : (Instr.keyThatStays (.string n) (.string n)).run P w = .ok (.string n) w := by simp [Instr.keyThatStays, Instr.sameBits, strBeq]
   simp only [Sem.run_bind, hst, Result.andThen_ok]
   rw [qfh _ hh]
   obtain ⟨h1, h2⟩ := qnz n v l m 0 hf
   simp only [mapS, h2]
   rw [← h1]
   simp
 obtain ⟨g1, g2, g3⟩ := hG.putObj (k' := .obj (mapS (putS n v l))) hk' hb rfl rfl rfl (mapS (putS n v l)) ⟨hoff, World.putObj_heap_same (qag hh)⟩
 refine ⟨undefS, ℓ, _, w.putObj b.block (mapS (putS n v l)), ?_, rfl, List.prefix_refl _, g1, g2, g3, h⟩
 simp only [Sem.run_bind, hrun, Result.andThen_ok, Sem.run_pure]
 rfl
end
end Go.Tr
