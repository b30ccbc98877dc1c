/- Merged texts: Lexis Strs Raws RawsB Parts PartsB Items. Conditions stand in each rule. -/
import Derived.Test.YtogicnodmgdnbaaGreatSE
set_option linter.unusedSimpArgs false
set_option linter.unusedVariables false

namespace Go.Proofs.YtogicnodmgdnbaaGreat
section
open Go.Tr Go Go.Proofs.Tryz
set_option maxRecDepth 10000
abbrev cS (c : UInt8) : SV := .v (.int .u8 c.toNat)
abbrev sS (s : ByteArray) : SV := .v (.string s)
def smallC (c : UInt8) : Bool := decide ((c.toNat : Int) ≥ 97) && decide ((c.toNat : Int) ≤ 122)
def capC (c : UInt8) : Bool := decide ((c.toNat : Int) ≥ 65) && decide ((c.toNat : Int) ≤ 90)
def digC (c : UInt8) : Bool := decide ((c.toNat : Int) ≥ 48) && decide ((c.toNat : Int) ≤ 57)
def nameC (c : UInt8) : Bool := (((smallC c || capC c) || digC c) || (c.toNat : Int) == 95) || (c.toNat : Int) == 39
def nameF (f : UInt8 → Bool) (s : ByteArray) : Bool := match s.data.toList with
 | [] => false
 | c :: l => decide ((c :: l).length ≤ 16) && f c && (c :: l).all nameC
theorem qij (c : UInt8) : Pure Tryz.prog (fnS 124) [cS c] [] (fun r out => r = bS (smallC c) ∧ out = []) := by
 refine qb (N := 9) (m := 0) (dt := fun _ => none) [] ttOK Tryz.func124 rfl Tryz.call124 Tryz.ntmps124 rfl rfl rfl mixed (by kernel_rfl) ?_
 exact AtRet.pure [] rfl (by simp) ⟨rfl, rfl⟩
theorem qhc (c : UInt8) : Pure Tryz.prog (fnS 185) [cS c] [] (fun r out => r = bS (capC c) ∧ out = []) := by
 refine qb (N := 9) (m := 0) (dt := fun _ => none) [] ttOK Tryz.func185 rfl Tryz.call185 Tryz.ntmps185 rfl rfl rfl mixed (by kernel_rfl) ?_
 exact AtRet.pure [] rfl (by simp) ⟨rfl, rfl⟩
theorem digit_spec (c : UInt8) : Pure Tryz.prog (fnS 186) [cS c] [] (fun r out => r = bS (digC c) ∧ out = []) := by
 refine qb (N := 9) (m := 0) (dt := fun _ => none) [] ttOK Tryz.func186 rfl Tryz.call186 Tryz.ntmps186 rfl rfl rfl mixed (by kernel_rfl) ?_
 exact AtRet.pure [] rfl (by simp) ⟨rfl, rfl⟩
theorem qk8 (c : UInt8) : Pure Tryz.prog (fnS 163) [cS c] [] (fun r out => r = bS (nameC c) ∧ out = []) := by
 refine qb (N := 21) (m := 0) (dt := fun _ => none) [] ttOK Tryz.func163 rfl Tryz.call163 Tryz.ntmps163 rfl rfl rfl mixed (by kernel_rfl) ?_
 refine (qij c).at (by simp) rfl rfl ?_
 rintro r out ⟨rfl, rfl⟩
 refine AtGuard.mk (fun h => ?_) (fun h => ?_)
 ·have h : smallC c = false := h
  refine (qhc c).at (by simp) rfl rfl ?_
  rintro r out ⟨rfl, rfl⟩
  refine AtGuard.mk (fun h2 => ?_) (fun h2 => ?_)
  ·have h2 : capC c = false := h2
   refine (digit_spec c).at (by simp) rfl rfl ?_
   rintro r out ⟨rfl, rfl⟩
   exact AtRet.pure [] rfl (by simp) ⟨by simp [nameC, h, h2], rfl⟩
  ·have h2 : capC c = true := h2
   exact AtRet.pure [] rfl (by simp) ⟨by simp [nameC, h, h2], rfl⟩
 ·have h : smallC c = true := h
  refine AtGuard.mk (fun h => by cases h) (fun _ => ?_)
  exact AtRet.pure [] rfl (by simp) ⟨by simp [nameC, h], rfl⟩
def AsksByte (F : SV) (f : UInt8 → Bool) : Prop := ∀ c, Pure Tryz.prog (.val F) [cS c] [] (fun r out => r = bS (f c) ∧ out = [])
theorem qne (F : SV) (hF : F.wf 0 = true) (f : UInt8 → Bool) (hf : AsksByte F f) (s : ByteArray) : Pure Tryz.prog (fnS 123) [sS s, F] [] (fun r out => r = bS (nameF f s) ∧ out = []) := by
 have hsz : s.size = s.data.toList.length := rfl
 refine qb (N := 32) (m := 0) (dt := fun _ => none) [] ttOK Tryz.func123 rfl Tryz.call123 Tryz.ntmps123 rfl (by simp [qo, SV.wf, hF]) rfl mixed (by kernel_rfl) ?_
 have hN : nameF f s = match s.data.toList with
  | [] => false
  | c :: l => decide ((c :: l).length ≤ 16) && f c && (c :: l).all nameC := rfl
 refine AtGuard.mk (fun h => ?_) (fun h => ?_)
 ·have h : (decide ((s.size : Int) < 1) || decide ((s.size : Int) > 16)) = false := h
  simp only [Bool.or_eq_false_iff, decide_eq_false_iff_not] at h
  obtain ⟨c, l, hl⟩ : ∃ c l, s.data.toList = c :: l := by
   cases hl : s.data.toList with
   | nil => have h0 : s.size = 0 := by rw [hsz, hl]; rfl
            omega
   | cons c l => exact ⟨c, l, rfl⟩
  rw [hl] at hN hsz
  have h16 : (c :: l).length ≤ 16 := by omega
  simp only [h16, decide_true, Bool.true_and] at hN
  refine qb8 ttOK rfl rfl rfl (by decide) (b := c) (by rw [hl]; rfl) ?_
  refine (hf c).at (by simp) rfl hF ?_
  rintro r out ⟨rfl, rfl⟩
  refine AtIf.mk (fun h2 => ?_) (fun h2 => ?_)
  ·have h2 : f c = false := by simpa using h2
   exact AtRet.pure [] rfl (by simp) ⟨by rw [hN, h2]; rfl, rfl⟩
  ·have h2 : f c = true := by simpa using h2
   rw [h2, Bool.true_and] at hN
   refine AtLoop.mk ⟨Nat, fun i => [(23, iS i), (22, iS s.size), (0, sS s)], fun _ => ⟨[], [], []⟩,
    fun i => i ≤ (c :: l).length ∧ nameF f s = ((c :: l).drop i).all nameC, fun i => (c :: l).length - i, 0, ⟨Nat.zero_le _, hN⟩, ⟨rfl, rfl, rfl, trivial⟩, StLe.refl _, fun _ _ => ⟨rfl, rfl⟩, ?_⟩
   rintro i ⟨hi, hinv⟩
   refine AtIf.mk (fun h1 => ?_) (fun h1 => ?_)
   ·simp only [decide_eq_true_eq, hsz] at h1
    obtain ⟨x, hx⟩ : ∃ x, (c :: l)[i]? = some x := ⟨_, List.getElem?_eq_getElem (by omega)⟩
    refine qb8 ttOK rfl rfl rfl (by omega) (b := x) (by rw [Int.toNat_natCast, hl]; exact hx) ?_
    refine (qk8 x).at (by simp) rfl rfl ?_
    rintro r out ⟨rfl, rfl⟩
    rw [qah hx, List.all_cons] at hinv
    refine AtIf.mk (fun h3 => ?_) (fun h3 => ?_)
    ·have h3 : nameC x = false := by simpa using h3
     exact AtRet.pure [] rfl (by simp) ⟨by rw [hinv, h3]; rfl, rfl⟩
    ·have h3 : nameC x = true := by simpa using h3
     have hw3 : IntKind.i64.wrap (i + 1) = ((i + 1 : Nat) : Int) := wrap_i64 (by omega) (by omega)
     exact ⟨i + 1, ⟨by omega, by rw [hinv, h3]; rfl⟩, by simp only; omega, ⟨by rw [← hw3]; rfl, rfl, rfl, trivial⟩, StLe.to _ _ rfl (by simp) rfl rfl⟩
   ·simp only [decide_eq_false_iff_not, hsz] at h1
    rw [List.drop_of_length_le (by omega)] at hinv
    exact AtRet.pure [] rfl (by simp) ⟨by rw [hinv]; rfl, rfl⟩
 ·have h : (decide ((s.size : Int) < 1) || decide ((s.size : Int) > 16)) = true := h
  refine AtIf.mk (fun _ => ?_) (fun h => by cases h)
  have : nameF f s = false := by
   rw [hN]
   cases hl : s.data.toList with
   | nil => rfl
   | cons c l =>
    rw [hl] at hsz
    simp at hsz h
    simp
    omega
  exact AtRet.pure [] rfl (by simp) ⟨by rw [this], rfl⟩
def isSmallF (s : ByteArray) : Bool := nameF smallC s
def isCapitalF (s : ByteArray) : Bool := nameF capC s
theorem qc7 (s : ByteArray) : Pure Tryz.prog (fnS 78) [sS s] [] (fun r out => r = bS (isSmallF s) ∧ out = []) := by
 refine qb (N := 5) (m := 0) (dt := fun _ => none) [] ttOK Tryz.func78 rfl Tryz.call78 Tryz.ntmps78 rfl rfl rfl mixed (by kernel_rfl) ?_
 refine (qne _ rfl smallC (fun c => qij c) s).at (by simp) rfl rfl ?_
 rintro r out ⟨rfl, rfl⟩
 exact AtRet.pure [] rfl (by simp) ⟨rfl, rfl⟩
theorem qj0 (s : ByteArray) : Pure Tryz.prog (fnS 165) [sS s] [] (fun r out => r = bS (isCapitalF s) ∧ out = []) := by
 refine qb (N := 5) (m := 0) (dt := fun _ => none) [] ttOK Tryz.func165 rfl Tryz.call165 Tryz.ntmps165 rfl rfl rfl mixed (by kernel_rfl) ?_
 refine (qne _ rfl capC (fun c => qhc c) s).at (by simp) rfl rfl ?_
 rintro r out ⟨rfl, rfl⟩
 exact AtRet.pure [] rfl (by simp) ⟨rfl, rfl⟩
def refNameF (s : ByteArray) : Bool := match s.data.toList with
 | [] => false
 | c :: l => decide ((c :: l).length ≤ 16) && (smallC c || capC c) && (c :: l).all nameC
theorem qfn (c : UInt8) : Pure Tryz.prog (fnS 88) [cS c] [] (fun r out => r = bS (smallC c) ∧ out = []) := by
 refine qb (N := 9) (m := 0) (dt := fun _ => none) [] ttOK Tryz.func88 rfl Tryz.call88 Tryz.ntmps88 rfl rfl rfl mixed (by kernel_rfl) ?_
 exact AtRet.pure [] rfl (by simp) ⟨rfl, rfl⟩
theorem qe3 (c : UInt8) : Pure Tryz.prog (fnS 131) [cS c] [] (fun r out => r = bS (smallC c || capC c) ∧ out = []) := by
 refine qb (N := 13) (m := 0) (dt := fun _ => none) [] ttOK Tryz.func131 rfl Tryz.call131 Tryz.ntmps131 rfl rfl rfl mixed (by kernel_rfl) ?_
 refine (qfn c).at (by simp) rfl rfl ?_
 rintro r out ⟨rfl, rfl⟩
 exact AtRet.pure [] rfl (by simp) ⟨rfl, rfl⟩
theorem qj3 (c : UInt8) : Pure Tryz.prog (fnS 166) [cS c] [] (fun r out => r = bS (nameC c) ∧ out = []) := by
 refine qb (N := 21) (m := 0) (dt := fun _ => none) [] ttOK Tryz.func166 rfl Tryz.call166 Tryz.ntmps166 rfl rfl rfl mixed (by kernel_rfl) ?_
 refine (qe3 c).at (by simp) rfl rfl ?_
 rintro r out ⟨rfl, rfl⟩
 exact AtRet.pure [] rfl (by simp) ⟨rfl, rfl⟩
def runF : List UInt8 → Nat
 | [] => 0
 | c :: l => if nameC c then runF l + 1 else 0
theorem runF_all : ∀ l, (runF l = l.length) ↔ l.all nameC = true
 | [] => by simp [runF]
 | c :: l => by
  have := runF_all l
  simp only [runF, List.all_cons, Bool.and_eq_true, List.length_cons]
  split
  ·rename_i h; simp [h, this]
  ·rename_i h; simp [h]
theorem run_spec (s : ByteArray) (hs : s.size ≤ 1000000) : Pure Tryz.prog (fnS 132) [sS s, iS 0] [] (fun r out => r = iS (runF s.data.toList) ∧ out = []) := by
 have hsz : s.size = s.data.toList.length := rfl
 refine qb (N := 18) (m := 0) (dt := fun _ => none) [] ttOK Tryz.func132 rfl Tryz.call132 Tryz.ntmps132 rfl rfl rfl mixed (by kernel_rfl) ?_
 refine AtLoop.mk ⟨Nat, fun i => [(1, iS i), (0, sS s)], fun _ => ⟨[], [], []⟩,
  fun i => i ≤ s.data.toList.length ∧ runF s.data.toList = i + runF (s.data.toList.drop i), fun i => s.data.toList.length - i, 0, ⟨Nat.zero_le _, by simp⟩, ⟨rfl, rfl, trivial⟩, StLe.refl _, fun _ _ => ⟨rfl, rfl⟩, ?_⟩
 rintro i ⟨hi, hinv⟩
 refine AtGuard.mk (fun h => ?_) (fun h => ?_)
 ·have h : decide ((i : Int) < s.size) = true := h
  simp only [decide_eq_true_eq, hsz] at h
  obtain ⟨x, hx⟩ : ∃ x, s.data.toList[i]? = some x := ⟨_, List.getElem?_eq_getElem (by omega)⟩
  refine qb8 ttOK rfl rfl rfl (by omega) (b := x) (by rw [Int.toNat_natCast]; exact hx) ?_
  refine (qj3 x).at (by simp) rfl rfl ?_
  rintro r out ⟨rfl, rfl⟩
  rw [qah hx, runF] at hinv
  refine AtIf.mk (fun h3 => ?_) (fun h3 => ?_)
  ·have h3 : nameC x = true := h3
   rw [if_pos h3] at hinv
   have hw3 : IntKind.i64.wrap (i + 1) = ((i + 1 : Nat) : Int) := wrap_i64 (by omega) (by omega)
   exact ⟨i + 1, ⟨by omega, by rw [hinv]; omega⟩, by simp only; omega, ⟨by rw [← hw3]; rfl, rfl, trivial⟩, StLe.to _ _ rfl (by simp) rfl rfl⟩
  ·have h3 : nameC x = false := h3
   rw [h3] at hinv
   exact AtRet.pure [] rfl (by simp) ⟨by rw [hinv]; rfl, rfl⟩
 ·have h : decide ((i : Int) < s.size) = false := h
  simp only [decide_eq_false_iff_not, hsz] at h
  rw [List.drop_of_length_le (by omega)] at hinv
  refine AtIf.mk (fun h3 => ?_) (fun h3 => ?_)
  ·cases h3
  ·exact AtRet.pure [] rfl (by simp) ⟨by rw [hinv]; rfl, rfl⟩
theorem qkf (s : ByteArray) : Pure Tryz.prog (fnS 87) [sS s] [] (fun r out => r = bS (refNameF s) ∧ out = []) := by
 have hsz : s.size = s.data.toList.length := rfl
 have hN : refNameF s = match s.data.toList with
  | [] => false
  | c :: l => decide ((c :: l).length ≤ 16) && (smallC c || capC c) && (c :: l).all nameC := rfl
 refine qb (N := 23) (m := 0) (dt := fun _ => none) [] ttOK Tryz.func87 rfl Tryz.call87 Tryz.ntmps87 rfl rfl rfl mixed (by kernel_rfl) ?_
 have hlow : (decide ((s.size : Int) ≥ 1) && decide ((s.size : Int) ≤ 16)) = false → refNameF s = false := by
  intro h
  rw [hN]
  cases hl : s.data.toList with
  | nil => rfl
  | cons c l =>
   rw [hl] at hsz
   simp at hsz h
   simp
   omega
 refine AtGuard.mk (fun h => ?_) (fun h => ?_)
 ·have h : (decide ((s.size : Int) ≥ 1) && decide ((s.size : Int) ≤ 16)) = true := h
  simp only [Bool.and_eq_true, decide_eq_true_eq] at h
  obtain ⟨c, l, hl⟩ : ∃ c l, s.data.toList = c :: l := by
   cases hl : s.data.toList with
   | nil => have h0 : s.size = 0 := by rw [hsz, hl]; rfl
            omega
   | cons c l => exact ⟨c, l, rfl⟩
  have hsz' := hsz
  rw [hl] at hN hsz'
  have h16 : (c :: l).length ≤ 16 := by omega
  simp only [h16, decide_true, Bool.true_and] at hN
  refine qb8 ttOK rfl rfl rfl (by decide) (b := c) (by rw [hl]; rfl) ?_
  refine (qe3 c).at (by simp) rfl rfl ?_
  rintro r out ⟨rfl, rfl⟩
  refine AtGuard.mk (fun h2 => ?_) (fun h2 => ?_)
  ·have h2 : (smallC c || capC c) = true := h2
   refine (run_spec s (by omega)).at (by simp) rfl rfl ?_
   rintro r out ⟨rfl, rfl⟩
   refine AtRet.pure [] rfl (by simp) ⟨?_, rfl⟩
   rw [hN, h2, Bool.true_and, ← hl]
   have := runF_all s.data.toList
   have e : (((runF s.data.toList : Nat) : Int) == (s.size : Int)) = s.data.toList.all nameC := by
    rw [Bool.eq_iff_iff, ← this, beq_iff_eq, hsz]; omega
   rw [e]
  ·have h2 : (smallC c || capC c) = false := h2
   exact AtRet.pure [] rfl (by simp) ⟨by rw [hN, h2]; rfl, rfl⟩
 ·have h : (decide ((s.size : Int) ≥ 1) && decide ((s.size : Int) ≤ 16)) = false := h
  refine AtGuard.mk (fun h => by cases h) (fun _ => ?_)
  exact AtRet.pure [] rfl (by simp) ⟨by rw [hlow h], rfl⟩
theorem qoc (s : ByteArray) : refNameF s = (isSmallF s || isCapitalF s) := by
 unfold refNameF isSmallF isCapitalF nameF
 cases s.data.toList with
 | nil => rfl
 | cons c l => simp only; cases decide ((c :: l).length ≤ 16) <;> cases smallC c <;> cases capC c <;> cases (c :: l).all nameC <;> rfl
theorem qi4 (s : ByteArray) : Pure Tryz.prog (fnS 39) [sS s] [] (fun r out => r = bS (isSmallF s) ∧ out = []) := by
 refine qb (N := 10) (m := 0) (dt := fun _ => none) [] ttOK Tryz.func39 rfl Tryz.call39 Tryz.ntmps39 rfl rfl rfl mixed (by kernel_rfl) ?_
 refine (qkf s).at (by simp) rfl rfl ?_
 rintro r out ⟨rfl, rfl⟩
 refine AtGuard.mk (fun h => ?_) (fun h => ?_)
 ·have h : refNameF s = true := h
  obtain ⟨c, l, hl⟩ : ∃ c l, s.data.toList = c :: l := by
   cases hl : s.data.toList with
   | nil => rw [refNameF, hl] at h; cases h
   | cons c l => exact ⟨c, l, rfl⟩
  refine qb8 ttOK rfl rfl rfl (by decide) (b := c) (by rw [hl]; rfl) ?_
  refine (qfn c).at (by simp) rfl rfl ?_
  rintro r out ⟨rfl, rfl⟩
  refine AtRet.pure [] rfl (by simp) ⟨?_, rfl⟩
  simp only [refNameF, isSmallF, nameF, hl, Bool.and_eq_true] at h ⊢
  rw [h.2, h.1.1]
  cases smallC c <;> rfl
 ·have h : refNameF s = false := h
  refine AtRet.pure [] rfl (by simp) ⟨?_, rfl⟩
  rw [qoc, Bool.or_eq_false_iff] at h
  rw [h.1]
end

section
open Go.Tr Go Go.Proofs.Tryz
set_option maxRecDepth 10000
abbrev stD (l : List ByteArray) : List D := l.map D.str
abbrev stS (l : List ByteArray) (a : OA) (c : Nat) : SV := .v (.slice a (stD l).length c)
abbrev stR (l : List ByteArray) (a : OA) (c : Nat) : Value × D := (.slice a (stD l).length c, .sl 1 (stD l))
theorem stD_get {l : List ByteArray} {i : Nat} {x : ByteArray} (h : l[i]? = some x) : (stD l)[i]? = some (.str x) := by rw [List.getElem?_map, h]; rfl
def idxS (v : ByteArray) : List ByteArray → Nat → Int
 | [], _ => -1
 | x :: l, i => if v.toList == x.toList then (i : Int) else idxS v l (i + 1)
theorem qok (l : List ByteArray) (v : ByteArray) (a : OA) (c : Nat) : Pure Tryz.prog (fnS 164) [stS l a c, sS v] [stR l a c] (fun r out => r = iS (idxS v l 0) ∧ out = []) := by
 refine qv fun hok => ?_
 have hB : (stD l).length ≤ 1152921504606846976 := (hok _ (List.mem_cons_self ..)).1
 have hlen : (stD l).length = l.length := List.length_map ..
 refine qb (N := 19) (m := 0) (dt := fun _ => none) [] ttOK Tryz.func164 rfl Tryz.call164 Tryz.ntmps164 rfl rfl rfl mixed (by kernel_rfl) ?_
 refine AtLoop.mk ⟨Nat, fun i => [(8, iS i), (7, iS (stD l).length), (0, stS l a c), (1, sS v)], fun _ => ⟨[], [], [stR l a c]⟩,
  fun i => i ≤ l.length ∧ idxS v l 0 = idxS v (l.drop i) i, fun i => l.length - i, 0, ⟨Nat.zero_le _, rfl⟩, ⟨rfl, rfl, rfl, rfl, trivial⟩, StLe.refl _, fun _ _ => ⟨rfl, rfl⟩, ?_⟩
 rintro i ⟨hi, hinv⟩
 refine AtIf.mk (fun h1 => ?_) (fun h1 => ?_)
 ·simp only [decide_eq_true_eq, hlen] at h1
  obtain ⟨x, hx⟩ : ∃ x, l[i]? = some x := ⟨_, List.getElem?_eq_getElem (by omega)⟩
  refine qd ttOK 0 rfl rfl rfl rfl (by omega) (by rw [Int.toNat_natCast]; exact stD_get hx) ?_
  rw [qah hx, idxS] at hinv
  refine AtIf.mk (fun h2 => ?_) (fun h2 => ?_)
  ·have h2 : (v.toList == x.toList) = true := h2
   rw [if_pos h2] at hinv
   exact AtRet.pure [] rfl (by simp) ⟨by rw [hinv], rfl⟩
  ·have h2 : (v.toList == x.toList) = false := h2
   rw [h2] at hinv
   have hw3 : IntKind.i64.wrap (i + 1) = ((i + 1 : Nat) : Int) := wrap_i64 (by omega) (by omega)
   exact ⟨i + 1, ⟨by omega, hinv⟩, by simp only; omega, ⟨by rw [← hw3]; rfl, rfl, rfl, rfl, trivial⟩, StLe.to _ _ rfl (by simp) rfl rfl⟩
 ·simp only [decide_eq_false_iff_not, hlen] at h1
  rw [List.drop_of_length_le (by omega)] at hinv
  exact AtRet.pure [] rfl (by simp) ⟨by rw [hinv]; rfl, rfl⟩
def hasS (v : ByteArray) (l : List ByteArray) : Bool := decide (idxS v l 0 ≥ 0)
theorem qey (l : List ByteArray) (v : ByteArray) (a : OA) (c : Nat) : Pure Tryz.prog (fnS 126) [stS l a c, sS v] [stR l a c] (fun r out => r = bS (hasS v l) ∧ out = []) := by
 refine qb (N := 9) (m := 0) (dt := fun _ => none) [] ttOK Tryz.func126 rfl Tryz.call126 Tryz.ntmps126 rfl rfl rfl mixed (by kernel_rfl) ?_
 refine (qok l v a c).at (by simp) rfl rfl ?_
 rintro r out ⟨rfl, rfl⟩
 exact AtRet.pure [] rfl (by simp) ⟨rfl, rfl⟩
end

section
open Go.Tr Go Go.Proofs.Tryz
set_option maxRecDepth 10000
inductive Rw where
 | mk (op : Int) (name : ByteArray) (args : List Rw)
def Rw.op : Rw → Int | .mk o _ _ => o
def Rw.name : Rw → ByteArray | .mk _ s _ => s
def Rw.args : Rw → List Rw | .mk _ _ a => a
mutual
def Rw.enc : Rw → D
 | .mk o s a => .agg [.int .i64 o, .str s, .sl 3 (Rw.encL a)]
def Rw.encL : List Rw → List D
 | [] => []
 | t :: ts => t.enc :: Rw.encL ts
 end
theorem Rw.encL_eq : ∀ (l : List Rw), Rw.encL l = l.map Rw.enc
 | [] => rfl
 | t :: ts => by simp only [Rw.encL, List.map_cons, Rw.encL_eq ts]
theorem Rw.encL_length (l : List Rw) : (Rw.encL l).length = l.length := by simp [Rw.encL_eq]
theorem Rw.enc_eq (t : Rw) : t.enc = .agg [.int .i64 t.op, .str t.name, .sl 3 (Rw.encL t.args)] := by cases t; rfl
theorem Rw.encL_get {l : List Rw} {i : Nat} {t : Rw} (h : l[i]? = some t) : (Rw.encL l)[i]? = some (.agg [.int .i64 t.op, .str t.name, .sl 3 (Rw.encL t.args)]) := by
 rw [Rw.encL_eq, List.getElem?_map, h]; cases t; rfl
theorem Rw.ind {motive : Rw → Prop} (h : ∀ t, (∀ x ∈ t.args, motive x) → motive t) (t : Rw) : motive t := by
 induction t using Rw.rec (motive_2 := fun ts => ∀ x ∈ ts, motive x) with
 | nil => rename_i x hx; cases hx
 | cons t ts ih1 ih2 => rename_i x hx; rcases List.mem_cons.1 hx with e | e; (subst e; exact ih1); exact ih2 x e
 | mk op name args ih => exact h _ ih
abbrev rwS (t : Rw) (a : OA) (c : Nat) : SV := .agg [.v (.int .i64 t.op), .v (.string t.name), .v (.slice a (Rw.encL t.args).length c)]
abbrev rwR (t : Rw) (a : OA) (c : Nat) : Value × D := (.slice a (Rw.encL t.args).length c, .sl 3 (Rw.encL t.args))
abbrev tyB : ByteArray := ⟨#[116, 121, 112, 101]⟩
abbrev emB : ByteArray := ⟨#[]⟩
def namedF (s : ByteArray) : Bool := isCapitalF s || (isSmallF s && !(s.toList == tyB.toList))
def rawArgs (op : Int) : Int := if op = 4 ∨ op = 5 ∨ op = 6 ∨ op = 7 then 2 else 0
def rawHas (op : Int) : Bool := op == 2 || op == 5 || op == 7
def rawOp (op : Int) : Bool := decide (1 ≤ op ∧ op ≤ 7)
def okRaw (op : Int) (s : ByteArray) (len : Nat) : Bool := rawOp op && ((len : Int) == rawArgs op) && (rawHas op == namedF s) && (rawHas op || s.toList == emB.toList)
mutual
def Rw.sk : Rw → Tm
 | .mk o s a => .mk (if okRaw o s a.length then 4 else 0) 1 0 (Rw.skL a)
def Rw.skL : List Rw → List Tm
 | [] => []
 | t :: ts => t.sk :: Rw.skL ts
 end
theorem Rw.sk_eq (t : Rw) : t.sk = .mk (if okRaw t.op t.name t.args.length then 4 else 0) 1 0 (Rw.skL t.args) := by cases t; rfl
theorem sk_ok (o : Int) (s : ByteArray) (len m : Nat) : okNode (if okRaw o s len then 4 else 0) 1 0 m = okRaw o s len := by
 cases okRaw o s len <;> simp [okNode]
theorem qkn (s : ByteArray) : Pure Tryz.prog (fnS 127) [sS s] [] (fun r out => r = bS (namedF s) ∧ out = []) := by
 refine qb (N := 13) (m := 0) (dt := fun _ => none) [] ttOK Tryz.func127 rfl Tryz.call127 Tryz.ntmps127 rfl rfl rfl mixed (by kernel_rfl) ?_
 refine (qj0 s).at (by simp) rfl rfl ?_
 rintro r out ⟨rfl, rfl⟩
 refine AtGuard.mk (fun h => ?_) (fun h => ?_)
 ·have h : isCapitalF s = false := h
  refine (qc7 s).at (by simp) rfl rfl ?_
  rintro r out ⟨rfl, rfl⟩
  exact AtRet.pure [] rfl (by simp) ⟨by rw [namedF, h]; rfl, rfl⟩
 ·have h : isCapitalF s = true := h
  exact AtRet.pure [] rfl (by simp) ⟨by rw [namedF, h]; rfl, rfl⟩
theorem qjs (t : Rw) : ∀ (depth k : Int) (a : OA) (c : Nat), 0 ≤ depth → depth ≤ 41 → 0 ≤ k → k ≤ 400 →
  Meets Tryz.prog (fnS 125) [rwS t a c, iS depth, .loc 0 0] ⟨[.cells 3 [iS k]], [], [rwR t a c]⟩
   (fun o S' => o = .ret (bS (properF t.sk depth (k + 200)).1) ∧ S' = ⟨[.cells 3 [iS ((properF t.sk depth (k + 200)).2 - 200)]], [], []⟩) := by
 induction t using Rw.ind with
 | h t ih =>
 intro depth k a c hd1 hd2 hk1 hk2
 refine qv fun hok => ?_
 have hB : (Rw.encL t.args).length ≤ 1152921504606846976 := (hok _ (List.mem_cons_self ..)).1
 have hlen := Rw.encL_length t.args
 refine qb (N := 72) (m := 1) (dt := fun _ => none) [5] ttOK Tryz.func125 rfl Tryz.call125 Tryz.ntmps125 rfl rfl rfl mixed (by kernel_rfl) ?_
 have hw : IntKind.i64.wrap (k + 1) = k + 1 := wrap_i64 (by omega) (by omega)
 have hF := qde t.sk depth (k + 200)
 rw [Rw.sk_eq] at hF
 simp only [Tm.op, Tm.hd, Tm.n, Tm.args, sk_ok] at hF
 rw [← Rw.sk_eq] at hF
 refine AtIf.mk ?_ ?_
 ·intro h
  rw [hw] at h
  refine qaj [.cells 3 [iS (k + 1)]] (by simp only [hw]; rfl) rfl rfl rfl rfl ?_
  have h : 400 < k + 1 ∨ 40 < depth := by simpa using h
  rw [hF, if_pos (by omega)]
  have e : k + 200 + 1 - 200 = k + 1 := by omega
  exact ⟨rfl, by simp only [e]⟩
 ·intro h
  rw [hw] at h
  have hno : ¬ (400 < k + 1 ∨ 40 < depth) := by simpa using h
  rw [if_neg (by omega)] at hF
  refine AtCut.mk ⟨Unit, fun _ => [(7, iS (rawArgs t.op)), (8, bS (rawHas t.op)), (3, .loc 1 0), (1, iS depth), (2, .loc 0 0)],
   fun _ => ⟨[.cells 3 [iS (k + 1)], .cells 25 [iS t.op, sS t.name, .v (.slice a (Rw.encL t.args).length c)]], [], [rwR t a c]⟩,
   fun _ => rawOp t.op = true, fun _ _ => ⟨rfl, rfl⟩, ?_, ?_⟩
  ·rw [hw]
   have fin : ∀ {n : Int} {b : Bool} {env : Env} {S : St}, n = rawArgs t.op → b = rawHas t.op → rawOp t.op = true → S = ⟨[.cells 3 [iS (k + 1)], .cells 25 [iS t.op, sS t.name, .v (.slice a (Rw.encL t.args).length c)]], [], [rwR t a c]⟩ →
     envLe env [(7, iS n), (8, bS b), (3, .loc 1 0), (1, iS depth), (2, .loc 0 0)] →
     ∃ x : Unit, rawOp t.op = true ∧ envLe env [(7, iS (rawArgs t.op)), (8, bS (rawHas t.op)), (3, .loc 1 0), (1, iS depth), (2, .loc 0 0)] ∧ StLe S ⟨[.cells 3 [iS (k + 1)], .cells 25 [iS t.op, sS t.name, .v (.slice a (Rw.encL t.args).length c)]], [], [rwR t a c]⟩ := by
    rintro n b env S rfl rfl ho rfl he
    exact ⟨(), ho, he, StLe.refl _⟩
   have hop : t.op = 1 ∨ t.op = 2 ∨ t.op = 3 ∨ t.op = 4 ∨ t.op = 5 ∨ t.op = 6 ∨ t.op = 7 ∨ (t.op ≠ 1 ∧ t.op ≠ 2 ∧ t.op ≠ 3 ∧ t.op ≠ 4 ∧ t.op ≠ 5 ∧ t.op ≠ 6 ∧ t.op ≠ 7) := by omega
   rcases hop with ho | ho | ho | ho | ho | ho | ho | ⟨h1, h2, h3, h4, h5, h6, h7⟩
   iterate 7
    ·repeat (refine AtIf.mk (fun h => ?_) (fun h => ?_) <;> first | (exfalso; simp [ho] at h; done) | skip)
     exact fin (by rw [ho]; rfl) (by rw [ho]; rfl) (by rw [ho]; rfl) rfl ⟨rfl, rfl, rfl, rfl, rfl, trivial⟩
   ·repeat (refine AtIf.mk (fun h => ?_) (fun h => ?_) <;> first | (exfalso; simp [h1, h2, h3, h4, h5, h6, h7] at h; done) | skip)
    refine qaj [.cells 3 [iS (k + 1)]] rfl rfl rfl rfl rfl ?_
    have : okRaw t.op t.name t.args.length = false := by
     have : rawOp t.op = false := by simp [rawOp]; omega
     rw [okRaw, this]; rfl
    rw [hF, this]
    have e : k + 200 + 1 - 200 = k + 1 := by omega
    exact ⟨rfl, by simp only [Bool.false_eq_true, if_false, e]⟩
  ·intro _ hop
   have hE : okRaw t.op t.name t.args.length = (((t.args.length : Int) == rawArgs t.op) && (rawHas t.op == namedF t.name) && (rawHas t.op || t.name.toList == emB.toList)) := by
    rw [okRaw, hop, Bool.true_and]
   have bad : okRaw t.op t.name t.args.length = false → properF t.sk depth (k + 200) = (false, k + 200 + 1) := by
    intro h; rw [hF, h]; rfl
   have e : k + 200 + 1 - 200 = k + 1 := by omega
   have hend : okRaw t.op t.name t.args.length = false → bS false = bS (properF t.sk depth (k + 200)).1 ∧ ([.cells 3 [iS (k + 1)]] : List Blk) = [.cells 3 [iS ((properF t.sk depth (k + 200)).2 - 200)]] := by
    intro h; rw [bad h]; simp only [e]; exact ⟨trivial, trivial⟩
   refine AtGuard.mk (fun h1 => ?_) (fun h1 => ?_)
   rotate_left
   ·refine AtIf.mk (fun _ => ?_) (fun h => by cases h)
    have h1 : ((((Rw.encL t.args).length : Nat) : Int) != rawArgs t.op) = true := h1
    refine qaj [.cells 3 [iS (k + 1)]] rfl rfl rfl rfl rfl ?_
    have : okRaw t.op t.name t.args.length = false := by
     rw [hE]
     simp [hlen] at h1
     simp [h1]
    obtain ⟨e1, e2⟩ := hend this
    exact ⟨by rw [← e1], by rw [← e2]⟩
   refine (qkn t.name).at (by simp) rfl rfl ?_
   rintro r out ⟨rfl, rfl⟩
   refine at_boolNe ?_
   have h1 : ((((Rw.encL t.args).length : Nat) : Int) != rawArgs t.op) = false := h1
   refine AtIf.mk (fun h2 => ?_) (fun h2 => ?_)
   ·refine qaj [.cells 3 [iS (k + 1)]] rfl rfl rfl rfl rfl ?_
    have : okRaw t.op t.name t.args.length = false := by
     have h2 : ((rawHas t.op != namedF t.name) || (!rawHas t.op && !(t.name.toList == emB.toList))) = true := h2
     rw [hE]
     revert h2
     cases rawHas t.op <;> cases namedF t.name <;> cases (t.name.toList == emB.toList) <;> simp
    obtain ⟨e1, e2⟩ := hend this
    exact ⟨by rw [← e1], by rw [← e2]⟩
   have hokR : okRaw t.op t.name t.args.length = true := by
    have h2 : ((rawHas t.op != namedF t.name) || (!rawHas t.op && !(t.name.toList == emB.toList))) = false := h2
    simp [hlen] at h1
    rw [hE, h1]
    revert h2
    cases rawHas t.op <;> cases namedF t.name <;> cases (t.name.toList == emB.toList) <;> simp
   rw [hokR, if_pos rfl] at hF
   refine AtLoop.mk ⟨Nat × Int, fun x => [(61, iS x.1), (60, iS (Rw.encL t.args).length), (59, .v (.slice a (Rw.encL t.args).length c)), (3, .loc 1 0), (1, iS depth), (2, .loc 0 0)],
    fun x => ⟨[.cells 3 [iS x.2], .cells 25 [iS t.op, sS t.name, .v (.slice a (Rw.encL t.args).length c)]], [], [rwR t a c]⟩,
    fun x => x.1 ≤ t.args.length ∧ 0 ≤ x.2 ∧ x.2 ≤ 400 ∧ properF t.sk depth (k + 200) = properL (Rw.skL (t.args.drop x.1)) (depth + 1) (x.2 + 200),
    fun x => t.args.length - x.1, (0, k + 1), ⟨Nat.zero_le _, by simp only; omega, by simp only; omega, by simp only [List.drop_zero]; rw [hF]; congr 1; omega⟩, ⟨rfl, rfl, rfl, rfl, rfl, rfl, trivial⟩, StLe.refl _, fun x _ => ⟨rfl, rfl⟩, ?_⟩
   rintro ⟨i, kk⟩ ⟨hi, hk0, hk4, hinv⟩
   simp only at hi hk0 hk4 hinv ⊢
   refine AtIf.mk (fun h3 => ?_) (fun h3 => ?_)
   ·simp only [decide_eq_true_eq, hlen] at h3
    obtain ⟨t', ht'⟩ : ∃ t', t.args[i]? = some t' := ⟨_, List.getElem?_eq_getElem (by omega)⟩
    refine qd ttOK 0 rfl rfl rfl rfl (by omega) (by rw [Int.toNat_natCast]; exact Rw.encL_get ht') ?_
    intro a' c' _ _
    have hw2 : IntKind.i64.wrap (depth + 1) = depth + 1 := wrap_i64 (by omega) (by omega)
    have hspec := ih t' (List.mem_of_getElem? ht') (depth + 1) kk a' c' (by omega) (by omega) hk0 hk4
    refine hspec.frame [0] rfl (by simp only [hw2]; rfl) (by simp) rfl ?_ ?_ rfl rfl ?_
    ·intro p q hp
     match p, hp with
     | 0, hp => simp at hp; subst hp; exact ⟨0, rfl, rfl, rfl⟩
    ·intro p hp; simp at hp; subst hp; exact List.mem_cons_of_mem _ (List.mem_cons_self ..)
    ·rintro o s' ⟨rfl, rfl⟩
     refine ⟨rfl, rfl, [.cells 3 [iS ((properF t'.sk (depth + 1) (kk + 200)).2 - 200)]], rfl, ?_⟩
     have hle := qcp t'.sk (depth + 1) (kk + 200) (by omega) (by omega)
     rw [qah ht', Rw.skL, properL] at hinv
     cases hp : properF t'.sk (depth + 1) (kk + 200) with
     | mk b k' =>
      rw [hp] at hinv hle
      refine AtIf.mk (fun h4 => ?_) (fun h4 => ?_)
      ·have h4 : b = false := by simpa using h4
       subst h4
       refine qaj [.cells 3 [iS (k' - 200)]] rfl rfl rfl rfl rfl ?_
       rw [hinv]
       exact ⟨rfl, rfl⟩
      ·have h4 : b = true := by simpa using h4
       subst h4
       have hw3 : IntKind.i64.wrap (i + 1) = ((i + 1 : Nat) : Int) := wrap_i64 (by omega) (by omega)
       have h6 := hle.2.2 rfl
       simp only at hle h6 hinv
       refine ⟨(i + 1, k' - 200), ⟨by omega, by simp only; omega, by simp only; omega, ?_⟩, by simp only; omega, ⟨by rw [← hw3]; rfl, rfl, rfl, rfl, rfl, rfl, trivial⟩, StLe.to _ _ rfl (by simp) rfl rfl⟩
       rw [hinv]
       simp only
       congr 1
       omega
   ·simp only [decide_eq_false_iff_not, hlen] at h3
    rw [List.drop_of_length_le (by omega)] at hinv
    refine qaj [.cells 3 [iS kk]] rfl rfl rfl rfl rfl ?_
    rw [hinv]
    have e : kk + 200 - 200 = kk := by omega
    simp only [Rw.skL, properL, e]
    exact ⟨trivial, trivial⟩
def rawOK (t : Rw) : Bool := (properF t.sk 1 200).1
theorem qdt (t : Rw) (a : OA) (c : Nat) : Pure Tryz.prog (fnS 79) [rwS t a c] [rwR t a c] (fun r out => r = iS (if rawOK t then 0 else 2) ∧ out = []) := by
 refine qb (N := 7) (m := 0) (dt := fun _ => none) [] ttOK Tryz.func79 rfl Tryz.call79 Tryz.ntmps79 rfl rfl rfl mixed (by kernel_rfl) ?_
 have hs := qjs t 1 0 a c (by omega) (by omega) (by omega) (by omega)
 refine hs.frame [1] rfl rfl (by decide) rfl ?_ (by simp) rfl rfl ?_
 ·intro p q hp
  match p, hp with
  | 0, hp => simp at hp; subst hp; exact ⟨1, rfl, rfl, rfl⟩
 rintro o s' ⟨rfl, rfl⟩
 refine ⟨rfl, rfl, [.cells 3 [iS ((properF t.sk 1 (0 + 200)).2 - 200)]], rfl, ?_⟩
 refine AtIf.mk (fun h => ?_) (fun h => ?_)
 ·refine AtRet.pure [] rfl (by simp) ⟨?_, rfl⟩
  have h : (properF t.sk 1 200).1 = false := by simpa using h
  have h : rawOK t = false := h
  simp [h]
 ·refine AtRet.pure [] rfl (by simp) ⟨?_, rfl⟩
  have h : (properF t.sk 1 200).1 = true := by simpa using h
  have h : rawOK t = true := h
  simp [h]
def emptyRaw (t : Rw) : Bool := ((t.op == 0) && (t.name.toList == emB.toList)) && ((t.args.length : Int) == 0)
theorem qkt (t : Rw) (a : OA) (c : Nat) : Pure Tryz.prog (fnS 80) [rwS t a c] [rwR t a c] (fun r out => r = bS (emptyRaw t) ∧ out = []) := by
 have hlen := Rw.encL_length t.args
 refine qb (N := 17) (m := 0) (dt := fun _ => none) [] ttOK Tryz.func80 rfl Tryz.call80 Tryz.ntmps80 rfl rfl rfl mixed (by kernel_rfl) ?_
 exact AtRet.pure [] rfl (by simp) ⟨by rw [emptyRaw, ← hlen], rfl⟩
end

section
open Go.Tr Go Go.Proofs.Tryz
set_option maxRecDepth 10000
end

section
open Go.Tr Go Go.Proofs.Tryz
set_option maxRecDepth 10000
inductive Pt where
 | mk (op : Int) (sign name : ByteArray) (n : Int) (raw : Rw) (parts : List Pt)
def Pt.op : Pt → Int | .mk o _ _ _ _ _ => o
def Pt.sign : Pt → ByteArray | .mk _ s _ _ _ _ => s
def Pt.name : Pt → ByteArray | .mk _ _ s _ _ _ => s
def Pt.n : Pt → Int | .mk _ _ _ n _ _ => n
def Pt.raw : Pt → Rw | .mk _ _ _ _ r _ => r
def Pt.parts : Pt → List Pt | .mk _ _ _ _ _ p => p
mutual
def Pt.enc : Pt → D
 | .mk o s m n r p => .agg [.int .i64 o, .str s, .str m, .int .i64 n, .agg [.int .i64 r.op, .str r.name, .sl 3 (Rw.encL r.args)], .sl 8 (Pt.encL p)]
def Pt.encL : List Pt → List D
 | [] => []
 | t :: ts => t.enc :: Pt.encL ts
 end
theorem Pt.encL_eq : ∀ (l : List Pt), Pt.encL l = l.map Pt.enc
 | [] => rfl
 | t :: ts => by simp only [Pt.encL, List.map_cons, Pt.encL_eq ts]
theorem Pt.encL_length (l : List Pt) : (Pt.encL l).length = l.length := by simp [Pt.encL_eq]
theorem Pt.enc_eq (t : Pt) : t.enc = .agg [.int .i64 t.op, .str t.sign, .str t.name, .int .i64 t.n, .agg [.int .i64 t.raw.op, .str t.raw.name, .sl 3 (Rw.encL t.raw.args)], .sl 8 (Pt.encL t.parts)] := by cases t; rfl
theorem Pt.encL_get {l : List Pt} {i : Nat} {t : Pt} (h : l[i]? = some t) : (Pt.encL l)[i]? = some (.agg [.int .i64 t.op, .str t.sign, .str t.name, .int .i64 t.n, .agg [.int .i64 t.raw.op, .str t.raw.name, .sl 3 (Rw.encL t.raw.args)], .sl 8 (Pt.encL t.parts)]) := by
 rw [Pt.encL_eq, List.getElem?_map, h]; cases t; rfl
theorem Pt.ind {motive : Pt → Prop} (h : ∀ t, (∀ x ∈ t.parts, motive x) → motive t) (t : Pt) : motive t := by
 induction t using Pt.rec (motive_2 := fun ts => ∀ x ∈ ts, motive x) with
 | nil => rename_i x hx; cases hx
 | cons t ts ih1 ih2 => rename_i x hx; rcases List.mem_cons.1 hx with e | e; (subst e; exact ih1); exact ih2 x e
 | mk op s m n r p ih => exact h _ ih
abbrev ptL (t : Pt) (a1 : OA) (c1 : Nat) (a2 : OA) (c2 : Nat) : List SV := [.v (.int .i64 t.op), .v (.string t.sign), .v (.string t.name), .v (.int .i64 t.n), .v (.int .i64 t.raw.op), .v (.string t.raw.name), .v (.slice a1 (Rw.encL t.raw.args).length c1), .v (.slice a2 (Pt.encL t.parts).length c2)]
abbrev ptS (t : Pt) (a1 : OA) (c1 : Nat) (a2 : OA) (c2 : Nat) : SV := .agg (ptL t a1 c1 a2 c2)
abbrev ptR (t : Pt) (a : OA) (c : Nat) : Value × D := (.slice a (Pt.encL t.parts).length c, .sl 8 (Pt.encL t.parts))
abbrev plusB : ByteArray := ⟨#[43]⟩
abbrev minusB : ByteArray := ⟨#[45]⟩
abbrev starB : ByteArray := ⟨#[42]⟩
abbrev colonB : ByteArray := ⟨#[58]⟩
abbrev barB : ByteArray := ⟨#[124]⟩
abbrev equB : ByteArray := ⟨#[61]⟩
def ambig : List Pt → Bool
 | p :: q :: _ => (p.op == 1 && q.op == 8) && (q.sign.toList == colonB.toList)
 | _ => false
def swOK (t : Pt) : Bool :=
 if t.op = 1 then true
 else if t.op = 2 then hasS t.sign [plusB, minusB, starB]
 else if t.op = 3 then !(decide (t.n < 0) || decide (t.n > 10000))
 else if t.op = 8 then hasS t.sign [colonB, barB, equB]
 else if t.op = 4 ∨ t.op = 7 then rawOK t.raw
 else if t.op = 5 then !ambig t.parts
 else decide (t.op = 6)
def wName (t : Pt) : ByteArray := if t.op = 1 ∨ t.op = 2 ∨ t.op = 7 then t.name else emB
def wSign (t : Pt) : ByteArray := if t.op = 2 ∨ t.op = 8 then t.sign else emB
def wN (t : Pt) : Int := if t.op = 3 then t.n else 0
def isNm (t : Pt) : Bool := (t.op == 1 || t.op == 2) || t.op == 7
def isRw (t : Pt) : Bool := t.op == 4 || t.op == 7
def isLs (t : Pt) : Bool := t.op == 5 || t.op == 6
def okPt (t : Pt) : Bool := swOK t && (!isNm t || namedF t.name) && ((((t.name.toList == (wName t).toList && t.sign.toList == (wSign t).toList) && t.n == wN t) && (isRw t || emptyRaw t.raw)) && (isLs t || ((Pt.encL t.parts).length : Int) == 0))
mutual
def Pt.sk : Pt → Tm
 | .mk o s m n r p => .mk (if okPt (.mk o s m n r p) then 4 else 0) 1 0 (Pt.skL p)
def Pt.skL : List Pt → List Tm
 | [] => []
 | t :: ts => t.sk :: Pt.skL ts
 end
theorem Pt.sk_eq (t : Pt) : t.sk = .mk (if okPt t then 4 else 0) 1 0 (Pt.skL t.parts) := by cases t; rfl
theorem skOK (b : Bool) (m : Nat) : okNode (if b then 4 else 0) 1 0 m = b := by cases b <;> simp [okNode]
theorem okPt_leaf {t : Pt} (h : okPt t = true) (hl : isLs t = false) : t.parts = [] := by
 simp only [okPt, hl, Bool.and_eq_true, Bool.false_or, beq_iff_eq] at h
 have := h.2.2
 rw [Pt.encL_length] at this
 exact List.eq_nil_of_length_eq_zero (by omega)
theorem whole_spec (t : Pt) : ∀ (depth k : Int) (a1 : OA) (c1 : Nat) (a2 : OA) (c2 : Nat), 0 ≤ depth → depth ≤ 41 → 0 ≤ k → k ≤ 400 →
  Meets Tryz.prog (fnS 81) [ptS t a1 c1 a2 c2, iS depth, .loc 0 0] ⟨[.cells 3 [iS k]], [], [rwR t.raw a1 c1, ptR t a2 c2]⟩
   (fun o S' => ∃ kk, o = .ret (bS (properF t.sk depth (k + 200)).1) ∧ ((properF t.sk depth (k + 200)).1 = true → kk = (properF t.sk depth (k + 200)).2 - 200) ∧ S' = ⟨[.cells 3 [iS kk]], [], []⟩) := by
 induction t using Pt.ind with
 | h t ih =>
 intro depth k a1 c1 a2 c2 hd1 hd2 hk1 hk2
 refine qv fun hok => ?_
 have hB : (Pt.encL t.parts).length ≤ 1152921504606846976 := (hok _ (List.mem_cons_of_mem _ (List.mem_cons_self ..))).1
 have hlen := Pt.encL_length t.parts
 refine qb (N := 205) (m := 1) (dt := drawsOf [(10, .node [0, 1, 2, 3, 4] [(5, .node [6] [(7, .leaf [])])], [7], [2])]) [5, 29, 37] ttOK Tryz.func81 rfl Tryz.call81 Tryz.ntmps81 rfl rfl rfl mixed (by kernel_rfl) ?_
 have hw : IntKind.i64.wrap (k + 1) = k + 1 := wrap_i64 (by omega) (by omega)
 have hF : properF t.sk depth (k + 200) = if 600 < k + 200 + 1 ∨ 40 < depth then (false, k + 200 + 1) else if okPt t = true then properL (Pt.skL t.parts) (depth + 1) (k + 200 + 1) else (false, k + 200 + 1) := by
  rw [Pt.sk_eq, qde]
  simp only [Tm.op, Tm.hd, Tm.n, Tm.args, skOK]
 have bad : ∀ kk, (properF t.sk depth (k + 200)).1 = false → ∃ kk', Out.ret (bS false) = .ret (bS (properF t.sk depth (k + 200)).1) ∧ ((properF t.sk depth (k + 200)).1 = true → kk' = (properF t.sk depth (k + 200)).2 - 200) ∧ (⟨[.cells 3 [iS kk]], [], []⟩ : St) = ⟨[.cells 3 [iS kk']], [], []⟩ :=
  fun kk h => ⟨kk, by rw [h], by rw [h]; simp, rfl⟩
 refine AtIf.mk ?_ ?_
 ·intro h
  rw [hw] at h
  refine qaj [.cells 3 [iS (k + 1)]] (by simp only [hw]; rfl) rfl rfl rfl rfl (bad _ ?_)
  have h : 400 < k + 1 ∨ 40 < depth := by simpa using h
  rw [hF, if_pos (by omega)]
 intro h
 rw [hw] at h
 have hno : ¬ (400 < k + 1 ∨ 40 < depth) := by simpa using h
 rw [if_neg (by omega)] at hF
 have hbad : okPt t = false → (properF t.sk depth (k + 200)).1 = false := fun h => by rw [hF, h]; rfl
 have hsw : swOK t = false → okPt t = false := fun h => by rw [okPt, h]; rfl
 refine AtCut.mk ⟨Int, fun _ => [(3, .loc 1 0), (7, .loc 2 0), (1, iS depth), (2, .loc 0 0)],
  fun kk => ⟨[.cells 3 [iS kk], .cells 74 (ptL t a1 c1 a2 c2), .cells 74 [iS t.op, sS (wSign t), sS (wName t), iS (wN t), iS 0, sS emB, .v (.slice none 0 0), .v (.slice none 0 0)]], [], [rwR t.raw a1 c1, ptR t a2 c2]⟩,
  fun kk => swOK t = true ∧ (isLs t = true → properL (Pt.skL t.parts) (depth + 1) (k + 200 + 1) = (true, kk + 200)) ∧ (isLs t = false → kk = k + 1), fun _ _ => ⟨rfl, rfl⟩, ?_, ?_⟩
 ·rw [hw]
  have fin : ∀ {m s : ByteArray} {n kk : Int} {env : Env} {S : St}, m = wName t → s = wSign t → n = wN t → swOK t = true → (isLs t = true → properL (Pt.skL t.parts) (depth + 1) (k + 200 + 1) = (true, kk + 200)) → (isLs t = false → kk = k + 1) →
    envLe env [(3, .loc 1 0), (7, .loc 2 0), (1, iS depth), (2, .loc 0 0)] →
    StLe S ⟨[.cells 3 [iS kk], .cells 74 (ptL t a1 c1 a2 c2), .cells 74 [iS t.op, sS s, sS m, iS n, iS 0, sS emB, .v (.slice none 0 0), .v (.slice none 0 0)]], [], [rwR t.raw a1 c1, ptR t a2 c2]⟩ →
    ∃ kk, (swOK t = true ∧ (isLs t = true → properL (Pt.skL t.parts) (depth + 1) (k + 200 + 1) = (true, kk + 200)) ∧ (isLs t = false → kk = k + 1)) ∧ envLe env [(3, .loc 1 0), (7, .loc 2 0), (1, iS depth), (2, .loc 0 0)] ∧
     StLe S ⟨[.cells 3 [iS kk], .cells 74 (ptL t a1 c1 a2 c2), .cells 74 [iS t.op, sS (wSign t), sS (wName t), iS (wN t), iS 0, sS emB, .v (.slice none 0 0), .v (.slice none 0 0)]], [], [rwR t.raw a1 c1, ptR t a2 c2]⟩ := by
   rintro m s n kk env S rfl rfl rfl h1 h2 h3 h4 h5
   exact ⟨kk, ⟨h1, h2, h3⟩, h4, h5⟩
  have hop : t.op = 1 ∨ t.op = 2 ∨ t.op = 3 ∨ t.op = 8 ∨ t.op = 4 ∨ t.op = 7 ∨ t.op = 5 ∨ t.op = 6 ∨ (t.op ≠ 1 ∧ t.op ≠ 2 ∧ t.op ≠ 3 ∧ t.op ≠ 4 ∧ t.op ≠ 5 ∧ t.op ≠ 6 ∧ t.op ≠ 7 ∧ t.op ≠ 8) := by omega
  rcases hop with ho | ho | ho | ho | ho | ho | ho | ho | ⟨h1, h2, h3, h4, h5, h6, h7, h8⟩
  ·repeat (refine AtIf.mk (fun h => ?_) (fun h => ?_) <;> first | (exfalso; simp [ho] at h; done) | skip)
   exact fin (m := t.name) (s := emB) (n := 0) (kk := k + 1) (by simp [wName, ho]) (by simp [wSign, ho]) (by simp [wN, ho]) (by simp [swOK, ho]) (by simp [isLs, ho]) (fun _ => rfl) ⟨rfl, rfl, rfl, rfl, trivial⟩ (StLe.to _ _ rfl (by simp) rfl rfl)
  ·repeat (refine AtIf.mk (fun h => ?_) (fun h => ?_) <;> first | (exfalso; simp [ho] at h; done) | skip)
   refine ⟨fun _ _ h => h, ?_⟩
   refine qep ttOK 16 [.str plusB, .str minusB, .str starB] rfl (by kernel_rfl) ⟨⟨rfl, rfl, rfl, rfl⟩, ⟨rfl, rfl, rfl, rfl⟩, ⟨rfl, rfl, rfl, rfl⟩, trivial⟩ rfl (by decide) (by decide) ?_
   intro a
   refine (qey [plusB, minusB, starB] t.sign a 3).at (by simp) rfl rfl ?_
   rintro r out ⟨rfl, rfl⟩
   have hs : swOK t = hasS t.sign [plusB, minusB, starB] := by simp [swOK, ho]
   refine AtIf.mk (fun h => ?_) (fun h => ?_)
   ·have h : hasS t.sign [plusB, minusB, starB] = false := by simpa using h
    refine qaj [.cells 3 [iS (k + 1)]] rfl rfl rfl rfl rfl (bad _ (hbad (hsw (by rw [hs, h]))))
   ·have h : hasS t.sign [plusB, minusB, starB] = true := by simpa using h
    exact fin (m := t.name) (s := t.sign) (n := 0) (kk := k + 1) (by simp [wName, ho]) (by simp [wSign, ho]) (by simp [wN, ho]) (by rw [hs, h]) (by simp [isLs, ho]) (fun _ => rfl) ⟨rfl, rfl, rfl, rfl, trivial⟩ (StLe.to _ _ rfl (by simp) rfl rfl)
  ·repeat (refine AtIf.mk (fun h => ?_) (fun h => ?_) <;> first | (exfalso; simp [ho] at h; done) | skip)
   ·have h : (decide (t.n < 0) || decide (t.n > 10000)) = true := by assumption
    refine qaj [.cells 3 [iS (k + 1)]] rfl rfl rfl rfl rfl (bad _ (hbad (hsw (by simp [swOK, ho, h]))))
   ·have h : (decide (t.n < 0) || decide (t.n > 10000)) = false := by assumption
    exact fin (m := emB) (s := emB) (n := t.n) (kk := k + 1) (by simp [wName, ho]) (by simp [wSign, ho]) (by simp [wN, ho]) (by simp [swOK, ho, h]) (by simp [isLs, ho]) (fun _ => rfl) ⟨rfl, rfl, rfl, rfl, trivial⟩ (StLe.to _ _ rfl (by simp) rfl rfl)
  ·repeat (refine AtIf.mk (fun h => ?_) (fun h => ?_) <;> first | (exfalso; simp [ho] at h; done) | skip)
   refine qep ttOK 16 [.str colonB, .str barB, .str equB] rfl (by kernel_rfl) ⟨⟨rfl, rfl, rfl, rfl⟩, ⟨rfl, rfl, rfl, rfl⟩, ⟨rfl, rfl, rfl, rfl⟩, trivial⟩ rfl (by decide) (by decide) ?_
   intro a
   refine (qey [colonB, barB, equB] t.sign a 3).at (by simp) rfl rfl ?_
   rintro r out ⟨rfl, rfl⟩
   have hs : swOK t = hasS t.sign [colonB, barB, equB] := by simp [swOK, ho]
   refine AtIf.mk (fun h => ?_) (fun h => ?_)
   ·have h : hasS t.sign [colonB, barB, equB] = false := by simpa using h
    refine qaj [.cells 3 [iS (k + 1)]] rfl rfl rfl rfl rfl (bad _ (hbad (hsw (by rw [hs, h]))))
   ·have h : hasS t.sign [colonB, barB, equB] = true := by simpa using h
    exact fin (m := emB) (s := t.sign) (n := 0) (kk := k + 1) (by simp [wName, ho]) (by simp [wSign, ho]) (by simp [wN, ho]) (by rw [hs, h]) (by simp [isLs, ho]) (fun _ => rfl) ⟨rfl, rfl, rfl, rfl, trivial⟩ (StLe.to _ _ rfl (by simp) rfl rfl)
  ·repeat (refine AtIf.mk (fun h => ?_) (fun h => ?_) <;> first | (exfalso; simp [ho] at h; done) | skip)
   refine (qdt t.raw a1 c1).at (by simp) rfl rfl ?_
   rintro r out ⟨rfl, rfl⟩
   have hs : swOK t = rawOK t.raw := by simp [swOK, ho]
   cases hr : rawOK t.raw with
   | false =>
    repeat (refine AtIf.mk (fun h => ?_) (fun h => ?_) <;> first | (exfalso; simp at h; done) | skip)
    refine qaj [.cells 3 [iS (k + 1)]] rfl rfl rfl rfl rfl (bad _ (hbad (hsw (by rw [hs, hr]))))
   | true =>
    repeat (refine AtIf.mk (fun h => ?_) (fun h => ?_) <;> first | (exfalso; simp [ho] at h; done) | skip)
    exact fin (m := emB) (s := emB) (n := 0) (kk := k + 1) (by simp [wName, ho]) (by simp [wSign, ho]) (by simp [wN, ho]) (by rw [hs, hr]) (by simp [isLs, ho]) (fun _ => rfl) ⟨rfl, rfl, rfl, rfl, trivial⟩ (StLe.to _ _ rfl (by simp) rfl rfl)
  ·repeat (refine AtIf.mk (fun h => ?_) (fun h => ?_) <;> first | (exfalso; simp [ho] at h; done) | skip)
   refine (qdt t.raw a1 c1).at (by simp) rfl rfl ?_
   rintro r out ⟨rfl, rfl⟩
   have hs : swOK t = rawOK t.raw := by simp [swOK, ho]
   cases hr : rawOK t.raw with
   | false =>
    repeat (refine AtIf.mk (fun h => ?_) (fun h => ?_) <;> first | (exfalso; simp at h; done) | skip)
    refine qaj [.cells 3 [iS (k + 1)]] rfl rfl rfl rfl rfl (bad _ (hbad (hsw (by rw [hs, hr]))))
   | true =>
    repeat (refine AtIf.mk (fun h => ?_) (fun h => ?_) <;> first | (exfalso; simp [ho] at h; done) | skip)
    exact fin (m := t.name) (s := emB) (n := 0) (kk := k + 1) (by simp [wName, ho]) (by simp [wSign, ho]) (by simp [wN, ho]) (by rw [hs, hr]) (by simp [isLs, ho]) (fun _ => rfl) ⟨rfl, rfl, rfl, rfl, trivial⟩ (StLe.to _ _ rfl (by simp) rfl rfl)
  ·repeat (refine AtIf.mk (fun h => ?_) (fun h => ?_) <;> first | (exfalso; simp [ho] at h; done) | skip)
   refine AtCut.mk ⟨Unit, fun _ => [(3, .loc 1 0), (7, .loc 2 0), (1, iS depth), (2, .loc 0 0)],
    fun _ => ⟨[.cells 3 [iS (k + 1)], .cells 74 (ptL t a1 c1 a2 c2), .cells 74 [iS t.op, sS emB, sS emB, iS 0, iS 0, sS emB, .v (.slice none 0 0), .v (.slice none 0 0)]], [], [rwR t.raw a1 c1, ptR t a2 c2]⟩,
    fun _ => ambig t.parts = false, fun _ _ => ⟨rfl, rfl⟩, ?_, ?_⟩
   ·have amb : ∀ {b}, b = ambig t.parts → b = true → (properF t.sk depth (k + 200)).1 = false := fun h1 h2 => hbad (hsw (by rw [h1] at h2; simp [swOK, ho, h2]))
    have he : ∀ {env : Env} {S : St}, ambig t.parts = false → envLe env [(3, .loc 1 0), (7, .loc 2 0), (1, iS depth), (2, .loc 0 0)] → StLe S ⟨[.cells 3 [iS (k + 1)], .cells 74 (ptL t a1 c1 a2 c2), .cells 74 [iS t.op, sS emB, sS emB, iS 0, iS 0, sS emB, .v (.slice none 0 0), .v (.slice none 0 0)]], [], [rwR t.raw a1 c1, ptR t a2 c2]⟩ →
      ∃ x : Unit, ambig t.parts = false ∧ envLe env [(3, .loc 1 0), (7, .loc 2 0), (1, iS depth), (2, .loc 0 0)] ∧ StLe S ⟨[.cells 3 [iS (k + 1)], .cells 74 (ptL t a1 c1 a2 c2), .cells 74 [iS t.op, sS emB, sS emB, iS 0, iS 0, sS emB, .v (.slice none 0 0), .v (.slice none 0 0)]], [], [rwR t.raw a1 c1, ptR t a2 c2]⟩ := fun h1 h2 h3 => ⟨(), h1, h2, h3⟩
    refine AtGuard.mk (fun h1 => ?_) (fun h1 => ?_)
    ·have h1 : ((t.op == 5) && decide (((Pt.encL t.parts).length : Int) > 1)) = true := h1
     simp only [Bool.and_eq_true, decide_eq_true_eq, hlen] at h1
     obtain ⟨p, q, r, hpq⟩ : ∃ p q r, t.parts = p :: q :: r := by
      match hp : t.parts, h1.2 with
      | p :: q :: r, _ => exact ⟨p, q, r, rfl⟩
      | [], h => simp at h
      | [_], h => simp at h
     have ham : ambig t.parts = ((p.op == 1 && q.op == 8) && (q.sign.toList == colonB.toList)) := by rw [hpq]; rfl
     refine qd ttOK 1 rfl rfl rfl rfl (by decide) (Pt.encL_get (t := p) (by rw [hpq]; rfl)) ?_
     intro b1 d1 _ _ b2 d2 _ _
     refine AtGuard.mk (fun h2 => ?_) (fun h2 => ?_)
     ·have h2 : (p.op == 1) = true := h2
      refine qd ttOK 1 rfl rfl rfl rfl (by decide) (Pt.encL_get (t := q) (by rw [hpq]; rfl)) ?_
      intro b3 d3 _ _ b4 d4 _ _
      refine AtGuard.mk (fun h3 => ?_) (fun h3 => ?_)
      ·have h3 : (q.op == 8) = true := h3
       refine qd ttOK 1 rfl rfl rfl rfl (by decide) (Pt.encL_get (t := q) (by rw [hpq]; rfl)) ?_
       intro b5 d5 _ _ b6 d6 _ _
       rw [h2, h3, Bool.true_and, Bool.true_and] at ham
       refine AtIf.mk (fun h => ?_) (fun h => ?_)
       ·exact qaj [.cells 3 [iS (k + 1)]] rfl rfl rfl rfl rfl (bad _ (amb ham.symm h))
       ·exact he (ham.trans h) ⟨rfl, rfl, rfl, rfl, trivial⟩ (StLe.to _ _ rfl (by simp) rfl rfl)
      ·have h3 : (q.op == 8) = false := h3
       refine AtIf.mk (fun h => by cases h) (fun _ => ?_)
       exact he (by rw [ham, h3, Bool.and_false, Bool.false_and]) ⟨rfl, rfl, rfl, rfl, trivial⟩ (StLe.to _ _ rfl (by simp) rfl rfl)
     ·have h2 : (p.op == 1) = false := h2
      refine AtGuard.mk (fun h => by cases h) (fun _ => ?_)
      refine AtIf.mk (fun h => by cases h) (fun _ => ?_)
      exact he (by rw [ham, h2, Bool.false_and, Bool.false_and]) ⟨rfl, rfl, rfl, rfl, trivial⟩ (StLe.to _ _ rfl (by simp) rfl rfl)
    ·have h1 : ((t.op == 5) && decide (((Pt.encL t.parts).length : Int) > 1)) = false := h1
     refine AtGuard.mk (fun h => by cases h) (fun _ => ?_)
     refine AtGuard.mk (fun h => by cases h) (fun _ => ?_)
     refine AtIf.mk (fun h => by cases h) (fun _ => ?_)
     refine he ?_ ⟨rfl, rfl, rfl, rfl, trivial⟩ (StLe.to _ _ rfl (by simp) rfl rfl)
     simp only [ho, hlen] at h1
     match hp : t.parts, h1 with
     | p :: q :: r, h => simp at h; omega
     | [], _ => rfl
     | [_], _ => rfl
   ·skip
    intro _ hamb
    refine AtLoop.mk ⟨Nat × Int, fun x => [(123, iS x.1), (122, iS (Pt.encL t.parts).length), (121, .v (.slice a2 (Pt.encL t.parts).length c2)), (3, .loc 1 0), (7, .loc 2 0), (1, iS depth), (2, .loc 0 0)],
     fun x => ⟨[.cells 3 [iS x.2], .cells 74 (ptL t a1 c1 a2 c2), .cells 74 [iS t.op, sS emB, sS emB, iS 0, iS 0, sS emB, .v (.slice none 0 0), .v (.slice none 0 0)]], [], [rwR t.raw a1 c1, ptR t a2 c2]⟩,
     fun x => x.1 ≤ t.parts.length ∧ 0 ≤ x.2 ∧ x.2 ≤ 400 ∧ properL (Pt.skL t.parts) (depth + 1) (k + 200 + 1) = properL (Pt.skL (t.parts.drop x.1)) (depth + 1) (x.2 + 200),
     fun x => t.parts.length - x.1, (0, k + 1), ⟨Nat.zero_le _, by simp only; omega, by simp only; omega, by simp only [List.drop_zero]; congr 1; omega⟩, ⟨rfl, rfl, rfl, rfl, rfl, rfl, rfl, trivial⟩, StLe.refl _, fun x _ => ⟨rfl, rfl⟩, ?_⟩
    rintro ⟨i, kk⟩ ⟨hi, hk0, hk4, hinv⟩
    simp only at hi hk0 hk4 hinv ⊢
    refine AtIf.mk (fun h3 => ?_) (fun h3 => ?_)
    ·simp only [decide_eq_true_eq, hlen] at h3
     obtain ⟨t', ht'⟩ : ∃ t', t.parts[i]? = some t' := ⟨_, List.getElem?_eq_getElem (by omega)⟩
     refine qd ttOK 1 rfl rfl rfl rfl (by omega) (by rw [Int.toNat_natCast]; exact Pt.encL_get ht') ?_
     intro b1 d1 _ _ b2 d2 _ _
     have hw2 : IntKind.i64.wrap (depth + 1) = depth + 1 := wrap_i64 (by omega) (by omega)
     have hspec := ih t' (List.mem_of_getElem? ht') (depth + 1) kk b1 d1 b2 d2 (by omega) (by omega) hk0 hk4
     refine hspec.frame [0] rfl (by simp only [hw2]; rfl) (by simp) rfl ?_ ?_ rfl rfl ?_
     ·intro p q hp
      match p, hp with
      | 0, hp => simp at hp; subst hp; exact ⟨0, rfl, rfl, rfl⟩
     ·intro p hp; simp only [List.mem_cons, List.not_mem_nil, or_false] at hp ⊢; rcases hp with rfl | rfl <;> simp
     ·rintro o s' ⟨kk', rfl, hkk, rfl⟩
      refine ⟨rfl, rfl, [.cells 3 [iS kk']], rfl, ?_⟩
      have hle := qcp t'.sk (depth + 1) (kk + 200) (by omega) (by omega)
      rw [qah ht', Pt.skL, properL] at hinv
      cases hp : properF t'.sk (depth + 1) (kk + 200) with
      | mk b k' =>
       rw [hp] at hinv hle hkk
       refine AtIf.mk (fun h4 => ?_) (fun h4 => ?_)
       ·have h4 : b = false := by simpa using h4
        subst h4
        refine qaj [.cells 3 [iS kk']] rfl rfl rfl rfl rfl (bad _ ?_)
        rw [hF]
        split
        ·rw [hinv]
        ·rfl
       ·have h4 : b = true := by simpa using h4
        subst h4
        have hkk := hkk rfl
        have hw3 : IntKind.i64.wrap (i + 1) = ((i + 1 : Nat) : Int) := wrap_i64 (by omega) (by omega)
        have h6 := hle.2.2 rfl
        simp only at hle h6 hinv hkk
        refine ⟨(i + 1, kk'), ⟨by omega, by simp only; omega, by simp only; omega, ?_⟩, by simp only; omega, ⟨by rw [← hw3]; rfl, rfl, rfl, rfl, rfl, rfl, rfl, trivial⟩, StLe.to _ _ rfl (by simp) rfl rfl⟩
        rw [hinv]
        simp only
        congr 1
        omega
    ·simp only [decide_eq_false_iff_not, hlen] at h3
     rw [List.drop_of_length_le (by omega), Pt.skL, properL] at hinv
     exact fin (m := emB) (s := emB) (n := 0) (kk := kk) (by simp [wName, ho]) (by simp [wSign, ho]) (by simp [wN, ho]) (by simp [swOK, ho, hamb]) (fun _ => hinv) (by simp [isLs, ho]) ⟨rfl, rfl, rfl, rfl, trivial⟩ (StLe.to _ _ rfl (by simp) rfl rfl)
  ·repeat (refine AtIf.mk (fun h => ?_) (fun h => ?_) <;> first | (exfalso; simp [ho] at h; done) | skip)
   refine AtCut.mk ⟨Unit, fun _ => [(3, .loc 1 0), (7, .loc 2 0), (1, iS depth), (2, .loc 0 0)],
    fun _ => ⟨[.cells 3 [iS (k + 1)], .cells 74 (ptL t a1 c1 a2 c2), .cells 74 [iS t.op, sS emB, sS emB, iS 0, iS 0, sS emB, .v (.slice none 0 0), .v (.slice none 0 0)]], [], [rwR t.raw a1 c1, ptR t a2 c2]⟩,
    fun _ => True, fun _ _ => ⟨rfl, rfl⟩, ?_, ?_⟩
   ·refine AtGuard.mk (fun h => ?_) (fun _ => ?_)
    ·exfalso
     have h : ((t.op == 5) && decide (((Pt.encL t.parts).length : Int) > 1)) = true := h
     simp [ho] at h
    refine AtGuard.mk (fun h => by cases h) (fun _ => ?_)
    refine AtGuard.mk (fun h => by cases h) (fun _ => ?_)
    refine AtIf.mk (fun h => by cases h) (fun _ => ?_)
    exact ⟨(), trivial, ⟨rfl, rfl, rfl, rfl, trivial⟩, StLe.to _ _ rfl (by simp) rfl rfl⟩
   ·skip
    intro _ _
    refine AtLoop.mk ⟨Nat × Int, fun x => [(123, iS x.1), (122, iS (Pt.encL t.parts).length), (121, .v (.slice a2 (Pt.encL t.parts).length c2)), (3, .loc 1 0), (7, .loc 2 0), (1, iS depth), (2, .loc 0 0)],
     fun x => ⟨[.cells 3 [iS x.2], .cells 74 (ptL t a1 c1 a2 c2), .cells 74 [iS t.op, sS emB, sS emB, iS 0, iS 0, sS emB, .v (.slice none 0 0), .v (.slice none 0 0)]], [], [rwR t.raw a1 c1, ptR t a2 c2]⟩,
     fun x => x.1 ≤ t.parts.length ∧ 0 ≤ x.2 ∧ x.2 ≤ 400 ∧ properL (Pt.skL t.parts) (depth + 1) (k + 200 + 1) = properL (Pt.skL (t.parts.drop x.1)) (depth + 1) (x.2 + 200),
     fun x => t.parts.length - x.1, (0, k + 1), ⟨Nat.zero_le _, by simp only; omega, by simp only; omega, by simp only [List.drop_zero]; congr 1; omega⟩, ⟨rfl, rfl, rfl, rfl, rfl, rfl, rfl, trivial⟩, StLe.refl _, fun x _ => ⟨rfl, rfl⟩, ?_⟩
    rintro ⟨i, kk⟩ ⟨hi, hk0, hk4, hinv⟩
    simp only at hi hk0 hk4 hinv ⊢
    refine AtIf.mk (fun h3 => ?_) (fun h3 => ?_)
    ·simp only [decide_eq_true_eq, hlen] at h3
     obtain ⟨t', ht'⟩ : ∃ t', t.parts[i]? = some t' := ⟨_, List.getElem?_eq_getElem (by omega)⟩
     refine qd ttOK 1 rfl rfl rfl rfl (by omega) (by rw [Int.toNat_natCast]; exact Pt.encL_get ht') ?_
     intro b1 d1 _ _ b2 d2 _ _
     have hw2 : IntKind.i64.wrap (depth + 1) = depth + 1 := wrap_i64 (by omega) (by omega)
     have hspec := ih t' (List.mem_of_getElem? ht') (depth + 1) kk b1 d1 b2 d2 (by omega) (by omega) hk0 hk4
     refine hspec.frame [0] rfl (by simp only [hw2]; rfl) (by simp) rfl ?_ ?_ rfl rfl ?_
     ·intro p q hp
      match p, hp with
      | 0, hp => simp at hp; subst hp; exact ⟨0, rfl, rfl, rfl⟩
     ·intro p hp; simp only [List.mem_cons, List.not_mem_nil, or_false] at hp ⊢; rcases hp with rfl | rfl <;> simp
     ·rintro o s' ⟨kk', rfl, hkk, rfl⟩
      refine ⟨rfl, rfl, [.cells 3 [iS kk']], rfl, ?_⟩
      have hle := qcp t'.sk (depth + 1) (kk + 200) (by omega) (by omega)
      rw [qah ht', Pt.skL, properL] at hinv
      cases hp : properF t'.sk (depth + 1) (kk + 200) with
      | mk b k' =>
       rw [hp] at hinv hle hkk
       refine AtIf.mk (fun h4 => ?_) (fun h4 => ?_)
       ·have h4 : b = false := by simpa using h4
        subst h4
        refine qaj [.cells 3 [iS kk']] rfl rfl rfl rfl rfl (bad _ ?_)
        rw [hF]
        split
        ·rw [hinv]
        ·rfl
       ·have h4 : b = true := by simpa using h4
        subst h4
        have hkk := hkk rfl
        have hw3 : IntKind.i64.wrap (i + 1) = ((i + 1 : Nat) : Int) := wrap_i64 (by omega) (by omega)
        have h6 := hle.2.2 rfl
        simp only at hle h6 hinv hkk
        refine ⟨(i + 1, kk'), ⟨by omega, by simp only; omega, by simp only; omega, ?_⟩, by simp only; omega, ⟨by rw [← hw3]; rfl, rfl, rfl, rfl, rfl, rfl, rfl, trivial⟩, StLe.to _ _ rfl (by simp) rfl rfl⟩
        rw [hinv]
        simp only
        congr 1
        omega
    ·simp only [decide_eq_false_iff_not, hlen] at h3
     rw [List.drop_of_length_le (by omega), Pt.skL, properL] at hinv
     exact fin (m := emB) (s := emB) (n := 0) (kk := kk) (by simp [wName, ho]) (by simp [wSign, ho]) (by simp [wN, ho]) (by simp [swOK, ho]) (fun _ => hinv) (by simp [isLs, ho]) ⟨rfl, rfl, rfl, rfl, trivial⟩ (StLe.to _ _ rfl (by simp) rfl rfl)
  ·repeat (refine AtIf.mk (fun h => ?_) (fun h => ?_) <;> first | (exfalso; simp [h1, h2, h3, h4, h5, h6, h7, h8] at h; done) | skip)
   exact qaj [.cells 3 [iS (k + 1)]] rfl rfl rfl rfl rfl (bad _ (hbad (hsw (by simp [swOK, h1, h2, h3, h4, h5, h6, h7, h8]))))
 ·rintro kk ⟨hs, hl1, hl2⟩
  have hok' : okPt t = ((!isNm t || namedF t.name) && ((((t.name.toList == (wName t).toList && t.sign.toList == (wSign t).toList) && t.n == wN t) && (isRw t || emptyRaw t.raw)) && (isLs t || ((Pt.encL t.parts).length : Int) == 0))) := by rw [okPt, hs, Bool.true_and]
  have fin : ∀ b, b = okPt t → ∃ kk', Out.ret (bS b) = .ret (bS (properF t.sk depth (k + 200)).1) ∧ ((properF t.sk depth (k + 200)).1 = true → kk' = (properF t.sk depth (k + 200)).2 - 200) ∧ (⟨[.cells 3 [iS kk]], [], []⟩ : St) = ⟨[.cells 3 [iS kk']], [], []⟩ := by
   rintro b rfl
   cases hb : okPt t with
   | false => exact bad kk (hbad hb)
   | true =>
    rw [hb, if_pos rfl] at hF
    cases hls : isLs t with
    | true =>
     have := hl1 hls
     rw [hF, this]
     exact ⟨kk, rfl, fun _ => by simp only; omega, rfl⟩
    | false =>
     have h1 := okPt_leaf hb hls
     have h2 := hl2 hls
     rw [hF, h1, Pt.skL, properL]
     exact ⟨kk, rfl, fun _ => by simp only; omega, rfl⟩
  refine AtCut.mk ⟨Unit, fun _ => [(3, .loc 1 0), (7, .loc 2 0), (1, iS depth), (2, .loc 0 0)],
   fun _ => ⟨[.cells 3 [iS kk], .cells 74 (ptL t a1 c1 a2 c2), .cells 74 [iS t.op, sS (wSign t), sS (wName t), iS (wN t), iS 0, sS emB, .v (.slice none 0 0), .v (.slice none 0 0)]], [], [rwR t.raw a1 c1, ptR t a2 c2]⟩,
   fun _ => (!isNm t || namedF t.name) = true, fun _ _ => ⟨rfl, rfl⟩, ?_, ?_⟩
  ·refine AtGuard.mk (fun h1 => ?_) (fun h1 => ?_)
   ·have h1 : isNm t = true := h1
    refine (qkn t.name).at (by simp) rfl rfl ?_
    rintro r out ⟨rfl, rfl⟩
    refine AtIf.mk (fun h => ?_) (fun h => ?_)
    ·have h : namedF t.name = false := by simpa using h
     exact qaj [.cells 3 [iS kk]] rfl rfl rfl rfl rfl (fin false (by rw [hok', h1, h]; rfl))
    ·have h : namedF t.name = true := by simpa using h
     exact ⟨(), by rw [h, Bool.or_true], ⟨rfl, rfl, rfl, rfl, trivial⟩, StLe.to _ _ rfl (by simp) rfl rfl⟩
   ·have h1 : isNm t = false := h1
    refine AtIf.mk (fun h => by cases h) (fun _ => ?_)
    exact ⟨(), by rw [h1]; rfl, ⟨rfl, rfl, rfl, rfl, trivial⟩, StLe.to _ _ rfl (by simp) rfl rfl⟩
  intro _ hnm
  rw [hnm, Bool.true_and] at hok'
  refine AtGuard.mk (fun h1 => ?_) (fun h1 => ?_)
  ·have h1 : ((t.name.toList == (wName t).toList && t.sign.toList == (wSign t).toList) && t.n == wN t) = true := h1
   rw [h1, Bool.true_and] at hok'
   refine AtGuard.mk (fun h2 => ?_) (fun h2 => ?_)
   ·have h2 : isRw t = false := h2
    refine (qkt t.raw a1 c1).at (by simp) rfl rfl ?_
    rintro r out ⟨rfl, rfl⟩
    rw [h2, Bool.false_or] at hok'
    refine qaj [.cells 3 [iS kk]] rfl rfl rfl rfl rfl (fin _ ?_)
    rw [hok']; rfl
   ·have h2 : isRw t = true := h2
    rw [h2, Bool.true_or, Bool.true_and] at hok'
    refine qaj [.cells 3 [iS kk]] rfl rfl rfl rfl rfl (fin _ ?_)
    rw [hok']; rfl
  ·have h1 : ((t.name.toList == (wName t).toList && t.sign.toList == (wSign t).toList) && t.n == wN t) = false := h1
   rw [h1] at hok'
   refine qaj [.cells 3 [iS kk]] rfl rfl rfl rfl rfl (fin _ ?_)
   rw [hok']; rfl
end

section
open Go.Tr Go Go.Proofs.Tryz
set_option maxRecDepth 10000
end

section
open Go.Tr Go Go.Proofs.Tryz
set_option maxRecDepth 10000
structure It where
 word : ByteArray
 name : ByteArray
 raw : Rw
 parts : List Pt
abbrev itL (t : It) (a1 : OA) (c1 : Nat) (a2 : OA) (c2 : Nat) : List SV := [.v (.string t.word), .v (.string t.name), .v (.int .i64 t.raw.op), .v (.string t.raw.name), .v (.slice a1 (Rw.encL t.raw.args).length c1), .v (.slice a2 (Pt.encL t.parts).length c2)]
abbrev itS (t : It) (a1 : OA) (c1 : Nat) (a2 : OA) (c2 : Nat) : SV := .agg (itL t a1 c1 a2 c2)
abbrev itR (t : It) (a : OA) (c : Nat) : Value × D := (.slice a (Pt.encL t.parts).length c, .sl 8 (Pt.encL t.parts))
def itemOK (t : It) : Bool :=
 if (t.word.toList == emB.toList) = true then (((isSmallF t.name && !(t.name.toList == tyB.toList)) && rawOK t.raw) && ((Pt.encL t.parts).length : Int) == 0)
 else (((isSmallF t.word && (t.name.toList == emB.toList)) && emptyRaw t.raw) && (properL (Pt.skL t.parts) 1 200).1)
theorem qjt (t : It) (a1 : OA) (c1 : Nat) (a2 : OA) (c2 : Nat) : Pure Tryz.prog (fnS 32) [itS t a1 c1 a2 c2] [rwR t.raw a1 c1, itR t a2 c2] (fun r out => r = iS (if itemOK t then 0 else 2) ∧ out = []) := by
 refine qv fun hok => ?_
 have hB : (Pt.encL t.parts).length ≤ 1152921504606846976 := (hok _ (List.mem_cons_of_mem _ (List.mem_cons_self ..))).1
 have hlen := Pt.encL_length t.parts
 refine qb (N := 53) (m := 0) (dt := fun _ => none) [] ttOK Tryz.func32 rfl Tryz.call32 Tryz.ntmps32 rfl rfl rfl mixed (by kernel_rfl) ?_
 refine AtIf.mk (fun hw => ?_) (fun hw => ?_)
 ·have hw : (t.word.toList == emB.toList) = true := hw
  have hI : itemOK t = (((isSmallF t.name && !(t.name.toList == tyB.toList)) && rawOK t.raw) && ((Pt.encL t.parts).length : Int) == 0) := by rw [itemOK, if_pos hw]
  refine AtGuard.mk (fun h1 => ?_) (fun h1 => ?_)
  ·have h1 : decide (((Pt.encL t.parts).length : Int) > 0) = false := h1
   have h1' : (((Pt.encL t.parts).length : Int) == 0) = true := by simp at h1 ⊢; omega
   refine (qc7 t.name).at (by simp) rfl rfl ?_
   rintro r out ⟨rfl, rfl⟩
   rw [h1', Bool.and_true] at hI
   refine AtIf.mk (fun h2 => ?_) (fun h2 => ?_)
   ·have h2 : (!isSmallF t.name || (t.name.toList == tyB.toList)) = true := h2
    refine AtRet.pure [] rfl (by simp) ⟨?_, rfl⟩
    have : itemOK t = false := by
     rw [hI]
     revert h2
     cases isSmallF t.name <;> cases (t.name.toList == tyB.toList) <;> simp
    rw [this]; rfl
   ·have h2 : (!isSmallF t.name || (t.name.toList == tyB.toList)) = false := h2
    refine (qdt t.raw a1 c1).at (by simp) rfl rfl ?_
    rintro r out ⟨rfl, rfl⟩
    refine AtRet.pure [] rfl (by simp) ⟨?_, rfl⟩
    have : itemOK t = rawOK t.raw := by
     rw [hI]
     revert h2
     cases isSmallF t.name <;> cases (t.name.toList == tyB.toList) <;> simp
    rw [this]
  ·have h1 : decide (((Pt.encL t.parts).length : Int) > 0) = true := h1
   refine AtIf.mk (fun _ => ?_) (fun h => by cases h)
   refine AtRet.pure [] rfl (by simp) ⟨?_, rfl⟩
   have h1' : (((Pt.encL t.parts).length : Int) == 0) = false := by rw [beq_eq_false_iff_ne]; simp only [decide_eq_true_eq] at h1; omega
   rw [hI, h1', Bool.and_false]; rfl
 have hw : (t.word.toList == emB.toList) = false := hw
 have hI : itemOK t = (((isSmallF t.word && (t.name.toList == emB.toList)) && emptyRaw t.raw) && (properL (Pt.skL t.parts) 1 200).1) := by rw [itemOK, if_neg (by rw [hw]; simp)]
 refine (qc7 t.word).at (by simp) rfl rfl ?_
 rintro r out ⟨rfl, rfl⟩
 refine AtGuard.mk (fun h1 => ?_) (fun h1 => ?_)
 rotate_left
 ·have h1 : (!isSmallF t.word || !(t.name.toList == emB.toList)) = true := h1
  refine AtIf.mk (fun _ => ?_) (fun h => by cases h)
  refine AtRet.pure [] rfl (by simp) ⟨?_, rfl⟩
  have : itemOK t = false := by
   rw [hI]
   revert h1
   cases isSmallF t.word <;> cases (t.name.toList == emB.toList) <;> simp
  rw [this]; rfl
 have h1 : (!isSmallF t.word || !(t.name.toList == emB.toList)) = false := h1
 refine (qkt t.raw a1 c1).at (by simp) rfl rfl ?_
 rintro r out ⟨rfl, rfl⟩
 have hI2 : itemOK t = (emptyRaw t.raw && (properL (Pt.skL t.parts) 1 200).1) := by
  rw [hI]
  revert h1
  cases isSmallF t.word <;> cases (t.name.toList == emB.toList) <;> simp
 refine AtIf.mk (fun h2 => ?_) (fun h2 => ?_)
 ·have h2 : emptyRaw t.raw = false := by simpa using h2
  exact AtRet.pure [] rfl (by simp) ⟨by rw [hI2, h2]; rfl, rfl⟩
 have h2 : emptyRaw t.raw = true := by simpa using h2
 rw [h2, Bool.true_and] at hI2
 refine AtLoop.mk ⟨Nat × Int, fun x => [(45, iS x.1), (44, iS (Pt.encL t.parts).length), (43, .v (.slice a2 (Pt.encL t.parts).length c2)), (3, .loc 1 0)],
  fun x => ⟨[.cells 28 (itL t a1 c1 a2 c2), .cells 3 [iS x.2]], [], [rwR t.raw a1 c1, itR t a2 c2]⟩,
  fun x => x.1 ≤ t.parts.length ∧ 0 ≤ x.2 ∧ x.2 ≤ 400 ∧ itemOK t = (properL (Pt.skL (t.parts.drop x.1)) 1 (x.2 + 200)).1,
  fun x => t.parts.length - x.1, (0, 0), ⟨Nat.zero_le _, by simp only; omega, by simp only; omega, hI2⟩, ⟨rfl, rfl, rfl, rfl, trivial⟩, StLe.refl _, fun x _ => ⟨rfl, rfl⟩, ?_⟩
 rintro ⟨i, kk⟩ ⟨hi, hk0, hk4, hinv⟩
 simp only at hi hk0 hk4 hinv ⊢
 refine AtIf.mk (fun h3 => ?_) (fun h3 => ?_)
 ·simp only [decide_eq_true_eq, hlen] at h3
  obtain ⟨t', ht'⟩ : ∃ t', t.parts[i]? = some t' := ⟨_, List.getElem?_eq_getElem (by omega)⟩
  refine qd ttOK 1 rfl rfl rfl rfl (by omega) (by rw [Int.toNat_natCast]; exact Pt.encL_get ht') ?_
  intro b1 d1 _ _ b2 d2 _ _
  have hspec := whole_spec t' 1 kk b1 d1 b2 d2 (by omega) (by omega) hk0 hk4
  refine hspec.frame [1] rfl rfl (by simp) rfl ?_ ?_ rfl rfl ?_
  ·intro p q hp
   match p, hp with
   | 0, hp => simp at hp; subst hp; exact ⟨1, rfl, rfl, rfl⟩
  ·intro p hp; simp only [List.mem_cons, List.not_mem_nil, or_false] at hp ⊢; rcases hp with rfl | rfl <;> simp
  ·rintro o s' ⟨kk', rfl, hkk, rfl⟩
   refine ⟨rfl, rfl, [.cells 3 [iS kk']], rfl, ?_⟩
   have hle := qcp t'.sk 1 (kk + 200) (by omega) (by omega)
   rw [qah ht', Pt.skL, properL] at hinv
   cases hp : properF t'.sk 1 (kk + 200) with
   | mk b k' =>
    rw [hp] at hinv hle hkk
    refine AtIf.mk (fun h4 => ?_) (fun h4 => ?_)
    ·have h4 : b = false := by simpa using h4
     subst h4
     exact AtRet.pure [] rfl (by simp) ⟨by rw [hinv]; rfl, rfl⟩
    ·have h4 : b = true := by simpa using h4
     subst h4
     have hkk := hkk rfl
     have hw3 : IntKind.i64.wrap (i + 1) = ((i + 1 : Nat) : Int) := wrap_i64 (by omega) (by omega)
     have h6 := hle.2.2 rfl
     simp only at hle h6 hinv hkk
     refine ⟨(i + 1, kk'), ⟨by omega, by simp only; omega, by simp only; omega, ?_⟩, by simp only; omega, ⟨by rw [← hw3]; rfl, rfl, rfl, rfl, trivial⟩, StLe.to _ _ rfl (by simp) rfl rfl⟩
     rw [hinv]
     simp only
     congr 2
     omega
 ·simp only [decide_eq_false_iff_not, hlen] at h3
  rw [List.drop_of_length_le (by omega), Pt.skL, properL] at hinv
  exact AtRet.pure [] rfl (by simp) ⟨by rw [hinv]; rfl, rfl⟩
end
end Go.Proofs.YtogicnodmgdnbaaGreat
