/- Merged texts: Parts PartsB Items. Parts of directives as plain data; the contract of syntax.whole. Condition: the argument reads as a part. The contracts of trussref02.many, trussref02.part: what a part is built as. Condition: the argument reads as a part. The contracts of syntax.CheckItem and trussref02.WellItem: both answer whether an item is well formed. Condition: the argument reads as an item. -/
import Derived.Test.YtogicnodmgdnbaaGreatDoorQF
/-! Parts -/
section
namespace Go.Proofs.YtogicnodmgdnbaaGreatDoor
open Go.Tr Go
set_option maxRecDepth 10000

inductive Pt where
  | mk (op : Int) (sign name : ByteArray) (n : Int) (raw : Rw) (parts : List Pt)

def Pt.op : Pt → Int | .mk o _ _ _ _ _ => o
def Pt.sign : Pt → ByteArray | .mk _ s _ _ _ _ => s
def Pt.name : Pt → ByteArray | .mk _ _ s _ _ _ => s
def Pt.n : Pt → Int | .mk _ _ _ n _ _ => n
def Pt.raw : Pt → Rw | .mk _ _ _ _ r _ => r
def Pt.parts : Pt → List Pt | .mk _ _ _ _ _ p => p

mutual
def Pt.enc : Pt → D
  | .mk o s m n r p => .agg [.int .i64 o, .str s, .str m, .int .i64 n, .agg [.int .i64 r.op, .str r.name, .sl 3 (Rw.encL r.args)], .sl 8 (Pt.encL p)]
def Pt.encL : List Pt → List D
  | [] => []
  | t :: ts => t.enc :: Pt.encL ts
 end
theorem Pt.encL_eq : ∀ (l : List Pt), Pt.encL l = l.map Pt.enc
  | [] => rfl
  | t :: ts => by simp only [Pt.encL, List.map_cons, Pt.encL_eq ts]
theorem Pt.encL_length (l : List Pt) : (Pt.encL l).length = l.length := by simp [Pt.encL_eq]
theorem Pt.enc_eq (t : Pt) : t.enc = .agg [.int .i64 t.op, .str t.sign, .str t.name, .int .i64 t.n, .agg [.int .i64 t.raw.op, .str t.raw.name, .sl 3 (Rw.encL t.raw.args)], .sl 8 (Pt.encL t.parts)] := by cases t; rfl
theorem Pt.encL_get {l : List Pt} {i : Nat} {t : Pt} (h : l[i]? = some t) : (Pt.encL l)[i]? = some (.agg [.int .i64 t.op, .str t.sign, .str t.name, .int .i64 t.n, .agg [.int .i64 t.raw.op, .str t.raw.name, .sl 3 (Rw.encL t.raw.args)], .sl 8 (Pt.encL t.parts)]) := by
  rw [Pt.encL_eq, List.getElem?_map, h]; cases t; rfl

theorem Pt.ind {motive : Pt → Prop} (h : ∀ t, (∀ x ∈ t.parts, motive x) → motive t) (t : Pt) : motive t := by
  induction t using Pt.rec (motive_2 := fun ts => ∀ x ∈ ts, motive x) with
  | nil => rename_i x hx; cases hx
  | cons t ts ih1 ih2 => rename_i x hx; rcases List.mem_cons.1 hx with e | e; (subst e; exact ih1); exact ih2 x e
  | mk op s m n r p ih => exact h _ ih

abbrev ptL (t : Pt) (a1 : Option Addr) (c1 : Nat) (a2 : Option Addr) (c2 : Nat) : List SV := [.v (.int .i64 t.op), .v (.string t.sign), .v (.string t.name), .v (.int .i64 t.n), .v (.int .i64 t.raw.op), .v (.string t.raw.name), .v (.slice a1 (Rw.encL t.raw.args).length c1), .v (.slice a2 (Pt.encL t.parts).length c2)]
abbrev ptS (t : Pt) (a1 : Option Addr) (c1 : Nat) (a2 : Option Addr) (c2 : Nat) : SV := .agg (ptL t a1 c1 a2 c2)
abbrev ptR (t : Pt) (a : Option Addr) (c : Nat) : Value × D := (.slice a (Pt.encL t.parts).length c, .sl 8 (Pt.encL t.parts))

abbrev plusB : ByteArray := ⟨#[43]⟩
abbrev minusB : ByteArray := ⟨#[45]⟩
abbrev starB : ByteArray := ⟨#[42]⟩
abbrev colonB : ByteArray := ⟨#[58]⟩
abbrev barB : ByteArray := ⟨#[124]⟩
abbrev equB : ByteArray := ⟨#[61]⟩

/-- A list in braces that would be read as a binder. -/
def ambig : List Pt → Bool
  | p :: q :: _ => (p.op == 1 && q.op == 8) && (q.sign.toList == colonB.toList)
  | _ => false

/-- What is asked of a part by its Op alone. -/
def swOK (t : Pt) : Bool :=
  if t.op = 1 then true
  else if t.op = 2 then hasS t.sign [plusB, minusB, starB]
  else if t.op = 3 then !(decide (t.n < 0) || decide (t.n > 10000))
  else if t.op = 8 then hasS t.sign [colonB, barB, equB]
  else if t.op = 4 ∨ t.op = 7 then rawOK t.raw
  else if t.op = 5 then !ambig t.parts
  else decide (t.op = 6)
def wName (t : Pt) : ByteArray := if t.op = 1 ∨ t.op = 2 ∨ t.op = 7 then t.name else emB
def wSign (t : Pt) : ByteArray := if t.op = 2 ∨ t.op = 8 then t.sign else emB
def wN (t : Pt) : Int := if t.op = 3 then t.n else 0
def isNm (t : Pt) : Bool := (t.op == 1 || t.op == 2) || t.op == 7
def isRw (t : Pt) : Bool := t.op == 4 || t.op == 7
def isLs (t : Pt) : Bool := t.op == 5 || t.op == 6

/-- A part is built as parts are, but for what is in it. -/
def okPt (t : Pt) : Bool := swOK t && (!isNm t || namedF t.name) && ((((t.name.toList == (wName t).toList && t.sign.toList == (wSign t).toList) && t.n == wN t) && (isRw t || emptyRaw t.raw)) && (isLs t || ((Pt.encL t.parts).length : Int) == 0))

mutual
/-- The parts in a part, as a term. -/
def Pt.sk : Pt → Tm
  | .mk o s m n r p => .mk (if okPt (.mk o s m n r p) then 4 else 0) 1 0 (Pt.skL p)
def Pt.skL : List Pt → List Tm
  | [] => []
  | t :: ts => t.sk :: Pt.skL ts
 end
theorem Pt.sk_eq (t : Pt) : t.sk = .mk (if okPt t then 4 else 0) 1 0 (Pt.skL t.parts) := by cases t; rfl
theorem skOK (b : Bool) (m : Nat) : okNode (if b then 4 else 0) 1 0 m = b := by cases b <;> simp [okNode]
theorem okPt_leaf {t : Pt} (h : okPt t = true) (hl : isLs t = false) : t.parts = [] := by
  simp only [okPt, hl, Bool.and_eq_true, Bool.false_or, beq_iff_eq] at h
  have := h.2.2
  rw [Pt.encL_length] at this
  exact List.eq_nil_of_length_eq_zero (by omega)

theorem whole_spec (t : Pt) : ∀ (depth k : Int) (a1 : Option Addr) (c1 : Nat) (a2 : Option Addr) (c2 : Nat), 0 ≤ depth → depth ≤ 41 → 0 ≤ k → k ≤ 400 →
    Meets Tryz.prog (fnS 57) [ptS t a1 c1 a2 c2, iS depth, .loc 0 0] ⟨[.cells 3 [iS k]], [], [rwR t.raw a1 c1, ptR t a2 c2]⟩
      (fun o S' => ∃ kk, o = .ret (bS (properF t.sk depth (k + 200)).1) ∧ ((properF t.sk depth (k + 200)).1 = true → kk = (properF t.sk depth (k + 200)).2 - 200) ∧ S' = ⟨[.cells 3 [iS kk]], [], []⟩) := by
  induction t using Pt.ind with
  | h t ih =>
  intro depth k a1 c1 a2 c2 hd1 hd2 hk1 hk2
  refine Meets.of_ok fun hok => ?_
  have hB : (Pt.encL t.parts).length ≤ 1152921504606846976 := (hok _ (List.mem_cons_of_mem _ (List.mem_cons_self ..))).1
  have hlen := Pt.encL_length t.parts
  refine spec_of_body (N := 205) (m := 1) (dt := drawsOf [(10, .node [0, 1, 2, 3, 4] [(5, .node [6] [(7, .leaf [])])], [7], [2])]) [5, 29, 37] ttOK Tryz.func57 rfl Tryz.call57 Tryz.ntmps57 rfl rfl rfl mixed (by kernel_rfl) ?_
  have hw : IntKind.i64.wrap (k + 1) = k + 1 := wrap_i64 (by omega) (by omega)
  have hF : properF t.sk depth (k + 200) = if 600 < k + 200 + 1 ∨ 40 < depth then (false, k + 200 + 1) else if okPt t = true then properL (Pt.skL t.parts) (depth + 1) (k + 200 + 1) else (false, k + 200 + 1) := by
    rw [Pt.sk_eq, properF_eq]
    simp only [Tm.op, Tm.hd, Tm.n, Tm.args, skOK]
  have bad : ∀ kk, (properF t.sk depth (k + 200)).1 = false → ∃ kk', Out.ret (bS false) = .ret (bS (properF t.sk depth (k + 200)).1) ∧ ((properF t.sk depth (k + 200)).1 = true → kk' = (properF t.sk depth (k + 200)).2 - 200) ∧ (⟨[.cells 3 [iS kk]], [], []⟩ : St) = ⟨[.cells 3 [iS kk']], [], []⟩ :=
    fun kk h => ⟨kk, by rw [h], by rw [h]; simp, rfl⟩
  refine AtIf.mk ?_ ?_
  · intro h
    rw [hw] at h
    refine ret_own [.cells 3 [iS (k + 1)]] (by simp only [hw]; rfl) rfl rfl rfl rfl (bad _ ?_)
    have h : 400 < k + 1 ∨ 40 < depth := by simpa using h
    rw [hF, if_pos (by omega)]
  intro h
  rw [hw] at h
  have hno : ¬ (400 < k + 1 ∨ 40 < depth) := by simpa using h
  rw [if_neg (by omega)] at hF
  have hbad : okPt t = false → (properF t.sk depth (k + 200)).1 = false := fun h => by rw [hF, h]; rfl
  have hsw : swOK t = false → okPt t = false := fun h => by rw [okPt, h]; rfl
  refine AtCut.mk ⟨Int, fun _ => [(3, .loc 1 0), (7, .loc 2 0), (1, iS depth), (2, .loc 0 0)],
    fun kk => ⟨[.cells 3 [iS kk], .cells 41 (ptL t a1 c1 a2 c2), .cells 41 [iS t.op, sS (wSign t), sS (wName t), iS (wN t), iS 0, sS emB, .v (.slice none 0 0), .v (.slice none 0 0)]], [], [rwR t.raw a1 c1, ptR t a2 c2]⟩,
    fun kk => swOK t = true ∧ (isLs t = true → properL (Pt.skL t.parts) (depth + 1) (k + 200 + 1) = (true, kk + 200)) ∧ (isLs t = false → kk = k + 1), fun _ _ => ⟨rfl, rfl⟩, ?_, ?_⟩
  · rw [hw]
    have fin : ∀ {m s : ByteArray} {n kk : Int} {env : Env} {S : St}, m = wName t → s = wSign t → n = wN t → swOK t = true → (isLs t = true → properL (Pt.skL t.parts) (depth + 1) (k + 200 + 1) = (true, kk + 200)) → (isLs t = false → kk = k + 1) →
        envLe env [(3, .loc 1 0), (7, .loc 2 0), (1, iS depth), (2, .loc 0 0)] →
        StLe S ⟨[.cells 3 [iS kk], .cells 41 (ptL t a1 c1 a2 c2), .cells 41 [iS t.op, sS s, sS m, iS n, iS 0, sS emB, .v (.slice none 0 0), .v (.slice none 0 0)]], [], [rwR t.raw a1 c1, ptR t a2 c2]⟩ →
        ∃ kk, (swOK t = true ∧ (isLs t = true → properL (Pt.skL t.parts) (depth + 1) (k + 200 + 1) = (true, kk + 200)) ∧ (isLs t = false → kk = k + 1)) ∧ envLe env [(3, .loc 1 0), (7, .loc 2 0), (1, iS depth), (2, .loc 0 0)] ∧
          StLe S ⟨[.cells 3 [iS kk], .cells 41 (ptL t a1 c1 a2 c2), .cells 41 [iS t.op, sS (wSign t), sS (wName t), iS (wN t), iS 0, sS emB, .v (.slice none 0 0), .v (.slice none 0 0)]], [], [rwR t.raw a1 c1, ptR t a2 c2]⟩ := by
      rintro m s n kk env S rfl rfl rfl h1 h2 h3 h4 h5
      exact ⟨kk, ⟨h1, h2, h3⟩, h4, h5⟩
    have hop : t.op = 1 ∨ t.op = 2 ∨ t.op = 3 ∨ t.op = 8 ∨ t.op = 4 ∨ t.op = 7 ∨ t.op = 5 ∨ t.op = 6 ∨ (t.op ≠ 1 ∧ t.op ≠ 2 ∧ t.op ≠ 3 ∧ t.op ≠ 4 ∧ t.op ≠ 5 ∧ t.op ≠ 6 ∧ t.op ≠ 7 ∧ t.op ≠ 8) := by omega
    rcases hop with ho | ho | ho | ho | ho | ho | ho | ho | ⟨h1, h2, h3, h4, h5, h6, h7, h8⟩
    · repeat (refine AtIf.mk (fun h => ?_) (fun h => ?_) <;> first | (exfalso; simp [ho] at h; done) | skip)
      exact fin (m := t.name) (s := emB) (n := 0) (kk := k + 1) (by simp [wName, ho]) (by simp [wSign, ho]) (by simp [wN, ho]) (by simp [swOK, ho]) (by simp [isLs, ho]) (fun _ => rfl) ⟨rfl, rfl, rfl, rfl, trivial⟩ (StLe.to _ _ rfl (by simp) rfl rfl)
    · repeat (refine AtIf.mk (fun h => ?_) (fun h => ?_) <;> first | (exfalso; simp [ho] at h; done) | skip)
      refine ⟨fun _ _ h => h, ?_⟩
      refine at_build ttOK 16 [.str plusB, .str minusB, .str starB] rfl (by kernel_rfl) ⟨⟨rfl, rfl, rfl, rfl⟩, ⟨rfl, rfl, rfl, rfl⟩, ⟨rfl, rfl, rfl, rfl⟩, trivial⟩ rfl (by decide) (by decide) ?_
      intro a
      refine (containsS_spec [plusB, minusB, starB] t.sign a 3).at (by simp) rfl rfl ?_
      rintro r out ⟨rfl, rfl⟩
      have hs : swOK t = hasS t.sign [plusB, minusB, starB] := by simp [swOK, ho]
      refine AtIf.mk (fun h => ?_) (fun h => ?_)
      · have h : hasS t.sign [plusB, minusB, starB] = false := by simpa using h
        refine ret_own [.cells 3 [iS (k + 1)]] rfl rfl rfl rfl rfl (bad _ (hbad (hsw (by rw [hs, h]))))
      · have h : hasS t.sign [plusB, minusB, starB] = true := by simpa using h
        exact fin (m := t.name) (s := t.sign) (n := 0) (kk := k + 1) (by simp [wName, ho]) (by simp [wSign, ho]) (by simp [wN, ho]) (by rw [hs, h]) (by simp [isLs, ho]) (fun _ => rfl) ⟨rfl, rfl, rfl, rfl, trivial⟩ (StLe.to _ _ rfl (by simp) rfl rfl)
    · repeat (refine AtIf.mk (fun h => ?_) (fun h => ?_) <;> first | (exfalso; simp [ho] at h; done) | skip)
      · have h : (decide (t.n < 0) || decide (t.n > 10000)) = true := by assumption
        refine ret_own [.cells 3 [iS (k + 1)]] rfl rfl rfl rfl rfl (bad _ (hbad (hsw (by simp [swOK, ho, h]))))
      · have h : (decide (t.n < 0) || decide (t.n > 10000)) = false := by assumption
        exact fin (m := emB) (s := emB) (n := t.n) (kk := k + 1) (by simp [wName, ho]) (by simp [wSign, ho]) (by simp [wN, ho]) (by simp [swOK, ho, h]) (by simp [isLs, ho]) (fun _ => rfl) ⟨rfl, rfl, rfl, rfl, trivial⟩ (StLe.to _ _ rfl (by simp) rfl rfl)
    · repeat (refine AtIf.mk (fun h => ?_) (fun h => ?_) <;> first | (exfalso; simp [ho] at h; done) | skip)
      refine at_build ttOK 16 [.str colonB, .str barB, .str equB] rfl (by kernel_rfl) ⟨⟨rfl, rfl, rfl, rfl⟩, ⟨rfl, rfl, rfl, rfl⟩, ⟨rfl, rfl, rfl, rfl⟩, trivial⟩ rfl (by decide) (by decide) ?_
      intro a
      refine (containsS_spec [colonB, barB, equB] t.sign a 3).at (by simp) rfl rfl ?_
      rintro r out ⟨rfl, rfl⟩
      have hs : swOK t = hasS t.sign [colonB, barB, equB] := by simp [swOK, ho]
      refine AtIf.mk (fun h => ?_) (fun h => ?_)
      · have h : hasS t.sign [colonB, barB, equB] = false := by simpa using h
        refine ret_own [.cells 3 [iS (k + 1)]] rfl rfl rfl rfl rfl (bad _ (hbad (hsw (by rw [hs, h]))))
      · have h : hasS t.sign [colonB, barB, equB] = true := by simpa using h
        exact fin (m := emB) (s := t.sign) (n := 0) (kk := k + 1) (by simp [wName, ho]) (by simp [wSign, ho]) (by simp [wN, ho]) (by rw [hs, h]) (by simp [isLs, ho]) (fun _ => rfl) ⟨rfl, rfl, rfl, rfl, trivial⟩ (StLe.to _ _ rfl (by simp) rfl rfl)
    · repeat (refine AtIf.mk (fun h => ?_) (fun h => ?_) <;> first | (exfalso; simp [ho] at h; done) | skip)
      refine (checkRaw_spec t.raw a1 c1).at (by simp) rfl rfl ?_
      rintro r out ⟨rfl, rfl⟩
      have hs : swOK t = rawOK t.raw := by simp [swOK, ho]
      cases hr : rawOK t.raw with
      | false =>
        repeat (refine AtIf.mk (fun h => ?_) (fun h => ?_) <;> first | (exfalso; simp at h; done) | skip)
        refine ret_own [.cells 3 [iS (k + 1)]] rfl rfl rfl rfl rfl (bad _ (hbad (hsw (by rw [hs, hr]))))
      | true =>
        repeat (refine AtIf.mk (fun h => ?_) (fun h => ?_) <;> first | (exfalso; simp [ho] at h; done) | skip)
        exact fin (m := emB) (s := emB) (n := 0) (kk := k + 1) (by simp [wName, ho]) (by simp [wSign, ho]) (by simp [wN, ho]) (by rw [hs, hr]) (by simp [isLs, ho]) (fun _ => rfl) ⟨rfl, rfl, rfl, rfl, trivial⟩ (StLe.to _ _ rfl (by simp) rfl rfl)
    · repeat (refine AtIf.mk (fun h => ?_) (fun h => ?_) <;> first | (exfalso; simp [ho] at h; done) | skip)
      refine (checkRaw_spec t.raw a1 c1).at (by simp) rfl rfl ?_
      rintro r out ⟨rfl, rfl⟩
      have hs : swOK t = rawOK t.raw := by simp [swOK, ho]
      cases hr : rawOK t.raw with
      | false =>
        repeat (refine AtIf.mk (fun h => ?_) (fun h => ?_) <;> first | (exfalso; simp at h; done) | skip)
        refine ret_own [.cells 3 [iS (k + 1)]] rfl rfl rfl rfl rfl (bad _ (hbad (hsw (by rw [hs, hr]))))
      | true =>
        repeat (refine AtIf.mk (fun h => ?_) (fun h => ?_) <;> first | (exfalso; simp [ho] at h; done) | skip)
        exact fin (m := t.name) (s := emB) (n := 0) (kk := k + 1) (by simp [wName, ho]) (by simp [wSign, ho]) (by simp [wN, ho]) (by rw [hs, hr]) (by simp [isLs, ho]) (fun _ => rfl) ⟨rfl, rfl, rfl, rfl, trivial⟩ (StLe.to _ _ rfl (by simp) rfl rfl)
    · repeat (refine AtIf.mk (fun h => ?_) (fun h => ?_) <;> first | (exfalso; simp [ho] at h; done) | skip)
      refine AtCut.mk ⟨Unit, fun _ => [(3, .loc 1 0), (7, .loc 2 0), (1, iS depth), (2, .loc 0 0)],
        fun _ => ⟨[.cells 3 [iS (k + 1)], .cells 41 (ptL t a1 c1 a2 c2), .cells 41 [iS t.op, sS emB, sS emB, iS 0, iS 0, sS emB, .v (.slice none 0 0), .v (.slice none 0 0)]], [], [rwR t.raw a1 c1, ptR t a2 c2]⟩,
        fun _ => ambig t.parts = false, fun _ _ => ⟨rfl, rfl⟩, ?_, ?_⟩
      · have amb : ∀ {b}, b = ambig t.parts → b = true → (properF t.sk depth (k + 200)).1 = false := fun h1 h2 => hbad (hsw (by rw [h1] at h2; simp [swOK, ho, h2]))
        have he : ∀ {env : Env} {S : St}, ambig t.parts = false → envLe env [(3, .loc 1 0), (7, .loc 2 0), (1, iS depth), (2, .loc 0 0)] → StLe S ⟨[.cells 3 [iS (k + 1)], .cells 41 (ptL t a1 c1 a2 c2), .cells 41 [iS t.op, sS emB, sS emB, iS 0, iS 0, sS emB, .v (.slice none 0 0), .v (.slice none 0 0)]], [], [rwR t.raw a1 c1, ptR t a2 c2]⟩ →
            ∃ x : Unit, ambig t.parts = false ∧ envLe env [(3, .loc 1 0), (7, .loc 2 0), (1, iS depth), (2, .loc 0 0)] ∧ StLe S ⟨[.cells 3 [iS (k + 1)], .cells 41 (ptL t a1 c1 a2 c2), .cells 41 [iS t.op, sS emB, sS emB, iS 0, iS 0, sS emB, .v (.slice none 0 0), .v (.slice none 0 0)]], [], [rwR t.raw a1 c1, ptR t a2 c2]⟩ := fun h1 h2 h3 => ⟨(), h1, h2, h3⟩
        refine AtGuard.mk (fun h1 => ?_) (fun h1 => ?_)
        · have h1 : ((t.op == 5) && decide (((Pt.encL t.parts).length : Int) > 1)) = true := h1
          simp only [Bool.and_eq_true, decide_eq_true_eq, hlen] at h1
          obtain ⟨p, q, r, hpq⟩ : ∃ p q r, t.parts = p :: q :: r := by
            match hp : t.parts, h1.2 with
            | p :: q :: r, _ => exact ⟨p, q, r, rfl⟩
            | [], h => simp at h
            | [_], h => simp at h
          have ham : ambig t.parts = ((p.op == 1 && q.op == 8) && (q.sign.toList == colonB.toList)) := by rw [hpq]; rfl
          refine at_index ttOK 1 rfl rfl rfl rfl (by decide) (Pt.encL_get (t := p) (by rw [hpq]; rfl)) ?_
          intro b1 d1 _ _ b2 d2 _ _
          refine AtGuard.mk (fun h2 => ?_) (fun h2 => ?_)
          · have h2 : (p.op == 1) = true := h2
            refine at_index ttOK 1 rfl rfl rfl rfl (by decide) (Pt.encL_get (t := q) (by rw [hpq]; rfl)) ?_
            intro b3 d3 _ _ b4 d4 _ _
            refine AtGuard.mk (fun h3 => ?_) (fun h3 => ?_)
            · have h3 : (q.op == 8) = true := h3
              refine at_index ttOK 1 rfl rfl rfl rfl (by decide) (Pt.encL_get (t := q) (by rw [hpq]; rfl)) ?_
              intro b5 d5 _ _ b6 d6 _ _
              rw [h2, h3, Bool.true_and, Bool.true_and] at ham
              refine AtIf.mk (fun h => ?_) (fun h => ?_)
              · exact ret_own [.cells 3 [iS (k + 1)]] rfl rfl rfl rfl rfl (bad _ (amb ham.symm h))
              · exact he (ham.trans h) ⟨rfl, rfl, rfl, rfl, trivial⟩ (StLe.to _ _ rfl (by simp) rfl rfl)
            · have h3 : (q.op == 8) = false := h3
              refine AtIf.mk (fun h => by cases h) (fun _ => ?_)
              exact he (by rw [ham, h3, Bool.and_false, Bool.false_and]) ⟨rfl, rfl, rfl, rfl, trivial⟩ (StLe.to _ _ rfl (by simp) rfl rfl)
          · have h2 : (p.op == 1) = false := h2
            refine AtGuard.mk (fun h => by cases h) (fun _ => ?_)
            refine AtIf.mk (fun h => by cases h) (fun _ => ?_)
            exact he (by rw [ham, h2, Bool.false_and, Bool.false_and]) ⟨rfl, rfl, rfl, rfl, trivial⟩ (StLe.to _ _ rfl (by simp) rfl rfl)
        · have h1 : ((t.op == 5) && decide (((Pt.encL t.parts).length : Int) > 1)) = false := h1
          refine AtGuard.mk (fun h => by cases h) (fun _ => ?_)
          refine AtGuard.mk (fun h => by cases h) (fun _ => ?_)
          refine AtIf.mk (fun h => by cases h) (fun _ => ?_)
          refine he ?_ ⟨rfl, rfl, rfl, rfl, trivial⟩ (StLe.to _ _ rfl (by simp) rfl rfl)
          simp only [ho, hlen] at h1
          match hp : t.parts, h1 with
          | p :: q :: r, h => simp at h; omega
          | [], _ => rfl
          | [_], _ => rfl
      · skip
        intro _ hamb
        refine AtLoop.mk ⟨Nat × Int, fun x => [(123, iS x.1), (122, iS (Pt.encL t.parts).length), (121, .v (.slice a2 (Pt.encL t.parts).length c2)), (3, .loc 1 0), (7, .loc 2 0), (1, iS depth), (2, .loc 0 0)],
          fun x => ⟨[.cells 3 [iS x.2], .cells 41 (ptL t a1 c1 a2 c2), .cells 41 [iS t.op, sS emB, sS emB, iS 0, iS 0, sS emB, .v (.slice none 0 0), .v (.slice none 0 0)]], [], [rwR t.raw a1 c1, ptR t a2 c2]⟩,
          fun x => x.1 ≤ t.parts.length ∧ 0 ≤ x.2 ∧ x.2 ≤ 400 ∧ properL (Pt.skL t.parts) (depth + 1) (k + 200 + 1) = properL (Pt.skL (t.parts.drop x.1)) (depth + 1) (x.2 + 200),
          fun x => t.parts.length - x.1, (0, k + 1), ⟨Nat.zero_le _, by simp only; omega, by simp only; omega, by simp only [List.drop_zero]; congr 1; omega⟩, ⟨rfl, rfl, rfl, rfl, rfl, rfl, rfl, trivial⟩, StLe.refl _, fun x _ => ⟨rfl, rfl⟩, ?_⟩
        rintro ⟨i, kk⟩ ⟨hi, hk0, hk4, hinv⟩
        simp only at hi hk0 hk4 hinv ⊢
        refine AtIf.mk (fun h3 => ?_) (fun h3 => ?_)
        · simp only [decide_eq_true_eq, hlen] at h3
          obtain ⟨t', ht'⟩ : ∃ t', t.parts[i]? = some t' := ⟨_, List.getElem?_eq_getElem (by omega)⟩
          refine at_index ttOK 1 rfl rfl rfl rfl (by omega) (by rw [Int.toNat_natCast]; exact Pt.encL_get ht') ?_
          intro b1 d1 _ _ b2 d2 _ _
          have hw2 : IntKind.i64.wrap (depth + 1) = depth + 1 := wrap_i64 (by omega) (by omega)
          have hspec := ih t' (List.mem_of_getElem? ht') (depth + 1) kk b1 d1 b2 d2 (by omega) (by omega) hk0 hk4
          refine hspec.frame [0] rfl (by simp only [hw2]; rfl) (by simp) rfl ?_ ?_ rfl rfl ?_
          · intro p q hp
            match p, hp with
            | 0, hp => simp at hp; subst hp; exact ⟨0, rfl, rfl, rfl⟩
          · intro p hp; simp only [List.mem_cons, List.not_mem_nil, or_false] at hp ⊢; rcases hp with rfl | rfl <;> simp
          · rintro o s' ⟨kk', rfl, hkk, rfl⟩
            refine ⟨rfl, rfl, [.cells 3 [iS kk']], rfl, ?_⟩
            have hle := properF_le t'.sk (depth + 1) (kk + 200) (by omega) (by omega)
            rw [drop_cons ht', Pt.skL, properL] at hinv
            cases hp : properF t'.sk (depth + 1) (kk + 200) with
            | mk b k' =>
              rw [hp] at hinv hle hkk
              refine AtIf.mk (fun h4 => ?_) (fun h4 => ?_)
              · have h4 : b = false := by simpa using h4
                subst h4
                refine ret_own [.cells 3 [iS kk']] rfl rfl rfl rfl rfl (bad _ ?_)
                rw [hF]
                split
                · rw [hinv]
                · rfl
              · have h4 : b = true := by simpa using h4
                subst h4
                have hkk := hkk rfl
                have hw3 : IntKind.i64.wrap (i + 1) = ((i + 1 : Nat) : Int) := wrap_i64 (by omega) (by omega)
                have h6 := hle.2.2 rfl
                simp only at hle h6 hinv hkk
                refine ⟨(i + 1, kk'), ⟨by omega, by simp only; omega, by simp only; omega, ?_⟩, by simp only; omega, ⟨by rw [← hw3]; rfl, rfl, rfl, rfl, rfl, rfl, rfl, trivial⟩, StLe.to _ _ rfl (by simp) rfl rfl⟩
                rw [hinv]
                simp only
                congr 1
                omega
        · simp only [decide_eq_false_iff_not, hlen] at h3
          rw [List.drop_of_length_le (by omega), Pt.skL, properL] at hinv
          exact fin (m := emB) (s := emB) (n := 0) (kk := kk) (by simp [wName, ho]) (by simp [wSign, ho]) (by simp [wN, ho]) (by simp [swOK, ho, hamb]) (fun _ => hinv) (by simp [isLs, ho]) ⟨rfl, rfl, rfl, rfl, trivial⟩ (StLe.to _ _ rfl (by simp) rfl rfl)
    · repeat (refine AtIf.mk (fun h => ?_) (fun h => ?_) <;> first | (exfalso; simp [ho] at h; done) | skip)
      refine AtCut.mk ⟨Unit, fun _ => [(3, .loc 1 0), (7, .loc 2 0), (1, iS depth), (2, .loc 0 0)],
        fun _ => ⟨[.cells 3 [iS (k + 1)], .cells 41 (ptL t a1 c1 a2 c2), .cells 41 [iS t.op, sS emB, sS emB, iS 0, iS 0, sS emB, .v (.slice none 0 0), .v (.slice none 0 0)]], [], [rwR t.raw a1 c1, ptR t a2 c2]⟩,
        fun _ => True, fun _ _ => ⟨rfl, rfl⟩, ?_, ?_⟩
      · refine AtGuard.mk (fun h => ?_) (fun _ => ?_)
        · exfalso
          have h : ((t.op == 5) && decide (((Pt.encL t.parts).length : Int) > 1)) = true := h
          simp [ho] at h
        refine AtGuard.mk (fun h => by cases h) (fun _ => ?_)
        refine AtGuard.mk (fun h => by cases h) (fun _ => ?_)
        refine AtIf.mk (fun h => by cases h) (fun _ => ?_)
        exact ⟨(), trivial, ⟨rfl, rfl, rfl, rfl, trivial⟩, StLe.to _ _ rfl (by simp) rfl rfl⟩
      · skip
        intro _ _
        refine AtLoop.mk ⟨Nat × Int, fun x => [(123, iS x.1), (122, iS (Pt.encL t.parts).length), (121, .v (.slice a2 (Pt.encL t.parts).length c2)), (3, .loc 1 0), (7, .loc 2 0), (1, iS depth), (2, .loc 0 0)],
          fun x => ⟨[.cells 3 [iS x.2], .cells 41 (ptL t a1 c1 a2 c2), .cells 41 [iS t.op, sS emB, sS emB, iS 0, iS 0, sS emB, .v (.slice none 0 0), .v (.slice none 0 0)]], [], [rwR t.raw a1 c1, ptR t a2 c2]⟩,
          fun x => x.1 ≤ t.parts.length ∧ 0 ≤ x.2 ∧ x.2 ≤ 400 ∧ properL (Pt.skL t.parts) (depth + 1) (k + 200 + 1) = properL (Pt.skL (t.parts.drop x.1)) (depth + 1) (x.2 + 200),
          fun x => t.parts.length - x.1, (0, k + 1), ⟨Nat.zero_le _, by simp only; omega, by simp only; omega, by simp only [List.drop_zero]; congr 1; omega⟩, ⟨rfl, rfl, rfl, rfl, rfl, rfl, rfl, trivial⟩, StLe.refl _, fun x _ => ⟨rfl, rfl⟩, ?_⟩
        rintro ⟨i, kk⟩ ⟨hi, hk0, hk4, hinv⟩
        simp only at hi hk0 hk4 hinv ⊢
        refine AtIf.mk (fun h3 => ?_) (fun h3 => ?_)
        · simp only [decide_eq_true_eq, hlen] at h3
          obtain ⟨t', ht'⟩ : ∃ t', t.parts[i]? = some t' := ⟨_, List.getElem?_eq_getElem (by omega)⟩
          refine at_index ttOK 1 rfl rfl rfl rfl (by omega) (by rw [Int.toNat_natCast]; exact Pt.encL_get ht') ?_
          intro b1 d1 _ _ b2 d2 _ _
          have hw2 : IntKind.i64.wrap (depth + 1) = depth + 1 := wrap_i64 (by omega) (by omega)
          have hspec := ih t' (List.mem_of_getElem? ht') (depth + 1) kk b1 d1 b2 d2 (by omega) (by omega) hk0 hk4
          refine hspec.frame [0] rfl (by simp only [hw2]; rfl) (by simp) rfl ?_ ?_ rfl rfl ?_
          · intro p q hp
            match p, hp with
            | 0, hp => simp at hp; subst hp; exact ⟨0, rfl, rfl, rfl⟩
          · intro p hp; simp only [List.mem_cons, List.not_mem_nil, or_false] at hp ⊢; rcases hp with rfl | rfl <;> simp
          · rintro o s' ⟨kk', rfl, hkk, rfl⟩
            refine ⟨rfl, rfl, [.cells 3 [iS kk']], rfl, ?_⟩
            have hle := properF_le t'.sk (depth + 1) (kk + 200) (by omega) (by omega)
            rw [drop_cons ht', Pt.skL, properL] at hinv
            cases hp : properF t'.sk (depth + 1) (kk + 200) with
            | mk b k' =>
              rw [hp] at hinv hle hkk
              refine AtIf.mk (fun h4 => ?_) (fun h4 => ?_)
              · have h4 : b = false := by simpa using h4
                subst h4
                refine ret_own [.cells 3 [iS kk']] rfl rfl rfl rfl rfl (bad _ ?_)
                rw [hF]
                split
                · rw [hinv]
                · rfl
              · have h4 : b = true := by simpa using h4
                subst h4
                have hkk := hkk rfl
                have hw3 : IntKind.i64.wrap (i + 1) = ((i + 1 : Nat) : Int) := wrap_i64 (by omega) (by omega)
                have h6 := hle.2.2 rfl
                simp only at hle h6 hinv hkk
                refine ⟨(i + 1, kk'), ⟨by omega, by simp only; omega, by simp only; omega, ?_⟩, by simp only; omega, ⟨by rw [← hw3]; rfl, rfl, rfl, rfl, rfl, rfl, rfl, trivial⟩, StLe.to _ _ rfl (by simp) rfl rfl⟩
                rw [hinv]
                simp only
                congr 1
                omega
        · simp only [decide_eq_false_iff_not, hlen] at h3
          rw [List.drop_of_length_le (by omega), Pt.skL, properL] at hinv
          exact fin (m := emB) (s := emB) (n := 0) (kk := kk) (by simp [wName, ho]) (by simp [wSign, ho]) (by simp [wN, ho]) (by simp [swOK, ho]) (fun _ => hinv) (by simp [isLs, ho]) ⟨rfl, rfl, rfl, rfl, trivial⟩ (StLe.to _ _ rfl (by simp) rfl rfl)
    · repeat (refine AtIf.mk (fun h => ?_) (fun h => ?_) <;> first | (exfalso; simp [h1, h2, h3, h4, h5, h6, h7, h8] at h; done) | skip)
      exact ret_own [.cells 3 [iS (k + 1)]] rfl rfl rfl rfl rfl (bad _ (hbad (hsw (by simp [swOK, h1, h2, h3, h4, h5, h6, h7, h8]))))
  · rintro kk ⟨hs, hl1, hl2⟩
    have hok' : okPt t = ((!isNm t || namedF t.name) && ((((t.name.toList == (wName t).toList && t.sign.toList == (wSign t).toList) && t.n == wN t) && (isRw t || emptyRaw t.raw)) && (isLs t || ((Pt.encL t.parts).length : Int) == 0))) := by rw [okPt, hs, Bool.true_and]
    have fin : ∀ b, b = okPt t → ∃ kk', Out.ret (bS b) = .ret (bS (properF t.sk depth (k + 200)).1) ∧ ((properF t.sk depth (k + 200)).1 = true → kk' = (properF t.sk depth (k + 200)).2 - 200) ∧ (⟨[.cells 3 [iS kk]], [], []⟩ : St) = ⟨[.cells 3 [iS kk']], [], []⟩ := by
      rintro b rfl
      cases hb : okPt t with
      | false => exact bad kk (hbad hb)
      | true =>
        rw [hb, if_pos rfl] at hF
        cases hls : isLs t with
        | true =>
          have := hl1 hls
          rw [hF, this]
          exact ⟨kk, rfl, fun _ => by simp only; omega, rfl⟩
        | false =>
          have h1 := okPt_leaf hb hls
          have h2 := hl2 hls
          rw [hF, h1, Pt.skL, properL]
          exact ⟨kk, rfl, fun _ => by simp only; omega, rfl⟩
    refine AtCut.mk ⟨Unit, fun _ => [(3, .loc 1 0), (7, .loc 2 0), (1, iS depth), (2, .loc 0 0)],
      fun _ => ⟨[.cells 3 [iS kk], .cells 41 (ptL t a1 c1 a2 c2), .cells 41 [iS t.op, sS (wSign t), sS (wName t), iS (wN t), iS 0, sS emB, .v (.slice none 0 0), .v (.slice none 0 0)]], [], [rwR t.raw a1 c1, ptR t a2 c2]⟩,
      fun _ => (!isNm t || namedF t.name) = true, fun _ _ => ⟨rfl, rfl⟩, ?_, ?_⟩
    · refine AtGuard.mk (fun h1 => ?_) (fun h1 => ?_)
      · have h1 : isNm t = true := h1
        refine (named_spec t.name).at (by simp) rfl rfl ?_
        rintro r out ⟨rfl, rfl⟩
        refine AtIf.mk (fun h => ?_) (fun h => ?_)
        · have h : namedF t.name = false := by simpa using h
          exact ret_own [.cells 3 [iS kk]] rfl rfl rfl rfl rfl (fin false (by rw [hok', h1, h]; rfl))
        · have h : namedF t.name = true := by simpa using h
          exact ⟨(), by rw [h, Bool.or_true], ⟨rfl, rfl, rfl, rfl, trivial⟩, StLe.to _ _ rfl (by simp) rfl rfl⟩
      · have h1 : isNm t = false := h1
        refine AtIf.mk (fun h => by cases h) (fun _ => ?_)
        exact ⟨(), by rw [h1]; rfl, ⟨rfl, rfl, rfl, rfl, trivial⟩, StLe.to _ _ rfl (by simp) rfl rfl⟩
    intro _ hnm
    rw [hnm, Bool.true_and] at hok'
    refine AtGuard.mk (fun h1 => ?_) (fun h1 => ?_)
    · have h1 : ((t.name.toList == (wName t).toList && t.sign.toList == (wSign t).toList) && t.n == wN t) = true := h1
      rw [h1, Bool.true_and] at hok'
      refine AtGuard.mk (fun h2 => ?_) (fun h2 => ?_)
      · have h2 : isRw t = false := h2
        refine (empty_spec t.raw a1 c1).at (by simp) rfl rfl ?_
        rintro r out ⟨rfl, rfl⟩
        rw [h2, Bool.false_or] at hok'
        refine ret_own [.cells 3 [iS kk]] rfl rfl rfl rfl rfl (fin _ ?_)
        rw [hok']; rfl
      · have h2 : isRw t = true := h2
        rw [h2, Bool.true_or, Bool.true_and] at hok'
        refine ret_own [.cells 3 [iS kk]] rfl rfl rfl rfl rfl (fin _ ?_)
        rw [hok']; rfl
    · have h1 : ((t.name.toList == (wName t).toList && t.sign.toList == (wSign t).toList) && t.n == wN t) = false := h1
      rw [h1] at hok'
      refine ret_own [.cells 3 [iS kk]] rfl rfl rfl rfl rfl (fin _ ?_)
      rw [hok']; rfl
end Go.Proofs.YtogicnodmgdnbaaGreatDoor
end

/-! PartsB -/
section
namespace Go.Proofs.YtogicnodmgdnbaaGreatDoor
open Go.Tr Go
set_option maxRecDepth 10000

theorem okPt1 {t : Pt} (ho : t.op = 1) : okPt t = ((((((t.sign.toList == emB.toList) && t.n == 0) && emptyRaw t.raw)) && namedF t.name) && ((Pt.encL t.parts).length : Int) == 0) := by
  rw [Bool.eq_iff_iff]; simp [okPt, swOK, isNm, isRw, isLs, wName, wSign, wN, ho]; grind
theorem okPt2 {t : Pt} (ho : t.op = 2) : okPt t = ((((hasS t.sign [plusB, minusB, starB] && namedF t.name) && t.n == 0) && emptyRaw t.raw) && ((Pt.encL t.parts).length : Int) == 0) := by
  rw [Bool.eq_iff_iff]; simp [okPt, swOK, isNm, isRw, isLs, wName, wSign, wN, ho]; grind

end Go.Proofs.YtogicnodmgdnbaaGreatDoor
end

/-! Items -/
section
namespace Go.Proofs.YtogicnodmgdnbaaGreatDoor
open Go.Tr Go
set_option maxRecDepth 10000

structure It where
  word : ByteArray
  name : ByteArray
  raw : Rw
  parts : List Pt

abbrev itL (t : It) (a1 : Option Addr) (c1 : Nat) (a2 : Option Addr) (c2 : Nat) : List SV := [.v (.string t.word), .v (.string t.name), .v (.int .i64 t.raw.op), .v (.string t.raw.name), .v (.slice a1 (Rw.encL t.raw.args).length c1), .v (.slice a2 (Pt.encL t.parts).length c2)]
abbrev itS (t : It) (a1 : Option Addr) (c1 : Nat) (a2 : Option Addr) (c2 : Nat) : SV := .agg (itL t a1 c1 a2 c2)
abbrev itR (t : It) (a : Option Addr) (c : Nat) : Value × D := (.slice a (Pt.encL t.parts).length c, .sl 8 (Pt.encL t.parts))

/-- An item is well formed. -/
def itemOK (t : It) : Bool :=
  if (t.word.toList == emB.toList) = true then (((isSmallF t.name && !(t.name.toList == tyB.toList)) && rawOK t.raw) && ((Pt.encL t.parts).length : Int) == 0)
  else (((isSmallF t.word && (t.name.toList == emB.toList)) && emptyRaw t.raw) && (properL (Pt.skL t.parts) 1 200).1)

theorem checkItem_spec (t : It) (a1 : Option Addr) (c1 : Nat) (a2 : Option Addr) (c2 : Nat) : Pure Tryz.prog (fnS 25) [itS t a1 c1 a2 c2] [rwR t.raw a1 c1, itR t a2 c2] (fun r out => r = iS (if itemOK t then 0 else 2) ∧ out = []) := by
  refine Meets.of_ok fun hok => ?_
  have hB : (Pt.encL t.parts).length ≤ 1152921504606846976 := (hok _ (List.mem_cons_of_mem _ (List.mem_cons_self ..))).1
  have hlen := Pt.encL_length t.parts
  refine spec_of_body (N := 53) (m := 0) (dt := fun _ => none) [] ttOK Tryz.func25 rfl Tryz.call25 Tryz.ntmps25 rfl rfl rfl mixed (by kernel_rfl) ?_
  refine AtIf.mk (fun hw => ?_) (fun hw => ?_)
  · have hw : (t.word.toList == emB.toList) = true := hw
    have hI : itemOK t = (((isSmallF t.name && !(t.name.toList == tyB.toList)) && rawOK t.raw) && ((Pt.encL t.parts).length : Int) == 0) := by rw [itemOK, if_pos hw]
    refine AtGuard.mk (fun h1 => ?_) (fun h1 => ?_)
    · have h1 : decide (((Pt.encL t.parts).length : Int) > 0) = false := h1
      have h1' : (((Pt.encL t.parts).length : Int) == 0) = true := by simp at h1 ⊢; omega
      refine (isSmall_spec t.name).at (by simp) rfl rfl ?_
      rintro r out ⟨rfl, rfl⟩
      rw [h1', Bool.and_true] at hI
      refine AtIf.mk (fun h2 => ?_) (fun h2 => ?_)
      · have h2 : (!isSmallF t.name || (t.name.toList == tyB.toList)) = true := h2
        refine AtRet.pure [] rfl (by simp) ⟨?_, rfl⟩
        have : itemOK t = false := by
          rw [hI]
          revert h2
          cases isSmallF t.name <;> cases (t.name.toList == tyB.toList) <;> simp
        rw [this]; rfl
      · have h2 : (!isSmallF t.name || (t.name.toList == tyB.toList)) = false := h2
        refine (checkRaw_spec t.raw a1 c1).at (by simp) rfl rfl ?_
        rintro r out ⟨rfl, rfl⟩
        refine AtRet.pure [] rfl (by simp) ⟨?_, rfl⟩
        have : itemOK t = rawOK t.raw := by
          rw [hI]
          revert h2
          cases isSmallF t.name <;> cases (t.name.toList == tyB.toList) <;> simp
        rw [this]
    · have h1 : decide (((Pt.encL t.parts).length : Int) > 0) = true := h1
      refine AtIf.mk (fun _ => ?_) (fun h => by cases h)
      refine AtRet.pure [] rfl (by simp) ⟨?_, rfl⟩
      have h1' : (((Pt.encL t.parts).length : Int) == 0) = false := by rw [beq_eq_false_iff_ne]; simp only [decide_eq_true_eq] at h1; omega
      rw [hI, h1', Bool.and_false]; rfl
  have hw : (t.word.toList == emB.toList) = false := hw
  have hI : itemOK t = (((isSmallF t.word && (t.name.toList == emB.toList)) && emptyRaw t.raw) && (properL (Pt.skL t.parts) 1 200).1) := by rw [itemOK, if_neg (by rw [hw]; simp)]
  refine (isSmall_spec t.word).at (by simp) rfl rfl ?_
  rintro r out ⟨rfl, rfl⟩
  refine AtGuard.mk (fun h1 => ?_) (fun h1 => ?_)
  rotate_left
  · have h1 : (!isSmallF t.word || !(t.name.toList == emB.toList)) = true := h1
    refine AtIf.mk (fun _ => ?_) (fun h => by cases h)
    refine AtRet.pure [] rfl (by simp) ⟨?_, rfl⟩
    have : itemOK t = false := by
      rw [hI]
      revert h1
      cases isSmallF t.word <;> cases (t.name.toList == emB.toList) <;> simp
    rw [this]; rfl
  have h1 : (!isSmallF t.word || !(t.name.toList == emB.toList)) = false := h1
  refine (empty_spec t.raw a1 c1).at (by simp) rfl rfl ?_
  rintro r out ⟨rfl, rfl⟩
  have hI2 : itemOK t = (emptyRaw t.raw && (properL (Pt.skL t.parts) 1 200).1) := by
    rw [hI]
    revert h1
    cases isSmallF t.word <;> cases (t.name.toList == emB.toList) <;> simp
  refine AtIf.mk (fun h2 => ?_) (fun h2 => ?_)
  · have h2 : emptyRaw t.raw = false := by simpa using h2
    exact AtRet.pure [] rfl (by simp) ⟨by rw [hI2, h2]; rfl, rfl⟩
  have h2 : emptyRaw t.raw = true := by simpa using h2
  rw [h2, Bool.true_and] at hI2
  refine AtLoop.mk ⟨Nat × Int, fun x => [(45, iS x.1), (44, iS (Pt.encL t.parts).length), (43, .v (.slice a2 (Pt.encL t.parts).length c2)), (3, .loc 1 0)],
    fun x => ⟨[.cells 33 (itL t a1 c1 a2 c2), .cells 3 [iS x.2]], [], [rwR t.raw a1 c1, itR t a2 c2]⟩,
    fun x => x.1 ≤ t.parts.length ∧ 0 ≤ x.2 ∧ x.2 ≤ 400 ∧ itemOK t = (properL (Pt.skL (t.parts.drop x.1)) 1 (x.2 + 200)).1,
    fun x => t.parts.length - x.1, (0, 0), ⟨Nat.zero_le _, by simp only; omega, by simp only; omega, hI2⟩, ⟨rfl, rfl, rfl, rfl, trivial⟩, StLe.refl _, fun x _ => ⟨rfl, rfl⟩, ?_⟩
  rintro ⟨i, kk⟩ ⟨hi, hk0, hk4, hinv⟩
  simp only at hi hk0 hk4 hinv ⊢
  refine AtIf.mk (fun h3 => ?_) (fun h3 => ?_)
  · simp only [decide_eq_true_eq, hlen] at h3
    obtain ⟨t', ht'⟩ : ∃ t', t.parts[i]? = some t' := ⟨_, List.getElem?_eq_getElem (by omega)⟩
    refine at_index ttOK 1 rfl rfl rfl rfl (by omega) (by rw [Int.toNat_natCast]; exact Pt.encL_get ht') ?_
    intro b1 d1 _ _ b2 d2 _ _
    have hspec := whole_spec t' 1 kk b1 d1 b2 d2 (by omega) (by omega) hk0 hk4
    refine hspec.frame [1] rfl rfl (by simp) rfl ?_ ?_ rfl rfl ?_
    · intro p q hp
      match p, hp with
      | 0, hp => simp at hp; subst hp; exact ⟨1, rfl, rfl, rfl⟩
    · intro p hp; simp only [List.mem_cons, List.not_mem_nil, or_false] at hp ⊢; rcases hp with rfl | rfl <;> simp
    · rintro o s' ⟨kk', rfl, hkk, rfl⟩
      refine ⟨rfl, rfl, [.cells 3 [iS kk']], rfl, ?_⟩
      have hle := properF_le t'.sk 1 (kk + 200) (by omega) (by omega)
      rw [drop_cons ht', Pt.skL, properL] at hinv
      cases hp : properF t'.sk 1 (kk + 200) with
      | mk b k' =>
        rw [hp] at hinv hle hkk
        refine AtIf.mk (fun h4 => ?_) (fun h4 => ?_)
        · have h4 : b = false := by simpa using h4
          subst h4
          exact AtRet.pure [] rfl (by simp) ⟨by rw [hinv]; rfl, rfl⟩
        · have h4 : b = true := by simpa using h4
          subst h4
          have hkk := hkk rfl
          have hw3 : IntKind.i64.wrap (i + 1) = ((i + 1 : Nat) : Int) := wrap_i64 (by omega) (by omega)
          have h6 := hle.2.2 rfl
          simp only at hle h6 hinv hkk
          refine ⟨(i + 1, kk'), ⟨by omega, by simp only; omega, by simp only; omega, ?_⟩, by simp only; omega, ⟨by rw [← hw3]; rfl, rfl, rfl, rfl, trivial⟩, StLe.to _ _ rfl (by simp) rfl rfl⟩
          rw [hinv]
          simp only
          congr 2
          omega
  · simp only [decide_eq_false_iff_not, hlen] at h3
    rw [List.drop_of_length_le (by omega), Pt.skL, properL] at hinv
    exact AtRet.pure [] rfl (by simp) ⟨by rw [hinv]; rfl, rfl⟩

end Go.Proofs.YtogicnodmgdnbaaGreatDoor
end
