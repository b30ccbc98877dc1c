/- Merged texts: FrA FrB FrC FrD FrE FrF FrG FrH RowLaid RowPF CardPF. Plain law: texts of raw expressions and their tokens; the reference's lexer reads them. No program in sight. Plain law: the reference's lexer at the text of a raw expression. No program in sight. Plain law: the reference's reader at the tokens of a raw expression. No program in sight. Plain law: the reference reads the text of a raw expression again; two with one text are one. No program in sight. Plain law: what is free in the raw expression of a term. No program in sight. Plain law: what trussref02 says is free. No program in sight. Plain law: PrintFree answers true. No program in sight. Plain law: PrintFree answers true; its loops. No program in sight. A start at which the listed tables read as their initialisers lay them. No condition. PrintFree answers true at every input, and its argument reads as it did. No condition. PrintFree: the card: the row, its listed tables tied to the program's text by the given tie. No condition. -/
import Derived.Test.YtpibdcjdamibdaaGreatDoorQJ
import Derived.Lib.Strings
import Derived.JoinedAt
import Derived.LaidLaws
import Derived.Deep.DeepLaidRun
import Derived.Test.YtpibdcjdamibdaaGreatDoorCards
import Derived.Test.YtpibdcjdamibdaaGreatDoorTie
import Derived.SevenTiedAt
/-! FrA -/
section
namespace Go.Proofs.YtpibdcjdamibdaaGreatDoor
open Go.Tr Go
set_option linter.unusedVariables false
set_option linter.unusedSimpArgs false
set_option maxRecDepth 10000

abbrev TT : Type := Int × ByteArray
abbrev lparB : ByteArray := ⟨#[40]⟩
abbrev rparB : ByteArray := ⟨#[41]⟩
abbrev arrB : ByteArray := ⟨#[45, 62]⟩
abbrev colB : ByteArray := ⟨#[58]⟩
/-- The kind of a name's token. -/
def nkind (s : ByteArray) : Int := match s.data.toList with
  | [] => 1
  | c :: _ => if smallC c = true then 1 else 2
def wrT (b : Bool) (l : List TT) : List TT := if b = true then (4, lparB) :: (l ++ [(4, rparB)]) else l
def wideB (r : Rw) : Bool := (r.op == 6 || r.op == 5) || r.op == 7
/-- A binder's Op and brackets. -/
def brk (o : Int) (l r : UInt8) : Prop := (o = 5 ∧ l = 123 ∧ r = 125) ∨ (o = 7 ∧ l = 91 ∧ r = 93)
abbrev oneB (c : UInt8) : ByteArray := ⟨#[c]⟩

/-- A raw expression, its text and its tokens. -/
inductive Tx : Rw → ByteArray → List TT → Prop
  | ty : Tx (.mk 1 ByteArray.empty []) ⟨#[116, 121, 112, 101]⟩ [(1, ⟨#[116, 121, 112, 101]⟩)]
  | nm {s : ByteArray} (h : namedF s = true) : Tx (.mk 2 s []) s [(nkind s, s)]
  | ho : Tx (.mk 3 ByteArray.empty []) ⟨#[95]⟩ [(3, ⟨#[95]⟩)]
  | ap {a b : Rw} {A B : ByteArray} {xs1 ys1 : List TT} (ha : Tx a A xs1) (hb : Tx b B ys1) : Tx (.mk 4 ByteArray.empty [a, b]) ((wr (wideB a) A ++ (⟨#[32]⟩ : ByteArray)) ++ wr (wideB b || b.op == 4) B) (wrT (wideB a) xs1 ++ wrT (wideB b || b.op == 4) ys1)
  | ar {a b : Rw} {A B : ByteArray} {xs1 ys1 : List TT} (ha : Tx a A xs1) (hb : Tx b B ys1) : Tx (.mk 6 ByteArray.empty [a, b]) ((wr (wideB a) A ++ (⟨#[32, 45, 62, 32]⟩ : ByteArray)) ++ B) (wrT (wideB a) xs1 ++ (4, arrB) :: ys1)
  | b0 {o : Int} {l r : UInt8} {s : ByteArray} {b : Rw} {B : ByteArray} {ys1 : List TT} (ho : brk o l r) (h : namedF s = true) (hb : Tx b B ys1) : Tx (.mk o s [.mk 3 ByteArray.empty [], b]) ((((oneB l ++ s) ++ (⟨#[]⟩ : ByteArray)) ++ (⟨#[r, 32]⟩ : ByteArray)) ++ B) ((4, oneB l) :: (nkind s, s) :: (4, oneB r) :: ys1)
  | b1 {o : Int} {l r : UInt8} {s : ByteArray} {a b : Rw} {A B : ByteArray} {xs1 ys1 : List TT} (ho : brk o l r) (h : namedF s = true) (ha3 : a.op ≠ 3) (ha : Tx a A xs1) (hb : Tx b B ys1) : Tx (.mk o s [a, b]) ((((oneB l ++ s) ++ (colB ++ A)) ++ (⟨#[r, 32]⟩ : ByteArray)) ++ B) ((4, oneB l) :: (nkind s, s) :: (4, colB) :: (xs1 ++ (4, oneB r) :: ys1))

theorem rw_named {t : Rw} (h : okAll t.sk = true) (ho : t.op = 2 ∨ t.op = 5 ∨ t.op = 7) : namedF t.name = true := by
  have h1 := (rw_ok h).1
  simp only [okRaw, Bool.and_eq_true, beq_iff_eq] at h1
  rw [← h1.1.2]
  simp only [rawHas]
  rcases ho with e | e | e <;> simp [e]
theorem rw_noname {t : Rw} (h : okAll t.sk = true) (ho : t.op = 1 ∨ t.op = 3 ∨ t.op = 4 ∨ t.op = 6) : t.name = ByteArray.empty := by
  have h1 := (rw_ok h).1
  simp only [okRaw, Bool.and_eq_true, Bool.or_eq_true, beq_iff_eq] at h1
  have h2 := h1.2
  have h3 : rawHas t.op = false := by
    simp only [rawHas]
    rcases ho with e | e | e | e <;> simp [e]
  rcases h2 with h2 | h2
  · rw [h3] at h2; cases h2
  · rw [ByteArray.toList_eq, ByteArray.toList_eq] at h2
    exact ba_ext h2
theorem rw_leaf {t : Rw} (h : okAll t.sk = true) (ho : t.op = 1 ∨ t.op = 2 ∨ t.op = 3) : t.args = [] := by
  have h1 := (rw_ok h).1
  simp only [okRaw, Bool.and_eq_true, rawArgs] at h1
  have h2 := h1.1.1.2
  rw [if_neg (by omega)] at h2
  exact List.eq_nil_of_length_eq_zero (by simpa using h2)

set_option maxHeartbeats 1000000 in
theorem text_tx : ∀ (n : Nat) (t : Rw), okAll t.sk = true → t.sk.count ≤ n → n ≤ 1000 → ∃ (T : ByteArray) (ts : List TT), Ev (fun k => R02_Text k t) T ∧ T.size ≤ 20 * n ∧ Tx t T ts
  | 0, t, hok, hn, _ => by have := Tm.count_pos t.sk; omega
  | n + 1, t, hok, hn, hb => by
    have s40 : (⟨#[40]⟩ : ByteArray).size = 1 := rfl
    have s41 : (⟨#[41]⟩ : ByteArray).size = 1 := rfl
    have s32 : (⟨#[32]⟩ : ByteArray).size = 1 := rfl
    have sar : (⟨#[32, 45, 62, 32]⟩ : ByteArray).size = 4 := rfl
    have s91 : (⟨#[91]⟩ : ByteArray).size = 1 := rfl
    have s93 : (⟨#[93]⟩ : ByteArray).size = 1 := rfl
    have s58 : (⟨#[58]⟩ : ByteArray).size = 1 := rfl
    have s123 : (⟨#[123]⟩ : ByteArray).size = 1 := rfl
    have s125 : (⟨#[125]⟩ : ByteArray).size = 1 := rfl
    have sb1 : (⟨#[125, 32]⟩ : ByteArray).size = 2 := rfl
    have sb2 : (⟨#[93, 32]⟩ : ByteArray).size = 2 := rfl
    have s0 : (⟨#[]⟩ : ByteArray).size = 0 := rfl
    have ng : ∀ {x y : Int}, t.op = x → x ≠ y → (t.op == y) = false := fun e h => by rw [e]; exact beqI' h
    have mk : t = .mk t.op t.name t.args := by cases t; rfl
    rcases rw_op hok with ho | ho | ho | ho | ho | ho | ho
    · refine ⟨⟨#[116, 121, 112, 101]⟩, [(1, ⟨#[116, 121, 112, 101]⟩)], ?_, ?_, ?_⟩
      rotate_left 2
      · rw [mk, ho, rw_noname hok (by omega), rw_leaf hok (by omega)]; exact Tx.ty
      · refine Ev.succ (fun k => R02_Text.eq_2 ..) ?_
        exact Ev.t (beqI ho) (Ev.pure _)
      · show 4 ≤ _; omega
    · have hnm := rw_name hok (.inl ho)
      refine ⟨t.name, [(nkind t.name, t.name)], ?_, by omega, ?_⟩
      rotate_left
      · have := Tx.nm (rw_named hok (by omega))
        rw [mk, ho, rw_leaf hok (by omega)]; exact this
      · refine Ev.succ (fun k => R02_Text.eq_2 ..) ?_
        refine Ev.f (ng ho (by decide)) (Ev.t (beqI ho) (Ev.pure _))
    · refine ⟨⟨#[95]⟩, [(3, ⟨#[95]⟩)], ?_, ?_, ?_⟩
      rotate_left 2
      · rw [mk, ho, rw_noname hok (by omega), rw_leaf hok (by omega)]; exact Tx.ho
      · refine Ev.succ (fun k => R02_Text.eq_2 ..) ?_
        refine Ev.f (ng ho (by decide)) (Ev.f (ng ho (by decide)) (Ev.t (beqI ho) (Ev.pure _)))
      · show 1 ≤ _; omega
    · obtain ⟨a, b, e, ha, hb2, hcnt⟩ := rw_pair hok (by omega)
      have hpa := Tm.count_pos a.sk; have hpb := Tm.count_pos b.sk
      obtain ⟨A, xs1, a1, a2, a3⟩ := text_tx a.sk.count a ha (Nat.le_refl _) (by omega)
      obtain ⟨B, ys1, b1, b2, b3⟩ := text_tx b.sk.count b hb2 (Nat.le_refl _) (by omega)
      have i0 : idx t.args 0 = some a := by rw [e]; rfl
      have i1 : idx t.args 1 = some b := by rw [e]; rfl
      have hA := wr_size ((a.op == 6 || a.op == 5) || a.op == 7) A
      have hB := wr_size (((b.op == 6 || b.op == 5) || b.op == 7) || b.op == 4) B
      refine ⟨(wr ((a.op == 6 || a.op == 5) || a.op == 7) A ++ (⟨#[32]⟩ : ByteArray)) ++ wr (((b.op == 6 || b.op == 5) || b.op == 7) || b.op == 4) B, wrT (wideB a) xs1 ++ wrT (wideB b || b.op == 4) ys1, ?_, by simp only [ByteArray.size_append, s40, s41, s32, sar, s91, s93, s58, s123, s125, sb1, sb2, s0, decide_eq_true_eq]; omega, ?_⟩
      rotate_left
      · rw [mk, ho, rw_noname hok (by omega), e]; exact Tx.ap a3 b3
      · refine Ev.succ (fun k => R02_Text.eq_2 ..) ?_
        refine Ev.f (ng ho (by decide)) (Ev.f (ng ho (by decide)) (Ev.f (ng ho (by decide)) (Ev.t (beqI ho) ?_)))
        refine Ev.some i0 (Ev.some i0 (Ev.some i1 (Ev.some i1 (a1.bind ((wide_ev a).bind ((within_ev A _ (by omega)).bind ?_))))))
        refine Ev.need (by simp only [ByteArray.size_append, s40, s41, s32, sar, s91, s93, s58, s123, s125, sb1, sb2, s0, decide_eq_true_eq]; omega) ?_
        refine b1.bind ((wide_ev b).bind ?_)
        refine Ev.ite (fun hw => ?_) (fun hw => ?_)
        · rw [hw, Bool.true_or] at hB ⊢
          refine (within_ev B _ (by omega)).bind ?_
          exact Ev.need (by simp only [ByteArray.size_append, s40, s41, s32, sar, s91, s93, s58, s123, s125, sb1, sb2, s0, decide_eq_true_eq]; omega) (Ev.pure _)
        · rw [hw, Bool.false_or] at hB ⊢
          refine Ev.some i1 ((within_ev B _ (by omega)).bind ?_)
          exact Ev.need (by simp only [ByteArray.size_append, s40, s41, s32, sar, s91, s93, s58, s123, s125, sb1, sb2, s0, decide_eq_true_eq]; omega) (Ev.pure _)
    · obtain ⟨a, b, e, ha, hb2, hcnt⟩ := rw_pair hok (by omega)
      have hpa := Tm.count_pos a.sk; have hpb := Tm.count_pos b.sk
      have hnm := rw_name hok (by omega)
      have hnd := rw_named hok (by omega)
      obtain ⟨A, xs1, a1, a2, a3⟩ := text_tx a.sk.count a ha (Nat.le_refl _) (by omega)
      obtain ⟨B, ys1, b1, b2, b3⟩ := text_tx b.sk.count b hb2 (Nat.le_refl _) (by omega)
      have i0 : idx t.args 0 = some a := by rw [e]; rfl
      have i1 : idx t.args 1 = some b := by rw [e]; rfl
      have hbr : brk 5 123 125 := .inl ⟨rfl, rfl, rfl⟩
      by_cases h3 : a.op = 3
      · refine ⟨((((⟨#[123]⟩ : ByteArray) ++ t.name) ++ (⟨#[]⟩ : ByteArray)) ++ (⟨#[125, 32]⟩ : ByteArray)) ++ B, (4, oneB 123) :: (nkind t.name, t.name) :: (4, oneB 125) :: ys1, ?_, by simp only [ByteArray.size_append, s40, s41, s32, sar, s91, s93, s58, s123, s125, sb1, sb2, s0, decide_eq_true_eq]; omega, ?_⟩
        rotate_left
        · have hae : a = .mk 3 ByteArray.empty [] := by
            have : a = .mk a.op a.name a.args := by cases a; rfl
            rw [this, h3, rw_noname ha (by omega), rw_leaf ha (by omega)]
          have := Tx.b0 hbr hnd b3
          rw [mk, ho, e, hae]; exact this
        · refine Ev.succ (fun k => R02_Text.eq_2 ..) ?_
          refine Ev.f (ng ho (by decide)) (Ev.f (ng ho (by decide)) (Ev.f (ng ho (by decide)) (Ev.f (ng ho (by decide)) (Ev.f (ng ho (by decide)) ?_))))
          refine Ev.some i0 ?_
          refine Ev.f (bneI' h3) ?_
          refine Ev.t (beqI ho) ?_
          refine Ev.need (by simp only [ByteArray.size_append, s40, s41, s32, sar, s91, s93, s58, s123, s125, sb1, sb2, s0, decide_eq_true_eq]; omega) (Ev.need (by simp only [ByteArray.size_append, s40, s41, s32, sar, s91, s93, s58, s123, s125, sb1, sb2, s0, decide_eq_true_eq]; omega) (Ev.need (by simp only [ByteArray.size_append, s40, s41, s32, sar, s91, s93, s58, s123, s125, sb1, sb2, s0, decide_eq_true_eq]; omega) ?_))
          refine Ev.some i1 (b1.bind ?_)
          exact Ev.need (by simp only [ByteArray.size_append, s40, s41, s32, sar, s91, s93, s58, s123, s125, sb1, sb2, s0, decide_eq_true_eq]; omega) (Ev.pure _)
      · refine ⟨((((⟨#[123]⟩ : ByteArray) ++ t.name) ++ ((⟨#[58]⟩ : ByteArray) ++ A)) ++ (⟨#[125, 32]⟩ : ByteArray)) ++ B, (4, oneB 123) :: (nkind t.name, t.name) :: (4, colB) :: (xs1 ++ (4, oneB 125) :: ys1), ?_, by simp only [ByteArray.size_append, s40, s41, s32, sar, s91, s93, s58, s123, s125, sb1, sb2, s0, decide_eq_true_eq]; omega, ?_⟩
        rotate_left
        · have := Tx.b1 hbr hnd h3 a3 b3
          rw [mk, ho, e]; exact this
        · refine Ev.succ (fun k => R02_Text.eq_2 ..) ?_
          refine Ev.f (ng ho (by decide)) (Ev.f (ng ho (by decide)) (Ev.f (ng ho (by decide)) (Ev.f (ng ho (by decide)) (Ev.f (ng ho (by decide)) ?_))))
          refine Ev.some i0 ?_
          refine Ev.t (bneI h3) ?_
          refine Ev.some i0 (a1.bind ?_)
          refine Ev.need (by simp only [ByteArray.size_append, s40, s41, s32, sar, s91, s93, s58, s123, s125, sb1, sb2, s0, decide_eq_true_eq]; omega) ?_
          refine Ev.t (beqI ho) ?_
          refine Ev.need (by simp only [ByteArray.size_append, s40, s41, s32, sar, s91, s93, s58, s123, s125, sb1, sb2, s0, decide_eq_true_eq]; omega) (Ev.need (by simp only [ByteArray.size_append, s40, s41, s32, sar, s91, s93, s58, s123, s125, sb1, sb2, s0, decide_eq_true_eq]; omega) (Ev.need (by simp only [ByteArray.size_append, s40, s41, s32, sar, s91, s93, s58, s123, s125, sb1, sb2, s0, decide_eq_true_eq]; omega) ?_))
          refine Ev.some i1 (b1.bind ?_)
          exact Ev.need (by simp only [ByteArray.size_append, s40, s41, s32, sar, s91, s93, s58, s123, s125, sb1, sb2, s0, decide_eq_true_eq]; omega) (Ev.pure _)
    · obtain ⟨a, b, e, ha, hb2, hcnt⟩ := rw_pair hok (by omega)
      have hpa := Tm.count_pos a.sk; have hpb := Tm.count_pos b.sk
      obtain ⟨A, xs1, a1, a2, a3⟩ := text_tx a.sk.count a ha (Nat.le_refl _) (by omega)
      obtain ⟨B, ys1, b1, b2, b3⟩ := text_tx b.sk.count b hb2 (Nat.le_refl _) (by omega)
      have i0 : idx t.args 0 = some a := by rw [e]; rfl
      have i1 : idx t.args 1 = some b := by rw [e]; rfl
      have hA := wr_size ((a.op == 6 || a.op == 5) || a.op == 7) A
      refine ⟨(wr ((a.op == 6 || a.op == 5) || a.op == 7) A ++ (⟨#[32, 45, 62, 32]⟩ : ByteArray)) ++ B, wrT (wideB a) xs1 ++ (4, arrB) :: ys1, ?_, by simp only [ByteArray.size_append, s40, s41, s32, sar, s91, s93, s58, s123, s125, sb1, sb2, s0, decide_eq_true_eq]; omega, ?_⟩
      rotate_left
      · rw [mk, ho, rw_noname hok (by omega), e]; exact Tx.ar a3 b3
      · refine Ev.succ (fun k => R02_Text.eq_2 ..) ?_
        refine Ev.f (ng ho (by decide)) (Ev.f (ng ho (by decide)) (Ev.f (ng ho (by decide)) (Ev.f (ng ho (by decide)) (Ev.t (beqI ho) ?_))))
        refine Ev.some i0 (Ev.some i0 (Ev.some i1 (a1.bind ((wide_ev a).bind ((within_ev A _ (by omega)).bind ?_)))))
        refine Ev.need (by simp only [ByteArray.size_append, s40, s41, s32, sar, s91, s93, s58, s123, s125, sb1, sb2, s0, decide_eq_true_eq]; omega) ?_
        refine b1.bind ?_
        exact Ev.need (by simp only [ByteArray.size_append, s40, s41, s32, sar, s91, s93, s58, s123, s125, sb1, sb2, s0, decide_eq_true_eq]; omega) (Ev.pure _)
    · obtain ⟨a, b, e, ha, hb2, hcnt⟩ := rw_pair hok (by omega)
      have hpa := Tm.count_pos a.sk; have hpb := Tm.count_pos b.sk
      have hnm := rw_name hok (by omega)
      have hnd := rw_named hok (by omega)
      obtain ⟨A, xs1, a1, a2, a3⟩ := text_tx a.sk.count a ha (Nat.le_refl _) (by omega)
      obtain ⟨B, ys1, b1, b2, b3⟩ := text_tx b.sk.count b hb2 (Nat.le_refl _) (by omega)
      have i0 : idx t.args 0 = some a := by rw [e]; rfl
      have i1 : idx t.args 1 = some b := by rw [e]; rfl
      have hbr : brk 7 91 93 := .inr ⟨rfl, rfl, rfl⟩
      by_cases h3 : a.op = 3
      · refine ⟨((((⟨#[91]⟩ : ByteArray) ++ t.name) ++ (⟨#[]⟩ : ByteArray)) ++ (⟨#[93, 32]⟩ : ByteArray)) ++ B, (4, oneB 91) :: (nkind t.name, t.name) :: (4, oneB 93) :: ys1, ?_, by simp only [ByteArray.size_append, s40, s41, s32, sar, s91, s93, s58, s123, s125, sb1, sb2, s0, decide_eq_true_eq]; omega, ?_⟩
        rotate_left
        · have hae : a = .mk 3 ByteArray.empty [] := by
            have : a = .mk a.op a.name a.args := by cases a; rfl
            rw [this, h3, rw_noname ha (by omega), rw_leaf ha (by omega)]
          have := Tx.b0 hbr hnd b3
          rw [mk, ho, e, hae]; exact this
        · refine Ev.succ (fun k => R02_Text.eq_2 ..) ?_
          refine Ev.f (ng ho (by decide)) (Ev.f (ng ho (by decide)) (Ev.f (ng ho (by decide)) (Ev.f (ng ho (by decide)) (Ev.f (ng ho (by decide)) ?_))))
          refine Ev.some i0 ?_
          refine Ev.f (bneI' h3) ?_
          refine Ev.f (ng ho (by decide)) ?_
          refine Ev.need (by simp only [ByteArray.size_append, s40, s41, s32, sar, s91, s93, s58, s123, s125, sb1, sb2, s0, decide_eq_true_eq]; omega) (Ev.need (by simp only [ByteArray.size_append, s40, s41, s32, sar, s91, s93, s58, s123, s125, sb1, sb2, s0, decide_eq_true_eq]; omega) (Ev.need (by simp only [ByteArray.size_append, s40, s41, s32, sar, s91, s93, s58, s123, s125, sb1, sb2, s0, decide_eq_true_eq]; omega) ?_))
          refine Ev.some i1 (b1.bind ?_)
          exact Ev.need (by simp only [ByteArray.size_append, s40, s41, s32, sar, s91, s93, s58, s123, s125, sb1, sb2, s0, decide_eq_true_eq]; omega) (Ev.pure _)
      · refine ⟨((((⟨#[91]⟩ : ByteArray) ++ t.name) ++ ((⟨#[58]⟩ : ByteArray) ++ A)) ++ (⟨#[93, 32]⟩ : ByteArray)) ++ B, (4, oneB 91) :: (nkind t.name, t.name) :: (4, colB) :: (xs1 ++ (4, oneB 93) :: ys1), ?_, by simp only [ByteArray.size_append, s40, s41, s32, sar, s91, s93, s58, s123, s125, sb1, sb2, s0, decide_eq_true_eq]; omega, ?_⟩
        rotate_left
        · have := Tx.b1 hbr hnd h3 a3 b3
          rw [mk, ho, e]; exact this
        · refine Ev.succ (fun k => R02_Text.eq_2 ..) ?_
          refine Ev.f (ng ho (by decide)) (Ev.f (ng ho (by decide)) (Ev.f (ng ho (by decide)) (Ev.f (ng ho (by decide)) (Ev.f (ng ho (by decide)) ?_))))
          refine Ev.some i0 ?_
          refine Ev.t (bneI h3) ?_
          refine Ev.some i0 (a1.bind ?_)
          refine Ev.need (by simp only [ByteArray.size_append, s40, s41, s32, sar, s91, s93, s58, s123, s125, sb1, sb2, s0, decide_eq_true_eq]; omega) ?_
          refine Ev.f (ng ho (by decide)) ?_
          refine Ev.need (by simp only [ByteArray.size_append, s40, s41, s32, sar, s91, s93, s58, s123, s125, sb1, sb2, s0, decide_eq_true_eq]; omega) (Ev.need (by simp only [ByteArray.size_append, s40, s41, s32, sar, s91, s93, s58, s123, s125, sb1, sb2, s0, decide_eq_true_eq]; omega) (Ev.need (by simp only [ByteArray.size_append, s40, s41, s32, sar, s91, s93, s58, s123, s125, sb1, sb2, s0, decide_eq_true_eq]; omega) ?_))
          refine Ev.some i1 (b1.bind ?_)
          exact Ev.need (by simp only [ByteArray.size_append, s40, s41, s32, sar, s91, s93, s58, s123, s125, sb1, sb2, s0, decide_eq_true_eq]; omega) (Ev.pure _)
end Go.Proofs.YtpibdcjdamibdaaGreatDoor
end

/-! FrB -/
section
namespace Go.Proofs.YtpibdcjdamibdaaGreatDoor
open Go.Tr Go
set_option linter.unusedVariables false
set_option linter.unusedSimpArgs false
set_option maxRecDepth 10000

def bnd1 : List UInt8 → Prop
  | [] => True
  | c :: _ => nameC c = false
/-- Behind so many bytes stands this. -/
def At (s : ByteArray) (p : Nat) (u : List UInt8) : Prop := s.data.toList.drop p = u ∧ p + u.length = s.size
def prs (l : List Tk) : List TT := l.map (fun t => (t.kind, t.text))
/-- From here on the lexer reads these tokens. -/
def G (u : List UInt8) (ts : List TT) : Prop := ∀ (s : ByteArray) (p : Nat) (acc : List Tk), s.size ≤ 100000 → At s p u → acc.length ≤ p →
  ∃ q : Int, Ev (fun k => R01_space_L1 k s (p : Int)) q ∧ Yields (fun k => R01_Tokens_L1 k s acc q) (fun r => r.2.2 = 0 ∧ ∃ more, r.1 = acc ++ more ∧ prs more = ts ++ [(7, ByteArray.empty)])

theorem At.lt {s : ByteArray} {p : Nat} {c : UInt8} {u : List UInt8} (h : At s p (c :: u)) : p < s.size := by have := h.2; simp only [List.length_cons] at this; omega
theorem At.get {s : ByteArray} {p : Nat} {c : UInt8} {u : List UInt8} (h : At s p (c :: u)) : idx s.data.toList (p : Int) = some c := idx_get (getDrop h.1)
theorem At.next {s : ByteArray} {p : Nat} {c : UInt8} {u : List UInt8} (h : At s p (c :: u)) : At s (p + 1) u := ⟨dropDrop h.1, by have := h.2; simp only [List.length_cons] at this; omega⟩
theorem At.skip {s : ByteArray} {p : Nat} {w u : List UInt8} (h : At s p (w ++ u)) : At s (p + w.length) u := by
  obtain ⟨h1, h2⟩ := h
  refine ⟨?_, by simp only [List.length_append] at h2; omega⟩
  rw [← List.drop_drop, h1, List.drop_left]
theorem At.ext {s : ByteArray} {p : Nat} {w u : List UInt8} (h : At s p (w ++ u)) : s.extract p (p + w.length) = ⟨w.toArray⟩ := by
  refine ba_ext ?_
  rw [Lib.extract_data, h.1, Nat.add_sub_cancel_left, List.take_left]

theorem byteOf_ev (c : UInt8) : Ev (fun k => R01_byteOf k (c.toNat : Int)) (nameC c) := by
  refine Ev.succ (fun k => R01_byteOf.eq_2 ..) ?_
  have e1 : Ev (fun k => R01_letter k (c.toNat : Int)) (smallC c || capC c) := by
    refine Ev.succ (fun k => R01_letter.eq_2 ..) ?_
    have e2 : Ev (fun k => R01_small k (c.toNat : Int)) (smallC c) := Ev.succ (fun k => R01_small.eq_2 ..) (Ev.pure _)
    exact e2.bind (Ev.pure _)
  exact e1.bind (Ev.pure _)
theorem smallByte_ev (c : UInt8) : Ev (fun k => R01_small k (c.toNat : Int)) (smallC c) := Ev.succ (fun k => R01_small.eq_2 ..) (Ev.pure _)
theorem letter_ev (c : UInt8) : Ev (fun k => R01_letter k (c.toNat : Int)) (smallC c || capC c) := by
  refine Ev.succ (fun k => R01_letter.eq_2 ..) ?_
  exact (smallByte_ev c).bind (Ev.pure _)

theorem run_evL : ∀ (w u : List UInt8) (s : ByteArray) (p : Nat), s.size ≤ 100000 → (∀ c ∈ w, nameC c = true) → bnd1 u → At s p (w ++ u) → Ev (fun k => R01_run_L1 k s (p : Int)) ((p + w.length : Nat) : Int)
  | [], [], s, p, hs, hw, hb, h => by
    refine Ev.succ (fun k => R01_run_L1.eq_2 ..) ?_
    have := h.2
    simp only [List.append_nil, List.length_nil] at this
    exact Ev.f (by simp; omega) (Ev.pure _)
  | [], c :: u, s, p, hs, hw, hb, h => by
    refine Ev.succ (fun k => R01_run_L1.eq_2 ..) ?_
    rw [List.nil_append] at h
    have hlt := h.lt
    refine Ev.t (by simp; omega) (Ev.some h.get ((byteOf_ev c).bind ?_))
    rw [show nameC c = false from hb]
    exact Ev.f rfl (Ev.pure _)
  | c :: w, u, s, p, hs, hw, hb, h => by
    refine Ev.succ (fun k => R01_run_L1.eq_2 ..) ?_
    rw [List.cons_append] at h
    have hlt := h.lt
    refine Ev.t (by simp; omega) (Ev.some h.get ((byteOf_ev c).bind ?_))
    rw [hw c (List.mem_cons_self ..), wrapS (by omega)]
    refine Ev.t rfl ((run_evL w u s (p + 1) hs (fun x hx => hw x (List.mem_cons_of_mem _ hx)) hb h.next).eq ?_)
    simp only [List.length_cons]; omega
theorem run_ev1 {w u : List UInt8} {s : ByteArray} {p : Nat} (hs : s.size ≤ 100000) (hw : ∀ c ∈ w, nameC c = true) (hb : bnd1 u) (h : At s p (w ++ u)) : Ev (fun k => R01_run k s (p : Int)) ((p + w.length : Nat) : Int) :=
  Ev.succ (fun k => R01_run.eq_2 ..) (run_evL w u s p hs hw hb h)

theorem G_nil : G [] [] := by
  intro s p acc hs h ha
  have hp := h.2
  simp only [List.length_nil, Nat.add_zero] at hp
  refine ⟨(p : Int), ?_, ?_⟩
  · refine Ev.succ (fun k => R01_space_L1.eq_2 ..) ?_
    exact Ev.f (by simp; omega) (Ev.pure _)
  · refine Yields.succ (fun k => R01_Tokens_L1.eq_2 ..) ?_
    refine Yields.ite (fun h => by simp at h; omega) (fun _ => ?_)
    refine Yields.need (by simp; omega) (Yields.pure ⟨rfl, [_], rfl, rfl⟩)

theorem G_blank {u : List UInt8} {ts : List TT} (hG : G u ts) : G (32 :: u) ts := by
  intro s p acc hs h ha
  obtain ⟨q, h1, h2⟩ := hG s (p + 1) acc hs h.next (by omega)
  have hlt := h.lt
  refine ⟨q, ?_, h2⟩
  refine Ev.succ (fun k => R01_space_L1.eq_2 ..) ?_
  refine Ev.t (by simp; omega) (Ev.some h.get (Ev.t rfl ?_))
  rw [wrapS (by omega)]
  exact h1

theorem G_tok {c : UInt8} {w u : List UInt8} {ts : List TT} {kd : Int} (hc : ((c.toNat : Int) == 32) = false ∧ ((c.toNat : Int) == 9) = false ∧ ((c.toNat : Int) == 10) = false ∧ ((c.toNat : Int) == 13) = false ∧ ((c.toNat : Int) == 37) = false)
    (hn : ∀ (s : ByteArray) (p : Nat), s.size ≤ 100000 → At s p ((c :: w) ++ u) → Ev (fun k => R01_Next k s (p : Int)) (⟨kd, ⟨(c :: w).toArray⟩, (p : Int)⟩, true)) (hG : G u ts) : G ((c :: w) ++ u) ((kd, ⟨(c :: w).toArray⟩) :: ts) := by
  intro s p acc hs h ha
  have h' : At s p (c :: (w ++ u)) := h
  have hlt := h'.lt
  have hsk := h.skip
  have hlen := h.2
  simp only [List.length_append, List.length_cons] at hlen
  obtain ⟨q, h1, r, h2, h3, more, h4, h5⟩ := hG s (p + (c :: w).length) (acc ++ [⟨kd, ⟨(c :: w).toArray⟩, (p : Int)⟩]) hs hsk (by simp; omega)
  obtain ⟨c1, c2, c3, c4, c5⟩ := hc
  refine ⟨(p : Int), ?_, r, ?_, h3, _ :: more, by rw [h4]; simp; rfl, ?_⟩
  · refine Ev.succ (fun k => R01_space_L1.eq_2 ..) ?_
    refine Ev.t (by simp; omega) (Ev.some h'.get (Ev.f c1 (Ev.some h'.get (Ev.f c2 (Ev.some h'.get (Ev.f c3 (Ev.some h'.get (Ev.f c4 (Ev.some h'.get (Ev.f c5 (Ev.pure _)))))))))))
  · refine Ev.succ (fun k => R01_Tokens_L1.eq_2 ..) ?_
    refine Ev.t (by simp; omega) ((hn s p hs h).bind (Ev.f rfl ?_))
    refine Ev.need (by simp; omega) ?_
    have hsz : (((⟨(c :: w).toArray⟩ : ByteArray).size : Nat) : Int) = (((c :: w).length : Nat) : Int) := by rw [ba_size]
    simp only [hsz]
    rw [wrap_i64 (n := (p : Int) + (((c :: w).length : Nat) : Int)) (by omega) (by simp only [List.length_cons]; omega), show (p : Int) + (((c :: w).length : Nat) : Int) = ((p + (c :: w).length : Nat) : Int) by omega]
    exact (Ev.succ (fun k => R01_space.eq_2 ..) h1).bind h2
  · show (kd, _) :: prs more = _
    rw [h5]; rfl

/-- A name. -/
theorem named_ref {s0 : ByteArray} (hn : namedF s0 = true) : refNameF s0 = true := by
  rw [refNameF_eq]
  simp only [namedF, Bool.or_eq_true, Bool.and_eq_true] at hn
  rcases hn with h | h
  · rw [h]; simp
  · rw [h.1]; simp
theorem G_name {s0 : ByteArray} {u : List UInt8} {ts : List TT} (hr : refNameF s0 = true) (hb : bnd1 u) (hG : G u ts) : G (s0.data.toList ++ u) ((nkind s0, s0) :: ts) := by
  cases hl : s0.data.toList with
  | nil => unfold refNameF at hr; rw [hl] at hr; cases hr
  | cons c w =>
    have he : s0 = ⟨(c :: w).toArray⟩ := ba_ext (by rw [hl])
    have hr' := hr
    unfold refNameF at hr'
    rw [hl] at hr'
    simp only [Bool.and_eq_true, List.all_eq_true] at hr'
    obtain ⟨⟨_, hlet⟩, hall⟩ := hr'
    have hrange : (65 : Int) ≤ (c.toNat : Int) := by
      simp only [smallC, capC, Bool.or_eq_true, Bool.and_eq_true, decide_eq_true_eq] at hlet
      omega
    have hnk : nkind s0 = if smallC c = true then 1 else 2 := by unfold nkind; rw [hl]
    rw [hnk]
    conv => rhs; rw [he]
    refine G_tok ⟨by simp; omega, by simp; omega, by simp; omega, by simp; omega, by simp; omega⟩ ?_ hG
    intro s p hs h
    have h' : At s p (c :: (w ++ u)) := h
    have hlen := h.2
    simp only [List.length_append, List.length_cons] at hlen
    refine Ev.succ (fun k => R01_Next.eq_2 ..) ?_
    refine (run_ev1 hs hall hb h).bind (Ev.some h'.get ((letter_ev c).bind ?_))
    rw [hlet]
    refine Ev.t rfl (Ev.need ?_ ((smallByte_ev c).bind ?_))
    · simp only [decide_eq_true_eq, List.length_cons]; omega
    have hex : s.extract ((p : Int)).toNat (((p + (c :: w).length : Nat) : Int)).toNat = ⟨(c :: w).toArray⟩ := by
      rw [Int.toNat_natCast, Int.toNat_natCast]; exact h.ext
    rw [hex, ← he, hr]
    cases hsm : smallC c with
    | true => exact Ev.f rfl (Ev.pure _)
    | false => exact Ev.t rfl (Ev.pure _)

/-- A hole. -/
theorem G_hole {u : List UInt8} {ts : List TT} (hb : bnd1 u) (hG : G u ts) : G (95 :: u) ((3, ⟨#[95]⟩) :: ts) := by
  refine G_tok (c := 95) (w := []) (by decide) ?_ hG
  intro s p hs h
  have h' : At s p (95 :: u) := h
  have hlt := h'.lt
  refine Ev.succ (fun k => R01_Next.eq_2 ..) ?_
  refine (run_ev1 (w := [95]) hs (by decide) hb h).bind (Ev.some h'.get ((letter_ev 95).bind ?_))
  refine Ev.f rfl (Ev.t rfl ((Ev.pure _).eq ?_))
  rw [wrapS (by omega)]
  simp

/-- A sign of one byte. -/
theorem G_sign {c : UInt8} {u : List UInt8} {ts : List TT} (hc : c = 40 ∨ c = 41 ∨ c = 123 ∨ c = 125 ∨ c = 91 ∨ c = 93 ∨ c = 58) (hG : G u ts) : G (c :: u) ((4, oneB c) :: ts) := by
  refine G_tok (c := c) (w := []) (by rcases hc with h | h | h | h | h | h | h <;> subst h <;> decide) ?_ hG
  intro s p hs h
  have h' : At s p (c :: u) := h
  have hlt := h'.lt
  refine Ev.succ (fun k => R01_Next.eq_2 ..) ?_
  have hnc : nameC c = false := by rcases hc with h | h | h | h | h | h | h <;> subst h <;> decide
  refine (run_ev1 (w := []) (u := c :: u) hs (by simp) hnc h').bind (Ev.some h'.get ((letter_ev c).bind ?_))
  have hmin : (if (s.size : Int) < (p : Int) + 2 then (s.size : Int) else (p : Int) + 2) = ((min s.size (p + 2) : Nat) : Int) := by split <;> omega
  have e1 : s.extract p (p + 1) = oneB c := h.ext
  have etwo : ∃ l, (s.extract p (min s.size (p + 2))).toList = c :: l := by
    rw [ByteArray.toList_eq, Lib.extract_data, h'.1]
    obtain ⟨m, hm⟩ : ∃ m, min s.size (p + 2) - p = m + 1 := ⟨min s.size (p + 2) - p - 1, by omega⟩
    rw [hm]
    exact ⟨_, rfl⟩
  obtain ⟨l, hl⟩ := etwo
  have key : Ev (fun k => R01_sign k s (p : Int)) (⟨4, oneB c, (p : Int)⟩, true) := by
    refine Ev.succ (fun k => R01_sign.eq_2 ..) ?_
    rw [wrapS (by omega), wrap_i64 (n := (p : Int) + 2) (by omega) (by omega), hmin, Int.toNat_natCast, Int.toNat_natCast, Int.toNat_natCast, e1, hl, ByteArray.toList_eq, ByteArray.toList_eq]
    refine Ev.need (by simp only [decide_eq_true_eq]; omega) (Ev.need (by simp only [decide_eq_true_eq]; omega) ?_)
    refine Ev.f ?_ (Ev.some h'.get ?_)
    · rcases hc with h | h | h | h | h | h | h <;> subst h <;> rfl
    · rcases hc with h | h | h | h | h | h | h <;> subst h <;>
        first
        | exact Ev.t rfl (Ev.t rfl (Ev.pure _))
        | exact Ev.f rfl (Ev.t rfl (Ev.t rfl (Ev.pure _)))
        | exact Ev.f rfl (Ev.f rfl (Ev.t rfl (Ev.t rfl (Ev.pure _))))
        | exact Ev.f rfl (Ev.f rfl (Ev.f rfl (Ev.t rfl (Ev.t rfl (Ev.pure _)))))
        | exact Ev.f rfl (Ev.f rfl (Ev.f rfl (Ev.f rfl (Ev.t rfl (Ev.t rfl (Ev.pure _))))))
        | exact Ev.f rfl (Ev.f rfl (Ev.f rfl (Ev.f rfl (Ev.f rfl (Ev.t rfl (Ev.t rfl (Ev.pure _)))))))
        | exact Ev.f rfl (Ev.f rfl (Ev.f rfl (Ev.f rfl (Ev.f rfl (Ev.f rfl (Ev.t rfl (Ev.t rfl (Ev.pure _))))))))
        | exact Ev.f rfl (Ev.f rfl (Ev.f rfl (Ev.f rfl (Ev.f rfl (Ev.f rfl (Ev.f rfl (Ev.t rfl (Ev.t rfl (Ev.pure _)))))))))
        | exact Ev.f rfl (Ev.f rfl (Ev.f rfl (Ev.f rfl (Ev.f rfl (Ev.f rfl (Ev.f rfl (Ev.f rfl (Ev.t rfl (Ev.t rfl (Ev.pure _))))))))))
  rcases hc with h | h | h | h | h | h | h <;> subst h <;> exact Ev.f rfl (Ev.f rfl (Ev.f rfl (Ev.f rfl (key.bind (Ev.pure _)))))

/-- An arrow. -/
theorem G_arrow {u : List UInt8} {ts : List TT} (hG : G u ts) : G (45 :: 62 :: u) ((4, arrB) :: ts) := by
  refine G_tok (c := 45) (w := [62]) (by decide) ?_ hG
  intro s p hs h
  have h' : At s p (45 :: (62 :: u)) := h
  have hlen := h'.2
  simp only [List.length_cons] at hlen
  refine Ev.succ (fun k => R01_Next.eq_2 ..) ?_
  refine (run_ev1 (w := []) (u := 45 :: 62 :: u) hs (by simp) (by decide : nameC 45 = false) h').bind (Ev.some h'.get ((letter_ev 45).bind ?_))
  have key : Ev (fun k => R01_sign k s (p : Int)) (⟨4, arrB, (p : Int)⟩, true) := by
    refine Ev.succ (fun k => R01_sign.eq_2 ..) ?_
    have e2 : s.extract p (p + 2) = arrB := h.ext
    have hmin : (if (s.size : Int) < (p : Int) + 2 then (s.size : Int) else (p : Int) + 2) = ((p + 2 : Nat) : Int) := by split <;> omega
    rw [wrapS (by omega), wrap_i64 (n := (p : Int) + 2) (by omega) (by omega), hmin, Int.toNat_natCast, Int.toNat_natCast, Int.toNat_natCast, e2]
    refine Ev.need (by simp only [decide_eq_true_eq]; omega) (Ev.need (by simp only [decide_eq_true_eq]; omega) ?_)
    exact Ev.t (by simp) (Ev.pure _)
  exact Ev.f rfl (Ev.f rfl (Ev.f rfl (Ev.f rfl (key.bind (Ev.pure _)))))

theorem G_wr {b : Bool} {A : ByteArray} {xs1 : List TT} (h : ∀ u ts, bnd1 u → G u ts → G (A.data.toList ++ u) (xs1 ++ ts)) : ∀ u ts, bnd1 u → G u ts → G ((wr b A).data.toList ++ u) (wrT b xs1 ++ ts) := by
  intro u ts hb hG
  cases b with
  | false => exact h u ts hb hG
  | true =>
    have e : (wr true A).data.toList = 40 :: (A.data.toList ++ [41]) := by
      show ((lparB ++ A) ++ rparB).data.toList = _
      rw [app_toList, app_toList]; rfl
    have e2 : wrT true xs1 = (4, lparB) :: (xs1 ++ [(4, rparB)]) := rfl
    rw [e, e2, List.cons_append, List.cons_append, List.append_assoc, List.append_assoc]
    refine G_sign (by decide) (h _ _ (by decide : nameC 41 = false) ?_)
    exact G_sign (by decide) hG

/-- The lexer at a text. -/
theorem tx_lex {r : Rw} {T : ByteArray} {xs1 : List TT} (h : Tx r T xs1) : ∀ u ts, bnd1 u → G u ts → G (T.data.toList ++ u) (xs1 ++ ts) := by
  induction h with
  | ty => exact fun u ts hb hG => G_name (s0 := ⟨#[116, 121, 112, 101]⟩) (by decide) hb hG
  | nm h => exact fun u ts hb hG => G_name (named_ref h) hb hG
  | ho => exact fun u ts hb hG => G_hole hb hG
  | @ap a b A B xs ys ha hb' iha ihb =>
    intro u ts hb hG
    rw [app_toList, app_toList, List.append_assoc, List.append_assoc, List.append_assoc]
    refine G_wr iha _ _ (by decide : nameC 32 = false) ?_
    exact G_blank (G_wr ihb _ _ hb hG)
  | @ar a b A B xs ys ha hb' iha ihb =>
    intro u ts hb hG
    rw [app_toList, app_toList, List.append_assoc, List.append_assoc, List.append_assoc]
    refine G_wr iha _ _ (by decide : nameC 32 = false) ?_
    exact G_blank (G_arrow (G_blank (ihb _ _ hb hG)))
  | @b0 o l r s b B ys ho h hb' ihb =>
    intro u ts hb hG
    have e : (((((oneB l ++ s) ++ (⟨#[]⟩ : ByteArray)) ++ (⟨#[r, 32]⟩ : ByteArray)) ++ B).data.toList ++ u) = l :: (s.data.toList ++ (r :: (32 :: (B.data.toList ++ u)))) := by
      simp only [app_toList, List.append_assoc]; rfl
    rw [e]
    have hr : nameC r = false := by rcases ho with ⟨_, _, rfl⟩ | ⟨_, _, rfl⟩ <;> decide
    refine G_sign (by rcases ho with ⟨_, rfl, _⟩ | ⟨_, rfl, _⟩ <;> decide) (G_name (named_ref h) hr ?_)
    exact G_sign (by rcases ho with ⟨_, _, rfl⟩ | ⟨_, _, rfl⟩ <;> decide) (G_blank (ihb _ _ hb hG))
  | @b1 o l r s a b A B xs ys ho h ha3 ha hb' iha ihb =>
    intro u ts hb hG
    have e : (((((oneB l ++ s) ++ (colB ++ A)) ++ (⟨#[r, 32]⟩ : ByteArray)) ++ B).data.toList ++ u) = l :: (s.data.toList ++ (58 :: (A.data.toList ++ (r :: (32 :: (B.data.toList ++ u)))))) := by
      simp only [app_toList, List.append_assoc]; rfl
    rw [e]
    have hr : nameC r = false := by rcases ho with ⟨_, _, rfl⟩ | ⟨_, _, rfl⟩ <;> decide
    refine G_sign (by rcases ho with ⟨_, rfl, _⟩ | ⟨_, rfl, _⟩ <;> decide) (G_name (named_ref h) (by decide : nameC 58 = false) ?_)
    show G _ ((4, colB) :: ((xs ++ (4, oneB r) :: ys) ++ ts))
    rw [List.append_assoc]
    refine G_sign (by decide) (iha _ _ hr ?_)
    exact G_sign (by rcases ho with ⟨_, _, rfl⟩ | ⟨_, _, rfl⟩ <;> decide) (G_blank (ihb _ _ hb hG))
end Go.Proofs.YtpibdcjdamibdaaGreatDoor
end

/-! FrC -/
section
namespace Go.Proofs.YtpibdcjdamibdaaGreatDoor
open Go.Tr Go
set_option linter.unusedVariables false
set_option linter.unusedSimpArgs false
set_option maxRecDepth 10000

/-- From this place on stand these tokens. -/
def Rs (l : List Tk) (p : Nat) (ts : List TT) : Prop := prs (l.drop p) = ts ∧ l.length ≤ 100000
abbrev rd (l : List Tk) (p : Nat) : Rdr := ⟨l, (p : Int), false⟩

theorem Rs.head {l : List Tk} {p : Nat} {t : TT} {ts : List TT} (h : Rs l p (t :: ts)) : ∃ k, idx l (p : Int) = some k ∧ k.kind = t.1 ∧ k.text = t.2 ∧ Rs l (p + 1) ts ∧ p < l.length := by
  obtain ⟨h1, h2⟩ := h
  cases hd : l.drop p with
  | nil => rw [hd] at h1; cases h1
  | cons k r =>
    rw [hd] at h1
    simp only [prs, List.map_cons, List.cons.injEq] at h1
    have hg := getDrop hd
    refine ⟨k, idx_get hg, by rw [← h1.1], by rw [← h1.1], ⟨by rw [dropDrop hd]; exact h1.2, h2⟩, (List.getElem?_eq_some_iff.1 hg).1⟩
theorem Rs.skip {l : List Tk} {p : Nat} {xs ts : List TT} (h : Rs l p (xs ++ ts)) : Rs l (p + xs.length) ts := by
  obtain ⟨h1, h2⟩ := h
  refine ⟨?_, h2⟩
  rw [← List.drop_drop]
  unfold prs at h1 ⊢
  rw [List.map_drop, h1, List.drop_left]

theorem now_ev {l : List Tk} {p : Nat} {k : Tk} (h : idx l (p : Int) = some k) : Ev (fun n => R02_reader_now n (rd l p)) k := by
  refine Ev.succ (fun k => R02_reader_now.eq_2 ..) ?_
  exact Ev.some h (Ev.pure _)

def isS (t : TT) (s : ByteArray) : Bool := t.1 == 4 && t.2.data.toList == s.data.toList
theorem is_ev {l : List Tk} {p : Nat} {t : TT} {ts : List TT} (h : Rs l p (t :: ts)) (s : ByteArray) : Ev (fun n => R02_reader_is n s (rd l p)) (isS t s) := by
  obtain ⟨k, h1, h2, h3, _, _⟩ := h.head
  refine Ev.succ (fun k => R02_reader_is.eq_2 ..) ?_
  refine Ev.t rfl ((now_ev h1).bind ?_)
  rw [h2]
  unfold isS
  refine Ev.ite (fun hk => ?_) (fun hk => ?_)
  · refine (now_ev h1).bind ((Ev.pure _).eq ?_)
    rw [h3, hk, Bool.true_and, ByteArray.toList_eq, ByteArray.toList_eq]
  · refine (Ev.pure _).eq ?_
    rw [hk, Bool.false_and]

def atomS (t : TT) : Bool := ((t.1 == 1 || t.1 == 2) || t.1 == 3) || isS t lparB
def bindS (t : TT) : Bool := isS t (oneB 123) || isS t (oneB 91)
theorem atoms_ev {l : List Tk} {p : Nat} {t : TT} {ts : List TT} (h : Rs l p (t :: ts)) : Ev (fun n => R02_reader_atoms n (rd l p)) (atomS t) := by
  obtain ⟨k, h1, h2, h3, _, _⟩ := h.head
  refine Ev.succ (fun k => R02_reader_atoms.eq_2 ..) ?_
  refine (now_ev h1).bind (Ev.t rfl ?_)
  rw [h2]
  unfold atomS
  refine Ev.ite (fun hk => ?_) (fun hk => ?_)
  · exact (Ev.pure _).eq (by rw [hk]; rfl)
  · refine ((is_ev h lparB).bind (Ev.pure _)).eq (by rw [hk]; rfl)
theorem binds_ev {l : List Tk} {p : Nat} {t : TT} {ts : List TT} (h : Rs l p (t :: ts)) : Ev (fun n => R02_reader_binds n (rd l p)) (bindS t) := by
  refine Ev.succ (fun k => R02_reader_binds.eq_2 ..) ?_
  refine (is_ev h (oneB 123)).bind ?_
  unfold bindS
  refine Ev.ite (fun hk => ?_) (fun hk => ?_)
  · exact (Ev.pure _).eq (by rw [hk]; rfl)
  · refine ((is_ev h (oneB 91)).bind (Ev.pure _)).eq (by rw [hk]; rfl)

/-- Nothing goes on here. -/
def stop (ts : List TT) : Prop := ∃ t r, ts = t :: r ∧ atomS t = false ∧ bindS t = false ∧ isS t arrB = false ∧ isS t ⟨#[60, 45]⟩ = false

theorem skip_ev {l : List Tk} {p : Nat} {s : ByteArray} {ts : List TT} (h : Rs l p ((4, s) :: ts)) : Ev (fun n => R02_reader_skip n s (rd l p)) (rd l (p + 1)) := by
  obtain ⟨_, _, _, _, h4, hlt⟩ := h.head
  refine Ev.succ (fun k => R02_reader_skip.eq_2 ..) ?_
  refine (is_ev h s).bind ?_
  have e : isS (4, s) s = true := by unfold isS; simp
  rw [e]
  refine Ev.f rfl (Ev.t rfl ((Ev.pure _).eq ?_))
  have := h.2
  rw [wrapS (by omega)]

theorem named_not_type {s : ByteArray} (h : namedF s = true) : (s.toList == tyB.toList) = false := by
  simp only [namedF, Bool.or_eq_true, Bool.and_eq_true, Bool.not_eq_true'] at h
  rcases h with h | h
  · cases hc : (s.toList == tyB.toList) with
    | false => rfl
    | true =>
      have : s.toList = tyB.toList := by simpa using hc
      rw [ByteArray.toList_eq, ByteArray.toList_eq] at this
      have : s = tyB := ba_ext this
      rw [this] at h
      exact absurd h (by decide)
  · exact h.2
theorem nkind_12 (s : ByteArray) : nkind s = 1 ∨ nkind s = 2 := by
  unfold nkind
  split
  · exact .inl rfl
  · split
    · exact .inl rfl
    · exact .inr rfl

theorem name_evR {l : List Tk} {p : Nat} {s : ByteArray} {ts : List TT} (hn : namedF s = true) (h : Rs l p ((nkind s, s) :: ts)) : Ev (fun n => R02_reader_name n (rd l p)) (s, rd l (p + 1)) := by
  obtain ⟨k, h1, h2, h3, h4, hlt⟩ := h.head
  have hl := h.2
  refine Ev.succ (fun k => R02_reader_name.eq_2 ..) ?_
  refine Ev.f rfl ((now_ev h1).bind ?_)
  have e : Ev (fun n => R02_isName n k) true := by
    refine Ev.succ (fun k => R02_isName.eq_2 ..) ((Ev.pure _).eq ?_)
    rw [h2, h3, named_not_type hn]
    rcases nkind_12 s with e | e <;> simp [e]
  refine e.bind (Ev.f rfl ?_)
  rw [wrapS (by omega), show (((p + 1 : Nat) : Int) - 1) = (p : Int) by omega, wrap_i64 (n := (p : Int)) (by omega) (by omega)]
  refine Ev.some h1 ((Ev.pure _).eq ?_)
  rw [h3]

/-- The reader behind an app that goes on. -/
def AppL (r : Rw) (xs : List TT) : Prop := ∀ (l : List Tk) (p : Nat) (ts : List TT) (X : Rw × Bool × Rdr), Rs l p (xs ++ ts) → Ev (fun k => R02_reader_app_L1 k (rd l (p + xs.length)) r) X → Ev (fun k => R02_reader_app k (rd l p)) X
def ExprL (r : Rw) (xs : List TT) : Prop := ∀ (l : List Tk) (p : Nat) (ts : List TT), Rs l p (xs ++ ts) → stop ts → Ev (fun k => R02_reader_expr k (rd l p)) (r, rd l (p + xs.length))
def AtomL (r : Rw) (xs : List TT) : Prop := ∀ (l : List Tk) (p : Nat) (ts : List TT), Rs l p (xs ++ ts) → Ev (fun k => R02_reader_atom k (rd l p)) (r, rd l (p + xs.length))

theorem stop_rpar (ts : List TT) : stop ((4, rparB) :: ts) := ⟨_, _, rfl, by decide, by decide, by decide, by decide⟩

theorem atom_paren {r : Rw} {xs : List TT} (h : ExprL r xs) : AtomL r (wrT true xs) := by
  intro l p ts hR
  have hw : wrT true xs = (4, lparB) :: (xs ++ [(4, rparB)]) := rfl
  rw [hw] at hR ⊢
  rw [List.cons_append, List.append_assoc] at hR
  obtain ⟨k, h1, h2, h3, h4, hlt⟩ := hR.head
  have hl := hR.2
  refine Ev.succ (fun k => R02_reader_atom.eq_2 ..) ?_
  refine (atoms_ev hR).bind (Ev.f rfl ((now_ev h1).bind ?_))
  rw [h2]
  refine Ev.f rfl (Ev.t rfl ?_)
  have e1 : (rd l p).at_ = (p : Int) := rfl
  rw [e1, wrapS (by omega)]
  refine (h l (p + 1) _ h4 (stop_rpar ts)).bind ?_
  have h5 := h4.skip
  refine (skip_ev h5).bind ((Ev.pure _).eq ?_)
  simp only [List.length_cons, List.length_append, List.length_nil]
  rw [show p + 1 + xs.length + 1 = p + (xs.length + (0 + 1) + 1) by omega]

theorem app_of_atom {r : Rw} {xs : List TT} (h : AtomL r xs) : AppL r xs := by
  intro l p ts X hR hX
  refine Ev.succ (fun k => R02_reader_app.eq_2 ..) ?_
  exact (h l p ts hR).bind hX

theorem atom_not_bind {t : TT} (h : atomS t = true) : bindS t = false := by
  unfold atomS at h
  unfold bindS isS
  simp only [Bool.or_eq_true, beq_iff_eq] at h
  rcases h with ((h | h) | h) | h
  · simp [h]
  · simp [h]
  · simp [h]
  · simp only [isS, Bool.and_eq_true, beq_iff_eq] at h
    rw [h.1, h.2]; rfl

theorem expr_of_app {r : Rw} {xs : List TT} (h : AppL r xs) (hh : ∃ t xs', xs = t :: xs' ∧ atomS t = true) : ExprL r xs := by
  intro l p ts hR hs
  obtain ⟨t, xs', rfl, ht⟩ := hh
  obtain ⟨u, r', rfl, s1, s2, s3, s4⟩ := hs
  have hR' : Rs l p (t :: (xs' ++ u :: r')) := hR
  have h2 := hR.skip
  refine Ev.succ (fun k => R02_reader_expr.eq_2 ..) ?_
  refine Ev.f rfl ((binds_ev hR').bind ?_)
  rw [atom_not_bind ht]
  refine Ev.f rfl ((h l p _ (r, false, rd l (p + (t :: xs').length)) hR ?_).bind ?_)
  · refine Ev.succ (fun k => R02_reader_app_L1.eq_2 ..) ?_
    refine (atoms_ev h2).bind ?_
    rw [s1]
    refine Ev.f rfl ((binds_ev h2).bind ?_)
    rw [s2]
    exact Ev.f rfl (Ev.pure _)
  · refine Ev.t rfl ((is_ev h2 arrB).bind ?_)
    rw [s3]
    refine Ev.f rfl ?_
    refine Ev.succ (fun k => R02_reader_expr_L1.eq_2 ..) ?_
    refine Ev.t rfl ((is_ev h2 ⟨#[60, 45]⟩).bind ?_)
    rw [s4]
    exact Ev.f rfl (Ev.pure _)

theorem tx_head {r : Rw} {T : ByteArray} {xs : List TT} (h : Tx r T xs) : wideB r = false → ∃ t xs', xs = t :: xs' ∧ atomS t = true := by
  induction h with
  | ty => exact fun _ => ⟨_, _, rfl, rfl⟩
  | @nm s h =>
    refine fun _ => ⟨_, _, rfl, ?_⟩
    unfold atomS
    rcases nkind_12 s with e | e <;> simp [e]
  | ho => exact fun _ => ⟨_, _, rfl, rfl⟩
  | @ap a b A B xs ys ha hb' iha ihb =>
    intro _
    cases hw : wideB a with
    | true => exact ⟨(4, lparB), _, rfl, by decide⟩
    | false =>
      obtain ⟨t, xs', e, h⟩ := iha hw
      exact ⟨t, xs' ++ _, by rw [e]; rfl, h⟩
  | ar => exact fun h => absurd h (by simp [wideB, Rw.op])
  | @b0 o l r s b B ys ho h hb' ihb =>
    intro hw
    rcases ho with ⟨rfl, _⟩ | ⟨rfl, _⟩ <;> exact absurd hw (by simp [wideB, Rw.op])
  | @b1 o l r s a b A B xs ys ho h ha3 ha hb' iha ihb =>
    intro hw
    rcases ho with ⟨rfl, _⟩ | ⟨rfl, _⟩ <;> exact absurd hw (by simp [wideB, Rw.op])
theorem wr_head {r : Rw} {T : ByteArray} {xs : List TT} (h : Tx r T xs) (w : Bool) (hw : wideB r = true → w = true) : ∃ t xs', wrT w xs = t :: xs' ∧ atomS t = true := by
  cases w with
  | true => exact ⟨(4, lparB), _, rfl, by decide⟩
  | false =>
    have : wideB r = false := by cases hb : wideB r with
      | false => rfl
      | true => cases hw hb
    exact tx_head h this

theorem app_wr {a : Rw} {xs : List TT} (h1 : ExprL a xs) (h2 : wideB a = false → AppL a xs) : AppL a (wrT (wideB a) xs) := by
  cases hw : wideB a with
  | true => exact app_of_atom (atom_paren h1)
  | false => exact h2 hw

/-- Types, names and holes. -/
theorem atom_leaf {r : Rw} {T : ByteArray} {xs : List TT} (h : Tx r T xs) (ho : r.op = 1 ∨ r.op = 2 ∨ r.op = 3) : AtomL r xs := by
  cases h with
  | ty =>
    intro l p ts hR
    obtain ⟨k, h1, h2, h3, h4, hlt⟩ := hR.head
    have hl := hR.2
    refine Ev.succ (fun k => R02_reader_atom.eq_2 ..) ?_
    refine (atoms_ev hR).bind (Ev.f rfl ((now_ev h1).bind ?_))
    rw [h2, h3]
    refine Ev.f rfl (Ev.f rfl (Ev.t (by simp) ((Ev.pure _).eq ?_)))
    have e1 : (rd l p).at_ = (p : Int) := rfl
    rw [e1, wrapS (by omega)]; rfl
  | nm h =>
    intro l p ts hR
    obtain ⟨k, h1, h2, h3, h4, hlt⟩ := hR.head
    have hl := hR.2
    have hat : atomS (nkind T, T) = true := by
      unfold atomS
      rcases nkind_12 T with e | e <;> simp [e]
    refine Ev.succ (fun k => R02_reader_atom.eq_2 ..) ?_
    refine (atoms_ev hR).bind ?_
    rw [hat]
    refine Ev.f rfl ((now_ev h1).bind ?_)
    rw [h2, h3]
    refine Ev.f ?_ (Ev.f ?_ (Ev.f (named_not_type h) ((Ev.pure _).eq ?_)))
    · rcases nkind_12 T with e | e <;> simp [e]
    · rcases nkind_12 T with e | e <;> simp [e]
    · have e1 : (rd l p).at_ = (p : Int) := rfl
      rw [e1, wrapS (by omega)]; rfl
  | ho =>
    intro l p ts hR
    obtain ⟨k, h1, h2, h3, h4, hlt⟩ := hR.head
    have hl := hR.2
    refine Ev.succ (fun k => R02_reader_atom.eq_2 ..) ?_
    refine (atoms_ev hR).bind (Ev.f rfl ((now_ev h1).bind ?_))
    rw [h2]
    refine Ev.t rfl ((Ev.pure _).eq ?_)
    have e1 : (rd l p).at_ = (p : Int) := rfl
    rw [e1, wrapS (by omega)]; rfl
  | ap _ _ => simp [Rw.op] at ho
  | ar _ _ => simp [Rw.op] at ho
  | b0 hb _ _ => rcases hb with ⟨rfl, _⟩ | ⟨rfl, _⟩ <;> simp [Rw.op] at ho
  | b1 hb _ _ _ _ => rcases hb with ⟨rfl, _⟩ | ⟨rfl, _⟩ <;> simp [Rw.op] at ho

theorem tx_op {r : Rw} {T : ByteArray} {xs : List TT} (h : Tx r T xs) (hw : (wideB r || r.op == 4) = false) : r.op = 1 ∨ r.op = 2 ∨ r.op = 3 := by
  cases h with
  | ty => exact .inl rfl
  | nm _ => exact .inr (.inl rfl)
  | ho => exact .inr (.inr rfl)
  | ap _ _ => simp [wideB, Rw.op] at hw
  | ar _ _ => simp [wideB, Rw.op] at hw
  | b0 hb _ _ => rcases hb with ⟨rfl, _⟩ | ⟨rfl, _⟩ <;> simp [wideB, Rw.op] at hw
  | b1 hb _ _ _ _ => rcases hb with ⟨rfl, _⟩ | ⟨rfl, _⟩ <;> simp [wideB, Rw.op] at hw

theorem stop_brk {o : Int} {l r : UInt8} (h : brk o l r) (ts : List TT) : stop ((4, oneB r) :: ts) := by
  rcases h with ⟨_, _, rfl⟩ | ⟨_, _, rfl⟩ <;> exact ⟨_, _, rfl, by decide, by decide, by decide, by decide⟩
theorem brk_op {o : Int} {l r : UInt8} (h : brk o l r) (s : ByteArray) (as' : List Rw) : wideB (.mk o s as') = true := by
  rcases h with ⟨rfl, _⟩ | ⟨rfl, _⟩ <;> simp [wideB, Rw.op]

/-- The reader at the tokens of a raw expression. -/
theorem tx_read {r : Rw} {T : ByteArray} {xs : List TT} (h : Tx r T xs) : ExprL r xs ∧ (wideB r = false → AppL r xs) := by
  induction h with
  | ty =>
    have ha := app_of_atom (atom_leaf Tx.ty (.inl rfl))
    exact ⟨expr_of_app ha (tx_head Tx.ty rfl), fun _ => ha⟩
  | nm h =>
    have ha := app_of_atom (atom_leaf (Tx.nm h) (.inr (.inl rfl)))
    exact ⟨expr_of_app ha (tx_head (Tx.nm h) rfl), fun _ => ha⟩
  | ho =>
    have ha := app_of_atom (atom_leaf Tx.ho (.inr (.inr rfl)))
    exact ⟨expr_of_app ha (tx_head Tx.ho rfl), fun _ => ha⟩
  | @ap a b A B xs ys ha hb' iha ihb =>
    have hatom : AtomL b (wrT (wideB b || b.op == 4) ys) := by
      cases hw : (wideB b || b.op == 4) with
      | true => exact atom_paren ihb.1
      | false => exact atom_leaf hb' (tx_op hb' hw)
    have happ : AppL (.mk 4 ByteArray.empty [a, b]) (wrT (wideB a) xs ++ wrT (wideB b || b.op == 4) ys) := by
      intro l p ts X hR hX
      rw [List.append_assoc] at hR
      refine app_wr iha.1 iha.2 l p _ X hR ?_
      have h2 := hR.skip
      obtain ⟨t, ys', e, ht⟩ := wr_head hb' (wideB b || b.op == 4) (fun h => by rw [h]; rfl)
      refine Ev.succ (fun k => R02_reader_app_L1.eq_2 ..) ?_
      have h3 : Rs l (p + (wrT (wideB a) xs).length) (t :: (ys' ++ ts)) := by rw [e] at h2; exact h2
      refine (atoms_ev h3).bind ?_
      rw [ht]
      refine Ev.t rfl ((hatom l _ ts h2).bind ?_)
      rw [List.length_append, ← Nat.add_assoc] at hX
      exact hX
    refine ⟨expr_of_app happ ?_, fun _ => happ⟩
    obtain ⟨t, xs', e, ht⟩ := wr_head ha (wideB a) id
    exact ⟨t, xs' ++ _, by rw [e]; rfl, ht⟩
  | @ar a b A B xs ys ha hb' iha ihb =>
    refine ⟨?_, fun h => absurd h (by simp [wideB, Rw.op])⟩
    intro l p ts hR hs
    rw [List.append_assoc] at hR
    obtain ⟨t, xs', e, ht⟩ := wr_head ha (wideB a) id
    have h1 : Rs l p (t :: (xs' ++ (((4, arrB) :: ys) ++ ts))) := by rw [e] at hR; exact hR
    have h2 : Rs l (p + (wrT (wideB a) xs).length) ((4, arrB) :: (ys ++ ts)) := hR.skip
    obtain ⟨_, _, _, _, h3, hlt⟩ := h2.head
    have hl := hR.2
    refine Ev.succ (fun k => R02_reader_expr.eq_2 ..) ?_
    refine Ev.f rfl ((binds_ev h1).bind ?_)
    rw [atom_not_bind ht]
    refine Ev.f rfl ((app_wr iha.1 iha.2 l p _ (a, false, rd l (p + (wrT (wideB a) xs).length)) hR ?_).bind ?_)
    · refine Ev.succ (fun k => R02_reader_app_L1.eq_2 ..) ?_
      refine (atoms_ev h2).bind (Ev.f (by decide) ((binds_ev h2).bind (Ev.f (by decide) (Ev.pure _))))
    · refine Ev.t rfl ((is_ev h2 arrB).bind (Ev.t (by decide) ?_))
      simp only
      rw [wrapS (by omega)]
      refine (ihb.1 l _ ts h3 hs).bind ((Ev.pure _).eq ?_)
      simp only [List.length_append, List.length_cons]
      rw [show p + (wrT (wideB a) xs).length + 1 + ys.length = p + ((wrT (wideB a) xs).length + (ys.length + 1)) by omega]
  | @b0 o lb rb s b B ys ho h hb' ihb =>
    refine ⟨?_, fun hw => by rw [brk_op ho] at hw; cases hw⟩
    intro l p ts hR hs
    have hR1 : Rs l p ((4, oneB lb) :: (nkind s, s) :: (4, oneB rb) :: (ys ++ ts)) := hR
    obtain ⟨_, _, _, _, hR2, hlt⟩ := hR1.head
    obtain ⟨_, _, _, _, hR3, _⟩ := hR2.head
    obtain ⟨_, _, _, _, hR4, _⟩ := hR3.head
    have hl := hR.2
    have hbind : bindS (4, oneB lb) = true := by rcases ho with ⟨_, rfl, _⟩ | ⟨_, rfl, _⟩ <;> decide
    refine Ev.succ (fun k => R02_reader_expr.eq_2 ..) ?_
    refine Ev.f rfl ((binds_ev hR1).bind ?_)
    rw [hbind]
    refine Ev.t rfl ?_
    have key : Ev (fun k => R02_reader_binder k (rd l p)) (Rw.mk o s [.mk 3 ByteArray.empty [], b], rd l (p + 3 + ys.length)) := by
      refine Ev.succ (fun k => R02_reader_binder.eq_2 ..) ?_
      refine (is_ev hR1 (oneB 91)).bind ?_
      have e1 : (rd l p).at_ = (p : Int) := rfl
      rw [e1, wrapS (by omega)]
      have hc : isS (4, oneB rb) colB = false := by rcases ho with ⟨_, _, rfl⟩ | ⟨_, _, rfl⟩ <;> decide
      rcases ho with ⟨rfl, rfl, rfl⟩ | ⟨rfl, rfl, rfl⟩
      · refine Ev.f (by decide) ((name_evR h hR2).bind ((is_ev hR3 colB).bind (Ev.f hc ((skip_ev hR3).bind ((ihb.1 l _ ts hR4 hs).bind (Ev.pure _))))))
      · refine Ev.t (by decide) ((name_evR h hR2).bind ((is_ev hR3 colB).bind (Ev.f hc ((skip_ev hR3).bind ((ihb.1 l _ ts hR4 hs).bind (Ev.pure _))))))
    refine key.bind ((Ev.pure _).eq ?_)
    simp only [List.length_cons]
    rw [show p + 3 + ys.length = p + (ys.length + 1 + 1 + 1) by omega]
  | @b1 o lb rb s a b A B xs ys ho h ha3 ha hb' iha ihb =>
    refine ⟨?_, fun hw => by rw [brk_op ho] at hw; cases hw⟩
    intro l p ts hR hs
    have hR1 : Rs l p ((4, oneB lb) :: (nkind s, s) :: (4, colB) :: (xs ++ ((4, oneB rb) :: (ys ++ ts)))) := by
      have e : ((4, oneB lb) :: (nkind s, s) :: (4, colB) :: (xs ++ (4, oneB rb) :: ys)) ++ ts = (4, oneB lb) :: (nkind s, s) :: (4, colB) :: (xs ++ ((4, oneB rb) :: (ys ++ ts))) := by simp
      rw [e] at hR; exact hR
    obtain ⟨_, _, _, _, hR2, hlt⟩ := hR1.head
    obtain ⟨_, _, _, _, hR3, _⟩ := hR2.head
    obtain ⟨_, _, _, _, hR4, hlt4⟩ := hR3.head
    have hR5 := hR4.skip
    obtain ⟨_, _, _, _, hR6, _⟩ := hR5.head
    have hl := hR.2
    have hbind : bindS (4, oneB lb) = true := by rcases ho with ⟨_, rfl, _⟩ | ⟨_, rfl, _⟩ <;> decide
    refine Ev.succ (fun k => R02_reader_expr.eq_2 ..) ?_
    refine Ev.f rfl ((binds_ev hR1).bind ?_)
    rw [hbind]
    refine Ev.t rfl ?_
    have key : Ev (fun k => R02_reader_binder k (rd l p)) (Rw.mk o s [a, b], rd l (p + 1 + 1 + 1 + xs.length + 1 + ys.length)) := by
      refine Ev.succ (fun k => R02_reader_binder.eq_2 ..) ?_
      refine (is_ev hR1 (oneB 91)).bind ?_
      have e1 : (rd l p).at_ = (p : Int) := rfl
      rw [e1, wrapS (by omega)]
      have hst := stop_brk ho (ys ++ ts)
      have hw2 : IntKind.i64.wrap ((p + 1 + 1 : Nat) + 1 : Int) = ((p + 1 + 1 + 1 : Nat) : Int) := wrapS (by omega)
      rcases ho with ⟨rfl, rfl, rfl⟩ | ⟨rfl, rfl, rfl⟩
      · refine Ev.f (by decide) ((name_evR h hR2).bind ((is_ev hR3 colB).bind (Ev.t (by decide) ?_)))
        simp only
        rw [hw2]
        exact (iha.1 l _ _ hR4 hst).bind ((skip_ev hR5).bind ((ihb.1 l _ ts hR6 hs).bind (Ev.pure _)))
      · refine Ev.t (by decide) ((name_evR h hR2).bind ((is_ev hR3 colB).bind (Ev.t (by decide) ?_)))
        simp only
        rw [hw2]
        exact (iha.1 l _ _ hR4 hst).bind ((skip_ev hR5).bind ((ihb.1 l _ ts hR6 hs).bind (Ev.pure _)))
    refine key.bind ((Ev.pure _).eq ?_)
    simp only [List.length_cons, List.length_append]
    rw [show p + 1 + 1 + 1 + xs.length + 1 + ys.length = p + (xs.length + (ys.length + 1) + 1 + 1 + 1) by omega]
end Go.Proofs.YtpibdcjdamibdaaGreatDoor
end

/-! FrD -/
section
namespace Go.Proofs.YtpibdcjdamibdaaGreatDoor
open Go.Tr Go
set_option linter.unusedVariables false
set_option linter.unusedSimpArgs false
set_option maxRecDepth 10000

theorem named_pos {s : ByteArray} (h : namedF s = true) : 1 ≤ s.size := by
  have h1 := named_ref h
  unfold refNameF at h1
  have hsz : s.size = s.data.toList.length := Array.length_toList.symm
  cases hl : s.data.toList with
  | nil => rw [hl] at h1; cases h1
  | cons c l => rw [hsz, hl]; simp

theorem wrT_len (b : Bool) (A : ByteArray) (l : List TT) (h : l.length ≤ A.size) : (wrT b l).length ≤ (wr b A).size := by
  cases b with
  | false => exact h
  | true =>
    show (((4, lparB) : TT) :: (l ++ [(4, rparB)])).length ≤ ((lparB ++ A) ++ rparB).size
    have h1 : lparB.size = 1 := rfl
    have h2 : rparB.size = 1 := rfl
    simp only [List.length_cons, List.length_append, List.length_nil, ByteArray.size_append, h1, h2]
    omega

theorem tx_len {r : Rw} {T : ByteArray} {xs : List TT} (h : Tx r T xs) : xs.length ≤ T.size := by
  have s32 : (⟨#[32]⟩ : ByteArray).size = 1 := rfl
  have sar : (⟨#[32, 45, 62, 32]⟩ : ByteArray).size = 4 := rfl
  have s58 : colB.size = 1 := rfl
  have s0 : (⟨#[]⟩ : ByteArray).size = 0 := rfl
  have s1 : ∀ c, (oneB c).size = 1 := fun _ => rfl
  have s2 : ∀ c, (⟨#[c, 32]⟩ : ByteArray).size = 2 := fun _ => rfl
  induction h with
  | ty => decide
  | nm h => have := named_pos h; simpa using this
  | ho => decide
  | @ap a b A B xs ys ha hb' iha ihb =>
    have h1 := wrT_len (wideB a) A xs iha
    have h2 := wrT_len (wideB b || b.op == 4) B ys ihb
    simp only [List.length_append, ByteArray.size_append, s32]
    omega
  | @ar a b A B xs ys ha hb' iha ihb =>
    have h1 := wrT_len (wideB a) A xs iha
    simp only [List.length_append, List.length_cons, ByteArray.size_append, sar]
    omega
  | @b0 o l r s b B ys ho h hb' ihb =>
    have := named_pos h
    simp only [List.length_append, List.length_cons, ByteArray.size_append, s0, s1, s2]
    omega
  | @b1 o l r s a b A B xs ys ho h ha3 ha hb' iha ihb =>
    have := named_pos h
    simp only [List.length_append, List.length_cons, ByteArray.size_append, s0, s1, s2, s58]
    omega

theorem stop_end : stop [(7, ByteArray.empty)] := ⟨_, _, rfl, by decide, by decide, by decide, by decide⟩

/-- The tokens of a text. -/
theorem tx_toks {r : Rw} {T : ByteArray} {xs : List TT} (h : Tx r T xs) (hs : T.size ≤ 90000) : ∃ q l p0, Ev (fun k => R01_space_L1 k T 0) q ∧ Ev (fun k => R01_Tokens_L1 k T [] q) (l, p0, 0) ∧ Rs l 0 (xs ++ [(7, ByteArray.empty)]) := by
  have hG := tx_lex h [] [] trivial G_nil
  rw [List.append_nil, List.append_nil] at hG
  obtain ⟨q, h1, r1, h2, h3, more, h4, h5⟩ := hG T 0 [] (by omega) ⟨by simp, by simp⟩ (by simp)
  obtain ⟨l, p0, e⟩ := r1
  simp only at h3 h4
  subst h3
  rw [List.nil_append] at h4
  subst h4
  refine ⟨q, l, p0, h1, h2, ?_, ?_⟩
  · rw [List.drop_zero]; exact h5
  · have := tx_len h
    have h6 : (prs l).length = xs.length + 1 := by rw [h5]; simp
    unfold prs at h6
    rw [List.length_map] at h6
    omega

theorem expr_ev {r : Rw} {T : ByteArray} {xs : List TT} (h : Tx r T xs) (hok : rawOK r = true) (hs : T.size ≤ 6000) : Ev (fun k => R02_Expr k T) (r, 0, 0) := by
  obtain ⟨q, l, p0, h1, h2, h3⟩ := tx_toks h (by omega)
  have h4 := (tx_read h).1 l 0 _ h3 stop_end
  obtain ⟨k, e1, e2, e3, _, _⟩ := h3.skip.head
  refine Ev.succ (fun k => R02_Expr.eq_2 ..) ?_
  have ht : Ev (fun k => R01_Tokens k T) (l, p0, 0) := by
    refine Ev.succ (fun k => R01_Tokens.eq_2 ..) ?_
    exact Ev.f (by simp; omega) ((Ev.succ (fun k => R01_space.eq_2 ..) h1).bind h2)
  refine ht.bind (Ev.f rfl (h4.bind (Ev.f rfl ((now_ev e1).bind ?_))))
  rw [e2]
  refine Ev.f rfl ?_
  simp only [hok]
  exact Ev.f rfl (Ev.pure _)
theorem expr_long {T : ByteArray} (hs : T.size > 6000) : Ev (fun k => R02_Expr k T) (noRw, 0, 5) := by
  refine Ev.succ (fun k => R02_Expr.eq_2 ..) ?_
  have ht : Ev (fun k => R01_Tokens k T) ([], 0, 5) := by
    refine Ev.succ (fun k => R01_Tokens.eq_2 ..) ?_
    exact Ev.t (by simp; omega) (Ev.pure _)
  exact ht.bind (Ev.t rfl (Ev.pure _))

end Go.Proofs.YtpibdcjdamibdaaGreatDoor
end

/-! FrE -/
section
namespace Go.Proofs.YtpibdcjdamibdaaGreatDoor
open Go.Tr Go
set_option linter.unusedVariables false
set_option linter.unusedSimpArgs false
set_option maxRecDepth 10000

/-- A name is free in a raw expression. -/
inductive FrI (x : ByteArray) : Rw → Prop
  | nm {as' : List Rw} : FrI x (.mk 2 x as')
  | dom {o : Int} {s : ByteArray} {a b : Rw} (ho : o = 5 ∨ o = 7) (h : FrI x a) : FrI x (.mk o s [a, b])
  | body {o : Int} {s : ByteArray} {a b : Rw} (ho : o = 5 ∨ o = 7) (hx : x ≠ s) (h : FrI x b) : FrI x (.mk o s [a, b])
  | sub {o : Int} {s : ByteArray} {as' : List Rw} {u : Rw} (h2 : o ≠ 2) (h5 : o ≠ 5) (h7 : o ≠ 7) (hu : u ∈ as') (h : FrI x u) : FrI x (.mk o s as')

theorem frI_ap {x : ByteArray} {a b : Rw} {o : Int} {s : ByteArray} (ho : o = 4 ∨ o = 6) (h : FrI x (.mk o s [a, b])) : FrI x a ∨ FrI x b := by
  cases h with
  | nm => omega
  | dom h1 _ => omega
  | body h1 _ _ => omega
  | sub _ _ _ hu h =>
    simp only [List.mem_cons, List.not_mem_nil, or_false] at hu
    rcases hu with rfl | rfl
    · exact .inl h
    · exact .inr h
theorem frI_bind {x : ByteArray} {a b : Rw} {o : Int} {s : ByteArray} (ho : o = 5 ∨ o = 7) (h : FrI x (.mk o s [a, b])) : FrI x a ∨ (x ≠ s ∧ FrI x b) := by
  cases h with
  | nm => omega
  | dom _ h => exact .inl h
  | body _ hx h => exact .inr ⟨hx, h⟩
  | sub _ _ _ hu h => omega
theorem frI_leaf {x : ByteArray} {o : Int} {s : ByteArray} (ho : o ≠ 2) (h : FrI x (.mk o s [])) : False := by
  cases h with
  | nm => omega
  | sub _ _ _ hu h => cases hu
theorem frI_nm {x : ByteArray} {s : ByteArray} {as' : List Rw} (h : FrI x (.mk 2 s as')) : x = s := by
  cases h with
  | nm => rfl
  | dom h1 _ => omega
  | body h1 _ _ => omega
  | sub h _ _ _ _ => exact absurd rfl h

mutual
theorem occ_moved (hd : Int) : ∀ (t : Tm) (k : Int), okAll t = true → 0 ≤ k → lowF t k k = false → occ hd (movedF t (-1) k) k = occ hd t (k + 1)
  | .mk o h n us, k, hok, hk, hl => by
    have hn := okAll_n hok
    simp only [Tm.n] at hn
    simp only [okAll, Bool.and_eq_true] at hok
    simp only [lowF, Bool.or_eq_false_iff] at hl
    simp only [movedF, occ]
    rw [occ_movedL hd o us 0 k hok.2 hk hl.2]
    congr 1
    unfold occN
    by_cases h1 : o = 4 ∧ h = hd
    · rw [if_pos h1, if_pos h1]
      obtain ⟨rfl, rfl⟩ := h1
      by_cases h2 : h = 1
      · subst h2
        have h4 : n ≠ k := by
          intro e
          have := hl.1
          subst e
          simp at this
        by_cases h3 : n ≥ k
        · have e1 : (if ((4 : Int) = 4 ∧ (1 : Int) = 1) ∧ n ≥ k then IntKind.i64.wrap (n + -1) else n) = n - 1 := by
            rw [if_pos ⟨⟨rfl, rfl⟩, h3⟩, wrap_i64 (by omega) (by omega)]; omega
          rw [e1]; simp only [ne_eq, not_true_eq_false, if_false]; rw [if_pos (by omega), if_pos (by omega)]
          congr 1; omega
        · have e1 : (if ((4 : Int) = 4 ∧ (1 : Int) = 1) ∧ n ≥ k then IntKind.i64.wrap (n + -1) else n) = n := if_neg (fun h => h3 h.2)
          rw [e1]; simp only [ne_eq, not_true_eq_false, if_false]; rw [if_neg (by omega), if_neg (by omega)]
      · rw [if_pos h2, if_pos h2, if_neg (fun h => h2 h.1.2)]
    · rw [if_neg h1, if_neg h1]
theorem occ_movedL (hd : Int) : ∀ (o : Int) (us : List Tm) (i : Nat) (k : Int), okAllL us = true → 0 ≤ k → lowL o us i k k = false → occL hd o (movedL o us i (-1) k) i k = occL hd o us i (k + 1)
  | o, [], i, k, _, _, _ => rfl
  | o, u :: us, i, k, hok, hk, hl => by
    simp only [okAllL, Bool.and_eq_true] at hok
    simp only [lowL, Bool.or_eq_false_iff] at hl
    have hu := under_le o i
    simp only [movedL, occL]
    rw [occ_moved hd u (k + under o i) hok.1 (by omega) hl.1, occ_movedL hd o us (i + 1) k hok.2 hk hl.2, show k + under o i + 1 = k + 1 + under o i by omega]
 end

mutual
theorem occ_level {hd : Int} (hh : hd ≠ 1) : ∀ (t : Tm) (k j : Int), occ hd t k = occ hd t j
  | .mk o h n us, k, j => by
    simp only [occ]
    rw [occ_levelL hh o us 0 k j]
    congr 1
    unfold occN
    rw [if_pos hh, if_pos hh]
theorem occ_levelL {hd : Int} (hh : hd ≠ 1) : ∀ (o : Int) (us : List Tm) (i : Nat) (k j : Int), occL hd o us i k = occL hd o us i j
  | o, [], i, k, j => rfl
  | o, u :: us, i, k, j => by
    simp only [occL]
    rw [occ_level hh u (k + under o i) (j + under o i), occ_levelL hh o us (i + 1) k j]
 end
mutual
theorem occ_up : ∀ (t : Tm) (k i : Int), i ∈ occ 1 t k → i ≠ 0 → i - 1 ∈ occ 1 t (k + 1)
  | .mk o h n us, k, i, hi, h0 => by
    simp only [occ, List.mem_append] at hi ⊢
    rcases hi with hi | hi
    · left
      unfold occN at hi ⊢
      by_cases h1 : o = 4 ∧ h = 1
      · rw [if_pos h1, if_neg (by omega)] at hi ⊢
        by_cases h2 : n ≥ k
        · rw [if_pos h2] at hi
          simp only [List.mem_singleton] at hi
          rw [if_pos (by omega)]
          simp only [List.mem_singleton]; omega
        · rw [if_neg h2] at hi; cases hi
      · rw [if_neg h1] at hi; cases hi
    · exact .inr (occ_upL o us 0 k i hi h0)
theorem occ_upL : ∀ (o : Int) (us : List Tm) (j : Nat) (k i : Int), i ∈ occL 1 o us j k → i ≠ 0 → i - 1 ∈ occL 1 o us j (k + 1)
  | o, [], j, k, i, hi, h0 => by cases hi
  | o, u :: us, j, k, i, hi, h0 => by
    simp only [occL, List.mem_append] at hi ⊢
    rcases hi with hi | hi
    · left
      have := occ_up u (k + under o j) i hi h0
      rw [show k + under o j + 1 = k + 1 + under o j by omega] at this
      exact this
    · exact .inr (occ_upL o us (j + 1) k i hi h0)
 end
theorem occL_mem {hd o : Int} {k x : Int} : ∀ {us : List Tm} {i j : Nat} {u : Tm}, us[j]? = some u → x ∈ occ hd u (k + under o ((i + j : Nat) : Int)) → x ∈ occL hd o us i k
  | [], i, j, u, hu, _ => by simp at hu
  | v :: us, i, 0, u, hu, hx => by
    simp at hu; subst hu
    simp only [occL, List.mem_append]
    exact .inl hx
  | v :: us, i, j + 1, u, hu, hx => by
    simp only [occL, List.mem_append]
    refine .inr (occL_mem (i := i + 1) (j := j) (by simpa using hu) ?_)
    rw [show i + 1 + j = i + (j + 1) by omega]; exact hx
theorem occ_arg {hd : Int} {t : Tm} {k x : Int} {j : Nat} {u : Tm} (hu : t.args[j]? = some u) (hx : x ∈ occ hd u (k + under t.op (j : Int))) : x ∈ occ hd t k := by
  cases t with
  | mk o h n us =>
    simp only [occ, List.mem_append]
    exact .inr (occL_mem (i := 0) hu (by rw [Nat.zero_add]; exact hx))

section
variable {sig : List Dc} {metas : List Mt} {names : List ByteArray} (K : Known sig metas names)
/-- A variable's name. -/
def VarN (sig : List Dc) (metas : List Mt) (names : List ByteArray) (l : Int) (x : ByteArray) : Prop := Ev (fun k => R07_Printer_variable k ⟨sig, metas, names⟩ l) x
def metaN (m : Int) (s : ByteArray) : ByteArray := if s = ByteArray.empty then (⟨#[77]⟩ : ByteArray) ++ itoaF m else s
/-- A name of a term, of whose binders so many are not looked at. -/
def Sc (sig : List Dc) (metas : List Mt) (names : List ByteArray) (x : ByteArray) (t : Tm) (n k : Int) : Prop :=
  (∃ i ∈ occ 1 t k, VarN sig metas names (n - 1 - i) x) ∨ (∃ c ∈ occ 2 t k, ∃ d, idx sig c = some d ∧ x = d.name) ∨ (∃ m ∈ occ 3 t k, ∃ q, idx metas m = some q ∧ x = metaN m q.name)

theorem Sc.arg {x : ByteArray} {t u : Tm} {n : Int} {j : Nat} (hu : t.args[j]? = some u) (h : Sc sig metas names x u n (under t.op (j : Int))) : Sc sig metas names x t n 0 := by
  rcases h with ⟨i, hi, h⟩ | ⟨i, hi, h⟩ | ⟨i, hi, h⟩
  · exact .inl ⟨i, occ_arg hu (by rw [Int.zero_add]; exact hi), h⟩
  · exact .inr (.inl ⟨i, occ_arg hu (by rw [Int.zero_add]; exact hi), h⟩)
  · exact .inr (.inr ⟨i, occ_arg hu (by rw [Int.zero_add]; exact hi), h⟩)
theorem Sc.out {x s : ByteArray} {t : Tm} {n : Int} (hv : VarN sig metas names n s) (hx : x ≠ s) (h : Sc sig metas names x t (n + 1) 0) : Sc sig metas names x t n 1 := by
  rcases h with ⟨i, hi, h⟩ | ⟨i, hi, h⟩ | ⟨i, hi, h⟩
  · by_cases h0 : i = 0
    · subst h0
      rw [show n + 1 - 1 - 0 = n by omega] at h
      exact absurd (Ev.unique h hv) hx
    · refine .inl ⟨i - 1, occ_up t 0 i hi h0, ?_⟩
      rw [show n - 1 - (i - 1) = n + 1 - 1 - i by omega]; exact h
  · exact .inr (.inl ⟨i, by rw [occ_level (by decide) t 1 0]; exact hi, h⟩)
  · exact .inr (.inr ⟨i, by rw [occ_level (by decide) t 1 0]; exact hi, h⟩)
theorem Sc.low {x : ByteArray} {t : Tm} {n : Int} (hok : okAll t = true) (hl : lowF t 0 0 = false) (h : Sc sig metas names x (movedF t (-1) 0) n 0) : Sc sig metas names x t n 1 := by
  have e := fun hd => occ_moved hd t 0 hok (by omega) hl
  unfold Sc at h
  rw [e 1, e 2, e 3] at h
  exact h

include K
theorem head_nm {t : Tm} (hok : okAll t = true) (hop : t.op = 4) (v : Int) (h0 : 0 ≤ v) (h1 : v ≤ 90) (hs : nodeS sig.length metas.length t.op t.hd t.n v = true) :
    ∃ s, Ev (fun k => R07_Printer_head k ⟨sig, metas, names⟩ v t) s ∧ Sc sig metas names s t v 0 := by
  have hn := okAll_n hok
  have hm80 := K.few
  have hhd : t.hd = 1 ∨ t.hd = 2 ∨ t.hd = 3 := by
    cases t with
    | mk o h n us =>
      simp only [Tm.op, Tm.hd] at hop ⊢
      simp only [okAll, Bool.and_eq_true] at hok
      have h1 := hok.1
      subst hop
      simp [okNode] at h1
      omega
  have hocc : ∀ hd, t.hd = hd → (hd ≠ 1 → t.n ∈ occ hd t 0) ∧ (hd = 1 → t.n ∈ occ hd t 0) := by
    intro hd hh
    have e : occ hd t 0 = occN hd t.op t.hd t.n 0 ++ occL hd t.op t.args 0 0 := by cases t; rfl
    rw [e, hh, hop]
    unfold occN
    refine ⟨fun h => ?_, fun h => ?_⟩
    · simp [h]
    · subst h; simp; left; omega
  rcases hhd with hh | hh | hh
  · have hlt : t.n < v := by simpa [nodeS, hop, hh] using hs
    have hw : IntKind.i64.wrap (IntKind.i64.wrap (v - 1) - t.n) = v - 1 - t.n := by rw [wrap_i64 (n := v - 1) (by omega) (by omega), wrap_i64 (by omega) (by omega)]
    obtain ⟨r, r1, r2⟩ := name_ev sig metas names K.ok K.long K.first (v - 1 - t.n) (by omega) (by omega)
    refine ⟨r, ?_, .inl ⟨t.n, (hocc 1 hh).2 rfl, r2⟩⟩
    refine Ev.succ (fun k => R07_Printer_head.eq_2 ..) ?_
    refine Ev.t (beqI hh) ?_
    rw [hw]
    exact r2.bind (Ev.pure _)
  · have hlt : t.n < (sig.length : Int) := by simpa [nodeS, hop, hh] using hs
    obtain ⟨d, hd, _⟩ := idx_pre (sig := sig) (n := t.n) hn.1 hlt
    refine ⟨d.name, ?_, .inr (.inl ⟨t.n, (hocc 2 hh).1 (by decide), d, hd, rfl⟩)⟩
    refine Ev.succ (fun k => R07_Printer_head.eq_2 ..) ?_
    refine Ev.f (beqI' (by omega)) (Ev.t (beqI hh) (Ev.some hd (Ev.pure _)))
  · have hlt : t.n < (metas.length : Int) := by simpa [nodeS, hop, hh] using hs
    obtain ⟨i, hi⟩ : ∃ i : Nat, t.n = i := ⟨t.n.toNat, by omega⟩
    obtain ⟨m, hm, _, _⟩ := idxOf (l := metas) (i := i) (by omega)
    rw [← hi] at hm
    have s77 : (⟨#[77]⟩ : ByteArray).size = 1 := rfl
    have hz := itoa_size t.n (by omega) (by omega)
    refine ⟨metaN t.n m.name, ?_, .inr (.inr ⟨t.n, (hocc 3 hh).1 (by decide), m, hm, rfl⟩)⟩
    refine Ev.succ (fun k => R07_Printer_head.eq_2 ..) ?_
    refine Ev.f (beqI' (by omega)) (Ev.f (beqI' (by omega)) (Ev.some hm ?_))
    cases he : (m.name.toList == (⟨#[]⟩ : ByteArray).toList) with
    | false =>
      refine Ev.t rfl (Ev.some hm ((Ev.pure _).eq ?_))
      rw [metaN, if_neg]
      intro e
      rw [e] at he
      exact absurd he (by simp)
    | true =>
      have he' : m.name = ByteArray.empty := by
        have : m.name.toList = (⟨#[]⟩ : ByteArray).toList := by simpa using he
        rw [ByteArray.toList_eq, ByteArray.toList_eq] at this
        exact ba_ext this
      refine Ev.f rfl ?_
      refine Ev.need (by simp only [decide_eq_true_eq]; omega) (Ev.need (by simp only [s77, decide_eq_true_eq]; omega) ((Ev.pure _).eq ?_))
      rw [metaN, if_pos he']

/-- What is free in the raw expression of a term, is in its scope. -/
theorem raw_fr : ∀ (c : Nat) (t : Tm) (n : Int), t.count ≤ c → isProper t = true → 0 ≤ n → n + t.height ≤ 90 → nodesS sig.length metas.length t n = true → fullB sig t = true →
    ∃ r, Ev (fun k => R07_Printer_raw k ⟨sig, metas, names⟩ n t) r ∧ ∀ x, FrI x r → Sc sig metas names x t n 0
  | 0, t, n, hc, _, _, _, _, _ => by have := Tm.count_pos t; omega
  | c + 1, t, n, hc, hp, hn0, hn1, hs, hf => by
    obtain ⟨hok, hh, hcc⟩ := proper_small hp
    have hhe := Tm.height_eq t
    have hcl := Tm.length_le_countL t.args
    have hce := Tm.count_eq t
    have hw : IntKind.i64.wrap (n + 1) = n + 1 := wrap_i64 (by omega) (by omega)
    rw [nodesS_eq, Bool.and_eq_true] at hs
    rw [fullB_eq, Bool.and_eq_true] at hf
    have sub : ∀ (j : Nat) (u : Tm), t.args[j]? = some u → ∀ x : Int, x = n + under t.op (j : Int) → ∃ r, Ev (fun k => R07_Printer_raw k ⟨sig, metas, names⟩ x u) r ∧ ∀ y, FrI y r → Sc sig metas names y u x 0 := by
      intro j u hu x hx
      subst hx
      have hum := List.mem_of_getElem? hu
      have h1 := arg_count hum
      have h2 := Tm.height_le hum
      have h3 := under_le t.op j
      have h4 := nodesSL_get hs.2 hu
      rw [Nat.zero_add] at h4
      exact raw_fr c u _ (by omega) (proper_arg hp hum) (by omega) (by omega) h4 (fullL_get hf.2 hu)
    rcases okAll_op hok with ho | ho | ho | ho
    · refine ⟨Rw.mk 1 ByteArray.empty [], ?_, fun x h => (frI_leaf (by decide) h).elim⟩
      refine Ev.succ (fun k => R07_Printer_raw.eq_2 ..) ?_
      exact Ev.t (beqI ho) (Ev.pure _)
    · obtain ⟨a, b, e, _⟩ := okAll_two hok ho
      have i0 : idx t.args 0 = some a := by rw [e]; rfl
      have i1 : idx t.args 1 = some b := by rw [e]; rfl
      have hbm : b ∈ t.args := by rw [e]; simp
      have hbp := proper_arg hp hbm
      have g0 : t.args[0]? = some a := by rw [e]; rfl
      have g1 : t.args[1]? = some b := by rw [e]; rfl
      have u0 : under t.op ((0 : Nat) : Int) = 0 := by rw [under]; simp [ho]
      have u1 : under t.op ((1 : Nat) : Int) = 1 := by rw [under]; simp [ho]
      obtain ⟨A, a2, a3⟩ := sub 0 a g0 n (by rw [u0]; omega)
      obtain ⟨nm, n1, n2⟩ := name_ev sig metas names K.ok K.long K.first n hn0 (by omega)
      cases hl : lowF b 0 0 with
      | true =>
        obtain ⟨B, b2, b3⟩ := sub 1 b g1 (n + 1) (by rw [u1])
        refine ⟨Rw.mk 5 nm [A, B], ?_, fun x h => ?_⟩
        · refine Ev.succ (fun k => R07_Printer_raw.eq_2 ..) ?_
          refine Ev.f (beqI' (by omega)) (Ev.t (beqI ho) ?_)
          refine Ev.some i0 (a2.bind (Ev.some i1 ((refOccurs_ev hbp).bind ?_)))
          rw [hl]
          refine Ev.f rfl (Ev.some i1 (n2.bind ?_))
          rw [hw]
          exact b2.bind (Ev.pure _)
        · rcases frI_bind (.inl rfl) h with h | ⟨hx, h⟩
          · exact Sc.arg g0 (by rw [u0]; exact a3 x h)
          · exact Sc.arg g1 (by rw [u1]; exact Sc.out n2 hx (b3 x h))
      | false =>
        have hbh := Tm.height_le hbm
        have hbc := arg_count hbm
        obtain ⟨hbok, hbh2, hbc2⟩ := proper_small hbp
        have hsb := nodesSL_get hs.2 (j := 1) (u := b) g1
        rw [Nat.zero_add, u1] at hsb
        obtain ⟨B, b2, b3⟩ := raw_fr c (movedF b (-1) 0) n (by rw [moved_count]; omega) (moved_proper hbp hl) hn0 (by rw [moved_height]; omega) (nodesS_moved _ _ b n 0 hbok (by omega) (by omega) hl hsb) (by rw [full_moved]; exact fullL_get hf.2 (j := 1) g1)
        refine ⟨Rw.mk 6 ByteArray.empty [A, B], ?_, fun x h => ?_⟩
        · refine Ev.succ (fun k => R07_Printer_raw.eq_2 ..) ?_
          refine Ev.f (beqI' (by omega)) (Ev.t (beqI ho) ?_)
          refine Ev.some i0 (a2.bind (Ev.some i1 ((refOccurs_ev hbp).bind ?_)))
          rw [hl]
          refine Ev.t rfl (Ev.some i1 ?_)
          have hm : Ev (fun k => R07_lowered k b) (movedF b (-1) 0) := by
            refine Ev.succ (fun k => R07_lowered.eq_2 ..) ?_
            rw [shift_low hbp hl]
            exact Ev.pure _
          exact hm.bind (b2.bind (Ev.pure _))
        · rcases frI_ap (.inr rfl) h with h | h
          · exact Sc.arg g0 (by rw [u0]; exact a3 x h)
          · exact Sc.arg g1 (by rw [u1]; exact Sc.low hbok hl (b3 x h))
    · obtain ⟨a, e, _⟩ := okAll_one hok ho
      have i0 : idx t.args 0 = some a := by rw [e]; rfl
      have g0 : t.args[0]? = some a := by rw [e]; rfl
      have u0 : under t.op ((0 : Nat) : Int) = 1 := by rw [under]; simp [ho]
      obtain ⟨A, a2, a3⟩ := sub 0 a g0 (n + 1) (by rw [u0])
      obtain ⟨nm, n1, n2⟩ := name_ev sig metas names K.ok K.long K.first n hn0 (by omega)
      refine ⟨Rw.mk 7 nm [Rw.mk 3 ByteArray.empty [], A], ?_, fun x h => ?_⟩
      · refine Ev.succ (fun k => R07_Printer_raw.eq_2 ..) ?_
        refine Ev.f (beqI' (by omega)) (Ev.f (beqI' (by omega)) (Ev.t (beqI ho) (Ev.some i0 (n2.bind ?_))))
        rw [hw]
        exact a2.bind (Ev.pure _)
      · rcases frI_bind (.inr rfl) h with h | ⟨hx, h⟩
        · exact (frI_leaf (by decide) h).elim
        · exact Sc.arg g0 (by rw [u0]; exact Sc.out n2 hx (a3 x h))
    · obtain ⟨hd, h4, h5⟩ := head_nm K hok ho n hn0 (by omega) hs.1
      have hpos := okAll_n hok
      obtain ⟨q, hql, hqr⟩ : ∃ q : Nat, q ≤ t.args.length ∧ if t.hd = 2 then ∃ d, idx sig t.n = some d ∧ d.implicit = (q : Int) else q = 0 := by
        by_cases hh2 : t.hd = 2
        · have hlt : t.n < (sig.length : Int) := by simpa [nodeS, ho, hh2] using hs.1
          obtain ⟨d, hd', hdm⟩ := idx_pre (sig := sig) (n := t.n) hpos.1 hlt
          have hi : impAt sig t.n = d.implicit := by rw [impAt, hd']
          have hfull := hf.1
          simp only [nodeF, ho, hh2, hi] at hfull
          simp at hfull
          have := (sigOK_imp K.ok d hdm).1
          refine ⟨d.implicit.toNat, by omega, ?_⟩
          rw [if_pos hh2]
          exact ⟨d, hd', by omega⟩
        · exact ⟨0, by omega, by rw [if_neg hh2]⟩
      have u0 : ∀ j : Nat, under t.op (j : Int) = 0 := by intro j; rw [under]; simp [ho]
      have fold : ∀ (ts : List Tm) (j : Nat) (acc : Rw), t.args.drop (q + j) = ts → q + j + ts.length = t.args.length → (∀ x, FrI x acc → Sc sig metas names x t n 0) → ∃ r, Ev (fun k => R07_Printer_raw_L1 k t ⟨sig, metas, names⟩ n acc ((q + j : Nat) : Int)) r ∧ ∀ x, FrI x r → Sc sig metas names x t n 0 := by
        intro ts
        induction ts with
        | nil =>
          intro j acc hd' hi hacc
          simp only [List.length_nil, Nat.add_zero] at hi
          refine ⟨acc, ?_, hacc⟩
          refine Ev.succ (fun k => R07_Printer_raw_L1.eq_2 ..) ?_
          exact Ev.f (by simp [Tm.encL_length]; omega) (Ev.pure _)
        | cons u ts ihl =>
          intro j acc hd' hi hacc
          simp only [List.length_cons] at hi
          have hu := getDrop hd'
          obtain ⟨U, u2, u3⟩ := sub (q + j) u hu n (by rw [u0]; omega)
          obtain ⟨r, r2, r3⟩ := ihl (j + 1) (Rw.mk 4 ByteArray.empty [acc, U]) (by rw [← Nat.add_assoc]; exact dropDrop hd') (by omega) (by
            intro x h
            rcases frI_ap (.inl rfl) h with h | h
            · exact hacc x h
            · exact Sc.arg hu (by rw [u0]; exact u3 x h))
          refine ⟨r, ?_, r3⟩
          refine Ev.succ (fun k => R07_Printer_raw_L1.eq_2 ..) ?_
          refine Ev.t (by simp [Tm.encL_length]; omega) ?_
          refine Ev.some (idx_get hu) (u2.bind ?_)
          rw [wrapS (by omega)]
          exact r2
      obtain ⟨r, r2, r3⟩ := fold (t.args.drop q) 0 (Rw.mk 2 hd []) (by rw [Nat.add_zero]) (by rw [List.length_drop]; omega) (fun x h => by rw [frI_nm h]; exact h5)
      refine ⟨r, ?_, r3⟩
      refine Ev.succ (fun k => R07_Printer_raw.eq_2 ..) ?_
      refine Ev.f (beqI' (by omega)) (Ev.f (beqI' (by omega)) (Ev.f (beqI' (by omega)) ?_))
      refine h4.bind ?_
      rw [Nat.add_zero] at r2
      refine Ev.ite (fun h => ?_) (fun h => ?_)
      · have hh2 : t.hd = 2 := by simpa using h
        rw [if_pos hh2] at hqr
        obtain ⟨d, hd', hdi⟩ := hqr
        refine Ev.some hd' ?_
        rw [hdi]; exact r2
      · have hh2 : t.hd ≠ 2 := by simpa using h
        rw [if_neg hh2] at hqr
        subst hqr
        exact r2
end
end Go.Proofs.YtpibdcjdamibdaaGreatDoor
end

/-! FrF -/
section
namespace Go.Proofs.YtpibdcjdamibdaaGreatDoor
open Go.Tr Go
set_option linter.unusedVariables false
set_option linter.unusedSimpArgs false
set_option maxRecDepth 10000

def hasB (l : List ByteArray) (s : ByteArray) : Bool := l.any (fun x => x.toList == s.toList)
theorem ba_eqb {x s : ByteArray} : (x.toList == s.toList) = true ↔ x = s := by
  constructor
  · intro h
    have : x.toList = s.toList := by simpa using h
    rw [ByteArray.toList_eq, ByteArray.toList_eq] at this
    exact ba_ext this
  · rintro rfl; simp
theorem hasB_iff {l : List ByteArray} {s : ByteArray} : hasB l s = true ↔ s ∈ l := by
  unfold hasB
  rw [List.any_eq_true]
  constructor
  · rintro ⟨x, hx, h⟩; rw [← ba_eqb.1 h]; exact hx
  · exact fun h => ⟨s, h, by simp⟩

theorem has_ev (l : List ByteArray) (s : ByteArray) (hl : l.length ≤ 1000000) : Ev (fun k => R02_has k l s) (hasB l s) := by
  have loop : ∀ (ts : List ByteArray) (i : Nat), l.drop i = ts → i + ts.length = l.length → Ev (fun k => R02_has_L1 k l s (i : Int)) (hasB ts s) := by
    intro ts
    induction ts with
    | nil =>
      intro i hd hi
      simp only [List.length_nil, Nat.add_zero] at hi
      refine Ev.succ (fun k => R02_has_L1.eq_2 ..) ?_
      exact Ev.f (by simp [hi]) (Ev.pure _)
    | cons u ts ih =>
      intro i hd hi
      simp only [List.length_cons] at hi
      refine Ev.succ (fun k => R02_has_L1.eq_2 ..) ?_
      refine Ev.t (by simp; omega) (Ev.some (idx_get (getDrop hd)) ?_)
      have e : hasB (u :: ts) s = ((u.toList == s.toList) || hasB ts s) := rfl
      rw [e]
      refine Ev.ite (fun h => ?_) (fun h => ?_)
      · rw [h]; exact Ev.pure _
      · rw [h, wrapS (by omega)]
        exact ih (i + 1) (dropDrop hd) (by omega)
  exact Ev.succ (fun k => R02_has.eq_2 ..) (loop l 0 rfl (by simp))
theorem has7_ev (l : List ByteArray) (s : ByteArray) (hl : l.length ≤ 1000000) : Ev (fun k => W07_has k l s) (hasB l s) := by
  have loop : ∀ (ts : List ByteArray) (i : Nat), l.drop i = ts → i + ts.length = l.length → Ev (fun k => W07_has_L1 k l s (i : Int)) (hasB ts s) := by
    intro ts
    induction ts with
    | nil =>
      intro i hd hi
      simp only [List.length_nil, Nat.add_zero] at hi
      refine Ev.succ (fun k => W07_has_L1.eq_2 ..) ?_
      exact Ev.f (by simp [hi]) (Ev.pure _)
    | cons u ts ih =>
      intro i hd hi
      simp only [List.length_cons] at hi
      refine Ev.succ (fun k => W07_has_L1.eq_2 ..) ?_
      refine Ev.t (by simp; omega) (Ev.some (idx_get (getDrop hd)) ?_)
      have e : hasB (u :: ts) s = ((u.toList == s.toList) || hasB ts s) := rfl
      rw [e]
      refine Ev.ite (fun h => ?_) (fun h => ?_)
      · rw [h]; exact Ev.pure _
      · rw [h, wrapS (by omega)]
        exact ih (i + 1) (dropDrop hd) (by omega)
  exact Ev.succ (fun k => W07_has.eq_2 ..) (loop l 0 rfl (by simp))

theorem rw_sub {r u : Rw} (h : okAll r.sk = true) (hu : u ∈ r.args) : okAll u.sk = true := by
  have h1 := (rw_ok h).2
  have : ∀ (us : List Rw), u ∈ us → okAllL (Rw.skL us) = true → okAll u.sk = true := by
    intro us
    induction us with
    | nil => intro h; cases h
    | cons v us ih =>
      intro h h2
      simp only [Rw.skL, okAllL, Bool.and_eq_true] at h2
      rcases List.mem_cons.1 h with e | e
      · subst e; exact h2.1
      · exact ih e h2.2
  exact this _ hu h1
/-- What is found to be free, was found, or is free and not bound. -/
def FrOut (r : Rw) (bound out l : List ByteArray) : Prop := l.length ≤ out.length + r.sk.count ∧ ∀ x ∈ l, x ∈ out ∨ (FrI x r ∧ x ∉ bound)

theorem sk_two {r a b : Rw} (h : r.args = [a, b]) : r.sk.count = a.sk.count + b.sk.count + 1 := by
  have h2 := Tm.count_eq r.sk
  rw [Rw.sk_args, h] at h2
  simp only [Rw.skL, Tm.countL] at h2
  omega

theorem free_y (r : Rw) : ∀ (bound out : List ByteArray), okAll r.sk = true → bound.length + r.sk.count ≤ 5000 → out.length + r.sk.count ≤ 5000 → Yields (fun k => R02_free k r bound out) (FrOut r bound out) := by
  induction r using Rw.ind with
  | h r ih =>
  intro bound out hok hb ho
  have hcp := Tm.count_pos r.sk
  have hce := Tm.count_eq r.sk
  have mk : r = .mk r.op r.name r.args := by cases r; rfl
  refine Yields.succ (fun k => R02_free.eq_2 ..) ?_
  have bind : (r.op = 5 ∨ r.op = 7) → Yields (fun n => (idx r.args 0).bind (fun v19 => (R02_free n v19 bound out).bind (fun v24 => cond (decide ((List.map D.str bound).length ≤ 1000000)) (cond (decide ((List.map D.str (bound ++ [r.name])).length ≤ 1000000)) ((idx r.args 1).bind (fun v32 => (R02_free n v32 (bound ++ [r.name]) v24).bind (fun v37 => some (v37)))) none) none))) (FrOut r bound out) := by
    intro hop
    obtain ⟨a, b, e, ha, hb2, hcnt⟩ := rw_pair hok (by omega)
    have hc2 := sk_two e
    refine Yields.some (by rw [e]; rfl) ?_
    refine Yields.bind (ih a (by rw [e]; simp) bound out ha (by omega) (by omega)) (fun l1 h1 => ?_)
    refine Yields.need (by simp; omega) (Yields.need (by simp; omega) (Yields.some (by rw [e]; rfl) ?_))
    refine Yields.bind (ih b (by rw [e]; simp) (bound ++ [r.name]) l1 hb2 (by simp; omega) (by have := h1.1; omega)) (fun l2 h2 => ?_)
    refine Yields.pure ⟨by have := h1.1; have := h2.1; omega, fun x hx => ?_⟩
    rcases h2.2 x hx with h | ⟨h, h'⟩
    · rcases h1.2 x h with h | ⟨h, h'⟩
      · exact .inl h
      · refine .inr ⟨?_, h'⟩
        rw [mk, e]; exact FrI.dom hop h
    · simp only [List.mem_append, List.mem_singleton, not_or] at h'
      refine .inr ⟨?_, h'.1⟩
      rw [mk, e]; exact FrI.body hop h'.2 h
  refine Yields.ite (fun h2 => ?_) (fun h2 => ?_)
  · have h2 : r.op = 2 := by simpa using h2
    refine Yields.bind (Ev.is (has_ev bound r.name (by omega))) (fun _ e => ?_)
    subst e
    refine Yields.ite (fun h => ?_) (fun h => ?_)
    · have hnb : r.name ∉ bound := fun hm => by rw [hasB_iff.2 hm] at h; cases h
      refine Yields.bind (Ev.is (has_ev out r.name (by omega))) (fun _ e => ?_)
      subst e
      refine Yields.ite (fun h => ?_) (fun h => ?_)
      · refine Yields.need (by simp; omega) (Yields.pure ⟨by simp; omega, fun x hx => ?_⟩)
        simp only [List.mem_append, List.mem_singleton] at hx
        rcases hx with hx | hx
        · exact .inl hx
        · subst hx
          refine .inr ⟨?_, hnb⟩
          rw [mk, h2]; exact FrI.nm
      · exact Yields.pure ⟨by omega, fun x hx => .inl hx⟩
    · exact Yields.pure ⟨by omega, fun x hx => .inl hx⟩
  · have h2 : r.op ≠ 2 := by simpa using h2
    refine Yields.ite (fun h5 => ?_) (fun h5 => ?_)
    · rw [h5]
      exact bind (.inl (by simpa using h5))
    · have h5 : r.op ≠ 5 := by simpa using h5
      refine Yields.ite (fun h7 => ?_) (fun h7 => ?_)
      · exact bind (.inr (by simpa using h7))
      · have h7 : r.op ≠ 7 := by simpa using h7
        have hlen := sk_args_count r
        have loop : ∀ (ts : List Rw) (i : Nat) (l : List ByteArray), r.args.drop i = ts → i + ts.length = r.args.length → l.length + Tm.countL (Rw.skL ts) ≤ out.length + Tm.countL (Rw.skL r.args) → (∀ x ∈ l, x ∈ out ∨ (FrI x r ∧ x ∉ bound)) → Yields (fun k => R02_free_L1 k r bound l (i : Int)) (FrOut r bound out) := by
          intro ts
          induction ts with
          | nil =>
            intro i l hd hi hl hx
            simp only [List.length_nil, Nat.add_zero] at hi
            refine Yields.succ (fun k => R02_free_L1.eq_2 ..) ?_
            refine Yields.ite (fun h => by simp [Rw.encL_length, hi] at h) (fun _ => Yields.pure ⟨?_, hx⟩)
            simp only [Rw.skL, Tm.countL, Rw.sk_args] at hl hce
            omega
          | cons u ts ihl =>
            intro i l hd hi hl hx
            simp only [List.length_cons] at hi
            have hu := getDrop hd
            have hum := List.mem_of_getElem? hu
            have huc := sk_arg_count hum
            simp only [Rw.skL, Tm.countL, Rw.sk_args] at hl hce
            refine Yields.succ (fun k => R02_free_L1.eq_2 ..) ?_
            refine Yields.ite (fun _ => ?_) (fun h => by simp [Rw.encL_length] at h; omega)
            refine Yields.some (idx_get hu) ?_
            refine Yields.bind (ih u hum bound l (rw_sub hok hum) (by omega) (by omega)) (fun l2 h2' => ?_)
            rw [wrapS (by omega)]
            refine ihl (i + 1) l2 (dropDrop hd) (by omega) (by have := h2'.1; omega) (fun x hx2 => ?_)
            rcases h2'.2 x hx2 with h | ⟨h, h'⟩
            · exact hx x h
            · refine .inr ⟨?_, h'⟩
              rw [mk]; exact FrI.sub h2 h5 h7 hum h
        exact loop r.args 0 out rfl (by simp) (Nat.le_refl _) (fun x hx => .inl hx)

theorem Free_y {r : Rw} (hok : okAll r.sk = true) (hc : r.sk.count ≤ 5000) : Yields (fun k => R02_Free k r) (fun l => l.length ≤ r.sk.count ∧ ∀ x ∈ l, FrI x r) := by
  refine Yields.succ (fun k => R02_Free.eq_2 ..) ?_
  refine Yields.bind (free_y r [] [] hok (by simpa using hc) (by simpa using hc)) (fun l h => Yields.pure ⟨by simpa using h.1, fun x hx => ?_⟩)
  rcases h.2 x hx with h | h
  · cases h
  · exact h.1
end Go.Proofs.YtpibdcjdamibdaaGreatDoor
end

/-! FrG -/
section
namespace Go.Proofs.YtpibdcjdamibdaaGreatDoor
open Go.Tr Go
set_option linter.unusedVariables false
set_option linter.unusedSimpArgs false
set_option maxRecDepth 10000

/-- What Raw answers: an error, or what a term's raw expression is. -/
theorem raw_cases {sig : List Dc} {metas : List Mt} {t : Tm} {n : Int} : ∃ r : Rw × Int, Ev (fun k => print_Raw k sig metas n t) r ∧
    (r.2 ≠ 0 ∨ r.2 = 0 ∧ sigOK sig = true ∧ metas.length ≤ 80 ∧ metasB metas = true ∧ isProper t = true ∧ 0 ≤ n ∧ n ≤ 30 ∧ nodesS sig.length metas.length t n = true ∧ fullB sig t = true ∧ rawOK r.1 = true ∧ Ev (fun k => R07_Printer_raw k ⟨sig, metas, []⟩ n t) r.1) := by
  by_cases hg : (sigOK sig && (decide (metas.length ≤ 80) && metasB metas) && isProper t) = true ∧ 0 ≤ n ∧ n ≤ 30
  · obtain ⟨hg, h0, h1⟩ := hg
    simp only [Bool.and_eq_true, decide_eq_true_eq] at hg
    obtain ⟨⟨hs, hm, hmB⟩, hp⟩ := hg
    obtain ⟨r, r1, r2, r3, r4⟩ := raw_both hs hm hmB hp n h0 h1
    refine ⟨r, r1, ?_⟩
    by_cases he : r.2 = 0
    · right
      have K : Known sig metas [] := ⟨hs, longest_le sig (sigOK_names hs), hm, ⟨by simp, fun i s h => by simp at h⟩⟩
      obtain ⟨hok, hh, hc⟩ := proper_small hp
      have hrs := refScoped_ev sig metas [] hp n h0
      cases hS : nodesS sig.length metas.length t n with
      | false =>
        rw [hS] at hrs
        have : Ev (fun k => R07_Printer_Raw k ⟨sig, metas, []⟩ n t) (noRw, 27) := by
          refine Ev.succ (fun k => R07_Printer_Raw.eq_2 ..) ?_
          exact hrs.bind (Ev.t rfl (Ev.pure _))
        have := Ev.unique r2 this
        rw [this] at he; cases he
      | true =>
        rw [hS] at hrs
        have hrf := refFull_ev sig metas [] t n hok (by omega) hS
        cases hF : fullB sig t with
        | false =>
          rw [hF] at hrf
          have : Ev (fun k => R07_Printer_Raw k ⟨sig, metas, []⟩ n t) (noRw, 23) := by
            refine Ev.succ (fun k => R07_Printer_Raw.eq_2 ..) ?_
            exact hrs.bind (Ev.f rfl (hrf.bind (Ev.t rfl (Ev.pure _))))
          have := Ev.unique r2 this
          rw [this] at he; cases he
        | true =>
          rw [hF] at hrf
          obtain ⟨q, _, q2⟩ := raw_ev K t.count t n (Nat.le_refl _) hp h0 (by omega) hS hF
          cases hr : rawOK q with
          | false =>
            have : Ev (fun k => R07_Printer_Raw k ⟨sig, metas, []⟩ n t) (noRw, 5) := by
              refine Ev.succ (fun k => R07_Printer_Raw.eq_2 ..) ?_
              refine hrs.bind (Ev.f rfl (hrf.bind (Ev.f rfl (q2.bind ?_))))
              rw [hr]
              exact Ev.t rfl (Ev.pure _)
            have := Ev.unique r2 this
            rw [this] at he; cases he
          | true =>
            have : Ev (fun k => R07_Printer_Raw k ⟨sig, metas, []⟩ n t) (q, 0) := by
              refine Ev.succ (fun k => R07_Printer_Raw.eq_2 ..) ?_
              refine hrs.bind (Ev.f rfl (hrf.bind (Ev.f rfl (q2.bind ?_))))
              rw [hr]
              exact Ev.f rfl (Ev.pure _)
            have := Ev.unique r2 this
            subst this
            exact ⟨rfl, hs, hm, hmB, hp, h0, h1, rfl, rfl, hr, q2⟩
    · exact .inl he
  · refine ⟨(noRw, 2), ?_, .inl (by decide)⟩
    refine Ev.succ (fun k => print_Raw.eq_2 ..) ?_
    refine (good_ev sig metas t).bind ?_
    refine Ev.t ?_ (Ev.pure _)
    cases hb : (sigOK sig && (decide (metas.length ≤ 80) && metasB metas) && isProper t) with
    | false => rfl
    | true =>
      rw [hb] at hg
      simp only [true_and] at hg
      simp
      omega

/-- What Text answers. -/
theorem text_cases {sig : List Dc} {metas : List Mt} {t : Tm} {n : Int} {r : Rw × Int} (hr : Ev (fun k => print_Raw k sig metas n t) r) (hok : r.2 = 0 → rawOK r.1 = true) :
    (r.2 ≠ 0 ∧ Ev (fun k => print_Text k sig metas n t) (⟨#[]⟩, r.2)) ∨ (r.2 = 0 ∧ ∃ T xs, Ev (fun k => print_Text k sig metas n t) (T, 0) ∧ Tx r.1 T xs ∧ T.size ≤ 8000) := by
  by_cases he : r.2 = 0
  · right
    refine ⟨he, ?_⟩
    have h1 := hok he
    obtain ⟨T, t1, t2⟩ := syntaxText_ev h1
    obtain ⟨h2, h3⟩ := rawOK_facts h1
    obtain ⟨T', xs, e1, e2, e3⟩ := text_tx r.1.sk.count r.1 h2 (Nat.le_refl _) (by omega)
    have := Ev.unique t2 e1
    subst this
    refine ⟨T, xs, ?_, e3, by omega⟩
    refine Ev.succ (fun k => print_Text.eq_2 ..) ?_
    exact hr.bind (Ev.f (bneI' he) (t1.bind (Ev.pure _)))
  · left
    refine ⟨he, ?_⟩
    refine Ev.succ (fun k => print_Text.eq_2 ..) ?_
    exact hr.bind (Ev.t (bneI he) (Ev.pure _))

theorem leaf_proper {h m : Int} (hh : h = 1 ∨ h = 2 ∨ h = 3) (h0 : 0 ≤ m) (h1 : m ≤ 9999) : isProper (.mk 4 h m []) = true := by
  rw [isProper_iff]
  refine ⟨?_, ?_, ?_⟩
  · simp only [okAll, okAllL, Bool.and_true]
    simp [okNode]
    omega
  · rw [Tm.count_eq]; simp [Tm.args, Tm.countL]
  · rw [Tm.height_eq]; simp [Tm.args, Tm.heightL]

theorem leaf_raw (s : ByteArray) : rawOK (.mk 2 s []) = namedF s := by
  have e : rawOK (.mk 2 s []) = okAll (Rw.mk 2 s []).sk := by
    rw [Bool.eq_iff_iff, rawOK, properF_iff]
    simp [Rw.sk, Rw.skL, Tm.height, Tm.heightL, Tm.count, Tm.countL]
  rw [e]
  cases hn : namedF s <;> simp [Rw.sk, Rw.skL, okAll, okAllL, okNode, okRaw, rawOp, rawArgs, rawHas, hn]

/-- The text of a head alone. -/
theorem leaf_text {sig : List Dc} {metas : List Mt} {h m n : Int} (hs : sigOK sig = true) (hm : metas.length ≤ 80) (hmB : metasB metas = true) (hh : h = 1 ∨ h = 3) (h0 : 0 ≤ n) (h1 : n ≤ 30) (m0 : 0 ≤ m) (m1 : m ≤ 9999)
    (hS : nodeS sig.length metas.length 4 h m n = true) : ∃ s, Sc sig metas [] s (.mk 4 h m []) n 0 ∧ Ev (fun k => print_Text k sig metas n (.mk 4 h m [])) (if namedF s = true then (s, 0) else (⟨#[]⟩, 5)) := by
  have K : Known sig metas [] := ⟨hs, longest_le sig (sigOK_names hs), hm, ⟨by simp, fun i s h => by simp at h⟩⟩
  have hp := leaf_proper (h := h) (m := m) (by omega) m0 m1
  obtain ⟨hok, hht, hc⟩ := proper_small hp
  have hSS : nodesS sig.length metas.length (.mk 4 h m []) n = true := by rw [nodesS_eq]; simp only [Tm.op, Tm.hd, Tm.n, Tm.args, hS]; rfl
  have hF : fullB sig (.mk 4 h m []) = true := by
    rw [fullB_eq]
    have : (h == 2) = false := by rw [beq_eq_false_iff_ne]; omega
    simp [nodeF, Tm.op, Tm.hd, Tm.n, Tm.args, fullL, this]
  obtain ⟨s, s1, s2⟩ := head_nm K (t := .mk 4 h m []) hok rfl n h0 (by omega) hS
  refine ⟨s, s2, ?_⟩
  have hraw : Ev (fun k => R07_Printer_raw k ⟨sig, metas, []⟩ n (.mk 4 h m [])) (.mk 2 s []) := by
    refine Ev.succ (fun k => R07_Printer_raw.eq_2 ..) ?_
    refine Ev.f rfl (Ev.f rfl (Ev.f rfl (s1.bind (Ev.f ?_ ?_))))
    · simp only [Tm.hd]; rw [beq_eq_false_iff_ne]; omega
    · refine Ev.succ (fun k => R07_Printer_raw_L1.eq_2 ..) ?_
      exact Ev.f (by simp [Tm.args, Tm.encL_length]) (Ev.pure _)
  obtain ⟨r, r1, r2, r3, _⟩ := raw_both hs hm hmB hp n h0 h1
  have hrs := refScoped_ev sig metas [] hp n h0
  rw [hSS] at hrs
  have hrf := refFull_ev sig metas [] (.mk 4 h m []) n hok (by omega) hSS
  rw [hF] at hrf
  have hlr := leaf_raw s
  cases hn : namedF s with
  | true =>
    rw [hn] at hlr
    have : Ev (fun k => R07_Printer_Raw k ⟨sig, metas, []⟩ n (.mk 4 h m [])) (.mk 2 s [], 0) := by
      refine Ev.succ (fun k => R07_Printer_Raw.eq_2 ..) ?_
      refine hrs.bind (Ev.f rfl (hrf.bind (Ev.f rfl (hraw.bind ?_))))
      rw [hlr]
      exact Ev.f rfl (Ev.pure _)
    have := Ev.unique r2 this
    subst this
    rcases text_cases r1 (fun _ => hlr) with h | ⟨_, T, xs, e1, e2, _⟩
    · exact absurd rfl h.1
    · rw [if_pos rfl]
      cases e2 with
      | nm h => exact e1
  | false =>
    rw [hn] at hlr
    have : Ev (fun k => R07_Printer_Raw k ⟨sig, metas, []⟩ n (.mk 4 h m [])) (noRw, 5) := by
      refine Ev.succ (fun k => R07_Printer_Raw.eq_2 ..) ?_
      refine hrs.bind (Ev.f rfl (hrf.bind (Ev.f rfl (hraw.bind ?_))))
      rw [hlr]
      exact Ev.t rfl (Ev.pure _)
    have := Ev.unique r2 this
    subst this
    rw [if_neg (by decide)]
    rcases text_cases r1 (fun h => by cases h) with h | ⟨h, _⟩
    · exact h.2
    · cases h

theorem metaN_named {metas : List Mt} (hB : metasB metas = true) {m : Int} {q : Mt} (hq : idx metas m = some q) (h0 : 0 ≤ m) (h1 : m ≤ 99) : namedF (metaN m q.name) = true := by
  unfold metaN
  split
  · have key : ∀ k : Fin 100, namedF ((⟨#[77]⟩ : ByteArray) ++ itoaF (k.val : Int)) = true := by decide +kernel
    have := key ⟨m.toNat, by omega⟩
    rw [show ((m.toNat : Nat) : Int) = m by omega] at this
    exact this
  · rename_i hne
    have hqm : q ∈ metas := by
      unfold idx at hq
      rw [decide_eq_true h0] at hq
      exact List.mem_of_getElem? hq
    unfold metasB at hB
    rw [List.all_eq_true] at hB
    have := hB q hqm
    rw [Bool.or_eq_true] at this
    rcases this with h | h
    · exact absurd (ba_eqb.1 h) hne
    · unfold namedF; rw [h]; rfl

theorem frI_named {x : ByteArray} {r : Rw} (h : FrI x r) : okAll r.sk = true → namedF x = true := by
  induction h with
  | nm => exact fun h => rw_named h (.inl rfl)
  | dom _ _ ih => exact fun h => ih (rw_sub h (by simp [Rw.args]))
  | body _ _ _ ih => exact fun h => ih (rw_sub h (by simp [Rw.args]))
  | sub _ _ _ hu _ ih => exact fun h => ih (rw_sub h (by simpa [Rw.args] using hu))

theorem varL_metas (sig : List Dc) (m1 m2 : List Mt) (names : List ByteArray) : ∀ (k : Nat) (s : ByteArray), R07_Printer_variable_L1 k ⟨sig, m1, names⟩ s = R07_Printer_variable_L1 k ⟨sig, m2, names⟩ s
  | 0, s => rfl
  | k + 1, s => by
    rw [R07_Printer_variable_L1.eq_2, R07_Printer_variable_L1.eq_2]
    simp only [varL_metas sig m1 m2 names k]
theorem var_metas {sig : List Dc} {m1 : List Mt} (m2 : List Mt) {names : List ByteArray} {l : Int} {x : ByteArray} (h : VarN sig m1 names l x) : VarN sig m2 names l x := by
  obtain ⟨N, h⟩ := h
  refine ⟨N, fun n hn => ?_⟩
  rw [← h n hn]
  cases n with
  | zero => rfl
  | succ k => simp only [R07_Printer_variable.eq_2, varL_metas sig m2 m1 names k]
end Go.Proofs.YtpibdcjdamibdaaGreatDoor
end

/-! FrH -/
section
namespace Go.Proofs.YtpibdcjdamibdaaGreatDoor
open Go.Tr Go
set_option linter.unusedVariables false
set_option linter.unusedSimpArgs false
set_option maxRecDepth 10000

theorem pf4 {r : Rw × Int} {T : ByteArray × Int} {xs : List TT} (e1 : Tx r.1 T.1 xs) (hok : rawOK r.1 = true) (hT : T.1.size ≤ 8000) (l acc : List ByteArray) (hla : l.length ≤ 100000) (hac : acc.length ≤ 100000) (hall : ∀ x ∈ l, x ∈ acc) :
    ∀ (ts : List ByteArray) (i : Nat), l.drop i = ts → i + ts.length = l.length → Ev (fun k => W07_PrintFree_L4 k l acc T r (i : Int)) true := by
  intro ts
  induction ts with
  | nil =>
    intro i hd hi
    simp only [List.length_nil, Nat.add_zero] at hi
    refine Ev.succ (fun k => W07_PrintFree_L4.eq_2 ..) ?_
    refine Ev.f (by simp [hi]) ?_
    by_cases hs : T.1.size ≤ 6000
    · refine (expr_ev e1 hok hs).bind (Ev.t rfl ?_)
      refine (sameRw r.1 (by have := (rawOK_facts hok).2; omega)).bind (Ev.t rfl ?_)
      exact awake_ev.bind (Ev.pure _)
    · refine (expr_long (by omega)).bind (Ev.f rfl (Ev.t (by simp; omega) ?_))
      exact awake_ev.bind (Ev.pure _)
  | cons u ts ih =>
    intro i hd hi
    simp only [List.length_cons] at hi
    have hu := getDrop hd
    refine Ev.succ (fun k => W07_PrintFree_L4.eq_2 ..) ?_
    refine Ev.t (by simp; omega) (Ev.some (idx_get hu) ((has7_ev acc u (by omega)).bind ?_))
    rw [hasB_iff.2 (hall u (List.mem_of_getElem? hu))]
    refine Ev.f rfl ?_
    rw [wrapS (by omega)]
    exact ih (i + 1) (dropDrop hd) (by omega)

/-- What stands behind the lists of names. -/
theorem pfEnd {x : Ask} {r : Rw × Int} {T : ByteArray × Int} {xs : List TT} (e1 : Tx r.1 T.1 xs) (hok : rawOK r.1 = true) (hT : T.1.size ≤ 8000) (acc : List ByteArray) (hac : acc.length ≤ 100000) (hall : ∀ x, FrI x r.1 → x ∈ acc) :
    Ev (fun n => (R02_Free n r.1).bind (fun v127 => W07_PrintFree_L4 n v127 acc T r 0)) true := by
  obtain ⟨h1, h2⟩ := rawOK_facts hok
  obtain ⟨l, l1, l2, l3⟩ := Free_y h1 (by omega)
  exact l1.bind (pf4 e1 hok hT l acc (by omega) hac (fun x hx => hall x (l3 x hx)) l 0 rfl (by simp))

section
variable {x : Ask} {r : Rw × Int} {T : ByteArray × Int}
theorem pf3 (hs : sigOK x.sig = true) (h0 : 0 ≤ x.n) (h1 : x.n ≤ 30) (l : List Int) (hl : l.length ≤ 1000) (hv : ∀ i ∈ l, 0 ≤ i ∧ i ≤ 9999 ∧ i < x.n) :
    ∀ (ts : List Int) (i : Nat) (acc : List ByteArray), l.drop i = ts → i + ts.length = l.length → acc.length ≤ 5000 + i →
      (∀ acc' : List ByteArray, acc'.length ≤ 10000 → (∀ s ∈ acc, s ∈ acc') → (∀ v ∈ ts, ∀ s, VarN x.sig [] [] (x.n - 1 - v) s → namedF s = true → s ∈ acc') → Ev (fun n => (R02_Free n r.1).bind (fun v127 => W07_PrintFree_L4 n v127 acc' T r 0)) true) →
      Ev (fun k => W07_PrintFree_L3 k l x r T acc (i : Int)) true := by
  intro ts
  induction ts with
  | nil =>
    intro i acc hd hi ha hK
    simp only [List.length_nil, Nat.add_zero] at hi
    refine Ev.succ (fun k => W07_PrintFree_L3.eq_2 ..) ?_
    exact Ev.f (by simp [hi]) (hK acc (by omega) (fun s h => h) (by simp))
  | cons v ts ih =>
    intro i acc hd hi ha hK
    simp only [List.length_cons] at hi
    have hu := getDrop hd
    obtain ⟨v0, v1, v2⟩ := hv v (List.mem_of_getElem? hu)
    obtain ⟨s, s1, s2⟩ := leaf_text (sig := x.sig) (metas := []) (h := 1) (m := v) (n := x.n) hs (by simp) rfl (.inl rfl) h0 h1 v0 v1 (by simp [nodeS]; omega)
    have sN : ∀ s', VarN x.sig [] [] (x.n - 1 - v) s' → s' = s := by
      intro s' hs'
      rcases s1 with ⟨j, hj, h⟩ | ⟨j, hj, h⟩ | ⟨j, hj, h⟩
      · simp [occ, occN, occL, v0] at hj
        subst hj
        exact Ev.unique hs' h
      · simp [occ, occN, occL] at hj
      · simp [occ, occN, occL] at hj
    refine Ev.succ (fun k => W07_PrintFree_L3.eq_2 ..) ?_
    refine Ev.t (by simp; omega) (Ev.some (idx_get hu) ?_)
    refine Ev.bind (x := Tm.mk 4 1 v []) (Ev.succ (fun k => W07_vr.eq_2 ..) (Ev.pure _)) (s2.bind ?_)
    rw [wrapS (by omega)]
    cases hn : namedF s with
    | true =>
      rw [if_pos rfl]
      refine Ev.f rfl (Ev.f rfl (Ev.need (by simp; omega) ?_))
      refine ih (i + 1) (acc ++ [s]) (dropDrop hd) (by omega) (by simp; omega) (fun acc' a1 a2 a3 => hK acc' a1 (fun s hs => a2 s (List.mem_append_left _ hs)) ?_)
      intro w hw s' hs' hn'
      rcases List.mem_cons.1 hw with rfl | hw
      · rw [sN s' hs']; exact a2 s (by simp)
      · exact a3 w hw s' hs' hn'
    | false =>
      rw [if_neg (by decide)]
      refine Ev.t rfl ?_
      refine ih (i + 1) acc (dropDrop hd) (by omega) (by omega) (fun acc' a1 a2 a3 => hK acc' a1 a2 ?_)
      intro w hw s' hs' hn'
      rcases List.mem_cons.1 hw with rfl | hw
      · rw [sN s' hs', hn] at hn'; cases hn'
      · exact a3 w hw s' hs' hn'

theorem pf2 (hs : sigOK x.sig = true) (hm : x.metas.length ≤ 80) (hB : metasB x.metas = true) (l : List Int) (hl : l.length ≤ 1000) (hv : ∀ i ∈ l, 0 ≤ i ∧ i < x.metas.length) :
    ∀ (ts : List Int) (i : Nat) (acc : List ByteArray), l.drop i = ts → i + ts.length = l.length → acc.length ≤ 1000 + i →
      (∀ acc' : List ByteArray, acc'.length ≤ 2000 → (∀ s ∈ acc, s ∈ acc') → (∀ m ∈ ts, ∀ q, idx x.metas m = some q → metaN m q.name ∈ acc') → Ev (fun n => (R03_Free n x.t).bind (fun v76 => W07_PrintFree_L3 n v76 x r T acc' 0)) true) →
      Ev (fun k => W07_PrintFree_L2 k l x r T acc (i : Int)) true := by
  intro ts
  induction ts with
  | nil =>
    intro i acc hd hi ha hK
    simp only [List.length_nil, Nat.add_zero] at hi
    refine Ev.succ (fun k => W07_PrintFree_L2.eq_2 ..) ?_
    exact Ev.f (by simp [hi]) (hK acc (by omega) (fun s h => h) (by simp))
  | cons m ts ih =>
    intro i acc hd hi ha hK
    simp only [List.length_cons] at hi
    have hu := getDrop hd
    obtain ⟨v0, v1⟩ := hv m (List.mem_of_getElem? hu)
    obtain ⟨s, s1, s2⟩ := leaf_text (sig := x.sig) (metas := x.metas) (h := 3) (m := m) (n := 0) hs hm hB (.inr rfl) (by omega) (by omega) v0 (by omega) (by simp [nodeS]; omega)
    obtain ⟨q, hq, hsq⟩ : ∃ q, idx x.metas m = some q ∧ s = metaN m q.name := by
      rcases s1 with ⟨j, hj, h⟩ | ⟨j, hj, h⟩ | ⟨j, hj, h⟩
      · simp [occ, occN, occL] at hj
      · simp [occ, occN, occL] at hj
      · simp [occ, occN, occL] at hj
        subst hj
        exact h
    have hn : namedF s = true := by rw [hsq]; exact metaN_named hB hq v0 (by omega)
    rw [if_pos hn] at s2
    refine Ev.succ (fun k => W07_PrintFree_L2.eq_2 ..) ?_
    refine Ev.t (by simp; omega) (Ev.some (idx_get hu) (s2.bind ?_))
    rw [wrapS (by omega)]
    refine Ev.f rfl (Ev.need (by simp; omega) ?_)
    refine ih (i + 1) (acc ++ [s]) (dropDrop hd) (by omega) (by simp; omega) (fun acc' a1 a2 a3 => hK acc' a1 (fun s hs => a2 s (List.mem_append_left _ hs)) ?_)
    intro w hw q' hq'
    rcases List.mem_cons.1 hw with rfl | hw
    · rw [hq] at hq'
      cases hq'
      rw [← hsq]
      exact a2 s (by simp)
    · exact a3 w hw q' hq'

theorem pf1 (l : List Int) (hl : l.length ≤ 1000) (hv : ∀ c ∈ l, ∃ d, idx x.sig c = some d) :
    ∀ (ts : List Int) (i : Nat) (acc : List ByteArray), l.drop i = ts → i + ts.length = l.length → acc.length ≤ i →
      (∀ acc' : List ByteArray, acc'.length ≤ 1000 → (∀ s ∈ acc, s ∈ acc') → (∀ c ∈ ts, ∀ d, idx x.sig c = some d → d.name ∈ acc') → Ev (fun n => (R03_Metas n x.t).bind (fun v46 => W07_PrintFree_L2 n v46 x r T acc' 0)) true) →
      Ev (fun k => W07_PrintFree_L1 k l x r T acc (i : Int)) true := by
  intro ts
  induction ts with
  | nil =>
    intro i acc hd hi ha hK
    simp only [List.length_nil, Nat.add_zero] at hi
    refine Ev.succ (fun k => W07_PrintFree_L1.eq_2 ..) ?_
    exact Ev.f (by simp [hi]) (hK acc (by omega) (fun s h => h) (by simp))
  | cons c ts ih =>
    intro i acc hd hi ha hK
    simp only [List.length_cons] at hi
    have hu := getDrop hd
    obtain ⟨d, hd'⟩ := hv c (List.mem_of_getElem? hu)
    refine Ev.succ (fun k => W07_PrintFree_L1.eq_2 ..) ?_
    refine Ev.t (by simp; omega) (Ev.some (idx_get hu) (Ev.some hd' ?_))
    rw [wrapS (by omega)]
    refine Ev.need (by simp; omega) ?_
    refine ih (i + 1) (acc ++ [d.name]) (dropDrop hd) (by omega) (by simp; omega) (fun acc' a1 a2 a3 => hK acc' a1 (fun s hs => a2 s (List.mem_append_left _ hs)) ?_)
    intro w hw q' hq'
    rcases List.mem_cons.1 hw with rfl | hw
    · rw [hd'] at hq'
      cases hq'
      exact a2 d.name (by simp)
    · exact a3 w hw q' hq'
end

mutual
theorem occ_range (hd : Int) : ∀ (t : Tm) (k : Int), okAll t = true → 0 ≤ k → ∀ y ∈ occ hd t k, 0 ≤ y ∧ y ≤ 9999
  | .mk o h n us, k, hok, hk, y, hy => by
    have hn := okAll_n hok
    simp only [Tm.n] at hn
    simp only [okAll, Bool.and_eq_true] at hok
    simp only [occ, List.mem_append] at hy
    rcases hy with hy | hy
    · unfold occN at hy
      by_cases h1 : o = 4 ∧ h = hd
      · rw [if_pos h1] at hy
        by_cases h2 : hd ≠ 1
        · rw [if_pos h2] at hy
          simp only [List.mem_singleton] at hy; omega
        · rw [if_neg h2] at hy
          by_cases h3 : n ≥ k
          · rw [if_pos h3] at hy
            simp only [List.mem_singleton] at hy; omega
          · rw [if_neg h3] at hy; cases hy
      · rw [if_neg h1] at hy; cases hy
    · exact occ_rangeL hd o us 0 k hok.2 hk y hy
theorem occ_rangeL (hd : Int) : ∀ (o : Int) (us : List Tm) (i : Nat) (k : Int), okAllL us = true → 0 ≤ k → ∀ y ∈ occL hd o us i k, 0 ≤ y ∧ y ≤ 9999
  | o, [], i, k, _, _, y, hy => by cases hy
  | o, u :: us, i, k, hok, hk, y, hy => by
    simp only [okAllL, Bool.and_eq_true] at hok
    have hu := under_le o i
    simp only [occL, List.mem_append] at hy
    rcases hy with hy | hy
    · exact occ_range hd u (k + under o i) hok.1 (by omega) y hy
    · exact occ_rangeL hd o us (i + 1) k hok.2 hk y hy
 end

theorem printFree_ev (x : Ask) : Ev (fun k => W07_PrintFree k x) true := by
  obtain ⟨r, r1, hr⟩ := raw_cases (sig := x.sig) (metas := x.metas) (t := x.t) (n := x.n)
  refine Ev.succ (fun k => W07_PrintFree.eq_2 ..) (r1.bind ?_)
  rcases text_cases r1 (fun h => by
    rcases hr with h2 | ⟨_, _, _, _, _, _, _, _, _, h3, _⟩
    · exact absurd h h2
    · exact h3) with ⟨he, h⟩ | ⟨he, S, xs, s1, s2, s3⟩
  · refine h.bind (Ev.t ?_ (Ev.t (by simp) (awake_ev.bind (Ev.pure _))))
    simp [he]
  · rcases hr with hr | ⟨_, hs, hm, hB, hp, h0, h1, hS, hF, hok, q2⟩
    · exact absurd he hr
    obtain ⟨htok, hh, hc⟩ := proper_small hp
    have K : Known x.sig x.metas [] := ⟨hs, longest_le x.sig (sigOK_names hs), hm, ⟨by simp, fun i s h => by simp at h⟩⟩
    obtain ⟨r', f1, f2⟩ := raw_fr K x.t.count x.t x.n (Nat.le_refl _) hp h0 (by omega) hS hF
    have := Ev.unique q2 f1
    subst this
    have hocc := (nodesS_occ x.sig.length x.metas.length x.n h0 x.t 0 htok (by omega)).1 (by rw [Int.add_zero]; exact hS)
    have hlen := fun hd => heads_count hd x.t 0 []
    simp only [List.length_nil] at hlen
    have hmem := fun hd y => headsF_mem hd y x.t 0 [] htok (by omega) (by omega)
    have hrange := fun hd => occ_range hd x.t 0 htok (by omega)
    refine s1.bind (Ev.f (by simp [he]) ?_)
    refine (refConstants_ev (by omega) (by omega)).bind ?_
    refine pf1 (headsF 2 x.t 0 []) (by have := hlen 2; omega) (fun c hc => ?_) _ 0 [] rfl (by simp) (by simp) (fun acc1 a1 a2 a3 => ?_)
    · have hc2 : c ∈ occ 2 x.t 0 := by have := (hmem 2 c).1 hc; simpa using this
      obtain ⟨d, hd, _⟩ := idx_pre (sig := x.sig) (n := c) (hrange 2 c hc2).1 (hocc.2.1 c hc2)
      exact ⟨d, hd⟩
    refine (refMetas_ev (by omega) (by omega)).bind ?_
    refine pf2 hs hm hB (headsF 3 x.t 0 []) (by have := hlen 3; omega) (fun c hc => ?_) _ 0 acc1 rfl (by simp) (by omega) (fun acc2 b1 b2 b3 => ?_)
    · have hc2 : c ∈ occ 3 x.t 0 := by have := (hmem 3 c).1 hc; simpa using this
      exact ⟨(hrange 3 c hc2).1, hocc.2.2 c hc2⟩
    refine (refFree_ev (by omega) (by omega)).bind ?_
    refine pf3 hs h0 h1 (headsF 1 x.t 0 []) (by have := hlen 1; omega) (fun c hc => ?_) _ 0 acc2 rfl (by simp) (by omega) (fun acc3 d1 d2 d3 => ?_)
    · have hc2 : c ∈ occ 1 x.t 0 := by have := (hmem 1 c).1 hc; simpa using this
      exact ⟨(hrange 1 c hc2).1, (hrange 1 c hc2).2, hocc.1 c hc2⟩
    refine pfEnd (x := x) s2 hok s3 acc3 (by omega) (fun y hy => ?_)
    have hy2 := f2 y hy
    have hyn := frI_named hy (rawOK_facts hok).1
    rcases hy2 with ⟨i, hi, h⟩ | ⟨c, hc, d, hd, rfl⟩ | ⟨m, hm', q, hq, rfl⟩
    · exact d3 i ((hmem 1 i).2 (.inr hi)) y (var_metas [] h) hyn
    · exact d2 _ (b2 _ (a3 c ((hmem 2 c).2 (.inr hc)) d hd))
    · exact d2 _ (b3 m ((hmem 3 m).2 (.inr hm')) q hq)
end Go.Proofs.YtpibdcjdamibdaaGreatDoor
end

/-! RowLaid -/
section
namespace Go.Proofs.YtpibdcjdamibdaaGreatDoor
open Go.Tr Go
open Go.ChangeShapes Go.WideShapes Go.ChangeAt Go.RowKit
set_option maxRecDepth 10000

def cellsD : DataW Unit → Array Value
  | .agg l => (l.map fun | .lit (.int k n) => Value.int k n | _ => Value.int .i64 0).toArray
  | _ => #[]
def setCells (vs : Array Value) : Obj → Obj
  | .cells _ t frozen => .cells vs t frozen
  | o => o
noncomputable def laidWorld (os : Os) : World :=
  let w0 := World.holding Tryz.prog os ⟨#[], #[], []⟩
  { w0 with heap := ((w0.heap.modify 1 (setCells (cellsD Rows.laid_internal_strconv_uint64pow10))).modify 2 (setCells (cellsD Rows.laid_math_bits_deBruijn32tab))).modify 3 (setCells (cellsD Rows.laid_math_bits_deBruijn64tab)) }
theorem laidWorld_met (os : Os) (args : Array Value) : laidMet Tryz.prog Rows.printContextsRow.laid ((laidWorld os).forCall (fun _ _ => 0) ⟨#[], args, []⟩).memory :=
  laidMet_of_run3 8 (by kernel_rfl) (by kernel_rfl) (by kernel_rfl)
end Go.Proofs.YtpibdcjdamibdaaGreatDoor
end

/-! RowPF -/
section
namespace Go.Proofs.YtpibdcjdamibdaaGreatDoor
open Go.Tr Go
open Go.ChangeShapes Go.WideShapes Go.ChangeAt Go.RowKit
set_option maxRecDepth 10000

theorem printFree_spec (x : Ask) (a2 : Option Addr) (c2 : Nat) (a3 : Option Addr) (c3 : Nat) (a4 : Option Addr) (c4 : Nat) :
    Pure Tryz.prog (fnS 3) [(.agg [(.v (.slice a2 ((Dc.encL x.sig).length) c2)), (.v (.slice a3 ((Mt.encL x.metas).length) c3)), (.v (.int .i64 x.n)), (.v (.int .i64 x.t.op)), (.v (.int .i64 x.t.hd)), (.v (.int .i64 x.t.n)), (.v (.slice a4 ((Tm.encL x.t.args).length) c4))])] [(.slice a2 ((Dc.encL x.sig).length) c2, .sl 6 (Dc.encL x.sig)), (.slice a3 ((Mt.encL x.metas).length) c3, .sl 10 (Mt.encL x.metas)), (.slice a4 ((Tm.encL x.t.args).length) c4, .sl 4 (Tm.encL x.t.args))] (fun r out => r = bS true ∧ out = []) := by
  obtain ⟨N, h⟩ := printFree_ev x
  exact W07_PrintFree_spec N x a2 c2 a3 c3 a4 c4 _ (h N (Nat.le_refl _))

set_option maxRecDepth 100000 in
theorem printFree_lifted (os : Os) (started : os.Started) (H : Type) (enc : TypeId × Value → H) :
    ReturnsInHanded {} Tryz.checked os 3 .any (fun w args => (Rows.printFreeSpec.pre enc Tryz.prog Tryz.f3 Rows.printFreeRow.domain false w args ∧ laidMet Tryz.prog Rows.printFreeRow.laid w) ∧ sizedMet enc Tryz.prog Tryz.f3 (OpenSpec.ofChange Rows.printFreeSpec) false w args)
      (Rows.printFreeSpec.post enc Tryz.prog Tryz.f3 false true false false) := by
  refine returnsInHanded_of_change_and (C := Tryz.checked) (X := fun w _ => laidMet Tryz.prog Rows.printFreeRow.laid w) (fun _ _ _ hh h => h.of_heap hh) own started (by kernel_rfl) Tryz.func3
    (ChangeSpec.witness_at (enc := enc) (C := Tryz.checked) (os := os) (X := fun w _ => laidMet Tryz.prog Rows.printFreeRow.laid w) false (laidWorld os) #[.agg #[.slice none 0 0, .slice none 0 0, .int .i64 0, .int .i64 0, .int .i64 0, .int .i64 0, .slice none 0 0]] 8 rfl (by kernel_rfl) (by kernel_rfl) (by kernel_rfl) (by kernel_rfl) (by kernel_rfl) (laidWorld_met os _)) ?_
  intro W base args ds gs before hval0 hW _ hsz0 hL _
  have hsz : (DataW.weightsEach Tryz.prog (Tryz.f3.params.toList ++ Rows.printFreeSpec.plain.varTypes Tryz.prog) (ds ++ gs)).all (· ≤ reachBytes) = true := hsz0
  clear hsz0
  have hval : ∀ (j : Nat) t v, Tryz.f3.params[j]? = some t → args[j]? = some v → Value.okWide Tryz.prog W .any base t v := hval0
  have hW' := hW
  obtain ⟨p, q, hA0, hV, rfl, _, _⟩ := hW
  have hA : DataW.TrodAll enc Tryz.prog W 0 (fun _ => true) true Tryz.f3.params.toList args.toList ds p := hA0
  rw [Tryz.params3] at hA hval
  have hsz : (DataW.weightsEach Tryz.prog ([28] ++ []) (ds ++ gs)).all (· ≤ reachBytes) = true := by
    have := hsz
    rw [Tryz.params3] at this
    exact this
  obtain ⟨v0, vs0, d0, ds0, p0, q0, ha0, rfl, rfl, h0, r0⟩ := trodAll_cons hA
  obtain ⟨rfl, rfl, rfl⟩ := trodAll_nil r0
  obtain ⟨rfl, rfl⟩ := trodVars_none hV
  obtain rfl : args = #[v0] := by rw [← Array.toList_inj, ha0]
  have hw := all_le hsz
  simp only [List.append_nil, DataW.weightsEach] at hw
  obtain ⟨x, a2, c2, a3, c3, a4, c4, rfl, e2, e3, e4⟩ := arg_Ask (hval 0 _ _ rfl rfl) h0 hw
  refine ((printFree_spec x a2 c2 a3 c3 a4 c4).calls Tryz.call3 (W := W) ?_).mono ?_
  · intro r hr
    simp only [List.mem_cons, List.not_mem_nil, or_false] at hr
    rcases hr with rfl | rfl | rfl
    · exact e2
    · exact e3
    · exact e4
  rintro e W' ⟨r, out, rfl, ⟨rfl, rfl⟩, hx⟩
  refine ⟨_, rfl, post_true kids full hW' rfl ?_ ?_ (by kernel_rfl) Tryz.underlying4 hx⟩
  · rw [Tryz.params3]
    decide +kernel
  · intro ds hl
    rw [Tryz.params3] at hl
    match ds, hl with
    | [_], _ => rfl

theorem printFree_holds : Rows.PrintFreeSaid :=
  OpenClaim.holds_of_wide 3 Tryz.f3 rfl rfl rfl rfl rfl rfl rfl ⟨rfl, rfl, rfl, rfl, rfl⟩ rfl rfl rfl rfl rfl (by kernel_rfl) Tryz.func3 (by kernel_rfl)
    (of_decide_eq_true (by kernel_rfl)) (by unfold Func.isWrapper; first | (rw [if_pos (by decide +kernel)]; kernel_rfl) | (rw [if_neg (by decide +kernel)]; exact ⟨rfl, rfl⟩))
    (fun os started H enc _ => printFree_lifted os started H enc)
#print axioms printFree_holds
end Go.Proofs.YtpibdcjdamibdaaGreatDoor
end

/-! CardPF -/
section
namespace Go.Proofs.YtpibdcjdamibdaaGreatDoor
open Go

theorem printFreeCard_holds : Rows.PrintFreeCardSaid :=
  Claim7.holds_tied_plain_at .later [] [.data, .data, .data] true (true, "2ec2fbd42a1da2db79c369b39067d0c462011c384d735f7402b3eb777f9cd143") false
    printFree_holds (fun _ h => by cases h) (by kernel_rfl) (fun _ h => by cases h) printFree_row_tie rfl ⟨rfl, rfl⟩ (by kernel_rfl) rfl
    (fun f fn hf hfn => by
      obtain rfl : f = 3 := Option.some.inj ((show Tryz.prog.funcNamed "truss/trusslaw07.PrintFree" = some 3 by kernel_rfl).symm.trans hf) |>.symm
      obtain rfl : fn = Tryz.f3 := (Option.some.inj (Tryz.func3.symm.trans hfn)).symm
      exact ⟨by kernel_rfl, fun j t ht => by
        rw [Tryz.params3] at ht
        have h3 : t = 28 := by
          rcases j with _ | j
          · simpa using ht.symm
          · simp at ht
        subst h3
        exact (show Tryz.prog.wantsStandIn 28 = false by kernel_rfl)⟩)
    (by kernel_rfl)
#print axioms printFreeCard_holds
end Go.Proofs.YtpibdcjdamibdaaGreatDoor
end
