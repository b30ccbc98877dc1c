/- Merged texts: EvV EvY RowLaid RowPC CardPC. Plain law: PrintTerms answers true. No program in sight. Plain law: PrintContexts answers true. No program in sight. A start at which the listed tables read as their initialisers lay them. No condition. PrintContexts answers true at every input, and its argument reads as it did. No condition. PrintContexts: the card: the row, its listed tables tied to the program's text by the given tie. No condition. -/
import Derived.Test.YtpibdcjdamibdaaGreatDoorQK
import Derived.KernelRfl
import Derived.JoinedAt
import Derived.LaidLaws
import Derived.Deep.DeepLaidRun
import Derived.Test.YtpibdcjdamibdaaGreatDoorCards
import Derived.Test.YtpibdcjdamibdaaGreatDoorTie
import Derived.SevenTiedAt
/-! EvV -/
section
namespace Go.Proofs.YtpibdcjdamibdaaGreatDoor
open Go.Tr Go
set_option linter.unusedVariables false
set_option linter.unusedSimpArgs false
set_option maxRecDepth 10000

set_option maxRecDepth 100000 in
theorem awake_at (m : Nat) : W07_awake (m + 60) = some true := by kernel_rfl
theorem awake_ev : Ev (fun k => W07_awake k) true := ⟨60, fun n hn => by
  obtain ⟨m, rfl⟩ : ∃ m, n = m + 60 := ⟨n - 60, by omega⟩
  exact awake_at m⟩

abbrev noRw : Rw := Rw.mk 0 ByteArray.empty []

theorem sk_args_count (t : Rw) : t.args.length + 1 ≤ t.sk.count := by
  have h1 := Tm.length_le_countL (Rw.skL t.args)
  rw [Rw.skL_length] at h1
  have h2 := Tm.count_eq t.sk
  rw [Rw.sk_args] at h2
  omega
theorem sk_arg_count {t u : Rw} (hu : u ∈ t.args) : u.sk.count < t.sk.count := by
  have h2 := Tm.count_eq t.sk
  rw [Rw.sk_args] at h2
  have : ∀ (us : List Rw), u ∈ us → u.sk.count ≤ Tm.countL (Rw.skL us) := by
    intro us
    induction us with
    | nil => intro h; cases h
    | cons v us ih =>
      intro h
      simp only [Rw.skL, Tm.countL]
      rcases List.mem_cons.1 h with e | e
      · subst e; omega
      · have := ih e; omega
  have := this _ hu
  omega

theorem sameRw (t : Rw) : t.sk.count ≤ 1000 → Ev (fun k => R02_Same k t t) true := by
  induction t using Rw.ind with
  | h t ih =>
    intro hc
    have hl := sk_args_count t
    have loop : ∀ (ts : List Rw) (i : Nat), t.args.drop i = ts → i + ts.length = t.args.length → Ev (fun k => R02_Same_L1 k t t (i : Int)) true := by
      intro ts
      induction ts with
      | nil =>
        intro i hd hi
        refine Ev.succ (fun k => R02_Same_L1.eq_2 ..) ?_
        simp only [List.length_nil, Nat.add_zero] at hi
        exact Ev.f (by simp [Rw.encL_length, hi]) (Ev.pure _)
      | cons u ts ihl =>
        intro i hd hi
        refine Ev.succ (fun k => R02_Same_L1.eq_2 ..) ?_
        simp only [List.length_cons] at hi
        have hu := getDrop hd
        have hum := List.mem_of_getElem? hu
        have := sk_arg_count hum
        refine Ev.t (by simp [Rw.encL_length]; omega) ?_
        refine Ev.some (idx_get hu) (Ev.some (idx_get hu) ((ih u hum (by omega)).bind (Ev.f rfl ?_)))
        rw [wrapS (by omega)]
        exact ihl (i + 1) (dropDrop hd) (by omega)
    refine Ev.succ (fun k => R02_Same.eq_2 ..) ?_
    refine Ev.f (by simp) ?_
    exact loop t.args 0 rfl (by simp)

theorem rawOK_facts {r : Rw} (h : rawOK r = true) : okAll r.sk = true ∧ r.sk.count ≤ 400 := by
  rw [rawOK, properF_iff] at h
  exact ⟨h.1, by omega⟩

/-- What the printer answers to Raw. -/
abbrev okR2 (r : Rw × Int) : Prop := (r.2 = 0 → rawOK r.1 = true) ∧ r.1.sk.count ≤ 1000

theorem kept_ok {r : Rw} (h : rawOK r = true) : Ev (fun k => print_kept k r 0) (r, 0) := by
  refine Ev.succ (fun k => print_kept.eq_2 ..) ?_
  rw [h]
  exact Ev.f rfl (Ev.f rfl (Ev.pure _))
theorem kept_no {r : Rw} (h : rawOK r = false) : Ev (fun k => print_kept k r 0) (noRw, 5) := by
  refine Ev.succ (fun k => print_kept.eq_2 ..) ?_
  rw [h]
  exact Ev.f rfl (Ev.t rfl (Ev.pure _))

theorem noRw_small : noRw.sk.count ≤ 1000 := by decide

/-- Raw and Text of a good signature, metavariables and term. -/
theorem raw_both {sig : List Dc} {metas : List Mt} {t : Tm} (hs : sigOK sig = true) (hm : metas.length ≤ 80) (hmB : metasB metas = true) (hp : isProper t = true) (n : Int) (h0 : 0 ≤ n) (h1 : n ≤ 30) :
    ∃ r, Ev (fun k => print_Raw k sig metas n t) r ∧ Ev (fun k => R07_Printer_Raw k ⟨sig, metas, []⟩ n t) r ∧ okR2 r := by
  have K : Known sig metas [] := ⟨hs, longest_le sig (sigOK_names hs), hm, ⟨by simp, fun i s h => by simp at h⟩⟩
  obtain ⟨hok, hh, hc⟩ := proper_small hp
  have e0 : ((([] : List ByteArray).length : Nat) : Int) = 0 := rfl
  have hsc := scoped_ev K hp n h0 (by omega)
  rw [e0] at hsc
  have hgood := good_ev sig metas t
  rw [hs, decide_eq_true hm, hmB, hp] at hgood
  have start : ∀ {r}, Ev (fun n_1 => (print_printer_scoped n_1 t n (Prt.mk sig metas 0)).bind (fun v12 => cond (v12 != 0) (some ((Rw.mk 0 ByteArray.empty ([])), v12)) ((print_printer_raw n_1 t n (Prt.mk sig metas 0)).bind (fun v15 => (print_kept n_1 v15.1 v15.2).bind (fun v18 => some (v18.1, v18.2)))))) r → Ev (fun k => print_Raw k sig metas n t) r := by
    intro r h
    refine Ev.succ (fun k => print_Raw.eq_2 ..) ?_
    exact hgood.bind (Ev.f (by simp; omega) h)
  cases hS : nodesS sig.length metas.length t n with
  | false =>
    rw [hS] at hsc
    refine ⟨(noRw, 27), start (hsc.bind (Ev.t rfl (Ev.pure _))), ?_, ⟨fun h => (by cases h), noRw_small⟩⟩
    refine Ev.succ (fun k => R07_Printer_Raw.eq_2 ..) ?_
    refine (refScoped_ev sig metas [] hp n h0).bind ?_
    rw [hS]
    exact Ev.t rfl (Ev.pure _)
  | true =>
  have hrs := refScoped_ev sig metas [] hp n h0
  rw [hS] at hsc hrs
  have hrf := refFull_ev sig metas [] t n hok (by omega) hS
  cases hF : fullB sig t with
  | false =>
    rw [hF] at hsc hrf
    refine ⟨(noRw, 23), start (hsc.bind (Ev.t rfl (Ev.pure _))), ?_, ⟨fun h => (by cases h), noRw_small⟩⟩
    refine Ev.succ (fun k => R07_Printer_Raw.eq_2 ..) ?_
    exact hrs.bind (Ev.f rfl (hrf.bind (Ev.t rfl (Ev.pure _))))
  | true =>
  rw [hF] at hsc hrf
  obtain ⟨r, r1, r2⟩ := raw_ev K t.count t n (Nat.le_refl _) hp h0 (by omega) hS hF
  rw [e0] at r1
  cases hr : rawOK r with
  | true =>
    have hk := kept_ok hr
    refine ⟨(r, 0), start (hsc.bind (Ev.f rfl (r1.bind (hk.bind (Ev.pure _))))), ?_, ⟨fun _ => hr, by have := (rawOK_facts hr).2; simp only; omega⟩⟩
    refine Ev.succ (fun k => R07_Printer_Raw.eq_2 ..) ?_
    refine hrs.bind (Ev.f rfl (hrf.bind (Ev.f rfl (r2.bind ?_))))
    rw [hr]
    exact Ev.f rfl (Ev.pure _)
  | false =>
    have hk := kept_no hr
    refine ⟨(noRw, 5), start (hsc.bind (Ev.f rfl (r1.bind (hk.bind (Ev.pure _))))), ?_, ⟨fun h => (by cases h), noRw_small⟩⟩
    refine Ev.succ (fun k => R07_Printer_Raw.eq_2 ..) ?_
    refine hrs.bind (Ev.f rfl (hrf.bind (Ev.f rfl (r2.bind ?_))))
    rw [hr]
    exact Ev.t rfl (Ev.pure _)

theorem syntaxText_ev {r : Rw} (h : rawOK r = true) : ∃ T : ByteArray, Ev (fun k => syntax_Text k r) (T, 0) ∧ Ev (fun k => R02_Text k r) T := by
  obtain ⟨h1, h2⟩ := rawOK_facts h
  obtain ⟨T, t1, t2, t3⟩ := text_ev r.sk.count r h1 (Nat.le_refl _) (by omega)
  refine ⟨T, ?_, t1⟩
  refine Ev.succ (fun k => syntax_Text.eq_2 ..) ?_
  rw [h]
  refine Ev.f rfl ?_
  have e : wr ([].any (fun x => r.op == x)) T = T := rfl
  have := t3 [] (by simp)
  rw [e] at this
  exact this.bind (Ev.pure _)

end Go.Proofs.YtpibdcjdamibdaaGreatDoor
end

/-! EvY -/
section
namespace Go.Proofs.YtpibdcjdamibdaaGreatDoor
open Go.Tr Go
set_option linter.unusedVariables false
set_option linter.unusedSimpArgs false
set_option maxRecDepth 10000

/-- Begins with a small letter, and goes on with what can stand in names. -/
def nmS (s : ByteArray) : Bool := match s.data.toList with
  | [] => false
  | c :: l => smallC c && (c :: l).all nameC

theorem app_toList (s t : ByteArray) : (s ++ t).data.toList = s.data.toList ++ t.data.toList := (congrArg Array.toList ByteArray.data_append).trans Array.toList_append
theorem ba_ext {s t : ByteArray} (h : s.data.toList = t.data.toList) : s = t := by
  cases s; cases t
  simp only [ByteArray.mk.injEq]
  exact Array.toList_inj.1 h
theorem ba_size (s : ByteArray) : s.size = s.data.toList.length := rfl

theorem nmS_app {s : ByteArray} (h : nmS s = true) : nmS (s ++ (⟨#[39]⟩ : ByteArray)) = true := by
  unfold nmS at h ⊢
  rw [app_toList]
  cases hl : s.data.toList with
  | nil => rw [hl] at h; cases h
  | cons c l =>
    rw [hl] at h
    have h : (smallC c && (c :: l).all nameC) = true := h
    show (smallC c && ((c :: l) ++ [39]).all nameC) = true
    rw [List.all_append]
    simp only [Bool.and_eq_true] at h ⊢
    exact ⟨h.1, h.2, rfl⟩

theorem nmS_name {s : ByteArray} (h : nmS s = true) : refNameF s = decide (s.size ≤ 16) := by
  unfold nmS at h
  unfold refNameF
  rw [ba_size]
  cases hl : s.data.toList with
  | nil => rw [hl] at h; cases h
  | cons c l =>
    rw [hl] at h
    simp only [Bool.and_eq_true] at h
    simp only [h.1, h.2, Bool.true_or, Bool.and_true]

theorem nmS_start (n : Int) (h0 : 0 ≤ n) (h1 : n ≤ 99) : nmS ((⟨#[120]⟩ : ByteArray) ++ itoaF n) = true := by
  have key : ∀ k : Fin 100, nmS ((⟨#[120]⟩ : ByteArray) ++ itoaF (k.val : Int)) = true := by decide +kernel
  have := key ⟨n.toNat, by omega⟩
  rw [show ((n.toNat : Nat) : Int) = n by omega] at this
  exact this

theorem fresh_q (sig : List Dc) (metas : List Mt) (first : Int) (hs : sigOK sig = true) (hl : longest sig ≤ 16) : ∀ (q : Nat) (s : ByteArray), 17 - s.size ≤ q → s.size ≤ 20 → nmS s = true → ∃ r, Ev (fun n => print_printer_name_L1 n ⟨sig, metas, first⟩ s) r ∧ nmS r = true ∧ r.size ≤ 20
  | 0, s, hq, hz, hn => by
    have hf := fnd_long s sig 0 (by omega)
    refine ⟨s, ?_, hn, hz⟩
    refine Ev.succ (fun k => print_printer_name_L1.eq_2 ..) ?_
    refine (find_ev sig s hs).bind ?_
    rw [hf]
    exact Ev.t rfl (Ev.pure _)
  | q + 1, s, hq, hz, hn => by
    have sq : (⟨#[39]⟩ : ByteArray).size = 1 := rfl
    by_cases hf : fnd s sig 0 < 0
    · refine ⟨s, ?_, hn, hz⟩
      refine Ev.succ (fun k => print_printer_name_L1.eq_2 ..) ?_
      refine (find_ev sig s hs).bind ?_
      refine Ev.t ?_ (Ev.pure _)
      rw [decide_eq_true hf]; rfl
    · by_cases hsz : 17 ≤ s.size
      · exact absurd (by rw [fnd_long s sig 0 (by omega)]; decide) hf
      have hq' : 17 - (s ++ (⟨#[39]⟩ : ByteArray)).size ≤ q := by rw [ByteArray.size_append, sq]; omega
      obtain ⟨r, r1, r2⟩ := fresh_q sig metas first hs hl q (s ++ (⟨#[39]⟩ : ByteArray)) hq' (by rw [ByteArray.size_append, sq]; omega) (nmS_app hn)
      refine ⟨r, ?_, r2⟩
      refine Ev.succ (fun k => print_printer_name_L1.eq_2 ..) ?_
      refine (find_ev sig s hs).bind ?_
      rw [decide_eq_false hf]
      refine Ev.f rfl ?_
      exact Ev.need (by rw [sq]; simp only [decide_eq_true_eq]; omega) r1

/-- The name of a variable. -/
theorem nameQ {sig : List Dc} (hs : sigOK sig = true) (n : Int) (h0 : 0 ≤ n) (h1 : n ≤ 98) :
    ∃ r, Ev (fun k => print_printer_name k n ⟨sig, [], 0⟩) r ∧ Ev (fun k => R07_Printer_variable k ⟨sig, [], []⟩ n) r ∧ nmS r = true ∧ r.size ≤ 20 := by
  have hl := longest_le sig (sigOK_names hs)
  obtain ⟨r, r1, r2⟩ := name_ev sig [] [] hs hl ⟨by simp, fun i s h => by simp at h⟩ n h0 h1
  refine ⟨r, r1, r2, ?_⟩
  have hw : IntKind.i64.wrap (n + 1) = n + 1 := wrap_i64 (by omega) (by omega)
  have hz := itoa_size (n + 1) (by omega) (by omega)
  have s120 : (⟨#[120]⟩ : ByteArray).size = 1 := rfl
  obtain ⟨r', e1, e2⟩ := fresh_q sig [] 0 hs hl 17 ((⟨#[120]⟩ : ByteArray) ++ itoaF (n + 1)) (by omega) (by rw [ByteArray.size_append, s120]; omega) (nmS_start (n + 1) (by omega) (by omega))
  have e3 : Ev (fun k => print_printer_name k n ⟨sig, [], 0⟩) r' := by
    refine Ev.succ (fun k => print_printer_name.eq_2 ..) ?_
    refine Ev.f (by simpa using h0) ?_
    rw [hw]
    refine Ev.need (by simp only [decide_eq_true_eq]; omega) ?_
    exact Ev.need (by simp only [s120, decide_eq_true_eq]; omega) e1
  rw [Ev.unique r1 e3]
  exact e2

/-- The text of a term, by both. -/
theorem text_both {sig : List Dc} {t : Tm} (hs : sigOK sig = true) (hp : isProper t = true) (n : Int) (h0 : 0 ≤ n) (h1 : n ≤ 30) :
    ∃ s, Ev (fun k => print_Text k sig [] n t) s ∧ Ev (fun k => R07_Printer_Text k ⟨sig, [], []⟩ n t) s ∧ s.1.size ≤ 8000 := by
  obtain ⟨r, r1, r2, r3, r4⟩ := raw_both (metas := []) hs (by simp) rfl hp n h0 h1
  by_cases he : r.2 = 0
  · obtain ⟨k1, k2⟩ := rawOK_facts (r3 he)
    obtain ⟨T', u1, u2, u3⟩ := text_ev r.1.sk.count r.1 k1 (Nat.le_refl _) (by omega)
    obtain ⟨T, t1, t2⟩ := syntaxText_ev (r3 he)
    rw [← Ev.unique t2 u1] at u2
    refine ⟨(T, 0), ?_, ?_, by simp only; omega⟩
    · refine Ev.succ (fun k => print_Text.eq_2 ..) ?_
      refine r1.bind (Ev.f (bneI' he) (t1.bind (Ev.pure _)))
    · refine Ev.succ (fun k => R07_Printer_Text.eq_2 ..) ?_
      exact r2.bind (Ev.f (bneI' he) (t2.bind (Ev.pure _)))
  · refine ⟨((⟨#[]⟩ : ByteArray), r.2), ?_, ?_, Nat.zero_le _⟩
    · refine Ev.succ (fun k => print_Text.eq_2 ..) ?_
      exact r1.bind (Ev.t (bneI he) (Ev.pure _))
    · refine Ev.succ (fun k => R07_Printer_Text.eq_2 ..) ?_
      exact r2.bind (Ev.t (bneI he) (Ev.pure _))

abbrev sepC : ByteArray := ⟨#[44, 32]⟩
abbrev colB2 : ByteArray := ⟨#[58]⟩

theorem join_snoc (x : List UInt8) (sep : List UInt8) : ∀ (l : List (List UInt8)), l ≠ [] → Lib.join (l ++ [x]) sep = Lib.join l sep ++ (sep ++ x)
  | [], h => absurd rfl h
  | y :: l, _ => by
    rw [List.cons_append, Lib.join_cons, Lib.join_cons]
    simp only [Lib.joinTail, List.map_append, List.flatten_append, List.map_cons, List.map_nil, List.flatten_cons, List.flatten_nil, List.append_nil, List.append_assoc]

theorem joinF_nil (sep : ByteArray) : joinF [] sep = (⟨#[]⟩ : ByteArray) := rfl
theorem joinF_one (x sep : ByteArray) : joinF [x] sep = x := by
  refine ba_ext ?_
  simp only [joinF, List.map_cons, List.map_nil, Lib.join_one]
theorem joinF_snoc (l : List ByteArray) (x sep : ByteArray) (h : l ≠ []) : joinF (l ++ [x]) sep = joinF l sep ++ (sep ++ x) := by
  refine ba_ext ?_
  rw [app_toList, app_toList]
  simp only [joinF, List.map_append, List.map_cons, List.map_nil]
  exact join_snoc _ _ _ (by simpa using h)

theorem good2_ev (l : List Tm) (hl : l.length < 2000000000000000000) : ∀ (ts : List Tm) (i : Nat), l.drop i = ts → i + ts.length = l.length → Ev (fun k => print_good_L2 k l (i : Int)) (ts.all isProper)
  | [], i, hd, hi => by
    refine Ev.succ (fun k => print_good_L2.eq_2 ..) ?_
    simp only [List.length_nil, Nat.add_zero] at hi
    exact Ev.f (by rw [Tm.encL_length]; simp [hi]) (Ev.pure _)
  | t :: ts, i, hd, hi => by
    refine Ev.succ (fun k => print_good_L2.eq_2 ..) ?_
    simp only [List.length_cons] at hi
    refine Ev.t (by rw [Tm.encL_length]; simp; omega) (Ev.some (idx_get (getDrop hd)) ?_)
    rw [wrapS (show i < 2000000000000000000 by omega)]
    cases hp : isProper t with
    | false => exact Ev.t rfl ((Ev.pure _).eq (by simp [hp]))
    | true => exact Ev.f rfl ((good2_ev l hl ts (i + 1) (dropDrop hd) (by omega)).eq (by simp [hp]))

theorem goods_ev (sig : List Dc) (l : List Tm) (hl : l.length < 2000000000000000000) : Ev (fun k => print_good k sig [] l) (sigOK sig && l.all isProper) := by
  refine Ev.succ (fun k => print_good.eq_2 ..) ?_
  refine (check_ev sig).bind ?_
  cases hs : sigOK sig with
  | false => exact Ev.t rfl (Ev.pure _)
  | true =>
    refine Ev.f rfl ?_
    refine Ev.succ (fun k => print_good_L1.eq_2 ..) ?_
    exact Ev.f rfl ((good2_ev l hl l 0 rfl (by simp)).eq (by simp))

theorem context_both {sig : List Dc} {ctx : List Tm} (hs : sigOK sig = true) (hp : ctx.all isProper = true) (hc : ctx.length ≤ 30) :
    ∃ s, Ev (fun k => print_Context_L1 k ctx sig [] 0) s ∧ Ev (fun k => R07_Context_L1 k ctx sig (⟨#[]⟩ : ByteArray) 0) s := by
  have s2 : sepC.size = 2 := rfl
  have s1 : colB2.size = 1 := rfl
  have loop : ∀ (j i : Nat) (l : List ByteArray), i + j = ctx.length → l.length = i → (joinF l sepC).size ≤ i * 8100 →
      ∃ s, Ev (fun k => print_Context_L1 k ctx sig l (i : Int)) s ∧ Ev (fun k => R07_Context_L1 k ctx sig (joinF l sepC) (i : Int)) s := by
    intro j
    induction j with
    | zero =>
      intro i l hij hli hsz
      refine ⟨(joinF l sepC, 0), ?_, ?_⟩
      · refine Ev.succ (fun k => print_Context_L1.eq_2 ..) ?_
        refine Ev.f (by rw [Tm.encL_length]; simp; omega) ?_
        exact Ev.need (decide_eq_true ⟨by omega, Nat.le_trans hsz (by omega)⟩) (Ev.pure _)
      · refine Ev.succ (fun k => R07_Context_L1.eq_2 ..) ?_
        exact Ev.f (by rw [Tm.encL_length]; simp; omega) (Ev.pure _)
    | succ j ih =>
      intro i l hij hli hsz
      obtain ⟨t, ht, htm, htg⟩ := idxOf (l := ctx) (i := i) (by omega)
      have htp : isProper t = true := List.all_eq_true.1 hp t htm
      obtain ⟨s, e1, e2, e3⟩ := text_both hs htp (i : Int) (by omega) (by omega)
      have hlt : decide ((i : Int) < ((Tm.encL ctx).length : Int)) = true := by rw [Tm.encL_length]; simp; omega
      by_cases he : s.2 = 0
      · obtain ⟨nm, n1, n2, n3, n4⟩ := nameQ hs (i : Int) (by omega) (by omega)
        by_cases h16 : nm.size ≤ 16
        · have hjn : joinF (l ++ [((nm ++ colB2) ++ s.1)]) sepC = if i = 0 then (nm ++ colB2) ++ s.1 else joinF l sepC ++ (sepC ++ ((nm ++ colB2) ++ s.1)) := by
            split
            · rename_i h
              have : l = [] := List.eq_nil_of_length_eq_zero (by omega)
              rw [this, List.nil_append, joinF_one]
            · rename_i h
              exact joinF_snoc _ _ _ (by intro e; rw [e] at hli; simp at hli; omega)
          have hsz' : (joinF (l ++ [((nm ++ colB2) ++ s.1)]) sepC).size ≤ (i + 1) * 8100 := by
            rw [hjn]
            split
            · simp only [ByteArray.size_append, s1]; omega
            · simp only [ByteArray.size_append, s1, s2]; omega
          obtain ⟨r, r1, r2⟩ := ih (i + 1) (l ++ [((nm ++ colB2) ++ s.1)]) (by omega) (by simp [hli]) hsz'
          refine ⟨r, ?_, ?_⟩
          · refine Ev.succ (fun k => print_Context_L1.eq_2 ..) ?_
            refine Ev.t hlt (Ev.some ht (e1.bind (Ev.f (bneI' he) (n1.bind (Ev.f (by simp; omega) (n1.bind ?_))))))
            refine Ev.need (by simp only [s1, decide_eq_true_eq]; omega) (Ev.need (by simp only [ByteArray.size_append, s1, decide_eq_true_eq]; omega) (Ev.need (by simp; omega) ?_))
            rw [wrapS (by omega)]
            exact r1
          · refine Ev.succ (fun k => R07_Context_L1.eq_2 ..) ?_
            refine Ev.t hlt (Ev.some ht (e2.bind (Ev.f (bneI' he) ?_)))
            rw [wrapS (by omega)]
            have hnm : refNameF nm = true := by rw [nmS_name n3]; simpa using h16
            rw [hjn] at r2
            by_cases hi0 : i = 0
            · subst hi0
              rw [if_pos rfl] at r2
              have : l = [] := List.eq_nil_of_length_eq_zero (by omega)
              subst this
              refine Ev.f (by decide) (n2.bind (Ev.f (by rw [hnm]; rfl) ?_))
              rw [joinF_nil, emptyL, ByteArray.empty_append]
              have s0 : ByteArray.empty.size = 0 := rfl
              refine Ev.need (by simp only [s0, decide_eq_true_eq]; omega) (Ev.need (by simp only [s1, decide_eq_true_eq]; omega) (Ev.need (by simp only [ByteArray.size_append, s1, decide_eq_true_eq]; omega) ?_))
              exact r2
            · rw [if_neg hi0] at r2
              refine Ev.t (by simp; omega) (Ev.need (by simp only [s2, decide_eq_true_eq]; omega) (n2.bind (Ev.f (by rw [hnm]; rfl) ?_)))
              refine Ev.need (by simp only [ByteArray.size_append, s2, decide_eq_true_eq]; omega) (Ev.need (by simp only [ByteArray.size_append, s1, s2, decide_eq_true_eq]; omega) (Ev.need (by simp only [ByteArray.size_append, s1, s2, decide_eq_true_eq]; omega) ?_))
              simp only [ByteArray.append_assoc] at r2 ⊢
              exact r2
        · refine ⟨((⟨#[]⟩ : ByteArray), 5), ?_, ?_⟩
          · refine Ev.succ (fun k => print_Context_L1.eq_2 ..) ?_
            exact Ev.t hlt (Ev.some ht (e1.bind (Ev.f (bneI' he) (n1.bind (Ev.t (by simp; omega) (Ev.pure _))))))
          · refine Ev.succ (fun k => R07_Context_L1.eq_2 ..) ?_
            have hnm : refNameF nm = false := by rw [nmS_name n3]; simpa using h16
            refine Ev.t hlt (Ev.some ht (e2.bind (Ev.f (bneI' he) ?_)))
            by_cases hi0 : i = 0
            · subst hi0
              exact Ev.f (by decide) (n2.bind (Ev.t (by rw [hnm]; rfl) (Ev.pure _)))
            · exact Ev.t (by simp; omega) (Ev.need (by simp only [s2, decide_eq_true_eq]; omega) (n2.bind (Ev.t (by rw [hnm]; rfl) (Ev.pure _))))
      · refine ⟨((⟨#[]⟩ : ByteArray), s.2), ?_, ?_⟩
        · refine Ev.succ (fun k => print_Context_L1.eq_2 ..) ?_
          exact Ev.t hlt (Ev.some ht (e1.bind (Ev.t (bneI he) (Ev.pure _))))
        · refine Ev.succ (fun k => R07_Context_L1.eq_2 ..) ?_
          exact Ev.t hlt (Ev.some ht (e2.bind (Ev.t (bneI he) (Ev.pure _))))
  exact loop ctx.length 0 [] (by omega) rfl (Nat.le_refl _)

theorem law_loop (sig : List Dc) (ctx : List Tm) (hc : ctx.length < 2000000000000000000) (v : ByteArray × Int)
    (h1 : (sigOK sig && (decide (ctx.length ≤ 30) && ctx.all isProper)) = false → v = ((⟨#[]⟩ : ByteArray), 2)) (h2 : (sigOK sig && (decide (ctx.length ≤ 30) && ctx.all isProper)) = true → Ev (fun k => R07_Context k sig ctx) v) :
    ∀ (ts : List Tm) (i : Nat) (g : Bool), ctx.drop i = ts → i + ts.length = ctx.length → (g && ts.all isProper) = (sigOK sig && (decide (ctx.length ≤ 30) && ctx.all isProper)) → Ev (fun k => W07_PrintContexts_L1 k ctx v sig g (i : Int)) true := by
  have bad : ∀ (i : Int) (g : Bool), g = false → (sigOK sig && (decide (ctx.length ≤ 30) && ctx.all isProper)) = false → Ev (fun k => W07_PrintContexts_L1 k ctx v sig g i) true := by
    intro i g hg hb
    subst hg
    rw [h1 hb]
    refine Ev.succ (fun k => W07_PrintContexts_L1.eq_2 ..) ?_
    refine Ev.f (by simp) (Ev.t rfl (Ev.t (by simp) ?_))
    exact awake_ev.bind (Ev.pure _)
  intro ts
  induction ts with
  | nil =>
    intro i g hd hi hg
    simp only [List.length_nil, Nat.add_zero] at hi
    cases g with
    | false => exact bad _ _ rfl (by rw [← hg]; rfl)
    | true =>
      refine Ev.succ (fun k => W07_PrintContexts_L1.eq_2 ..) ?_
      refine Ev.f (by rw [Tm.encL_length]; simp [hi]) (Ev.f rfl ((h2 (by rw [← hg]; rfl)).bind (Ev.t (by simp) ?_)))
      exact awake_ev.bind (Ev.pure _)
  | cons t ts ih =>
    intro i g hd hi hg
    simp only [List.length_cons] at hi
    cases g with
    | false => exact bad _ _ rfl (by rw [← hg]; rfl)
    | true =>
      refine Ev.succ (fun k => W07_PrintContexts_L1.eq_2 ..) ?_
      refine Ev.t (by rw [Tm.encL_length]; simp; omega) (Ev.some (idx_get (getDrop hd)) ?_)
      rw [wrapS (show i < 2000000000000000000 by omega), refProper_eq]
      exact ih (i + 1) (isProper t) (dropDrop hd) (by omega) (by rw [← hg]; simp)

theorem printContexts_ev (sig : List Dc) (ctx : List Tm) (hc : ctx.length * 48 ≤ 140737488355328) : Ev (fun k => W07_PrintContexts k sig ctx) true := by
  refine Ev.succ (fun k => W07_PrintContexts.eq_2 ..) ?_
  refine Ev.need (by simp only [List.nil_append, Tm.encL_length, decide_eq_true_eq]; exact hc) ?_
  rw [List.nil_append]
  have hlen : ctx.length < 2000000000000000000 := by omega
  have hgood := goods_ev sig ctx hlen
  have start : ∀ {v : ByteArray × Int}, Ev (fun k => print_Context k sig ctx) v → ((sigOK sig && (decide (ctx.length ≤ 30) && ctx.all isProper)) = false → v = ((⟨#[]⟩ : ByteArray), 2)) → ((sigOK sig && (decide (ctx.length ≤ 30) && ctx.all isProper)) = true → Ev (fun k => R07_Context k sig ctx) v) →
      Ev (fun n => (print_Context n sig ctx).bind (fun v8 => (R05_Formed n sig).bind (fun v10 => W07_PrintContexts_L1 n ctx v8 sig (v10 && (decide (((Tm.encL ctx).length : Int) ≤ 30))) 0))) true := by
    intro v hv h1 h2
    refine hv.bind ((formedSig_ev sig).bind ?_)
    refine law_loop sig ctx hlen v h1 h2 ctx 0 _ rfl (by simp) ?_
    rw [Tm.encL_length, Bool.and_assoc]
    have e : decide ((ctx.length : Int) ≤ 30) = decide (ctx.length ≤ 30) := by rw [decide_eq_decide]; omega
    rw [e]
  by_cases hall : (sigOK sig && (decide (ctx.length ≤ 30) && ctx.all isProper)) = true
  · have hall' := hall
    simp only [Bool.and_eq_true, decide_eq_true_eq] at hall'
    obtain ⟨hs, h30, hp⟩ := hall'
    obtain ⟨s, s1, s2⟩ := context_both hs hp h30
    refine start (v := s) ?_ (fun h => by rw [hall] at h; cases h) (fun _ => ?_)
    · refine Ev.succ (fun k => print_Context.eq_2 ..) ?_
      refine hgood.bind ?_
      rw [hs, hp]
      exact Ev.f (by rw [Tm.encL_length]; simp; omega) s1
    · exact Ev.succ (fun k => R07_Context.eq_2 ..) s2
  · refine start (v := ((⟨#[]⟩ : ByteArray), 2)) ?_ (fun _ => rfl) (fun h => absurd h hall)
    refine Ev.succ (fun k => print_Context.eq_2 ..) ?_
    refine hgood.bind (Ev.t ?_ (Ev.pure _))
    rw [Tm.encL_length]
    cases hs : sigOK sig with
    | false => rfl
    | true =>
      cases hp : ctx.all isProper with
      | false => rfl
      | true =>
        rw [hs, hp] at hall
        simp at hall ⊢
        omega
end Go.Proofs.YtpibdcjdamibdaaGreatDoor
end

/-! RowLaid -/
section
namespace Go.Proofs.YtpibdcjdamibdaaGreatDoor
open Go.Tr Go
open Go.ChangeShapes Go.WideShapes Go.ChangeAt Go.RowKit
set_option maxRecDepth 10000

def cellsD : DataW Unit → Array Value
  | .agg l => (l.map fun | .lit (.int k n) => Value.int k n | _ => Value.int .i64 0).toArray
  | _ => #[]
def setCells (vs : Array Value) : Obj → Obj
  | .cells _ t frozen => .cells vs t frozen
  | o => o
noncomputable def laidWorld (os : Os) : World :=
  let w0 := World.holding Tryz.prog os ⟨#[], #[], []⟩
  { w0 with heap := ((w0.heap.modify 1 (setCells (cellsD Rows.laid_internal_strconv_uint64pow10))).modify 2 (setCells (cellsD Rows.laid_math_bits_deBruijn32tab))).modify 3 (setCells (cellsD Rows.laid_math_bits_deBruijn64tab)) }
theorem laidWorld_met (os : Os) (args : Array Value) : laidMet Tryz.prog Rows.printContextsRow.laid ((laidWorld os).forCall (fun _ _ => 0) ⟨#[], args, []⟩).memory :=
  laidMet_of_run3 8 (by kernel_rfl) (by kernel_rfl) (by kernel_rfl)
end Go.Proofs.YtpibdcjdamibdaaGreatDoor
end

/-! RowPC -/
section
namespace Go.Proofs.YtpibdcjdamibdaaGreatDoor
open Go.Tr Go
open Go.ChangeShapes Go.WideShapes Go.ChangeAt Go.RowKit
set_option maxRecDepth 10000

theorem printContexts_spec (sig : List Dc) (ctx : List Tm) (a2 a4 : Option Addr) (c2 c4 : Nat) (hc : ctx.length * 48 ≤ 140737488355328) :
    Pure Tryz.prog (fnS 5) [(.v (.slice a2 ((Dc.encL sig).length) c2)), (.v (.slice a4 ((Tm.encL ctx).length) c4))] [(.slice a2 ((Dc.encL sig).length) c2, .sl 6 (Dc.encL sig)), (.slice a4 ((Tm.encL ctx).length) c4, .sl 4 (Tm.encL ctx))] (fun r out => r = bS true ∧ out = []) := by
  obtain ⟨N, h⟩ := printContexts_ev sig ctx hc
  exact W07_PrintContexts_spec N sig ctx a2 c2 a4 c4 _ (h N (Nat.le_refl _))

set_option maxRecDepth 100000 in
theorem printContexts_lifted (os : Os) (started : os.Started) (H : Type) (enc : TypeId × Value → H) :
    ReturnsInHanded {} Tryz.checked os 5 .any (fun w args => (Rows.printContextsSpec.pre enc Tryz.prog Tryz.f5 Rows.printContextsRow.domain false w args ∧ laidMet Tryz.prog Rows.printContextsRow.laid w) ∧ sizedMet enc Tryz.prog Tryz.f5 (OpenSpec.ofChange Rows.printContextsSpec) false w args)
      (Rows.printContextsSpec.post enc Tryz.prog Tryz.f5 false true false false) := by
  refine returnsInHanded_of_change_and (C := Tryz.checked) (X := fun w _ => laidMet Tryz.prog Rows.printContextsRow.laid w) (fun _ _ _ hh h => h.of_heap hh) own started (by kernel_rfl) Tryz.func5
    (ChangeSpec.witness_at (enc := enc) (C := Tryz.checked) (os := os) (X := fun w _ => laidMet Tryz.prog Rows.printContextsRow.laid w) false (laidWorld os) #[.slice none 0 0, .slice none 0 0] 8 rfl (by kernel_rfl) (by kernel_rfl) (by kernel_rfl) (by kernel_rfl) (by kernel_rfl) (laidWorld_met os _)) ?_
  intro W base args ds gs before hval0 hW _ hsz0 hL _
  have hsz : (DataW.weightsEach Tryz.prog (Tryz.f5.params.toList ++ Rows.printContextsSpec.plain.varTypes Tryz.prog) (ds ++ gs)).all (· ≤ reachBytes) = true := hsz0
  clear hsz0
  have hval : ∀ (j : Nat) t v, Tryz.f5.params[j]? = some t → args[j]? = some v → Value.okWide Tryz.prog W .any base t v := hval0
  have hW' := hW
  obtain ⟨p, q, hA0, hV, rfl, _, _⟩ := hW
  have hA : DataW.TrodAll enc Tryz.prog W 0 (fun _ => true) true Tryz.f5.params.toList args.toList ds p := hA0
  rw [Tryz.params5] at hA hval
  have hsz : (DataW.weightsEach Tryz.prog ([22, 24] ++ []) (ds ++ gs)).all (· ≤ reachBytes) = true := by
    have := hsz
    rw [Tryz.params5] at this
    exact this
  obtain ⟨v0, vs0, d0, ds0, p0, q0, ha0, rfl, rfl, h0, r0⟩ := trodAll_cons hA
  obtain ⟨v1, vs1, d1, ds1, p1, q1, rfl, rfl, rfl, h1, r1⟩ := trodAll_cons r0
  obtain ⟨rfl, rfl, rfl⟩ := trodAll_nil r1
  obtain ⟨rfl, rfl⟩ := trodVars_none hV
  obtain rfl : args = #[v0, v1] := by rw [← Array.toList_inj, ha0]
  have hw := all_le hsz
  simp only [List.append_nil, DataW.weightsEach, List.mem_append] at hw
  obtain ⟨sig, a2, c2, rfl, e2⟩ := argl_Dc (hval 0 _ _ rfl rfl) h0 (fun y hy => hw y (.inl hy))
  obtain ⟨ctx, a4, c4, rfl, e4⟩ := argl_Tm (hval 1 _ _ rfl rfl) h1 (fun y hy => hw y (.inr hy))
  have hc : ctx.length * 48 ≤ 140737488355328 := by
    obtain ⟨n, hn⟩ := h1
    have h3 := slice_weight Tryz.underlying24 hn (fun y hy => hw y (.inr hy))
    rw [Tm.encL_length, show Tryz.prog.bytesOf 26 = 48 by kernel_rfl] at h3
    exact Nat.le_trans h3 (by decide)
  refine ((printContexts_spec sig ctx a2 a4 c2 c4 hc).calls Tryz.call5 (W := W) ?_).mono ?_
  · intro r hr
    simp only [List.mem_cons, List.not_mem_nil, or_false] at hr
    rcases hr with rfl | rfl
    · exact e2
    · exact e4
  rintro e W' ⟨r, out, rfl, ⟨rfl, rfl⟩, hx⟩
  refine ⟨_, rfl, post_true kids full hW' rfl ?_ ?_ (by kernel_rfl) Tryz.underlying4 hx⟩
  · rw [Tryz.params5]
    decide +kernel
  · intro ds hl
    rw [Tryz.params5] at hl
    match ds, hl with
    | [_, _], _ => rfl

theorem printContexts_holds : Rows.PrintContextsSaid :=
  OpenClaim.holds_of_wide 5 Tryz.f5 rfl rfl rfl rfl rfl rfl rfl ⟨rfl, rfl, rfl, rfl, rfl⟩ rfl rfl rfl rfl rfl (by kernel_rfl) Tryz.func5 (by kernel_rfl)
    (of_decide_eq_true (by kernel_rfl)) (by unfold Func.isWrapper; first | (rw [if_pos (by decide +kernel)]; kernel_rfl) | (rw [if_neg (by decide +kernel)]; exact ⟨rfl, rfl⟩))
    (fun os started H enc _ => printContexts_lifted os started H enc)
#print axioms printContexts_holds
end Go.Proofs.YtpibdcjdamibdaaGreatDoor
end

/-! CardPC -/
section
namespace Go.Proofs.YtpibdcjdamibdaaGreatDoor
open Go

theorem printContextsCard_holds : Rows.PrintContextsCardSaid :=
  Claim7.holds_tied_plain_at .later [] [.data, .data, .data] true (true, "2ec2fbd42a1da2db79c369b39067d0c462011c384d735f7402b3eb777f9cd143") false
    printContexts_holds (fun _ h => by cases h) (by kernel_rfl) (fun _ h => by cases h) printContexts_row_tie rfl ⟨rfl, rfl⟩ (by kernel_rfl) rfl
    (fun f fn hf hfn => by
      obtain rfl : f = 5 := Option.some.inj ((show Tryz.prog.funcNamed "truss/trusslaw07.PrintContexts" = some 5 by kernel_rfl).symm.trans hf) |>.symm
      obtain rfl : fn = Tryz.f5 := (Option.some.inj (Tryz.func5.symm.trans hfn)).symm
      exact ⟨by kernel_rfl, fun j t ht => by
        rw [Tryz.params5] at ht
        have h3 : t = 22 ∨ t = 24 := by
          rcases j with _ | _ | j
          · left; simpa using ht.symm
          · right; simpa using ht.symm
          · simp at ht
        rcases h3 with rfl | rfl
        · exact (show Tryz.prog.wantsStandIn 22 = false by kernel_rfl)
        · exact (show Tryz.prog.wantsStandIn 24 = false by kernel_rfl)⟩)
    (by kernel_rfl)
#print axioms printContextsCard_holds
end Go.Proofs.YtpibdcjdamibdaaGreatDoor
end
