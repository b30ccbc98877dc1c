/- Merged texts: EvU EvV EvW EvX RowLaid RowPD CardPD. Plain law: raw expressions of terms, by print and by trussref07. No program in sight. Plain law: PrintTerms answers true. No program in sight. Plain law: Decl, Line and Lines, by print and by trussref07. No program in sight. Plain law: PrintDecls answers true. No program in sight. A start at which the listed tables read as their initialisers lay them. No condition. PrintDecls answers true at every input, and its argument reads as it did. No condition. PrintDecls: the card: the row, its listed tables tied to the program's text by the given tie. No condition. -/
import Derived.Test.YtnolnmfpmhpapaaGreatDoorQL
import Derived.KernelRfl
import Derived.JoinedAt
import Derived.LaidLaws
import Derived.Deep.DeepLaidRun
import Derived.Test.YtnolnmfpmhpapaaGreatDoorCards
import Derived.Test.YtnolnmfpmhpapaaGreatDoorTie
import Derived.SevenTiedAt
/-! EvU -/
section
namespace Go.Proofs.YtnolnmfpmhpapaaGreatDoor
open Go.Tr Go
set_option linter.unusedVariables false
set_option linter.unusedSimpArgs false
set_option maxRecDepth 10000

mutual
theorem nodesS_moved (c m : Nat) : ∀ (t : Tm) (v k : Int), okAll t = true → 0 ≤ k → k ≤ v → lowF t k k = false → nodesS c m t (v + 1) = true → nodesS c m (movedF t (-1) k) v = true
  | .mk o h n us, v, k, hok, hk, hkv, hl, hs => by
    have hn := okAll_n hok
    simp only [Tm.n] at hn
    simp only [okAll, Bool.and_eq_true] at hok
    simp only [lowF, Bool.or_eq_false_iff] at hl
    simp only [nodesS, Bool.and_eq_true] at hs
    simp only [movedF, nodesS, Bool.and_eq_true]
    refine ⟨?_, nodesS_movedL c m o us 0 v k hok.2 hk hkv hl.2 hs.2⟩
    have h1 := hs.1
    by_cases h2 : (o = 4 ∧ h = 1) ∧ n ≥ k
    · rw [if_pos h2]
      obtain ⟨⟨e1, e2⟩, e3⟩ := h2
      subst e1 e2
      have h4 : n ≠ k := by
        intro e
        have := hl.1
        subst e
        simp at this
      rw [wrap_i64 (by omega) (by omega)]
      simp [nodeS] at h1 ⊢
      omega
    · rw [if_neg h2]
      simp only [nodeS, Bool.or_eq_true, Bool.and_eq_true, bne_iff_ne, ne_eq, decide_eq_true_eq] at h1 ⊢
      rcases h1 with h1 | ⟨h1, h3⟩
      · exact .inl h1
      · by_cases h6 : o = 4
        · refine .inr ⟨?_, h3⟩
          rcases h1 with h1 | h1
          · exact .inl h1
          · by_cases h5 : h = 1
            · right
              have : ¬ n ≥ k := fun h7 => h2 ⟨⟨h6, h5⟩, h7⟩
              omega
            · exact .inl h5
        · exact .inl h6
theorem nodesS_movedL (c m : Nat) : ∀ (o : Int) (us : List Tm) (i : Nat) (v k : Int), okAllL us = true → 0 ≤ k → k ≤ v → lowL o us i k k = false → nodesSL c m o us i (v + 1) = true → nodesSL c m o (movedL o us i (-1) k) i v = true
  | o, [], i, v, k, _, _, _, _, _ => rfl
  | o, u :: us, i, v, k, hok, hk, hkv, hl, hs => by
    simp only [okAllL, Bool.and_eq_true] at hok
    simp only [lowL, Bool.or_eq_false_iff] at hl
    simp only [nodesSL, Bool.and_eq_true] at hs
    have hu := under_le o i
    simp only [movedL, nodesSL, Bool.and_eq_true]
    have e : v + 1 + under o i = v + under o i + 1 := by omega
    rw [e] at hs
    exact ⟨nodesS_moved c m u _ _ hok.1 (by omega) (by omega) hl.1 hs.1, nodesS_movedL c m o us (i + 1) v k hok.2 hk hkv hl.2 hs.2⟩
 end
mutual
theorem full_moved (sig : List Dc) (b : Int) : ∀ (t : Tm) (k : Int), fullB sig (movedF t b k) = fullB sig t
  | .mk o h n us, k => by
    simp only [movedF, fullB, movedL_length, full_movedL sig b o us 0 k]
    congr 1
    by_cases h1 : (o = 4 ∧ h = 1) ∧ n ≥ k
    · rw [if_pos h1]
      obtain ⟨⟨e1, e2⟩, _⟩ := h1
      subst e1 e2
      simp [nodeF]
    · rw [if_neg h1]
theorem full_movedL (sig : List Dc) (b : Int) : ∀ (o : Int) (us : List Tm) (i : Nat) (k : Int), fullL sig (movedL o us i b k) = fullL sig us
  | o, [], i, k => rfl
  | o, u :: us, i, k => by simp only [movedL, fullL, full_moved sig b u, full_movedL sig b o us]
 end

theorem nodesSL_get {c m : Nat} {o : Int} : ∀ {us : List Tm} {i : Nat} {v : Int} {j : Nat} {u : Tm}, nodesSL c m o us i v = true → us[j]? = some u → nodesS c m u (v + under o ((i + j : Nat) : Int)) = true
  | [], i, v, j, u, _, hu => by simp at hu
  | x :: us, i, v, 0, u, h, hu => by
    simp only [nodesSL, Bool.and_eq_true] at h
    simp at hu; subst hu; exact h.1
  | x :: us, i, v, j + 1, u, h, hu => by
    simp only [nodesSL, Bool.and_eq_true] at h
    have := nodesSL_get h.2 (j := j) (by simpa using hu)
    rw [show i + 1 + j = i + (j + 1) by omega] at this
    exact this
theorem fullL_get {sig : List Dc} : ∀ {us : List Tm} {j : Nat} {u : Tm}, fullL sig us = true → us[j]? = some u → fullB sig u = true
  | [], j, u, _, hu => by simp at hu
  | x :: us, 0, u, h, hu => by
    simp only [fullL, Bool.and_eq_true] at h
    simp at hu; subst hu; exact h.1
  | x :: us, j + 1, u, h, hu => by
    simp only [fullL, Bool.and_eq_true] at h
    exact fullL_get h.2 (by simpa using hu)

theorem proper_arg {t u : Tm} (h : isProper t = true) (hu : u ∈ t.args) : isProper u = true := by
  have h1 := (isProper_iff t).1 h
  rw [isProper_iff]
  have h2 := Tm.height_le hu
  have h3 := arg_count hu
  have h4 := Tm.height_eq t
  exact ⟨okAll_arg h1.1 hu, by omega, by omega⟩

theorem node_ev (o : Int) (s : ByteArray) (l : List Rw) : Ev (fun k => print_node k o s l) (Rw.mk o s l) := by
  refine Ev.succ (fun k => print_node.eq_2 ..) ?_
  exact Ev.pure _

section
variable {sig : List Dc} {metas : List Mt} {names : List ByteArray} (K : Known sig metas names)
include K

/-- Both make the same raw expression of a term whose heads are there. -/
theorem raw_ev : ∀ (c : Nat) (t : Tm) (n : Int), t.count ≤ c → isProper t = true → 0 ≤ n → n + t.height ≤ 90 → nodesS sig.length metas.length t n = true → fullB sig t = true →
    ∃ r, Ev (fun k => print_printer_raw k t n ⟨sig, metas, names.length⟩) (r, 0) ∧ Ev (fun k => R07_Printer_raw k ⟨sig, metas, names⟩ n t) r
  | 0, t, n, hc, _, _, _, _, _ => by have := Tm.count_pos t; omega
  | c + 1, t, n, hc, hp, hn0, hn1, hs, hf => by
    obtain ⟨hok, hh, hcc⟩ := proper_small hp
    have hhe := Tm.height_eq t
    have hcl := Tm.length_le_countL t.args
    have hce := Tm.count_eq t
    have hw : IntKind.i64.wrap (n + 1) = n + 1 := wrap_i64 (by omega) (by omega)
    rw [nodesS_eq, Bool.and_eq_true] at hs
    rw [fullB_eq, Bool.and_eq_true] at hf
    have sub : ∀ (j : Nat) (u : Tm), t.args[j]? = some u → ∀ x : Int, x = n + under t.op (j : Int) → ∃ r, Ev (fun k => print_printer_raw k u x ⟨sig, metas, names.length⟩) (r, 0) ∧ Ev (fun k => R07_Printer_raw k ⟨sig, metas, names⟩ x u) r := by
      intro j u hu x hx
      subst hx
      have hum := List.mem_of_getElem? hu
      have h1 := arg_count hum
      have h2 := Tm.height_le hum
      have h3 := under_le t.op j
      have h4 := nodesSL_get hs.2 hu
      rw [Nat.zero_add] at h4
      exact raw_ev c u _ (by omega) (proper_arg hp hum) (by omega) (by omega) h4 (fullL_get hf.2 hu)
    rcases okAll_op hok with ho | ho | ho | ho
    · refine ⟨Rw.mk 1 (⟨#[]⟩) [], ?_, ?_⟩
      · refine Ev.succ (fun k => print_printer_raw.eq_2 ..) ?_
        exact Ev.t (beqI ho) ((node_ev _ _ _).bind (Ev.pure _))
      · refine Ev.succ (fun k => R07_Printer_raw.eq_2 ..) ?_
        exact Ev.t (beqI ho) (Ev.pure _)
    · obtain ⟨a, b, e, _⟩ := okAll_two hok ho
      have i0 : idx t.args 0 = some a := by rw [e]; rfl
      have i1 : idx t.args 1 = some b := by rw [e]; rfl
      have hbm : b ∈ t.args := by rw [e]; simp
      have hbp := proper_arg hp hbm
      obtain ⟨A, a1, a2⟩ := sub 0 a (by rw [e]; rfl) n (by rw [under]; simp [ho])
      obtain ⟨nm, n1, n2⟩ := name_ev sig metas names K.ok K.long K.first n hn0 (by omega)
      have ub : n + 1 = n + under t.op ((1 : Nat) : Int) := by rw [under]; simp [ho]
      cases hl : lowF b 0 0 with
      | true =>
        obtain ⟨B, b1, b2⟩ := sub 1 b (by rw [e]; rfl) (n + 1) ub
        refine ⟨Rw.mk 5 nm [A, B], ?_, ?_⟩
        · refine Ev.succ (fun k => print_printer_raw.eq_2 ..) ?_
          refine Ev.f (beqI' (by omega)) (Ev.t (beqI ho) ?_)
          refine Ev.bind (x := (Rw.mk 5 nm [A, B], 0)) ?_ (Ev.pure _)
          refine Ev.succ (fun k => print_printer_pi.eq_2 ..) ?_
          refine Ev.some i0 (a1.bind (Ev.f rfl (Ev.some i1 ((occurs_ev hbp).bind ?_))))
          rw [hl]
          refine Ev.t rfl (Ev.some i1 ?_)
          rw [hw]
          exact b1.bind (n1.bind ((node_ev _ _ _).bind (Ev.pure _)))
        · refine Ev.succ (fun k => R07_Printer_raw.eq_2 ..) ?_
          refine Ev.f (beqI' (by omega)) (Ev.t (beqI ho) ?_)
          refine Ev.some i0 (a2.bind (Ev.some i1 ((refOccurs_ev hbp).bind ?_)))
          rw [hl]
          refine Ev.f rfl (Ev.some i1 (n2.bind ?_))
          rw [hw]
          exact b2.bind (Ev.pure _)
      | false =>
        have hbh := Tm.height_le hbm
        have hbc := arg_count hbm
        obtain ⟨hbok, hbh2, hbc2⟩ := proper_small hbp
        have hsb := nodesSL_get hs.2 (j := 1) (u := b) (by rw [e]; rfl)
        rw [Nat.zero_add, ← ub] at hsb
        obtain ⟨B, b1, b2⟩ := raw_ev c (movedF b (-1) 0) n (by rw [moved_count]; omega) (moved_proper hbp hl) hn0 (by rw [moved_height]; omega) (nodesS_moved _ _ b n 0 hbok (by omega) (by omega) hl hsb) (by rw [full_moved]; exact fullL_get hf.2 (j := 1) (by rw [e]; rfl))
        refine ⟨Rw.mk 6 (⟨#[]⟩) [A, B], ?_, ?_⟩
        · refine Ev.succ (fun k => print_printer_raw.eq_2 ..) ?_
          refine Ev.f (beqI' (by omega)) (Ev.t (beqI ho) ?_)
          refine Ev.bind (x := (Rw.mk 6 (⟨#[]⟩) [A, B], 0)) ?_ (Ev.pure _)
          refine Ev.succ (fun k => print_printer_pi.eq_2 ..) ?_
          refine Ev.some i0 (a1.bind (Ev.f rfl (Ev.some i1 ((occurs_ev hbp).bind ?_))))
          rw [hl]
          refine Ev.f rfl (Ev.some i1 ?_)
          have hm : Ev (fun k => term_Moved k b (-1) 0) (movedF b (-1) 0) := by
            refine Ev.succ (fun k => term_Moved.eq_2 ..) ?_
            exact (moved_ev b 0 (by omega) (by omega) (by omega) hbok).bind (Ev.pure _)
          exact hm.bind (b1.bind ((node_ev _ _ _).bind (Ev.pure _)))
        · refine Ev.succ (fun k => R07_Printer_raw.eq_2 ..) ?_
          refine Ev.f (beqI' (by omega)) (Ev.t (beqI ho) ?_)
          refine Ev.some i0 (a2.bind (Ev.some i1 ((refOccurs_ev hbp).bind ?_)))
          rw [hl]
          refine Ev.t rfl (Ev.some i1 ?_)
          have hm : Ev (fun k => R07_lowered k b) (movedF b (-1) 0) := by
            refine Ev.succ (fun k => R07_lowered.eq_2 ..) ?_
            rw [shift_low hbp hl]
            exact Ev.pure _
          exact hm.bind (b2.bind (Ev.pure _))
    · obtain ⟨a, e, _⟩ := okAll_one hok ho
      have i0 : idx t.args 0 = some a := by rw [e]; rfl
      obtain ⟨A, a1, a2⟩ := sub 0 a (by rw [e]; rfl) (n + 1) (by rw [under]; simp [ho])
      obtain ⟨nm, n1, n2⟩ := name_ev sig metas names K.ok K.long K.first n hn0 (by omega)
      refine ⟨Rw.mk 7 nm [Rw.mk 3 (⟨#[]⟩) [], A], ?_, ?_⟩
      · refine Ev.succ (fun k => print_printer_raw.eq_2 ..) ?_
        refine Ev.f (beqI' (by omega)) (Ev.f (beqI' (by omega)) (Ev.t (beqI ho) (Ev.some i0 ?_)))
        rw [hw]
        exact a1.bind (n1.bind ((node_ev _ _ _).bind ((node_ev _ _ _).bind (Ev.pure _))))
      · refine Ev.succ (fun k => R07_Printer_raw.eq_2 ..) ?_
        refine Ev.f (beqI' (by omega)) (Ev.f (beqI' (by omega)) (Ev.t (beqI ho) (Ev.some i0 (n2.bind ?_))))
        rw [hw]
        exact a2.bind (Ev.pure _)
    · obtain ⟨hd, h1, h2, h3⟩ := head_ev K hok ho n hn0 (by omega)
      rw [hs.1, hf.1] at h2
      obtain ⟨h4, h5⟩ := h3 h2
      have hpos := okAll_n hok
      -- how many arguments are left out
      obtain ⟨q, hq, hql, hqr⟩ : ∃ q : Nat, hd.2.1 = (q : Int) ∧ q ≤ t.args.length ∧ (t.hd = 2 → ∃ d, idx sig t.n = some d ∧ d.implicit = (q : Int)) := by
        by_cases hh2 : t.hd = 2
        · have hlt : t.n < (sig.length : Int) := by
            have := hs.1
            simp [nodeS, ho, hh2] at this
            exact this
          obtain ⟨d, hd', hdm⟩ := idx_pre (sig := sig) (n := t.n) hpos.1 hlt
          have hi : impAt sig t.n = d.implicit := by rw [impAt, hd']
          have hfull := hf.1
          simp only [nodeF, ho, hh2, hi] at hfull
          simp at hfull
          have := (sigOK_imp K.ok d hdm).1
          refine ⟨d.implicit.toNat, ?_, by omega, fun _ => ⟨d, hd', by omega⟩⟩
          rw [h5, if_pos hh2, hi]; omega
        · exact ⟨0, by rw [h5, if_neg hh2]; rfl, by omega, fun h => absurd h hh2⟩
      have fold : ∀ (ts : List Tm) (j : Nat) (acc : Rw), t.args.drop (q + j) = ts → q + j + ts.length = t.args.length → ∃ r, Ev (fun k => print_fold_print_printer_raw_1_L1 k (t.args.drop q) n ⟨sig, metas, names.length⟩ acc (j : Int)) (r, 0) ∧ Ev (fun k => R07_Printer_raw_L1 k t ⟨sig, metas, names⟩ n acc ((q + j : Nat) : Int)) r := by
        intro ts
        induction ts with
        | nil =>
          intro j acc hd' hi
          simp only [List.length_nil, Nat.add_zero] at hi
          refine ⟨acc, ?_, ?_⟩
          · refine Ev.succ (fun k => print_fold_print_printer_raw_1_L1.eq_2 ..) ?_
            exact Ev.f (by simp [Tm.encL_length, List.length_drop]; omega) (Ev.pure _)
          · refine Ev.succ (fun k => R07_Printer_raw_L1.eq_2 ..) ?_
            exact Ev.f (by simp [Tm.encL_length]; omega) (Ev.pure _)
        | cons u ts ihl =>
          intro j acc hd' hi
          simp only [List.length_cons] at hi
          have hu := getDrop hd'
          obtain ⟨U, u1, u2⟩ := sub (q + j) u hu n (by rw [under]; simp [ho])
          obtain ⟨r, r1, r2⟩ := ihl (j + 1) (Rw.mk 4 (⟨#[]⟩) [acc, U]) (by rw [← Nat.add_assoc]; exact dropDrop hd') (by omega)
          refine ⟨r, ?_, ?_⟩
          · refine Ev.succ (fun k => print_fold_print_printer_raw_1_L1.eq_2 ..) ?_
            refine Ev.t (by simp [Tm.encL_length, List.length_drop]; omega) ?_
            refine Ev.some (idx_get (by rw [List.getElem?_drop]; exact hu)) ?_
            refine Ev.bind (x := (Rw.mk 4 (⟨#[]⟩) [acc, U], 0)) ?_ ?_
            · refine Ev.succ (fun k => print_printer_raw_1.eq_2 ..) ?_
              exact u1.bind ((node_ev _ _ _).bind (Ev.pure _))
            refine Ev.f rfl ?_
            rw [wrapS (by omega)]
            exact r1
          · refine Ev.succ (fun k => R07_Printer_raw_L1.eq_2 ..) ?_
            refine Ev.t (by simp [Tm.encL_length]; omega) ?_
            refine Ev.some (idx_get hu) (u2.bind ?_)
            rw [wrapS (by omega)]
            exact r2
      obtain ⟨r, r1, r2⟩ := fold (t.args.drop q) 0 (Rw.mk 2 hd.1 []) (by rw [Nat.add_zero]) (by rw [List.length_drop]; omega)
      refine ⟨r, ?_, ?_⟩
      · refine Ev.succ (fun k => print_printer_raw.eq_2 ..) ?_
        refine Ev.f (beqI' (by omega)) (Ev.f (beqI' (by omega)) (Ev.f (beqI' (by omega)) ?_))
        refine h1.bind ?_
        rw [h2, hq]
        refine Ev.f rfl (Ev.need (by rw [Tm.encL_length]; simp; omega) ?_)
        refine (node_ev _ _ _).bind ?_
        rw [Int.toNat_natCast]
        refine Ev.bind (x := (r, 0)) ?_ (Ev.pure _)
        refine Ev.succ (fun k => print_fold_print_printer_raw_1.eq_2 ..) ?_
        exact r1
      · refine Ev.succ (fun k => R07_Printer_raw.eq_2 ..) ?_
        refine Ev.f (beqI' (by omega)) (Ev.f (beqI' (by omega)) (Ev.f (beqI' (by omega)) ?_))
        refine h4.bind ?_
        rw [Nat.add_zero] at r2
        refine Ev.ite (fun h => ?_) (fun h => ?_)
        · have hh2 : t.hd = 2 := by simpa using h
          obtain ⟨d, hd', hdi⟩ := hqr hh2
          refine Ev.some hd' ?_
          rw [hdi]; exact r2
        · have hh2 : t.hd ≠ 2 := by simpa using h
          have : q = 0 := by
            rw [h5, if_neg hh2] at hq
            omega
          subst this
          exact r2
end
end Go.Proofs.YtnolnmfpmhpapaaGreatDoor
end

/-! EvV -/
section
namespace Go.Proofs.YtnolnmfpmhpapaaGreatDoor
open Go.Tr Go
set_option linter.unusedVariables false
set_option linter.unusedSimpArgs false
set_option maxRecDepth 10000

set_option maxRecDepth 100000 in
theorem awake_at (m : Nat) : W07_awake (m + 60) = some true := by kernel_rfl
theorem awake_ev : Ev (fun k => W07_awake k) true := ⟨60, fun n hn => by
  obtain ⟨m, rfl⟩ : ∃ m, n = m + 60 := ⟨n - 60, by omega⟩
  exact awake_at m⟩

abbrev noRw : Rw := Rw.mk 0 ByteArray.empty []

theorem sk_args_count (t : Rw) : t.args.length + 1 ≤ t.sk.count := by
  have h1 := Tm.length_le_countL (Rw.skL t.args)
  rw [Rw.skL_length] at h1
  have h2 := Tm.count_eq t.sk
  rw [Rw.sk_args] at h2
  omega
theorem sk_arg_count {t u : Rw} (hu : u ∈ t.args) : u.sk.count < t.sk.count := by
  have h2 := Tm.count_eq t.sk
  rw [Rw.sk_args] at h2
  have : ∀ (us : List Rw), u ∈ us → u.sk.count ≤ Tm.countL (Rw.skL us) := by
    intro us
    induction us with
    | nil => intro h; cases h
    | cons v us ih =>
      intro h
      simp only [Rw.skL, Tm.countL]
      rcases List.mem_cons.1 h with e | e
      · subst e; omega
      · have := ih e; omega
  have := this _ hu
  omega

theorem sameRw (t : Rw) : t.sk.count ≤ 1000 → Ev (fun k => R02_Same k t t) true := by
  induction t using Rw.ind with
  | h t ih =>
    intro hc
    have hl := sk_args_count t
    have loop : ∀ (ts : List Rw) (i : Nat), t.args.drop i = ts → i + ts.length = t.args.length → Ev (fun k => R02_Same_L1 k t t (i : Int)) true := by
      intro ts
      induction ts with
      | nil =>
        intro i hd hi
        refine Ev.succ (fun k => R02_Same_L1.eq_2 ..) ?_
        simp only [List.length_nil, Nat.add_zero] at hi
        exact Ev.f (by simp [Rw.encL_length, hi]) (Ev.pure _)
      | cons u ts ihl =>
        intro i hd hi
        refine Ev.succ (fun k => R02_Same_L1.eq_2 ..) ?_
        simp only [List.length_cons] at hi
        have hu := getDrop hd
        have hum := List.mem_of_getElem? hu
        have := sk_arg_count hum
        refine Ev.t (by simp [Rw.encL_length]; omega) ?_
        refine Ev.some (idx_get hu) (Ev.some (idx_get hu) ((ih u hum (by omega)).bind (Ev.f rfl ?_)))
        rw [wrapS (by omega)]
        exact ihl (i + 1) (dropDrop hd) (by omega)
    refine Ev.succ (fun k => R02_Same.eq_2 ..) ?_
    refine Ev.f (by simp) ?_
    exact loop t.args 0 rfl (by simp)

theorem rawOK_facts {r : Rw} (h : rawOK r = true) : okAll r.sk = true ∧ r.sk.count ≤ 400 := by
  rw [rawOK, properF_iff] at h
  exact ⟨h.1, by omega⟩

/-- What the printer answers to Raw. -/
abbrev okR2 (r : Rw × Int) : Prop := (r.2 = 0 → rawOK r.1 = true) ∧ r.1.sk.count ≤ 1000

theorem kept_ok {r : Rw} (h : rawOK r = true) : Ev (fun k => print_kept k r 0) (r, 0) := by
  refine Ev.succ (fun k => print_kept.eq_2 ..) ?_
  rw [h]
  exact Ev.f rfl (Ev.f rfl (Ev.pure _))
theorem kept_no {r : Rw} (h : rawOK r = false) : Ev (fun k => print_kept k r 0) (noRw, 5) := by
  refine Ev.succ (fun k => print_kept.eq_2 ..) ?_
  rw [h]
  exact Ev.f rfl (Ev.t rfl (Ev.pure _))

theorem noRw_small : noRw.sk.count ≤ 1000 := by decide

/-- Raw and Text of a good signature, metavariables and term. -/
theorem raw_both {sig : List Dc} {metas : List Mt} {t : Tm} (hs : sigOK sig = true) (hm : metas.length ≤ 80) (hmB : metasB metas = true) (hp : isProper t = true) (n : Int) (h0 : 0 ≤ n) (h1 : n ≤ 30) :
    ∃ r, Ev (fun k => print_Raw k sig metas n t) r ∧ Ev (fun k => R07_Printer_Raw k ⟨sig, metas, []⟩ n t) r ∧ okR2 r := by
  have K : Known sig metas [] := ⟨hs, longest_le sig (sigOK_names hs), hm, ⟨by simp, fun i s h => by simp at h⟩⟩
  obtain ⟨hok, hh, hc⟩ := proper_small hp
  have e0 : ((([] : List ByteArray).length : Nat) : Int) = 0 := rfl
  have hsc := scoped_ev K hp n h0 (by omega)
  rw [e0] at hsc
  have hgood := good_ev sig metas t
  rw [hs, decide_eq_true hm, hmB, hp] at hgood
  have start : ∀ {r}, Ev (fun n_1 => (print_printer_scoped n_1 t n (Prt.mk sig metas 0)).bind (fun v12 => cond (v12 != 0) (some ((Rw.mk 0 ByteArray.empty ([])), v12)) ((print_printer_raw n_1 t n (Prt.mk sig metas 0)).bind (fun v15 => (print_kept n_1 v15.1 v15.2).bind (fun v18 => some (v18.1, v18.2)))))) r → Ev (fun k => print_Raw k sig metas n t) r := by
    intro r h
    refine Ev.succ (fun k => print_Raw.eq_2 ..) ?_
    exact hgood.bind (Ev.f (by simp; omega) h)
  cases hS : nodesS sig.length metas.length t n with
  | false =>
    rw [hS] at hsc
    refine ⟨(noRw, 27), start (hsc.bind (Ev.t rfl (Ev.pure _))), ?_, ⟨fun h => (by cases h), noRw_small⟩⟩
    refine Ev.succ (fun k => R07_Printer_Raw.eq_2 ..) ?_
    refine (refScoped_ev sig metas [] hp n h0).bind ?_
    rw [hS]
    exact Ev.t rfl (Ev.pure _)
  | true =>
  have hrs := refScoped_ev sig metas [] hp n h0
  rw [hS] at hsc hrs
  have hrf := refFull_ev sig metas [] t n hok (by omega) hS
  cases hF : fullB sig t with
  | false =>
    rw [hF] at hsc hrf
    refine ⟨(noRw, 23), start (hsc.bind (Ev.t rfl (Ev.pure _))), ?_, ⟨fun h => (by cases h), noRw_small⟩⟩
    refine Ev.succ (fun k => R07_Printer_Raw.eq_2 ..) ?_
    exact hrs.bind (Ev.f rfl (hrf.bind (Ev.t rfl (Ev.pure _))))
  | true =>
  rw [hF] at hsc hrf
  obtain ⟨r, r1, r2⟩ := raw_ev K t.count t n (Nat.le_refl _) hp h0 (by omega) hS hF
  rw [e0] at r1
  cases hr : rawOK r with
  | true =>
    have hk := kept_ok hr
    refine ⟨(r, 0), start (hsc.bind (Ev.f rfl (r1.bind (hk.bind (Ev.pure _))))), ?_, ⟨fun _ => hr, by have := (rawOK_facts hr).2; simp only; omega⟩⟩
    refine Ev.succ (fun k => R07_Printer_Raw.eq_2 ..) ?_
    refine hrs.bind (Ev.f rfl (hrf.bind (Ev.f rfl (r2.bind ?_))))
    rw [hr]
    exact Ev.f rfl (Ev.pure _)
  | false =>
    have hk := kept_no hr
    refine ⟨(noRw, 5), start (hsc.bind (Ev.f rfl (r1.bind (hk.bind (Ev.pure _))))), ?_, ⟨fun h => (by cases h), noRw_small⟩⟩
    refine Ev.succ (fun k => R07_Printer_Raw.eq_2 ..) ?_
    refine hrs.bind (Ev.f rfl (hrf.bind (Ev.f rfl (r2.bind ?_))))
    rw [hr]
    exact Ev.t rfl (Ev.pure _)

theorem syntaxText_ev {r : Rw} (h : rawOK r = true) : ∃ T : ByteArray, Ev (fun k => syntax_Text k r) (T, 0) ∧ Ev (fun k => R02_Text k r) T := by
  obtain ⟨h1, h2⟩ := rawOK_facts h
  obtain ⟨T, t1, t2, t3⟩ := text_ev r.sk.count r h1 (Nat.le_refl _) (by omega)
  refine ⟨T, ?_, t1⟩
  refine Ev.succ (fun k => syntax_Text.eq_2 ..) ?_
  rw [h]
  refine Ev.f rfl ?_
  have e : wr ([].any (fun x => r.op == x)) T = T := rfl
  have := t3 [] (by simp)
  rw [e] at this
  exact this.bind (Ev.pure _)

theorem printTerms_ev (x : Ask) : Ev (fun k => W07_PrintTerms k x) true := by
  have bad : (sigOK x.sig && (decide (x.metas.length ≤ 80) && metasB x.metas) && isProper x.t) = false ∨ x.n < 0 ∨ x.n > 30 → Ev (fun k => print_Raw k x.sig x.metas x.n x.t) (noRw, 2) ∧ Ev (fun k => print_Text k x.sig x.metas x.n x.t) ((⟨#[]⟩ : ByteArray), 2) := by
    intro h
    have h1 : Ev (fun k => print_Raw k x.sig x.metas x.n x.t) (noRw, 2) := by
      refine Ev.succ (fun k => print_Raw.eq_2 ..) ?_
      refine (good_ev x.sig x.metas x.t).bind ?_
      refine Ev.t ?_ (Ev.pure _)
      rcases h with h | h | h
      · rw [h]; rfl
      · simp [h]
      · simp [h]
    refine ⟨h1, ?_⟩
    refine Ev.succ (fun k => print_Text.eq_2 ..) ?_
    exact h1.bind (Ev.t rfl (Ev.pure _))
  have tail : Ev (fun n => cond (((2 : Int) == 2) && ((2 : Int) == 2)) ((R02_Same n noRw (Rw.mk 0 ByteArray.empty ([]))).bind (fun v40 => cond (v40 && ((⟨#[]⟩ : ByteArray).toList == (⟨#[]⟩ : ByteArray).toList)) ((W07_awake n ).bind (fun v43 => some (v43))) (some (false)))) (some (false))) true := by
    refine Ev.t rfl ((sameRw noRw noRw_small).bind (Ev.t (by simp) ?_))
    exact awake_ev.bind (Ev.pure _)
  refine Ev.succ (fun k => W07_PrintTerms.eq_2 ..) ?_
  cases hs : sigOK x.sig with
  | false =>
    obtain ⟨b1, b2⟩ := bad (.inl (by rw [hs]; rfl))
    refine b1.bind (b2.bind ((formedSig_ev x.sig).bind ?_))
    rw [hs]
    exact Ev.t rfl tail
  | true =>
  cases hp : isProper x.t with
  | false =>
    obtain ⟨b1, b2⟩ := bad (.inl (by rw [hp]; simp))
    refine b1.bind (b2.bind ((formedSig_ev x.sig).bind ?_))
    rw [hs, refProper_eq, hp]
    exact Ev.f rfl (Ev.t rfl tail)
  | true =>
  by_cases hg : ((decide (x.metas.length ≤ 80) && metasB x.metas) = true ∧ 0 ≤ x.n) ∧ x.n ≤ 30
  · obtain ⟨⟨hm, h0⟩, h1⟩ := hg
    rw [Bool.and_eq_true, decide_eq_true_eq] at hm
    obtain ⟨r, r1, r2, r3, r4⟩ := raw_both hs hm.1 hm.2 hp x.n h0 h1
    have texts : ∃ s, Ev (fun k => print_Text k x.sig x.metas x.n x.t) s ∧ Ev (fun k => R07_Printer_Text k ⟨x.sig, x.metas, []⟩ x.n x.t) s := by
      by_cases he : r.2 = 0
      · obtain ⟨T, t1, t2⟩ := syntaxText_ev (r3 he)
        refine ⟨(T, 0), ?_, ?_⟩
        · refine Ev.succ (fun k => print_Text.eq_2 ..) ?_
          refine r1.bind (Ev.f (bneI' he) (t1.bind (Ev.pure _)))
        · refine Ev.succ (fun k => R07_Printer_Text.eq_2 ..) ?_
          exact r2.bind (Ev.f (bneI' he) (t2.bind (Ev.pure _)))
      · refine ⟨((⟨#[]⟩ : ByteArray), r.2), ?_, ?_⟩
        · refine Ev.succ (fun k => print_Text.eq_2 ..) ?_
          exact r1.bind (Ev.t (bneI he) (Ev.pure _))
        · refine Ev.succ (fun k => R07_Printer_Text.eq_2 ..) ?_
          exact r2.bind (Ev.t (bneI he) (Ev.pure _))
    obtain ⟨s, s1, s2⟩ := texts
    refine r1.bind (s1.bind ((formedSig_ev x.sig).bind ?_))
    rw [hs, refProper_eq, hp]
    refine Ev.f rfl (Ev.f rfl ((metas_ev x.metas).bind ?_))
    rw [decide_eq_true hm.1, hm.2]
    refine Ev.f (by simp; omega) ?_
    refine r2.bind (s2.bind ((sameRw r.1 r4).bind (Ev.t (by simp) ?_)))
    exact awake_ev.bind (Ev.pure _)
  · have hcase : (decide (x.metas.length ≤ 80) && metasB x.metas) = false ∨ x.n < 0 ∨ x.n > 30 := by
      cases hm : (decide (x.metas.length ≤ 80) && metasB x.metas) with
      | false => exact .inl rfl
      | true =>
        right
        rw [hm] at hg
        simp only [true_and] at hg
        omega
    obtain ⟨b1, b2⟩ := bad (by
      rcases hcase with h | h
      · left; rw [h]; simp
      · exact .inr h)
    refine b1.bind (b2.bind ((formedSig_ev x.sig).bind ?_))
    rw [hs, refProper_eq, hp]
    refine Ev.f rfl (Ev.f rfl ((metas_ev x.metas).bind ?_))
    refine Ev.t ?_ tail
    rcases hcase with h | h | h
    · rw [h]; rfl
    · simp [h]
    · simp [h]
end Go.Proofs.YtnolnmfpmhpapaaGreatDoor
end

/-! EvW -/
section
namespace Go.Proofs.YtnolnmfpmhpapaaGreatDoor
open Go.Tr Go
set_option linter.unusedVariables false
set_option linter.unusedSimpArgs false
set_option maxRecDepth 10000

/-- So many outermost TPis has a term. -/
def pis : Nat → Tm → Prop
  | 0, _ => True
  | q + 1, t => t.op = 2 ∧ ∃ a b, t.args = [a, b] ∧ pis q b

theorem spl_pis : ∀ (n : Nat) (t : Tm) (l : List Tm) (q : Nat), okAll t = true → t.height ≤ n → l.length + q ≤ (spl n t l).1.length → pis q t
  | 0, t, l, q, hok, hn, _ => by have := Tm.height_pos t; omega
  | n + 1, t, l, 0, hok, hn, hq => trivial
  | n + 1, t, l, q + 1, hok, hn, hq => by
    simp only [spl] at hq
    by_cases h : t.op = 2
    · rw [if_pos h] at hq
      obtain ⟨a, b, e, _, hb, _, hh, _⟩ := okAll_two hok h
      rw [e] at hq
      refine ⟨h, a, b, e, spl_pis n b (l ++ [a]) q hb (by omega) ?_⟩
      simp only [List.length_append, List.length_cons, List.length_nil]
      have hq' : l.length + (q + 1) ≤ (spl n b (l ++ [a])).1.length := hq
      omega
    · rw [if_neg h] at hq
      simp only at hq
      omega

/-- The names of the first variables. -/
def xs (q : Nat) : List ByteArray := (List.range q).map fun (i : Nat) => (⟨#[88]⟩ : ByteArray) ++ itoaF ((i : Int) + 1)
theorem xs_length (q : Nat) : (xs q).length = q := by simp [xs]
theorem xs_succ (q : Nat) : xs (q + 1) = xs q ++ [(⟨#[88]⟩ : ByteArray) ++ itoaF ((q : Int) + 1)] := by
  simp only [xs, List.range_succ, List.map_append, List.map_cons, List.map_nil]
theorem xs_first {q : Nat} (h : q ≤ 60) : firstOK (xs q) := by
  refine ⟨by rw [xs_length]; exact h, fun i s hi => ?_⟩
  simp only [xs, List.getElem?_map] at hi
  rw [Option.map_eq_some_iff] at hi
  obtain ⟨j, hj, e⟩ := hi
  rw [List.getElem?_range] at hj
  · simp only [Option.some.injEq] at hj
    subst hj; exact e.symm
  · rcases Nat.lt_or_ge i q with h1 | h1
    · exact h1
    · exfalso; rw [List.getElem?_eq_none (by simp; omega)] at hj; cases hj

/-- A class without some outermost TPis. -/
def strip : Nat → Tm → Tm
  | 0, t => t
  | q + 1, t => match t.args with
    | _ :: b :: _ => strip q b
    | _ => t

theorem strip_facts {c m : Nat} {sig : List Dc} : ∀ (q : Nat) (t : Tm) (v : Int), pis q t → isProper t = true → nodesS c m t v = true → fullB sig t = true → isProper (strip q t) = true ∧ nodesS c m (strip q t) (v + q) = true ∧ fullB sig (strip q t) = true
  | 0, t, v, _, hp, hn, hf => ⟨hp, by rw [show v + ((0 : Nat) : Int) = v by omega]; exact hn, hf⟩
  | q + 1, t, v, hpi, hp, hn, hf => by
    obtain ⟨ho, a, b, e, hb⟩ := hpi
    have hbm : b ∈ t.args := by rw [e]; simp
    rw [nodesS_eq, Bool.and_eq_true] at hn
    rw [fullB_eq, Bool.and_eq_true] at hf
    have h1 := nodesSL_get hn.2 (j := 1) (u := b) (by rw [e]; rfl)
    have h2 := fullL_get hf.2 (j := 1) (u := b) (by rw [e]; rfl)
    have hu : under t.op ((0 + 1 : Nat) : Int) = 1 := by rw [under]; simp [ho]
    rw [hu] at h1
    have := strip_facts q b (v + 1) hb (proper_arg hp hbm) h1 h2
    simp only [strip, e]
    rw [show v + ((q + 1 : Nat) : Int) = v + 1 + (q : Int) by omega]
    exact this

abbrev noIt : It := It.mk ByteArray.empty ByteArray.empty (Rw.mk 0 ByteArray.empty []) []
/-- The item of a declaration. -/
abbrev declIt (s : ByteArray) (r : Rw) : It := It.mk ByteArray.empty s r []
abbrev okD2 (sig : List Dc) (r : It × Int) : Prop := (r.2 = 0 ∧ ∃ d ∈ sig, ∃ w, r.1 = declIt d.name w ∧ rawOK w = true) ∨ (r.2 ≠ 0 ∧ r.1 = noIt)

theorem decl_both {sig : List Dc} (hs : sigOK sig = true) (n : Int) : ∃ r, Ev (fun k => print_Decl k sig n) r ∧ Ev (fun k => R07_Decl k sig n) r ∧ okD2 sig r := by
  obtain ⟨hl, hpr⟩ := sigOK_proper hs
  by_cases hn : 0 ≤ n ∧ n < (sig.length : Int)
  · obtain ⟨d, hd, hdm⟩ := idx_pre (sig := sig) (n := n) hn.1 hn.2
    have hp := hpr d hdm
    obtain ⟨hok, hh, hc⟩ := proper_small hp
    obtain ⟨hi0, hi1⟩ := sigOK_imp hs d hdm
    have hsp := (split_facts hp).2.2.2.2
    obtain ⟨q, hq⟩ : ∃ q : Nat, d.implicit = (q : Int) := ⟨d.implicit.toNat, by omega⟩
    rw [hq] at hi1
    have hq40 : q ≤ 40 := by omega
    have hpis : pis q d.cls := spl_pis d.cls.height d.cls [] q hok (Nat.le_refl _) (by
      have e : split d.cls = spl d.cls.height d.cls [] := rfl
      rw [← e]; simp only [List.length_nil]; omega)
    have K : Known sig [] (xs q) := ⟨hs, longest_le sig (sigOK_names hs), by simp, xs_first (by omega)⟩
    have hsc := scoped_ev K hp 0 (by omega) (by omega)
    rw [xs_length] at hsc
    have hrs := refScoped_ev sig [] [] hp 0 (by omega)
    -- the loop of print
    have loopP : ∀ (j i : Nat) (t : Tm) {r : It × Int}, i + j = q → pis j t → Ev (fun k => print_Decl_L1 k d sig (strip j t) (q : Int)) r → Ev (fun k => print_Decl_L1 k d sig t (i : Int)) r := by
      intro j
      induction j with
      | zero => intro i t r hij _ h; rw [show i = q by omega]; exact h
      | succ j ih =>
        intro i t r hij hpi h
        obtain ⟨ho, a, b, e, hb⟩ := hpi
        refine Ev.succ (fun k => print_Decl_L1.eq_2 ..) ?_
        refine Ev.t (by rw [hq]; simp; omega) (Ev.some (x := b) (by rw [e]; rfl) ?_)
        rw [wrapS (by omega)]
        refine ih (i + 1) b (by omega) hb ?_
        simpa only [strip, e] using h
    have loopR : ∀ (j i : Nat) (t : Tm) {r : It × Int}, i + j = q → pis j t → Ev (fun k => R07_Decl_L1 k sig n ⟨sig, [], xs q⟩ (strip j t) (q : Int)) r → Ev (fun k => R07_Decl_L1 k sig n ⟨sig, [], xs i⟩ t (i : Int)) r := by
      intro j
      induction j with
      | zero => intro i t r hij _ h; rw [show i = q by omega]; exact h
      | succ j ih =>
        intro i t r hij hpi h
        obtain ⟨ho, a, b, e, hb⟩ := hpi
        have hz := itoa_size ((i : Int) + 1) (by omega) (by omega)
        have s88 : (⟨#[88]⟩ : ByteArray).size = 1 := rfl
        have hw : IntKind.i64.wrap ((i : Int) + 1) = (i : Int) + 1 := wrap_i64 (by omega) (by omega)
        refine Ev.succ (fun k => R07_Decl_L1.eq_2 ..) ?_
        refine Ev.some hd (Ev.t (by rw [hq]; simp; omega) ?_)
        rw [hw]
        refine Ev.need (by simp only [decide_eq_true_eq]; omega) (Ev.need (by simp only [s88, decide_eq_true_eq]; omega) (Ev.need (by simp [xs_length]; omega) ?_))
        refine Ev.some (x := b) (by rw [e]; rfl) ?_
        have h2 := ih (i + 1) b (by omega) hb (by simpa only [strip, e] using h)
        rw [xs_succ] at h2
        rw [show ((i + 1 : Nat) : Int) = (i : Int) + 1 by omega] at h2
        exact h2
    have startP : ∀ {r : It × Int}, Ev (fun k => print_Decl_L1 k d sig (strip q d.cls) (q : Int)) r → Ev (fun k => print_Decl k sig n) r := by
      intro r h
      refine Ev.succ (fun k => print_Decl.eq_2 ..) ?_
      refine (check_ev sig).bind ?_
      rw [if_pos hs]
      refine Ev.f rfl (Ev.f (by simp; omega) (Ev.some hd ?_))
      exact loopP q 0 d.cls (by omega) hpis h
    have startR : ∀ {r : It × Int}, Ev (fun n_1 => (R07_Printer_scoped n_1 (Rpr.mk sig ([]) ([])) 0 d.cls).bind (fun v12 => cond (!v12) (some ((It.mk ByteArray.empty ByteArray.empty (Rw.mk 0 ByteArray.empty ([])) ([])), 27)) ((R07_Printer_full n_1 (Rpr.mk sig ([]) ([])) d.cls).bind (fun v15 => cond (!v15) (some ((It.mk ByteArray.empty ByteArray.empty (Rw.mk 0 ByteArray.empty ([])) ([])), 23)) (R07_Decl_L1 n_1 sig n (Rpr.mk sig ([]) ([])) d.cls 0))))) r → Ev (fun k => R07_Decl k sig n) r := by
      intro r h
      refine Ev.succ (fun k => R07_Decl.eq_2 ..) ?_
      have hhas : Ev (fun k => R05_Has k sig n) true := by
        refine Ev.succ (fun k => R05_Has.eq_2 ..) ((Ev.pure _).eq ?_)
        simp; omega
      exact hhas.bind (Ev.f rfl (Ev.some hd h))
    have endP : ∀ {r : It × Int}, Ev (fun n_1 => (print_printer_scoped n_1 d.cls 0 (Prt.mk sig ([]) d.implicit)).bind (fun v28 => cond (v28 != 0) (some ((It.mk ByteArray.empty ByteArray.empty (Rw.mk 0 ByteArray.empty ([])) ([])), v28)) ((print_printer_raw n_1 (strip q d.cls) d.implicit (Prt.mk sig ([]) d.implicit)).bind (fun v31 => (print_kept n_1 v31.1 v31.2).bind (fun v34 => cond (v34.2 != 0) (some ((It.mk ByteArray.empty ByteArray.empty (Rw.mk 0 ByteArray.empty ([])) ([])), v34.2)) (some ((It.mk ByteArray.empty d.name v34.1 ([])), 0))))))) r → Ev (fun k => print_Decl_L1 k d sig (strip q d.cls) (q : Int)) r := by
      intro r h
      refine Ev.succ (fun k => print_Decl_L1.eq_2 ..) ?_
      exact Ev.f (by rw [hq]; simp) h
    rw [hq] at endP
    cases hS : nodesS sig.length ([] : List Mt).length d.cls 0 with
    | false =>
      rw [hS] at hsc hrs
      exact ⟨(noIt, 27), startP (endP (hsc.bind (Ev.t rfl (Ev.pure _)))), startR (hrs.bind (Ev.t rfl (Ev.pure _))), .inr ⟨by simp, rfl⟩⟩
    | true =>
    rw [hS] at hsc hrs
    have hrf := refFull_ev sig [] [] d.cls 0 hok (by omega) hS
    cases hF : fullB sig d.cls with
    | false =>
      rw [hF] at hsc hrf
      exact ⟨(noIt, 23), startP (endP (hsc.bind (Ev.t rfl (Ev.pure _)))), startR (hrs.bind (Ev.f rfl (hrf.bind (Ev.t rfl (Ev.pure _))))), .inr ⟨by simp, rfl⟩⟩
    | true =>
    rw [hF] at hsc hrf
    obtain ⟨sp, sn, sf⟩ := strip_facts q d.cls 0 hpis hp hS hF
    rw [show (0 : Int) + (q : Int) = q by omega] at sn
    have sph := (proper_small sp).2.1
    obtain ⟨r, r1, r2⟩ := raw_ev K (strip q d.cls).count (strip q d.cls) (q : Int) (Nat.le_refl _) sp (by omega) (by omega) sn sf
    rw [xs_length] at r1
    have tailR : ∀ {x : It × Int}, Ev (fun _ => cond (!(rawOK r)) (some ((It.mk ByteArray.empty ByteArray.empty (Rw.mk 0 ByteArray.empty ([])) ([])), (5 : Int))) ((idx sig n).bind (fun v68 => some ((It.mk ByteArray.empty v68.name r ([])), (0 : Int))))) x → Ev (fun k => R07_Decl k sig n) x := by
      intro x h
      refine startR (hrs.bind (Ev.f rfl (hrf.bind (Ev.f rfl ?_))))
      refine loopR q 0 d.cls (by omega) hpis ?_
      refine Ev.succ (fun k => R07_Decl_L1.eq_2 ..) ?_
      refine Ev.some hd (Ev.f (by rw [hq]; simp) (Ev.some hd ?_))
      rw [hq]
      exact r2.bind h
    cases hr : rawOK r with
    | true =>
      rw [hr] at tailR
      refine ⟨(declIt d.name r, 0), startP (endP (hsc.bind (Ev.f rfl (r1.bind ((kept_ok hr).bind (Ev.f rfl (Ev.pure _))))))), tailR (Ev.f rfl (Ev.some hd (Ev.pure _))), .inl ⟨rfl, d, hdm, r, rfl, hr⟩⟩
    | false =>
      rw [hr] at tailR
      refine ⟨(noIt, 5), startP (endP (hsc.bind (Ev.f rfl (r1.bind ((kept_no hr).bind (Ev.t rfl (Ev.pure _))))))), tailR (Ev.t rfl (Ev.pure _)), .inr ⟨by simp, rfl⟩⟩
  · refine ⟨(noIt, 6), ?_, ?_, .inr ⟨by simp, rfl⟩⟩
    · refine Ev.succ (fun k => print_Decl.eq_2 ..) ?_
      refine (check_ev sig).bind ?_
      rw [if_pos hs]
      refine Ev.f rfl (Ev.t (by simp; omega) (Ev.pure _))
    · refine Ev.succ (fun k => R07_Decl.eq_2 ..) ?_
      have hhas : Ev (fun k => R05_Has k sig n) false := by
        refine Ev.succ (fun k => R05_Has.eq_2 ..) ((Ev.pure _).eq ?_)
        rw [Dc.encL_length, Bool.eq_false_iff]
        simp; omega
      exact hhas.bind (Ev.t rfl (Ev.pure _))
end Go.Proofs.YtnolnmfpmhpapaaGreatDoor
end

/-! EvX -/
section
namespace Go.Proofs.YtnolnmfpmhpapaaGreatDoor
open Go.Tr Go
set_option linter.unusedVariables false
set_option linter.unusedSimpArgs false
set_option maxRecDepth 10000

theorem sigOK_small {sig : List Dc} (h : sigOK sig = true) : ∀ d ∈ sig, (isSmallF d.name && !(d.name.toList == tyB.toList)) = true := by
  have key : ∀ (pre post : List Dc), sigG pre post = true → ∀ d ∈ post, (isSmallF d.name && !(d.name.toList == tyB.toList)) = true := by
    intro pre post
    induction post generalizing pre with
    | nil => intro _ d hd; cases hd
    | cons x post ih =>
      intro h d hd
      simp only [sigG, Bool.and_eq_true] at h
      rcases List.mem_cons.1 hd with e | e
      · subst e
        have h1 := h.1
        simp only [declOK, Bool.and_eq_true] at h1
        simp only [Bool.and_eq_true]
        exact h1.1.1.1.1
      · exact ih _ h.2 d e
  simp only [sigOK, Bool.and_eq_true] at h
  exact key [] sig h.2

theorem item_text {sig : List Dc} (hs : sigOK sig = true) {d : Dc} (hd : d ∈ sig) {w : Rw} (hw : rawOK w = true) : ∃ T : ByteArray, Ev (fun k => syntax_TextItem k (declIt d.name w)) (T, 0) ∧ Ev (fun k => R02_TextItem k (declIt d.name w)) T ∧ T.size ≤ 8020 := by
  obtain ⟨h1, h2⟩ := rawOK_facts hw
  obtain ⟨T, t1, t2, t3⟩ := text_ev w.sk.count w h1 (Nat.le_refl _) (by omega)
  have hsz := sigOK_names hs d hd
  have sm := sigOK_small hs d hd
  have s3 : (⟨#[32, 58, 32]⟩ : ByteArray).size = 3 := rfl
  have s1 : (⟨#[46]⟩ : ByteArray).size = 1 := rfl
  have hi : itemOK (declIt d.name w) = true := by
    unfold itemOK
    have e : ((declIt d.name w).word.toList == emB.toList) = true := beq_self_eq_true (α := List UInt8) _
    rw [if_pos e]
    show ((isSmallF d.name && !(d.name.toList == tyB.toList)) && rawOK w && _) = true
    rw [sm, hw]; rfl
  refine ⟨((d.name ++ (⟨#[32, 58, 32]⟩ : ByteArray)) ++ T) ++ (⟨#[46]⟩ : ByteArray), ?_, ?_, by simp only [ByteArray.size_append, s3, s1]; omega⟩
  · refine Ev.succ (fun k => syntax_TextItem.eq_2 ..) ?_
    rw [hi]
    refine Ev.f rfl (Ev.t (beq_self_eq_true (α := List UInt8) _) ?_)
    refine Ev.need (by simp only [s3, decide_eq_true_eq]; omega) ?_
    have e : wr ([].any (fun x => w.op == x)) T = T := rfl
    have h3 := t3 [] (by simp)
    rw [e] at h3
    refine h3.bind (Ev.need (by simp only [ByteArray.size_append, s3, decide_eq_true_eq]; omega) (Ev.need (by simp only [ByteArray.size_append, s3, s1, decide_eq_true_eq]; omega) (Ev.pure _)))
  · refine Ev.succ (fun k => R02_TextItem.eq_2 ..) ?_
    refine Ev.t (beq_self_eq_true (α := List UInt8) _) ?_
    refine Ev.need (by simp only [s3, decide_eq_true_eq]; omega) ?_
    refine t1.bind (Ev.need (by simp only [ByteArray.size_append, s3, decide_eq_true_eq]; omega) (Ev.need (by simp only [ByteArray.size_append, s3, s1, decide_eq_true_eq]; omega) (Ev.pure _)))

/-- The line of a declaration, and the reference's. -/
theorem line_both {sig : List Dc} (hs : sigOK sig = true) (n : Int) : ∃ r, Ev (fun k => print_Decl k sig n) r ∧ Ev (fun k => R07_Decl k sig n) r ∧ okD2 sig r ∧
    ((r.2 ≠ 0 ∧ Ev (fun k => print_Line k sig n) ((⟨#[]⟩ : ByteArray), r.2)) ∨ (r.2 = 0 ∧ ∃ T, Ev (fun k => print_Line k sig n) (T, 0) ∧ Ev (fun k => R02_TextItem k r.1) T ∧ T.size ≤ 8020)) := by
  obtain ⟨r, r1, r2, r3⟩ := decl_both hs n
  refine ⟨r, r1, r2, r3, ?_⟩
  rcases r3 with ⟨h0, d, hd, w, hw, hok⟩ | ⟨h0, _⟩
  · obtain ⟨T, t1, t2, t3⟩ := item_text hs hd hok
    right
    refine ⟨h0, T, ?_, by rw [hw]; exact t2, t3⟩
    refine Ev.succ (fun k => print_Line.eq_2 ..) ?_
    refine r1.bind (Ev.f (bneI' h0) ?_)
    rw [hw]
    exact t1.bind (Ev.pure _)
  · left
    refine ⟨h0, ?_⟩
    refine Ev.succ (fun k => print_Line.eq_2 ..) ?_
    exact r1.bind (Ev.t (bneI h0) (Ev.pure _))

theorem lines_both {sig : List Dc} (hs : sigOK sig = true) : ∃ r, Ev (fun k => print_Lines k sig) r ∧ Ev (fun k => R07_Lines k sig) r := by
  have hl := (sigOK_proper hs).1
  have s10 : (⟨#[10]⟩ : ByteArray).size = 1 := rfl
  have loop : ∀ (j i : Nat) (acc : ByteArray), i + j = sig.length → acc.size ≤ i * 8021 → ∃ r, Ev (fun k => print_Lines_L1 k sig acc (i : Int)) r ∧ Ev (fun k => R07_Lines_L1 k sig acc (i : Int)) r := by
    intro j
    induction j with
    | zero =>
      intro i acc hij ha
      refine ⟨(acc, 0), ?_, ?_⟩
      · refine Ev.succ (fun k => print_Lines_L1.eq_2 ..) ?_
        exact Ev.f (by rw [Dc.encL_length]; simp; omega) (Ev.pure _)
      · refine Ev.succ (fun k => R07_Lines_L1.eq_2 ..) ?_
        exact Ev.f (by rw [Dc.encL_length]; simp; omega) (Ev.pure _)
    | succ j ih =>
      intro i acc hij ha
      obtain ⟨r, r1, r2, r3, r4⟩ := line_both hs (i : Int)
      rcases r4 with ⟨h0, hl4⟩ | ⟨h0, T, t1, t2, t3⟩
      · refine ⟨((⟨#[]⟩ : ByteArray), r.2), ?_, ?_⟩
        · refine Ev.succ (fun k => print_Lines_L1.eq_2 ..) ?_
          refine Ev.t (by rw [Dc.encL_length]; simp; omega) (hl4.bind (Ev.t (bneI h0) (Ev.pure _)))
        · refine Ev.succ (fun k => R07_Lines_L1.eq_2 ..) ?_
          refine Ev.t (by rw [Dc.encL_length]; simp; omega) (r2.bind (Ev.t (bneI h0) (Ev.pure _)))
      · have hsz : (acc ++ (T ++ (⟨#[10]⟩ : ByteArray))).size ≤ (i + 1) * 8021 := by
          simp only [ByteArray.size_append, s10]; omega
        obtain ⟨x, x1, x2⟩ := ih (i + 1) (acc ++ (T ++ (⟨#[10]⟩ : ByteArray))) (by omega) hsz
        refine ⟨x, ?_, ?_⟩
        · refine Ev.succ (fun k => print_Lines_L1.eq_2 ..) ?_
          refine Ev.t (by rw [Dc.encL_length]; simp; omega) (t1.bind (Ev.f rfl ?_))
          refine Ev.need (by simp only [s10, decide_eq_true_eq]; omega) (Ev.need (by simp only [ByteArray.size_append, s10, decide_eq_true_eq]; omega) ?_)
          rw [wrapS (by omega)]
          exact x1
        · refine Ev.succ (fun k => R07_Lines_L1.eq_2 ..) ?_
          refine Ev.t (by rw [Dc.encL_length]; simp; omega) (r2.bind (Ev.f (bneI' h0) (t2.bind ?_)))
          refine Ev.need (by simp only [decide_eq_true_eq]; omega) (Ev.need (by simp only [ByteArray.size_append, s10, decide_eq_true_eq]; omega) ?_)
          rw [wrapS (by omega), ByteArray.append_assoc]
          exact x2
  obtain ⟨r, r1, r2⟩ := loop sig.length 0 (⟨#[]⟩ : ByteArray) (by omega) (Nat.le_refl _)
  refine ⟨r, ?_, ?_⟩
  · refine Ev.succ (fun k => print_Lines.eq_2 ..) ?_
    refine (check_ev sig).bind ?_
    rw [if_pos hs]
    exact Ev.f rfl r1
  · exact Ev.succ (fun k => R07_Lines.eq_2 ..) r2

theorem sameItem (s m : ByteArray) (w : Rw) (hw : w.sk.count ≤ 1000) : Ev (fun k => R02_SameItem k (It.mk s m w []) (It.mk s m w [])) true := by
  refine Ev.succ (fun k => R02_SameItem.eq_2 ..) ?_
  refine Ev.f (by simp) ((sameRw w hw).bind (Ev.f (by simp) ?_))
  refine Ev.succ (fun k => R02_SameItem_L1.eq_2 ..) ?_
  exact Ev.f rfl (Ev.pure _)

theorem printDecls_ev (sig : List Dc) (n : Int) : Ev (fun k => W07_PrintDecls k sig n) true := by
  refine Ev.succ (fun k => W07_PrintDecls.eq_2 ..) ?_
  cases hs : sigOK sig with
  | false =>
    have b1 : Ev (fun k => print_Decl k sig n) (noIt, 2) := by
      refine Ev.succ (fun k => print_Decl.eq_2 ..) ?_
      refine (check_ev sig).bind ?_
      rw [hs]
      exact Ev.t rfl (Ev.pure _)
    have b2 : Ev (fun k => print_Line k sig n) ((⟨#[]⟩ : ByteArray), 2) := by
      refine Ev.succ (fun k => print_Line.eq_2 ..) ?_
      exact b1.bind (Ev.t rfl (Ev.pure _))
    have b3 : Ev (fun k => print_Lines k sig) ((⟨#[]⟩ : ByteArray), 2) := by
      refine Ev.succ (fun k => print_Lines.eq_2 ..) ?_
      refine (check_ev sig).bind ?_
      rw [hs]
      exact Ev.t rfl (Ev.pure _)
    refine b1.bind (b2.bind (b3.bind ((formedSig_ev sig).bind ?_)))
    rw [hs]
    refine Ev.t rfl (Ev.t rfl ((sameItem _ _ _ noRw_small).bind (Ev.t (by simp) ?_)))
    exact awake_ev.bind (Ev.pure _)
  | true =>
    obtain ⟨r, r1, r2, r3, r4⟩ := line_both hs n
    obtain ⟨l, l1, l2⟩ := lines_both hs
    have same : Ev (fun k => R02_SameItem k r.1 r.1) true := by
      rcases r3 with ⟨_, d, hd, w, hw, hok⟩ | ⟨_, h⟩
      · rw [hw]
        have := (rawOK_facts hok).2
        exact sameItem _ _ _ (by omega)
      · rw [h]; exact sameItem _ _ _ noRw_small
    rcases r4 with ⟨h0, hl⟩ | ⟨h0, T, t1, t2, _⟩
    · refine r1.bind (hl.bind (l1.bind ((formedSig_ev sig).bind ?_)))
      rw [hs]
      refine Ev.f rfl (r2.bind (Ev.f (beqI' h0) (l2.bind (same.bind (Ev.t (by simp) ?_)))))
      exact awake_ev.bind (Ev.pure _)
    · refine r1.bind (t1.bind (l1.bind ((formedSig_ev sig).bind ?_)))
      rw [hs]
      refine Ev.f rfl (r2.bind (Ev.t (beqI h0) (t2.bind (l2.bind (same.bind (Ev.t (by simp [h0]) ?_))))))
      exact awake_ev.bind (Ev.pure _)
end Go.Proofs.YtnolnmfpmhpapaaGreatDoor
end

/-! RowLaid -/
section
namespace Go.Proofs.YtnolnmfpmhpapaaGreatDoor
open Go.Tr Go
open Go.ChangeShapes Go.WideShapes Go.ChangeAt Go.RowKit
set_option maxRecDepth 10000

def cellsD : DataW Unit → Array Value
  | .agg l => (l.map fun | .lit (.int k n) => Value.int k n | _ => Value.int .i64 0).toArray
  | _ => #[]
def setCells (vs : Array Value) : Obj → Obj
  | .cells _ t frozen => .cells vs t frozen
  | o => o
noncomputable def laidWorld (os : Os) : World :=
  let w0 := World.holding Tryz.prog os ⟨#[], #[], []⟩
  { w0 with heap := ((w0.heap.modify 0 (setCells (cellsD Rows.laid_internal_strconv_uint64pow10))).modify 2 (setCells (cellsD Rows.laid_math_bits_deBruijn32tab))).modify 3 (setCells (cellsD Rows.laid_math_bits_deBruijn64tab)) }
theorem laidWorld_met (os : Os) (args : Array Value) : laidMet Tryz.prog Rows.printTermsRow.laid ((laidWorld os).forCall (fun _ _ => 0) ⟨#[], args, []⟩).memory :=
  laidMet_of_run3 8 (by kernel_rfl) (by kernel_rfl) (by kernel_rfl)
end Go.Proofs.YtnolnmfpmhpapaaGreatDoor
end

/-! RowPD -/
section
namespace Go.Proofs.YtnolnmfpmhpapaaGreatDoor
open Go.Tr Go
open Go.ChangeShapes Go.WideShapes Go.ChangeAt Go.RowKit
set_option maxRecDepth 10000

theorem printDecls_spec (sig : List Dc) (n : Int) (a2 : Option Addr) (c2 : Nat) :
    Pure Tryz.prog (fnS 8) [(.v (.slice a2 ((Dc.encL sig).length) c2)), (.v (.int .i64 n))] [(.slice a2 ((Dc.encL sig).length) c2, .sl 6 (Dc.encL sig))] (fun r out => r = bS true ∧ out = []) := by
  obtain ⟨N, h⟩ := printDecls_ev sig n
  exact W07_PrintDecls_spec N sig n a2 c2 _ (h N (Nat.le_refl _))

set_option maxRecDepth 100000 in
theorem printDecls_lifted (os : Os) (started : os.Started) (H : Type) (enc : TypeId × Value → H) :
    ReturnsInHanded {} Tryz.checked os 8 .any (fun w args => (Rows.printDeclsSpec.pre enc Tryz.prog Tryz.f8 Rows.printDeclsRow.domain false w args ∧ laidMet Tryz.prog Rows.printDeclsRow.laid w) ∧ sizedMet enc Tryz.prog Tryz.f8 (OpenSpec.ofChange Rows.printDeclsSpec) false w args)
      (Rows.printDeclsSpec.post enc Tryz.prog Tryz.f8 false true false false) := by
  refine returnsInHanded_of_change_and (C := Tryz.checked) (X := fun w _ => laidMet Tryz.prog Rows.printDeclsRow.laid w) (fun _ _ _ hh h => h.of_heap hh) own started (by kernel_rfl) Tryz.func8
    (ChangeSpec.witness_at (enc := enc) (C := Tryz.checked) (os := os) (X := fun w _ => laidMet Tryz.prog Rows.printDeclsRow.laid w) false (laidWorld os) #[.slice none 0 0, .int .i64 0] 8 rfl (by kernel_rfl) (by kernel_rfl) (by kernel_rfl) (by kernel_rfl) (by kernel_rfl) (laidWorld_met os _)) ?_
  intro W base args ds gs before hval0 hW _ hsz0 hL _
  have hsz : (DataW.weightsEach Tryz.prog (Tryz.f8.params.toList ++ Rows.printDeclsSpec.plain.varTypes Tryz.prog) (ds ++ gs)).all (· ≤ reachBytes) = true := hsz0
  clear hsz0
  have hval : ∀ (j : Nat) t v, Tryz.f8.params[j]? = some t → args[j]? = some v → Value.okWide Tryz.prog W .any base t v := hval0
  have hW' := hW
  obtain ⟨p, q, hA0, hV, rfl, _, _⟩ := hW
  have hA : DataW.TrodAll enc Tryz.prog W 0 (fun _ => true) true Tryz.f8.params.toList args.toList ds p := hA0
  rw [Tryz.params8] at hA hval
  have hsz : (DataW.weightsEach Tryz.prog ([22, 3] ++ []) (ds ++ gs)).all (· ≤ reachBytes) = true := by
    have := hsz
    rw [Tryz.params8] at this
    exact this
  obtain ⟨v0, vs0, d0, ds0, p0, q0, ha0, rfl, rfl, h0, r0⟩ := trodAll_cons hA
  obtain ⟨v1, vs1, d1, ds1, p1, q1, rfl, rfl, rfl, h1, r1⟩ := trodAll_cons r0
  obtain ⟨rfl, rfl, rfl⟩ := trodAll_nil r1
  obtain ⟨rfl, rfl⟩ := trodVars_none hV
  obtain rfl : args = #[v0, v1] := by rw [← Array.toList_inj, ha0]
  have hw := all_le hsz
  simp only [List.append_nil, DataW.weightsEach, List.mem_append] at hw
  obtain ⟨sig, a2, c2, rfl, e2⟩ := argl_Dc (hval 0 _ _ rfl rfl) h0 (fun y hy => hw y (.inl hy))
  obtain ⟨n, rfl, _⟩ := arg_int (hval 1 _ _ rfl rfl) h1
  refine ((printDecls_spec sig n a2 c2).calls Tryz.call8 (W := W) ?_).mono ?_
  · intro r hr
    simp only [List.mem_cons, List.not_mem_nil, or_false] at hr
    subst hr
    exact e2
  rintro e W' ⟨r, out, rfl, ⟨rfl, rfl⟩, hx⟩
  refine ⟨_, rfl, post_true kids full hW' rfl ?_ ?_ (by kernel_rfl) Tryz.underlying4 hx⟩
  · rw [Tryz.params8]
    decide +kernel
  · intro ds hl
    rw [Tryz.params8] at hl
    match ds, hl with
    | [_, _], _ => rfl

theorem printDecls_holds : Rows.PrintDeclsSaid :=
  OpenClaim.holds_of_wide 8 Tryz.f8 rfl rfl rfl rfl rfl rfl rfl ⟨rfl, rfl, rfl, rfl, rfl⟩ rfl rfl rfl rfl rfl (by kernel_rfl) Tryz.func8 (by kernel_rfl)
    (of_decide_eq_true (by kernel_rfl)) (by unfold Func.isWrapper; first | (rw [if_pos (by decide +kernel)]; kernel_rfl) | (rw [if_neg (by decide +kernel)]; exact ⟨rfl, rfl⟩))
    (fun os started H enc _ => printDecls_lifted os started H enc)
#print axioms printDecls_holds
end Go.Proofs.YtnolnmfpmhpapaaGreatDoor
end

/-! CardPD -/
section
namespace Go.Proofs.YtnolnmfpmhpapaaGreatDoor
open Go

theorem printDeclsCard_holds : Rows.PrintDeclsCardSaid :=
  Claim7.holds_tied_plain_at .later [] [.data, .data, .data] true (true, "185b26e6cca830f7bbfbd4b1d180571776208de5d4ca169efa254b78591b6679") true
    printDecls_holds (fun _ h => by cases h) (by kernel_rfl) (fun _ h => by cases h) printDecls_row_tie rfl ⟨rfl, rfl⟩ (by kernel_rfl) rfl
    (fun f fn hf hfn => by
      obtain rfl : f = 8 := Option.some.inj ((show Tryz.prog.funcNamed "truss/trusslaw07.PrintDecls" = some 8 by kernel_rfl).symm.trans hf) |>.symm
      obtain rfl : fn = Tryz.f8 := (Option.some.inj (Tryz.func8.symm.trans hfn)).symm
      exact ⟨by kernel_rfl, fun j t ht => by
        rw [Tryz.params8] at ht
        have h3 : t = 22 ∨ t = 3 := by
          rcases j with _ | _ | j
          · left; simpa using ht.symm
          · right; simpa using ht.symm
          · simp at ht
        rcases h3 with rfl | rfl
        · exact (show Tryz.prog.wantsStandIn 22 = false by kernel_rfl)
        · exact (show Tryz.prog.wantsStandIn 3 = false by kernel_rfl)⟩)
    (by kernel_rfl)
#print axioms printDeclsCard_holds
end Go.Proofs.YtnolnmfpmhpapaaGreatDoor
end
