/- Merged texts: EvU EvV RowLaid RowPT CardPT. Plain law: raw expressions of terms, by print and by trussref07. No program in sight. Plain law: PrintTerms answers true. No program in sight. A start at which the listed tables read as their initialisers lay them. No condition. PrintTerms answers true at every input, and its argument reads as it did. No condition. PrintTerms: the card: the row, its listed tables tied to the program's text by the given tie. No condition. -/
import Derived.Test.YtnolnmfpmhpapaaGreatDoorQL
import Derived.KernelRfl
import Derived.JoinedAt
import Derived.LaidLaws
import Derived.Deep.DeepLaidRun
import Derived.Test.YtnolnmfpmhpapaaGreatDoorCards
import Derived.Test.YtnolnmfpmhpapaaGreatDoorTie
import Derived.SevenTiedAt
/-! EvU -/
section
namespace Go.Proofs.YtnolnmfpmhpapaaGreatDoor
open Go.Tr Go
set_option linter.unusedVariables false
set_option linter.unusedSimpArgs false
set_option maxRecDepth 10000

mutual
theorem nodesS_moved (c m : Nat) : ∀ (t : Tm) (v k : Int), okAll t = true → 0 ≤ k → k ≤ v → lowF t k k = false → nodesS c m t (v + 1) = true → nodesS c m (movedF t (-1) k) v = true
  | .mk o h n us, v, k, hok, hk, hkv, hl, hs => by
    have hn := okAll_n hok
    simp only [Tm.n] at hn
    simp only [okAll, Bool.and_eq_true] at hok
    simp only [lowF, Bool.or_eq_false_iff] at hl
    simp only [nodesS, Bool.and_eq_true] at hs
    simp only [movedF, nodesS, Bool.and_eq_true]
    refine ⟨?_, nodesS_movedL c m o us 0 v k hok.2 hk hkv hl.2 hs.2⟩
    have h1 := hs.1
    by_cases h2 : (o = 4 ∧ h = 1) ∧ n ≥ k
    · rw [if_pos h2]
      obtain ⟨⟨e1, e2⟩, e3⟩ := h2
      subst e1 e2
      have h4 : n ≠ k := by
        intro e
        have := hl.1
        subst e
        simp at this
      rw [wrap_i64 (by omega) (by omega)]
      simp [nodeS] at h1 ⊢
      omega
    · rw [if_neg h2]
      simp only [nodeS, Bool.or_eq_true, Bool.and_eq_true, bne_iff_ne, ne_eq, decide_eq_true_eq] at h1 ⊢
      rcases h1 with h1 | ⟨h1, h3⟩
      · exact .inl h1
      · by_cases h6 : o = 4
        · refine .inr ⟨?_, h3⟩
          rcases h1 with h1 | h1
          · exact .inl h1
          · by_cases h5 : h = 1
            · right
              have : ¬ n ≥ k := fun h7 => h2 ⟨⟨h6, h5⟩, h7⟩
              omega
            · exact .inl h5
        · exact .inl h6
theorem nodesS_movedL (c m : Nat) : ∀ (o : Int) (us : List Tm) (i : Nat) (v k : Int), okAllL us = true → 0 ≤ k → k ≤ v → lowL o us i k k = false → nodesSL c m o us i (v + 1) = true → nodesSL c m o (movedL o us i (-1) k) i v = true
  | o, [], i, v, k, _, _, _, _, _ => rfl
  | o, u :: us, i, v, k, hok, hk, hkv, hl, hs => by
    simp only [okAllL, Bool.and_eq_true] at hok
    simp only [lowL, Bool.or_eq_false_iff] at hl
    simp only [nodesSL, Bool.and_eq_true] at hs
    have hu := under_le o i
    simp only [movedL, nodesSL, Bool.and_eq_true]
    have e : v + 1 + under o i = v + under o i + 1 := by omega
    rw [e] at hs
    exact ⟨nodesS_moved c m u _ _ hok.1 (by omega) (by omega) hl.1 hs.1, nodesS_movedL c m o us (i + 1) v k hok.2 hk hkv hl.2 hs.2⟩
 end
mutual
theorem full_moved (sig : List Dc) (b : Int) : ∀ (t : Tm) (k : Int), fullB sig (movedF t b k) = fullB sig t
  | .mk o h n us, k => by
    simp only [movedF, fullB, movedL_length, full_movedL sig b o us 0 k]
    congr 1
    by_cases h1 : (o = 4 ∧ h = 1) ∧ n ≥ k
    · rw [if_pos h1]
      obtain ⟨⟨e1, e2⟩, _⟩ := h1
      subst e1 e2
      simp [nodeF]
    · rw [if_neg h1]
theorem full_movedL (sig : List Dc) (b : Int) : ∀ (o : Int) (us : List Tm) (i : Nat) (k : Int), fullL sig (movedL o us i b k) = fullL sig us
  | o, [], i, k => rfl
  | o, u :: us, i, k => by simp only [movedL, fullL, full_moved sig b u, full_movedL sig b o us]
 end

theorem nodesSL_get {c m : Nat} {o : Int} : ∀ {us : List Tm} {i : Nat} {v : Int} {j : Nat} {u : Tm}, nodesSL c m o us i v = true → us[j]? = some u → nodesS c m u (v + under o ((i + j : Nat) : Int)) = true
  | [], i, v, j, u, _, hu => by simp at hu
  | x :: us, i, v, 0, u, h, hu => by
    simp only [nodesSL, Bool.and_eq_true] at h
    simp at hu; subst hu; exact h.1
  | x :: us, i, v, j + 1, u, h, hu => by
    simp only [nodesSL, Bool.and_eq_true] at h
    have := nodesSL_get h.2 (j := j) (by simpa using hu)
    rw [show i + 1 + j = i + (j + 1) by omega] at this
    exact this
theorem fullL_get {sig : List Dc} : ∀ {us : List Tm} {j : Nat} {u : Tm}, fullL sig us = true → us[j]? = some u → fullB sig u = true
  | [], j, u, _, hu => by simp at hu
  | x :: us, 0, u, h, hu => by
    simp only [fullL, Bool.and_eq_true] at h
    simp at hu; subst hu; exact h.1
  | x :: us, j + 1, u, h, hu => by
    simp only [fullL, Bool.and_eq_true] at h
    exact fullL_get h.2 (by simpa using hu)

theorem proper_arg {t u : Tm} (h : isProper t = true) (hu : u ∈ t.args) : isProper u = true := by
  have h1 := (isProper_iff t).1 h
  rw [isProper_iff]
  have h2 := Tm.height_le hu
  have h3 := arg_count hu
  have h4 := Tm.height_eq t
  exact ⟨okAll_arg h1.1 hu, by omega, by omega⟩

theorem node_ev (o : Int) (s : ByteArray) (l : List Rw) : Ev (fun k => print_node k o s l) (Rw.mk o s l) := by
  refine Ev.succ (fun k => print_node.eq_2 ..) ?_
  exact Ev.pure _

section
variable {sig : List Dc} {metas : List Mt} {names : List ByteArray} (K : Known sig metas names)
include K

/-- Both make the same raw expression of a term whose heads are there. -/
theorem raw_ev : ∀ (c : Nat) (t : Tm) (n : Int), t.count ≤ c → isProper t = true → 0 ≤ n → n + t.height ≤ 90 → nodesS sig.length metas.length t n = true → fullB sig t = true →
    ∃ r, Ev (fun k => print_printer_raw k t n ⟨sig, metas, names.length⟩) (r, 0) ∧ Ev (fun k => R07_Printer_raw k ⟨sig, metas, names⟩ n t) r
  | 0, t, n, hc, _, _, _, _, _ => by have := Tm.count_pos t; omega
  | c + 1, t, n, hc, hp, hn0, hn1, hs, hf => by
    obtain ⟨hok, hh, hcc⟩ := proper_small hp
    have hhe := Tm.height_eq t
    have hcl := Tm.length_le_countL t.args
    have hce := Tm.count_eq t
    have hw : IntKind.i64.wrap (n + 1) = n + 1 := wrap_i64 (by omega) (by omega)
    rw [nodesS_eq, Bool.and_eq_true] at hs
    rw [fullB_eq, Bool.and_eq_true] at hf
    have sub : ∀ (j : Nat) (u : Tm), t.args[j]? = some u → ∀ x : Int, x = n + under t.op (j : Int) → ∃ r, Ev (fun k => print_printer_raw k u x ⟨sig, metas, names.length⟩) (r, 0) ∧ Ev (fun k => R07_Printer_raw k ⟨sig, metas, names⟩ x u) r := by
      intro j u hu x hx
      subst hx
      have hum := List.mem_of_getElem? hu
      have h1 := arg_count hum
      have h2 := Tm.height_le hum
      have h3 := under_le t.op j
      have h4 := nodesSL_get hs.2 hu
      rw [Nat.zero_add] at h4
      exact raw_ev c u _ (by omega) (proper_arg hp hum) (by omega) (by omega) h4 (fullL_get hf.2 hu)
    rcases okAll_op hok with ho | ho | ho | ho
    · refine ⟨Rw.mk 1 (⟨#[]⟩) [], ?_, ?_⟩
      · refine Ev.succ (fun k => print_printer_raw.eq_2 ..) ?_
        exact Ev.t (beqI ho) ((node_ev _ _ _).bind (Ev.pure _))
      · refine Ev.succ (fun k => R07_Printer_raw.eq_2 ..) ?_
        exact Ev.t (beqI ho) (Ev.pure _)
    · obtain ⟨a, b, e, _⟩ := okAll_two hok ho
      have i0 : idx t.args 0 = some a := by rw [e]; rfl
      have i1 : idx t.args 1 = some b := by rw [e]; rfl
      have hbm : b ∈ t.args := by rw [e]; simp
      have hbp := proper_arg hp hbm
      obtain ⟨A, a1, a2⟩ := sub 0 a (by rw [e]; rfl) n (by rw [under]; simp [ho])
      obtain ⟨nm, n1, n2⟩ := name_ev sig metas names K.ok K.long K.first n hn0 (by omega)
      have ub : n + 1 = n + under t.op ((1 : Nat) : Int) := by rw [under]; simp [ho]
      cases hl : lowF b 0 0 with
      | true =>
        obtain ⟨B, b1, b2⟩ := sub 1 b (by rw [e]; rfl) (n + 1) ub
        refine ⟨Rw.mk 5 nm [A, B], ?_, ?_⟩
        · refine Ev.succ (fun k => print_printer_raw.eq_2 ..) ?_
          refine Ev.f (beqI' (by omega)) (Ev.t (beqI ho) ?_)
          refine Ev.bind (x := (Rw.mk 5 nm [A, B], 0)) ?_ (Ev.pure _)
          refine Ev.succ (fun k => print_printer_pi.eq_2 ..) ?_
          refine Ev.some i0 (a1.bind (Ev.f rfl (Ev.some i1 ((occurs_ev hbp).bind ?_))))
          rw [hl]
          refine Ev.t rfl (Ev.some i1 ?_)
          rw [hw]
          exact b1.bind (n1.bind ((node_ev _ _ _).bind (Ev.pure _)))
        · refine Ev.succ (fun k => R07_Printer_raw.eq_2 ..) ?_
          refine Ev.f (beqI' (by omega)) (Ev.t (beqI ho) ?_)
          refine Ev.some i0 (a2.bind (Ev.some i1 ((refOccurs_ev hbp).bind ?_)))
          rw [hl]
          refine Ev.f rfl (Ev.some i1 (n2.bind ?_))
          rw [hw]
          exact b2.bind (Ev.pure _)
      | false =>
        have hbh := Tm.height_le hbm
        have hbc := arg_count hbm
        obtain ⟨hbok, hbh2, hbc2⟩ := proper_small hbp
        have hsb := nodesSL_get hs.2 (j := 1) (u := b) (by rw [e]; rfl)
        rw [Nat.zero_add, ← ub] at hsb
        obtain ⟨B, b1, b2⟩ := raw_ev c (movedF b (-1) 0) n (by rw [moved_count]; omega) (moved_proper hbp hl) hn0 (by rw [moved_height]; omega) (nodesS_moved _ _ b n 0 hbok (by omega) (by omega) hl hsb) (by rw [full_moved]; exact fullL_get hf.2 (j := 1) (by rw [e]; rfl))
        refine ⟨Rw.mk 6 (⟨#[]⟩) [A, B], ?_, ?_⟩
        · refine Ev.succ (fun k => print_printer_raw.eq_2 ..) ?_
          refine Ev.f (beqI' (by omega)) (Ev.t (beqI ho) ?_)
          refine Ev.bind (x := (Rw.mk 6 (⟨#[]⟩) [A, B], 0)) ?_ (Ev.pure _)
          refine Ev.succ (fun k => print_printer_pi.eq_2 ..) ?_
          refine Ev.some i0 (a1.bind (Ev.f rfl (Ev.some i1 ((occurs_ev hbp).bind ?_))))
          rw [hl]
          refine Ev.f rfl (Ev.some i1 ?_)
          have hm : Ev (fun k => term_Moved k b (-1) 0) (movedF b (-1) 0) := by
            refine Ev.succ (fun k => term_Moved.eq_2 ..) ?_
            exact (moved_ev b 0 (by omega) (by omega) (by omega) hbok).bind (Ev.pure _)
          exact hm.bind (b1.bind ((node_ev _ _ _).bind (Ev.pure _)))
        · refine Ev.succ (fun k => R07_Printer_raw.eq_2 ..) ?_
          refine Ev.f (beqI' (by omega)) (Ev.t (beqI ho) ?_)
          refine Ev.some i0 (a2.bind (Ev.some i1 ((refOccurs_ev hbp).bind ?_)))
          rw [hl]
          refine Ev.t rfl (Ev.some i1 ?_)
          have hm : Ev (fun k => R07_lowered k b) (movedF b (-1) 0) := by
            refine Ev.succ (fun k => R07_lowered.eq_2 ..) ?_
            rw [shift_low hbp hl]
            exact Ev.pure _
          exact hm.bind (b2.bind (Ev.pure _))
    · obtain ⟨a, e, _⟩ := okAll_one hok ho
      have i0 : idx t.args 0 = some a := by rw [e]; rfl
      obtain ⟨A, a1, a2⟩ := sub 0 a (by rw [e]; rfl) (n + 1) (by rw [under]; simp [ho])
      obtain ⟨nm, n1, n2⟩ := name_ev sig metas names K.ok K.long K.first n hn0 (by omega)
      refine ⟨Rw.mk 7 nm [Rw.mk 3 (⟨#[]⟩) [], A], ?_, ?_⟩
      · refine Ev.succ (fun k => print_printer_raw.eq_2 ..) ?_
        refine Ev.f (beqI' (by omega)) (Ev.f (beqI' (by omega)) (Ev.t (beqI ho) (Ev.some i0 ?_)))
        rw [hw]
        exact a1.bind (n1.bind ((node_ev _ _ _).bind ((node_ev _ _ _).bind (Ev.pure _))))
      · refine Ev.succ (fun k => R07_Printer_raw.eq_2 ..) ?_
        refine Ev.f (beqI' (by omega)) (Ev.f (beqI' (by omega)) (Ev.t (beqI ho) (Ev.some i0 (n2.bind ?_))))
        rw [hw]
        exact a2.bind (Ev.pure _)
    · obtain ⟨hd, h1, h2, h3⟩ := head_ev K hok ho n hn0 (by omega)
      rw [hs.1, hf.1] at h2
      obtain ⟨h4, h5⟩ := h3 h2
      have hpos := okAll_n hok
      -- how many arguments are left out
      obtain ⟨q, hq, hql, hqr⟩ : ∃ q : Nat, hd.2.1 = (q : Int) ∧ q ≤ t.args.length ∧ (t.hd = 2 → ∃ d, idx sig t.n = some d ∧ d.implicit = (q : Int)) := by
        by_cases hh2 : t.hd = 2
        · have hlt : t.n < (sig.length : Int) := by
            have := hs.1
            simp [nodeS, ho, hh2] at this
            exact this
          obtain ⟨d, hd', hdm⟩ := idx_pre (sig := sig) (n := t.n) hpos.1 hlt
          have hi : impAt sig t.n = d.implicit := by rw [impAt, hd']
          have hfull := hf.1
          simp only [nodeF, ho, hh2, hi] at hfull
          simp at hfull
          have := (sigOK_imp K.ok d hdm).1
          refine ⟨d.implicit.toNat, ?_, by omega, fun _ => ⟨d, hd', by omega⟩⟩
          rw [h5, if_pos hh2, hi]; omega
        · exact ⟨0, by rw [h5, if_neg hh2]; rfl, by omega, fun h => absurd h hh2⟩
      have fold : ∀ (ts : List Tm) (j : Nat) (acc : Rw), t.args.drop (q + j) = ts → q + j + ts.length = t.args.length → ∃ r, Ev (fun k => print_fold_print_printer_raw_1_L1 k (t.args.drop q) n ⟨sig, metas, names.length⟩ acc (j : Int)) (r, 0) ∧ Ev (fun k => R07_Printer_raw_L1 k t ⟨sig, metas, names⟩ n acc ((q + j : Nat) : Int)) r := by
        intro ts
        induction ts with
        | nil =>
          intro j acc hd' hi
          simp only [List.length_nil, Nat.add_zero] at hi
          refine ⟨acc, ?_, ?_⟩
          · refine Ev.succ (fun k => print_fold_print_printer_raw_1_L1.eq_2 ..) ?_
            exact Ev.f (by simp [Tm.encL_length, List.length_drop]; omega) (Ev.pure _)
          · refine Ev.succ (fun k => R07_Printer_raw_L1.eq_2 ..) ?_
            exact Ev.f (by simp [Tm.encL_length]; omega) (Ev.pure _)
        | cons u ts ihl =>
          intro j acc hd' hi
          simp only [List.length_cons] at hi
          have hu := getDrop hd'
          obtain ⟨U, u1, u2⟩ := sub (q + j) u hu n (by rw [under]; simp [ho])
          obtain ⟨r, r1, r2⟩ := ihl (j + 1) (Rw.mk 4 (⟨#[]⟩) [acc, U]) (by rw [← Nat.add_assoc]; exact dropDrop hd') (by omega)
          refine ⟨r, ?_, ?_⟩
          · refine Ev.succ (fun k => print_fold_print_printer_raw_1_L1.eq_2 ..) ?_
            refine Ev.t (by simp [Tm.encL_length, List.length_drop]; omega) ?_
            refine Ev.some (idx_get (by rw [List.getElem?_drop]; exact hu)) ?_
            refine Ev.bind (x := (Rw.mk 4 (⟨#[]⟩) [acc, U], 0)) ?_ ?_
            · refine Ev.succ (fun k => print_printer_raw_1.eq_2 ..) ?_
              exact u1.bind ((node_ev _ _ _).bind (Ev.pure _))
            refine Ev.f rfl ?_
            rw [wrapS (by omega)]
            exact r1
          · refine Ev.succ (fun k => R07_Printer_raw_L1.eq_2 ..) ?_
            refine Ev.t (by simp [Tm.encL_length]; omega) ?_
            refine Ev.some (idx_get hu) (u2.bind ?_)
            rw [wrapS (by omega)]
            exact r2
      obtain ⟨r, r1, r2⟩ := fold (t.args.drop q) 0 (Rw.mk 2 hd.1 []) (by rw [Nat.add_zero]) (by rw [List.length_drop]; omega)
      refine ⟨r, ?_, ?_⟩
      · refine Ev.succ (fun k => print_printer_raw.eq_2 ..) ?_
        refine Ev.f (beqI' (by omega)) (Ev.f (beqI' (by omega)) (Ev.f (beqI' (by omega)) ?_))
        refine h1.bind ?_
        rw [h2, hq]
        refine Ev.f rfl (Ev.need (by rw [Tm.encL_length]; simp; omega) ?_)
        refine (node_ev _ _ _).bind ?_
        rw [Int.toNat_natCast]
        refine Ev.bind (x := (r, 0)) ?_ (Ev.pure _)
        refine Ev.succ (fun k => print_fold_print_printer_raw_1.eq_2 ..) ?_
        exact r1
      · refine Ev.succ (fun k => R07_Printer_raw.eq_2 ..) ?_
        refine Ev.f (beqI' (by omega)) (Ev.f (beqI' (by omega)) (Ev.f (beqI' (by omega)) ?_))
        refine h4.bind ?_
        rw [Nat.add_zero] at r2
        refine Ev.ite (fun h => ?_) (fun h => ?_)
        · have hh2 : t.hd = 2 := by simpa using h
          obtain ⟨d, hd', hdi⟩ := hqr hh2
          refine Ev.some hd' ?_
          rw [hdi]; exact r2
        · have hh2 : t.hd ≠ 2 := by simpa using h
          have : q = 0 := by
            rw [h5, if_neg hh2] at hq
            omega
          subst this
          exact r2
end
end Go.Proofs.YtnolnmfpmhpapaaGreatDoor
end

/-! EvV -/
section
namespace Go.Proofs.YtnolnmfpmhpapaaGreatDoor
open Go.Tr Go
set_option linter.unusedVariables false
set_option linter.unusedSimpArgs false
set_option maxRecDepth 10000

set_option maxRecDepth 100000 in
theorem awake_at (m : Nat) : W07_awake (m + 60) = some true := by kernel_rfl
theorem awake_ev : Ev (fun k => W07_awake k) true := ⟨60, fun n hn => by
  obtain ⟨m, rfl⟩ : ∃ m, n = m + 60 := ⟨n - 60, by omega⟩
  exact awake_at m⟩

abbrev noRw : Rw := Rw.mk 0 ByteArray.empty []

theorem sk_args_count (t : Rw) : t.args.length + 1 ≤ t.sk.count := by
  have h1 := Tm.length_le_countL (Rw.skL t.args)
  rw [Rw.skL_length] at h1
  have h2 := Tm.count_eq t.sk
  rw [Rw.sk_args] at h2
  omega
theorem sk_arg_count {t u : Rw} (hu : u ∈ t.args) : u.sk.count < t.sk.count := by
  have h2 := Tm.count_eq t.sk
  rw [Rw.sk_args] at h2
  have : ∀ (us : List Rw), u ∈ us → u.sk.count ≤ Tm.countL (Rw.skL us) := by
    intro us
    induction us with
    | nil => intro h; cases h
    | cons v us ih =>
      intro h
      simp only [Rw.skL, Tm.countL]
      rcases List.mem_cons.1 h with e | e
      · subst e; omega
      · have := ih e; omega
  have := this _ hu
  omega

theorem sameRw (t : Rw) : t.sk.count ≤ 1000 → Ev (fun k => R02_Same k t t) true := by
  induction t using Rw.ind with
  | h t ih =>
    intro hc
    have hl := sk_args_count t
    have loop : ∀ (ts : List Rw) (i : Nat), t.args.drop i = ts → i + ts.length = t.args.length → Ev (fun k => R02_Same_L1 k t t (i : Int)) true := by
      intro ts
      induction ts with
      | nil =>
        intro i hd hi
        refine Ev.succ (fun k => R02_Same_L1.eq_2 ..) ?_
        simp only [List.length_nil, Nat.add_zero] at hi
        exact Ev.f (by simp [Rw.encL_length, hi]) (Ev.pure _)
      | cons u ts ihl =>
        intro i hd hi
        refine Ev.succ (fun k => R02_Same_L1.eq_2 ..) ?_
        simp only [List.length_cons] at hi
        have hu := getDrop hd
        have hum := List.mem_of_getElem? hu
        have := sk_arg_count hum
        refine Ev.t (by simp [Rw.encL_length]; omega) ?_
        refine Ev.some (idx_get hu) (Ev.some (idx_get hu) ((ih u hum (by omega)).bind (Ev.f rfl ?_)))
        rw [wrapS (by omega)]
        exact ihl (i + 1) (dropDrop hd) (by omega)
    refine Ev.succ (fun k => R02_Same.eq_2 ..) ?_
    refine Ev.f (by simp) ?_
    exact loop t.args 0 rfl (by simp)

theorem rawOK_facts {r : Rw} (h : rawOK r = true) : okAll r.sk = true ∧ r.sk.count ≤ 400 := by
  rw [rawOK, properF_iff] at h
  exact ⟨h.1, by omega⟩

/-- What the printer answers to Raw. -/
abbrev okR2 (r : Rw × Int) : Prop := (r.2 = 0 → rawOK r.1 = true) ∧ r.1.sk.count ≤ 1000

theorem kept_ok {r : Rw} (h : rawOK r = true) : Ev (fun k => print_kept k r 0) (r, 0) := by
  refine Ev.succ (fun k => print_kept.eq_2 ..) ?_
  rw [h]
  exact Ev.f rfl (Ev.f rfl (Ev.pure _))
theorem kept_no {r : Rw} (h : rawOK r = false) : Ev (fun k => print_kept k r 0) (noRw, 5) := by
  refine Ev.succ (fun k => print_kept.eq_2 ..) ?_
  rw [h]
  exact Ev.f rfl (Ev.t rfl (Ev.pure _))

theorem noRw_small : noRw.sk.count ≤ 1000 := by decide

/-- Raw and Text of a good signature, metavariables and term. -/
theorem raw_both {sig : List Dc} {metas : List Mt} {t : Tm} (hs : sigOK sig = true) (hm : metas.length ≤ 80) (hmB : metasB metas = true) (hp : isProper t = true) (n : Int) (h0 : 0 ≤ n) (h1 : n ≤ 30) :
    ∃ r, Ev (fun k => print_Raw k sig metas n t) r ∧ Ev (fun k => R07_Printer_Raw k ⟨sig, metas, []⟩ n t) r ∧ okR2 r := by
  have K : Known sig metas [] := ⟨hs, longest_le sig (sigOK_names hs), hm, ⟨by simp, fun i s h => by simp at h⟩⟩
  obtain ⟨hok, hh, hc⟩ := proper_small hp
  have e0 : ((([] : List ByteArray).length : Nat) : Int) = 0 := rfl
  have hsc := scoped_ev K hp n h0 (by omega)
  rw [e0] at hsc
  have hgood := good_ev sig metas t
  rw [hs, decide_eq_true hm, hmB, hp] at hgood
  have start : ∀ {r}, Ev (fun n_1 => (print_printer_scoped n_1 t n (Prt.mk sig metas 0)).bind (fun v12 => cond (v12 != 0) (some ((Rw.mk 0 ByteArray.empty ([])), v12)) ((print_printer_raw n_1 t n (Prt.mk sig metas 0)).bind (fun v15 => (print_kept n_1 v15.1 v15.2).bind (fun v18 => some (v18.1, v18.2)))))) r → Ev (fun k => print_Raw k sig metas n t) r := by
    intro r h
    refine Ev.succ (fun k => print_Raw.eq_2 ..) ?_
    exact hgood.bind (Ev.f (by simp; omega) h)
  cases hS : nodesS sig.length metas.length t n with
  | false =>
    rw [hS] at hsc
    refine ⟨(noRw, 27), start (hsc.bind (Ev.t rfl (Ev.pure _))), ?_, ⟨fun h => (by cases h), noRw_small⟩⟩
    refine Ev.succ (fun k => R07_Printer_Raw.eq_2 ..) ?_
    refine (refScoped_ev sig metas [] hp n h0).bind ?_
    rw [hS]
    exact Ev.t rfl (Ev.pure _)
  | true =>
  have hrs := refScoped_ev sig metas [] hp n h0
  rw [hS] at hsc hrs
  have hrf := refFull_ev sig metas [] t n hok (by omega) hS
  cases hF : fullB sig t with
  | false =>
    rw [hF] at hsc hrf
    refine ⟨(noRw, 23), start (hsc.bind (Ev.t rfl (Ev.pure _))), ?_, ⟨fun h => (by cases h), noRw_small⟩⟩
    refine Ev.succ (fun k => R07_Printer_Raw.eq_2 ..) ?_
    exact hrs.bind (Ev.f rfl (hrf.bind (Ev.t rfl (Ev.pure _))))
  | true =>
  rw [hF] at hsc hrf
  obtain ⟨r, r1, r2⟩ := raw_ev K t.count t n (Nat.le_refl _) hp h0 (by omega) hS hF
  rw [e0] at r1
  cases hr : rawOK r with
  | true =>
    have hk := kept_ok hr
    refine ⟨(r, 0), start (hsc.bind (Ev.f rfl (r1.bind (hk.bind (Ev.pure _))))), ?_, ⟨fun _ => hr, by have := (rawOK_facts hr).2; simp only; omega⟩⟩
    refine Ev.succ (fun k => R07_Printer_Raw.eq_2 ..) ?_
    refine hrs.bind (Ev.f rfl (hrf.bind (Ev.f rfl (r2.bind ?_))))
    rw [hr]
    exact Ev.f rfl (Ev.pure _)
  | false =>
    have hk := kept_no hr
    refine ⟨(noRw, 5), start (hsc.bind (Ev.f rfl (r1.bind (hk.bind (Ev.pure _))))), ?_, ⟨fun h => (by cases h), noRw_small⟩⟩
    refine Ev.succ (fun k => R07_Printer_Raw.eq_2 ..) ?_
    refine hrs.bind (Ev.f rfl (hrf.bind (Ev.f rfl (r2.bind ?_))))
    rw [hr]
    exact Ev.t rfl (Ev.pure _)

theorem syntaxText_ev {r : Rw} (h : rawOK r = true) : ∃ T : ByteArray, Ev (fun k => syntax_Text k r) (T, 0) ∧ Ev (fun k => R02_Text k r) T := by
  obtain ⟨h1, h2⟩ := rawOK_facts h
  obtain ⟨T, t1, t2, t3⟩ := text_ev r.sk.count r h1 (Nat.le_refl _) (by omega)
  refine ⟨T, ?_, t1⟩
  refine Ev.succ (fun k => syntax_Text.eq_2 ..) ?_
  rw [h]
  refine Ev.f rfl ?_
  have e : wr ([].any (fun x => r.op == x)) T = T := rfl
  have := t3 [] (by simp)
  rw [e] at this
  exact this.bind (Ev.pure _)

theorem printTerms_ev (x : Ask) : Ev (fun k => W07_PrintTerms k x) true := by
  have bad : (sigOK x.sig && (decide (x.metas.length ≤ 80) && metasB x.metas) && isProper x.t) = false ∨ x.n < 0 ∨ x.n > 30 → Ev (fun k => print_Raw k x.sig x.metas x.n x.t) (noRw, 2) ∧ Ev (fun k => print_Text k x.sig x.metas x.n x.t) ((⟨#[]⟩ : ByteArray), 2) := by
    intro h
    have h1 : Ev (fun k => print_Raw k x.sig x.metas x.n x.t) (noRw, 2) := by
      refine Ev.succ (fun k => print_Raw.eq_2 ..) ?_
      refine (good_ev x.sig x.metas x.t).bind ?_
      refine Ev.t ?_ (Ev.pure _)
      rcases h with h | h | h
      · rw [h]; rfl
      · simp [h]
      · simp [h]
    refine ⟨h1, ?_⟩
    refine Ev.succ (fun k => print_Text.eq_2 ..) ?_
    exact h1.bind (Ev.t rfl (Ev.pure _))
  have tail : Ev (fun n => cond (((2 : Int) == 2) && ((2 : Int) == 2)) ((R02_Same n noRw (Rw.mk 0 ByteArray.empty ([]))).bind (fun v40 => cond (v40 && ((⟨#[]⟩ : ByteArray).toList == (⟨#[]⟩ : ByteArray).toList)) ((W07_awake n ).bind (fun v43 => some (v43))) (some (false)))) (some (false))) true := by
    refine Ev.t rfl ((sameRw noRw noRw_small).bind (Ev.t (by simp) ?_))
    exact awake_ev.bind (Ev.pure _)
  refine Ev.succ (fun k => W07_PrintTerms.eq_2 ..) ?_
  cases hs : sigOK x.sig with
  | false =>
    obtain ⟨b1, b2⟩ := bad (.inl (by rw [hs]; rfl))
    refine b1.bind (b2.bind ((formedSig_ev x.sig).bind ?_))
    rw [hs]
    exact Ev.t rfl tail
  | true =>
  cases hp : isProper x.t with
  | false =>
    obtain ⟨b1, b2⟩ := bad (.inl (by rw [hp]; simp))
    refine b1.bind (b2.bind ((formedSig_ev x.sig).bind ?_))
    rw [hs, refProper_eq, hp]
    exact Ev.f rfl (Ev.t rfl tail)
  | true =>
  by_cases hg : ((decide (x.metas.length ≤ 80) && metasB x.metas) = true ∧ 0 ≤ x.n) ∧ x.n ≤ 30
  · obtain ⟨⟨hm, h0⟩, h1⟩ := hg
    rw [Bool.and_eq_true, decide_eq_true_eq] at hm
    obtain ⟨r, r1, r2, r3, r4⟩ := raw_both hs hm.1 hm.2 hp x.n h0 h1
    have texts : ∃ s, Ev (fun k => print_Text k x.sig x.metas x.n x.t) s ∧ Ev (fun k => R07_Printer_Text k ⟨x.sig, x.metas, []⟩ x.n x.t) s := by
      by_cases he : r.2 = 0
      · obtain ⟨T, t1, t2⟩ := syntaxText_ev (r3 he)
        refine ⟨(T, 0), ?_, ?_⟩
        · refine Ev.succ (fun k => print_Text.eq_2 ..) ?_
          refine r1.bind (Ev.f (bneI' he) (t1.bind (Ev.pure _)))
        · refine Ev.succ (fun k => R07_Printer_Text.eq_2 ..) ?_
          exact r2.bind (Ev.f (bneI' he) (t2.bind (Ev.pure _)))
      · refine ⟨((⟨#[]⟩ : ByteArray), r.2), ?_, ?_⟩
        · refine Ev.succ (fun k => print_Text.eq_2 ..) ?_
          exact r1.bind (Ev.t (bneI he) (Ev.pure _))
        · refine Ev.succ (fun k => R07_Printer_Text.eq_2 ..) ?_
          exact r2.bind (Ev.t (bneI he) (Ev.pure _))
    obtain ⟨s, s1, s2⟩ := texts
    refine r1.bind (s1.bind ((formedSig_ev x.sig).bind ?_))
    rw [hs, refProper_eq, hp]
    refine Ev.f rfl (Ev.f rfl ((metas_ev x.metas).bind ?_))
    rw [decide_eq_true hm.1, hm.2]
    refine Ev.f (by simp; omega) ?_
    refine r2.bind (s2.bind ((sameRw r.1 r4).bind (Ev.t (by simp) ?_)))
    exact awake_ev.bind (Ev.pure _)
  · have hcase : (decide (x.metas.length ≤ 80) && metasB x.metas) = false ∨ x.n < 0 ∨ x.n > 30 := by
      cases hm : (decide (x.metas.length ≤ 80) && metasB x.metas) with
      | false => exact .inl rfl
      | true =>
        right
        rw [hm] at hg
        simp only [true_and] at hg
        omega
    obtain ⟨b1, b2⟩ := bad (by
      rcases hcase with h | h
      · left; rw [h]; simp
      · exact .inr h)
    refine b1.bind (b2.bind ((formedSig_ev x.sig).bind ?_))
    rw [hs, refProper_eq, hp]
    refine Ev.f rfl (Ev.f rfl ((metas_ev x.metas).bind ?_))
    refine Ev.t ?_ tail
    rcases hcase with h | h | h
    · rw [h]; rfl
    · simp [h]
    · simp [h]
end Go.Proofs.YtnolnmfpmhpapaaGreatDoor
end

/-! RowLaid -/
section
namespace Go.Proofs.YtnolnmfpmhpapaaGreatDoor
open Go.Tr Go
open Go.ChangeShapes Go.WideShapes Go.ChangeAt Go.RowKit
set_option maxRecDepth 10000

def cellsD : DataW Unit → Array Value
  | .agg l => (l.map fun | .lit (.int k n) => Value.int k n | _ => Value.int .i64 0).toArray
  | _ => #[]
def setCells (vs : Array Value) : Obj → Obj
  | .cells _ t frozen => .cells vs t frozen
  | o => o
noncomputable def laidWorld (os : Os) : World :=
  let w0 := World.holding Tryz.prog os ⟨#[], #[], []⟩
  { w0 with heap := ((w0.heap.modify 0 (setCells (cellsD Rows.laid_internal_strconv_uint64pow10))).modify 2 (setCells (cellsD Rows.laid_math_bits_deBruijn32tab))).modify 3 (setCells (cellsD Rows.laid_math_bits_deBruijn64tab)) }
theorem laidWorld_met (os : Os) (args : Array Value) : laidMet Tryz.prog Rows.printTermsRow.laid ((laidWorld os).forCall (fun _ _ => 0) ⟨#[], args, []⟩).memory :=
  laidMet_of_run3 8 (by kernel_rfl) (by kernel_rfl) (by kernel_rfl)
end Go.Proofs.YtnolnmfpmhpapaaGreatDoor
end

/-! RowPT -/
section
namespace Go.Proofs.YtnolnmfpmhpapaaGreatDoor
open Go.Tr Go
open Go.ChangeShapes Go.WideShapes Go.ChangeAt Go.RowKit
set_option maxRecDepth 10000

theorem printTerms_spec (x : Ask) (a2 : Option Addr) (c2 : Nat) (a3 : Option Addr) (c3 : Nat) (a4 : Option Addr) (c4 : Nat) :
    Pure Tryz.prog (fnS 5) [(.agg [(.v (.slice a2 ((Dc.encL x.sig).length) c2)), (.v (.slice a3 ((Mt.encL x.metas).length) c3)), (.v (.int .i64 x.n)), (.v (.int .i64 x.t.op)), (.v (.int .i64 x.t.hd)), (.v (.int .i64 x.t.n)), (.v (.slice a4 ((Tm.encL x.t.args).length) c4))])] [(.slice a2 ((Dc.encL x.sig).length) c2, .sl 6 (Dc.encL x.sig)), (.slice a3 ((Mt.encL x.metas).length) c3, .sl 10 (Mt.encL x.metas)), (.slice a4 ((Tm.encL x.t.args).length) c4, .sl 4 (Tm.encL x.t.args))] (fun r out => r = bS true ∧ out = []) := by
  obtain ⟨N, h⟩ := printTerms_ev x
  exact W07_PrintTerms_spec N x a2 c2 a3 c3 a4 c4 _ (h N (Nat.le_refl _))

set_option maxRecDepth 100000 in
theorem printTerms_lifted (os : Os) (started : os.Started) (H : Type) (enc : TypeId × Value → H) :
    ReturnsInHanded {} Tryz.checked os 5 .any (fun w args => (Rows.printTermsSpec.pre enc Tryz.prog Tryz.f5 Rows.printTermsRow.domain false w args ∧ laidMet Tryz.prog Rows.printTermsRow.laid w) ∧ sizedMet enc Tryz.prog Tryz.f5 (OpenSpec.ofChange Rows.printTermsSpec) false w args)
      (Rows.printTermsSpec.post enc Tryz.prog Tryz.f5 false true false false) := by
  refine returnsInHanded_of_change_and (C := Tryz.checked) (X := fun w _ => laidMet Tryz.prog Rows.printTermsRow.laid w) (fun _ _ _ hh h => h.of_heap hh) own started (by kernel_rfl) Tryz.func5
    (ChangeSpec.witness_at (enc := enc) (C := Tryz.checked) (os := os) (X := fun w _ => laidMet Tryz.prog Rows.printTermsRow.laid w) false (laidWorld os) #[.agg #[.slice none 0 0, .slice none 0 0, .int .i64 0, .int .i64 0, .int .i64 0, .int .i64 0, .slice none 0 0]] 8 rfl (by kernel_rfl) (by kernel_rfl) (by kernel_rfl) (by kernel_rfl) (by kernel_rfl) (laidWorld_met os _)) ?_
  intro W base args ds gs before hval0 hW _ hsz0 hL _
  have hsz : (DataW.weightsEach Tryz.prog (Tryz.f5.params.toList ++ Rows.printTermsSpec.plain.varTypes Tryz.prog) (ds ++ gs)).all (· ≤ reachBytes) = true := hsz0
  clear hsz0
  have hval : ∀ (j : Nat) t v, Tryz.f5.params[j]? = some t → args[j]? = some v → Value.okWide Tryz.prog W .any base t v := hval0
  have hW' := hW
  obtain ⟨p, q, hA0, hV, rfl, _, _⟩ := hW
  have hA : DataW.TrodAll enc Tryz.prog W 0 (fun _ => true) true Tryz.f5.params.toList args.toList ds p := hA0
  rw [Tryz.params5] at hA hval
  have hsz : (DataW.weightsEach Tryz.prog ([56] ++ []) (ds ++ gs)).all (· ≤ reachBytes) = true := by
    have := hsz
    rw [Tryz.params5] at this
    exact this
  obtain ⟨v0, vs0, d0, ds0, p0, q0, ha0, rfl, rfl, h0, r0⟩ := trodAll_cons hA
  obtain ⟨rfl, rfl, rfl⟩ := trodAll_nil r0
  obtain ⟨rfl, rfl⟩ := trodVars_none hV
  obtain rfl : args = #[v0] := by rw [← Array.toList_inj, ha0]
  have hw := all_le hsz
  simp only [List.append_nil, DataW.weightsEach] at hw
  obtain ⟨x, a2, c2, a3, c3, a4, c4, rfl, e2, e3, e4⟩ := arg_Ask (hval 0 _ _ rfl rfl) h0 hw
  refine ((printTerms_spec x a2 c2 a3 c3 a4 c4).calls Tryz.call5 (W := W) ?_).mono ?_
  · intro r hr
    simp only [List.mem_cons, List.not_mem_nil, or_false] at hr
    rcases hr with rfl | rfl | rfl
    · exact e2
    · exact e3
    · exact e4
  rintro e W' ⟨r, out, rfl, ⟨rfl, rfl⟩, hx⟩
  refine ⟨_, rfl, post_true kids full hW' rfl ?_ ?_ (by kernel_rfl) Tryz.underlying4 hx⟩
  · rw [Tryz.params5]
    decide +kernel
  · intro ds hl
    rw [Tryz.params5] at hl
    match ds, hl with
    | [_], _ => rfl

theorem printTerms_holds : Rows.PrintTermsSaid :=
  OpenClaim.holds_of_wide 5 Tryz.f5 rfl rfl rfl rfl rfl rfl rfl ⟨rfl, rfl, rfl, rfl, rfl⟩ rfl rfl rfl rfl rfl (by kernel_rfl) Tryz.func5 (by kernel_rfl)
    (of_decide_eq_true (by kernel_rfl)) (by unfold Func.isWrapper; first | (rw [if_pos (by decide +kernel)]; kernel_rfl) | (rw [if_neg (by decide +kernel)]; exact ⟨rfl, rfl⟩))
    (fun os started H enc _ => printTerms_lifted os started H enc)
#print axioms printTerms_holds
end Go.Proofs.YtnolnmfpmhpapaaGreatDoor
end

/-! CardPT -/
section
namespace Go.Proofs.YtnolnmfpmhpapaaGreatDoor
open Go

theorem printTermsCard_holds : Rows.PrintTermsCardSaid :=
  Claim7.holds_tied_plain_at .later [] [.data, .data, .data] true (true, "185b26e6cca830f7bbfbd4b1d180571776208de5d4ca169efa254b78591b6679") true
    printTerms_holds (fun _ h => by cases h) (by kernel_rfl) (fun _ h => by cases h) printTerms_row_tie rfl ⟨rfl, rfl⟩ (by kernel_rfl) rfl
    (fun f fn hf hfn => by
      obtain rfl : f = 5 := Option.some.inj ((show Tryz.prog.funcNamed "truss/trusslaw07.PrintTerms" = some 5 by kernel_rfl).symm.trans hf) |>.symm
      obtain rfl : fn = Tryz.f5 := (Option.some.inj (Tryz.func5.symm.trans hfn)).symm
      exact ⟨by kernel_rfl, fun j t ht => by
        rw [Tryz.params5] at ht
        have h3 : t = 56 := by
          rcases j with _ | j
          · simpa using ht.symm
          · simp at ht
        subst h3
        exact (show Tryz.prog.wantsStandIn 56 = false by kernel_rfl)⟩)
    (by kernel_rfl)
#print axioms printTermsCard_holds
end Go.Proofs.YtnolnmfpmhpapaaGreatDoor
end
