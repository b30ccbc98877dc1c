/- Merged texts: FrK RowLaid RowPO CardPO. Plain law: two terms with one raw expression are alike but for what is left out. No program in sight. A start at which the listed tables read as their initialisers lay them. No condition. PrintOnce answers true at every input, and its arguments read as they did. No condition. PrintOnce: the card: the row, its listed tables tied to the program's text by the given tie. No condition. -/
import Derived.Test.YtpibdcjdamibdaaGreatDoorQJ
import Derived.JoinedAt
import Derived.LaidLaws
import Derived.Deep.DeepLaidRun
import Derived.Test.YtpibdcjdamibdaaGreatDoorCards
import Derived.Test.YtpibdcjdamibdaaGreatDoorTie
import Derived.SevenTiedAt
/-! FrK -/
section
namespace Go.Proofs.YtpibdcjdamibdaaGreatDoor
open Go.Tr Go
set_option linter.unusedVariables false
set_option linter.unusedSimpArgs false
set_option maxRecDepth 10000

mutual
theorem sameF_iff7 : ∀ (a b : Tm), sameF a b = true ↔ a = b
  | .mk o h n us, .mk o' h' n' vs => by
    simp only [sameF, Tm.op, Tm.hd, Tm.n, Tm.args, Bool.and_eq_true, beq_iff_eq, Tm.mk.injEq]
    constructor
    · rintro ⟨⟨⟨h1, h2⟩, h3⟩, h4, h5⟩
      exact ⟨h1, h2, h3, (sameL_iff7 us vs h4).1 h5⟩
    · rintro ⟨h1, h2, h3, h4⟩
      exact ⟨⟨⟨h1, h2⟩, h3⟩, by rw [h4], (sameL_iff7 us vs (by rw [h4])).2 h4⟩
theorem sameL_iff7 : ∀ (us vs : List Tm), us.length = vs.length → (sameL us vs = true ↔ us = vs)
  | [], [], _ => by simp [sameL]
  | u :: us, v :: vs, h => by
    simp only [sameL, Bool.and_eq_true, List.cons.injEq, sameF_iff7 u v, sameL_iff7 us vs (by simpa using h)]
  | [], _ :: _, h => by simp at h
  | _ :: _, [], h => by simp at h
 end
def RawN (sig : List Dc) (metas : List Mt) (n : Int) (t : Tm) (r : Rw) : Prop := Ev (fun k => R07_Printer_raw k ⟨sig, metas, []⟩ n t) r
structure Gd (sig : List Dc) (metas : List Mt) (t : Tm) (n : Int) : Prop where
  pr : isProper t = true
  n0 : 0 ≤ n
  n1 : n + t.height ≤ 90
  sc : nodesS sig.length metas.length t n = true
  fu : fullB sig t = true
theorem Gd.arg {sig : List Dc} {metas : List Mt} {t u : Tm} {n : Int} {j : Nat} (g : Gd sig metas t n) (hu : t.args[j]? = some u) : Gd sig metas u (n + under t.op (j : Int)) := by
  have hum := List.mem_of_getElem? hu
  have h1 := g.sc
  have h2 := g.fu
  rw [nodesS_eq, Bool.and_eq_true] at h1
  rw [fullB_eq, Bool.and_eq_true] at h2
  have h3 := Tm.height_le hum
  have h4 := nodesSL_get h1.2 hu
  have h5 := under_le t.op (j : Int)
  have h6 := Tm.height_eq t
  have := g.n1
  have := g.n0
  rw [Nat.zero_add] at h4
  exact ⟨proper_arg g.pr hum, by omega, by omega, h4, fullL_get h2.2 hu⟩
theorem Gd.moved {sig : List Dc} {metas : List Mt} {b : Tm} {n : Int} (g : Gd sig metas b (n + 1)) (h0 : 0 ≤ n) (hl : lowF b 0 0 = false) : Gd sig metas (movedF b (-1) 0) n := by
  have hok := (proper_small g.pr).1
  have := g.n1
  exact ⟨moved_proper g.pr hl, h0, by rw [moved_height]; omega, nodesS_moved _ _ b n 0 hok (by omega) (by omega) hl g.sc, by rw [full_moved]; exact g.fu⟩

def apR (acc U : Rw) : Rw := .mk 4 ByteArray.empty [acc, U]
def HeadN (sig : List Dc) (metas : List Mt) (t : Tm) (n : Int) (s : ByteArray) : Prop :=
  (t.hd = 1 ∧ t.n < n ∧ VarN sig metas [] (n - 1 - t.n) s) ∨ (t.hd = 2 ∧ ∃ d, idx sig t.n = some d ∧ s = d.name) ∨ (t.hd = 3 ∧ t.n < (metas.length : Int))
def ShP (sig : List Dc) (metas : List Mt) (t : Tm) (n : Int) (r : Rw) : Prop :=
  (t.op = 1 ∧ r = .mk 1 ByteArray.empty []) ∨
  (t.op = 2 ∧ ∃ a b A B, t.args = [a, b] ∧ RawN sig metas n a A ∧ ((lowF b 0 0 = true ∧ ∃ nm, r = .mk 5 nm [A, B] ∧ RawN sig metas (n + 1) b B) ∨ (lowF b 0 0 = false ∧ r = .mk 6 ByteArray.empty [A, B] ∧ RawN sig metas n (movedF b (-1) 0) B))) ∨
  (t.op = 3 ∧ ∃ a A nm, t.args = [a] ∧ r = .mk 7 nm [.mk 3 ByteArray.empty [], A] ∧ RawN sig metas (n + 1) a A) ∨
  (t.op = 4 ∧ ∃ s Us, HeadN sig metas t n s ∧ r = List.foldl apR (.mk 2 s []) Us ∧ Us.length = (t.args.drop (outN sig t.op t.hd t.n)).length ∧ ∀ (j : Nat) (u U : _), (t.args.drop (outN sig t.op t.hd t.n))[j]? = some u → Us[j]? = some U → RawN sig metas n u U)

section
variable {sig : List Dc} {metas : List Mt} (K : Known sig metas [])
include K
theorem Gd.raw {t : Tm} {n : Int} (g : Gd sig metas t n) : ∃ r, RawN sig metas n t r := by
  obtain ⟨r, _, r2⟩ := raw_ev K t.count t n (Nat.le_refl _) g.pr g.n0 g.n1 g.sc g.fu
  exact ⟨r, r2⟩

theorem head_hn {t : Tm} (hok : okAll t = true) (hop : t.op = 4) (v : Int) (h0 : 0 ≤ v) (h1 : v ≤ 90) (hs : nodeS sig.length metas.length t.op t.hd t.n v = true) :
    ∃ s, Ev (fun k => R07_Printer_head k ⟨sig, metas, []⟩ v t) s ∧ HeadN sig metas t v s := by
  have hn := okAll_n hok
  obtain ⟨s, s1, _⟩ := head_nm K hok hop v h0 h1 hs
  refine ⟨s, s1, ?_⟩
  have hhd : t.hd = 1 ∨ t.hd = 2 ∨ t.hd = 3 := by
    cases t with
    | mk o h n us =>
      simp only [Tm.op, Tm.hd] at hop ⊢
      simp only [okAll, Bool.and_eq_true] at hok
      have h1 := hok.1
      subst hop
      simp [okNode] at h1
      omega
  rcases hhd with hh | hh | hh
  · have hlt : t.n < v := by simpa [nodeS, hop, hh] using hs
    have hw : IntKind.i64.wrap (IntKind.i64.wrap (v - 1) - t.n) = v - 1 - t.n := by rw [wrap_i64 (n := v - 1) (by omega) (by omega), wrap_i64 (by omega) (by omega)]
    obtain ⟨r, r1, r2⟩ := name_ev sig metas [] K.ok K.long K.first (v - 1 - t.n) (by omega) (by omega)
    have : Ev (fun k => R07_Printer_head k ⟨sig, metas, []⟩ v t) r := by
      refine Ev.succ (fun k => R07_Printer_head.eq_2 ..) ?_
      refine Ev.t (beqI hh) ?_
      rw [hw]
      exact r2.bind (Ev.pure _)
    rw [Ev.unique s1 this]
    exact .inl ⟨hh, hlt, r2⟩
  · have hlt : t.n < (sig.length : Int) := by simpa [nodeS, hop, hh] using hs
    obtain ⟨d, hd, _⟩ := idx_pre (sig := sig) (n := t.n) hn.1 hlt
    have : Ev (fun k => R07_Printer_head k ⟨sig, metas, []⟩ v t) d.name := by
      refine Ev.succ (fun k => R07_Printer_head.eq_2 ..) ?_
      exact Ev.f (beqI' (by omega)) (Ev.t (beqI hh) (Ev.some hd (Ev.pure _)))
    exact .inr (.inl ⟨hh, d, hd, Ev.unique s1 this⟩)
  · have hlt : t.n < (metas.length : Int) := by simpa [nodeS, hop, hh] using hs
    exact .inr (.inr ⟨hh, hlt⟩)

theorem raw_sh {t : Tm} {n : Int} {r : Rw} (g : Gd sig metas t n) (hr : RawN sig metas n t r) : ShP sig metas t n r := by
  obtain ⟨hok, hh, hcc⟩ := proper_small g.pr
  have hhe := Tm.height_eq t
  have hcl := Tm.length_le_countL t.args
  have hce := Tm.count_eq t
  have hn0 := g.n0
  have hn1 := g.n1
  have hw : IntKind.i64.wrap (n + 1) = n + 1 := wrap_i64 (by omega) (by omega)
  have hs := g.sc
  have hf := g.fu
  rw [nodesS_eq, Bool.and_eq_true] at hs
  rw [fullB_eq, Bool.and_eq_true] at hf
  rcases okAll_op hok with ho | ho | ho | ho
  · refine .inl ⟨ho, ?_⟩
    refine Ev.unique hr (Ev.succ (fun k => R07_Printer_raw.eq_2 ..) ?_)
    exact Ev.t (beqI ho) (Ev.pure _)
  · obtain ⟨a, b, e, _⟩ := okAll_two hok ho
    have i0 : idx t.args 0 = some a := by rw [e]; rfl
    have i1 : idx t.args 1 = some b := by rw [e]; rfl
    have ga := g.arg (j := 0) (u := a) (by rw [e]; rfl)
    have gb := g.arg (j := 1) (u := b) (by rw [e]; rfl)
    rw [show under t.op ((0 : Nat) : Int) = 0 by rw [under]; simp [ho], Int.add_zero] at ga
    rw [show under t.op ((1 : Nat) : Int) = 1 by rw [under]; simp [ho]] at gb
    obtain ⟨A, a2⟩ := ga.raw K
    obtain ⟨nm, n1, n2⟩ := name_ev sig metas [] K.ok K.long K.first n hn0 (by omega)
    cases hl : lowF b 0 0 with
    | true =>
      obtain ⟨B, b2⟩ := gb.raw K
      refine .inr (.inl ⟨ho, a, b, A, B, e, a2, .inl ⟨hl, nm, ?_, b2⟩⟩)
      refine Ev.unique hr (Ev.succ (fun k => R07_Printer_raw.eq_2 ..) ?_)
      refine Ev.f (beqI' (by omega)) (Ev.t (beqI ho) ?_)
      refine Ev.some i0 (Ev.bind a2 (Ev.some i1 ((refOccurs_ev gb.pr).bind ?_)))
      rw [hl]
      refine Ev.f rfl (Ev.some i1 (n2.bind ?_))
      rw [hw]
      exact Ev.bind b2 (Ev.pure _)
    | false =>
      obtain ⟨B, b2⟩ := (gb.moved hn0 hl).raw K
      refine .inr (.inl ⟨ho, a, b, A, B, e, a2, .inr ⟨hl, ?_, b2⟩⟩)
      refine Ev.unique hr (Ev.succ (fun k => R07_Printer_raw.eq_2 ..) ?_)
      refine Ev.f (beqI' (by omega)) (Ev.t (beqI ho) ?_)
      refine Ev.some i0 (Ev.bind a2 (Ev.some i1 ((refOccurs_ev gb.pr).bind ?_)))
      rw [hl]
      refine Ev.t rfl (Ev.some i1 ?_)
      have hm : Ev (fun k => R07_lowered k b) (movedF b (-1) 0) := by
        refine Ev.succ (fun k => R07_lowered.eq_2 ..) ?_
        rw [shift_low gb.pr hl]
        exact Ev.pure _
      exact hm.bind (Ev.bind b2 (Ev.pure _))
  · obtain ⟨a, e, _⟩ := okAll_one hok ho
    have i0 : idx t.args 0 = some a := by rw [e]; rfl
    have ga := g.arg (j := 0) (u := a) (by rw [e]; rfl)
    rw [show under t.op ((0 : Nat) : Int) = 1 by rw [under]; simp [ho]] at ga
    obtain ⟨A, a2⟩ := ga.raw K
    obtain ⟨nm, n1, n2⟩ := name_ev sig metas [] K.ok K.long K.first n hn0 (by omega)
    refine .inr (.inr (.inl ⟨ho, a, A, nm, e, ?_, a2⟩))
    refine Ev.unique hr (Ev.succ (fun k => R07_Printer_raw.eq_2 ..) ?_)
    refine Ev.f (beqI' (by omega)) (Ev.f (beqI' (by omega)) (Ev.t (beqI ho) (Ev.some i0 (n2.bind ?_))))
    rw [hw]
    exact Ev.bind a2 (Ev.pure _)
  · obtain ⟨s, h4, h5⟩ := head_hn K hok ho n hn0 (by omega) hs.1
    have hpos := okAll_n hok
    obtain ⟨q, hqe, hql, hqr⟩ : ∃ q : Nat, outN sig t.op t.hd t.n = q ∧ q ≤ t.args.length ∧ if t.hd = 2 then ∃ d, idx sig t.n = some d ∧ d.implicit = (q : Int) else q = 0 := by
      by_cases hh2 : t.hd = 2
      · obtain ⟨d, hd', hi, hp⟩ := node_imp K.ok rfl hok ho hh2 hs.1
        have hfull := hf.1
        simp only [nodeF, ho, hh2, hi] at hfull
        simp at hfull
        refine ⟨d.implicit.toNat, by rw [outN, if_pos ⟨ho, hh2⟩, hi], by omega, ?_⟩
        rw [if_pos hh2]
        exact ⟨d, hd', by omega⟩
      · exact ⟨0, by rw [outN, if_neg (fun h => hh2 h.2)], by omega, by rw [if_neg hh2]⟩
    have u0 : ∀ j : Nat, under t.op (j : Int) = 0 := by intro j; rw [under]; simp [ho]
    have fold : ∀ (ts : List Tm) (j : Nat) (acc : Rw), t.args.drop (q + j) = ts → q + j + ts.length = t.args.length → ∃ Us, Ev (fun k => R07_Printer_raw_L1 k t ⟨sig, metas, []⟩ n acc ((q + j : Nat) : Int)) (List.foldl apR acc Us) ∧ Us.length = ts.length ∧ ∀ (i : Nat) (u U : _), ts[i]? = some u → Us[i]? = some U → RawN sig metas n u U := by
      intro ts
      induction ts with
      | nil =>
        intro j acc hd' hi
        simp only [List.length_nil, Nat.add_zero] at hi
        refine ⟨[], ?_, rfl, fun i u U h => by simp at h⟩
        refine Ev.succ (fun k => R07_Printer_raw_L1.eq_2 ..) ?_
        exact Ev.f (by simp [Tm.encL_length]; omega) (Ev.pure _)
      | cons u ts ihl =>
        intro j acc hd' hi
        simp only [List.length_cons] at hi
        have hu := getDrop hd'
        have gu := g.arg hu
        rw [u0, Int.add_zero] at gu
        obtain ⟨U, u2⟩ := gu.raw K
        obtain ⟨Us, r2, r3, r4⟩ := ihl (j + 1) (apR acc U) (by rw [← Nat.add_assoc]; exact dropDrop hd') (by omega)
        refine ⟨U :: Us, ?_, by simp [r3], ?_⟩
        · refine Ev.succ (fun k => R07_Printer_raw_L1.eq_2 ..) ?_
          refine Ev.t (by simp [Tm.encL_length]; omega) ?_
          refine Ev.some (idx_get hu) (Ev.bind u2 ?_)
          rw [wrapS (by omega)]
          exact r2
        · intro i v V hv hV
          cases i with
          | zero => simp at hv hV; subst hv hV; exact u2
          | succ i => exact r4 i v V (by simpa using hv) (by simpa using hV)
    obtain ⟨Us, r2, r3, r4⟩ := fold (t.args.drop q) 0 (Rw.mk 2 s []) (by rw [Nat.add_zero]) (by rw [List.length_drop]; omega)
    refine .inr (.inr (.inr ⟨ho, s, Us, h5, ?_, by rw [hqe]; exact r3, by rw [hqe]; exact r4⟩))
    refine Ev.unique hr (Ev.succ (fun k => R07_Printer_raw.eq_2 ..) ?_)
    refine Ev.f (beqI' (by omega)) (Ev.f (beqI' (by omega)) (Ev.f (beqI' (by omega)) ?_))
    refine h4.bind ?_
    rw [Nat.add_zero] at r2
    refine Ev.ite (fun h => ?_) (fun h => ?_)
    · have hh2 : t.hd = 2 := by simpa using h
      rw [if_pos hh2] at hqr
      obtain ⟨d, hd', hdi⟩ := hqr
      refine Ev.some hd' ?_
      rw [hdi]; exact r2
    · have hh2 : t.hd ≠ 2 := by simpa using h
      rw [if_neg hh2] at hqr
      subst hqr
      exact r2
end

theorem foldr_inj {s s' : ByteArray} : ∀ {L L' : List Rw}, List.foldr (fun U acc => apR acc U) (Rw.mk 2 s []) L = List.foldr (fun U acc => apR acc U) (Rw.mk 2 s' []) L' → s = s' ∧ L = L'
  | [], [], h => by
    simp only [List.foldr_nil, Rw.mk.injEq] at h
    exact ⟨h.2.1, rfl⟩
  | [], U :: L', h => by simp [apR] at h
  | U :: L, [], h => by simp [apR] at h
  | U :: L, U' :: L', h => by
    simp only [List.foldr_cons, apR, Rw.mk.injEq, List.cons.injEq, and_true, true_and] at h
    obtain ⟨h1, h2⟩ := foldr_inj h.1
    exact ⟨h1, by rw [h.2, h2]⟩
theorem foldl_inj {s s' : ByteArray} {Us Us' : List Rw} (h : List.foldl apR (Rw.mk 2 s []) Us = List.foldl apR (Rw.mk 2 s' []) Us') : s = s' ∧ Us = Us' := by
  have e : ∀ (x : Rw) (l : List Rw), List.foldl apR x l = List.foldr (fun U acc => apR acc U) x l.reverse := fun x l => by rw [List.foldr_reverse]
  rw [e, e] at h
  obtain ⟨h1, h2⟩ := foldr_inj h
  exact ⟨h1, List.reverse_inj.1 h2⟩
theorem foldl_op {s : ByteArray} (Us : List Rw) : (List.foldl apR (Rw.mk 2 s []) Us).op = 2 ∨ (List.foldl apR (Rw.mk 2 s []) Us).op = 4 := by
  have e : ∀ (x : Rw) (l : List Rw), List.foldl apR x l = List.foldr (fun U acc => apR acc U) x l.reverse := fun x l => by rw [List.foldr_reverse]
  rw [e]
  cases Us.reverse with
  | nil => exact .inl rfl
  | cons U L => exact .inr rfl

theorem raw_inj {sig : List Dc} (K : Known sig [] []) : ∀ (c : Nat) (t t' : Tm) (n : Int) (r : Rw), t.count ≤ c → Gd sig [] t n → Gd sig [] t' n → RawN sig [] n t r → RawN sig [] n t' r → erF sig t = erF sig t'
  | 0, t, t', n, r, hc, _, _, _, _ => by have := Tm.count_pos t; omega
  | c + 1, t, t', n, r, hc, g, g', hr, hr' => by
    have s1 := raw_sh K g hr
    have s2 := raw_sh K g' hr'
    obtain ⟨hok, hht, _⟩ := proper_small g.pr
    obtain ⟨hok', hht', _⟩ := proper_small g'.pr
    have cnt : ∀ u, u ∈ t.args → u.count ≤ c := by
      intro u hu
      have := arg_count hu
      omega
    have hn0 := g.n0
    have hn1 := g.n1
    have hhp := Tm.height_pos t
    have rop : (t.op = 1 ∧ r.op = 1) ∨ (t.op = 2 ∧ (r.op = 5 ∨ r.op = 6)) ∨ (t.op = 3 ∧ r.op = 7) ∨ (t.op = 4 ∧ (r.op = 2 ∨ r.op = 4)) := by
      rcases s1 with ⟨h, rfl⟩ | ⟨h, a, b, A, B, _, _, ⟨_, nm, rfl, _⟩ | ⟨_, rfl, _⟩⟩ | ⟨h, a, A, nm, _, rfl, _⟩ | ⟨h, s, Us, _, rfl, _⟩
      · exact .inl ⟨h, rfl⟩
      · exact .inr (.inl ⟨h, .inl rfl⟩)
      · exact .inr (.inl ⟨h, .inr rfl⟩)
      · exact .inr (.inr (.inl ⟨h, rfl⟩))
      · exact .inr (.inr (.inr ⟨h, foldl_op Us⟩))
    have rop' : (t'.op = 1 ∧ r.op = 1) ∨ (t'.op = 2 ∧ (r.op = 5 ∨ r.op = 6)) ∨ (t'.op = 3 ∧ r.op = 7) ∨ (t'.op = 4 ∧ (r.op = 2 ∨ r.op = 4)) := by
      rcases s2 with ⟨h, rfl⟩ | ⟨h, a, b, A, B, _, _, ⟨_, nm, rfl, _⟩ | ⟨_, rfl, _⟩⟩ | ⟨h, a, A, nm, _, rfl, _⟩ | ⟨h, s, Us, _, rfl, _⟩
      · exact .inl ⟨h, rfl⟩
      · exact .inr (.inl ⟨h, .inl rfl⟩)
      · exact .inr (.inl ⟨h, .inr rfl⟩)
      · exact .inr (.inr (.inl ⟨h, rfl⟩))
      · exact .inr (.inr (.inr ⟨h, foldl_op Us⟩))
    have eop : t.op = t'.op := by omega
    rw [erF_eq sig t, erF_eq sig t', ← eop]
    rcases s1 with ⟨ho, _⟩ | ⟨ho, a, b, A, B, e, a2, s1⟩ | ⟨ho, a, A, nm, e, rfl, a2⟩ | ⟨ho, s, Us, hd, rfl, hlen, hUs⟩
    · have z := tm_zero hok (by omega)
      have z' := tm_zero hok' (by omega)
      rw [z.1, z.2, z'.1, z'.2, tm_leaf hok ho, tm_leaf hok' (by omega)]
    · rcases s2 with ⟨ho', _⟩ | ⟨ho', a', b', A', B', e', a2', s2⟩ | ⟨ho', _⟩ | ⟨ho', _⟩
      · omega
      · have z := tm_zero hok (by omega)
        have z' := tm_zero hok' (by omega)
        have q0 : outN sig t.op 0 0 = 0 := by rw [outN, if_neg (by omega)]
        have ga := g.arg (j := 0) (u := a) (by rw [e]; rfl)
        have gb := g.arg (j := 1) (u := b) (by rw [e]; rfl)
        have ga' := g'.arg (j := 0) (u := a') (by rw [e']; rfl)
        have gb' := g'.arg (j := 1) (u := b') (by rw [e']; rfl)
        rw [show under t.op ((0 : Nat) : Int) = 0 by rw [under]; simp [ho], Int.add_zero] at ga
        rw [show under t.op ((1 : Nat) : Int) = 1 by rw [under]; simp [ho]] at gb
        rw [show under t'.op ((0 : Nat) : Int) = 0 by rw [under]; simp [ho'], Int.add_zero] at ga'
        rw [show under t'.op ((1 : Nat) : Int) = 1 by rw [under]; simp [ho']] at gb'
        have hab : A = A' ∧ erF sig b = erF sig b' := by
          rcases s1 with ⟨l1, nm, rfl, b2⟩ | ⟨l1, rfl, b2⟩
          · rcases s2 with ⟨l2, nm', e2, b2'⟩ | ⟨l2, e2, b2'⟩
            · simp only [Rw.mk.injEq, List.cons.injEq, and_true, true_and] at e2
              obtain ⟨_, rfl, rfl⟩ := e2
              exact ⟨rfl, raw_inj K c b b' _ B (cnt b (by rw [e]; simp)) gb gb' b2 b2'⟩
            · simp at e2
          · rcases s2 with ⟨l2, nm', e2, b2'⟩ | ⟨l2, e2, b2'⟩
            · simp at e2
            · simp only [Rw.mk.injEq, List.cons.injEq, and_true, true_and] at e2
              obtain ⟨rfl, rfl⟩ := e2
              refine ⟨rfl, ?_⟩
              have hm := raw_inj K c (movedF b (-1) 0) (movedF b' (-1) 0) n B (by rw [moved_count]; exact cnt b (by rw [e]; simp)) (gb.moved hn0 l1) (gb'.moved hn0 l2) b2 b2'
              exact er_unmoved sig b.count b b' 0 (Nat.le_refl _) (proper_small gb.pr).1 (proper_small gb'.pr).1 (by omega) l1 l2 hm
        obtain ⟨rfl, hb⟩ := hab
        have ha := raw_inj K c a a' n A (cnt a (by rw [e]; simp)) ga ga' a2 a2'
        rw [z.1, z.2, z'.1, z'.2, q0, e, e']
        simp only [erL, ha, hb]
      · omega
      · omega
    · rcases s2 with ⟨ho', _⟩ | ⟨ho', _⟩ | ⟨ho', a', A', nm', e', e2, a2'⟩ | ⟨ho', _⟩
      · omega
      · omega
      · simp only [Rw.mk.injEq, List.cons.injEq, and_true, true_and] at e2
        obtain ⟨_, rfl⟩ := e2
        have z := tm_zero hok (by omega)
        have z' := tm_zero hok' (by omega)
        have q0 : outN sig t.op 0 0 = 0 := by rw [outN, if_neg (by omega)]
        have ga := g.arg (j := 0) (u := a) (by rw [e]; rfl)
        have ga' := g'.arg (j := 0) (u := a') (by rw [e']; rfl)
        rw [show under t.op ((0 : Nat) : Int) = 1 by rw [under]; simp [ho]] at ga
        rw [show under t'.op ((0 : Nat) : Int) = 1 by rw [under]; simp [ho']] at ga'
        have ha := raw_inj K c a a' _ A (cnt a (by rw [e]; simp)) ga ga' a2 a2'
        rw [z.1, z.2, z'.1, z'.2, q0, e, e']
        simp only [erL, ha]
      · omega
    · rcases s2 with ⟨ho', _⟩ | ⟨ho', _⟩ | ⟨ho', _⟩ | ⟨ho', s', Us', hd', e2, hlen', hUs'⟩
      · omega
      · omega
      · omega
      · obtain ⟨rfl, rfl⟩ := foldl_inj e2
        have hp := okAll_n hok
        have hp' := okAll_n hok'
        have hh : t.hd = t'.hd ∧ t.n = t'.n := by
          rcases hd with ⟨h1, h2, h3⟩ | ⟨h1, d, h2, rfl⟩ | ⟨h1, h2⟩
          · rcases hd' with ⟨h1', h2', h3'⟩ | ⟨h1', d', h2', rfl⟩ | ⟨h1', h2'⟩
            · have := var_inj K.ok (by omega) (by omega) (by omega) (by omega) h3 h3'
              omega
            · exact (var_const K.ok (by omega) (by omega) h3 h2').elim
            · simp at h2'; omega
          · rcases hd' with ⟨h1', h2', h3'⟩ | ⟨h1', d', h2', e3⟩ | ⟨h1', h2'⟩
            · exact (var_const K.ok (by omega) (by omega) h3' h2).elim
            · have := const_inj K.ok h2 h2' e3
              omega
            · simp at h2'; omega
          · simp at h2; omega
        rw [← eop, ← hh.1, ← hh.2] at hlen' hUs'
        rw [← hh.1, ← hh.2, erL_map, erL_map, ← List.map_drop, ← List.map_drop]
        congr 1
        have hu0 : ∀ j : Nat, under t.op (j : Int) = 0 := by intro j; rw [under]; simp [ho]
        refine List.ext_getElem? (fun j => ?_)
        rw [List.getElem?_map, List.getElem?_map]
        by_cases hj : j < Us.length
        · obtain ⟨u, hu⟩ : ∃ u, (t.args.drop (outN sig t.op t.hd t.n))[j]? = some u := ⟨_, List.getElem?_eq_getElem (by omega)⟩
          obtain ⟨u', hu'⟩ : ∃ u, (t'.args.drop (outN sig t.op t.hd t.n))[j]? = some u := ⟨_, List.getElem?_eq_getElem (by omega)⟩
          have hU : Us[j]? = some Us[j] := List.getElem?_eq_getElem hj
          have k1 := hUs j u _ hu hU
          have k2 := hUs' j u' _ hu' hU
          rw [hu, hu']
          rw [List.getElem?_drop] at hu hu'
          have gu := g.arg hu
          have gu' := g'.arg hu'
          rw [hu0, Int.add_zero] at gu
          rw [← eop, hu0, Int.add_zero] at gu'
          rw [Option.map_some, Option.map_some, raw_inj K c u u' n _ (cnt u (List.mem_of_getElem? hu)) gu gu' k1 k2]
        · rw [List.getElem?_eq_none (by omega), List.getElem?_eq_none (by omega)]

theorem printOnce_ev (sig : List Dc) (n : Int) (x : Tm × Tm) : Ev (fun k => W07_PrintOnce k sig n x) true := by
  obtain ⟨t, t'⟩ := x
  obtain ⟨r, r1, hr⟩ := raw_cases (sig := sig) (metas := []) (t := t) (n := n)
  obtain ⟨r', r1', hr'⟩ := raw_cases (sig := sig) (metas := []) (t := t') (n := n)
  refine Ev.succ (fun k => W07_PrintOnce.eq_2 ..) ?_
  have ok : ∀ {r : Rw × Int} {t : Tm}, (r.2 ≠ 0 ∨ r.2 = 0 ∧ sigOK sig = true ∧ ([] : List Mt).length ≤ 80 ∧ metasB [] = true ∧ isProper t = true ∧ 0 ≤ n ∧ n ≤ 30 ∧ nodesS sig.length ([] : List Mt).length t n = true ∧ fullB sig t = true ∧ rawOK r.1 = true ∧ Ev (fun k => R07_Printer_raw k ⟨sig, [], []⟩ n t) r.1) → r.2 = 0 → rawOK r.1 = true := by
    rintro r t (h2 | ⟨_, _, _, _, _, _, _, _, _, h3, _⟩) h
    · exact absurd h h2
    · exact h3
  rcases text_cases r1 (ok hr) with ⟨he, h⟩ | ⟨he, S, xs, s1, s2, s3⟩
  · rcases text_cases r1' (ok hr') with ⟨he', h'⟩ | ⟨he', S', xs', s1', s2', s3'⟩
    · exact h.bind (h'.bind (Ev.t (by simp [he]) (awake_ev.bind (Ev.pure _))))
    · exact h.bind (s1'.bind (Ev.t (by simp [he]) (awake_ev.bind (Ev.pure _))))
  · rcases text_cases r1' (ok hr') with ⟨he', h'⟩ | ⟨he', S', xs', s1', s2', s3'⟩
    · exact s1.bind (h'.bind (Ev.t (by simp [he']) (awake_ev.bind (Ev.pure _))))
    · refine s1.bind (s1'.bind (Ev.f rfl ?_))
      refine Ev.ite (fun _ => awake_ev.bind (Ev.pure _)) (fun hne => ?_)
      have hST : S = S' := ba_eqb.1 (nb' hne)
      subst hST
      rcases hr with hr | ⟨_, hs, _, _, hp, h0, h1, hS, hF, hok, q2⟩
      · exact absurd he hr
      rcases hr' with hr' | ⟨_, _, _, _, hp', _, _, hS', hF', hok', q2'⟩
      · exact absurd he' hr'
      have er := tx_inj s2 s2' (by omega)
      rw [← er] at q2'
      have K : Known sig [] [] := ⟨hs, longest_le sig (sigOK_names hs), by simp, ⟨by simp, fun i s h => by simp at h⟩⟩
      obtain ⟨htok, hht, htc⟩ := proper_small hp
      obtain ⟨htok', hht', htc'⟩ := proper_small hp'
      have key := raw_inj K t.count t t' n r.1 (Nat.le_refl _) ⟨hp, h0, by omega, hS, hF⟩ ⟨hp', h0, by omega, hS', hF'⟩ q2 q2'
      refine (erased_ev hs 0 t n htok (by omega) hS).bind ((erased_ev hs 0 t' n htok' (by omega) hS').bind (Ev.t ?_ (awake_ev.bind (Ev.pure _))))
      rw [sameF_iff7]
      exact key
end Go.Proofs.YtpibdcjdamibdaaGreatDoor
end

/-! RowLaid -/
section
namespace Go.Proofs.YtpibdcjdamibdaaGreatDoor
open Go.Tr Go
open Go.ChangeShapes Go.WideShapes Go.ChangeAt Go.RowKit
set_option maxRecDepth 10000

def cellsD : DataW Unit → Array Value
  | .agg l => (l.map fun | .lit (.int k n) => Value.int k n | _ => Value.int .i64 0).toArray
  | _ => #[]
def setCells (vs : Array Value) : Obj → Obj
  | .cells _ t frozen => .cells vs t frozen
  | o => o
noncomputable def laidWorld (os : Os) : World :=
  let w0 := World.holding Tryz.prog os ⟨#[], #[], []⟩
  { w0 with heap := ((w0.heap.modify 1 (setCells (cellsD Rows.laid_internal_strconv_uint64pow10))).modify 2 (setCells (cellsD Rows.laid_math_bits_deBruijn32tab))).modify 3 (setCells (cellsD Rows.laid_math_bits_deBruijn64tab)) }
theorem laidWorld_met (os : Os) (args : Array Value) : laidMet Tryz.prog Rows.printContextsRow.laid ((laidWorld os).forCall (fun _ _ => 0) ⟨#[], args, []⟩).memory :=
  laidMet_of_run3 8 (by kernel_rfl) (by kernel_rfl) (by kernel_rfl)
end Go.Proofs.YtpibdcjdamibdaaGreatDoor
end

/-! RowPO -/
section
namespace Go.Proofs.YtpibdcjdamibdaaGreatDoor
open Go.Tr Go
open Go.ChangeShapes Go.WideShapes Go.ChangeAt Go.RowKit
set_option maxRecDepth 10000

theorem czP : Tryz.prog.cellsOf 50 = 8 := by kernel_rfl
theorem czT : Tryz.prog.cellsOf 26 = 4 := by kernel_rfl
theorem okWide_arr7 {P : Program} {w : World} {r : Reach} {base : Nat} {t e : TypeId} {n : Nat} {v : Value} (ht : P.underlying t = some (.array n e)) (h : Value.okWide P w r base t v) : ∃ cs, v = .agg cs ∧ cs.size = P.cellsOf t := by
  simp only [Value.okWide, ht] at h
  obtain ⟨cs, h1, h2, _⟩ := h
  exact ⟨cs, h1, h2⟩

section
variable {H : Type} {enc : TypeId × Value → H} {W : World}
theorem arg_two {base : Nat} {v : Value} {d : DataW H} {p : List MemPlace} (hok : Value.okWide Tryz.prog W .any base 50 v) (h : DataW.Trod enc Tryz.prog W 0 (fun _ => true) true 50 v d p) (hw : ∀ y ∈ d.weights Tryz.prog 50, y ≤ reachBytes) :
    ∃ (t u : Tm) (a b : Option Addr) (c e : Nat), v = .agg #[.int .i64 t.op, .int .i64 t.hd, .int .i64 t.n, .slice a (Tm.encL t.args).length c, .int .i64 u.op, .int .i64 u.hd, .int .i64 u.n, .slice b (Tm.encL u.args).length e] ∧ Rep (fun _ => True) W (.slice a (Tm.encL t.args).length c) (.sl 4 (Tm.encL t.args)) ∧ Rep (fun _ => True) W (.slice b (Tm.encL u.args).length e) (.sl 4 (Tm.encL u.args)) := by
  obtain ⟨cs, rfl, _⟩ := okWide_arr7 Tryz.underlying50 hok
  obtain ⟨n, hn⟩ := h
  obtain ⟨xs, m, rfl, hx, hl, hlen, hf⟩ := DataW.trod_array Tryz.underlying50 hn
  rw [czP] at hl
  simp only [Value.cells] at hl hf
  obtain ⟨l⟩ := cs
  match l, hl with
  | [v0, v1, v2, v3, v4, v5, v6, v7], _ =>
  match xs, hlen with
  | [y0, y1], _ =>
  simp only [Prod.mk.injEq] at hx
  obtain ⟨rfl, _⟩ := hx
  have h0 : DataW.trod enc Tryz.prog W 0 (fun _ => true) true m 26 (([v0, v1, v2, v3, v4, v5, v6, v7].drop (0 * Tryz.prog.cellsOf 26)).take (Tryz.prog.cellsOf 26)) = some y0 := hf 0 (by decide)
  have h1 : DataW.trod enc Tryz.prog W 0 (fun _ => true) true m 26 (([v0, v1, v2, v3, v4, v5, v6, v7].drop (1 * Tryz.prog.cellsOf 26)).take (Tryz.prog.cellsOf 26)) = some y1 := hf 1 (by decide)
  simp only [czT, Nat.zero_mul, Nat.one_mul, List.drop_zero, List.drop_succ_cons, List.take_succ_cons, List.take_zero] at h0 h1
  simp only [DataW.weights, Tryz.underlying50, List.map_cons, List.map_nil, DataW.weightsAll, List.append_nil, List.mem_append] at hw
  obtain ⟨t, a, c, e0, r0⟩ := rd_Tm m _ _ h0 (fun y hy => hw y (.inl hy))
  obtain ⟨u, b, e, e1, r1⟩ := rd_Tm m _ _ h1 (fun y hy => hw y (.inr hy))
  simp only [List.cons.injEq, and_true] at e0 e1
  obtain ⟨rfl, rfl, rfl, rfl⟩ := e0
  obtain ⟨rfl, rfl, rfl, rfl⟩ := e1
  exact ⟨t, u, a, b, c, e, rfl, r0, r1⟩
end

theorem printOnce_spec (sig : List Dc) (n : Int) (t u : Tm) (a2 a5 a6 : Option Addr) (c2 c5 c6 : Nat) :
    Pure Tryz.prog (fnS 4) [(.v (.slice a2 ((Dc.encL sig).length) c2)), (.v (.int .i64 n)), (.agg [(.v (.int .i64 t.op)), (.v (.int .i64 t.hd)), (.v (.int .i64 t.n)), (.v (.slice a5 ((Tm.encL t.args).length) c5)), (.v (.int .i64 u.op)), (.v (.int .i64 u.hd)), (.v (.int .i64 u.n)), (.v (.slice a6 ((Tm.encL u.args).length) c6))])] [(.slice a2 ((Dc.encL sig).length) c2, .sl 6 (Dc.encL sig)), (.slice a5 ((Tm.encL t.args).length) c5, .sl 4 (Tm.encL t.args)), (.slice a6 ((Tm.encL u.args).length) c6, .sl 4 (Tm.encL u.args))] (fun r out => r = bS true ∧ out = []) := by
  obtain ⟨N, h⟩ := printOnce_ev sig n (t, u)
  exact W07_PrintOnce_spec N sig n (t, u) a2 c2 a5 c5 a6 c6 _ (h N (Nat.le_refl _))

set_option maxRecDepth 100000 in
theorem printOnce_lifted (os : Os) (started : os.Started) (H : Type) (enc : TypeId × Value → H) :
    ReturnsInHanded {} Tryz.checked os 4 .any (fun w args => (Rows.printOnceSpec.pre enc Tryz.prog Tryz.f4 Rows.printOnceRow.domain false w args ∧ laidMet Tryz.prog Rows.printOnceRow.laid w) ∧ sizedMet enc Tryz.prog Tryz.f4 (OpenSpec.ofChange Rows.printOnceSpec) false w args)
      (Rows.printOnceSpec.post enc Tryz.prog Tryz.f4 false true false false) := by
  refine returnsInHanded_of_change_and (C := Tryz.checked) (X := fun w _ => laidMet Tryz.prog Rows.printOnceRow.laid w) (fun _ _ _ hh h => h.of_heap hh) own started (by kernel_rfl) Tryz.func4
    (ChangeSpec.witness_at (enc := enc) (C := Tryz.checked) (os := os) (X := fun w _ => laidMet Tryz.prog Rows.printOnceRow.laid w) false (laidWorld os) #[.slice none 0 0, .int .i64 0, .agg #[.int .i64 0, .int .i64 0, .int .i64 0, .slice none 0 0, .int .i64 0, .int .i64 0, .int .i64 0, .slice none 0 0]] 8 rfl (by kernel_rfl) (by kernel_rfl) (by kernel_rfl) (by kernel_rfl) (by kernel_rfl) (laidWorld_met os _)) ?_
  intro W base args ds gs before hval0 hW _ hsz0 hL _
  have hsz : (DataW.weightsEach Tryz.prog (Tryz.f4.params.toList ++ Rows.printOnceSpec.plain.varTypes Tryz.prog) (ds ++ gs)).all (· ≤ reachBytes) = true := hsz0
  clear hsz0
  have hval : ∀ (j : Nat) t v, Tryz.f4.params[j]? = some t → args[j]? = some v → Value.okWide Tryz.prog W .any base t v := hval0
  have hW' := hW
  obtain ⟨p, q, hA0, hV, rfl, _, _⟩ := hW
  have hA : DataW.TrodAll enc Tryz.prog W 0 (fun _ => true) true Tryz.f4.params.toList args.toList ds p := hA0
  rw [Tryz.params4] at hA hval
  have hsz : (DataW.weightsEach Tryz.prog ([22, 3, 50] ++ []) (ds ++ gs)).all (· ≤ reachBytes) = true := by
    have := hsz
    rw [Tryz.params4] at this
    exact this
  obtain ⟨v0, vs0, d0, ds0, p0, q0, ha0, rfl, rfl, h0, r0⟩ := trodAll_cons hA
  obtain ⟨v1, vs1, d1, ds1, p1, q1, rfl, rfl, rfl, h1, r1⟩ := trodAll_cons r0
  obtain ⟨v2, vs2, d2, ds2, p2, q2, rfl, rfl, rfl, h2, r2⟩ := trodAll_cons r1
  obtain ⟨rfl, rfl, rfl⟩ := trodAll_nil r2
  obtain ⟨rfl, rfl⟩ := trodVars_none hV
  obtain rfl : args = #[v0, v1, v2] := by rw [← Array.toList_inj, ha0]
  have hw := all_le hsz
  simp only [List.append_nil, DataW.weightsEach, List.mem_append] at hw
  obtain ⟨sig, a2, c2, rfl, e2⟩ := argl_Dc (hval 0 _ _ rfl rfl) h0 (fun y hy => hw y (.inl hy))
  obtain ⟨n, rfl, _⟩ := arg_int (hval 1 _ _ rfl rfl) h1
  obtain ⟨t, u, a5, a6, c5, c6, rfl, e5, e6⟩ := arg_two (hval 2 _ _ rfl rfl) h2 (fun y hy => hw y (.inr (.inr hy)))
  refine ((printOnce_spec sig n t u a2 a5 a6 c2 c5 c6).calls Tryz.call4 (W := W) ?_).mono ?_
  · intro r hr
    simp only [List.mem_cons, List.not_mem_nil, or_false] at hr
    rcases hr with rfl | rfl | rfl
    · exact e2
    · exact e5
    · exact e6
  rintro e W' ⟨r, out, rfl, ⟨rfl, rfl⟩, hx⟩
  refine ⟨_, rfl, post_true kids full hW' rfl ?_ ?_ (by kernel_rfl) Tryz.underlying4 hx⟩
  · rw [Tryz.params4]
    decide +kernel
  · intro ds hl
    rw [Tryz.params4] at hl
    match ds, hl with
    | [_, _, _], _ => rfl

theorem printOnce_holds : Rows.PrintOnceSaid :=
  OpenClaim.holds_of_wide 4 Tryz.f4 rfl rfl rfl rfl rfl rfl rfl ⟨rfl, rfl, rfl, rfl, rfl⟩ rfl rfl rfl rfl rfl (by kernel_rfl) Tryz.func4 (by kernel_rfl)
    (of_decide_eq_true (by kernel_rfl)) (by unfold Func.isWrapper; first | (rw [if_pos (by decide +kernel)]; kernel_rfl) | (rw [if_neg (by decide +kernel)]; exact ⟨rfl, rfl⟩))
    (fun os started H enc _ => printOnce_lifted os started H enc)
#print axioms printOnce_holds
end Go.Proofs.YtpibdcjdamibdaaGreatDoor
end

/-! CardPO -/
section
namespace Go.Proofs.YtpibdcjdamibdaaGreatDoor
open Go

theorem printOnceCard_holds : Rows.PrintOnceCardSaid :=
  Claim7.holds_tied_plain_at .later [] [.data, .data, .data] true (true, "2ec2fbd42a1da2db79c369b39067d0c462011c384d735f7402b3eb777f9cd143") false
    printOnce_holds (fun _ h => by cases h) (by kernel_rfl) (fun _ h => by cases h) printOnce_row_tie rfl ⟨rfl, rfl⟩ (by kernel_rfl) rfl
    (fun f fn hf hfn => by
      obtain rfl : f = 4 := Option.some.inj ((show Tryz.prog.funcNamed "truss/trusslaw07.PrintOnce" = some 4 by kernel_rfl).symm.trans hf) |>.symm
      obtain rfl : fn = Tryz.f4 := (Option.some.inj (Tryz.func4.symm.trans hfn)).symm
      exact ⟨by kernel_rfl, fun j t ht => by
        rw [Tryz.params4] at ht
        have h3 : t = 22 ∨ t = 3 ∨ t = 50 := by
          rcases j with _ | _ | _ | j
          · left; simpa using ht.symm
          · right; left; simpa using ht.symm
          · right; right; simpa using ht.symm
          · simp at ht
        rcases h3 with rfl | rfl | rfl
        · exact (show Tryz.prog.wantsStandIn 22 = false by kernel_rfl)
        · exact (show Tryz.prog.wantsStandIn 3 = false by kernel_rfl)
        · exact (show Tryz.prog.wantsStandIn 50 = false by kernel_rfl)⟩)
    (by kernel_rfl)
#print axioms printOnceCard_holds
end Go.Proofs.YtpibdcjdamibdaaGreatDoor
end
