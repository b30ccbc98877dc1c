/- Merged texts: McQ McR McS McT RowMA. Plain law: the check of modes by mode, and by trussref14. No program in sight. Plain law: assume and use have values, which are those of trussref14 where the terms are types. No program in sight. Plain law: mode.Check and mode.All have values; the modes of which all signs are MAny. No program in sight. Plain law: ModeChecks and ModeAny answer true. Condition: lists shorter than 2^60. No program in sight. ModeAny answers true at every input, and its arguments read as they did. No condition. -/
import Derived.Test.YtogicnodmgdnbaaGreatSL
namespace Go.Proofs.YtogicnodmgdnbaaGreat
section
open Go.Tr Go Go.Proofs.Tryz
set_option linter.unusedVariables false
set_option linter.unusedSimpArgs false
set_option maxRecDepth 10000
def scoF : List Bool → List Bool → List (List Bool)
 | _, [] => []
 | s, b :: bs => s :: scoF (s ++ [b]) bs
theorem scoF_get : ∀ (bs s : List Bool) (i : Nat), i < bs.length → (scoF s bs)[i]? = some (s ++ bs.take i)
 | [], _, _, h => by simp at h
 | b :: bs, s, 0, _ => by simp [scoF]
 | b :: bs, s, i + 1, h => by
  simp only [scoF, List.getElem?_cons_succ, List.take_succ_cons]
  rw [scoF_get bs (s ++ [b]) i (by simpa using h)]
  simp
theorem qeb : ∀ (a b : List Bool) (i : Nat), premF (a ++ b) i = premF a i ++ premF b (i + a.length)
 | [], b, i => by simp [premF]
 | x :: a, b, i => by
  simp only [List.cons_append, premF, List.length_cons]
  rw [qeb a b (i + 1), show i + 1 + a.length = i + (a.length + 1) by omega]
  split <;> simp
theorem premF_take {bs : List Bool} {i : Nat} {b : Bool} (h : bs[i]? = some b) : premF (bs.take (i + 1)) 0 = premF (bs.take i) 0 ++ (if b = true then [] else [(i : Int)]) := by
 have hi : i < bs.length := (List.getElem?_eq_some_iff.1 h).1
 rw [List.take_add_one, h, Option.toList_some, qeb, List.length_take, Nat.min_eq_left (by omega), Nat.zero_add]
 congr 1
theorem premF_at {bs : List Bool} {i : Nat} (h : bs[i]? = some false) : (premF bs 0)[(premF (bs.take i) 0).length]? = some (i : Int) := by
 have hi : i < bs.length := (List.getElem?_eq_some_iff.1 h).1
 have e : bs = bs.take i ++ false :: bs.drop (i + 1) := by
  conv => lhs; rw [← List.take_append_drop i bs]
  rw [qdc h]
 conv => lhs; rw [e, qeb]
 have e2 : (List.take i (bs.take i ++ false :: bs.drop (i + 1))) = bs.take i := by rw [← e]
 rw [e2, List.getElem?_append_right (Nat.le_refl _), Nat.sub_self, List.length_take, Nat.min_eq_left (by omega), Nat.zero_add]
 simp [premF]
theorem peel_some : ∀ t, okAll t = true → ∀ (s : List Bool) (ds : List Tm) (ss : List (List Bool)) (ps : List Int), Pr t → ds.length + t.height ≤ 900 → s.length + t.height ≤ 900 → ss.length + t.height ≤ 900 → ps.length + t.height ≤ 900 →
  ∃ N, ∀ K n, N ≤ K → N ≤ n → peelF K n t s ds ss ps = some ((split t).2, s ++ dep t, ds ++ (split t).1, ss ++ scoF s (dep t), ps ++ premF (dep t) ds.length) := by
 refine qcb ?_ ?_
 ·intro t hok h2 s ds ss ps hp h1 h3 h4 h5
  refine ⟨1, fun K n _ hn => ?_⟩
  obtain ⟨n, rfl⟩ : ∃ m, n = m + 1 := ⟨n - 1, by omega⟩
  rw [peelF, beqI' h2, cond_false, qbq h2, qlj h2]
  simp [scoF, premF]
 ·intro t a b hok h2 e ha hb hh _ _ _ ih s ds ss ps hp h1 h3 h4 h5
  have hpb : Pr b := qa3 hp (by rw [e]; simp)
  obtain ⟨No, hNo⟩ := occurs_ev (t := b) hpb
  obtain ⟨Nb, hNb⟩ := ih (s ++ [lowF b 0 0]) (ds ++ [a]) (ss ++ [s]) (cond (lowF b 0 0) ps (ps ++ [(ds.length : Int)])) hpb (by simp; omega) (by simp; omega) (by simp; omega) (by cases lowF b 0 0 <;> simp <;> omega)
  refine ⟨max No (Nb + 1), fun K n hK hn => ?_⟩
  obtain ⟨n, rfl⟩ : ∃ m, n = m + 1 := ⟨n - 1, by omega⟩
  have hht := qt t
  rw [peelF, beqI h2, cond_true, e]
  show ((some b).bind _) = _
  have hoc : term_Occurs K b 0 = some (lowF b 0 0, 0) := hNo K (by omega)
  rw [Option.bind_some, hoc, Option.bind_some]
  show ((some a).bind _) = _
  rw [Option.bind_some, decide_eq_true (by omega), cond_true, hNb K n (by omega) (by omega), qc3 hok h2 e, dep_pi hok h2 e]
  simp only [scoF, premF, List.length_append, List.length_cons, List.length_nil, List.append_assoc, List.cons_append, List.nil_append]
  cases lowF b 0 0 <;> simp
theorem ql5 : ∀ t, okAll t = true → ∀ (i : Nat) (a : Tm), (split t).1[i]? = some a → a.height + i + 1 ≤ t.height := by
 refine qcb ?_ ?_
 ·intro t hok h2 i a h
  rw [qbq h2] at h
  simp at h
 ·intro t a b hok h2 e ha hb hh1 hh2 _ _ ih i x h
  rw [qc3 hok h2 e] at h
  obtain ⟨a', b', e', _, _, g1, g2, _⟩ := qaz hok h2
  rw [e] at e'
  simp only [List.cons.injEq, and_true] at e'
  obtain ⟨rfl, rfl⟩ := e'
  cases i with
  | zero => simp at h; subst h; omega
  | succ i =>
   have := ih i x (by simpa using h)
   omega
theorem qm5 : ∀ t, okAll t = true → ∀ L : Nat, OkT t L → OkT (split t).2 (L + (split t).1.length) ∧ ∀ (i : Nat) (a : Tm), (split t).1[i]? = some a → OkT a (L + i) := by
 refine qcb ?_ ?_
 ·intro t hok h2 L h
  rw [qbq h2]
  exact ⟨h, fun i a hi => by simp at hi⟩
 ·intro t a b hok h2 e ha hb hh1 hh2 _ _ ih L h
  obtain ⟨oa, ob⟩ := h.pi h2 e
  obtain ⟨i1, i2⟩ := ih (L + 1) ob
  rw [qc3 hok h2 e]
  refine ⟨by simp only [List.length_cons]; rw [show L + ((split b).1.length + 1) = L + 1 + (split b).1.length by omega]; exact i1, fun i x hi => ?_⟩
  cases i with
  | zero => simp at hi; subst hi; exact oa
  | succ i =>
   have := i2 i x (by simpa using hi)
   rw [show L + (i + 1) = L + 1 + i by omega]
   exact this
theorem qb4 {s : List Bool} {sign : Int} {q : Nat → Bool} : ∀ (gs : List Int) (xs : List Tm) (i : Nat) (r : Int), demandF s sign q gs xs i = some r → 0 ≤ r
 | [], xs, i, r, h => by cases xs <;> simp [demandF] at h
 | g :: gs, [], i, r, h => by simp [demandF] at h
 | g :: gs, x :: xs, i, r, h => by
  rw [demandF] at h
  cases hg : decide (g = sign) with
  | true =>
   rw [hg, cond_true] at h
   cases hk : knownF s x q with
   | true => rw [hk, cond_true] at h; exact qb4 gs xs _ r h
   | false => rw [hk, cond_false] at h; have := Option.some.inj h; omega
  | false => rw [hg, cond_false] at h; exact qb4 gs xs _ r h
theorem qja (n : Nat) (g : List (Int × Md)) (ds : List Tm) (ss : List (List Bool)) (ps : List Int) (k : Nat → Bool) : roundsF (n + 1) g ds ss ps 0 k = some (.ok k) := by rw [roundsF]
theorem qiw (n : Nat) (g : List (Int × Md)) (ds : List Tm) (ss : List (List Bool)) (ps : List Int) (j : Nat) (k : Nat → Bool) : roundsF (n + 1) g ds ss ps (j + 1) k = (ps[j]?).bind (fun p => (idx ss p).bind (fun s => (idx ds p).bind (fun d => cond (decide (s.length < 700)) ((useF n g s d (firstF k s.length)).bind (fun
   | .error a => some (.error (p, a))
   | .ok q => roundsF n g ds ss ps j (withF k q))) none))) := by rw [roundsF]; rfl
theorem qeu (n : Nat) (g : List (Int × Md)) (s : List Bool) (t : Tm) (k : Nat → Bool) : useF (n + 1) g s t k = cond (t.op == 2)
   ((idx t.args 0).bind (fun d => (assumeF n g s d k).bind (fun
    | some e => some (.error e.2)
    | none => (idx t.args 1).bind (fun b => cond (decide (s.length ≤ 1000)) (useF n g (s ++ [false]) b k) none))))
   ((mode_of n t g).bind (fun m => cond m.2
    (cond (argsIn s t.args) (match demandF s 1 k m.1.signs t.args 0 with
     | some i => some (.error i)
     | none => (learnF n s 2 m.1.signs t.args k).bind (fun q => some (.ok q))) none)
    (some (.error (-1))))) := by rw [useF]; rfl
theorem qdv (n : Nat) (g : List (Int × Md)) (s : List Bool) (t : Tm) (k : Nat → Bool) : assumeF (n + 1) g s t k = (peelF n n t s [] [] []).bind (fun x => (mode_of n x.1 g).bind (fun m => cond m.2
   ((learnF n x.2.1 1 m.1.signs x.1.args k).bind (fun k1 => (roundsF n g x.2.2.1 x.2.2.2.1 x.2.2.2.2 x.2.2.2.2.length k1).bind (fun
    | .error e => some (some e)
    | .ok k2 => cond (argsIn x.2.1 x.1.args) (some ((demandF x.2.1 2 k2 m.1.signs x.1.args 0).map (fun i => (-1, i)))) none)))
   (some none))) := by rw [assumeF]; rfl
def ofP (t : Tm) (g : List (Int × Md)) : Md × Bool := (((mget g t.n).getD (Md.mk 0 ([]))), (((((mget g t.n).isSome) && (t.op == 4)) && (t.hd == 2)) && (((List.map (D.int .i64) (((mget g t.n).getD (Md.mk 0 ([]))).signs)).length : Int) == ((Tm.encL t.args).length : Int))))
theorem of_evP (t : Tm) (g : List (Int × Md)) : Ev (fun n => mode_of n t g) (ofP t g) := Ev.succ (fun n => mode_of.eq_2 ..) (Ev.pure _)
theorem ofP_yes {t : Tm} {g : List (Int × Md)} (h : (ofP t g).2 = true) : t.op = 4 ∧ mget g t.n = some (ofP t g).1 ∧ (ofP t g).1.signs.length = t.args.length := by
 simp only [ofP, Bool.and_eq_true, beq_iff_eq, List.length_map, Tm.encL_length] at h ⊢
 obtain ⟨⟨⟨h1, h2⟩, h3⟩, h4⟩ := h
 refine ⟨h2, ?_, by omega⟩
 cases hm : mget g t.n with
 | none => rw [hm] at h1; cases h1
 | some m => rfl
theorem ofP_no {t : Tm} {g : List (Int × Md)} (h : (ofP t g).2 = false) (h4 : t.op = 4) (hd : t.hd = 2) (hl : ∀ m, mget g t.n = some m → m.signs.length = t.args.length) : mget g t.n = none := by
 cases hm : mget g t.n with
 | none => rfl
 | some m =>
  have := hl m hm
  simp only [ofP, hm, h4, hd, Option.isSome_some, Option.getD_some, List.length_map, Tm.encL_length, beq_self_eq_true, Bool.true_and, this] at h
  cases h
theorem qmu {s : List Bool} {l : List Tm} (hs : s.length ≤ 600) (h : ∀ x ∈ l, OkT x s.length) : argsIn s l = true := by
 unfold argsIn
 exact decide_eq_true ⟨by omega, fun x hx => (h x hx).scope⟩
def conE : Option (Int × Int) → Int × Int × Bool
 | none => (0, 0, true)
 | some e => (e.1, e.2, false)
def conU (s : List Bool) (K : Nat → Bool) : Except Int (Nat → Bool) → Sta × Bool × Int
 | .ok q => (Sta.mk s (kl s q), true, 0)
 | .error a => (Sta.mk s (kl s K), false, a)
theorem kl_snoc {s : List Bool} {K : Nat → Bool} {b : Bool} (h : K s.length = false) : kl s K ++ [false] = kl (s ++ [b]) K := by
 refine kl_ext (by simp [qa7]) (fun i hi => ?_)
 simp only [List.length_append, List.length_cons, List.length_nil] at hi
 by_cases e : i < s.length
 ·rw [List.getElem?_append_left (by rw [qa7]; exact e), qg3 e]
 ·have : i = s.length := by omega
  subst this
  rw [List.getElem?_append_right (by rw [qa7]; exact Nat.le_refl _), qa7, Nat.sub_self, h]
  rfl
theorem kl_take {s : List Bool} {K : Nat → Bool} {n : Nat} (h : n ≤ s.length) : (kl s K).take n = kl (s.take n) K := by
 refine kl_ext (by simp [qa7]) (fun i hi => ?_)
 rw [List.length_take] at hi
 rw [List.getElem?_take, if_pos (by omega), qg3 (by omega)]
theorem getD_snoc {s : List Bool} {i : Nat} (h : (s ++ [false]).getD i false = true) : s.getD i false = true := by
 rw [List.getD_eq_getElem?_getD] at h ⊢
 by_cases e : i < s.length
 ·rwa [List.getElem?_append_left e] at h
 ·rw [List.getElem?_append_right (by omega)] at h
  cases hh : i - s.length with
  | zero => rw [hh] at h; simp at h
  | succ j => rw [hh] at h; simp at h
theorem getD_out {s : List Bool} {i : Nat} (h : s.length ≤ i) : s.getD i false = false := by
 rw [List.getD_eq_getElem?_getD, List.getElem?_eq_none h]; rfl
theorem qlu {l : List Md} {g : List (Int × Md)} (hg : mapOf l g) (hl : l.length ≤ 1000) (f : Int) :
  (mget g f = none ∧ ∃ v, v < 0 ∧ Ev (fun k => R14_Find k l f) v) ∨ (∃ m v, mget g f = some m ∧ 0 ≤ v ∧ idx l v = some m ∧ Ev (fun k => R14_Find k l f) v) := by
 have h := findM_ev l f hl
 rcases qm8 f l 0 with ⟨h1, h2⟩ | ⟨k, m, h1, h2, h3⟩
 ·exact .inl ⟨by rw [hg f]; exact h2, _, h1, h⟩
 ·refine .inr ⟨m, _, by rw [hg f]; exact h3, ?_, ?_, h⟩
  ·rw [h1]; omega
  ·rw [h1, Nat.zero_add]; exact qw h2
end

section
open Go.Tr Go Go.Proofs.Tryz
set_option linter.unusedVariables false
set_option linter.unusedSimpArgs false
set_option maxRecDepth 10000
section
variable (sig : List Dc) (l : List Md) (g : List (Int × Md))
def PA (t : Tm) : Prop := ∀ (s : List Bool) (K : Nat → Bool), OkT t s.length → s.length + t.height ≤ 600 → (∀ i, s.length ≤ i → K i = false) →
 ∃ r, Ev (fun n => assumeF n g s t K) r ∧ (TyT sig t → Ev (fun n => R14_Assume n l (Sta.mk s (kl s K)) t) (conE r))
def PU (t : Tm) : Prop := ∀ (s : List Bool) (K : Nat → Bool), OkT t s.length → s.length + t.height ≤ 600 → (∀ i, s.length ≤ i → K i = false) →
 ∃ r, Ev (fun n => useF n g s t K) r ∧ (∀ q, r = .ok q → (∀ i, K i = true → q i = true) ∧ (∀ i, q i = true → K i = true ∨ s.getD i false = true)) ∧
  (TyT sig t → Ev (fun n => R14_Use n l (Sta.mk s (kl s K)) t) (conU s K r))
theorem leaf_len (hg : mapOf l g) (hm : ∀ m ∈ l, ∃ d, idx sig m.family = some d ∧ (split d.cls).1.length = m.signs.length) {t : Tm} (ht : leafT sig t) {m : Md} (h : mget g t.n = some m) : m.signs.length = t.args.length := by
 obtain ⟨h4, hd, d, hd1, hk, hlen⟩ := ht
 rw [hg] at h
 have hmem := List.mem_of_find?_eq_some h
 have hfam : m.family = t.n := by
  have := List.find?_some h
  simpa using this
 obtain ⟨d', hd', hs⟩ := hm m hmem
 rw [hfam, hd1] at hd'
 have := Option.some.inj hd'
 subst this
 omega
theorem use_step' (hg : mapOf l g) (hl : l.length ≤ 1000) (hm : ∀ m ∈ l, ∃ d, idx sig m.family = some d ∧ (split d.cls).1.length = m.signs.length) {t : Tm} (ihA : ∀ a, a.height < t.height → PA sig l g a) (ihU : ∀ b, b.height < t.height → PU sig l g b) : PU sig l g t := by
 intro s K ho hb hK
 obtain ⟨hok, hh, hc⟩ := qj ho.pr
 by_cases h2 : t.op = 2
 ·obtain ⟨a, b, e, ha, hbk, g1, g2, _⟩ := qaz hok h2
  obtain ⟨oa, ob⟩ := ho.pi h2 e
  obtain ⟨ra, hra, hra2⟩ := ihA a (by omega) s K oa (by omega) hK
  have hty : TyT sig t → TyT sig a ∧ TyT sig b := by
   intro ht
   cases ht with
   | app h => have := h.1; omega
   | @pi _ a' b' h e' ta tb =>
    rw [e] at e'
    simp only [List.cons.injEq, and_true] at e'
    obtain ⟨rfl, rfl⟩ := e'
    exact ⟨ta, tb⟩
  cases ra with
  | some x =>
   refine ⟨.error x.2, ?_, (fun q h => by cases h), fun ht => ?_⟩
   ·refine Ev.succ (fun n => qeu n g s t K) (Ev.t (beqI h2) (Ev.some (x := a) (by rw [e]; rfl) (hra.bind (Ev.pure _))))
   ·have h := hra2 (hty ht).1
    exact Ev.succ (fun n => R14_Use.eq_2 ..) (Ev.t (beqI h2) (Ev.some (x := a) (by rw [e]; rfl) (h.bind (Ev.t rfl (Ev.pure _)))))
  | none =>
   have hsl : (s ++ [false]).length = s.length + 1 := by simp
   obtain ⟨rb, hrb, hrb1, hrb2⟩ := ihU b (by omega) (s ++ [false]) K (by rw [hsl]; exact ob) (by rw [hsl]; omega) (fun i hi => hK i (by rw [hsl] at hi; omega))
   refine ⟨rb, ?_, fun q h => ?_, fun ht => ?_⟩
   ·exact Ev.succ (fun n => qeu n g s t K) (Ev.t (beqI h2) (Ev.some (x := a) (by rw [e]; rfl) (hra.bind (Ev.some (x := b) (by rw [e]; rfl) (Ev.need (decide_eq_true (by omega)) hrb)))))
   ·obtain ⟨h1, h3⟩ := hrb1 q h
    exact ⟨h1, fun i hi => (h3 i hi).imp id getD_snoc⟩
   ·have h := hra2 (hty ht).1
    have hu := hrb2 (hty ht).2
    refine Ev.succ (fun n => R14_Use.eq_2 ..) (Ev.t (beqI h2) (Ev.some (x := a) (by rw [e]; rfl) (h.bind (Ev.f rfl (Ev.some (x := b) (by rw [e]; rfl) ?_)))))
    have hw := with_ev (Sta.mk s (kl s K)) false (by simp only; omega) (by simp only [qa7]; omega)
    simp only at hw
    rw [kl_snoc (b := false) (hK s.length (Nat.le_refl _))] at hw
    refine hw.bind (hu.bind ?_)
    rw [List.length_map]
    have hfirst : ∀ q : Nat → Bool, Ev (fun k => R14_State_First k (Sta.mk (s ++ [false]) (kl (s ++ [false]) q)) (s.length : Int)) (Sta.mk s (kl s q)) := by
     intro q
     have h1 := ql1 (s ++ [false]) (kl (s ++ [false]) q) s.length (by simp) (by rw [qa7]; simp) (by omega)
     rw [kl_take (by simp), List.take_left] at h1
     exact h1
    cases rb with
    | ok q => exact (hfirst q).bind (Ev.pure _)
    | error x => exact (hfirst K).bind (Ev.pure _)
 ·have hof := of_evP t g
  have hleaf : TyT sig t → leafT sig t := by
   intro ht
   cases ht with
   | app h => exact h
   | pi h _ _ _ => exact absurd h h2
  cases hm2 : (ofP t g).2 with
  | false =>
   refine ⟨.error (-1), ?_, (fun q h => by cases h), fun ht => ?_⟩
   ·refine Ev.succ (fun n => qeu n g s t K) (Ev.f (beqI' h2) (hof.bind ?_))
    rw [hm2]
    exact Ev.pure _
   ·have hlf := hleaf ht
    have hnone := ofP_no hm2 hlf.1 hlf.2.1 (fun m h => leaf_len sig l g hg hm hlf h)
    rcases qlu hg hl t.n with ⟨_, v, hv, hf⟩ | ⟨m, v, hm1, _⟩
    ·exact Ev.succ (fun n => R14_Use.eq_2 ..) (Ev.f (beqI' h2) (hf.bind (Ev.t (decide_eq_true hv) (Ev.pure _))))
    ·rw [hnone] at hm1; cases hm1
  | true =>
   obtain ⟨h4, hmg, hlen⟩ := ofP_yes hm2
   have hargs := ho.args h4
   have hab : t.args.length ≤ 1000 := by
    have h1 := qab t.args
    have h3 := qai t
    omega
   have hai := qmu (by omega) hargs
   have hrf : ∀ r : Except Int (Nat → Bool), (∀ m v, mget g t.n = some m → 0 ≤ v → idx l v = some m → Ev (fun k => R14_Find k l t.n) v → Ev (fun n => R14_Use n l (Sta.mk s (kl s K)) t) (conU s K r)) → TyT sig t → Ev (fun n => R14_Use n l (Sta.mk s (kl s K)) t) (conU s K r) := by
    intro r h _
    rcases qlu hg hl t.n with ⟨hn, _⟩ | ⟨m, v, h1, h2, h3, h4⟩
    ·rw [hn] at hmg; cases hmg
    ·exact h m v h1 h2 h3 h4
   have hunk := qft (s := s) (by omega) 1 K (ofP t g).1 t.args hlen hab hargs
   cases hdm : demandF s 1 K (ofP t g).1.signs t.args 0 with
   | some i =>
    refine ⟨.error i, ?_, (fun q h => by cases h), hrf _ ?_⟩
    ·refine Ev.succ (fun n => qeu n g s t K) (Ev.f (beqI' h2) (hof.bind ?_))
     rw [hm2]
     refine Ev.t rfl (Ev.need hai ?_)
     rw [hdm]
     exact Ev.pure _
    ·intro m v h1 hv h3 hf
     have hmm : m = (ofP t g).1 := by rw [hmg] at h1; exact (Option.some.inj h1).symm
     subst hmm
     rw [hdm] at hunk
     refine Ev.succ (fun n => R14_Use.eq_2 ..) (Ev.f (beqI' h2) (hf.bind (Ev.f (decide_eq_false (by omega)) (Ev.some h3 (hunk.bind (Ev.t (decide_eq_true ?_) (Ev.pure _)))))))
     exact qb4 _ _ _ _ hdm
   | none =>
    have hlr := qjb (s := s) (by omega) 2 (ofP t g).1.signs t.args K hargs
    refine ⟨.ok (learnP s 2 (ofP t g).1.signs t.args K), ?_, fun q h => ?_, hrf _ ?_⟩
    ·refine Ev.succ (fun n => qeu n g s t K) (Ev.f (beqI' h2) (hof.bind ?_))
     rw [hm2]
     refine Ev.t rfl (Ev.need hai ?_)
     rw [hdm]
     exact hlr.bind (Ev.pure _)
    ·cases h
     exact ⟨fun i hi => qml _ _ _ hi, fun i hi => qi2 _ _ _ hargs hi⟩
    ·intro m v h1 hv h3 hf
     have hmm : m = (ofP t g).1 := by rw [hmg] at h1; exact (Option.some.inj h1).symm
     subst hmm
     rw [hdm] at hunk
     refine Ev.succ (fun n => R14_Use.eq_2 ..) (Ev.f (beqI' h2) (hf.bind (Ev.f (decide_eq_false (by omega)) (Ev.some h3 (hunk.bind (Ev.f (decide_eq_false (by simp [dmR])) (Ev.some h3 ((qiu (by omega) 2 _ t.args K hlen hab hargs).bind (Ev.pure _)))))))))
def finR (s' : List Bool) (signs : List Int) (args : List Tm) : Except (Int × Int) (Nat → Bool) → Int × Int × Bool
 | .error e => (e.1, e.2, false)
 | .ok k2 => match demandF s' 2 k2 signs args 0 with
  | some a => (-1, a, false)
  | none => (0, 0, true)
theorem rounds' {t : Tm} {s : List Bool} {K : Nat → Bool} (ho : OkT t s.length) (hb : s.length + t.height ≤ 600) (ihU : ∀ a, a.height < t.height → PU sig l g a) {m : Md} {v : Int} (hv : idx l v = some m)
  (hml : m.signs.length = (split t).2.args.length) (hab : (split t).2.args.length ≤ 1000) (hargs : ∀ x ∈ (split t).2.args, OkT x (s ++ dep t).length) :
  ∀ (i : Nat), i ≤ (dep t).length → ∀ k : Nat → Bool, (∀ x, (s ++ dep t).length ≤ x → k x = false) →
   ∃ rr, Ev (fun n => roundsF n g (split t).1 (scoF s (dep t)) (premF (dep t) 0) (premF ((dep t).take i) 0).length k) rr ∧ (∀ k2, rr = .ok k2 → ∀ x, (s ++ dep t).length ≤ x → k2 x = false) ∧
    (TyT sig t → Ev (fun n => R14_Assume_L2 n (dep t) (split t) (Sta.mk s (kl s K)) l v (Sta.mk (s ++ dep t) (kl (s ++ dep t) k)) ((i : Int) - 1)) (finR (s ++ dep t) m.signs (split t).2.args rr)) := by
 obtain ⟨hok, hh, hc⟩ := qj ho.pr
 have hdl := dep_len t hok
 have hsl := (qh7 t hok).2
 have hs'l : (s ++ dep t).length ≤ 600 := by rw [List.length_append]; omega
 intro i
 induction i with
 | zero =>
  intro _ k hk
  refine ⟨.ok k, ?_, (fun k2 h => by cases h; exact hk), fun ht => ?_⟩
  ·rw [List.take_zero]
   exact Ev.succ (fun n => qja n g _ _ _ k) (Ev.pure _)
  ·have hunk := qft (s := s ++ dep t) hs'l 2 k m (split t).2.args hml hab hargs
   refine Ev.succ (fun n => R14_Assume_L2.eq_2 ..) (Ev.f (decide_eq_false (by omega)) (Ev.some hv (hunk.bind ?_)))
   simp only [finR]
   cases hdm : demandF (s ++ dep t) 2 k m.signs (split t).2.args 0 with
   | some a => exact Ev.t (decide_eq_true (qb4 _ _ _ _ hdm)) (Ev.pure _)
   | none => exact Ev.f (decide_eq_false (by simp [dmR])) (Ev.pure _)
 | succ i ih =>
  intro hi k hk
  obtain ⟨bi, hbi⟩ : ∃ b, (dep t)[i]? = some b := ⟨_, List.getElem?_eq_getElem (by omega)⟩
  have hwr : IntKind.i64.wrap ((i : Int) - 1) = (i : Int) - 1 := wrap_i64 (by omega) (by omega)
  have e1 : ((i + 1 : Nat) : Int) - 1 = (i : Int) := by omega
  rw [premF_take hbi, e1]
  cases bi with
  | true =>
   obtain ⟨rr, h1, h2, h3⟩ := ih (by omega) k hk
   refine ⟨rr, by simpa using h1, h2, fun ht => ?_⟩
   refine Ev.succ (fun n => R14_Assume_L2.eq_2 ..) (Ev.t (decide_eq_true (by omega)) (Ev.some (qw hbi) (Ev.t rfl ?_)))
   rw [hwr]
   exact h3 ht
  | false =>
   obtain ⟨a, ha⟩ : ∃ a, (split t).1[i]? = some a := ⟨_, List.getElem?_eq_getElem (by omega)⟩
   have hah := ql5 t hok i a ha
   have hoa := (qm5 t hok s.length ho).2 i a ha
   have hsi : (s ++ (dep t).take i).length = s.length + i := by rw [List.length_append, List.length_take, Nat.min_eq_left (by omega)]
   obtain ⟨ru, hru, hru1, hru2⟩ := ihU a (by omega) (s ++ (dep t).take i) (firstF k (s ++ (dep t).take i).length) (by rw [hsi]; exact hoa) (by rw [hsi]; omega) (fun x hx => by simp only [firstF]; rw [if_neg (by omega)])
   have hjl : (premF (List.take i (dep t)) 0 ++ (if false = true then [] else [(i : Int)])).length = (premF (List.take i (dep t)) 0).length + 1 := by simp
   rw [hjl]
   have hgetr : ∀ {rr : Except (Int × Int) (Nat → Bool)}, Ev (fun n => match ru with
     | .error a => some (.error ((i : Int), a))
     | .ok q => roundsF n g (split t).1 (scoF s (dep t)) (premF (dep t) 0) (premF ((dep t).take i) 0).length (withF k q)) rr →
     Ev (fun n => roundsF n g (split t).1 (scoF s (dep t)) (premF (dep t) 0) ((premF ((dep t).take i) 0).length + 1) k) rr := by
    intro rr h
    refine Ev.succ (fun n => qiw n g _ _ _ _ k) ?_
    refine Ev.some (premF_at hbi) (Ev.some (qw (scoF_get (dep t) s i (by omega))) (Ev.some (qw ha) (Ev.need (decide_eq_true (by rw [hsi]; omega)) (hru.bind ?_))))
    exact h
   -- the reference: First, Use
   have hfst : Ev (fun q => R14_State_First q (Sta.mk (s ++ dep t) (kl (s ++ dep t) k)) (IntKind.i64.wrap (((List.map D.bool (Sta.mk s (kl s K)).opn).length : Int) + (i : Int)))) (Sta.mk (s ++ (dep t).take i) (kl (s ++ (dep t).take i) (firstF k (s ++ (dep t).take i).length))) := by
    rw [List.length_map]
    show Ev (fun q => R14_State_First q _ (IntKind.i64.wrap ((s.length : Int) + (i : Int)))) _
    rw [wrap_i64 (by omega) (by omega), show (s.length : Int) + (i : Int) = ((s.length + i : Nat) : Int) by omega]
    have h1 := ql1 (s ++ dep t) (kl (s ++ dep t) k) (s.length + i) (by rw [List.length_append]; omega) (by rw [qa7, List.length_append]; omega) (by omega)
    have e2 : (s ++ dep t).take (s.length + i) = s ++ (dep t).take i := by rw [List.take_append, List.take_of_length_le (by omega)]; simp
    rw [kl_take (by rw [List.length_append]; omega), e2] at h1
    refine h1.eq ?_
    congr 1
    exact kl_congr (fun x hx => by simp only [firstF]; rw [if_pos hx])
   have hgetL : ∀ {rr : Int × Int × Bool}, TyT sig t → Ev (fun n => cond (!(conU (s ++ (dep t).take i) (firstF k (s ++ (dep t).take i).length) ru).2.1) (some ((i : Int), (conU (s ++ (dep t).take i) (firstF k (s ++ (dep t).take i).length) ru).2.2, false)) (R14_Assume_L2 n (dep t) (split t) (Sta.mk s (kl s K)) l v (Sta.mk (s ++ dep t) (copyL (conU (s ++ (dep t).take i) (firstF k (s ++ (dep t).take i).length) ru).1.known (kl (s ++ dep t) k))) (IntKind.i64.wrap ((i : Int) - 1)))) rr →
     Ev (fun n => R14_Assume_L2 n (dep t) (split t) (Sta.mk s (kl s K)) l v (Sta.mk (s ++ dep t) (kl (s ++ dep t) k)) (i : Int)) rr := by
    intro rr ht h
    refine Ev.succ (fun n => R14_Assume_L2.eq_2 ..) (Ev.t (decide_eq_true (by omega)) (Ev.some (qw hbi) (Ev.f rfl (Ev.some (qw ha) (hfst.bind ((hru2 ((qm2 t hok ht).2 a (List.mem_of_getElem? ha))).bind ?_))))))
    exact h
   cases ru with
   | error x =>
    refine ⟨.error ((i : Int), x), hgetr (Ev.pure _), (fun k2 h => by cases h), fun ht => hgetL ht (Ev.t rfl (Ev.pure _))⟩
   | ok q =>
    obtain ⟨hq1, hq2⟩ := hru1 q rfl
    have hq0 : ∀ x, s.length + i ≤ x → q x = false := by
     intro x hx
     cases hqx : q x with
     | false => rfl
     | true =>
      rcases hq2 x hqx with h | h
      ·simp only [firstF] at h; rw [if_neg (by omega)] at h; cases h
      ·rw [getD_out (by omega)] at h; cases h
    obtain ⟨rr, h1, h2, h3⟩ := ih (by omega) (withF k q) (fun x hx => by
     simp only [withF]
     rw [hk x hx, hq0 x (by rw [List.length_append] at hx; omega)]
     rfl)
    have e3 : copyL (kl (s ++ (dep t).take i) q) (kl (s ++ dep t) k) = kl (s ++ dep t) (withF k q) := by
     refine kl_ext (by rw [qnb, qa7]) (fun x hx => ?_)
     unfold copyL
     rw [qa7, qa7, hsi, List.take_of_length_le (by rw [qa7, hsi, List.length_append]; omega)]
     by_cases hxi : x < s.length + i
     ·rw [List.getElem?_append_left (by rw [qa7, hsi]; exact hxi), qg3 (by rw [hsi]; exact hxi)]
      congr 1
      simp only [withF]
      cases hkx : k x with
      | false => rfl
      | true =>
       rw [hq1 x (by simp only [firstF]; rw [if_pos (by omega)]; exact hkx)]
       rfl
     ·rw [List.getElem?_append_right (by rw [qa7, hsi]; omega), qa7, hsi, List.getElem?_drop, show s.length + i + (x - (s.length + i)) = x by omega, qg3 hx]
      congr 1
      simp only [withF]
      rw [hq0 x (by omega), Bool.or_false]
    refine ⟨rr, hgetr h1, h2, fun ht => hgetL ht (Ev.f rfl ?_)⟩
    have h5 := h3 ht
    rw [← e3] at h5
    rw [hwr]
    exact h5
theorem qmd (hg : mapOf l g) (hl : l.length ≤ 1000) (hm : ∀ m ∈ l, ∃ d, idx sig m.family = some d ∧ (split d.cls).1.length = m.signs.length) {t : Tm} (ihU : ∀ a, a.height < t.height → PU sig l g a) : PA sig l g t := by
 intro s K ho hb hK
 obtain ⟨hok, hh, hc⟩ := qj ho.pr
 have hdl := dep_len t hok
 have hsl := (qh7 t hok).2
 have hs'l : (s ++ dep t).length ≤ 600 := by rw [List.length_append]; omega
 have hoh := (qm5 t hok s.length ho).1
 rw [← hdl, ← List.length_append] at hoh
 have hpeel : Ev (fun n => peelF n n t s [] [] []) ((split t).2, s ++ dep t, (split t).1, scoF s (dep t), premF (dep t) 0) := by
  obtain ⟨N, hN⟩ := peel_some t hok s [] [] [] ho.pr (by simp; omega) (by omega) (by simp; omega) (by simp; omega)
  exact ⟨N, fun n hn => by show peelF n n t s [] [] [] = _; rw [hN n n hn hn]; simp⟩
 have hof := of_evP (split t).2 g
 cases hm2 : (ofP (split t).2 g).2 with
 | false =>
  refine ⟨none, ?_, fun ht => ?_⟩
  ·refine Ev.succ (fun n => qdv n g s t K) (hpeel.bind (hof.bind ?_))
   rw [hm2]
   exact Ev.pure _
  ·have hlf := (qm2 t hok ht).1
   have hnone := ofP_no hm2 hlf.1 hlf.2.1 (fun m h => leaf_len sig l g hg hm hlf h)
   rcases qlu hg hl (split t).2.n with ⟨_, v, hv, hf⟩ | ⟨m, v, hm1, _⟩
   ·exact Ev.succ (fun n => R14_Assume.eq_2 ..) ((qen hok (by omega)).bind (hf.bind (Ev.t (decide_eq_true hv) (Ev.pure _))))
   ·rw [hnone] at hm1; cases hm1
 | true =>
  obtain ⟨h4, hmg, hlen⟩ := ofP_yes hm2
  have hargs := hoh.args h4
  have hab : (split t).2.args.length ≤ 1000 := by
   obtain ⟨hok2, hh2, hc2⟩ := qj hoh.pr
   have h1 := qab (split t).2.args
   have h3 := qai (split t).2
   omega
  have hai := qmu hs'l hargs
  have hlr := qjb (s := s ++ dep t) hs'l 1 (ofP (split t).2 g).1.signs (split t).2.args K hargs
  have hk1 : ∀ x, (s ++ dep t).length ≤ x → learnP (s ++ dep t) 1 (ofP (split t).2 g).1.signs (split t).2.args K x = false := by
   intro x hx
   cases hh : learnP (s ++ dep t) 1 (ofP (split t).2 g).1.signs (split t).2.args K x with
   | false => rfl
   | true =>
    rcases qi2 _ _ _ hargs hh with h | h
    ·rw [hK x (by rw [List.length_append] at hx; omega)] at h; cases h
    ·rw [getD_out hx] at h; cases h
  rcases qlu hg hl (split t).2.n with ⟨hn, _⟩ | ⟨m, v, hm1, hv0, hv, hf⟩
  ·rw [hn] at hmg; cases hmg
  have hmm : m = (ofP (split t).2 g).1 := by rw [hmg] at hm1; exact (Option.some.inj hm1).symm
  subst hmm
  obtain ⟨rr, hr1, hr2, hr3⟩ := rounds' sig l g (K := K) ho hb ihU hv hlen hab hargs (dep t).length (Nat.le_refl _) _ hk1
  rw [List.take_length] at hr1
  have hL1 : TyT sig t → ∀ {q : Int × Int × Bool}, Ev (fun n => R14_Assume_L2 n (dep t) (split t) (Sta.mk s (kl s K)) l v (Sta.mk (s ++ dep t) (kl (s ++ dep t) (learnP (s ++ dep t) 1 (ofP (split t).2 g).1.signs (split t).2.args K))) (((dep t).length : Int) - 1)) q → Ev (fun n => R14_Assume n l (Sta.mk s (kl s K)) t) q := by
   intro ht q hL2
   have loop : ∀ (p i : Nat), p = (dep t).length - i → i ≤ (dep t).length → Ev (fun n => R14_Assume_L1 n (split t) (dep t) l v (Sta.mk s (kl s K)) (Sta.mk (s ++ (dep t).take i) (kl (s ++ (dep t).take i) K)) (i : Int)) q := by
    intro p
    induction p with
    | zero =>
     intro i hp hi
     have hie : i = (dep t).length := by omega
     subst hie
     rw [List.take_length]
     refine Ev.succ (fun n => R14_Assume_L1.eq_2 ..) (Ev.f (by rw [Tm.encL_length]; exact decide_eq_false (by omega)) (Ev.some hv ((qiu hs'l 1 _ _ K hlen hab hargs).bind ?_)))
     rw [Tm.encL_length, wrap_i64 (by omega) (by omega), ← hdl]
     exact hL2
    | succ p ihp =>
     intro i hp hi
     obtain ⟨bi, hbi⟩ : ∃ b, (dep t)[i]? = some b := ⟨_, List.getElem?_eq_getElem (by omega)⟩
     have hsi : (s ++ (dep t).take i).length = s.length + i := by rw [List.length_append, List.length_take, Nat.min_eq_left (by omega)]
     refine Ev.succ (fun n => R14_Assume_L1.eq_2 ..) (Ev.t (by rw [Tm.encL_length]; exact decide_eq_true (by omega)) (Ev.some (qw hbi) ?_))
     have hw := with_ev (Sta.mk (s ++ (dep t).take i) (kl (s ++ (dep t).take i) K)) bi (by simp only; omega) (by simp only [qa7]; omega)
     simp only at hw
     rw [kl_snoc (b := bi) (hK _ (by omega))] at hw
     have e2 : s ++ (dep t).take i ++ [bi] = s ++ (dep t).take (i + 1) := by
      rw [List.take_add_one, hbi]
      simp
     rw [e2] at hw
     rw [wrapS (by omega)]
     exact hw.bind (ihp (i + 1) (by omega) (by omega))
   refine Ev.succ (fun n => R14_Assume.eq_2 ..) ((qen hok (by omega)).bind (hf.bind (Ev.f (decide_eq_false (by omega)) ((qd5 ho.pr).bind ?_))))
   have := loop _ 0 rfl (Nat.zero_le _)
   rw [List.take_zero, List.append_nil] at this
   exact this
  cases rr with
  | error e =>
   refine ⟨some e, ?_, fun ht => hL1 ht (hr3 ht)⟩
   refine Ev.succ (fun n => qdv n g s t K) (hpeel.bind (hof.bind ?_))
   rw [hm2]
   exact Ev.t rfl (hlr.bind (hr1.bind (Ev.pure _)))
  | ok k2 =>
   refine ⟨(demandF (s ++ dep t) 2 k2 (ofP (split t).2 g).1.signs (split t).2.args 0).map (fun i => (-1, i)), ?_, fun ht => (hL1 ht (hr3 ht)).eq ?_⟩
   ·refine Ev.succ (fun n => qdv n g s t K) (hpeel.bind (hof.bind ?_))
    rw [hm2]
    exact Ev.t rfl (hlr.bind (hr1.bind (Ev.need hai (Ev.pure _))))
   ·simp only [finR]
    cases demandF (s ++ dep t) 2 k2 (ofP (split t).2 g).1.signs (split t).2.args 0 <;> rfl
theorem both_p (hg : mapOf l g) (hl : l.length ≤ 1000) (hm : ∀ m ∈ l, ∃ d, idx sig m.family = some d ∧ (split d.cls).1.length = m.signs.length) : ∀ (N : Nat) (t : Tm), t.height ≤ N → PA sig l g t ∧ PU sig l g t
 | 0, t, h => by have := qt t; omega
 | N + 1, t, h => by
  have ihA : ∀ a, a.height < t.height → PA sig l g a := fun a ha => (both_p hg hl hm N a (by omega)).1
  have ihU : ∀ a, a.height < t.height → PU sig l g a := fun a ha => (both_p hg hl hm N a (by omega)).2
  exact ⟨qmd sig l g hg hl hm ihU, use_step' sig l g hg hl hm ihA ihU⟩
end
end

section
open Go.Tr Go Go.Proofs.Tryz
set_option linter.unusedVariables false
set_option linter.unusedSimpArgs false
set_option maxRecDepth 10000
def any3 (g : List (Int × Md)) : Prop := ∀ f m, mget g f = some m → ∀ s ∈ m.signs, s = 3
theorem qgo {s : List Bool} {sign : Int} (h3 : sign ≠ 3) {q : Nat → Bool} : ∀ (gs : List Int) (xs : List Tm) (i : Nat), (∀ x ∈ gs, x = 3) → demandF s sign q gs xs i = none
 | [], xs, i, _ => by cases xs <;> simp [demandF]
 | g :: gs, [], i, _ => by simp [demandF]
 | g :: gs, x :: xs, i, h => by
  have hg := h g (List.mem_cons_self ..)
  rw [demandF, decide_eq_false (by omega), cond_false]
  exact qgo h3 gs xs (i + 1) (fun y hy => h y (List.mem_cons_of_mem _ hy))
theorem qjd {n : Nat} {t : Tm} {g : List (Int × Md)} (h3 : any3 g) {m : Md × Bool} (h : mode_of n t g = some m) (hm : m.2 = true) : ∀ s ∈ m.1.signs, s = 3 := by
 rcases n with _ | n
 ·exact qe h
 ·rw [mode_of.eq_2] at h
  have h := Option.some.inj h
  have e : m = ofP t g := h.symm
  subst e
  exact h3 t.n _ (ofP_yes hm).2.1
theorem err_any {g : List (Int × Md)} (h3 : any3 g) : ∀ n : Nat, (∀ s t k e, assumeF n g s t k = some (some e) → 0 ≤ e.1 ∧ e.2 = -1) ∧ (∀ ds ss ps j k e, roundsF n g ds ss ps j k = some (.error e) → 0 ≤ e.1 ∧ e.2 = -1) ∧ (∀ s t k a, useF n g s t k = some (.error a) → a = -1)
 | 0 => by
  refine ⟨fun s t k e h => ?_, fun ds ss ps j k e h => ?_, fun s t k a h => ?_⟩
  ·rw [assumeF] at h; cases h
  ·rw [roundsF] at h; cases h
  ·rw [useF] at h; cases h
 | n + 1 => by
  obtain ⟨i1, i2, i3⟩ := err_any h3 n
  refine ⟨fun s t k e h => ?_, fun ds ss ps j k e h => ?_, fun s t k a h => ?_⟩
  ·rw [qdv] at h
   obtain ⟨x, hx, h⟩ := bind_some h
   obtain ⟨m, hm, h⟩ := bind_some h
   cases hm2 : m.2 with
   | false => rw [hm2, cond_false] at h; cases Option.some.inj h
   | true =>
    rw [hm2, cond_true] at h
    obtain ⟨k1, hk1, h⟩ := bind_some h
    obtain ⟨r, hr, h⟩ := bind_some h
    cases r with
    | error e' =>
     have := Option.some.inj (Option.some.inj h)
     subst this
     exact i2 _ _ _ _ _ _ hr
    | ok k2 =>
     obtain ⟨_, h⟩ := qm h
     have h := Option.some.inj h
     rw [qgo (by decide) _ _ _ (qjd h3 hm hm2)] at h
     cases h
  ·cases j with
   | zero => rw [qja] at h; cases Option.some.inj h
   | succ j =>
    rw [qiw] at h
    obtain ⟨p, hp, h⟩ := bind_some h
    obtain ⟨s, hs, h⟩ := bind_some h
    obtain ⟨d, hd, h⟩ := bind_some h
    obtain ⟨_, h⟩ := qm h
    obtain ⟨r, hr, h⟩ := bind_some h
    cases r with
    | error a =>
     have := Option.some.inj h
     cases this
     exact ⟨(qi hs).1, i3 _ _ _ _ hr⟩
    | ok q => exact i2 _ _ _ _ _ _ h
  ·rw [qeu] at h
   cases h2 : (t.op == 2) with
   | true =>
    rw [h2, cond_true] at h
    obtain ⟨d, hd, h⟩ := bind_some h
    obtain ⟨r, hr, h⟩ := bind_some h
    cases r with
    | some e =>
     have := Option.some.inj h
     cases this
     exact (i1 _ _ _ _ hr).2
    | none =>
     obtain ⟨b, hb, h⟩ := bind_some h
     obtain ⟨_, h⟩ := qm h
     exact i3 _ _ _ _ h
   | false =>
    rw [h2, cond_false] at h
    obtain ⟨m, hm, h⟩ := bind_some h
    cases hm2 : m.2 with
    | false => rw [hm2, cond_false] at h; cases Option.some.inj h; rfl
    | true =>
     rw [hm2, cond_true] at h
     obtain ⟨_, h⟩ := qm h
     rw [qgo (by decide) _ _ _ (qjd h3 hm hm2)] at h
     obtain ⟨q, _, h⟩ := bind_some h
     cases Option.some.inj h
theorem right_len {sig : List Dc} {l : List Md} (h : ∀ m ∈ l, rightB sig m = true) : ∀ m ∈ l, ∃ d, idx sig m.family = some d ∧ (split d.cls).1.length = m.signs.length := fun m hm => by
 obtain ⟨d, h1, _, h2, _⟩ := rightB_yes (h m hm)
 exact ⟨d, h1, h2⟩
theorem kl_nil (K : Nat → Bool) : kl [] K = [] := rfl
theorem check_both {sig : List Dc} (hs : sigOK sig = true) {l : List Md} {g : List (Int × Md)} (hg : mapOf l g) (hl : l.length ≤ 1000) (hr : ∀ m ∈ l, rightB sig m = true) {n : Int} {d : Dc} (hd : idx sig n = some d) :
  ∃ q, Ev (fun k => qco k sig n g) (chkF q) ∧ (SigT sig → kindT d.cls = false → Ev (fun k => R14_Check k sig l n) (conE q)) ∧ (any3 g → ∀ e, q = some e → 0 ≤ e.1 ∧ e.2 = -1) := by
 have hmem := List.mem_of_getElem? (qi hd).2
 have hpr : Pr d.cls := (qa6 hs).2 d hmem
 have hok : OkT d.cls ([] : List Bool).length := ⟨hpr, qn5 hs d hmem⟩
 have hh := (qj hpr).2.1
 obtain ⟨r, h1, h2⟩ := (both_p sig l g hg hl (right_len hr) d.cls.height d.cls (Nat.le_refl _)).1 [] none7 hok (by simp; omega) (fun _ _ => rfl)
 refine ⟨r, ?_, fun ht hk => ?_, fun h3 e he => ?_⟩
 ·have hfun : (fun k => qco k sig n g) = (fun k => (idx sig n).bind (fun d => (assumeF k g [] d.cls none7).bind (fun r => some (chkF r)))) := rfl
  rw [hfun]
  exact Ev.some hd (h1.bind (Ev.pure _))
 ·have h := h2 (ht d hmem hk)
  rw [kl_nil] at h
  exact Ev.succ (fun k => R14_Check.eq_2 ..) (Ev.some hd (h.bind ((Ev.pure _).eq (by cases r <;> rfl))))
 ·obtain ⟨N, hN⟩ := h1
  have h4 := hN N (Nat.le_refl _)
  subst he
  exact (err_any h3 N).1 _ _ _ _ h4
theorem areLoop {α : Type} {sig : List Dc} (hs : sigOK sig = true) (l : List Md) (hl : l.length ≤ 1000) (F : Nat → List (Int × Md) → Int → Option α) (G : Nat → List (Int × Md) → Option α) (E : α) (P : α → Prop)
  (hF : ∀ k g i, F (k + 1) g i = cond (decide (i < ((Md.encL l).length : Int))) ((idx l i).bind (fun v => cond ((mget g v.family).isSome) (some E) ((mode_isMode k sig v).bind (fun b => cond ((!b) || (decide (((Md.encL l).length : Int) > 40))) (some E) (F k (mput v.family v g) (IntKind.i64.wrap (i + 1))))))) (G k g))
  (hG : l.length ≤ 40 → (∀ m ∈ l, rightB sig m = true) → ∀ g, mapOf l g → Yields (fun k => G k g) P) : Yields (fun k => F k [] 0) (fun r => if modesOK sig l = true then P r else r = E) := by
 have loop : ∀ (ts : List Md) (i : Nat) (g : List (Int × Md)), l.drop i = ts → i + ts.length = l.length → mapOf (l.take i) g → (∀ x ∈ l.take i, rightB sig x = true) → (i ≠ 0 → l.length ≤ 40) → (ts = [] → l.length ≤ 40) →
   Yields (fun k => F k g (i : Int)) (fun r => if (decide (l.length ≤ 40) && modesB sig (l.take i) ts) = true then P r else r = E) := by
  intro ts
  induction ts with
  | nil =>
   intro i g hd hi hg hr h40 h40'
   simp only [List.length_nil, Nat.add_zero] at hi
   have h40 := h40' rfl
   rw [decide_eq_true h40]
   rw [show l.take i = l by rw [hi, List.take_length]] at hg hr
   refine Yields.succ (fun k => hF k g i) ?_
   refine Yields.ite (fun h => ?_) (fun _ => ?_)
   ·rw [Md.encL_length] at h; simp at h; omega
   ·refine (hG h40 hr g hg).mono (fun r hP => ?_)
    rw [if_pos (by simp [modesB])]
    exact hP
  | cons m ts ih =>
   intro i g hd hi hg hr h40 _
   simp only [List.length_cons] at hi
   have hm := getDrop hd
   refine Yields.succ (fun k => hF k g i) ?_
   refine Yields.ite (fun _ => ?_) (fun h => ?_)
   rotate_left
   ·rw [Md.encL_length] at h; simp at h; omega
   refine Yields.some (qw hm) ?_
   have e : (mget g m.family).isSome = (l.take i).any (fun x => x.family == m.family) := by
    rw [hg, Bool.eq_iff_iff, List.find?_isSome, List.any_eq_true]
   have em : modesB sig (l.take i) (m :: ts) = ((!(l.take i).any (fun x => x.family == m.family) && rightB sig m) && modesB sig (l.take i ++ [m]) ts) := rfl
   rw [e, em]
   refine Yields.ite (fun h => ?_) (fun h => Yields.bind (Ev.is (isMode_ev hs m)) (fun b hb => ?_))
   ·refine Yields.pure ?_
    rw [h, if_neg (by simp)]
   ·subst hb
    rw [h, Md.encL_length]
    refine Yields.ite (fun h' => Yields.pure ?_) (fun h' => ?_)
    ·rw [if_neg ?_]
     intro hc
     simp only [Bool.and_eq_true, Bool.not_false, decide_eq_true_eq, true_and] at hc
     rw [hc.2.1] at h'
     simp at h'; omega
    ·rw [Bool.or_eq_false_iff] at h'
     have hrm := nb' h'.1
     have h4 : l.length ≤ 40 := by have := h'.2; simp at this; omega
     have hg' := mapOf_put hg h
     have e2 : l.take i ++ [m] = l.take (i + 1) := by rw [List.take_add_one, hm]; rfl
     rw [e2] at hg'
     rw [wrapS (by omega)]
     have := ih (i + 1) (mput m.family m g) (dropDrop hd) (by omega) hg' (by
      rw [← e2]
      intro x hx
      rcases List.mem_append.1 hx with hx | hx
      ·exact hr x hx
      ·rw [List.mem_singleton] at hx; subst hx; exact hrm) (fun _ => h4) (fun _ => h4)
     rw [← e2] at this
     rw [hrm]
     refine this.mono (fun r hP => ?_)
     simpa using hP
 exact loop l 0 [] rfl (by simp) (fun f => rfl) (by simp) (by simp) (fun e => by subst e; simp)
def ChkP (sig : List Dc) (l : List Md) (n : Int) (r : Int × Int × Int) : Prop :=
 (idx sig n = none → r = (0, 0, 6)) ∧ ∀ d, idx sig n = some d → (kindT d.cls = true → r = (0, 0, 22)) ∧ (kindT d.cls = false → ∃ q, r = chkF q ∧ (SigT sig → Ev (fun k => R14_Check k sig l n) (conE q)) ∧ ((∀ m ∈ l, ∀ s ∈ m.signs, s = 3) → ∀ e, q = some e → 0 ≤ e.1 ∧ e.2 = -1))
theorem any3_of {l : List Md} {g : List (Int × Md)} (hg : mapOf l g) (h : ∀ m ∈ l, ∀ s ∈ m.signs, s = 3) : any3 g := fun f m hm => by
 rw [hg] at hm
 exact h m (List.mem_of_find?_eq_some hm)
theorem qop {sig : List Dc} {n : Int} : ((decide (n < 0)) || (decide (n ≥ ((Dc.encL sig).length : Int)))) = (idx sig n).isNone := by
 rw [Dc.encL_length]
 by_cases h0 : n < 0
 ·rw [decide_eq_true h0, idx, decide_eq_false (show ¬ (0 : Int) ≤ n by omega)]; rfl
 ·rw [decide_eq_false h0, Bool.false_or, idx, decide_eq_true (show (0 : Int) ≤ n by omega), cond_true]
  by_cases h1 : n ≥ (sig.length : Int)
  ·rw [decide_eq_true h1, List.getElem?_eq_none (by omega)]; rfl
  ·rw [decide_eq_false h1, List.getElem?_eq_getElem (show n.toNat < sig.length by omega)]; rfl
theorem Check_y {sig : List Dc} (l : List Md) (n : Int) (hl : l.length ≤ 1000) : Yields (fun k => mode_Check k sig l n) (fun r => if sigOK sig = true ∧ modesOK sig l = true then ChkP sig l n r else r = (0, 0, 2)) := by
 refine Yields.succ (fun k => mode_Check.eq_2 ..) (Yields.bind (Ev.is (check_ev sig)) (fun e he => ?_))
 subst he
 cases hs : sigOK sig with
 | false => exact Yields.ite (fun _ => Yields.pure (by simp)) (fun h => by simp at h)
 | true =>
  rw [if_pos rfl]
  refine Yields.ite (fun h => by simp at h) (fun _ => ?_)
  refine (areLoop hs l hl (fun k g i => mode_Check_L1 k l sig n g i) (fun k g => cond ((decide (n < 0)) || (decide (n ≥ ((Dc.encL sig).length : Int)))) (some (0, 0, 6)) ((sign_Family k sig n).bind (fun v35 => cond v35 (some (0, 0, 22)) ((qco k sig n g).bind (fun v38 => some (v38.1, v38.2.1, v38.2.2)))))) (0, 0, 2) (ChkP sig l n) (fun k g i => mode_Check_L1.eq_2 ..) ?_).mono (fun r h => by simpa using h)
  intro h40 hr g hg
  rw [qop]
  cases hd : idx sig n with
  | none => exact Yields.ite (fun _ => Yields.pure ⟨fun _ => rfl, fun d h => by rw [hd] at h; cases h⟩) (fun h => by simp at h)
  | some d =>
   refine Yields.ite (fun h => by simp at h) (fun _ => ?_)
   have hpr := qj ((qa6 hs).2 d (List.mem_of_getElem? (qi hd).2))
   refine Yields.bind (Ev.is (qga hd hpr.1 (by omega))) (fun b hb => ?_)
   subst hb
   have hdd : ∀ d', idx sig n = some d' → d' = d := fun d' h => by rw [hd] at h; exact (Option.some.inj h).symm
   refine Yields.ite (fun h => Yields.pure ⟨(fun h' => by rw [hd] at h'; cases h'), fun d' h' => ?_⟩) (fun h => ?_)
   ·rw [hdd d' h']
    exact ⟨fun _ => rfl, fun h2 => by rw [h] at h2; cases h2⟩
   ·obtain ⟨q, h1, h2, h3⟩ := check_both hs hg hl hr hd
    refine Yields.bind (Ev.is h1) (fun r hrq => Yields.pure ⟨(fun h' => by rw [hd] at h'; cases h'), fun d' h' => ?_⟩)
    subst hrq
    rw [hdd d' h']
    exact ⟨(fun h2 => by rw [h] at h2; cases h2), fun _ => ⟨q, rfl, fun ht => h2 ht h, fun ha => h3 (any3_of hg ha)⟩⟩
theorem ofG_idx {sig : List Dc} {n x : Int} (h : x ∈ ofG n sig 0) : ∃ d, idx sig x = some d ∧ kindT d.cls = false := by
 obtain ⟨j, d, hx, hj, hk⟩ := ofG_mem n sig 0 x h
 rw [Nat.zero_add] at hx
 subst hx
 exact ⟨d, qw hj, hk⟩
end

section
open Go.Tr Go Go.Proofs.Tryz
set_option linter.unusedVariables false
set_option linter.unusedSimpArgs false
set_option maxRecDepth 10000
theorem modeAny_ev (sig : List Dc) (n : Int) (hb : sigB sig) : Ev (fun k => W14_ModeAny k sig n) true := by
 obtain ⟨b, v1, v2⟩ := valid_kd sig hb
 refine Ev.succ (fun k => W14_ModeAny.eq_2 ..) (v1.bind ?_)
 cases b with
 | false => exact Ev.t rfl (awake14_ev.bind (Ev.pure _))
 | true =>
 obtain ⟨hs, ht⟩ := v2 rfl
 refine Ev.f rfl ((has_ev sig n).bind ?_)
 cases hd : idx sig n with
 | none =>
  have hno : (decide (n ≥ 0) && decide (n < (sig.length : Int))) = false := by
   rw [Bool.and_eq_false_iff, decide_eq_false_iff_not, decide_eq_false_iff_not]
   rcases idx_no hd with h | h
   ·left; omega
   ·right; omega
  rw [hno]
  exact Ev.t rfl (awake14_ev.bind (Ev.pure _))
 | some d =>
  have hbd := qk7 hd
  have hyes : (decide (n ≥ 0) && decide (n < (sig.length : Int))) = true := by
   rw [Bool.and_eq_true, decide_eq_true_eq, decide_eq_true_eq]; omega
  rw [hyes]
  have hpr := (qa6 hs).2 d (List.mem_of_getElem? (qi hd).2)
  have hps := qj hpr
  refine Ev.f rfl ((qdo hd hps.1 (by omega)).bind ?_)
  cases hk : kindT d.cls with
  | false => exact Ev.t rfl (awake14_ev.bind (Ev.pure _))
  | true =>
   refine Ev.f rfl ?_
   have hdl := dep_len d.cls hps.1
   have hsl0 := (qh7 d.cls hps.1).2
   have hsl := (qa6 hs).1
   have hlen := ofG_len n sig 0
   obtain ⟨m, hm⟩ : ∃ m, m = Md.mk n (List.replicate (dep d.cls).length 3) := ⟨_, rfl⟩
   have h3 : ∀ y ∈ [m], ∀ s ∈ y.signs, s = 3 := by
    intro y hy s hsy
    rw [List.mem_singleton] at hy
    subst hy
    rw [hm] at hsy
    exact (List.mem_replicate.1 hsy).2
   have hmo : modesOK sig [m] = true := by
    have hr : rightB sig m = true := by
     have hfam : idx sig m.family = some d := by rw [hm]; exact hd
     rw [qfj hfam, hk, Bool.true_and, Bool.and_eq_true]
     refine ⟨decide_eq_true (by rw [hm, List.length_replicate]; omega), ?_⟩
     unfold signsB
     rw [List.all_eq_true]
     intro s hsy
     have := h3 m (by simp) s hsy
     exact decide_eq_true (by omega)
    simp [modesOK, modesB, hr]
   have L2 : ∀ (ts : List Int) (i : Nat), (ofG n sig 0).drop i = ts → i + ts.length = (ofG n sig 0).length → Ev (fun k => W14_ModeAny_L2 k (ofG n sig 0) sig m (i : Int)) true := by
    intro ts
    induction ts with
    | nil =>
     intro i hdr hi
     simp only [List.length_nil, Nat.add_zero] at hi
     exact Ev.succ (fun k => W14_ModeAny_L2.eq_2 ..) (Ev.f (by rw [List.length_map]; exact decide_eq_false (by omega)) (awake14_ev.bind (Ev.pure _)))
    | cons x ts ih =>
     intro i hdr hi
     simp only [List.length_cons] at hi
     have hx := getDrop hdr
     obtain ⟨dx, hdx, hkx⟩ := ofG_idx (List.mem_of_getElem? hx)
     obtain ⟨r, hr, pr⟩ := Check_y (sig := sig) [m] x (by simp)
     rw [if_pos ⟨hs, hmo⟩] at pr
     obtain ⟨q, e8, _, hq⟩ := (pr.2 dx hdx).2 hkx
     subst e8
     refine Ev.succ (fun k => W14_ModeAny_L2.eq_2 ..) (Ev.t (by rw [List.length_map]; exact decide_eq_true (by omega)) (Ev.some (qw hx) (hr.bind ?_)))
     rw [wrapS (by omega)]
     have hgo := ih (i + 1) (dropDrop hdr) (by omega)
     cases q with
     | none => exact Ev.t rfl hgo
     | some e =>
      obtain ⟨h0, h1⟩ := hq h3 e rfl
      refine Ev.f rfl (Ev.f ?_ hgo)
      show ((((31 : Int) != 31) || decide (e.1 < 0)) || (e.2 != (-1))) = false
      rw [h1, decide_eq_false (show ¬ e.1 < 0 by omega)]
      rfl
   have L1 : ∀ (p i : Nat), p = (dep d.cls).length - i → i ≤ (dep d.cls).length → Ev (fun k => W14_ModeAny_L1 k sig n (Md.mk n (List.replicate i 3)) (i : Int)) true := by
    intro p
    induction p with
    | zero =>
     intro i hp hi
     have hie : i = (dep d.cls).length := by omega
     refine Ev.succ (fun k => W14_ModeAny_L1.eq_2 ..) (Ev.some hd ((qd5 hpr).bind (Ev.f (by rw [List.length_map]; exact decide_eq_false (by omega)) ((refOf_ev hs n).bind ?_))))
     rw [hie, ← hm]
     exact L2 (ofG n sig 0) 0 rfl (by simp)
    | succ p ihp =>
     intro i hp hi
     refine Ev.succ (fun k => W14_ModeAny_L1.eq_2 ..) (Ev.some hd ((qd5 hpr).bind (Ev.t (by rw [List.length_map]; exact decide_eq_true (by omega)) (Ev.need (decide_eq_true (by simp; omega)) ?_))))
     rw [wrapS (by omega)]
     have := ihp (i + 1) (by omega) (by omega)
     rw [List.replicate_succ'] at this
     exact this
   exact L1 _ 0 rfl (Nat.zero_le _)
end

section
open Go.Tr Go Go.Proofs.Tryz
open Go.ChangeShapes Go.WideShapes Go.ChangeAt Go.RowKit
set_option maxRecDepth 10000
theorem sigB_of {sig : List Dc} (h : okD (.sl 6 (Dc.encL sig))) : sigB sig := by
 simp only [okD] at h
 rw [Dc.encL_length] at h
 refine ⟨h.1, fun d hd => ?_⟩
 have h1 := okL_mem h.2 (List.mem_map_of_mem (f := Dc.enc) hd)
 simp only [okD, okL] at h1
 refine shT_of d.cls ?_
 rw [Tm.enc_eq]
 simp only [okD, okL]
 exact h1.2.1
theorem qm7 (sig : List Dc) (n : Int) (a2 : OA) (c2 : Nat) :
  Pure Tryz.prog (fnS 4) [(.v (.slice a2 ((Dc.encL sig).length) c2)), (.v (.int .i64 n))] [(.slice a2 ((Dc.encL sig).length) c2, .sl 6 (Dc.encL sig))] (fun r out => r = bS true ∧ out = []) := by
 refine qv fun hok => ?_
 have hb : sigB sig := sigB_of (hok _ (List.mem_cons_self ..))
 obtain ⟨N, h⟩ := modeAny_ev sig n hb
 exact qhj N sig n a2 c2 _ (h N (Nat.le_refl _))
set_option maxRecDepth 100000 in
theorem qj4 (os : Os) (started : os.Started) (H : Type) (enc : TypeId × Value → H) :
  ReturnsInHanded {} Tryz.checked os 4 .any (Rows.modeAnySpec.pre6 enc Tryz.prog Tryz.f4 Rows.modeAnyRow.domain false) (Rows.modeAnySpec.post enc Tryz.prog Tryz.f4 false true false false) := by
 refine returnsInHanded_of_change_sized (C := Tryz.checked) own started (by kernel_rfl) Tryz.func4
  (ChangeSpec.witness6 (enc := enc) (C := Tryz.checked) false ⟨#[], #[.slice none 0 0, .int .i64 0], []⟩ 8 (by kernel_rfl) (by kernel_rfl) (by kernel_rfl) (by kernel_rfl)) ?_
 intro W base args ds gs before hval hW _ hsz _
 have hW' := hW
 obtain ⟨p, q, hA0, hV, rfl, _, _⟩ := hW
 have hA : DataW.TrodAll enc Tryz.prog W 0 (fun _ => true) true Tryz.f4.params.toList args.toList ds p := hA0
 rw [Tryz.params4] at hA hval
 have hsz : (DataW.weightsEach Tryz.prog ([22, 3] ++ []) (ds ++ gs)).all (· ≤ reachBytes) = true := by
  have := hsz
  rw [Tryz.params4] at this
  exact this
 obtain ⟨v0, vs0, d0, ds0, p0, q0, ha0, rfl, rfl, h0, r0⟩ := trodAll_cons hA
 obtain ⟨v1, vs1, d1, ds1, p1, q1, rfl, rfl, rfl, h1, r1⟩ := trodAll_cons r0
 obtain ⟨rfl, rfl, rfl⟩ := trodAll_nil r1
 obtain ⟨rfl, rfl⟩ := trodVars_none hV
 obtain rfl : args = #[v0, v1] := by rw [← Array.toList_inj, ha0]
 have hw := all_le hsz
 simp only [List.append_nil, DataW.weightsEach, List.mem_append] at hw
 obtain ⟨sig, a2, c2, rfl, e2⟩ := argl_Dc (hval 0 _ _ rfl rfl) h0 (fun y hy => hw y (.inl hy))
 obtain ⟨n, rfl, _⟩ := arg_int (hval 1 _ _ rfl rfl) h1
 refine ((qm7 sig n a2 c2).calls Tryz.call4 (W := W) ?_).mono ?_
 ·intro r hr
  simp only [List.mem_cons, List.not_mem_nil, or_false] at hr
  subst hr
  exact e2
 rintro e W' ⟨r, out, rfl, ⟨rfl, rfl⟩, hx⟩
 refine ⟨_, rfl, post_true kids full hW' rfl ?_ ?_ (by kernel_rfl) Tryz.underlying4 hx⟩
 ·rw [Tryz.params4]
  decide +kernel
 ·intro ds hl
  rw [Tryz.params4] at hl
  match ds, hl with
  | [_, _], _ => rfl
theorem modeAny_holds : Rows.ModeAnySaid :=
 OpenClaim.holds_of_wide 4 Tryz.f4 rfl rfl rfl rfl rfl rfl rfl ⟨rfl, rfl, rfl, rfl, rfl⟩ rfl rfl rfl rfl rfl (by kernel_rfl) Tryz.func4 (by kernel_rfl)
  (of_decide_eq_true (by kernel_rfl)) (by unfold Func.isWrapper; first | (rw [if_pos (by decide +kernel)]; kernel_rfl) | (rw [if_neg (by decide +kernel)]; exact ⟨rfl, rfl⟩))
  (fun os started H enc _ => qj4 os started H enc)
#print axioms modeAny_holds
end
end Go.Proofs.YtogicnodmgdnbaaGreat
