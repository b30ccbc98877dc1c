/- Merged texts: Gc Gt Gw Gd Ge0 Ge1 GeU GeV GeC FwU GeF GeG Gx2 Gy G7. Conditions stand in each rule. -/
import Derived.Test.YtogicnodmgdnbaaGreatSI
import Derived.RecoverIn
import Derived.Tactics
import Derived.Tactics2
import Derived.TacticsInMore
import Derived.RegionIn
import Derived.Laws.Pointers
import Derived.Laws.CopyRow
import Derived.Laws.IdiomCopy
set_option linter.unusedSimpArgs false
set_option linter.unusedVariables false

namespace Go.Proofs.YtogicnodmgdnbaaGreat
section
open Go.Tr Go Go.Proofs.Tryz
set_option maxRecDepth 100000
abbrev mdS (m : Md) (a : OA) (c : Nat) : SV := .agg [iS m.family, .v (.slice a (List.map (D.int .i64) m.signs).length c)]
abbrev mdR (m : Md) (a : OA) (c : Nat) : Value × D := (.slice a (List.map (D.int .i64) m.signs).length c, .sl 1 (List.map (D.int .i64) m.signs))
abbrev mdC (m : Md) (a : OA) (c : Nat) : List SV := [iS m.family, .v (.slice a (List.map (D.int .i64) m.signs).length c)]
abbrev tmQ (t : Tm) (a : OA) (c : Nat) : List SV := [iS t.op, iS t.hd, iS t.n, .v (.slice a (Tm.encL t.args).length c)]
def levOK (l : List Int) : Bool := decide (l.length ≤ 1000000) && l.all (fun n => decide (0 ≤ n ∧ n < 700))
def learnF (k : Nat) (s : List Bool) (sign : Int) : List Int → List Tm → (Nat → Bool) → Option (Nat → Bool)
 | g :: gs, x :: xs, p => cond (decide (g = sign)) ((mode_scope_strict k s x).bind (fun l => cond (levOK l) (learnF k s sign gs xs (plusF p l)) none)) (learnF k s sign gs xs p)
 | _, _, p => some p
theorem qdc {α : Type} {l : List α} {i : Nat} {x : α} (h : l[i]? = some x) : l.drop i = x :: l.drop (i + 1) := by
 obtain ⟨hl, rfl⟩ := List.getElem?_eq_some_iff.1 h
 exact List.drop_eq_getElem_cons hl
set_option maxHeartbeats 8000000 in
theorem qgq (k : Nat) (s : List Bool) (m : Md) (t : Tm) (sign : Int) (p r : Nat → Bool) (a1 a2 a3 : OA) (c1 c2 c3 : Nat) (hl : m.signs.length = t.args.length) (hr : learnF k s sign m.signs t.args p = some r) :
  Pure Tryz.prog (fnS 139) [sbS s a1 c1, mdS m a2 c2, tmS t a3 c3, iS sign, setS p] [sbR s a1 c1, mdR m a2 c2, tmR t a3 c3] (fun r' out => r' = setS r ∧ out = []) := by
 refine qv fun hok => ?_
 have hB : (Tm.encL t.args).length ≤ 1152921504606846976 := (hok (tmR t a3 c3) (by simp)).1
 have hTL := Tm.encL_length t.args
 refine qb (N := 17) (m := 0) (dt := fun _ => none) [] ttOK Tryz.func139 rfl Tryz.call139 Tryz.ntmps139 rfl rfl rfl mixed (by kernel_rfl) ?_
 refine qb (N := 30) (m := 5) (dt := fun _ => none) [] ttOK Tryz.func170 rfl Tryz.call170 Tryz.ntmps170 rfl rfl rfl mixed (by kernel_rfl) ?_
 refine AtLoop.mk ⟨Nat × (Nat → Bool), fun x => [(13, iS (x.1 : Int)), (12, iS ((Tm.encL t.args).length : Int)), (11, .v (.slice a3 (Tm.encL t.args).length c3)), (4, .loc 5 0), (5, .loc 6 0), (2, iS sign), (3, .fn (.func 171) [] [.loc 3 0, .loc 0 0])], fun x => ⟨[.cells 106 [sbS s a1 c1], .cells 31 (mdC m a2 c2), .cells 47 (tmQ t a3 c3), .cells 146 (setL x.2), .cells 146 (setL none7), .cells 31 (mdC m a2 c2), .cells 47 (tmQ t a3 c3)], [], [sbR s a1 c1, mdR m a2 c2, tmR t a3 c3]⟩, fun x => x.1 ≤ t.args.length ∧ learnF k s sign (m.signs.drop x.1) (t.args.drop x.1) x.2 = some r, fun x => t.args.length - x.1, (0, p), ⟨Nat.zero_le _, hr⟩, ⟨rfl, rfl, rfl, rfl, rfl, rfl, rfl, trivial⟩, StLe.refl _, fun _ _ => ⟨rfl, rfl⟩, ?_⟩
 rintro ⟨j, q⟩ ⟨hj, hinv⟩
 simp only at hj hinv
 refine AtIf.mk (fun h1 => ?_) (fun h1 => ?_)
 ·have hj' : j < t.args.length := by
   have : (j : Int) < ((Tm.encL t.args).length : Int) := of_decide_eq_true h1
   omega
  obtain ⟨x, hx⟩ : ∃ x, t.args[j]? = some x := ⟨_, List.getElem?_eq_getElem hj'⟩
  obtain ⟨g, hg⟩ : ∃ g, m.signs[j]? = some g := ⟨_, List.getElem?_eq_getElem (by omega)⟩
  rw [qdc hx, qdc hg, learnF] at hinv
  have hwj : IntKind.i64.wrap ((j : Int) + 1) = ((j + 1 : Nat) : Int) := by rw [wrap_i64 (by omega) (by omega)]; rfl
  refine qd ttOK 2 rfl rfl rfl rfl (by omega) (Tm.encL_get (i := ((j : Int)).toNat) (by rw [Int.toNat_natCast]; exact hx)) ?_
  intro b1 d1 _ _
  refine qd ttOK 1 rfl rfl rfl rfl (by omega) (qav (D.int .i64) (i := ((j : Int)).toNat) (by rw [Int.toNat_natCast]; exact hg)) ?_
  refine AtIf.mk (fun h2 => ?_) (fun h2 => ?_)
  ·have h2' : decide (g = sign) = true := by
    have : (g == sign) = true := h2
    simpa using this
   rw [h2', cond_true] at hinv
   obtain ⟨l, hl1, hinv⟩ := bind_some hinv
   cases hlo : levOK l with
   | false => rw [hlo] at hinv; cases hinv
   | true =>
    rw [hlo, cond_true] at hinv
    unfold levOK at hlo
    rw [Bool.and_eq_true] at hlo
    have hlo1 := of_decide_eq_true hlo.1
    have hlo2 : ∀ n ∈ l, 0 ≤ n ∧ n < 700 := fun n hn => of_decide_eq_true (List.all_eq_true.1 hlo.2 n hn)
    refine qb (N := 11) (m := 10) (dt := drawsOf [(1, .node [0, 1, 2] [(3, .node [] [(4, .node [] [(5, .leaf [])])])], [4, 5], [])]) [] ttOK Tryz.func171 rfl Tryz.call171 Tryz.ntmps171 rfl rfl rfl mixed (by kernel_rfl) ?_
    refine (qd3 k s x a1 c1 b1 d1 l hl1).atR [0, 3] rfl rfl rfl ?_
    rintro _ _ ⟨b2, d2, rfl, rfl⟩
    refine ⟨fun _ _ h => h, ?_⟩
    refine (plus_spec q l b2 d2 hlo1 hlo2).atR [4] rfl rfl rfl ?_
    rintro _ _ ⟨rfl, rfl⟩
    refine AtRet.gen _ (StLe.refl _) rfl rfl ?_
    exact ⟨(j + 1, plusF q l), ⟨by omega, hinv⟩, by simp only; omega, ⟨congrArg (fun n => some (iS n)) hwj, rfl, rfl, rfl, rfl, rfl, rfl, trivial⟩, StLe.gen 7 [] [.old 0, .old 1, .old 2] rfl rfl rfl rfl rfl rfl rfl⟩
  ·have h2' : decide (g = sign) = false := by
    have : (g == sign) = false := h2
    simpa using this
   rw [h2', cond_false] at hinv
   exact ⟨(j + 1, q), ⟨by omega, hinv⟩, by simp only; omega, ⟨congrArg (fun n => some (iS n)) hwj, rfl, rfl, rfl, rfl, rfl, rfl, trivial⟩, StLe.gen 7 [] [.old 0, .old 1, .old 2] rfl rfl rfl rfl rfl rfl rfl⟩
 ·have hj' : j = t.args.length := by
   have : ¬ (j : Int) < ((Tm.encL t.args).length : Int) := of_decide_eq_false h1
   omega
  subst hj'
  rw [List.drop_length, show m.signs.drop t.args.length = [] by rw [← hl, List.drop_length]] at hinv
  have hq : q = r := by simpa [learnF] using hinv
  subst hq
  refine AtRet.gen _ (StLe.refl _) rfl rfl ?_
  exact AtRet.pure [] rfl (by simp) ⟨rfl, rfl⟩
end
end Go.Proofs.YtogicnodmgdnbaaGreat

namespace Go.Tr
section
open Go
theorem RepA.setOne {J : Nat → Prop} {w : World} {f f' : D} {u : Value} {post : List D} (hf : (D.one f).isSome = true) (hu : D.one f' = some u) : ∀ {pre : List D} {cs : List Value}, pre.all (fun p => (D.one p).isSome) = true → RepA J w (pre ++ f :: post) cs → pre.length < cs.length ∧ RepA J w (pre ++ f' :: post) (cs.set pre.length u)
 | [], cs, _, h => by
  simp only [List.nil_append, RepA] at h ⊢
  obtain ⟨x, y, rfl, h1, h2⟩ := h
  obtain ⟨v, hv⟩ := Option.isSome_iff_exists.1 hf
  rw [qgb hv] at h1
  subst h1
  refine ⟨by simp, [u], y, rfl, (qgb hu _).2 rfl, h2⟩
 | p :: pre, cs, hp, h => by
  simp only [List.all_cons, Bool.and_eq_true] at hp
  simp only [List.cons_append, RepA] at h ⊢
  obtain ⟨x, y, rfl, h1, h2⟩ := h
  obtain ⟨v, hv⟩ := Option.isSome_iff_exists.1 hp.1
  have h1' := (qgb hv _).1 h1
  obtain ⟨i1, i2⟩ := RepA.setOne hf hu hp.2 h2
  subst h1'
  exact ⟨by simp at i1 ⊢; omega, [v], y.set pre.length u, by simp, h1, i2⟩
theorem qci {P : Program} {tt : Tab} (hT : TTOK P tt) {t e e' : TypeId} {k : Nat} {x ix : SV} {S : St} {K : SV → St → Prop} {a : Option Addr} {n c : Nat} {i : Int} {kk : IntKind} {ds : List D} {d : D} (j : Nat) (hx : x = .v (.slice a n c)) (hi : ix = .v (.int kk i)) (ht : tt t = some (.slice e k))
  (hacc : nth S.accs j = some ⟨.slice a n c, k, e', ds⟩) (h0 : 0 ≤ i) (hd : ds[i.toNat]? = some d) (h : ∀ b, a = some ⟨b, 0, none⟩ → K (.v (.pointer (some ⟨b, i.toNat * k, none⟩))) S) : AtPure P (fun ℓ => Instr.indexAt t (x.den ℓ) (ix.den ℓ)) S K := by
 have hlt : i.toNat < ds.length := (List.getElem?_eq_some_iff.1 hd).1
 constructor
 intro J ℓ w hG hJ
 have ha : S.accs[j]? = some ⟨.slice a n c, k, e', ds⟩ := by rw [← qz]; exact hacc
 rcases hG.accs _ (List.mem_of_getElem? ha) with ⟨_, hd⟩ | ⟨b, cap, cc, hv, _, _, _, _⟩
 ·simp only at hd; subst hd; simp at hlt
 simp only [Value.slice.injEq] at hv
 obtain ⟨rfl, rfl, rfl⟩ := hv
 exact (qg5 hT hx hi ht h0 (by omega) (h b rfl)).sem J ℓ w hG hJ
end

section
open Go
theorem qib {P : Program} {tt : Tab} (hT : TTOK P tt) {t e : TypeId} {k : Nat} {x : SV} {sh mx : Option SV} {S : St} {K : SV → St → Prop} {a : Option Addr} {n c : Nat} {q q' : IntKind} {ds : List D} (j : Nat) (hx : x = .v (.slice a n c)) (ht : tt t = some (.slice e k))
  (hr : nth S.reps j = some (.slice a n c, .sl k ds)) (hhi : sh = some (.v (.int q n))) (hmx : mx = some (.v (.int q' n)))
  (h : ∀ a', addReps S [(.slice a' n n, .sl k ds)] (fun S' => K (.v (.slice a' n n)) S')) : AtPure P (fun ℓ => Instr.sliceAt t (x.den ℓ) (denO ℓ none) (denO ℓ sh) (denO ℓ mx)) S K := by
 subst hx hhi hmx
 constructor
 intro J ℓ w hG hJ
 have hrep := hG.reps _ (List.mem_of_getElem? (by rw [← qz]; exact hr))
 have hrep0 := hrep
 simp only [Rep, RepC] at hrep
 obtain ⟨a', cap, heq, hle, hb0⟩ := hrep
 simp only [List.cons.injEq, Value.slice.injEq, and_true] at heq
 obtain ⟨rfl, rfl, rfl⟩ := heq
 have hpart : Rep (Jx J (mutS ℓ S)) w (.slice (if ds.length = 0 then a else a.map (·.add (0 * k))) ds.length ds.length) (.sl k ds) := by
  simp only [Rep, RepC]
  refine ⟨_, _, rfl, ⟨Nat.le_refl _, hle.2⟩, ?_⟩
  rcases hb0 with h3 | ⟨b, off, cc, T, fz, rfl, hj, hbb, he⟩
  ·exact .inl h3
  ·by_cases hz : ds.length = 0
   ·exact .inl (List.length_eq_zero_iff.1 hz)
   ·refine .inr ⟨b, off, cc, T, fz, ?_, hj, hbb, he⟩
    rw [if_neg hz]
    simp [qbi]
 have hk := h (if ds.length = 0 then a else a.map (·.add (0 * k)))
 rw [qbc] at hk
 have hG' := hG.reps_add [(_, _)] (by intro p hp; simp only [List.mem_singleton] at hp; subst hp; exact hpart)
 refine ⟨_, ℓ, _, ?_, rfl, List.prefix_refl _, hG', fun b hb => hb, fun i cs hi => hi, hk⟩
 intro w'
 obtain ⟨_, hu, hse⟩ := hT t _ ht
 have hb : (Instr.sliceBounds true ds.length c (denO ℓ none) (denO ℓ (some (.v (.int q ds.length)))) (denO ℓ (some (.v (.int q' ds.length))))).run P w' = .ok (0, ds.length, ds.length) w' := by
  simp [Instr.sliceBounds, Instr.sliceBound, asIntOf, denO, SV.den, hle.1]
 simp only [Instr.sliceAt, SV.den, Sem.run_bind, qk hu, Result.andThen_ok]
 simp only [Instr.slice, Sem.run_bind, qk hu, Result.andThen_ok, denO]
 have hb' := hb
 simp only [denO] at hb'
 rw [hb']
 simp only [Result.andThen_ok, hse, Sem.run_pure]
 simp
theorem qjr {P : Program} {tt : Tab} (hT : TTOK P tt) {t e ty : TypeId} {k : Nat} {x y : SV} {S : St} {K : SV → St → Prop} {a0 a : Option Addr} {n m c : Nat} {ds es : List D} (bytes j i : Nat) (ht : tt t = some (.slice e k)) (hel : elemB P e k bytes = true)
  (hx : x = .v (.slice a0 n n)) (hr0 : nth S.reps j = some (.slice a0 n n, .sl k ds)) (hy : y = .v (.slice a m c)) (hr : nth S.reps i = some (.slice a m c, .sl k es)) (hes : es ≠ []) (hlim : (ds.length + es.length) * bytes ≤ 140737488355328) (hlen : ds.length + es.length ≤ 1152921504606846976)
  (h : ∀ a' c', addReps S [(.slice a' (ds.length + es.length) c', .sl k (ds ++ es))] (fun S' => K (.v (.slice a' (ds.length + es.length) c')) S')) : AtSem P (fun ℓ => Builtin.append_ #[t, t] ty (qc ℓ [x, y]).toArray) S K := by
 subst hx hy
 constructor
 intro J ℓ w hG hJ
 obtain ⟨_, hu, hse⟩ := hT t _ ht
 obtain ⟨ti, z, hi, hik, hby, hz, hzk⟩ := qgz hel
 have hrep0 := hG.reps _ (List.mem_of_getElem? (by rw [← qz]; exact hr0))
 have hrep := hG.reps _ (List.mem_of_getElem? (by rw [← qz]; exact hr))
 simp only [Rep, RepC] at hrep hrep0
 obtain ⟨a', cap, heq, hle, hb⟩ := hrep
 simp only [List.cons.injEq, Value.slice.injEq, and_true] at heq
 obtain ⟨rfl, rfl, rfl⟩ := heq
 obtain ⟨a0', cap0, heq0, hle0, hb0⟩ := hrep0
 simp only [List.cons.injEq, Value.slice.injEq, and_true] at heq0
 obtain ⟨rfl, rfl, _⟩ := heq0
 have hut : P.underlying t = some (.slice e) := hu
 obtain ⟨bb, off, bc, bT, fz, rfl, hbj, hbb, hbe⟩ := hb.resolve_left hes
 have hpos : 0 < es.length := List.length_pos_iff.2 hes
 let news := (bc.toList.drop off).take (es.length * k)
 have hnl : news.length = es.length * k := by
  have := hbe.len
  simp only [news, List.length_take]; omega
 have hnews : ∀ q u, news[q]? = some u → w.cell? ((⟨bb, off, none⟩ : Addr).add q) = some u := by
  intro q u hq
  simp only [news, List.getElem?_take, List.getElem?_drop] at hq
  split at hq
  ·rw [qbi]
   simp only [World.cell?, hbb]
   simpa using hq
  ·cases hq
 have hrn : RepE (Jx J (mutS ℓ S)) w k es news := by
  refine RepE.cut hbe (Nat.le_of_eq hnl.symm) ?_
  simp only [news, List.take_take, Nat.min_self]
 have fin : ∀ (cells : Array Value) (cap : Nat), (Builtin.append_ #[t, t] ty #[.slice a0 ds.length ds.length, .slice (some ⟨bb, off, none⟩) es.length c]).run P w = .ok (.slice (some ⟨w.heap.size, 0, none⟩) (ds.length + es.length) cap) (w.drew.alloc (.cells cells e (0, 0))) → ds.length + es.length ≤ cap → RepE (Jx J (mutS ℓ S)) w k (ds ++ es) cells.toList →
   ∃ r ℓ' S' w', (Builtin.append_ #[t, t] ty (qc ℓ [.v (.slice a0 ds.length ds.length), .v (.slice (some ⟨bb, off, none⟩) es.length c)]).toArray).run P w = .ok (r.den ℓ') w' ∧ r.wf S'.own.length = true ∧ ℓ <+: ℓ' ∧ Ext (mutS ℓ S) w w' ∧ Good J ℓ' S' w' ∧ (∀ b ∈ mutS ℓ' S', b ∈ mutS ℓ S ∨ w.heap.size ≤ b) ∧ K r S' := by
  intro cells cap hrun hcap hre
  have hold : ∀ x, x < w.heap.size → (w.drew.alloc (.cells cells e (0, 0))).heap[x]? = w.heap[x]? := fun x hx => by
   show (w.drew.heap.push _)[x]? = _
   rw [Array.getElem?_push, if_neg (by show ¬ x = w.heap.size; omega)]; rfl
  have hG1 := hG.beside (w' := w.drew.alloc (.cells cells e (0, 0))) (by simp) hold
  have hk := h (some ⟨w.heap.size, 0, none⟩) cap
  rw [qbc] at hk
  refine ⟨.v (.slice (some ⟨w.heap.size, 0, none⟩) (ds.length + es.length) cap), ℓ, ⟨S.own, S.accs, S.reps ++ [(.slice (some ⟨w.heap.size, 0, none⟩) (ds.length + es.length) cap, .sl k (ds ++ es))]⟩, w.drew.alloc (.cells cells e (0, 0)), hrun, rfl, List.prefix_refl _, ⟨rfl, rfl, by simp, fun b hb _ => hold b hb⟩, hG1.reps_add [(_, _)] ?_, fun b hb => .inl hb, hk⟩
  intro p hp
  simp only [List.mem_singleton] at hp
  subst hp
  simp only [Rep, RepC]
  refine ⟨_, _, by rw [List.length_append], ⟨by rw [List.length_append]; exact hcap, by rw [List.length_append]; exact hlen⟩, .inr ⟨w.heap.size, 0, cells, e, (0, 0), rfl, ⟨hJ _ (Nat.le_refl _), fun hm => by have := hG.lt _ hm; omega⟩, World.alloc_heap_new w.drew _, ?_⟩⟩
  rw [List.drop_zero]
  exact RepE.map (fun b hlt hj => ⟨hj, hold b hlt⟩) k _ _ hre
 by_cases hn : a0 = none
 ·subst hn
  have hd : ds = [] := by
   rcases hb0 with h3 | ⟨b, off', cc, T, fz', e1, _⟩
   ·exact h3
   ·cases e1
  subst hd
  simp only [List.length_nil, Nat.zero_add] at hlim hlen fin ⊢
  have hrun := run_append_nil (P := P) w t ty e ti z hut hi hz ⟨bb, off, none⟩ es.length c news (by rw [hik]; exact hnl) hnews hpos (by omega) (by rw [hby]; omega)
  have hge := grownCap_ge w es.length 0 e
  refine fin _ _ hrun hge ?_
  simp only [List.nil_append, Array.toList_append]
  exact RepE.cut hrn (by simp [hnl]) (by rw [List.take_append_of_le_length (by simp [hnl])])
 ·obtain ⟨⟨b, off0, pth⟩, rfl⟩ := Option.ne_none_iff_exists'.1 hn
  let olds : List Value := match w.heap[b]? with
   | some (.cells cc _ _) => (cc.toList.drop off0).take (ds.length * k)
   | _ => []
  have hol : olds.length = ds.length * k ∧ RepE (Jx J (mutS ℓ S)) w k ds olds ∧ (ds ≠ [] → pth = none) ∧ ∀ q u, olds[q]? = some u → w.cell? ((⟨b, off0, pth⟩ : Addr).add q) = some u := by
   by_cases hd : ds = []
   ·subst hd
    have : olds = [] := by
     simp only [olds]
     split
     ·simp
     ·rfl
    rw [this]
    exact ⟨by simp, by simp [RepE], fun h => absurd rfl h, fun q u hq => by simp at hq⟩
   ·obtain ⟨b', off', cc, T, fz', e1, hj, hbb', he⟩ := hb0.resolve_left hd
    simp only [Option.some.injEq, Addr.mk.injEq] at e1
    obtain ⟨rfl, rfl, rfl⟩ := e1
    have ho : olds = (cc.toList.drop off0).take (ds.length * k) := by simp only [olds, hbb']
    have hl : olds.length = ds.length * k := by
     have := he.len
     rw [ho, List.length_take]; omega
    refine ⟨hl, ?_, fun _ => rfl, ?_⟩
    ·refine RepE.cut he (Nat.le_of_eq hl.symm) ?_
     rw [ho, List.take_take, Nat.min_self]
    ·intro q u hq
     rw [ho] at hq
     simp only [List.getElem?_take, List.getElem?_drop] at hq
     split at hq
     ·rw [qbi]
      simp only [World.cell?, hbb']
      simpa using hq
     ·cases hq
  obtain ⟨hlo, hro, hpt, holds⟩ := hol
  have hrun := run_append_grow (P := P) w t ty e ti z hut hi hz ⟨b, off0, pth⟩ ds.length ds.length olds (by rw [hik]; exact hlo) holds ⟨bb, off, none⟩ es.length c news (by rw [hik]; exact hnl) hnews (by omega) (by omega) (growslice_fits (by omega) (by rw [hby]; exact hlim))
  have hge := grownCap_ge w (ds.length + es.length) ds.length e
  refine fin _ _ hrun hge ?_
  simp only [Array.toList_append]
  have h2 := RepE.append hro hlo hrn
  exact RepE.cut h2 (by simp only [List.length_append, hlo, hnl, Nat.add_mul]; omega) (by rw [List.take_append_of_le_length]; simp only [List.length_append, hlo, hnl, Nat.add_mul]; omega)
theorem qf1 {J : Nat → Prop} {w : World} {k : Nat} {d : D} {xs : List Value} (hx : xs.length = k) (hr : RepC J w d xs) : ∀ {ds : List D} {cs : List Value} {i : Nat}, RepE J w k ds cs → i < ds.length → RepE J w k (ds.set i d) (cs.take (i * k) ++ xs ++ cs.drop (i * k + k))
 | [], cs, i, _, h => by simp at h
 | d0 :: ds, cs, 0, h, _ => by
  simp only [RepE] at h
  simp only [List.set_cons_zero, Nat.zero_mul, List.take_zero, List.nil_append, Nat.zero_add, RepE]
  refine ⟨by simp [hx], ?_, ?_⟩
  ·rw [List.take_append_of_le_length (by omega), List.take_of_length_le (by omega)]; exact hr
  ·rw [List.drop_append_of_le_length (by omega), List.drop_of_length_le (by omega), List.nil_append]; exact h.2.2
 | d0 :: ds, cs, i + 1, h, hi => by
  simp only [RepE] at h
  have ih := qf1 hx hr h.2.2 (i := i) (by simpa using hi)
  simp only [List.set_cons_succ, RepE]
  have e : (i + 1) * k = k + i * k := by rw [Nat.add_mul]; omega
  have hkl : k ≤ (cs.take ((i + 1) * k)).length := by rw [List.length_take, e]; have := h.1; omega
  refine ⟨by simp only [List.length_append]; omega, ?_, ?_⟩
  ·rw [List.append_assoc, List.take_append_of_le_length hkl, List.take_take, Nat.min_eq_left (by omega)]; exact h.2.1
  ·rw [List.append_assoc, List.drop_append_of_le_length hkl, List.drop_take, ← List.append_assoc]
   rw [List.drop_drop] at ih
   rw [show (i + 1) * k - k = i * k by omega, show (i + 1) * k + k = k + (i * k + k) by omega]
   exact ih
theorem qba {P : Program} {tt : Tab} (hT : TTOK P tt) {t e : TypeId} {x s : SV} {S : St} {K : SV → St → Prop} {b n c i k o : Nat} {d : D} {cs : List SV} {ds ds' : List D} {offs szs : List Nat} {zs : List Value} (j : Nat) (hacc : nth S.accs j = some ⟨.slice (some ⟨b, 0, none⟩) n c, k, e, ds⟩) (hi : i < ds.length)
  (ht : tt t = some (.struct offs szs zs)) (hk : zs.length = k) (hx : x = .v (.pointer (some ⟨b, o, none⟩))) (ho : o = i * k) (hs : s = .agg cs) (hcl : cs.length = k) (hrs : RepS S.reps d cs) (hds : ds' = ds.set i d) (h : forceL (setNth S.accs j ⟨.slice (some ⟨b, 0, none⟩) n c, k, e, ds'⟩) (fun accs => K undefS ⟨S.own, accs, S.reps⟩)) :
  AtSem P (fun ℓ => do Instr.storeAt t (x.den ℓ) (s.den ℓ); pure undef) S K := by
 subst hx hs hds ho hk
 rw [qq] at h
 constructor
 intro J ℓ w hG hJ
 have ha : S.accs[j]? = some ⟨.slice (some ⟨b, 0, none⟩) n c, zs.length, e, ds⟩ := by rw [← qz]; exact hacc
 rcases hG.accs _ (List.mem_of_getElem? ha) with ⟨hv, _⟩ | ⟨b', cap, cc, hv, hb, hcs, hle, hre⟩
 ·cases hv
 simp only [Value.slice.injEq, Option.some.injEq, Addr.mk.injEq, and_true] at hv
 obtain ⟨⟨rfl, _⟩, rfl, rfl⟩ := hv
 simp only at hb hcs hle hre
 obtain ⟨hagg, hsz0, _, _⟩ := hT t _ ht
 have hsz := hsz0 w
 have hrep : RepC (Jx J (mutS ℓ S)) w d (qc ℓ cs) := RepS.sound hG.reps d cs hrs
 have hlx : (qc ℓ cs).length = zs.length := by rw [qp, hcl]
 have hone := RepC.one d _ hrep
 have hfit : i * zs.length + zs.length ≤ cc.size := by
  have := hre.len
  simp only [Array.length_toList] at this
  have h2 : (i + 1) * zs.length ≤ ds.length * zs.length := Nat.mul_le_mul_right _ hi
  rw [Nat.add_mul] at h2
  omega
 have hst := run_storeCells_at P b (i * zs.length) e (qc ℓ cs) 0 cc w hb (by rw [hlx]; simp; omega) hone
 simp only [Nat.add_zero, hlx] at hst
 have hrow := setRow_heap w b cc (cc.toList.take (i * zs.length) ++ qc ℓ cs ++ cc.toList.drop (i * zs.length + zs.length)).toArray e (0, 0) hb
 have hgood := hG.regrow (j := j) (a' := ⟨.slice (some ⟨b, 0, none⟩) ds.length c, zs.length, e, ds.set i d⟩) (w' := w.setRow b (cc.toList.take (i * zs.length) ++ qc ℓ cs ++ cc.toList.drop (i * zs.length + zs.length)).toArray) hJ ha (by simp [World.setRow])
  (fun x hx hm => setRow_other w b x _ (fun e => hm (by simp [accBlk, e]))) (by simp [accBlk]) (fun x hx => ?_) (fun J' hj => ?_)
 ·refine ⟨undefS, ℓ, _, w.setRow b (cc.toList.take (i * zs.length) ++ qc ℓ cs ++ cc.toList.drop (i * zs.length + zs.length)).toArray, ?_, rfl, List.prefix_refl _, ⟨rfl, rfl, by simp [World.setRow], fun x hx hm => setRow_other w b x _ (fun e => hm ?_)⟩, hgood.1, hgood.2, h⟩
  ·have hce : (Value.cells (.agg (qc ℓ cs).toArray)).size = zs.length := by simp [Value.cells, hlx]
   have hcl2 : (Value.cells (.agg (qc ℓ cs).toArray)).toList = qc ℓ cs := by simp [Value.cells]
   simp only [SV.den, Instr.storeAt, Instr.sureAddr, pure_bind, storeVar, Sem.run_bind, hsz, Result.andThen_ok, hce, ne_eq, not_true_eq_false, if_false, hcl2, hst, Sem.run_pure, undefS, qc, undef]
  ·simp only [mutS]
   exact List.mem_append.2 (.inr (List.mem_flatMap.2 ⟨_, List.mem_of_getElem? ha, by simp [accBlk, e]⟩))
 ·simp [accBlk] at hx
  subst hx
  exact ⟨.inl (by simp [accBlk]), by simpa [World.setRow] using qad hb⟩
 ·refine .inr ⟨b, c, _, by simp, hrow, ?_, by simpa using hle, ?_⟩
  ·simp only [List.size_toArray, List.length_append, List.length_take, List.length_drop, Array.length_toList, hlx]
   omega
  ·simp only
   exact qf1 hlx (RepC.map hj d _ hrep) (RepE.map hj _ _ _ hre) hi
end
end Go.Tr

namespace Go.Proofs.YtogicnodmgdnbaaGreat
section
open Go.Tr Go Go.Proofs.Tryz
set_option maxRecDepth 100000
noncomputable abbrev mpB (g : List (Int × GE Md)) : Blk := .obj (mapO .i64 (encM Md.gv g))
abbrev mpR (g : List (Int × GE Md)) : Value × D := (agV 1 Md.gp g, agD 1 Md.gp g)
abbrev chB (p : Int) : Blk := .cells 143 [.mp 0, iS p]
abbrev wrS (p i : Int) : SV := .ifc 140 (.agg [iS p, iS i])
def outD (p : Int) : Option Int → Out
 | none => .ret (.tup [])
 | some i => .pan (wrS p i)
def demandF (s : List Bool) (sign : Int) (q : Nat → Bool) : List Int → List Tm → Nat → Option Int
 | g :: gs, x :: xs, i => cond (decide (g = sign)) (cond (knownF s x q) (demandF s sign q gs xs (i + 1)) (some (i : Int))) (demandF s sign q gs xs (i + 1))
 | _, _, _ => none
set_option maxHeartbeats 8000000 in
theorem qfa (g : List (Int × GE Md)) (pr : Int) (s : List Bool) (m : Md) (t : Tm) (sign : Int) (q : Nat → Bool) (a1 a2 a3 : OA) (c1 c2 c3 : Nat) (hl : m.signs.length = t.args.length) (hs : s.length ≤ 700) (hf : ∀ x ∈ t.args, inScope s x) :
  Meets Tryz.prog (fnS 144) [.loc 1 0, sbS s a1 c1, mdS m a2 c2, tmS t a3 c3, iS sign, setS q] ⟨[mpB g, chB pr], [], [sbR s a1 c1, mdR m a2 c2, tmR t a3 c3]⟩ (fun o S' => o = outD pr (demandF s sign q m.signs t.args 0) ∧ S' = ⟨[mpB g, chB pr], [], []⟩) := by
 refine qv fun hok => ?_
 have hB : (Tm.encL t.args).length ≤ 1152921504606846976 := (hok (tmR t a3 c3) (by simp)).1
 have hTL := Tm.encL_length t.args
 refine qb (N := 17) (m := 2) (dt := fun _ => none) [] ttOK Tryz.func144 rfl Tryz.call144 Tryz.ntmps144 rfl rfl rfl mixed (by kernel_rfl) ?_
 refine qb (N := 30) (m := 7) (dt := fun _ => none) [] ttOK Tryz.func170 rfl Tryz.call170 Tryz.ntmps170 rfl rfl rfl mixed (by kernel_rfl) ?_
 refine AtLoop.mk ⟨Nat, fun x => [(13, iS (x : Int)), (12, iS ((Tm.encL t.args).length : Int)), (11, .v (.slice a3 (Tm.encL t.args).length c3)), (4, .loc 7 0), (5, .loc 8 0), (2, iS sign), (3, .fn (.func 175) [] [.loc 3 0, .loc 6 0, .loc 2 0])], fun _ => ⟨[mpB g, chB pr, .cells 141 [.loc 1 0], .cells 106 [sbS s a1 c1], .cells 31 (mdC m a2 c2), .cells 47 (tmQ t a3 c3), .cells 146 (setL q), .cells 31 (mdC m a2 c2), .cells 47 (tmQ t a3 c3)], [], [sbR s a1 c1, mdR m a2 c2, tmR t a3 c3]⟩, fun x => x ≤ t.args.length ∧ demandF s sign q m.signs t.args 0 = demandF s sign q (m.signs.drop x) (t.args.drop x) x, fun x => t.args.length - x, 0, ⟨Nat.zero_le _, rfl⟩, ⟨rfl, rfl, rfl, rfl, rfl, rfl, rfl, trivial⟩, StLe.refl _, fun _ _ => ⟨rfl, rfl⟩, ?_⟩
 rintro j ⟨hj, hinv⟩
 refine AtIf.mk (fun h1 => ?_) (fun h1 => ?_)
 ·have hj' : j < t.args.length := by
   have : (j : Int) < ((Tm.encL t.args).length : Int) := of_decide_eq_true h1
   omega
  obtain ⟨x, hx⟩ : ∃ x, t.args[j]? = some x := ⟨_, List.getElem?_eq_getElem hj'⟩
  obtain ⟨sg, hg⟩ : ∃ g, m.signs[j]? = some g := ⟨_, List.getElem?_eq_getElem (by omega)⟩
  rw [qdc hx, qdc hg, demandF] at hinv
  have hwj : IntKind.i64.wrap ((j : Int) + 1) = ((j + 1 : Nat) : Int) := by rw [wrap_i64 (by omega) (by omega)]; rfl
  refine qd ttOK 2 rfl rfl rfl rfl (by omega) (Tm.encL_get (i := ((j : Int)).toNat) (by rw [Int.toNat_natCast]; exact hx)) ?_
  intro b1 d1 _ _
  refine qd ttOK 1 rfl rfl rfl rfl (by omega) (qav (D.int .i64) (i := ((j : Int)).toNat) (by rw [Int.toNat_natCast]; exact hg)) ?_
  refine AtIf.mk (fun h2 => ?_) (fun h2 => ?_)
  ·have h2' : decide (sg = sign) = true := by
    have : (sg == sign) = true := h2
    simpa using this
   rw [h2', cond_true] at hinv
   refine qb (N := 19) (m := 12) (dt := fun _ => none) [] ttOK Tryz.func175 rfl Tryz.call175 Tryz.ntmps175 rfl rfl rfl mixed (by kernel_rfl) ?_
   refine (known_spec s x q a1 b1 c1 d1 hs (hf x (List.mem_of_getElem? hx))).atR [0, 3] rfl rfl rfl ?_
   rintro _ _ ⟨rfl, rfl⟩
   refine AtIf.mk (fun h3 => ?_) (fun h3 => ?_)
   ·have h3' : knownF s x q = false := by
     have : (!knownF s x q) = true := h3
     simpa using this
    rw [h3', cond_false] at hinv
    refine at_iface rfl rfl ?_
    refine AtRet.gen _ (StLe.refl _) rfl rfl ?_
    refine AtRet.gen _ (StLe.refl _) rfl rfl ?_
    refine AtRet.gen ⟨[mpB g, chB pr], [], []⟩ (StLe.gen 2 [] [] rfl rfl rfl rfl rfl rfl rfl) rfl rfl ⟨?_, rfl⟩
    rw [hinv]
    rfl
   ·have h3' : knownF s x q = true := by
     have : (!knownF s x q) = false := h3
     simpa using this
    rw [h3', cond_true] at hinv
    refine AtRet.gen _ (StLe.refl _) rfl rfl ?_
    exact ⟨j + 1, ⟨by omega, hinv⟩, by simp only; omega, ⟨congrArg (fun n => some (iS n)) hwj, rfl, rfl, rfl, rfl, rfl, rfl, trivial⟩, StLe.gen 9 [] [.old 0, .old 1, .old 2] rfl rfl rfl rfl rfl rfl rfl⟩
  ·have h2' : decide (sg = sign) = false := by
    have : (sg == sign) = false := h2
    simpa using this
   rw [h2', cond_false] at hinv
   exact ⟨j + 1, ⟨by omega, hinv⟩, by simp only; omega, ⟨congrArg (fun n => some (iS n)) hwj, rfl, rfl, rfl, rfl, rfl, rfl, trivial⟩, StLe.gen 9 [] [.old 0, .old 1, .old 2] rfl rfl rfl rfl rfl rfl rfl⟩
 ·have hj' : j = t.args.length := by
   have : ¬ (j : Int) < ((Tm.encL t.args).length : Int) := of_decide_eq_false h1
   omega
  subst hj'
  rw [List.drop_length, show m.signs.drop t.args.length = [] by rw [← hl, List.drop_length], show demandF s sign q [] [] t.args.length = none by simp [demandF]] at hinv
  refine AtRet.gen _ (StLe.refl _) rfl rfl ?_
  refine AtRet.gen ⟨[mpB g, chB pr], [], []⟩ (StLe.gen 2 [] [] rfl rfl rfl rfl rfl rfl rfl) rfl rfl ⟨?_, rfl⟩
  rw [hinv]
  rfl
end

section
open Go.Tr Go Go.Proofs.Tryz
set_option maxRecDepth 100000
instance (s : List Bool) (t : Tm) : Decidable (inScope s t) := by unfold inScope; infer_instance
def argsIn (s : List Bool) (l : List Tm) : Bool := decide (s.length ≤ 700 ∧ ∀ x ∈ l, inScope s x)
def peelF (K : Nat) : Nat → Tm → List Bool → List Tm → List (List Bool) → List Int → Option (Tm × List Bool × List Tm × List (List Bool) × List Int)
 | 0, _, _, _, _, _ => none
 | n + 1, t, s, ds, ss, ps => cond (t.op == 2) ((idx t.args 1).bind (fun b => (term_Occurs K b 0).bind (fun o => (idx t.args 0).bind (fun d =>
   cond (decide (ds.length ≤ 1000 ∧ s.length ≤ 1000 ∧ ss.length ≤ 1000 ∧ ps.length ≤ 1000)) (peelF K n b (s ++ [o.1]) (ds ++ [d]) (ss ++ [s]) (cond o.1 ps (ps ++ [(ds.length : Int)]))) none))))
  (some (t, s, ds, ss, ps))
mutual
def assumeF : Nat → List (Int × Md) → List Bool → Tm → (Nat → Bool) → Option (Option (Int × Int))
 | 0, _, _, _, _ => none
 | n + 1, g, s, t, k => (peelF n n t s [] [] []).bind (fun x => (mode_of n x.1 g).bind (fun m => cond m.2
   ((learnF n x.2.1 1 m.1.signs x.1.args k).bind (fun k1 => (roundsF n g x.2.2.1 x.2.2.2.1 x.2.2.2.2 x.2.2.2.2.length k1).bind (fun
    | .error e => some (some e)
    | .ok k2 => cond (argsIn x.2.1 x.1.args) (some ((demandF x.2.1 2 k2 m.1.signs x.1.args 0).map (fun i => (-1, i)))) none)))
   (some none)))
def roundsF : Nat → List (Int × Md) → List Tm → List (List Bool) → List Int → Nat → (Nat → Bool) → Option (Except (Int × Int) (Nat → Bool))
 | 0, _, _, _, _, _, _ => none
 | _ + 1, _, _, _, _, 0, k => some (.ok k)
 | n + 1, g, ds, ss, ps, j + 1, k => (ps[j]?).bind (fun p => (idx ss p).bind (fun s => (idx ds p).bind (fun d => cond (decide (s.length < 700)) ((useF n g s d (firstF k s.length)).bind (fun
   | .error a => some (.error (p, a))
   | .ok q => roundsF n g ds ss ps j (withF k q))) none)))
def useF : Nat → List (Int × Md) → List Bool → Tm → (Nat → Bool) → Option (Except Int (Nat → Bool))
 | 0, _, _, _, _ => none
 | n + 1, g, s, t, k => cond (t.op == 2)
   ((idx t.args 0).bind (fun d => (assumeF n g s d k).bind (fun
    | some e => some (.error e.2)
    | none => (idx t.args 1).bind (fun b => cond (decide (s.length ≤ 1000)) (useF n g (s ++ [false]) b k) none))))
   ((mode_of n t g).bind (fun m => cond m.2
    (cond (argsIn s t.args) (match demandF s 1 k m.1.signs t.args 0 with
     | some i => some (.error i)
     | none => (learnF n s 2 m.1.signs t.args k).bind (fun q => some (.ok q))) none)
    (some (.error (-1)))))
 end
def outU (pr : Int) : Except Int (Nat → Bool) → Out
 | .ok q => .ret (setS q)
 | .error a => .pan (wrS pr a)
theorem qe6 {n : Nat} {t : Tm} {g : List (Int × Md)} {m : Md × Bool} (h : mode_of n t g = some m) (hm : m.2 = true) : m.1.signs.length = t.args.length := by
 rcases n with _ | n
 ·exact qe h
 ·rw [mode_of.eq_2] at h
  have h := Option.some.inj h
  subst h
  simp only [Bool.and_eq_true, beq_iff_eq, List.length_map, Tm.encL_length] at hm
  have h2 := hm.2
  show ((mget g t.n).getD (Md.mk 0 ([]))).signs.length = t.args.length
  omega
def scD (s : List Bool) : D := .sl 1 (List.map D.bool s)
def UseC (n : Nat) : Prop := ∀ (g : List (Int × GE Md)) (pr : Int) (s : List Bool) (t : Tm) (k : Nat → Bool) (a1 a2 : OA) (c1 c2 : Nat) (r : Except Int (Nat → Bool)), useF n (er g) s t k = some r →
 Meets Tryz.prog (fnS 142) [.loc 1 0, sbS s a1 c1, tmS t a2 c2, setS k] ⟨[mpB g, chB pr], [], [mpR g, sbR s a1 c1, tmR t a2 c2]⟩ (fun o S' => o = outU pr r ∧ S' = ⟨[mpB g, chB pr], [], []⟩)
abbrev atU : SV := .fn (.func 174) [] []
abbrev atC : SV := .fn (.func 99) [] [.loc 2 0]
def AsmC (n : Nat) : Prop := ∀ (g : List (Int × GE Md)) (pr : Int) (s : List Bool) (t : Tm) (k : Nat → Bool) (a1 a2 : OA) (c1 c2 : Nat) (r : Option (Int × Int)), assumeF n (er g) s t k = some r →
 Meets Tryz.prog (fnS 98) [.loc 1 0, sbS s a1 c1, tmS t a2 c2, setS k, atU] ⟨[mpB g, chB pr], [], [mpR g, sbR s a1 c1, tmR t a2 c2]⟩ (fun o S' => o = outD pr (r.map (·.2)) ∧ S' = ⟨[mpB g, chB pr], [], []⟩)
def outC : Option (Int × Int) → Out
 | none => .ret (.tup [])
 | some e => .pan (wrS e.1 e.2)
def TopC (n : Nat) : Prop := ∀ (g : List (Int × GE Md)) (pr : Int) (s : List Bool) (t : Tm) (k : Nat → Bool) (a1 a2 : OA) (c1 c2 : Nat) (r : Option (Int × Int)), assumeF n (er g) s t k = some r →
 Meets Tryz.prog (fnS 98) [.loc 1 0, sbS s a1 c1, tmS t a2 c2, setS k, atC] ⟨[mpB g, chB pr, .cells 141 [.loc 1 0]], [], [mpR g, sbR s a1 c1, tmR t a2 c2]⟩ (fun o S' => o = outC r ∧ ∃ c, S' = ⟨[mpB g, chB c, .cells 141 [.loc 1 0]], [], []⟩)
end

section
open Go.Tr Go Go.Proofs.Tryz
set_option maxRecDepth 100000
structure PSt where
 n : Nat
 t : Tm
 ta : Option Addr
 tc : Nat
 s : List Bool
 sa : Option Addr
 sc : Nat
 ds : List Tm
 da : Option Addr
 dc : Nat
 ss : List (List Bool)
 ea : Option Addr
 ec : Nat
 ps : List Int
 pa : Option Addr
 pc : Nat
structure RSt where
 n : Nat
 j : Nat
 k : Nat → Bool
 c : Int
structure USt where
 n : Nat
 t : Tm
 ta : Option Addr
 tc : Nat
 s : List Bool
 sa : Option Addr
 sc : Nat
abbrev zeroT : Tm := .mk 0 0 0 []
theorem qhr (ds : List Tm) (z : Tm) : (Tm.encL (ds ++ [z]))[(Tm.encL ds).length]? = some (Tm.enc z) := by
 simp only [Tm.encL_eq, List.map_append, List.length_map, List.map_cons, List.map_nil]
 rw [List.getElem?_append_right (by rw [List.length_map]; omega)]
 simp
theorem qg0 (ds : List Tm) (z d : Tm) : Tm.encL (ds ++ [d]) = (Tm.encL (ds ++ [z])).set ds.length (Tm.enc d) := by
 simp only [Tm.encL_eq, List.map_append, List.map_cons, List.map_nil]
 rw [List.set_append_right _ _ (by rw [List.length_map]; omega), List.length_map, Nat.sub_self]
 rfl
theorem qgx {reps : List (Value × D)} {d : Tm} {a : Option Addr} {c : Nat} (h : (Value.slice a (Tm.encL d.args).length c, D.sl 4 (Tm.encL d.args)) ∈ reps) : RepS reps (Tm.enc d) (tmQ d a c) := by
 rw [Tm.enc_eq]
 exact ⟨[(.v (.int .i64 d.op))], _, rfl, rfl, ⟨[(.v (.int .i64 d.hd))], _, rfl, rfl, ⟨[(.v (.int .i64 d.n))], _, rfl, rfl, ⟨[(.v (.slice a (Tm.encL d.args).length c))], _, rfl, .inl ⟨_, rfl, h⟩, rfl⟩⟩⟩⟩
theorem not_t {b : Bool} (h : (!b) = true) : b = false := by simpa using h
theorem not_f {b : Bool} (h : (!b) = false) : b = true := by simpa using h
theorem qhn (ds : List Tm) (d : Tm) (h : ds.length ≤ 1000) : some (iS (IntKind.i64.wrap ((ds.length : Int) + 1))) = some (iS ((ds ++ [d]).length : Int)) := by
 rw [wrap_i64 (by omega) (by omega), List.length_append]; rfl
theorem qkr (ps : List Int) (h : ps.length ≤ 1152921504606846976) : some (iS (IntKind.i64.wrap (((List.map (D.int .i64) ps).length : Int) - 1))) = some (iS ((ps.length : Int) - 1)) := by
 rw [List.length_map, wrap_i64 (by omega) (by omega)]
theorem qnu (j : Nat) (h : j ≤ 1152921504606846976) : some (iS (IntKind.i64.wrap (((j + 1 : Nat) : Int) - 1 - 1))) = some (iS ((j : Int) - 1)) := by
 rw [wrap_i64 (by omega) (by omega)]
 congr 3
 omega
theorem qa5 {P : Program} {tt : Tab} (hT : TTOK P tt) {t e ty : TypeId} {k : Nat} {x y : SV} {S : St} {K : SV → St → Prop} {a0 a : Option Addr} {n m c : Nat} {ds es ds' : List D} (bytes j i : Nat) (ht : tt t = some (.slice e k)) (hel : elemB P e k bytes = true)
  (hx : x = .v (.slice a0 n n)) (hr0 : nth S.reps j = some (.slice a0 n n, .sl k ds)) (hy : y = .v (.slice a m c)) (hr : nth S.reps i = some (.slice a m c, .sl k es)) (hes : es ≠ []) (hds : ds' = ds ++ es) (hlen : decide (ds'.length ≤ 1000000) = true) (hb : bytes ≤ 100000000)
  (h : ∀ a' c', addReps S [(.slice a' ds'.length c', .sl k ds')] (fun S' => K (.v (.slice a' ds'.length c')) S')) : AtSem P (fun ℓ => Builtin.append_ #[t, t] ty (qc ℓ [x, y]).toArray) S K := by
 subst hds
 have hlen := of_decide_eq_true hlen
 rw [List.length_append] at hlen h
 refine qjr hT bytes j i ht hel hx hr0 hy hr hes ?_ (by omega) h
 exact Nat.le_trans (Nat.mul_le_mul hlen hb) (by decide)
end

section
open Go.Tr Go Go.Proofs.Tryz
set_option maxRecDepth 100000
set_option maxHeartbeats 16000000 in
theorem asm_step (n : Nat) (hU : ∀ m, m ≤ n → UseC m) : AsmC (n + 1) := by
 intro g pr s t k a1 a2 c1 c2 r hr
 rw [assumeF.eq_2] at hr
 obtain ⟨x, hx, hr⟩ := bind_some hr
 refine qb (N := 111) (m := 2) (dt := drawsOf [(8, .node [0, 1, 2, 3, 4, 5] [(6, .node [] [(7, .node [] [(8, .node [] [(9, .node [] [(10, .leaf [])]), (10, .node [] [(9, .leaf [])])]), (10, .node [] [(8, .node [] [(9, .leaf [])])])])])], [7, 8, 9, 10], []), (14, .node [0, 1, 2, 3, 4] [(5, .node [6, 7, 8] [(9, .node [] [(10, .leaf [11])])]), (9, .node [] [(5, .node [6, 7, 8] [(10, .leaf [11])])])], [5], [8]), (20, .node [0, 1, 2, 3, 4, 5, 6, 7, 8, 9, 10, 11, 12, 13, 14, 15] [(16, .node [] [(17, .node [] [(18, .node [] [(19, .leaf [])])])])], [18, 19], [])]) [8, 14] ttOK Tryz.func98 rfl Tryz.call98 Tryz.ntmps98 rfl rfl rfl mixed (by kernel_rfl) ?_
 refine AtLoop.mk ⟨PSt, fun x => [(5, .loc 2 0), (7, .loc 3 0), (8, .loc 4 0), (9, .loc 5 0), (10, .loc 6 0), (11, .loc 7 0), (12, .v (.slice x.pa (List.map (D.int .i64) x.ps).length x.pc)), (13, iS (x.ds.length : Int)), (1, sbS x.s x.sa x.sc)], fun x => ⟨[mpB g, chB pr, .cells 141 [.loc 1 0], .cells 47 (tmQ x.t x.ta x.tc), .cells 146 (setL k), .cells 147 [atU], .cells 45 [.v (.slice x.da (Tm.encL x.ds).length x.dc)], .cells 175 [.v (.slice x.ea (List.map scD x.ss).length x.ec)]], [⟨.slice x.da (Tm.encL x.ds).length x.dc, 4, 47, Tm.encL x.ds⟩, ⟨.slice x.ea (List.map scD x.ss).length x.ec, 1, 106, List.map scD x.ss⟩, ⟨.slice x.pa (List.map (D.int .i64) x.ps).length x.pc, 1, 3, List.map (D.int .i64) x.ps⟩], [mpR g, sbR x.s x.sa x.sc, tmR x.t x.ta x.tc]⟩, fun y => peelF n y.n y.t y.s y.ds y.ss y.ps = some x, fun y => y.n, ⟨n, t, a2, c2, s, a1, c1, [], none, 0, [], none, 0, [], none, 0⟩, hx, ⟨rfl, rfl, rfl, rfl, rfl, rfl, rfl, rfl, rfl, trivial⟩, StLe.gen 8 [.nil 4 47, .nil 1 106, .nil 1 3] [.old 0, .old 1, .old 2] rfl rfl rfl rfl rfl rfl rfl, fun _ _ => ⟨rfl, rfl⟩, ?_⟩
 rintro ⟨q, t', ta, tc, s', sa, sc, ds, da, dc, ss, ea, ec, ps, pa, pc⟩ hx
 simp only at hx
 rcases q with _ | q
 ·exact qe hx
 rw [peelF] at hx
 refine AtIf.mk (fun h1 => ?_) (fun h1 => ?_)
 ·replace hx := qf h1 hx
  obtain ⟨b, hb, hx⟩ := bind_some hx
  obtain ⟨hb0, hb1⟩ := qi hb
  obtain ⟨oc, hoc, hx⟩ := bind_some hx
  obtain ⟨d, hd, hx⟩ := bind_some hx
  obtain ⟨hd0, hd1⟩ := qi hd
  obtain ⟨hg, hx⟩ := qm hx
  obtain ⟨hg1, hg2, hg3, hg4⟩ := of_decide_eq_true hg
  refine qd ttOK 2 rfl rfl rfl rfl hb0 (Tm.encL_get hb1) ?_
  intro b1 d1 _ _
  refine (qcc n b 0 b1 d1 oc hoc).atR [3] rfl rfl rfl ?_
  rintro _ _ ⟨rfl, rfl⟩
  have hdl : (Tm.encL ds).length = ds.length := Tm.encL_length ds
  refine AtCut.mk ⟨Option Addr × Nat × Nat, fun _ => [(14, bS oc.1), (5, .loc 2 0), (7, .loc 3 0), (8, .loc 4 0), (9, .loc 5 0), (10, .loc 6 0), (11, .loc 7 0), (12, .v (.slice pa (List.map (D.int .i64) ps).length pc)), (13, iS (ds.length : Int)), (1, sbS s' sa sc)], fun y => ⟨[mpB g, chB pr, .cells 141 [.loc 1 0], .cells 47 (tmQ t' ta tc), .cells 146 (setL k), .cells 147 [atU], .cells 45 [.v (.slice y.1 y.2.2 y.2.1)], .cells 175 [.v (.slice ea (List.map scD ss).length ec)]], [⟨.slice y.1 y.2.2 y.2.1, 4, 47, Tm.encL (ds ++ [d])⟩, ⟨.slice ea (List.map scD ss).length ec, 1, 106, List.map scD ss⟩, ⟨.slice pa (List.map (D.int .i64) ps).length pc, 1, 3, List.map (D.int .i64) ps⟩], [mpR g, sbR s' sa sc, tmR t' ta tc]⟩, fun y => y.2.2 = (Tm.encL (ds ++ [d])).length, fun _ _ => ⟨rfl, rfl⟩, ?_, ?_⟩
  ·refine qd ttOK 2 rfl rfl rfl rfl hd0 (Tm.encL_get hd1) ?_
   intro b2 d2 _ _
   refine ql (n := 1) ttOK 48 [.agg [.int .i64 0, .int .i64 0, .int .i64 0, .sl 4 []]] (ds' := Tm.encL [zeroT]) rfl (by kernel_rfl) ⟨⟨rfl, rfl, rfl, ⟨[(.v (.int .i64 0))], _, rfl, rfl, ⟨[(.v (.int .i64 0))], _, rfl, rfl, ⟨[(.v (.int .i64 0))], _, rfl, rfl, ⟨[(.v (.slice none 0 0))], _, rfl, (.inr ⟨rfl, rfl⟩), rfl⟩⟩⟩⟩⟩, trivial⟩ rfl (by simp only [Tm.encL_eq, List.map_cons, List.map_nil, Tm.enc_eq, zeroT, Tm.op, Tm.hd, Tm.n, Tm.args]) (by decide) (by decide) ?_
   intro a3
   refine ⟨fun _ _ h => h, ?_⟩
   refine qu (ds' := Tm.encL (ds ++ [zeroT])) ttOK 48 0 5 rfl (by kernel_rfl) rfl rfl rfl rfl (by simp only [Tm.encL_eq, List.map_append]) (decide_eq_true (by rw [Tm.encL_length, List.length_append]; simp only [List.length_cons, List.length_nil]; omega)) (by decide) ?_
   intro a4 c4
   refine ⟨?_, ?_⟩
   ·refine qci (i := ((Tm.encL ds).length : Int)) (d := Tm.enc zeroT) ttOK 0 rfl rfl rfl rfl (by omega) (by rw [Int.toNat_natCast]; exact qhr ds zeroT) ?_
    rintro b3 rfl
    refine ⟨?_, ?_⟩
    ·refine qba (i := ds.length) (d := Tm.enc d) (cs := tmQ d b2 d2) (ds' := Tm.encL (ds ++ [d])) ttOK 0 rfl (by rw [Tm.encL_length, List.length_append]; simp) rfl rfl rfl (by rw [Int.toNat_natCast, hdl]) rfl rfl (qgx (qr (j := 4) rfl)) (qg0 ds zeroT d) ?_
     exact ⟨(some ⟨b3, 0, none⟩, c4, (Tm.encL (ds ++ [zeroT])).length), by simp only [Tm.encL_length, List.length_append, List.length_cons, List.length_nil], ⟨rfl, rfl, rfl, rfl, rfl, rfl, rfl, rfl, rfl, rfl, trivial⟩, StLe.gen 8 [.old 0, .old 1, .old 2] [.old 0, .old 1, .old 2] rfl rfl rfl rfl rfl rfl rfl⟩
    ·refine qba (i := ds.length) (d := Tm.enc d) (cs := tmQ d b2 d2) (ds' := Tm.encL (ds ++ [d])) ttOK 0 rfl (by rw [Tm.encL_length, List.length_append]; simp) rfl rfl rfl (by rw [Int.toNat_natCast, hdl]) rfl rfl (qgx (qr (j := 4) rfl)) (qg0 ds zeroT d) ?_
     exact ⟨(some ⟨b3, 0, none⟩, c4, (Tm.encL (ds ++ [zeroT])).length), by simp only [Tm.encL_length, List.length_append, List.length_cons, List.length_nil], ⟨rfl, rfl, rfl, rfl, rfl, rfl, rfl, rfl, rfl, rfl, trivial⟩, StLe.gen 8 [.old 0, .old 1, .old 2] [.old 0, .old 1, .old 2] rfl rfl rfl rfl rfl rfl rfl⟩
   ·refine qci (i := ((Tm.encL ds).length : Int)) (d := Tm.enc zeroT) ttOK 0 rfl rfl rfl rfl (by omega) (by rw [Int.toNat_natCast]; exact qhr ds zeroT) ?_
    rintro b3 rfl
    refine qba (i := ds.length) (d := Tm.enc d) (cs := tmQ d b2 d2) (ds' := Tm.encL (ds ++ [d])) ttOK 0 rfl (by rw [Tm.encL_length, List.length_append]; simp) rfl rfl rfl (by rw [Int.toNat_natCast, hdl]) rfl rfl (qgx (qr (j := 4) rfl)) (qg0 ds zeroT d) ?_
    exact ⟨(some ⟨b3, 0, none⟩, c4, (Tm.encL (ds ++ [zeroT])).length), by simp only [Tm.encL_length, List.length_append, List.length_cons, List.length_nil], ⟨rfl, rfl, rfl, rfl, rfl, rfl, rfl, rfl, rfl, rfl, trivial⟩, StLe.gen 8 [.old 0, .old 1, .old 2] [.old 0, .old 1, .old 2] rfl rfl rfl rfl rfl rfl rfl⟩
  ·rintro ⟨da', dc', nl⟩ hnl
   simp only at hnl
   subst hnl
   refine ql (n := 1) ttOK 24 [scD s'] (ds' := List.map scD [s']) rfl (by kernel_rfl) ⟨⟨rfl, rfl, rfl, .inl ⟨_, rfl, qr (j := 1) rfl⟩⟩, trivial⟩ rfl rfl (by decide) (by decide) ?_
   intro a5
   refine qu (ds' := List.map scD (ss ++ [s'])) ttOK 24 1 3 rfl (by kernel_rfl) rfl rfl rfl rfl (by rw [List.map_append]) (decide_eq_true (by rw [List.length_map, List.length_append]; simp only [List.length_cons, List.length_nil]; omega)) (by decide) ?_
   intro ea' ec'
   refine AtIf.mk (fun h2 => ?_) (fun h2 => ?_)
   ·have h2' : oc.1 = false := not_t h2
    rw [h2', cond_false] at hx
    refine ql (n := 1) ttOK 8 [D.int .i64 (ds.length : Int)] (ds' := List.map (D.int .i64) [(ds.length : Int)]) rfl (by kernel_rfl) ⟨⟨rfl, rfl, rfl, rfl⟩, trivial⟩ rfl rfl (by decide) (by decide) ?_
    intro a9
    refine qu (ds' := List.map (D.int .i64) (ps ++ [(ds.length : Int)])) ttOK 8 2 4 rfl (by kernel_rfl) rfl rfl rfl rfl (by rw [List.map_append]) (decide_eq_true (by rw [List.length_map, List.length_append]; simp only [List.length_cons, List.length_nil]; omega)) (by decide) ?_
    intro pa' pc'
    rw [← h2'] at hx
    refine qb (N := 9) (m := 8) (dt := fun _ => none) [] ttOK Tryz.func137 rfl Tryz.call137 Tryz.ntmps137 rfl rfl rfl mixed (by kernel_rfl) ?_
    refine qib ttOK 1 rfl rfl rfl rfl rfl ?_
    intro a6
    refine AtRet.gen _ (StLe.refl _) rfl rfl ?_
    refine ql (n := 1) ttOK 1 [D.bool oc.1] (ds' := List.map D.bool [oc.1]) rfl (by kernel_rfl) ⟨⟨rfl, rfl, rfl, rfl⟩, trivial⟩ rfl rfl (by decide) (by decide) ?_
    intro a7
    refine qa5 (ds' := List.map D.bool (s' ++ [oc.1])) ttOK 1 5 6 rfl (by kernel_rfl) rfl rfl rfl rfl (by simp) (by rw [List.map_append]) (decide_eq_true (by rw [List.length_map, List.length_append]; simp only [List.length_cons, List.length_nil]; omega)) (by decide) ?_
    intro a8 c8
    refine qd ttOK 2 rfl rfl rfl rfl hb0 (Tm.encL_get hb1) ?_
    intro b4 d4 _ _
    exact ⟨⟨q, b, b4, d4, s' ++ [oc.1], a8, c8, ds ++ [d], da', dc', ss ++ [s'], ea', ec', ps ++ [(ds.length : Int)], pa', pc'⟩, hx, Nat.lt_succ_self _, ⟨rfl, rfl, rfl, rfl, rfl, rfl, rfl, qhn ds d (by omega), rfl, trivial⟩, StLe.gen 8 [.old 0, .old 1, .old 2] [.old 0, .old 7, .old 8] rfl rfl rfl rfl rfl rfl rfl⟩
   ·have h2' : oc.1 = true := not_f h2
    rw [show cond oc.1 ps (ps ++ [(ds.length : Int)]) = ps by rw [h2']; rfl] at hx
    refine qb (N := 9) (m := 8) (dt := fun _ => none) [] ttOK Tryz.func137 rfl Tryz.call137 Tryz.ntmps137 rfl rfl rfl mixed (by kernel_rfl) ?_
    refine qib ttOK 1 rfl rfl rfl rfl rfl ?_
    intro a6
    refine AtRet.gen _ (StLe.refl _) rfl rfl ?_
    refine ql (n := 1) ttOK 1 [D.bool oc.1] (ds' := List.map D.bool [oc.1]) rfl (by kernel_rfl) ⟨⟨rfl, rfl, rfl, rfl⟩, trivial⟩ rfl rfl (by decide) (by decide) ?_
    intro a7
    refine qa5 (ds' := List.map D.bool (s' ++ [oc.1])) ttOK 1 4 5 rfl (by kernel_rfl) rfl rfl rfl rfl (by simp) (by rw [List.map_append]) (decide_eq_true (by rw [List.length_map, List.length_append]; simp only [List.length_cons, List.length_nil]; omega)) (by decide) ?_
    intro a8 c8
    refine qd ttOK 2 rfl rfl rfl rfl hb0 (Tm.encL_get hb1) ?_
    intro b4 d4 _ _
    exact ⟨⟨q, b, b4, d4, s' ++ [oc.1], a8, c8, ds ++ [d], da', dc', ss ++ [s'], ea', ec', ps, pa, pc⟩, hx, Nat.lt_succ_self _, ⟨rfl, rfl, rfl, rfl, rfl, rfl, rfl, qhn ds d (by omega), rfl, trivial⟩, StLe.gen 8 [.old 0, .old 1, .old 2] [.old 0, .old 6, .old 7] rfl rfl rfl rfl rfl rfl rfl⟩
 ·replace hx := qg h1 hx
  have hx := Option.some.inj hx
  subst hx
  simp only at hr
  obtain ⟨m, hm, hr⟩ := bind_some hr
  refine AtCut.mk ⟨Option Addr × Nat, fun _ => [(17, bS m.2), (16, .loc 8 0), (5, .loc 2 0), (7, .loc 3 0), (8, .loc 4 0), (9, .loc 5 0), (10, .loc 6 0), (11, .loc 7 0), (12, .v (.slice pa (List.map (D.int .i64) ps).length pc)), (1, sbS s' sa sc)], fun x => ⟨[mpB g, chB pr, .cells 141 [.loc 1 0], .cells 47 (tmQ t' ta tc), .cells 146 (setL k), .cells 147 [atU], .cells 45 [.v (.slice da (Tm.encL ds).length dc)], .cells 175 [.v (.slice ea (List.map scD ss).length ec)], .cells 31 (mdC m.1 x.1 x.2)], [], [mpR g, sbR s' sa sc, tmR t' ta tc, (.slice da (Tm.encL ds).length dc, .sl 4 (Tm.encL ds)), (.slice ea (List.map scD ss).length ec, .sl 1 (List.map scD ss)), (.slice pa (List.map (D.int .i64) ps).length pc, .sl 1 (List.map (D.int .i64) ps)), mdR m.1 x.1 x.2]⟩, fun _ => True, fun _ _ => ⟨rfl, rfl⟩, ?_, ?_⟩
  ·refine ⟨?_, ?_⟩
   ·refine (qbp n t' g ta tc m hm).frameR [0] [2, 0] rfl rfl rfl rfl rfl rfl rfl rfl ?_
    rintro _ _ ⟨e1, f1, rfl, rfl⟩
    refine ⟨rfl, rfl, [mpB g], rfl, ?_⟩
    refine ⟨OwnKeptBut.append, ?_⟩
    refine ⟨fun _ _ h => h, ?_⟩
    exact ⟨(e1, f1), trivial, ⟨rfl, rfl, rfl, rfl, rfl, rfl, rfl, rfl, rfl, rfl, trivial⟩, StLe.gen 9 [] [.old 0, .old 1, .old 2, .froz 0, .froz 1, .froz 2, .old 3] rfl rfl rfl rfl rfl rfl rfl⟩
   ·refine ⟨OwnKeptBut.append, ?_⟩
    refine (qbp n t' g ta tc m hm).frameR [0] [2, 0] rfl rfl rfl rfl rfl rfl rfl rfl ?_
    rintro _ _ ⟨e1, f1, rfl, rfl⟩
    refine ⟨rfl, rfl, [mpB g], rfl, ?_⟩
    refine ⟨fun _ _ h => h, ?_⟩
    exact ⟨(e1, f1), trivial, ⟨rfl, rfl, rfl, rfl, rfl, rfl, rfl, rfl, rfl, rfl, trivial⟩, StLe.gen 9 [] [.old 0, .old 1, .old 2, .froz 0, .froz 1, .froz 2, .old 3] rfl rfl rfl rfl rfl rfl rfl⟩
  ·rintro ⟨e1, f1⟩ _
   refine AtIf.mk (fun h2 => ?_) (fun h2 => ?_)
   ·have h2' : m.2 = false := not_t h2
    rw [h2', cond_false] at hr
    have hr := Option.some.inj hr
    subst hr
    exact AtRet.gen ⟨[mpB g, chB pr], [], []⟩ (StLe.gen 2 [] [] rfl rfl rfl rfl rfl rfl rfl) rfl rfl ⟨rfl, rfl⟩
   ·have h2' : m.2 = true := not_f h2
    rw [h2', cond_true] at hr
    have hml := qe6 hm h2'
    obtain ⟨k1, hk1, hr⟩ := bind_some hr
    obtain ⟨rr, hrr, hr⟩ := bind_some hr
    refine qv fun hok => ?_
    have hPB : (List.map (D.int .i64) ps).length ≤ 1152921504606846976 := (hok (.slice pa (List.map (D.int .i64) ps).length pc, .sl 1 (List.map (D.int .i64) ps)) (qr (j := 5) rfl)).1
    rw [List.length_map] at hPB
    refine (qgq n s' m.1 t' 1 k k1 sa e1 ta sc f1 tc hml hk1).atR [1, 6, 2] rfl rfl rfl ?_
    rintro _ _ ⟨rfl, rfl⟩
    refine qb (N := 4) (m := 9) (dt := fun _ => none) [] ttOK Tryz.func140 rfl Tryz.call140 Tryz.ntmps140 rfl rfl rfl mixed (by kernel_rfl) ?_
    refine AtRet.gen _ (StLe.refl _) rfl rfl ?_
    refine AtRange.mk ⟨[(5, .loc 2 0), (8, .loc 4 0), (9, .loc 5 0), (10, .loc 6 0), (11, .loc 7 0)], ⟨rfl, rfl, rfl, rfl, rfl, trivial⟩, rfl, rfl, ⟨_, _, _, rfl, Tryz.call173⟩, ?_⟩
    refine qb (N := 19) (m := 11) (dt := fun _ => none) [] ttOK Tryz.func173 rfl Tryz.call173 Tryz.ntmps173 rfl rfl rfl mixed (by kernel_rfl) ?_
    refine AtLoop.mk ⟨RSt, fun x => [(3, iS ((x.j : Int) - 1)), (0, .yld 10), (1, .loc 9 0)], fun x => ⟨[mpB g, chB pr, .cells 141 [.loc 1 0], .cells 47 (tmQ t' ta tc), .cells 146 (setL x.k), .cells 147 [atU], .cells 45 [.v (.slice da (Tm.encL ds).length dc)], .cells 175 [.v (.slice ea (List.map scD ss).length ec)], .cells 31 (mdC m.1 e1 f1), .cells 29 [.v (.slice pa (List.map (D.int .i64) ps).length pc)], .lp ⟨111, [(5, .loc 2 0), (8, .loc 4 0), (9, .loc 5 0), (10, .loc 6 0), (11, .loc 7 0)], #[79, 80], rfAs Tryz.f98, rfBody Tryz.f98, .ready, none, exF Tryz.prog⟩], [], [mpR g, sbR s' sa sc, tmR t' ta tc, (.slice da (Tm.encL ds).length dc, .sl 4 (Tm.encL ds)), (.slice ea (List.map scD ss).length ec, .sl 1 (List.map scD ss)), (.slice pa (List.map (D.int .i64) ps).length pc, .sl 1 (List.map (D.int .i64) ps)), mdR m.1 e1 f1]⟩, fun x => roundsF x.n (er g) ds ss ps x.j x.k = some rr ∧ x.n ≤ n ∧ x.j ≤ ps.length, fun x => x.j, ⟨n, ps.length, k1, pr⟩, ⟨hrr, Nat.le_refl _, Nat.le_refl _⟩, ⟨qkr ps (by omega), rfl, rfl, trivial⟩, StLe.refl _, fun _ _ => ⟨rfl, rfl⟩, ?_⟩
    rintro ⟨q2, j, k2, cp⟩ ⟨hq, hqn, hj⟩
    simp only at hq hqn hj
    rcases q2 with _ | q2
    ·exact qe hq
    refine AtIf.mk (fun h3 => ?_) (fun h3 => ?_)
    ·rcases j with _ | j
     ·exact absurd (of_decide_eq_true h3) (by simp)
     rw [roundsF] at hq
     obtain ⟨p, hp, hq⟩ := bind_some hq
     obtain ⟨s1, hs1, hq⟩ := bind_some hq
     obtain ⟨hs0, hs1⟩ := qi hs1
     obtain ⟨d1, hd1, hq⟩ := bind_some hq
     obtain ⟨hd0, hd1⟩ := qi hd1
     obtain ⟨hlen, hq⟩ := qm hq
     have hlen := of_decide_eq_true hlen
     obtain ⟨ru, hru, hq⟩ := bind_some hq
     have hji : ((j + 1 : Nat) : Int) - 1 = (j : Int) := by omega
     refine qd (i := ((j + 1 : Nat) : Int) - 1) ttOK 5 rfl rfl rfl rfl (by omega) (qav (D.int .i64) (by rw [hji, Int.toNat_natCast]; exact hp)) ?_
     refine qcm (N := 111) (m := 12) (dt := drawsOf [(20, .node [0, 1, 2, 3, 4, 5, 6, 7, 8, 9, 10, 11, 12, 13, 14, 15] [(16, .node [] [(17, .node [] [(18, .node [] [(19, .leaf [])])])])], [18, 19], [])]) [] ttOK rfl rfl rfl rfl rfl rfl mixed (by kernel_rfl) (by kernel_rfl) ?_
     refine qb (N := 2) (m := 12) (dt := fun _ => none) [] ttOK Tryz.func174 rfl Tryz.call174 Tryz.ntmps174 rfl rfl rfl mixed (by kernel_rfl) ?_
     refine AtRet.gen _ (StLe.refl _) rfl rfl ?_
     refine qd ttOK 4 rfl rfl rfl rfl hs0 (qav scD hs1) ?_
     intro b5 d5 _ _
     refine qd ttOK 3 rfl rfl rfl rfl hd0 (Tm.encL_get hd1) ?_
     intro b6 d6 _ _
     refine qd ttOK 4 rfl rfl rfl rfl hs0 (qav scD hs1) ?_
     intro b7 d7 _ _
     refine (qkx k2 ((List.map D.bool s1).length : Int) (by omega) (by rw [List.length_map]; omega)).atR [] rfl rfl rfl ?_
     rintro _ _ ⟨rfl, rfl⟩
     refine ⟨fun _ _ h => h, ?_⟩
     rw [show ((List.map D.bool s1).length : Int).toNat = s1.length by rw [List.length_map, Int.toNat_natCast]]
     refine (hU q2 (by omega) g pr s1 d1 (firstF k2 s1.length) b5 b6 d5 d6 ru hru).frameR [0, 1] [0, 7, 8] rfl rfl rfl rfl rfl rfl rfl rfl ?_
     rintro _ _ ⟨rfl, rfl⟩
     refine ⟨rfl, rfl, [mpB g, chB pr], rfl, ?_⟩
     cases ru with
     | error a =>
      have hq := Option.some.inj hq
      subst hq
      have hr := Option.some.inj hr
      subst hr
      refine AtRet.gen _ (StLe.refl _) rfl rfl ?_
      refine AtRet.gen _ (StLe.refl _) rfl rfl ?_
      exact AtRet.gen ⟨[mpB g, chB pr], [], []⟩ (StLe.gen 2 [] [] rfl rfl rfl rfl rfl rfl rfl) rfl rfl ⟨rfl, rfl⟩
     | ok k3 =>
      simp only at hq
      refine ⟨fun _ _ h => h, ?_⟩
      refine (qmk k2 k3).atR [] rfl rfl rfl ?_
      rintro _ _ ⟨rfl, rfl⟩
      refine AtRet.gen _ (StLe.refl _) rfl rfl ?_
      refine AtIf.mk (fun h => ff h) (fun _ => ?_)
      exact ⟨⟨q2, j, withF k2 k3, pr⟩, ⟨hq, by show q2 ≤ n; omega, by show j ≤ ps.length; omega⟩, Nat.lt_succ_self _, ⟨qnu j (by omega), rfl, rfl, trivial⟩, StLe.gen 11 [] [.old 0, .old 1, .old 2, .old 3, .old 4, .old 5, .old 6] rfl rfl rfl rfl rfl rfl rfl⟩
    ·rcases j with _ | j
     ·rw [roundsF] at hq
      have hq := Option.some.inj hq
      subst hq
      simp only at hr
      obtain ⟨hai, hr⟩ := qm hr
      obtain ⟨hsl, hin⟩ := of_decide_eq_true hai
      have hr := Option.some.inj hr
      subst hr
      refine AtRet.gen _ (StLe.refl _) rfl rfl ?_
      refine qb (N := 2) (m := 11) (dt := fun _ => none) [] ttOK Tryz.func174 rfl Tryz.call174 Tryz.ntmps174 rfl rfl rfl mixed (by kernel_rfl) ?_
      refine AtRet.gen _ (StLe.refl _) rfl rfl ?_
      refine (qfa g pr s' m.1 t' 2 k2 sa e1 ta sc f1 tc hml hsl hin).frameR [0, 1] [1, 6, 2] rfl rfl rfl rfl rfl rfl rfl rfl ?_
      rintro _ _ ⟨rfl, rfl⟩
      refine ⟨rfl, rfl, [mpB g, chB pr], rfl, ?_⟩
      cases hdm : demandF s' 2 k2 m.1.signs t'.args 0 with
      | none =>
       exact AtRet.gen ⟨[mpB g, chB pr], [], []⟩ (StLe.gen 2 [] [] rfl rfl rfl rfl rfl rfl rfl) rfl rfl ⟨rfl, rfl⟩
      | some i =>
       exact AtRet.gen ⟨[mpB g, chB pr], [], []⟩ (StLe.gen 2 [] [] rfl rfl rfl rfl rfl rfl rfl) rfl rfl ⟨rfl, rfl⟩
     ·have h4 : ¬ (((j + 1 : Nat) : Int) - 1 ≥ 0) := of_decide_eq_false h3
      omega
end

section
open Go.Tr Go Go.Proofs.Tryz
set_option maxRecDepth 100000
set_option maxHeartbeats 16000000 in
theorem use_step (n : Nat) (hA : ∀ m, m ≤ n → AsmC m) : UseC (n + 1) := by
 intro g pr s t k a1 a2 c1 c2 r hr
 refine qb (N := 58) (m := 2) (dt := drawsOf [(2, .node [0, 1, 2, 3, 4, 5, 6] [(7, .leaf [])], [7], []), (5, .node [0, 1, 2, 3, 4] [(5, .node [6, 7, 8] [(9, .node [] [(10, .leaf [11])])]), (9, .node [] [(5, .node [6, 7, 8] [(10, .leaf [11])])])], [5], [5])]) [5] ttOK Tryz.func142 rfl Tryz.call142 Tryz.ntmps142 rfl rfl rfl mixed (by kernel_rfl) ?_
 refine AtLoop.mk ⟨USt, fun x => [(6, .loc 2 0), (7, .loc 3 0), (8, .loc 4 0), (0, .loc 1 0), (1, sbS x.s x.sa x.sc)], fun x => ⟨[mpB g, chB pr, .cells 47 (tmQ x.t x.ta x.tc), .cells 146 (setL k), .cells 146 (setL none7)], [], [mpR g, sbR x.s x.sa x.sc, tmR x.t x.ta x.tc]⟩, fun x => useF x.n (er g) x.s x.t k = some r ∧ x.n ≤ n + 1, fun x => x.n, ⟨n + 1, t, a2, c2, s, a1, c1⟩, ⟨hr, Nat.le_refl _⟩, ⟨rfl, rfl, rfl, rfl, rfl, trivial⟩, StLe.refl _, fun _ _ => ⟨rfl, rfl⟩, ?_⟩
 rintro ⟨q, t', ta, tc, s', sa, sc⟩ ⟨hq, hqn⟩
 simp only at hq hqn
 rcases q with _ | q
 ·exact qe hq
 rw [useF] at hq
 refine AtIf.mk (fun h1 => ?_) (fun h1 => ?_)
 ·replace hq := qf h1 hq
  obtain ⟨d, hd, hq⟩ := bind_some hq
  obtain ⟨hd0, hd1⟩ := qi hd
  obtain ⟨e, he, hq⟩ := bind_some hq
  refine qd ttOK 2 rfl rfl rfl rfl hd0 (Tm.encL_get hd1) ?_
  intro b1 d1 _ _
  refine (hA q (by omega) g pr s' d k sa b1 sc d1 e he).frameR [0, 1] [0, 1, 3] rfl rfl rfl rfl rfl rfl rfl rfl ?_
  rintro _ _ ⟨rfl, rfl⟩
  refine ⟨rfl, rfl, [mpB g, chB pr], rfl, ?_⟩
  cases e with
  | some e =>
   have hq := Option.some.inj hq
   subst hq
   exact AtRet.gen ⟨[mpB g, chB pr], [], []⟩ (StLe.gen 2 [] [] rfl rfl rfl rfl rfl rfl rfl) rfl rfl ⟨rfl, rfl⟩
  | none =>
   simp only at hq
   obtain ⟨b, hb, hq⟩ := bind_some hq
   obtain ⟨hb0, hb1⟩ := qi hb
   obtain ⟨hg, hq⟩ := qm hq
   have hg := of_decide_eq_true hg
   refine qb (N := 9) (m := 6) (dt := fun _ => none) [] ttOK Tryz.func137 rfl Tryz.call137 Tryz.ntmps137 rfl rfl rfl mixed (by kernel_rfl) ?_
   refine qib ttOK 1 rfl rfl rfl rfl rfl ?_
   intro a6
   refine AtRet.gen _ (StLe.refl _) rfl rfl ?_
   refine ql (n := 1) ttOK 1 [D.bool false] (ds' := List.map D.bool [false]) rfl (by kernel_rfl) ⟨⟨rfl, rfl, rfl, rfl⟩, trivial⟩ rfl rfl (by decide) (by decide) ?_
   intro a7
   refine qa5 (ds' := List.map D.bool (s' ++ [false])) ttOK 1 4 5 rfl (by kernel_rfl) rfl rfl rfl rfl (by simp) (by rw [List.map_append]) (decide_eq_true (by rw [List.length_map, List.length_append]; simp only [List.length_cons, List.length_nil]; omega)) (by decide) ?_
   intro a8 c8
   refine qd ttOK 2 rfl rfl rfl rfl hb0 (Tm.encL_get hb1) ?_
   intro b4 d4 _ _
   exact ⟨⟨q, b, b4, d4, s' ++ [false], a8, c8⟩, ⟨hq, by show q ≤ n + 1; omega⟩, Nat.lt_succ_self _, ⟨rfl, rfl, rfl, rfl, rfl, trivial⟩, StLe.gen 5 [] [.old 0, .old 6, .old 7] rfl rfl rfl rfl rfl rfl rfl⟩
 ·replace hq := qg h1 hq
  obtain ⟨m, hm, hq⟩ := bind_some hq
  refine AtCut.mk ⟨Option Addr × Nat, fun _ => [(10, bS m.2), (9, .loc 5 0), (6, .loc 2 0), (7, .loc 3 0), (8, .loc 4 0), (0, .loc 1 0), (1, sbS s' sa sc)], fun x => ⟨[mpB g, chB pr, .cells 47 (tmQ t' ta tc), .cells 146 (setL k), .cells 146 (setL none7), .cells 31 (mdC m.1 x.1 x.2)], [], [mpR g, sbR s' sa sc, tmR t' ta tc, mdR m.1 x.1 x.2]⟩, fun _ => True, fun _ _ => ⟨rfl, rfl⟩, ?_, ?_⟩
  ·refine ⟨?_, ?_⟩
   ·refine (qbp q t' g ta tc m hm).frameR [0] [2, 0] rfl rfl rfl rfl rfl rfl rfl rfl ?_
    rintro _ _ ⟨e1, f1, rfl, rfl⟩
    refine ⟨rfl, rfl, [mpB g], rfl, ?_⟩
    refine ⟨OwnKeptBut.append, ?_⟩
    refine ⟨fun _ _ h => h, ?_⟩
    exact ⟨(e1, f1), trivial, ⟨rfl, rfl, rfl, rfl, rfl, rfl, rfl, trivial⟩, StLe.gen 6 [] [.old 0, .old 1, .old 2, .old 3] rfl rfl rfl rfl rfl rfl rfl⟩
   ·refine ⟨OwnKeptBut.append, ?_⟩
    refine (qbp q t' g ta tc m hm).frameR [0] [2, 0] rfl rfl rfl rfl rfl rfl rfl rfl ?_
    rintro _ _ ⟨e1, f1, rfl, rfl⟩
    refine ⟨rfl, rfl, [mpB g], rfl, ?_⟩
    refine ⟨fun _ _ h => h, ?_⟩
    exact ⟨(e1, f1), trivial, ⟨rfl, rfl, rfl, rfl, rfl, rfl, rfl, trivial⟩, StLe.gen 6 [] [.old 0, .old 1, .old 2, .old 3] rfl rfl rfl rfl rfl rfl rfl⟩
  ·rintro ⟨e1, f1⟩ _
   refine AtIf.mk (fun h2 => ?_) (fun h2 => ?_)
   ·have h2' : m.2 = false := not_t h2
    rw [h2', cond_false] at hq
    have hq := Option.some.inj hq
    subst hq
    refine at_iface rfl rfl ?_
    exact AtRet.gen ⟨[mpB g, chB pr], [], []⟩ (StLe.gen 2 [] [] rfl rfl rfl rfl rfl rfl rfl) rfl rfl ⟨rfl, rfl⟩
   ·have h2' : m.2 = true := not_f h2
    rw [h2', cond_true] at hq
    have hml := qe6 hm h2'
    obtain ⟨hai, hq⟩ := qm hq
    obtain ⟨hsl, hin⟩ := of_decide_eq_true hai
    refine (qfa g pr s' m.1 t' 1 k sa e1 ta sc f1 tc hml hsl hin).frameR [0, 1] [1, 3, 2] rfl rfl rfl rfl rfl rfl rfl rfl ?_
    rintro _ _ ⟨rfl, rfl⟩
    refine ⟨rfl, rfl, [mpB g, chB pr], rfl, ?_⟩
    cases hdm : demandF s' 1 k m.1.signs t'.args 0 with
    | some i =>
     rw [hdm] at hq
     have hq := Option.some.inj hq
     subst hq
     exact AtRet.gen ⟨[mpB g, chB pr], [], []⟩ (StLe.gen 2 [] [] rfl rfl rfl rfl rfl rfl rfl) rfl rfl ⟨rfl, rfl⟩
    | none =>
     rw [hdm] at hq
     simp only at hq
     obtain ⟨k3, hk3, hq⟩ := bind_some hq
     have hq := Option.some.inj hq
     subst hq
     refine (qgq q s' m.1 t' 2 k k3 sa e1 ta sc f1 tc hml hk3).atR [1, 3, 2] rfl rfl rfl ?_
     rintro _ _ ⟨rfl, rfl⟩
     exact AtRet.gen ⟨[mpB g, chB pr], [], []⟩ (StLe.gen 2 [] [] rfl rfl rfl rfl rfl rfl rfl) rfl rfl ⟨rfl, rfl⟩
theorem both : ∀ n, (∀ m, m ≤ n → AsmC m) ∧ (∀ m, m ≤ n → UseC m)
 | 0 => by
  refine ⟨fun m hm => ?_, fun m hm => ?_⟩
  ·have : m = 0 := by omega
   subst this
   intro g pr s t k a1 a2 c1 c2 r hr
   rw [assumeF] at hr
   exact qe hr
  ·have : m = 0 := by omega
   subst this
   intro g pr s t k a1 a2 c1 c2 r hr
   rw [useF] at hr
   exact qe hr
 | n + 1 => by
  obtain ⟨h1, h2⟩ := both n
  refine ⟨fun m hm => ?_, fun m hm => ?_⟩
  ·rcases Nat.lt_or_ge n m with h | h
   ·have : m = n + 1 := by omega
    subst this
    exact asm_step n h2
   ·exact h1 m h
  ·rcases Nat.lt_or_ge n m with h | h
   ·have : m = n + 1 := by omega
    subst this
    exact use_step n h1
   ·exact h2 m h
end

section
open Go.Tr Go Go.Proofs.Tryz
set_option maxRecDepth 100000
set_option maxHeartbeats 16000000 in
theorem top_step (n : Nat) (hU : ∀ m, m ≤ n → UseC m) : TopC (n + 1) := by
 intro g pr s t k a1 a2 c1 c2 r hr
 rw [assumeF.eq_2] at hr
 obtain ⟨x, hx, hr⟩ := bind_some hr
 refine qb (N := 111) (m := 3) (dt := drawsOf [(8, .node [0, 1, 2, 3, 4, 5] [(6, .node [] [(7, .node [] [(8, .node [] [(9, .node [] [(10, .leaf [])]), (10, .node [] [(9, .leaf [])])]), (10, .node [] [(8, .node [] [(9, .leaf [])])])])])], [7, 8, 9, 10], []), (14, .node [0, 1, 2, 3, 4] [(5, .node [6, 7, 8] [(9, .node [] [(10, .leaf [11])])]), (9, .node [] [(5, .node [6, 7, 8] [(10, .leaf [11])])])], [5], [9]), (20, .node [0, 1, 2, 3, 4, 5, 6, 7, 8, 9, 10, 11, 12, 13, 14, 15] [(16, .node [] [(17, .node [] [(18, .node [] [(19, .leaf [])])])])], [18, 19], [])]) [8, 14] ttOK Tryz.func98 rfl Tryz.call98 Tryz.ntmps98 rfl rfl rfl mixed (by kernel_rfl) ?_
 refine AtLoop.mk ⟨PSt, fun x => [(5, .loc 3 0), (7, .loc 4 0), (8, .loc 5 0), (9, .loc 6 0), (10, .loc 7 0), (11, .loc 8 0), (12, .v (.slice x.pa (List.map (D.int .i64) x.ps).length x.pc)), (13, iS (x.ds.length : Int)), (1, sbS x.s x.sa x.sc)], fun x => ⟨[mpB g, chB pr, .cells 141 [.loc 1 0], .cells 141 [.loc 1 0], .cells 47 (tmQ x.t x.ta x.tc), .cells 146 (setL k), .cells 147 [atC], .cells 45 [.v (.slice x.da (Tm.encL x.ds).length x.dc)], .cells 175 [.v (.slice x.ea (List.map scD x.ss).length x.ec)]], [⟨.slice x.da (Tm.encL x.ds).length x.dc, 4, 47, Tm.encL x.ds⟩, ⟨.slice x.ea (List.map scD x.ss).length x.ec, 1, 106, List.map scD x.ss⟩, ⟨.slice x.pa (List.map (D.int .i64) x.ps).length x.pc, 1, 3, List.map (D.int .i64) x.ps⟩], [mpR g, sbR x.s x.sa x.sc, tmR x.t x.ta x.tc]⟩, fun y => peelF n y.n y.t y.s y.ds y.ss y.ps = some x, fun y => y.n, ⟨n, t, a2, c2, s, a1, c1, [], none, 0, [], none, 0, [], none, 0⟩, hx, ⟨rfl, rfl, rfl, rfl, rfl, rfl, rfl, rfl, rfl, trivial⟩, StLe.gen 9 [.nil 4 47, .nil 1 106, .nil 1 3] [.old 0, .old 1, .old 2] rfl rfl rfl rfl rfl rfl rfl, fun _ _ => ⟨rfl, rfl⟩, ?_⟩
 rintro ⟨q, t', ta, tc, s', sa, sc, ds, da, dc, ss, ea, ec, ps, pa, pc⟩ hx
 simp only at hx
 rcases q with _ | q
 ·exact qe hx
 rw [peelF] at hx
 refine AtIf.mk (fun h1 => ?_) (fun h1 => ?_)
 ·replace hx := qf h1 hx
  obtain ⟨b, hb, hx⟩ := bind_some hx
  obtain ⟨hb0, hb1⟩ := qi hb
  obtain ⟨oc, hoc, hx⟩ := bind_some hx
  obtain ⟨d, hd, hx⟩ := bind_some hx
  obtain ⟨hd0, hd1⟩ := qi hd
  obtain ⟨hg, hx⟩ := qm hx
  obtain ⟨hg1, hg2, hg3, hg4⟩ := of_decide_eq_true hg
  refine qd ttOK 2 rfl rfl rfl rfl hb0 (Tm.encL_get hb1) ?_
  intro b1 d1 _ _
  refine (qcc n b 0 b1 d1 oc hoc).atR [3] rfl rfl rfl ?_
  rintro _ _ ⟨rfl, rfl⟩
  have hdl : (Tm.encL ds).length = ds.length := Tm.encL_length ds
  refine AtCut.mk ⟨Option Addr × Nat × Nat, fun _ => [(14, bS oc.1), (5, .loc 3 0), (7, .loc 4 0), (8, .loc 5 0), (9, .loc 6 0), (10, .loc 7 0), (11, .loc 8 0), (12, .v (.slice pa (List.map (D.int .i64) ps).length pc)), (13, iS (ds.length : Int)), (1, sbS s' sa sc)], fun y => ⟨[mpB g, chB pr, .cells 141 [.loc 1 0], .cells 141 [.loc 1 0], .cells 47 (tmQ t' ta tc), .cells 146 (setL k), .cells 147 [atC], .cells 45 [.v (.slice y.1 y.2.2 y.2.1)], .cells 175 [.v (.slice ea (List.map scD ss).length ec)]], [⟨.slice y.1 y.2.2 y.2.1, 4, 47, Tm.encL (ds ++ [d])⟩, ⟨.slice ea (List.map scD ss).length ec, 1, 106, List.map scD ss⟩, ⟨.slice pa (List.map (D.int .i64) ps).length pc, 1, 3, List.map (D.int .i64) ps⟩], [mpR g, sbR s' sa sc, tmR t' ta tc]⟩, fun y => y.2.2 = (Tm.encL (ds ++ [d])).length, fun _ _ => ⟨rfl, rfl⟩, ?_, ?_⟩
  ·refine qd ttOK 2 rfl rfl rfl rfl hd0 (Tm.encL_get hd1) ?_
   intro b2 d2 _ _
   refine ql (n := 1) ttOK 48 [.agg [.int .i64 0, .int .i64 0, .int .i64 0, .sl 4 []]] (ds' := Tm.encL [zeroT]) rfl (by kernel_rfl) ⟨⟨rfl, rfl, rfl, ⟨[(.v (.int .i64 0))], _, rfl, rfl, ⟨[(.v (.int .i64 0))], _, rfl, rfl, ⟨[(.v (.int .i64 0))], _, rfl, rfl, ⟨[(.v (.slice none 0 0))], _, rfl, (.inr ⟨rfl, rfl⟩), rfl⟩⟩⟩⟩⟩, trivial⟩ rfl (by simp only [Tm.encL_eq, List.map_cons, List.map_nil, Tm.enc_eq, zeroT, Tm.op, Tm.hd, Tm.n, Tm.args]) (by decide) (by decide) ?_
   intro a3
   refine ⟨fun _ _ h => h, ?_⟩
   refine qu (ds' := Tm.encL (ds ++ [zeroT])) ttOK 48 0 5 rfl (by kernel_rfl) rfl rfl rfl rfl (by simp only [Tm.encL_eq, List.map_append]) (decide_eq_true (by rw [Tm.encL_length, List.length_append]; simp only [List.length_cons, List.length_nil]; omega)) (by decide) ?_
   intro a4 c4
   refine ⟨?_, ?_⟩
   ·refine qci (i := ((Tm.encL ds).length : Int)) (d := Tm.enc zeroT) ttOK 0 rfl rfl rfl rfl (by omega) (by rw [Int.toNat_natCast]; exact qhr ds zeroT) ?_
    rintro b3 rfl
    refine ⟨?_, ?_⟩
    ·refine qba (i := ds.length) (d := Tm.enc d) (cs := tmQ d b2 d2) (ds' := Tm.encL (ds ++ [d])) ttOK 0 rfl (by rw [Tm.encL_length, List.length_append]; simp) rfl rfl rfl (by rw [Int.toNat_natCast, hdl]) rfl rfl (qgx (qr (j := 4) rfl)) (qg0 ds zeroT d) ?_
     exact ⟨(some ⟨b3, 0, none⟩, c4, (Tm.encL (ds ++ [zeroT])).length), by simp only [Tm.encL_length, List.length_append, List.length_cons, List.length_nil], ⟨rfl, rfl, rfl, rfl, rfl, rfl, rfl, rfl, rfl, rfl, trivial⟩, StLe.gen 9 [.old 0, .old 1, .old 2] [.old 0, .old 1, .old 2] rfl rfl rfl rfl rfl rfl rfl⟩
    ·refine qba (i := ds.length) (d := Tm.enc d) (cs := tmQ d b2 d2) (ds' := Tm.encL (ds ++ [d])) ttOK 0 rfl (by rw [Tm.encL_length, List.length_append]; simp) rfl rfl rfl (by rw [Int.toNat_natCast, hdl]) rfl rfl (qgx (qr (j := 4) rfl)) (qg0 ds zeroT d) ?_
     exact ⟨(some ⟨b3, 0, none⟩, c4, (Tm.encL (ds ++ [zeroT])).length), by simp only [Tm.encL_length, List.length_append, List.length_cons, List.length_nil], ⟨rfl, rfl, rfl, rfl, rfl, rfl, rfl, rfl, rfl, rfl, trivial⟩, StLe.gen 9 [.old 0, .old 1, .old 2] [.old 0, .old 1, .old 2] rfl rfl rfl rfl rfl rfl rfl⟩
   ·refine qci (i := ((Tm.encL ds).length : Int)) (d := Tm.enc zeroT) ttOK 0 rfl rfl rfl rfl (by omega) (by rw [Int.toNat_natCast]; exact qhr ds zeroT) ?_
    rintro b3 rfl
    refine qba (i := ds.length) (d := Tm.enc d) (cs := tmQ d b2 d2) (ds' := Tm.encL (ds ++ [d])) ttOK 0 rfl (by rw [Tm.encL_length, List.length_append]; simp) rfl rfl rfl (by rw [Int.toNat_natCast, hdl]) rfl rfl (qgx (qr (j := 4) rfl)) (qg0 ds zeroT d) ?_
    exact ⟨(some ⟨b3, 0, none⟩, c4, (Tm.encL (ds ++ [zeroT])).length), by simp only [Tm.encL_length, List.length_append, List.length_cons, List.length_nil], ⟨rfl, rfl, rfl, rfl, rfl, rfl, rfl, rfl, rfl, rfl, trivial⟩, StLe.gen 9 [.old 0, .old 1, .old 2] [.old 0, .old 1, .old 2] rfl rfl rfl rfl rfl rfl rfl⟩
  ·rintro ⟨da', dc', nl⟩ hnl
   simp only at hnl
   subst hnl
   refine ql (n := 1) ttOK 24 [scD s'] (ds' := List.map scD [s']) rfl (by kernel_rfl) ⟨⟨rfl, rfl, rfl, .inl ⟨_, rfl, qr (j := 1) rfl⟩⟩, trivial⟩ rfl rfl (by decide) (by decide) ?_
   intro a5
   refine qu (ds' := List.map scD (ss ++ [s'])) ttOK 24 1 3 rfl (by kernel_rfl) rfl rfl rfl rfl (by rw [List.map_append]) (decide_eq_true (by rw [List.length_map, List.length_append]; simp only [List.length_cons, List.length_nil]; omega)) (by decide) ?_
   intro ea' ec'
   refine AtIf.mk (fun h2 => ?_) (fun h2 => ?_)
   ·have h2' : oc.1 = false := not_t h2
    rw [h2', cond_false] at hx
    refine ql (n := 1) ttOK 8 [D.int .i64 (ds.length : Int)] (ds' := List.map (D.int .i64) [(ds.length : Int)]) rfl (by kernel_rfl) ⟨⟨rfl, rfl, rfl, rfl⟩, trivial⟩ rfl rfl (by decide) (by decide) ?_
    intro a9
    refine qu (ds' := List.map (D.int .i64) (ps ++ [(ds.length : Int)])) ttOK 8 2 4 rfl (by kernel_rfl) rfl rfl rfl rfl (by rw [List.map_append]) (decide_eq_true (by rw [List.length_map, List.length_append]; simp only [List.length_cons, List.length_nil]; omega)) (by decide) ?_
    intro pa' pc'
    rw [← h2'] at hx
    refine qb (N := 9) (m := 9) (dt := fun _ => none) [] ttOK Tryz.func137 rfl Tryz.call137 Tryz.ntmps137 rfl rfl rfl mixed (by kernel_rfl) ?_
    refine qib ttOK 1 rfl rfl rfl rfl rfl ?_
    intro a6
    refine AtRet.gen _ (StLe.refl _) rfl rfl ?_
    refine ql (n := 1) ttOK 1 [D.bool oc.1] (ds' := List.map D.bool [oc.1]) rfl (by kernel_rfl) ⟨⟨rfl, rfl, rfl, rfl⟩, trivial⟩ rfl rfl (by decide) (by decide) ?_
    intro a7
    refine qa5 (ds' := List.map D.bool (s' ++ [oc.1])) ttOK 1 5 6 rfl (by kernel_rfl) rfl rfl rfl rfl (by simp) (by rw [List.map_append]) (decide_eq_true (by rw [List.length_map, List.length_append]; simp only [List.length_cons, List.length_nil]; omega)) (by decide) ?_
    intro a8 c8
    refine qd ttOK 2 rfl rfl rfl rfl hb0 (Tm.encL_get hb1) ?_
    intro b4 d4 _ _
    exact ⟨⟨q, b, b4, d4, s' ++ [oc.1], a8, c8, ds ++ [d], da', dc', ss ++ [s'], ea', ec', ps ++ [(ds.length : Int)], pa', pc'⟩, hx, Nat.lt_succ_self _, ⟨rfl, rfl, rfl, rfl, rfl, rfl, rfl, qhn ds d (by omega), rfl, trivial⟩, StLe.gen 9 [.old 0, .old 1, .old 2] [.old 0, .old 7, .old 8] rfl rfl rfl rfl rfl rfl rfl⟩
   ·have h2' : oc.1 = true := not_f h2
    rw [show cond oc.1 ps (ps ++ [(ds.length : Int)]) = ps by rw [h2']; rfl] at hx
    refine qb (N := 9) (m := 9) (dt := fun _ => none) [] ttOK Tryz.func137 rfl Tryz.call137 Tryz.ntmps137 rfl rfl rfl mixed (by kernel_rfl) ?_
    refine qib ttOK 1 rfl rfl rfl rfl rfl ?_
    intro a6
    refine AtRet.gen _ (StLe.refl _) rfl rfl ?_
    refine ql (n := 1) ttOK 1 [D.bool oc.1] (ds' := List.map D.bool [oc.1]) rfl (by kernel_rfl) ⟨⟨rfl, rfl, rfl, rfl⟩, trivial⟩ rfl rfl (by decide) (by decide) ?_
    intro a7
    refine qa5 (ds' := List.map D.bool (s' ++ [oc.1])) ttOK 1 4 5 rfl (by kernel_rfl) rfl rfl rfl rfl (by simp) (by rw [List.map_append]) (decide_eq_true (by rw [List.length_map, List.length_append]; simp only [List.length_cons, List.length_nil]; omega)) (by decide) ?_
    intro a8 c8
    refine qd ttOK 2 rfl rfl rfl rfl hb0 (Tm.encL_get hb1) ?_
    intro b4 d4 _ _
    exact ⟨⟨q, b, b4, d4, s' ++ [oc.1], a8, c8, ds ++ [d], da', dc', ss ++ [s'], ea', ec', ps, pa, pc⟩, hx, Nat.lt_succ_self _, ⟨rfl, rfl, rfl, rfl, rfl, rfl, rfl, qhn ds d (by omega), rfl, trivial⟩, StLe.gen 9 [.old 0, .old 1, .old 2] [.old 0, .old 6, .old 7] rfl rfl rfl rfl rfl rfl rfl⟩
 ·replace hx := qg h1 hx
  have hx := Option.some.inj hx
  subst hx
  simp only at hr
  obtain ⟨m, hm, hr⟩ := bind_some hr
  refine AtCut.mk ⟨Option Addr × Nat, fun _ => [(17, bS m.2), (16, .loc 9 0), (5, .loc 3 0), (7, .loc 4 0), (8, .loc 5 0), (9, .loc 6 0), (10, .loc 7 0), (11, .loc 8 0), (12, .v (.slice pa (List.map (D.int .i64) ps).length pc)), (1, sbS s' sa sc)], fun x => ⟨[mpB g, chB pr, .cells 141 [.loc 1 0], .cells 141 [.loc 1 0], .cells 47 (tmQ t' ta tc), .cells 146 (setL k), .cells 147 [atC], .cells 45 [.v (.slice da (Tm.encL ds).length dc)], .cells 175 [.v (.slice ea (List.map scD ss).length ec)], .cells 31 (mdC m.1 x.1 x.2)], [], [mpR g, sbR s' sa sc, tmR t' ta tc, (.slice da (Tm.encL ds).length dc, .sl 4 (Tm.encL ds)), (.slice ea (List.map scD ss).length ec, .sl 1 (List.map scD ss)), (.slice pa (List.map (D.int .i64) ps).length pc, .sl 1 (List.map (D.int .i64) ps)), mdR m.1 x.1 x.2]⟩, fun _ => True, fun _ _ => ⟨rfl, rfl⟩, ?_, ?_⟩
  ·refine ⟨?_, ?_⟩
   ·refine (qbp n t' g ta tc m hm).frameR [0] [2, 0] rfl rfl rfl rfl rfl rfl rfl rfl ?_
    rintro _ _ ⟨e1, f1, rfl, rfl⟩
    refine ⟨rfl, rfl, [mpB g], rfl, ?_⟩
    refine ⟨OwnKeptBut.append, ?_⟩
    refine ⟨fun _ _ h => h, ?_⟩
    exact ⟨(e1, f1), trivial, ⟨rfl, rfl, rfl, rfl, rfl, rfl, rfl, rfl, rfl, rfl, trivial⟩, StLe.gen 10 [] [.old 0, .old 1, .old 2, .froz 0, .froz 1, .froz 2, .old 3] rfl rfl rfl rfl rfl rfl rfl⟩
   ·refine ⟨OwnKeptBut.append, ?_⟩
    refine (qbp n t' g ta tc m hm).frameR [0] [2, 0] rfl rfl rfl rfl rfl rfl rfl rfl ?_
    rintro _ _ ⟨e1, f1, rfl, rfl⟩
    refine ⟨rfl, rfl, [mpB g], rfl, ?_⟩
    refine ⟨fun _ _ h => h, ?_⟩
    exact ⟨(e1, f1), trivial, ⟨rfl, rfl, rfl, rfl, rfl, rfl, rfl, rfl, rfl, rfl, trivial⟩, StLe.gen 10 [] [.old 0, .old 1, .old 2, .froz 0, .froz 1, .froz 2, .old 3] rfl rfl rfl rfl rfl rfl rfl⟩
  ·rintro ⟨e1, f1⟩ _
   refine AtIf.mk (fun h2 => ?_) (fun h2 => ?_)
   ·have h2' : m.2 = false := not_t h2
    rw [h2', cond_false] at hr
    have hr := Option.some.inj hr
    subst hr
    exact AtRet.gen ⟨[mpB g, chB pr, .cells 141 [.loc 1 0]], [], []⟩ (StLe.gen 3 [] [] rfl rfl rfl rfl rfl rfl rfl) rfl rfl ⟨rfl, pr, rfl⟩
   ·have h2' : m.2 = true := not_f h2
    rw [h2', cond_true] at hr
    have hml := qe6 hm h2'
    obtain ⟨k1, hk1, hr⟩ := bind_some hr
    obtain ⟨rr, hrr, hr⟩ := bind_some hr
    refine qv fun hok => ?_
    have hPB : (List.map (D.int .i64) ps).length ≤ 1152921504606846976 := (hok (.slice pa (List.map (D.int .i64) ps).length pc, .sl 1 (List.map (D.int .i64) ps)) (qr (j := 5) rfl)).1
    rw [List.length_map] at hPB
    refine (qgq n s' m.1 t' 1 k k1 sa e1 ta sc f1 tc hml hk1).atR [1, 6, 2] rfl rfl rfl ?_
    rintro _ _ ⟨rfl, rfl⟩
    refine qb (N := 4) (m := 10) (dt := fun _ => none) [] ttOK Tryz.func140 rfl Tryz.call140 Tryz.ntmps140 rfl rfl rfl mixed (by kernel_rfl) ?_
    refine AtRet.gen _ (StLe.refl _) rfl rfl ?_
    refine AtRange.mk ⟨[(5, .loc 3 0), (8, .loc 5 0), (9, .loc 6 0), (10, .loc 7 0), (11, .loc 8 0)], ⟨rfl, rfl, rfl, rfl, rfl, trivial⟩, rfl, rfl, ⟨_, _, _, rfl, Tryz.call173⟩, ?_⟩
    refine qb (N := 19) (m := 12) (dt := fun _ => none) [] ttOK Tryz.func173 rfl Tryz.call173 Tryz.ntmps173 rfl rfl rfl mixed (by kernel_rfl) ?_
    refine AtLoop.mk ⟨RSt, fun x => [(3, iS ((x.j : Int) - 1)), (0, .yld 11), (1, .loc 10 0)], fun x => ⟨[mpB g, chB x.c, .cells 141 [.loc 1 0], .cells 141 [.loc 1 0], .cells 47 (tmQ t' ta tc), .cells 146 (setL x.k), .cells 147 [atC], .cells 45 [.v (.slice da (Tm.encL ds).length dc)], .cells 175 [.v (.slice ea (List.map scD ss).length ec)], .cells 31 (mdC m.1 e1 f1), .cells 29 [.v (.slice pa (List.map (D.int .i64) ps).length pc)], .lp ⟨111, [(5, .loc 3 0), (8, .loc 5 0), (9, .loc 6 0), (10, .loc 7 0), (11, .loc 8 0)], #[79, 80], rfAs Tryz.f98, rfBody Tryz.f98, .ready, none, exF Tryz.prog⟩], [], [mpR g, sbR s' sa sc, tmR t' ta tc, (.slice da (Tm.encL ds).length dc, .sl 4 (Tm.encL ds)), (.slice ea (List.map scD ss).length ec, .sl 1 (List.map scD ss)), (.slice pa (List.map (D.int .i64) ps).length pc, .sl 1 (List.map (D.int .i64) ps)), mdR m.1 e1 f1]⟩, fun x => roundsF x.n (er g) ds ss ps x.j x.k = some rr ∧ x.n ≤ n ∧ x.j ≤ ps.length, fun x => x.j, ⟨n, ps.length, k1, pr⟩, ⟨hrr, Nat.le_refl _, Nat.le_refl _⟩, ⟨qkr ps (by omega), rfl, rfl, trivial⟩, StLe.refl _, fun _ _ => ⟨rfl, rfl⟩, ?_⟩
    rintro ⟨q2, j, k2, cp⟩ ⟨hq, hqn, hj⟩
    simp only at hq hqn hj
    rcases q2 with _ | q2
    ·exact qe hq
    refine AtIf.mk (fun h3 => ?_) (fun h3 => ?_)
    ·rcases j with _ | j
     ·exact absurd (of_decide_eq_true h3) (by simp)
     rw [roundsF] at hq
     obtain ⟨p, hp, hq⟩ := bind_some hq
     obtain ⟨s1, hs1, hq⟩ := bind_some hq
     obtain ⟨hs0, hs1⟩ := qi hs1
     obtain ⟨d1, hd1, hq⟩ := bind_some hq
     obtain ⟨hd0, hd1⟩ := qi hd1
     obtain ⟨hlen, hq⟩ := qm hq
     have hlen := of_decide_eq_true hlen
     obtain ⟨ru, hru, hq⟩ := bind_some hq
     have hji : ((j + 1 : Nat) : Int) - 1 = (j : Int) := by omega
     refine qd (i := ((j + 1 : Nat) : Int) - 1) ttOK 5 rfl rfl rfl rfl (by omega) (qav (D.int .i64) (by rw [hji, Int.toNat_natCast]; exact hp)) ?_
     refine qcm (N := 111) (m := 13) (dt := drawsOf [(20, .node [0, 1, 2, 3, 4, 5, 6, 7, 8, 9, 10, 11, 12, 13, 14, 15] [(16, .node [] [(17, .node [] [(18, .node [] [(19, .leaf [])])])])], [18, 19], [])]) [] ttOK rfl rfl rfl rfl rfl rfl mixed (by kernel_rfl) (by kernel_rfl) ?_
     refine qb (N := 7) (m := 13) (dt := fun _ => none) [] ttOK Tryz.func99 rfl Tryz.call99 Tryz.ntmps99 rfl rfl rfl mixed (by kernel_rfl) ?_
     refine AtRet.gen _ (StLe.refl _) rfl rfl ?_
     refine qd ttOK 4 rfl rfl rfl rfl hs0 (qav scD hs1) ?_
     intro b5 d5 _ _
     refine qd ttOK 3 rfl rfl rfl rfl hd0 (Tm.encL_get hd1) ?_
     intro b6 d6 _ _
     refine qd ttOK 4 rfl rfl rfl rfl hs0 (qav scD hs1) ?_
     intro b7 d7 _ _
     refine (qkx k2 ((List.map D.bool s1).length : Int) (by omega) (by rw [List.length_map]; omega)).atR [] rfl rfl rfl ?_
     rintro _ _ ⟨rfl, rfl⟩
     refine ⟨fun _ _ h => h, ?_⟩
     rw [show ((List.map D.bool s1).length : Int).toNat = s1.length by rw [List.length_map, Int.toNat_natCast]]
     refine (hU q2 (by omega) g p s1 d1 (firstF k2 s1.length) b5 b6 d5 d6 ru hru).frameR [0, 1] [0, 7, 8] rfl rfl rfl rfl rfl rfl rfl rfl ?_
     rintro _ _ ⟨rfl, rfl⟩
     refine ⟨rfl, rfl, [mpB g, chB p], rfl, ?_⟩
     cases ru with
     | error a =>
      have hq := Option.some.inj hq
      subst hq
      have hr := Option.some.inj hr
      subst hr
      refine AtRet.gen _ (StLe.refl _) rfl rfl ?_
      refine AtRet.gen _ (StLe.refl _) rfl rfl ?_
      exact AtRet.gen ⟨[mpB g, chB p, .cells 141 [.loc 1 0]], [], []⟩ (StLe.gen 3 [] [] rfl rfl rfl rfl rfl rfl rfl) rfl rfl ⟨rfl, p, rfl⟩
     | ok k3 =>
      simp only at hq
      refine ⟨fun _ _ h => h, ?_⟩
      refine (qmk k2 k3).atR [] rfl rfl rfl ?_
      rintro _ _ ⟨rfl, rfl⟩
      refine AtRet.gen _ (StLe.refl _) rfl rfl ?_
      refine AtIf.mk (fun h => ff h) (fun _ => ?_)
      exact ⟨⟨q2, j, withF k2 k3, p⟩, ⟨hq, by show q2 ≤ n; omega, by show j ≤ ps.length; omega⟩, Nat.lt_succ_self _, ⟨qnu j (by omega), rfl, rfl, trivial⟩, StLe.gen 12 [] [.old 0, .old 1, .old 2, .old 3, .old 4, .old 5, .old 6] rfl rfl rfl rfl rfl rfl rfl⟩
    ·rcases j with _ | j
     ·rw [roundsF] at hq
      have hq := Option.some.inj hq
      subst hq
      simp only at hr
      obtain ⟨hai, hr⟩ := qm hr
      obtain ⟨hsl, hin⟩ := of_decide_eq_true hai
      have hr := Option.some.inj hr
      subst hr
      refine AtRet.gen _ (StLe.refl _) rfl rfl ?_
      refine qb (N := 7) (m := 12) (dt := fun _ => none) [] ttOK Tryz.func99 rfl Tryz.call99 Tryz.ntmps99 rfl rfl rfl mixed (by kernel_rfl) ?_
      refine AtRet.gen _ (StLe.refl _) rfl rfl ?_
      refine (qfa g (-1) s' m.1 t' 2 k2 sa e1 ta sc f1 tc hml hsl hin).frameR [0, 1] [1, 6, 2] rfl rfl rfl rfl rfl rfl rfl rfl ?_
      rintro _ _ ⟨rfl, rfl⟩
      refine ⟨rfl, rfl, [mpB g, chB (-1)], rfl, ?_⟩
      cases hdm : demandF s' 2 k2 m.1.signs t'.args 0 with
      | none =>
       exact AtRet.gen ⟨[mpB g, chB (-1), .cells 141 [.loc 1 0]], [], []⟩ (StLe.gen 3 [] [] rfl rfl rfl rfl rfl rfl rfl) rfl rfl ⟨rfl, (-1), rfl⟩
      | some i =>
       exact AtRet.gen ⟨[mpB g, chB (-1), .cells 141 [.loc 1 0]], [], []⟩ (StLe.gen 3 [] [] rfl rfl rfl rfl rfl rfl rfl) rfl rfl ⟨rfl, (-1), rfl⟩
     ·have h4 : ¬ (((j + 1 : Nat) : Int) - 1 ≥ 0) := of_decide_eq_false h3
      omega
end
end Go.Proofs.YtogicnodmgdnbaaGreat

namespace Go.Tr
section
open Go
section
variable {P : Program} {tt : Tab} {c : Cx} {ℓ : List Base} {kn : Atoms} {gen : Gen} {env : Env} {S : St} {a : Act} {w : World}
def Catches (P : Program) (h : FuncId) (cs : List SV) (v : SV) (S : St) (RS : St → Prop) : Prop := ∀ J ℓ w, Good J ℓ S w → Fresh J w →
 CallsDIn (fen none) 0 P h (qc ℓ cs).toArray (.panicking [{ v := v.den ℓ, recovered := false }]) w (fun e u' w' => (∃ x, e = .returned x) ∧ settle u' = .returning ∧ ∃ ℓ' S', Stepped J ℓ S w ℓ' S' w' ∧ RS S')
def vcEndR (P : Program) (tt : Tab) (m : Nat) (rs : List ResultVar) (fzE : Env) (h : FuncId) (cs : List SV) (R : Out → St → Prop) : X → Env → St → Prop
 | .pan v, _, S => fzE.isEmpty = false ∧ Catches P h cs v S (fun S' => match resOf tt S'.own fzE rs with
  | some r => AtRet m (.ret r) S' R
  | none => False)
 | x, env, S => vcEnd tt m rs R x env S
def vcEndQ (tt : Tab) (m : Nat) (rs : List ResultVar) (R : Out → St → Prop) : X → Env → St → Prop
 | .pan _, _, _ => False
 | x, env, S => vcEnd tt m rs R x env S
theorem qch : ∀ {ds : List Deferred}, marksOf ds = [] → restOf ds = ds
 | [], _ => rfl
 | d :: ds, h => by
  cases ht : d.target with
  | collected r => simp only [marksOf, ht] at h; cases h
  | _ =>
   simp only [marksOf, ht] at h
   simp only [restOf, ht, qch h]
theorem find_mem : ∀ {env : Env} {t : Nat} {s : SV}, find env t = some s → t ∈ env.map (·.1)
 | [], t, s, h => by simp [find] at h
 | (n, s1) :: e, t, s, h => by
  simp only [find] at h
  cases hb : Nat.beq n t with
  | true => have := Nat.eq_of_beq_eq_true hb; subst this; simp
  | false => rw [hb] at h; exact List.mem_cons_of_mem _ (find_mem h)
theorem Inv.rebase {c' : Cx} {ℓ1 : List Base} {kn1 : Atoms} {gen1 : Gen} {env1 : Env} {S1 : St} {a1 : Act} {w1 : World} (h1 : Inv c ℓ1 kn1 gen1 env1 S1 a1 w1) (hJ : c'.J = c.J) (hN : c'.N = c.N) (e1 : c'.ℓ0 = ℓ1) (e2 : c'.S0 = S1) (e3 : c'.w0 = w1) (hI : Inv c' ℓ kn gen env S a w) (hd : a.defers = []) (hcb : c.base = []) (hcz : ∀ t ∈ c.fz, a.tmps.getD t undef = c.t0.getD t undef) : Inv c ℓ kn gen env S a w := by
 subst e1 e2 e3
 refine ⟨⟨by rw [hI.size.1, hN], hcz, fun _ => by rw [hd]; rfl⟩, ⟨by rw [hd, hcb]; rfl, by rw [hd]; simp [marksOf], by rw [hd]; simp [marksOf]⟩, hI.env, hI.gen, hI.kn, ?_, h1.fresh0, h1.pre.trans hI.pre, h1.ext.then hI.ext h1.fresh, ?_⟩
 ·have hja : c'.Ja a = c.Ja a := by unfold Cx.Ja; rw [hJ]
  rw [← hja]; exact hI.good
 ·intro b hb
  rcases hI.fresh b hb with h2 | h2
  ·exact h1.fresh b h2
  ·exact .inr (Nat.le_trans h1.ext.size h2)
theorem Inv.clear (hI : Inv c ℓ kn gen env S a w) (hm : marksOf a.defers = []) : Inv { c with base := [] } ℓ kn gen env S { a with defers := [] } w := by
 refine ⟨⟨hI.size.1, hI.size.2.1, fun _ => rfl⟩, ⟨rfl, by simp [marksOf], by simp [marksOf]⟩, hI.env, hI.gen, hI.kn, ?_, hI.fresh0, hI.pre, hI.ext, hI.fresh⟩
 exact hI.good.toJ (fun b _ hb => ⟨hb.1, by simp [marksOf]⟩)
theorem qiv {f : FuncId} {fn : Func} {A B : Code} {id : Nat} {o1 o2 : Oper} {d : Nat} {h : FuncId} {tys : Array TypeId} {N m : Nat} {dt : Draws} {caps args : List SV} {R : Out → St → Prop} (fzE : Env) (m2 : Nat) (cuts : List Nat) (hT : TTOK P tt) (hf : P.funcs[f]? = some fn)
  (hb : fn.body = some (A.seq ((Code.region id #[o1, o2] false).seq B))) (hcall : ∀ ag w, (callFunc f ag).run P w = .ok (.enter f ag) w)
  (hN : fn.ntmps = N) (hle : Nat.ble (args ++ caps).length N = true) (hwf : qo S.own.length (args ++ caps) = true) (hm : S.own.length = m)
  (hD : P.follows .mixedOrders = true) (hdrA : DrawsOK dt A = true) (hdrB : DrawsOK dt B = true) (hzA : FzOK [N] A = true) (hzB : FzOK (fzE.map (·.1)) B = true)
  (h1g : o1.guard = none) (h1d : o1.dst = some d) (h1o : ∀ c, o1.op ≠ .defer c) (h2g : o2.guard = none) (h2d : o2.dst = none) (h2o : o2.op = .defer { callee := .value (.tmp d), args := #[], argTypes := tys }) (hdN : Nat.beq d N = false)
  (hcallh : ∀ ag w, (callFunc h ag).run P w = .ok (.enter h ag) w) (k : Nat) (hq : ∀ (ag : Array Value) (w : World), ag.size = k → CallsDIn (fen none) 0 P h ag .returning w (fun e u' w' => (∃ v, e = .returned v) ∧ u' = .returning ∧ w' = w))
  (hv : vcC P tt N m none dt A cuts (seqK (fun env S => ∃ cs, cs.length = k ∧ qo S.own.length cs = true ∧ Nat.beq S.own.length m2 = true ∧ stepPure tt S.own [] (getter [] env []) o1.op = some (.fn (.func h) [] cs) ∧ putK N (some d) (.fn (.func h) [] cs) [] [] env (fun env' => find env' d = some (.fn (.func h) [] cs) ∧ envLe env' fzE ∧ vcC P tt N m2 none dt B cuts (vcEndR P tt m fn.results.toList fzE h cs R) env' S)) (fun _ _ _ => False)) (argEnv 0 (args ++ caps)) S) : Meets P (.val (.fn (.func f) [] caps)) args S R := by
 intro J ℓ w hG hJ
 refine ⟨.enter f (qc ℓ (args ++ caps)).toArray, ?_, ?_⟩
 ·simp only [Cal.sem, SV.den, qc, Deferred.ofValue, Sem.run_bind, Sem.run_pure, Result.andThen_ok, invoke, qbh]
  simpa using hcall _ w
 ·let c : Cx := ⟨J, ℓ, S, w, N, none, [], [N], #[]⟩
  have hout : ∀ (Y : Array Value), Y.size = N → Y.getD N undef = (#[] : Array Value).getD N undef := by
   intro Y hY
   rw [Array.getD_eq_getD_getElem?, Array.getElem?_eq_none (by omega)]
   simp
  have hsz : (qc ℓ (args ++ caps)).toArray.size ≤ fn.ntmps := by
   rw [List.size_toArray, qp, hN]; exact Nat.le_of_ble_eq_true hle
  have hI : Inv c ℓ [] [] (argEnv 0 (args ++ caps)) S { tmps := (qc ℓ (args ++ caps)).toArray ++ Array.replicate (fn.ntmps - (qc ℓ (args ++ caps)).toArray.size) undef, defers := [] } w := by
   refine ⟨?_, ⟨rfl, by simp [marksOf], by simp [marksOf]⟩, ?_, fun t s tags h => by simp [gfind] at h, by simp [Holds], hG.toJ (fun b _ hb => ⟨hb, by simp [marksOf]⟩), hJ, List.prefix_refl _, Ext.refl _ _, fun b hb => .inl hb⟩
   ·have hs : ((qc ℓ (args ++ caps)).toArray ++ Array.replicate (fn.ntmps - (qc ℓ (args ++ caps)).toArray.size) undef).size = N := by
     rw [Array.size_append, Array.size_replicate]; omega
    refine ⟨hs, fun t ht => ?_, fun _ => rfl⟩
    have ht : t = N := by simpa [c] using ht
    subst ht
    exact hout _ hs
   ·intro t s hs
    obtain ⟨_, hs⟩ := qdr _ _ _ _ hs
    rw [Nat.sub_zero] at hs
    refine ⟨SV.wfL_iff.1 hwf s (List.mem_of_getElem? hs), ?_⟩
    have hlt : t < (args ++ caps).length := (List.getElem?_eq_some_iff.1 hs).1
    have hget : (qc ℓ (args ++ caps))[t]? = some (s.den ℓ) := by rw [qc4, hs]; rfl
    rw [Array.getD_eq_getD_getElem?, Array.getElem?_append_left (by rw [List.size_toArray, qp]; exact hlt)]
    simp [hget]
  have hm' : c.ℓ0.length = m := by rw [← hm]; exact hG.len
  refine qe0 (F := fen none) hf hb trivial (fun b hbf => ?_)
  have hbe : (P.funcs[b.fn]?).isSome = true := by rw [hbf, hf]; rfl
  refine qld (qbj (qdj (c := c) rfl hm' hT (fun i hi => by cases hi) hD (fun _ => hbe) A hdrA hzA cuts _ ℓ _ S _ w hI hv) ?_)
  intro e a1 w1 hq1
  cases e with
  | normal =>
   obtain ⟨ℓ1, env1, S1, hI1, cs, hk, hcw, hm2, hs1, hp1⟩ := hq1
   have hm2 := Nat.eq_of_beq_eq_true hm2
   refine qld (qf2 (qf4 ?_))
   show wpOpsIn (fen none) 0 P #[o1, o2] _ [0, 1] a1 w1
   have hpure := qao (hI1.pctx hT (by simp [Holds])) o1 hs1
   have hdz : ∀ e, some d = some e → e ∉ c.fz := by
    intro e he hmm
    injection he with he
    subst he
    have : d = N := by simpa [c] using hmm
    subst this
    rw [Nat.beq_refl] at hdN
    cases hdN
   obtain ⟨env2, ⟨hfd, hle2, hB⟩, hI2⟩ := qa1 (N := N) (c := c) rfl hdz hI1 hpure.1 hp1
   refine qgs (ro := none) (o := o1) rfl ?_
   rw [if_pos (by simp [Region.wanted, h1g])]
   refine up_wp h1o (qbm hpure.2 ?_)
   rw [h1d]
   refine qgs (ro := none) (o := o2) rfl ?_
   rw [if_pos (by simp [Region.wanted, h2g])]
   have hev := hI2.env d _ hfd
   have hden : (SV.fn (.func h) [] cs).den ℓ1 = .func (.func h) #[] (qc ℓ1 cs).toArray := by simp [SV.den, qc]
   have hres : (execOp (a1.put (some d) ((SV.fn (.func h) [] cs).den ℓ1)).eval o2).run P w1 = .ok (.defer { target := .fn (.func h) (qc ℓ1 cs).toArray, args := #[] }) w1 := by
    have he : (a1.put (some d) ((SV.fn (.func h) [] cs).den ℓ1)).eval (.tmp d) = .func (.func h) #[] (qc ℓ1 cs).toArray := by rw [← hden]; exact hev.2
    simp only [execOp, h2o, resolve, he, Deferred.ofValue, Sem.run_bind]
    simp [Sem.run_pure]
   refine ⟨fun _ _ => trivial, ?_⟩
   rw [show (fen none).round = none from rfl, Oper.semAt_none, hres, Oper.uponIn_defer, h2d]
   show Exit.then _ _ .normal _ _
   generalize ha2 : a1.put (some d) ((SV.fn (.func h) [] cs).den ℓ1) = a2 at hI2 ⊢
   have hmk2 : marksOf a2.defers = [] := hI2.size.2.2 (by simp [c])
   have hrs2 : a2.defers = [] := by rw [← qch hmk2]; exact hI2.defers.eq
   let d0 : Deferred := { target := .fn (.func h) (qc ℓ1 cs).toArray, args := #[] }
   let c2 : Cx := ⟨J, ℓ1, S1, w1, N, none, [d0], fzE.map (·.1), a2.tmps⟩
   have hI3 : Inv c2 ℓ1 [] [] env2 S1 { a2 with defers := d0 :: a2.defers } w1 := by
    rw [hrs2]
    refine ⟨⟨hI2.size.1, fun t _ => rfl, fun _ => rfl⟩, ⟨rfl, by simp [marksOf, d0], by simp [marksOf, d0]⟩, hI2.env, hI2.gen, hI2.kn, ?_, fun b hb => hI2.fresh0 b (Nat.le_trans hI2.ext.size hb), List.prefix_refl _, Ext.refl _ _, fun b hb => .inl hb⟩
    exact hI2.good.toJ (fun b _ hb => ⟨hb.1, by simp [marksOf, d0]⟩)
   have hm3 : c2.ℓ0.length = m2 := by rw [← hm2]; exact hI2.good.len
   show wpB b (fen none) 0 P B _ { a2 with defers := d0 :: a2.defers } w1
   refine qbj (qdj (c := c2) rfl hm3 hT (fun i hi => by cases hi) hD (fun _ => hbe) B hdrB hzB cuts _ ℓ1 env2 S1 _ w1 hI3 hB) ?_
   have hcden : ∀ ℓ', ℓ1 <+: ℓ' → qc ℓ' cs = qc ℓ1 cs := fun ℓ' hp => qaa (n := S1.own.length) (fun i hi => qbk hp (by rw [hI2.good.len]; exact hi)) cs hcw
   have fin : ∀ ℓ' env' S' a' w' r, Inv { c2 with base := [] } ℓ' [] [] env' S' a' w' → a'.defers = [] → resOf tt S'.own env' fn.results.toList = some r → AtRet m (.ret r) S' R → LeavesIn (fen none) 0 P fn a'.tmps (CallPost J ℓ S w R) [] .returning w' := by
    intro ℓ' env' S' a' w' r hI' hda hr hk2
    have hres := qfg (P := P) hT (fn := fn) hI' hr
    have hIc : Inv c ℓ' [] [] env' S' a' w' := Inv.rebase (c := c) (c' := { c2 with base := [] }) hI2 rfl rfl rfl rfl rfl hI' hda rfl (fun t ht => by
     have ht : t = N := by simpa [c] using ht
     subst ht
     exact hout _ hI'.size.1)
    exact ⟨_, hres.2, qki (c := c) rfl rfl rfl hm' hIc (fun b hb => hb.1) hk2⟩
   have hret : ∀ ℓ' env' S' a' w' r, Inv c2 ℓ' [] [] env' S' a' w' → resOf tt S'.own env' fn.results.toList = some r → AtRet m (.ret r) S' R → LeavesInM (fen none) 0 P fn a'.tmps (CallPost J ℓ S w R) a'.defers .returning w' := by
    intro ℓ' env' S' a' w' r hI' hr hk2
    refine qck (by simp) _ _ _ ?_ hI'.defers (fun w2 hs => ?_)
    ·intro d' hd'
     have hd' : d' = d0 := by simpa [c2] using hd'
     subst hd'
     refine ⟨rfl, _, _, h, (qc ℓ1 cs).toArray, rfl, fun w => ?_, fun w => hq _ w (by simp [qp, hk])⟩
     simp only [invoke, d0]
     simpa using hcallh _ w
    ·exact fin ℓ' env' S' { a' with defers := [] } _ r (hI'.shut hs) rfl hr hk2
   intro e a' w' hq2
   cases e with
   | normal =>
    obtain ⟨ℓ', env', S', hI', hk2⟩ := hq2
    simp only [vcEndR, vcEnd] at hk2
    split at hk2
    ·rename_i r hr
     exact hret _ _ _ _ _ _ hI' hr hk2
    ·exact hk2.elim
   | ret =>
    obtain ⟨ℓ', env', S', hI', hk2⟩ := hq2
    simp only [vcEndR, vcEnd] at hk2
    split at hk2
    ·rename_i r hr
     exact hret _ _ _ _ _ _ hI' hr hk2
    ·exact hk2.elim
   | exit id =>
    obtain ⟨ℓ', env', S', hI', hk2⟩ := hq2
    exact hk2.elim
   | goto l => exact hq2.elim
   | panic ch =>
    obtain ⟨ℓ', S', v, hI', hv, rfl, hk2⟩ := hq2
    obtain ⟨hne, hcat⟩ := hk2
    have hmk : marksOf a'.defers = [] := hI'.size.2.2 (by
     show fzE.map (·.1) ≠ []
     intro h0
     rw [List.map_eq_nil_iff] at h0
     subst h0
     cases hne)
    have hds : a'.defers = [d0] := by rw [← qch hmk]; exact hI'.defers.eq
    rw [show bodyPostM (fen none) 0 P fn (CallPost J ℓ S w R) (.panic [{ v := v.den ℓ', recovered := false }]) a' w' = LeavesInM (fen none) 0 P fn a'.tmps (CallPost J ℓ S w R) a'.defers (.panicking [{ v := v.den ℓ', recovered := false }]) w' from rfl, hds]
    refine ⟨by simp, .inr ⟨fun h => by simp [fen] at h, _, _, h, (qc ℓ1 cs).toArray, rfl, ?_, fun _ _ => trivial, ?_⟩⟩
    ·simp only [invoke, d0]
     simpa using hcallh _ w'
    ·have hcc := hcat (c2.Ja a') ℓ' w' hI'.good hI'.freshJ
     rw [hcden ℓ' hI'.pre] at hcc
     refine CallsDIn.mono hcc ?_
     rintro e u' w4 ⟨⟨x, rfl⟩, hset, ℓ4, S4, hst, hRS⟩
     simp only [hset]
     have hI4 := hI'.step hst
     have hI5 := hI4.clear hmk
     have hI6 : Inv { c2 with base := [] } ℓ4 [] [] fzE S4 { a' with defers := [] } w4 := by
      refine ⟨hI5.size, hI5.defers, ?_, hI5.gen, hI5.kn, hI5.good, hI5.fresh0, hI5.pre, hI5.ext, hI5.fresh⟩
      intro t s hs
      obtain ⟨hw1, hd1⟩ := hI2.env t s (qdf hle2 t s hs)
      have hmem : t ∈ fzE.map (·.1) := find_mem hs
      have hp4 : ℓ1 <+: ℓ4 := hI5.pre
      refine ⟨SV.wf_mono ?_ s hw1, ?_⟩
      ·rw [← hI2.good.len, ← hI5.good.len]; exact hp4.length_le
      ·have h1 := hI5.size.2.1 t hmem
       rw [h1]
       show a2.tmps.getD t undef = _
       rw [hd1]
       exact (qac (n := S1.own.length) (fun i hi => qbk hp4 (by rw [hI2.good.len]; exact hi)) s hw1).symm
     revert hRS
     split
     ·rename_i r hr
      intro hRS
      exact fin ℓ4 fzE S4 { a' with defers := [] } _ r hI6 rfl hr hRS
     ·exact fun hRS => hRS.elim
   | outgrown => exact hq2.elim
  | exit id => obtain ⟨ℓ', env', S', hI', hk2⟩ := hq1; exact hk2.elim
  | goto l => exact hq1.elim
  | ret => obtain ⟨ℓ', env', S', hI', hk2⟩ := hq1; exact hk2.elim
  | panic ch => obtain ⟨ℓ', S', v, hI', hv, rfl, hk2⟩ := hq1; exact hk2.elim
  | outgrown => exact hq1.elim
theorem catches_of {h : FuncId} {fn : Func} {B : Code} {id d : Nat} {o1 : Oper} {N m : Nat} {dt : Draws} {cs : List SV} {v : SV} {RS : St → Prop} (cuts : List Nat) (hT : TTOK P tt) (hf : P.funcs[h]? = some fn) (hb : fn.body = some ((Code.region id #[o1] false).seq B))
  (hN : fn.ntmps = N) (hle : Nat.ble cs.length N = true) (hwf : qo S.own.length cs = true) (hm : S.own.length = m) (hD : P.follows .mixedOrders = true) (hdr : DrawsOK dt B = true) (hz : FzOK [N] B = true)
  (h1g : o1.guard = none) (h1d : o1.dst = some d) (h1r : ∀ (ev : Operand → Value) (w : World), (execOp ev o1).run P w = .ok .recover w) (hdN : Nat.beq d N = false) (hvw : v.wf S.own.length = true)
  (hv : putK N (some d) v [] [] (argEnv 0 cs) (fun env' => vcC P tt N m none dt B cuts (vcEndQ tt m fn.results.toList (fun _ S' => RS S')) env' S)) : Catches P h cs v S RS := by
 intro J ℓ w hG hJ
 refine callsDIn_of_wpSIn hf hb trivial (fun c₀ cs0 hu => wpSIn_seq (wpSIn_region ?_))
 let c : Cx := ⟨J, ℓ, S, w, N, none, [], [N], #[]⟩
 have hout : ∀ (Y : Array Value), Y.size = N → Y.getD N undef = (#[] : Array Value).getD N undef := by
  intro Y hY
  rw [Array.getD_eq_getD_getElem?, Array.getElem?_eq_none (by omega)]
  simp
 have hsz : (qc ℓ cs).toArray.size ≤ fn.ntmps := by
  rw [List.size_toArray, qp, hN]; exact Nat.le_of_ble_eq_true hle
 have hI : Inv c ℓ [] [] (argEnv 0 cs) S { tmps := (qc ℓ cs).toArray ++ Array.replicate (fn.ntmps - (qc ℓ cs).toArray.size) undef, defers := [] } w := by
  refine ⟨?_, ⟨rfl, by simp [marksOf], by simp [marksOf]⟩, ?_, fun t s tags h => by simp [gfind] at h, by simp [Holds], hG.toJ (fun b _ hb => ⟨hb, by simp [marksOf]⟩), hJ, List.prefix_refl _, Ext.refl _ _, fun b hb => .inl hb⟩
  ·have hs : ((qc ℓ cs).toArray ++ Array.replicate (fn.ntmps - (qc ℓ cs).toArray.size) undef).size = N := by
    rw [Array.size_append, Array.size_replicate]; omega
   refine ⟨hs, fun t ht => ?_, fun _ => rfl⟩
   have ht : t = N := by simpa [c] using ht
   subst ht
   exact hout _ hs
  ·intro t s hs
   obtain ⟨_, hs⟩ := qdr _ _ _ _ hs
   rw [Nat.sub_zero] at hs
   refine ⟨SV.wfL_iff.1 hwf s (List.mem_of_getElem? hs), ?_⟩
   have hlt : t < cs.length := (List.getElem?_eq_some_iff.1 hs).1
   have hget : (qc ℓ cs)[t]? = some (s.den ℓ) := by rw [qc4, hs]; rfl
   rw [Array.getD_eq_getD_getElem?, Array.getElem?_append_left (by rw [List.size_toArray, qp]; exact hlt)]
   simp [hget]
 have hm' : c.ℓ0.length = m := by rw [← hm]; exact hG.len
 have hdz : ∀ e, some d = some e → e ∉ c.fz := by
  intro e he hmm
  injection he with he
  subst he
  have : d = N := by simpa [c] using hmm
  subst this
  rw [Nat.beq_refl] at hdN
  cases hdN
 obtain ⟨env2, hB, hI2⟩ := qa1 (N := N) (c := c) rfl hdz hI hvw hv
 have hrec : recoverD (c₀ :: cs0) = some (v.den ℓ, { c₀ with mode := .panicking [{ v := v.den ℓ, recovered := true }] } :: cs0) := by
  simp [recoverD, hu]
 rw [show List.range (#[o1] : Array Oper).size = [0] from rfl]
 have hop : (#[o1] : Array Oper)[0]? = some o1 := rfl
 simp only [wpOpsSIn, hop]
 refine ⟨fun _ _ => trivial, ?_⟩
 rw [if_pos (by simp [Region.wanted, h1g]), h1r]
 simp only [hrec, h1d]
 show B.wpSIn (fen none) 0 P _ _ _ _
 refine wpSIn_of_wpIn rfl (fun b => ?_)
 refine qbj (qdj (c := c) rfl hm' hT (fun i hi => by cases hi) hD (b := b) (fun h => by cases h) B hdr hz cuts _ ℓ env2 S _ w hI2 hB) ?_
 have hend : ∀ ℓ' env' S' a' w' r, Inv c ℓ' [] [] env' S' a' w' → resOf tt S'.own env' fn.results.toList = some r → AtRet m (.ret r) S' (fun _ S' => RS S') → a'.defers = [] ∧ ∃ u', ({ c₀ with mode := .panicking [{ v := v.den ℓ, recovered := true }] } :: cs0 : List Frame) = { c₀ with mode := u' } :: cs0 ∧ ∃ x, (results fn a'.tmps).run P w' = .ok x w' ∧ ((∃ y, Ending.returned x = .returned y) ∧ settle u' = .returning ∧ ∃ ℓ' S', Stepped J ℓ S w ℓ' S' w' ∧ RS S') := by
  intro ℓ' env' S' a' w' r hI' hr hk
  have hda : a'.defers = [] := by rw [← qch (hI'.size.2.2 (by simp [c]))]; exact hI'.defers.eq
  have hres := qfg (P := P) hT (fn := fn) hI' hr
  obtain ⟨ℓ2, o, S2, _, _, h1, h2, h3, h4, h5⟩ := qki (c := c) rfl rfl rfl hm' hI' (fun b hb => hb.1) hk
  exact ⟨hda, _, rfl, _, hres.2, ⟨_, rfl⟩, rfl, ℓ2, S2, ⟨h1, h2, h3, h4⟩, h5⟩
 intro e a' w' hq
 cases e with
 | normal =>
  obtain ⟨ℓ', env', S', hI', hk2⟩ := hq
  simp only [vcEndQ, vcEnd] at hk2
  split at hk2
  ·rename_i r hr
   exact hend _ _ _ _ _ _ hI' hr hk2
  ·exact hk2.elim
 | ret =>
  obtain ⟨ℓ', env', S', hI', hk2⟩ := hq
  simp only [vcEndQ, vcEnd] at hk2
  split at hk2
  ·rename_i r hr
   exact hend _ _ _ _ _ _ hI' hr hk2
  ·exact hk2.elim
 | exit id =>
  obtain ⟨ℓ', env', S', hI', hk2⟩ := hq
  exact hk2.elim
 | goto l => exact hq.elim
 | panic ch =>
  obtain ⟨ℓ', S', v, hI', hv, rfl, hk2⟩ := hq
  exact hk2.elim
 | outgrown => exact hq.elim
end
end
end Go.Tr

namespace Go.Proofs.YtogicnodmgdnbaaGreat
section
open Go.Tr Go Go.Proofs.Tryz
set_option maxRecDepth 100000
theorem top_spec (n : Nat) : TopC n := by
 rcases n with _ | n
 ·intro g pr s t k a1 a2 c1 c2 r hr
  rw [assumeF] at hr
  exact qe hr
 ·exact top_step n (both n).2
theorem quietC (xs : Array Value) (w : World) (h : xs.size = 3) : CallsDIn (fen none) 0 Tryz.prog 97 xs .returning w (fun e u' w' => (∃ v, e = .returned v) ∧ u' = .returning ∧ w' = w) := by
 obtain ⟨l⟩ := xs
 match l, h with
 | [p, q, r], _ =>
 refine callsDIn_of_wpSIn Tryz.func97 rfl trivial fun c₀ cs hu => ?_
 apply wpSIn_seq
 apply wpSIn_region
 simp [wpOpsSIn, go_sem, recoverD, hu, Tryz.ntmps97, Exit.thenS, fen]
 refine wpSIn_of_wpIn rfl ?_
 apply wpIn_block
 apply wpIn_seq
 apply wpIn_region
 simp [wpOpsIn, Oper.wpIn, Oper.uponIn, go_sem, Exit.then, Exit.thenS]
 refine wpIn_cond (t := true) (by simp [Act.eval, Array.replicate]) ?_
 simp only [if_true]
 apply wpIn_region
 simp [wpOpsIn, Oper.wpIn, Oper.uponIn, go_sem, Exit.then, Exit.thenS]
 cases c₀
 simp_all [bodyPostS, results, Tryz.results97]
theorem at_eql_nil {P : Program} {t T : TypeId} {x y : Operand} {s : SV} {ms : Array (String × TypeId)} {S : St} {K : SV → St → Prop} (hu : P.underlying t = some (.interface ms)) (h : K (.v (.bool false)) S) :
  AtPure P (fun ℓ => do eqGuard .eql t x y ((SV.ifc T s).den ℓ) ((SV.v .nilIface).den ℓ); binOp .eql t ((SV.ifc T s).den ℓ) ((SV.v .nilIface).den ℓ)) S K := by
 refine AtPure.val _ rfl (fun ℓ w => ?_) h
 have h1 : (Op.equal t (.iface T (s.den ℓ)) .nilIface).run P w = .ok false w := by
  unfold Op.equal
  rw [show Op.maxDepth = 9999 + 1 from rfl, Op.equalIn]
  simp only [Sem.run_bind, qk hu, Result.andThen_ok, Sem.run_pure]
 simp [eqGuard, binOp, SV.den, Sem.run_bind, h1, Sem.run_pure]
theorem at_assert {P : Program} {xt T : TypeId} {s : SV} {fs : Array Field} {S : St} {K : SV → St → Prop} (hu : P.underlying T = some (.struct fs)) (hs : s.wf S.own.length = true) (h : K (.tup [s, .v (.bool true)]) S) :
  AtPure P (fun ℓ => Instr.typeAssert ((SV.ifc T s).den ℓ) xt T true) S K := by
 refine AtPure.val _ (by simp [SV.wf, qo, hs]) (fun ℓ w => ?_) h
 simp [Instr.typeAssert, SV.den, qc, Sem.run_bind, qk hu, Sem.run_pure]
theorem qoj {S : St} {K : SV → St → Prop} (h : K (setS none7) S) : AtPure Tryz.prog (fun ℓ => Instr.build 146 (denParts ℓ []).toArray) S K :=
 AtPure.val (setS none7) (by kernel_rfl) (fun ℓ w => by kernel_rfl) h
abbrev sgR (sig : List Dc) (a : OA) (c : Nat) : Value × D := (.slice a ((Dc.encL sig).length) c, .sl 6 (Dc.encL sig))
def chkF : Option (Int × Int) → Int × Int × Int
 | none => (0, 0, 0)
 | some e => (e.1, e.2, 31)
set_option maxHeartbeats 8000000 in
theorem check_walk (n : Nat) (sig : List Dc) (d : Dc) (k : Int) (g : List (Int × GE Md)) (a2 : OA) (c2 : Nat) (hd : idx sig k = some d) (r : Option (Int × Int)) (hr : assumeF n (er g) [] d.cls none7 = some r) :
  Meets Tryz.prog (fnS 54) [.v (.slice a2 ((Dc.encL sig).length) c2), .mp 0, iS k] ⟨[mpB g], [], [sgR sig a2 c2, mpR g]⟩ (fun o S' => o = .ret (.tup [iS (chkF r).1, iS (chkF r).2.1, iS (chkF r).2.2]) ∧ S' = ⟨[mpB g], [], []⟩) := by
 obtain ⟨nm, cls, imp⟩ := d
 simp only at hr
 obtain ⟨hk0, hk1⟩ := qi hd
 refine qiv (N := 23) (m := 1) (dt := drawsOf [(3, .node [0, 1, 2, 3, 4, 5, 6, 7] [(8, .leaf [])], [8], [])]) (d := 10) (h := 97) [(6, .loc 1 0), (7, .loc 2 0), (8, .loc 3 0)] 4 [] ttOK Tryz.func54 rfl Tryz.call54 Tryz.ntmps54 rfl rfl rfl mixed (by kernel_rfl) (by kernel_rfl) (by kernel_rfl) (by kernel_rfl) rfl rfl (fun c h => by cases h) rfl rfl rfl rfl Tryz.call97 3 quietC ?_
 refine ⟨[.loc 1 0, .loc 2 0, .loc 3 0], rfl, rfl, rfl, rfl, ?_⟩
 refine ⟨rfl, ⟨rfl, rfl, rfl, trivial⟩, ?_⟩
 refine qd ttOK 0 rfl rfl rfl rfl hk0 (Dc.encL_get hk1) ?_
 intro b1 d1 _ _
 refine qoj ?_
 refine Meets.le (S' := ⟨[mpB g, .cells 3 [iS 0], .cells 3 [iS 0], .cells 32 [iS 0], chB (-1), .cells 141 [.loc 4 0], .imm [.v (.string nm), iS cls.op, iS cls.hd, iS cls.n, .v (.slice b1 (Tm.encL cls.args).length d1), iS imp]], [], [sgR sig a2 c2, mpR g, tmR cls b1 d1, (.slice none 0 0, .sl 1 [])]⟩) (StLe.gen 7 [] [.old 0, .old 1, .old 2, .nil 1] rfl rfl rfl rfl rfl rfl rfl) rfl ?_
 refine (top_spec n g (-1) [] cls none7 none b1 0 d1 r hr).frameR [0, 4, 5] [1, 3, 2] rfl rfl rfl rfl rfl rfl rfl rfl ?_
 rintro _ _ ⟨rfl, c', rfl⟩
 refine ⟨rfl, rfl, [mpB g, chB c', .cells 141 [.loc 4 0]], rfl, ?_⟩
 cases r with
 | none => exact AtRet.gen ⟨[mpB g], [], []⟩ (StLe.gen 1 [] [] rfl rfl rfl rfl rfl rfl rfl) rfl rfl ⟨rfl, rfl⟩
 | some e =>
  refine ⟨rfl, ?_⟩
  refine catches_of (N := 16) (m := 7) (d := 6) (dt := drawsOf [(7, .node [0, 1, 2, 3] [(4, .node [] [(5, .node [] [(6, .leaf [])])])], [5, 6], [1])]) [] ttOK Tryz.func97 rfl Tryz.ntmps97 rfl rfl rfl mixed (by kernel_rfl) (by kernel_rfl) rfl rfl (fun ev w => rfl) rfl rfl ?_
  refine at_eql_nil (ms := #[]) (by kernel_rfl) ?_
  refine AtIf.mk (fun h => ff h) (fun _ => ?_)
  refine at_assert Tryz.underlying140 rfl ?_
  refine AtIf.mk (fun _ => ?_) (fun h => tf h)
  refine ⟨fun _ _ h => h, ?_⟩
  refine AtRet.gen _ (StLe.refl _) rfl rfl ?_
  exact AtRet.gen ⟨[mpB g], [], []⟩ (StLe.gen 1 [] [] rfl rfl rfl rfl rfl rfl rfl) rfl rfl ⟨rfl, rfl⟩
end

section
open Go.Tr Go Go.Proofs.Tryz
set_option maxRecDepth 10000
def qco (n : Nat) (sig : List Dc) (k : Int) (g : List (Int × Md)) : Option (Int × Int × Int) := (idx sig k).bind (fun d => (assumeF n g [] d.cls none7).bind (fun r => some (chkF r)))
theorem qis (n : Nat) (v1 : (List Dc)) (v3 : Int) (g5 : (List (Int × GE Md))) (a2 : OA) (c2 : Nat) (r : Int × Int × Int) (hr : qco n v1 v3 (er g5) = some r) : Meets Tryz.prog (.val (.fn (.func 54) [] [])) [(.v (.slice a2 ((Dc.encL v1).length) c2)), (.mp 0), (.v (.int .i64 v3))] ⟨[.obj (mapO .i64 (encM Md.gv g5))], [], [(.slice a2 ((Dc.encL v1).length) c2, .sl 6 (Dc.encL v1)), (agV 1 Md.gp g5, agD 1 Md.gp g5)]⟩ (fun o S' => o = .ret (.tup [(.v (.int .i64 r.1)), (.v (.int .i64 r.2.1)), (.v (.int .i64 r.2.2))]) ∧ S' = ⟨[.obj (mapO .i64 (encM Md.gv g5))], [], []⟩) := by
 unfold qco at hr
 obtain ⟨d, hd, hr⟩ := bind_some hr
 obtain ⟨q, hq, hr⟩ := bind_some hr
 have hr := Option.some.inj hr
 subst hr
 exact check_walk n v1 d v3 g5 a2 c2 hd q hq
end
end Go.Proofs.YtogicnodmgdnbaaGreat

namespace Go.Tr
section
open Go
def copyL {α : Type} (a b : List α) : List α := a.take b.length ++ b.drop a.length
theorem qnb {α : Type} (a b : List α) : (copyL a b).length = b.length := by
 simp only [copyL, List.length_append, List.length_take, List.length_drop]
 omega
end

section
open Go
end
end Go.Tr

namespace Go.Proofs.YtogicnodmgdnbaaGreat
section
open Go.Tr Go Go.Proofs.Tryz
set_option maxRecDepth 10000
mutual
def R14_State_known : Nat → Sta → Tm → Option (Bool)
 | 0, _, _ => none
 | n + 1, v1, v4 =>
  (R03_Free n v4).bind (fun v6 =>
  R14_State_known_L1 n v6 v1 0)
def R14_State_known_L1 : Nat → (List Int) → Sta → Int → Option (Bool)
 | 0, _, _, _ => none
 | n + 1, v6, v1, v24 =>
  cond (decide (v24 < ((List.map (D.int .i64) v6).length : Int))) (
  (idx v6 v24).bind (fun v26 =>
  (idx v1.opn (IntKind.i64.wrap ((IntKind.i64.wrap (((List.map D.bool v1.opn).length : Int) - 1)) - v26))).bind (fun v30 =>
  cond v30 (
  (idx v1.known (IntKind.i64.wrap ((IntKind.i64.wrap (((List.map D.bool v1.opn).length : Int) - 1)) - v26))).bind (fun v35 =>
  cond (!v35) (
  some (false)) (
  R14_State_known_L1 n v6 v1 (IntKind.i64.wrap (v24 + 1))))) (
  R14_State_known_L1 n v6 v1 (IntKind.i64.wrap (v24 + 1)))))) (
  some (true))
 end
mutual
def R14_State_unknown : Nat → Sta → Md → (List Tm) → Int → Option (Int)
 | 0, _, _, _, _ => none
 | n + 1, v1, v4, v6, v8 =>
  R14_State_unknown_L1 n v6 v4 v8 v1 0
def R14_State_unknown_L1 : Nat → (List Tm) → Md → Int → Sta → Int → Option (Int)
 | 0, _, _, _, _, _ => none
 | n + 1, v6, v4, v8, v1, v23 =>
  cond (decide (v23 < ((Tm.encL v6).length : Int))) (
  (idx v4.signs v23).bind (fun v25 =>
  cond (v25 == v8) (
  (idx v6 v23).bind (fun v30 =>
  (R14_State_known n v1 v30).bind (fun v35 =>
  cond (!v35) (
  some (v23)) (
  R14_State_unknown_L1 n v6 v4 v8 v1 (IntKind.i64.wrap (v23 + 1)))))) (
  R14_State_unknown_L1 n v6 v4 v8 v1 (IntKind.i64.wrap (v23 + 1))))) (
  some ((-1)))
 end
def R14_State_First : Nat → Sta → Int → Option (Sta)
 | 0, _, _ => none
 | n + 1, v1, v4 =>
  cond (decide ((0 : Int) ≤ (0 : Int) ∧ (0 : Int) ≤ v4 ∧ v4 ≤ ((List.map D.bool v1.opn).length : Int))) (
  cond (decide ((0 : Int) ≤ (0 : Int) ∧ (0 : Int) ≤ v4 ∧ v4 ≤ ((List.map D.bool v1.known).length : Int))) (
  cond (decide ((List.map D.bool (v1.opn.take v4.toNat)).length ≤ 1000000)) (
  cond (decide ((List.map D.bool (v1.known.take v4.toNat)).length ≤ 1000000)) (
  some ((Sta.mk (v1.opn.take v4.toNat) (v1.known.take v4.toNat)))) none) none) none) none
mutual
def R14_State_strict : Nat → Sta → Tm → Int → (List Bool) → Option ((List Bool))
 | 0, _, _, _, _ => none
 | n + 1, v1, v4, v6, v7 =>
  cond (v4.op == 3) (
  (idx v4.args 0).bind (fun v10 =>
  (R14_State_strict n v1 v10 (IntKind.i64.wrap (v6 + 1)) v7).bind (fun v15 =>
  cond (decide (v15.length = v7.length)) (
  some (v15)) none))) (
  cond (v4.op == 2) (
  (idx v4.args 0).bind (fun v22 =>
  (R14_State_strict n v1 v22 v6 v7).bind (fun v27 =>
  (idx v4.args 1).bind (fun v32 =>
  (R14_State_strict n v1 v32 (IntKind.i64.wrap (v6 + 1)) v27).bind (fun v37 =>
  cond (decide (v37.length = v7.length)) (
  some (v37)) none))))) (
  cond (((v4.op == 4) && (v4.hd == 1)) && (decide (v4.n ≥ v6))) (
  (idx v1.opn (IntKind.i64.wrap ((IntKind.i64.wrap (((List.map D.bool v1.opn).length : Int) - 1)) - (IntKind.i64.wrap (v4.n - v6))))).bind (fun v44 =>
  cond v44 (
  (R14_State_pattern n v1 v4.args v6).bind (fun v49 =>
  cond v49 (
  cond (decide (0 ≤ (IntKind.i64.wrap ((IntKind.i64.wrap (((List.map D.bool v1.opn).length : Int) - 1)) - (IntKind.i64.wrap (v4.n - v6)))) ∧ ((IntKind.i64.wrap ((IntKind.i64.wrap (((List.map D.bool v1.opn).length : Int) - 1)) - (IntKind.i64.wrap (v4.n - v6))))).toNat < (List.map D.bool v7).length)) (
  cond (decide ((v7.set (((IntKind.i64.wrap ((IntKind.i64.wrap (((List.map D.bool v1.opn).length : Int) - 1)) - (IntKind.i64.wrap (v4.n - v6))))).toNat) true).length = v7.length)) (
  some ((v7.set (((IntKind.i64.wrap ((IntKind.i64.wrap (((List.map D.bool v1.opn).length : Int) - 1)) - (IntKind.i64.wrap (v4.n - v6))))).toNat) true))) none) none) (
  cond (decide (v7.length = v7.length)) (
  some (v7)) none))) (
  R14_State_strict_L1 n v4 v1 v6 v7 v7 0))) (
  R14_State_strict_L1 n v4 v1 v6 v7 v7 0)))
def R14_State_strict_L1 : Nat → Tm → Sta → Int → (List Bool) → (List Bool) → Int → Option ((List Bool))
 | 0, _, _, _, _, _, _ => none
 | n + 1, v4, v1, v6, v7, v70, v71 =>
  cond (decide (v71 < ((Tm.encL v4.args).length : Int))) (
  (idx v4.args v71).bind (fun v73 =>
  (R14_State_strict n v1 v73 v6 v70).bind (fun v78 =>
  R14_State_strict_L1 n v4 v1 v6 v7 v78 (IntKind.i64.wrap (v71 + 1))))) (
  cond (decide (v70.length = v7.length)) (
  some (v70)) none)
 end
mutual
def R14_State_Learn : Nat → Sta → Md → (List Tm) → Int → Option (Sta)
 | 0, _, _, _, _ => none
 | n + 1, v1, v4, v6, v8 =>
  (R14_State_First n v1 ((List.map D.bool v1.opn).length : Int)).bind (fun v9 =>
  R14_State_Learn_L1 n v6 v4 v8 v1 v9 0)
def R14_State_Learn_L1 : Nat → (List Tm) → Md → Int → Sta → Sta → Int → Option (Sta)
 | 0, _, _, _, _, _, _ => none
 | n + 1, v6, v4, v8, v1, v29, v32 =>
  cond (decide (v32 < ((Tm.encL v6).length : Int))) (
  (idx v4.signs v32).bind (fun v34 =>
  cond (v34 == v8) (
  (idx v6 v32).bind (fun v39 =>
  (R14_State_strict n v1 v39 0 v29.known).bind (fun v44 =>
  R14_State_Learn_L1 n v6 v4 v8 v1 (Sta.mk v29.opn v44) (IntKind.i64.wrap (v32 + 1))))) (
  R14_State_Learn_L1 n v6 v4 v8 v1 v29 (IntKind.i64.wrap (v32 + 1))))) (
  some (v29))
 end
mutual
def R14_Find : Nat → (List Md) → Int → Option (Int)
 | 0, _, _ => none
 | n + 1, v1, v3 =>
  R14_Find_L1 n v1 v3 0
def R14_Find_L1 : Nat → (List Md) → Int → Int → Option (Int)
 | 0, _, _, _ => none
 | n + 1, v1, v3, v11 =>
  cond (decide (v11 < ((Md.encL v1).length : Int))) (
  (idx v1 v11).bind (fun v13 =>
  cond (v13.family == v3) (
  some (v11)) (
  R14_Find_L1 n v1 v3 (IntKind.i64.wrap (v11 + 1))))) (
  some ((-1)))
 end
mutual
def R14_Use : Nat → (List Md) → Sta → Tm → Option (Sta × Bool × Int)
 | 0, _, _, _ => none
 | n + 1, v1, v3, v6 =>
  cond (v6.op == 2) (
  (idx v6.args 0).bind (fun v9 =>
  (R14_Assume n v1 v3 v9).bind (fun v14 =>
  cond (!v14.2.2) (
  some (v3, false, v14.2.1)) (
  (idx v6.args 1).bind (fun v17 =>
  (R14_State_With n v3 false).bind (fun v22 =>
  (R14_Use n v1 v22 v17).bind (fun v26 =>
  (R14_State_First n v26.1 ((List.map D.bool v3.opn).length : Int)).bind (fun v35 =>
  some (v35, v26.2.1, v26.2.2))))))))) (
  (R14_Find n v1 v6.n).bind (fun v45 =>
  cond (decide (v45 < 0)) (
  some (v3, false, (-1))) (
  (idx v1 v45).bind (fun v48 =>
  (R14_State_unknown n v3 v48 v6.args 1).bind (fun v53 =>
  cond (decide (v53 ≥ 0)) (
  some (v3, false, v53)) (
  (idx v1 v45).bind (fun v56 =>
  (R14_State_Learn n v3 v56 v6.args 2).bind (fun v61 =>
  some (v61, true, 0)))))))))
def R14_Assume : Nat → (List Md) → Sta → Tm → Option (Int × Int × Bool)
 | 0, _, _, _ => none
 | n + 1, v1, v3, v6 =>
  (R03_Split n v6).bind (fun v8 =>
  (R14_Find n v1 v8.2.n).bind (fun v12 =>
  cond (decide (v12 < 0)) (
  some (0, 0, true)) (
  (R14_Dependent n v6).bind (fun v15 =>
  R14_Assume_L1 n v8 v15 v1 v12 v3 v3 0))))
def R14_Assume_L2 : Nat → (List Bool) → ((List Tm) × Tm) → Sta → (List Md) → Int → Sta → Int → Option (Int × Int × Bool)
 | 0, _, _, _, _, _, _, _ => none
 | n + 1, v15, v8, v3, v1, v12, v85, v88 =>
  cond (decide (v88 ≥ 0)) (
  (idx v15 v88).bind (fun v91 =>
  cond v91 (
  R14_Assume_L2 n v15 v8 v3 v1 v12 v85 (IntKind.i64.wrap (v88 - 1))) (
  (idx v8.1 v88).bind (fun v96 =>
  (R14_State_First n v85 (IntKind.i64.wrap (((List.map D.bool v3.opn).length : Int) + v88))).bind (fun v101 =>
  (R14_Use n v1 v101 v96).bind (fun v105 =>
  cond (!v105.2.1) (
  some (v88, v105.2.2, false)) (
  R14_Assume_L2 n v15 v8 v3 v1 v12 (Sta.mk v85.opn (copyL v105.1.known v85.known)) (IntKind.i64.wrap (v88 - 1))))))))) (
  (idx v1 v12).bind (fun v123 =>
  (R14_State_unknown n v85 v123 v8.2.args 2).bind (fun v128 =>
  cond (decide (v128 ≥ 0)) (
  some ((-1), v128, false)) (
  some (0, 0, true)))))
def R14_Assume_L1 : Nat → ((List Tm) × Tm) → (List Bool) → (List Md) → Int → Sta → Sta → Int → Option (Int × Int × Bool)
 | 0, _, _, _, _, _, _, _ => none
 | n + 1, v8, v15, v1, v12, v3, v27, v30 =>
  cond (decide (v30 < ((Tm.encL v8.1).length : Int))) (
  (idx v15 v30).bind (fun v32 =>
  (R14_State_With n v27 v32).bind (fun v36 =>
  R14_Assume_L1 n v8 v15 v1 v12 v3 v36 (IntKind.i64.wrap (v30 + 1))))) (
  (idx v1 v12).bind (fun v40 =>
  (R14_State_Learn n v27 v40 v8.2.args 1).bind (fun v45 =>
  R14_Assume_L2 n v15 v8 v3 v1 v12 v45 (IntKind.i64.wrap (((Tm.encL v8.1).length : Int) - 1)))))
 end
def R14_Check : Nat → (List Dc) → (List Md) → Int → Option (Int × Int × Bool)
 | 0, _, _, _ => none
 | n + 1, v1, v3, v5 =>
  (idx v1 v5).bind (fun v6 =>
  (R14_Assume n v3 (Sta.mk ([]) ([])) v6.cls).bind (fun v11 =>
  some (v11.1, v11.2.1, v11.2.2)))
end
end Go.Proofs.YtogicnodmgdnbaaGreat
