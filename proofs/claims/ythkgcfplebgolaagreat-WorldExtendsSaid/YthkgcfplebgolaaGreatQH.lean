/- Merged texts: FwU Gp Gv Gt Gw Gx2 Gy Gl Garr Gun Gfld Gmk Gu Gq U1 FwV. Conditions stand in each rule. -/
import Derived.Test.YthkgcfplebgolaaGreatQG
import Derived.RecoverIn
import Derived.Laws.CopyRow
import Derived.Laws.IdiomCopy
set_option linter.unusedSimpArgs false
set_option linter.unusedVariables false

namespace Go.Tr
section
open Go
section
variable {P : Program} {tt : Tab} {c : Cx} {ℓ : List Base} {kn : Atoms} {gen : Gen} {env : Env} {S : St} {a : Act} {w : World}
def Catches (P : Program) (h : FuncId) (cs : List SV) (v : SV) (S : St) (RS : St → Prop) : Prop := ∀ J ℓ w, Good J ℓ S w → Fresh J w →
 CallsDIn (fen none) 0 P h (qd ℓ cs).toArray (.panicking [{ v := v.den ℓ, recovered := false }]) w (fun e u' w' => (∃ x, e = .returned x) ∧ settle u' = .returning ∧ ∃ ℓ' S', Stepped J ℓ S w ℓ' S' w' ∧ RS S')
def vcEndR (P : Program) (tt : Tab) (m : Nat) (rs : List ResultVar) (fzE : Env) (h : FuncId) (cs : List SV) (R : Out → St → Prop) : X → Env → St → Prop
 | .pan v, _, S => fzE.isEmpty = false ∧ Catches P h cs v S (fun S' => match resOf tt S'.own fzE rs with
  | some r => AtRet m (.ret r) S' R
  | none => False)
 | x, env, S => vcEnd tt m rs R x env S
def vcEndQ (tt : Tab) (m : Nat) (rs : List ResultVar) (R : Out → St → Prop) : X → Env → St → Prop
 | .pan _, _, _ => False
 | x, env, S => vcEnd tt m rs R x env S
theorem qax : ∀ {ds : List Deferred}, marksOf ds = [] → restOf ds = ds
 | [], _ => rfl
 | d :: ds, h => by
  cases ht : d.target with
  | collected r => simp only [marksOf, ht] at h; cases h
  | _ =>
   simp only [marksOf, ht] at h
   simp only [restOf, ht, qax h]
theorem qiw : ∀ {env : Env} {t : Nat} {s : SV}, find env t = some s → t ∈ env.map (·.1)
 | [], t, s, h => by simp [find] at h
 | (n, s1) :: e, t, s, h => by
  simp only [find] at h
  cases hb : Nat.beq n t with
  | true => have := Nat.eq_of_beq_eq_true hb; subst this; simp
  | false => rw [hb] at h; exact List.mem_cons_of_mem _ (qiw h)
theorem qhq {c' : Cx} {ℓ1 : List Base} {kn1 : Atoms} {gen1 : Gen} {env1 : Env} {S1 : St} {a1 : Act} {w1 : World} (h1 : Inv c ℓ1 kn1 gen1 env1 S1 a1 w1) (hJ : c'.J = c.J) (hN : c'.N = c.N) (e1 : c'.ℓ0 = ℓ1) (e2 : c'.S0 = S1) (e3 : c'.w0 = w1) (hI : Inv c' ℓ kn gen env S a w) (hd : a.defers = []) (hcb : c.base = []) (hcz : ∀ t ∈ c.fz, a.tmps.getD t undef = c.t0.getD t undef) : Inv c ℓ kn gen env S a w := by
 subst e1 e2 e3
 refine ⟨⟨by rw [hI.size.1, hN], hcz, fun _ => by rw [hd]; rfl⟩, ⟨by rw [hd, hcb]; rfl, by rw [hd]; simp [marksOf], by rw [hd]; simp [marksOf]⟩, hI.env, hI.gen, hI.kn, ?_, h1.fresh0, h1.pre.trans hI.pre, h1.ext.then hI.ext h1.fresh, ?_⟩
 ·have hja : c'.Ja a = c.Ja a := by unfold Cx.Ja; rw [hJ]
  rw [← hja]; exact hI.good
 ·intro b hb
  rcases hI.fresh b hb with h2 | h2
  ·exact h1.fresh b h2
  ·exact .inr (Nat.le_trans h1.ext.size h2)
theorem Inv.clear (hI : Inv c ℓ kn gen env S a w) (hm : marksOf a.defers = []) : Inv { c with base := [] } ℓ kn gen env S { a with defers := [] } w := by
 refine ⟨⟨hI.size.1, hI.size.2.1, fun _ => rfl⟩, ⟨rfl, by simp [marksOf], by simp [marksOf]⟩, hI.env, hI.gen, hI.kn, ?_, hI.fresh0, hI.pre, hI.ext, hI.fresh⟩
 exact hI.good.toJ (fun b _ hb => ⟨hb.1, by simp [marksOf]⟩)
theorem qcy {h : FuncId} {fn : Func} {B : Code} {id d : Nat} {o1 : Oper} {N m : Nat} {dt : Draws} {cs : List SV} {v : SV} {RS : St → Prop} (cuts : List Nat) (hT : TTOK P tt) (hf : P.funcs[h]? = some fn) (hb : fn.body = some ((Code.region id #[o1] false).seq B))
  (hN : fn.ntmps = N) (hle : Nat.ble cs.length N = true) (hwf : qr S.own.length cs = true) (hm : S.own.length = m) (hD : P.follows .mixedOrders = true) (hdr : DrawsOK dt B = true) (hz : FzOK [N] B = true)
  (h1g : o1.guard = none) (h1d : o1.dst = some d) (h1r : ∀ (ev : Operand → Value) (w : World), (execOp ev o1).run P w = .ok .recover w) (hdN : Nat.beq d N = false) (hvw : v.wf S.own.length = true)
  (hv : putK N (some d) v [] [] (argEnv 0 cs) (fun env' => vcC P tt N m none dt B cuts (vcEndQ tt m fn.results.toList (fun _ S' => RS S')) env' S)) : Catches P h cs v S RS := by
 intro J ℓ w hG hJ
 refine callsDIn_of_wpSIn hf hb trivial (fun c₀ cs0 hu => wpSIn_seq (wpSIn_region ?_))
 let c : Cx := ⟨J, ℓ, S, w, N, none, [], [N], #[]⟩
 have hout : ∀ (Y : Array Value), Y.size = N → Y.getD N undef = (#[] : Array Value).getD N undef := by
  intro Y hY
  rw [Array.getD_eq_getD_getElem?, Array.getElem?_eq_none (by omega)]
  simp
 have hsz : (qd ℓ cs).toArray.size ≤ fn.ntmps := by
  rw [List.size_toArray, qo, hN]; exact Nat.le_of_ble_eq_true hle
 have hI : Inv c ℓ [] [] (argEnv 0 cs) S { tmps := (qd ℓ cs).toArray ++ Array.replicate (fn.ntmps - (qd ℓ cs).toArray.size) undef, defers := [] } w := by
  refine ⟨?_, ⟨rfl, by simp [marksOf], by simp [marksOf]⟩, ?_, fun t s tags h => by simp [gfind] at h, by simp [Holds], hG.toJ (fun b _ hb => ⟨hb, by simp [marksOf]⟩), hJ, List.prefix_refl _, Ext.refl _ _, fun b hb => .inl hb⟩
  ·have hs : ((qd ℓ cs).toArray ++ Array.replicate (fn.ntmps - (qd ℓ cs).toArray.size) undef).size = N := by
    rw [Array.size_append, Array.size_replicate]; omega
   refine ⟨hs, fun t ht => ?_, fun _ => rfl⟩
   have ht : t = N := by simpa [c] using ht
   subst ht
   exact hout _ hs
  ·intro t s hs
   obtain ⟨_, hs⟩ := qb9 _ _ _ _ hs
   rw [Nat.sub_zero] at hs
   refine ⟨SV.wfL_iff.1 hwf s (List.mem_of_getElem? hs), ?_⟩
   have hlt : t < cs.length := (List.getElem?_eq_some_iff.1 hs).1
   have hget : (qd ℓ cs)[t]? = some (s.den ℓ) := by rw [qcx, hs]; rfl
   rw [Array.getD_eq_getD_getElem?, Array.getElem?_append_left (by rw [List.size_toArray, qo]; exact hlt)]
   simp [hget]
 have hm' : c.ℓ0.length = m := by rw [← hm]; exact hG.len
 have hdz : ∀ e, some d = some e → e ∉ c.fz := by
  intro e he hmm
  injection he with he
  subst he
  have : d = N := by simpa [c] using hmm
  subst this
  rw [Nat.beq_refl] at hdN
  cases hdN
 obtain ⟨env2, hB, hI2⟩ := qa6 (N := N) (c := c) rfl hdz hI hvw hv
 have hrec : recoverD (c₀ :: cs0) = some (v.den ℓ, { c₀ with mode := .panicking [{ v := v.den ℓ, recovered := true }] } :: cs0) := by
  simp [recoverD, hu]
 rw [show List.range (#[o1] : Array Oper).size = [0] from rfl]
 have hop : (#[o1] : Array Oper)[0]? = some o1 := rfl
 simp only [wpOpsSIn, hop]
 refine ⟨fun _ _ => trivial, ?_⟩
 rw [if_pos (by simp [Region.wanted, h1g]), h1r]
 simp only [hrec, h1d]
 show B.wpSIn (fen none) 0 P _ _ _ _
 refine wpSIn_of_wpIn rfl (fun b => ?_)
 refine qav (qa8 (c := c) rfl hm' hT (fun i hi => by cases hi) hD (b := b) (fun h => by cases h) B hdr hz cuts _ ℓ env2 S _ w hI2 hB) ?_
 have hend : ∀ ℓ' env' S' a' w' r, Inv c ℓ' [] [] env' S' a' w' → resOf tt S'.own env' fn.results.toList = some r → AtRet m (.ret r) S' (fun _ S' => RS S') → a'.defers = [] ∧ ∃ u', ({ c₀ with mode := .panicking [{ v := v.den ℓ, recovered := true }] } :: cs0 : List Frame) = { c₀ with mode := u' } :: cs0 ∧ ∃ x, (results fn a'.tmps).run P w' = .ok x w' ∧ ((∃ y, Ending.returned x = .returned y) ∧ settle u' = .returning ∧ ∃ ℓ' S', Stepped J ℓ S w ℓ' S' w' ∧ RS S') := by
  intro ℓ' env' S' a' w' r hI' hr hk
  have hda : a'.defers = [] := by rw [← qax (hI'.size.2.2 (by simp [c]))]; exact hI'.defers.eq
  have hres := qb5 (P := P) hT (fn := fn) hI' hr
  obtain ⟨ℓ2, o, S2, _, _, h1, h2, h3, h4, h5⟩ := qf0 (c := c) rfl rfl rfl hm' hI' (fun b hb => hb.1) hk
  exact ⟨hda, _, rfl, _, hres.2, ⟨_, rfl⟩, rfl, ℓ2, S2, ⟨h1, h2, h3, h4⟩, h5⟩
 intro e a' w' hq
 cases e with
 | normal =>
  obtain ⟨ℓ', env', S', hI', hk2⟩ := hq
  simp only [vcEndQ, vcEnd] at hk2
  split at hk2
  ·rename_i r hr
   exact hend _ _ _ _ _ _ hI' hr hk2
  ·exact hk2.elim
 | ret =>
  obtain ⟨ℓ', env', S', hI', hk2⟩ := hq
  simp only [vcEndQ, vcEnd] at hk2
  split at hk2
  ·rename_i r hr
   exact hend _ _ _ _ _ _ hI' hr hk2
  ·exact hk2.elim
 | exit id =>
  obtain ⟨ℓ', env', S', hI', hk2⟩ := hq
  exact hk2.elim
 | goto l => exact hq.elim
 | panic ch =>
  obtain ⟨ℓ', S', v, hI', hv, rfl, hk2⟩ := hq
  exact hk2.elim
 | outgrown => exact hq.elim
end
end

section
open Go
inductive PR (α : Type) where
 | ok (a : α)
 | pan (e : Int)
abbrev PanR {α : Type} (r : PR α) (A : α → Out → St → Prop) (B : Int → Out → St → Prop) (o : Out) (S' : St) : Prop :=
 PR.rec (motive := fun _ => Prop) (fun a => A a o S') (fun e => B e o S') r
abbrev panV (T : TypeId) (e : Int) : SV := .ifc T (.agg [.v (.int .i64 e)])
def bindP {α β : Type} (x : Option (PR α)) (f : α → Option (PR β)) : Option (PR β) := x.bind (fun y => match y with
 | .ok a => f a
 | .pan e => some (.pan e))
theorem qa2 {α β : Type} {x : Option (PR α)} {f : α → Option (PR β)} {r : PR β} (h : bindP x f = some r) : (∃ e, x = some (.pan e) ∧ some (.pan e) = some r) ∨ ∃ a, x = some (.ok a) ∧ f a = some r := by
 cases x with
 | none => cases h
 | some y =>
  cases y with
  | ok a => exact .inr ⟨a, rfl, h⟩
  | pan e => exact .inl ⟨e, rfl, h⟩
def bindC {α β : Type} (x : Option (PR α)) (g : Int → Option β) (f : α → Option β) : Option β := x.bind (fun y => match y with
 | .ok a => f a
 | .pan e => g e)
theorem qhm {α β : Type} {x : Option (PR α)} {g : Int → Option β} {f : α → Option β} {r : β} (h : bindC x g f = some r) : (∃ e, x = some (.pan e) ∧ g e = some r) ∨ ∃ a, x = some (.ok a) ∧ f a = some r := by
 cases x with
 | none => cases h
 | some y =>
  cases y with
  | ok a => exact .inr ⟨a, rfl, h⟩
  | pan e => exact .inl ⟨e, rfl, h⟩
theorem qou {P : Program} {f : Fn} {first caps args args' : List SV} {S : St} {R : Out → St → Prop} {F : SV} (hF : F = .fn f first caps) (ha : args' = first ++ args) (h : Meets P (.val (.fn f [] caps)) args' S R) : Meets P (.val F) args S R := by
 subst hF ha
 intro J ℓ w hG hJ
 obtain ⟨nx, h1, h2⟩ := h J ℓ w hG hJ
 refine ⟨nx, ?_, h2⟩
 rw [← h1]
 simp [Cal.sem, SV.den, qd, qar, Deferred.ofValue]
def loseL : List Bool → List Blk → List Blk
 | true :: bs, _ :: ks => .lost :: loseL bs ks
 | false :: bs, k :: ks => k :: loseL bs ks
 | [], ks => ks
 | _ :: _, [] => []
def mutAll : List Bool → List Blk → Bool
 | true :: bs, k :: ks => k.mut && mutAll bs ks
 | false :: bs, _ :: ks => mutAll bs ks
 | _, _ => true
theorem qdj : ∀ (bs : List Bool) (ks : List Blk), (loseL bs ks).length = ks.length
 | true :: bs, _ :: ks => by simp [loseL, qdj bs ks]
 | false :: bs, _ :: ks => by simp [loseL, qdj bs ks]
 | [], ks => rfl
 | _ :: _, [] => by simp [loseL]
theorem qgn : ∀ {bs : List Bool} {ks : List Blk}, mutAll bs ks = true → ∀ {i : Nat} {k : Blk}, (loseL bs ks)[i]? = some k → ∃ k0, ks[i]? = some k0 ∧ (k = k0 ∨ k = .lost ∧ k0.mut = true)
 | true :: bs, k0 :: ks, h, i, k, hk => by
  simp only [mutAll, Bool.and_eq_true] at h
  cases i with
  | zero => simp [loseL] at hk; subst hk; exact ⟨k0, rfl, .inr ⟨rfl, h.1⟩⟩
  | succ i => simp only [loseL, List.getElem?_cons_succ] at hk ⊢; exact qgn h.2 hk
 | false :: bs, k0 :: ks, h, i, k, hk => by
  cases i with
  | zero => simp [loseL] at hk; subst hk; exact ⟨k0, rfl, .inl rfl⟩
  | succ i => simp only [loseL, List.getElem?_cons_succ] at hk ⊢; exact qgn (bs := bs) (by simpa [mutAll] using h) hk
 | [], ks, _, i, k, hk => ⟨k, hk, .inl rfl⟩
 | _ :: _, [], _, i, k, hk => by simp [loseL] at hk
theorem qjb : ∀ (ℓ : List Base) (bs : List Bool) (ks : List Blk), mutAll bs ks = true → mutL ℓ (loseL bs ks) = mutL ℓ ks
 | [], _, _, _ => by simp [mutL]
 | b :: ℓ, true :: bs, k :: ks, h => by
  simp only [mutAll, Bool.and_eq_true] at h
  simp only [loseL, mutL, show Blk.lost.mut = true from rfl, h.1, if_true, qjb ℓ bs ks h.2]
 | b :: ℓ, false :: bs, k :: ks, h => by
  simp [loseL, mutL, qjb ℓ bs ks (by simpa [mutAll] using h)]
 | b :: ℓ, [], ks, _ => by simp [loseL]
 | b :: ℓ, c :: bs, [], _ => by simp [loseL]
theorem StLe.lose {S : St} (bs : List Bool) {own : List Blk} (ho : loseL bs S.own = own) (hm : mutAll bs S.own = true) : StLe S ⟨own, S.accs, S.reps⟩ := by
 subst ho
 have hlen := qdj bs S.own
 refine ⟨by simp only [hlen]; exact Nat.le_refl _, fun J ℓ w h => ?_⟩
 simp only [hlen]
 have ht : ℓ.take S.own.length = ℓ := by rw [← h.len, List.take_length]
 rw [ht]
 have hmut : mutS ℓ ⟨loseL bs S.own, S.accs, S.reps⟩ = mutS ℓ S := by simp only [mutS, qjb ℓ bs S.own hm]
 refine ⟨⟨by simp [h.len, hlen], by rw [hmut]; exact h.nodup, by rw [hmut]; exact h.lt, by rw [hmut]; exact h.memJ, ?_, ?_, by rw [hmut]; exact h.accs, by rw [hmut]; exact h.reps⟩, by rw [hmut]; exact fun _ hb => hb⟩
 ·intro k hk
  obtain ⟨i, hi⟩ := List.getElem?_of_mem hk
  obtain ⟨k0, h0, h1⟩ := qgn hm hi
  simp only [hlen]
  rcases h1 with rfl | ⟨rfl, _⟩
  ·exact h.wf _ (List.mem_of_getElem? h0)
  ·rfl
 ·intro i b k hi hk
  obtain ⟨k0, h0, h1⟩ := qgn hm hk
  rw [hmut]
  rcases h1 with rfl | ⟨rfl, _⟩
  ·exact h.own i b _ hi h0
  ·trivial
theorem StLe.comp {S S1 S2 : St} (h : StLe S S1) (k : StLe S1 S2) : StLe S S2 := by
 refine ⟨Nat.le_trans k.1 h.1, fun J ℓ w hG => ?_⟩
 obtain ⟨h1, h2⟩ := h.2 J ℓ w hG
 obtain ⟨k1, k2⟩ := k.2 J _ w h1
 have e : (ℓ.take S1.own.length).take S2.own.length = ℓ.take S2.own.length := by rw [List.take_take, Nat.min_eq_left k.1]
 rw [e] at k1 k2
 exact ⟨k1, fun b hb => h2 b (k2 b hb)⟩
theorem qt {m : Nat} {v : SV} {S : St} {R : Out → St → Prop} (bs : List Bool) (own0 own : List Blk) (h0 : S.own.take m = own0) (hm : Nat.ble m S.own.length = true) (hw : wfB m own0 = true) (ho : loseL bs own0 = own) (hmu : mutAll bs own0 = true) (hv : v.wf m = true) (hR : R (.pan v) ⟨own, [], []⟩) : AtRet m (.pan v) S R := by
 have hlen : own0.length = m := by rw [← h0, List.length_take]; have := Nat.le_of_ble_eq_true hm; omega
 have hol : own.length = m := by rw [← ho, qdj, hlen]
 refine ⟨⟨own, [], []⟩, ?_, by simp only [hol]; exact Nat.le_refl _, by simp only [Out.wf, hol]; exact hv, hR⟩
 refine StLe.comp (S1 := ⟨own0, [], []⟩) (StLe.gen m [] [] h0 rfl rfl hm hw rfl rfl) ?_
 exact StLe.lose (S := ⟨own0, [], []⟩) bs ho hmu
end

section
open Go
end

section
open Go
end

section
open Go
theorem qmq {P : Program} {tt : Tab} (hT : TTOK P tt) {t e : TypeId} {k : Nat} {x : SV} {sh mx : Option SV} {S : St} {K : SV → St → Prop} {a : Option Addr} {n c : Nat} {q q' : IntKind} {ds : List D} (j : Nat) (hx : x = .v (.slice a n c)) (ht : tt t = some (.slice e k))
  (hr : nth S.reps j = some (.slice a n c, .sl k ds)) (hhi : sh = some (.v (.int q n))) (hmx : mx = some (.v (.int q' n)))
  (h : ∀ a', addReps S [(.slice a' n n, .sl k ds)] (fun S' => K (.v (.slice a' n n)) S')) : AtPure P (fun ℓ => Instr.sliceAt t (x.den ℓ) (denO ℓ none) (denO ℓ sh) (denO ℓ mx)) S K := by
 subst hx hhi hmx
 constructor
 intro J ℓ w hG hJ
 have hrep := hG.reps _ (List.mem_of_getElem? (by rw [← qab]; exact hr))
 have hrep0 := hrep
 simp only [Rep, RepC] at hrep
 obtain ⟨a', cap, heq, hle, hb0⟩ := hrep
 simp only [List.cons.injEq, Value.slice.injEq, and_true] at heq
 obtain ⟨rfl, rfl, rfl⟩ := heq
 have hpart : Rep (Jx J (mutS ℓ S)) w (.slice (if ds.length = 0 then a else a.map (·.add (0 * k))) ds.length ds.length) (.sl k ds) := by
  simp only [Rep, RepC]
  refine ⟨_, _, rfl, ⟨Nat.le_refl _, hle.2⟩, ?_⟩
  rcases hb0 with h3 | ⟨b, off, cc, T, fz, rfl, hj, hbb, he⟩
  ·exact .inl h3
  ·by_cases hz : ds.length = 0
   ·exact .inl (List.length_eq_zero_iff.1 hz)
   ·refine .inr ⟨b, off, cc, T, fz, ?_, hj, hbb, he⟩
    rw [if_neg hz]
    simp [qbz]
 have hk := h (if ds.length = 0 then a else a.map (·.add (0 * k)))
 rw [qbs] at hk
 have hG' := hG.reps_add [(_, _)] (by intro p hp; simp only [List.mem_singleton] at hp; subst hp; exact hpart)
 refine ⟨_, ℓ, _, ?_, rfl, List.prefix_refl _, hG', fun b hb => hb, fun i cs hi => hi, hk⟩
 intro w'
 obtain ⟨_, hu, hse⟩ := hT t _ ht
 have hb : (Instr.sliceBounds true ds.length c (denO ℓ none) (denO ℓ (some (.v (.int q ds.length)))) (denO ℓ (some (.v (.int q' ds.length))))).run P w' = .ok (0, ds.length, ds.length) w' := by
  simp [Instr.sliceBounds, Instr.sliceBound, asIntOf, denO, SV.den, hle.1]
 simp only [Instr.sliceAt, SV.den, Sem.run_bind, qq hu, Result.andThen_ok]
 simp only [Instr.slice, Sem.run_bind, qq hu, Result.andThen_ok, denO]
 have hb' := hb
 simp only [denO] at hb'
 rw [hb']
 simp only [Result.andThen_ok, hse, Sem.run_pure]
 simp
theorem qle {P : Program} {tt : Tab} (hT : TTOK P tt) {t e ty : TypeId} {k : Nat} {x y : SV} {S : St} {K : SV → St → Prop} {a0 a : Option Addr} {n m c : Nat} {ds es : List D} (bytes j i : Nat) (ht : tt t = some (.slice e k)) (hel : elemB P e k bytes = true)
  (hx : x = .v (.slice a0 n n)) (hr0 : nth S.reps j = some (.slice a0 n n, .sl k ds)) (hy : y = .v (.slice a m c)) (hr : nth S.reps i = some (.slice a m c, .sl k es)) (hes : es ≠ []) (hlim : (ds.length + es.length) * bytes ≤ 140737488355328) (hlen : ds.length + es.length ≤ 1152921504606846976)
  (h : ∀ a' c', addReps S [(.slice a' (ds.length + es.length) c', .sl k (ds ++ es))] (fun S' => K (.v (.slice a' (ds.length + es.length) c')) S')) : AtSem P (fun ℓ => Builtin.append_ #[t, t] ty (qd ℓ [x, y]).toArray) S K := by
 subst hx hy
 constructor
 intro J ℓ w hG hJ
 obtain ⟨_, hu, hse⟩ := hT t _ ht
 obtain ⟨ti, z, hi, hik, hby, hz, hzk⟩ := qcz hel
 have hrep0 := hG.reps _ (List.mem_of_getElem? (by rw [← qab]; exact hr0))
 have hrep := hG.reps _ (List.mem_of_getElem? (by rw [← qab]; exact hr))
 simp only [Rep, RepC] at hrep hrep0
 obtain ⟨a', cap, heq, hle, hb⟩ := hrep
 simp only [List.cons.injEq, Value.slice.injEq, and_true] at heq
 obtain ⟨rfl, rfl, rfl⟩ := heq
 obtain ⟨a0', cap0, heq0, hle0, hb0⟩ := hrep0
 simp only [List.cons.injEq, Value.slice.injEq, and_true] at heq0
 obtain ⟨rfl, rfl, _⟩ := heq0
 have hut : P.underlying t = some (.slice e) := hu
 obtain ⟨bb, off, bc, bT, fz, rfl, hbj, hbb, hbe⟩ := hb.resolve_left hes
 have hpos : 0 < es.length := List.length_pos_iff.2 hes
 let news := (bc.toList.drop off).take (es.length * k)
 have hnl : news.length = es.length * k := by
  have := hbe.len
  simp only [news, List.length_take]; omega
 have hnews : ∀ q u, news[q]? = some u → w.cell? ((⟨bb, off, none⟩ : Addr).add q) = some u := by
  intro q u hq
  simp only [news, List.getElem?_take, List.getElem?_drop] at hq
  split at hq
  ·rw [qbz]
   simp only [World.cell?, hbb]
   simpa using hq
  ·cases hq
 have hrn : RepE (Jx J (mutS ℓ S)) w k es news := by
  refine RepE.cut hbe (Nat.le_of_eq hnl.symm) ?_
  simp only [news, List.take_take, Nat.min_self]
 have fin : ∀ (cells : Array Value) (cap : Nat), (Builtin.append_ #[t, t] ty #[.slice a0 ds.length ds.length, .slice (some ⟨bb, off, none⟩) es.length c]).run P w = .ok (.slice (some ⟨w.heap.size, 0, none⟩) (ds.length + es.length) cap) (w.drew.alloc (.cells cells e (0, 0))) → ds.length + es.length ≤ cap → RepE (Jx J (mutS ℓ S)) w k (ds ++ es) cells.toList →
   ∃ r ℓ' S' w', (Builtin.append_ #[t, t] ty (qd ℓ [.v (.slice a0 ds.length ds.length), .v (.slice (some ⟨bb, off, none⟩) es.length c)]).toArray).run P w = .ok (r.den ℓ') w' ∧ r.wf S'.own.length = true ∧ ℓ <+: ℓ' ∧ Ext (mutS ℓ S) w w' ∧ Good J ℓ' S' w' ∧ (∀ b ∈ mutS ℓ' S', b ∈ mutS ℓ S ∨ w.heap.size ≤ b) ∧ K r S' := by
  intro cells cap hrun hcap hre
  have hold : ∀ x, x < w.heap.size → (w.drew.alloc (.cells cells e (0, 0))).heap[x]? = w.heap[x]? := fun x hx => by
   show (w.drew.heap.push _)[x]? = _
   rw [Array.getElem?_push, if_neg (by show ¬ x = w.heap.size; omega)]; rfl
  have hG1 := hG.beside (w' := w.drew.alloc (.cells cells e (0, 0))) (by simp) hold
  have hk := h (some ⟨w.heap.size, 0, none⟩) cap
  rw [qbs] at hk
  refine ⟨.v (.slice (some ⟨w.heap.size, 0, none⟩) (ds.length + es.length) cap), ℓ, ⟨S.own, S.accs, S.reps ++ [(.slice (some ⟨w.heap.size, 0, none⟩) (ds.length + es.length) cap, .sl k (ds ++ es))]⟩, w.drew.alloc (.cells cells e (0, 0)), hrun, rfl, List.prefix_refl _, ⟨rfl, rfl, by simp, fun b hb _ => hold b hb⟩, hG1.reps_add [(_, _)] ?_, fun b hb => .inl hb, hk⟩
  intro p hp
  simp only [List.mem_singleton] at hp
  subst hp
  simp only [Rep, RepC]
  refine ⟨_, _, by rw [List.length_append], ⟨by rw [List.length_append]; exact hcap, by rw [List.length_append]; exact hlen⟩, .inr ⟨w.heap.size, 0, cells, e, (0, 0), rfl, ⟨hJ _ (Nat.le_refl _), fun hm => by have := hG.lt _ hm; omega⟩, World.alloc_heap_new w.drew _, ?_⟩⟩
  rw [List.drop_zero]
  exact RepE.map (fun b hlt hj => ⟨hj, hold b hlt⟩) k _ _ hre
 by_cases hn : a0 = none
 ·subst hn
  have hd : ds = [] := by
   rcases hb0 with h3 | ⟨b, off', cc, T, fz', e1, _⟩
   ·exact h3
   ·cases e1
  subst hd
  simp only [List.length_nil, Nat.zero_add] at hlim hlen fin ⊢
  have hrun := run_append_nil (P := P) w t ty e ti z hut hi hz ⟨bb, off, none⟩ es.length c news (by rw [hik]; exact hnl) hnews hpos (by omega) (by rw [hby]; omega)
  have hge := grownCap_ge w es.length 0 e
  refine fin _ _ hrun hge ?_
  simp only [List.nil_append, Array.toList_append]
  exact RepE.cut hrn (by simp [hnl]) (by rw [List.take_append_of_le_length (by simp [hnl])])
 ·obtain ⟨⟨b, off0, pth⟩, rfl⟩ := Option.ne_none_iff_exists'.1 hn
  let olds : List Value := match w.heap[b]? with
   | some (.cells cc _ _) => (cc.toList.drop off0).take (ds.length * k)
   | _ => []
  have hol : olds.length = ds.length * k ∧ RepE (Jx J (mutS ℓ S)) w k ds olds ∧ (ds ≠ [] → pth = none) ∧ ∀ q u, olds[q]? = some u → w.cell? ((⟨b, off0, pth⟩ : Addr).add q) = some u := by
   by_cases hd : ds = []
   ·subst hd
    have : olds = [] := by
     simp only [olds]
     split
     ·simp
     ·rfl
    rw [this]
    exact ⟨by simp, by simp [RepE], fun h => absurd rfl h, fun q u hq => by simp at hq⟩
   ·obtain ⟨b', off', cc, T, fz', e1, hj, hbb', he⟩ := hb0.resolve_left hd
    simp only [Option.some.injEq, Addr.mk.injEq] at e1
    obtain ⟨rfl, rfl, rfl⟩ := e1
    have ho : olds = (cc.toList.drop off0).take (ds.length * k) := by simp only [olds, hbb']
    have hl : olds.length = ds.length * k := by
     have := he.len
     rw [ho, List.length_take]; omega
    refine ⟨hl, ?_, fun _ => rfl, ?_⟩
    ·refine RepE.cut he (Nat.le_of_eq hl.symm) ?_
     rw [ho, List.take_take, Nat.min_self]
    ·intro q u hq
     rw [ho] at hq
     simp only [List.getElem?_take, List.getElem?_drop] at hq
     split at hq
     ·rw [qbz]
      simp only [World.cell?, hbb']
      simpa using hq
     ·cases hq
  obtain ⟨hlo, hro, hpt, holds⟩ := hol
  have hrun := run_append_grow (P := P) w t ty e ti z hut hi hz ⟨b, off0, pth⟩ ds.length ds.length olds (by rw [hik]; exact hlo) holds ⟨bb, off, none⟩ es.length c news (by rw [hik]; exact hnl) hnews (by omega) (by omega) (growslice_fits (by omega) (by rw [hby]; exact hlim))
  have hge := grownCap_ge w (ds.length + es.length) ds.length e
  refine fin _ _ hrun hge ?_
  simp only [Array.toList_append]
  have h2 := RepE.append hro hlo hrn
  exact RepE.cut h2 (by simp only [List.length_append, hlo, hnl, Nat.add_mul]; omega) (by rw [List.take_append_of_le_length]; simp only [List.length_append, hlo, hnl, Nat.add_mul]; omega)
end

section
open Go
end

section
open Go
def Indep (a : Acc) : Prop := ∀ (J J' : Nat → Prop) (w : World) (cs : List Value), RepE J w a.k a.ds cs → RepE J' w a.k a.ds cs
theorem AccOK.indep {J J' : Nat → Prop} {w : World} {a : Acc} (h : AccOK J w a) (hi : Indep a) : AccOK J' w a := by
 rcases h with h | ⟨b, cp, cc, hv, h3, h4, h5, h6⟩ | ⟨x, n, cap, hv, hn, hl, hq⟩
 ·exact .inl h
 ·exact .row ⟨b, cp, cc, hv, h3, h4, h5, hi _ _ _ _ h6⟩
 ·refine .inr (.inr ⟨x, n, cap, hv, hn, hl, ?_⟩)
  rcases hq with h0 | ⟨b, off, c, hx, hb, hs, hr⟩
  ·exact .inl h0
  ·exact .inr ⟨b, off, c, hx, hb, hs, hi _ _ _ _ hr⟩
end

section
open Go
theorem qoe {J J1 : Nat → Prop} {ℓ : List Base} {S : St} {w : World} {m : List Nat} (hG : Good J ℓ S w) {sel : List RSel} {rs : List (Value × D)} (hrs : selReps S sel = some rs) (hJ : ∀ x, Jx J (mutS ℓ S) x → Jx J1 m x)
  (hA : ∀ j a, j ∈ frozR sel → S.accs[j]? = some a → ∀ b ∈ accBlk a.v, Jx J1 m b) : ∀ p ∈ rs, Rep (Jx J1 m) w p.1 p.2 := by
 have hx : ∀ x, x < w.heap.size → Jx J (mutS ℓ S) x → Jx J1 m x ∧ w.heap[x]? = w.heap[x]? := fun x _ hj => ⟨hJ x hj, rfl⟩
 intro p hp
 rcases qcc hrs p hp with h1 | ⟨j, a, hj, haj, rfl⟩ | ⟨k, rfl⟩
 ·exact (hG.reps p h1).map hx
 ·exact (hG.accs a (List.mem_of_getElem? haj)).rep hx (hA j a hj haj)
 ·exact ⟨none, 0, rfl, ⟨Nat.zero_le _, Nat.zero_le _⟩, .inl rfl⟩
theorem qlw {P : Program} {cl : Cal} {args : List SV} {S : St} {K : Out → St → Prop} (rs : List (Value × D)) (sel : List RSel) (hrs : selReps S sel = some rs)
  (h : Meets P cl args ⟨S.own, [], rs⟩ (fun o S' => ∃ r A' rs2, o = .ret r ∧ S' = ⟨S.own, A', rs2⟩ ∧ r.wf 0 = true ∧ (∀ a ∈ A', Indep a) ∧ forceL (A' ++ S.accs) (fun accs => K (.ret r) ⟨S.own, accs, S.reps⟩))) : Meets P cl args S K := by
 intro J ℓ w hG hJ
 let B := S.accs.flatMap (fun a => accBlk a.v)
 let L : Nat → Prop := fun b => ∃ j a, j ∈ frozR sel ∧ S.accs[j]? = some a ∧ b ∈ accBlk a.v
 let J1 : Nat → Prop := fun b => J b ∧ (b ∈ B → L b)
 have hnd := hG.nodup
 simp only [mutS] at hnd
 rw [List.nodup_append] at hnd
 obtain ⟨hnA, hnB, hAB⟩ := hnd
 have hm1 : mutS ℓ ⟨S.own, [], rs⟩ = mutL ℓ S.own := by simp [mutS]
 have hmS : ∀ b, b ∈ mutS ℓ S ↔ b ∈ mutL ℓ S.own ∨ b ∈ B := fun b => by simp only [mutS, List.mem_append]; rfl
 have hJ0 : ∀ b, Jx J (mutS ℓ S) b → Jx J1 (mutS ℓ ⟨S.own, [], rs⟩) b := by
  rintro b ⟨h1, h2⟩
  exact ⟨⟨h1, fun hb => (h2 ((hmS b).2 (.inr hb))).elim⟩, by rw [hm1]; exact fun hb => h2 ((hmS b).2 (.inl hb))⟩
 have hG1 : Good J1 ℓ ⟨S.own, [], rs⟩ w := by
  refine ⟨hG.len, by rw [hm1]; exact hnA, fun b hb => hG.lt b ((hmS b).2 (.inl (by rw [hm1] at hb; exact hb))), fun b hb => ?_, hG.wf, ?_, by simp, ?_⟩
  ·rw [hm1] at hb
   exact ⟨hG.memJ b ((hmS b).2 (.inl hb)), fun hb2 => (hAB b hb b hb2 rfl).elim⟩
  ·intro i b k hi hk
   exact (hG.own i b k hi hk).keep (qak hG.wf hk) (fun _ _ => rfl) (fun x _ hj => hJ0 x hj) (fun _ => rfl)
  ·refine qoe hG hrs hJ0 (fun j a hj ha b hb => ?_)
   have hbB : b ∈ B := List.mem_flatMap.2 ⟨a, List.mem_of_getElem? ha, hb⟩
   refine ⟨⟨hG.memJ b ((hmS b).2 (.inr hbB)), fun _ => ⟨j, a, hj, ha, hb⟩⟩, ?_⟩
   rw [hm1]
   exact fun h1 => hAB b h1 b hbB rfl
 have hF1 : Fresh J1 w := fun b hb => ⟨hJ b hb, fun hm => by have := hG.lt b ((hmS b).2 (.inr hm)); omega⟩
 obtain ⟨nx, h1, h2⟩ := h J1 ℓ w hG1 hF1
 refine ⟨nx, h1, h2.mono ?_⟩
 rintro e w' ⟨ℓ', o, S', he, hwf, hpre, hx, hG', hf, r, A', rs2, rfl, rfl, hr0, hind, hK⟩
 rw [qu] at hK
 have hℓ : ℓ' = ℓ := by
  obtain ⟨t, rfl⟩ := hpre
  have := hG'.len
  simp only [List.length_append, hG.len] at this
  have : t = [] := List.length_eq_zero_iff.1 (by omega)
  rw [this, List.append_nil]
 subst hℓ
 rw [hm1] at hx
 let N := A'.flatMap (fun a => accBlk a.v)
 have hm' : ∀ b, b ∈ mutS ℓ' ⟨S.own, A', rs2⟩ ↔ b ∈ mutL ℓ' S.own ∨ b ∈ N := fun b => by simp only [mutS, List.mem_append]; rfl
 have hN : ∀ b ∈ N, w.heap.size ≤ b ∧ b < w'.heap.size := by
  intro b hb
  have hmm := (hm' b).2 (.inr hb)
  refine ⟨?_, hG'.lt b hmm⟩
  rcases hf b hmm with h3 | h3
  ·rw [hm1] at h3
   have hnd' := hG'.nodup
   simp only [mutS] at hnd'
   rw [List.nodup_append] at hnd'
   exact (hnd'.2.2 b h3 b hb rfl).elim
  ·exact h3
 have hmR : ∀ b, b ∈ mutS ℓ' ⟨S.own, A' ++ S.accs, S.reps⟩ ↔ b ∈ mutL ℓ' S.own ∨ b ∈ N ∨ b ∈ B := fun b => by simp only [mutS, List.flatMap_append, List.mem_append]; rfl
 have hold : ∀ x, x < w.heap.size → Jx J (mutS ℓ' S) x → Jx J (mutS ℓ' ⟨S.own, A' ++ S.accs, S.reps⟩) x ∧ w'.heap[x]? = w.heap[x]? := by
  rintro x hlt ⟨h3, h4⟩
  refine ⟨⟨h3, fun h5 => ?_⟩, hx.block x hlt (fun h5 => h4 ((hmS x).2 (.inl h5)))⟩
  rcases (hmR x).1 h5 with h6 | h6 | h6
  ·exact h4 ((hmS x).2 (.inl h6))
  ·have := (hN x h6).1; omega
  ·exact h4 ((hmS x).2 (.inr h6))
 have hG2 : Good J ℓ' ⟨S.own, A' ++ S.accs, S.reps⟩ w' := by
  refine ⟨hG.len, ?_, ?_, ?_, hG.wf, ?_, ?_, ?_⟩
  ·have hnd' := hG'.nodup
   simp only [mutS] at hnd' ⊢
   rw [List.nodup_append] at hnd'
   rw [List.flatMap_append, List.nodup_append, List.nodup_append]
   refine ⟨hnA, ⟨hnd'.2.1, hnB, ?_⟩, ?_⟩
   ·rintro a ha b hb rfl
    have h3 := (hN a ha).1
    have h4 := hG.lt a ((hmS a).2 (.inr hb))
    omega
   ·rintro a ha b hb rfl
    rcases List.mem_append.1 hb with h3 | h3
    ·exact hnd'.2.2 a ha a h3 rfl
    ·exact hAB a ha a h3 rfl
  ·intro b hb
   rcases (hmR b).1 hb with h3 | h3 | h3
   ·exact Nat.lt_of_lt_of_le (hG.lt b ((hmS b).2 (.inl h3))) hx.size
   ·exact (hN b h3).2
   ·exact Nat.lt_of_lt_of_le (hG.lt b ((hmS b).2 (.inr h3))) hx.size
  ·intro b hb
   rcases (hmR b).1 hb with h3 | h3 | h3
   ·exact hG.memJ b ((hmS b).2 (.inl h3))
   ·exact hJ b (hN b h3).1
   ·exact hG.memJ b ((hmS b).2 (.inr h3))
  ·intro i b k hi hk
   cases k with
   | imm cs =>
    have h0 := hG.own i b _ hi hk
    have h00 := h0
    simp only [BlkOK] at h00
    obtain ⟨hjb, c0, T0, fz0, hb0, _⟩ := h00
    exact h0.keep (qak hG.wf hk) (fun _ _ => rfl) (fun x hlt hj => (hold x hlt hj).1) (fun hlt => (hold _ hlt hjb).2)
   | cells T cs => exact hG'.own i b _ hi hk
   | obj oo => exact hG'.own i b _ hi hk
   | dead => trivial
   | lost => trivial
   | lp x => exact hG'.own i b _ hi hk
   | iter j s n p => exact hG'.own i b _ hi hk
  ·intro a ha
   rcases List.mem_append.1 ha with h3 | h3
   ·exact (hG'.accs a h3).indep (hind a h3)
   ·refine (hG.accs a h3).keep hold (fun x hxa hlt => hx.block x hlt (fun h5 => ?_))
    exact hAB x h5 x (List.mem_flatMap.2 ⟨a, h3, hxa⟩) rfl
  ·intro p hp
   exact (hG.reps p hp).map hold
 refine ⟨ℓ', .ret r, _, he, SV.wf_mono (Nat.zero_le _) r hr0, List.prefix_refl _, hx.mono (fun x h3 _ => (hmS x).2 (.inl h3)), hG2, fun b hb => ?_, hK⟩
 rcases (hmR b).1 hb with h3 | h3 | h3
 ·exact .inl ((hmS b).2 (.inl h3))
 ·exact .inr (hN b h3).1
 ·exact .inl ((hmS b).2 (.inr h3))
end

section
open Go
def setN (n : Nat) (p : Nat → Bool) : List SV := (List.range n).map (fun i => .v (.bool (p i)))
def noneP : Nat → Bool := fun _ => false
end

section
open Go
def Unr (m : Nat) (body : (X → Env → St → Prop) → Env → St → Prop) (K : X → Env → St → Prop) (n : Nat) (env : Env) (S : St) : Prop :=
 envWf S.own.length env = true ∧ Nat.ble m S.own.length = true ∧
  body (seqK (fun env' S' => ∃ k env2 S2, (∃ _h : k < n, Unr m body K k env2 S2) ∧ envLe env' env2 ∧ StLe S' S2) K) env S
termination_by n
theorem Unr.cont (m : Nat) (body : (X → Env → St → Prop) → Env → St → Prop) (K : X → Env → St → Prop) (n : Nat) :
  (fun (env' : Env) (S' : St) => ∃ k env2 S2, (∃ _h : k < n, Unr m body K k env2 S2) ∧ envLe env' env2 ∧ StLe S' S2) =
  (fun env' S' => ∃ x : Nat × Env × St, Unr m body K x.1 x.2.1 x.2.2 ∧ x.1 < n ∧ envLe env' x.2.1 ∧ StLe S' x.2.2) := by
 funext env' S'
 apply propext
 constructor
 ·rintro ⟨k, e2, S2, ⟨hk, hu⟩, h1, h2⟩
  exact ⟨(k, e2, S2), hu, hk, h1, h2⟩
 ·rintro ⟨⟨k, e2, S2⟩, hu, hk, h1, h2⟩
  exact ⟨k, e2, S2, ⟨hk, hu⟩, h1, h2⟩
theorem Unr.cont2 (m : Nat) (body : (X → Env → St → Prop) → Env → St → Prop) (K : X → Env → St → Prop) (n : Nat) :
  (fun (env' : Env) (S' : St) => ∃ k env2 S2, (∃ _h : k < n, Unr m body K k env2 S2) ∧ envLe env' env2 ∧ StLe S' S2) =
  (fun env' S' => ∃ k env2 S2, k < n ∧ envLe env' env2 ∧ StLe S' S2 ∧ Unr m body K k env2 S2) := by
 funext env' S'
 apply propext
 constructor
 ·rintro ⟨k, e2, S2, ⟨hk, hu⟩, h1, h2⟩
  exact ⟨k, e2, S2, hk, h1, h2, hu⟩
 ·rintro ⟨k, e2, S2, hk, h1, h2, hu⟩
  exact ⟨k, e2, S2, ⟨hk, hu⟩, h1, h2⟩
theorem Unr.mk {m : Nat} {body : (X → Env → St → Prop) → Env → St → Prop} {K : X → Env → St → Prop} {n : Nat} {env : Env} {S : St} (h1 : envWf S.own.length env = true) (h2 : Nat.ble m S.own.length = true)
  (h : body (seqK (fun env' S' => ∃ k env2 S2, k < n ∧ envLe env' env2 ∧ StLe S' S2 ∧ Unr m body K k env2 S2) K) env S) : Unr m body K n env S := by
 have e := Unr.eq_1 m body K n env S
 rw [Unr.cont2] at e
 rw [e]
 exact ⟨h1, h2, h⟩
theorem qc1 {m : Nat} {body : (X → Env → St → Prop) → Env → St → Prop} {K : X → Env → St → Prop} {env : Env} {S : St} (n : Nat) (env2 : Env) (S2 : St) (hle : envLe env env2) (hst : StLe S S2) (h : Unr m body K n env2 S2) : AtLoop m body K env S := by
 refine AtLoop.mk ⟨Nat × Env × St, fun x => x.2.1, fun x => x.2.2, fun x => Unr m body K x.1 x.2.1 x.2.2, fun x => x.1, (n, env2, S2), h, hle, hst, fun x hx => ?_, fun x hx => ?_⟩
 ·have e := Unr.eq_1 m body K x.1 x.2.1 x.2.2
  exact ⟨(e.mp hx).1, (e.mp hx).2.1⟩
 ·have e := Unr.eq_1 m body K x.1 x.2.1 x.2.2
  rw [Unr.cont] at e
  exact (e.mp hx).2.2
end

section
open Go
mutual
def dsz : D → Nat
 | .agg ds => dszL ds
 | .int _ _ => 1
 | .bool _ => 1
 | .str _ => 1
 | .sl _ _ => 1
 | .ifc _ _ => 1
def dszL : List D → Nat
 | [] => 0
 | d :: ds => dsz d + dszL ds
end
mutual
theorem RepC.len {J : Nat → Prop} {w : World} : ∀ (d : D) (cs : List Value), RepC J w d cs → cs.length = dsz d
 | .int _ _, cs, h => by simp only [RepC] at h; subst h; rfl
 | .bool _, cs, h => by simp only [RepC] at h; subst h; rfl
 | .str _, cs, h => by simp only [RepC] at h; subst h; rfl
 | .agg ds, cs, h => by simp only [RepC] at h; rw [dsz]; exact RepA.len ds cs h
 | .sl _ _, cs, h => by simp only [RepC] at h; obtain ⟨a, c, rfl, _⟩ := h; rfl
 | .ifc _ _, cs, h => by simp only [RepC] at h; obtain ⟨v, rfl, _⟩ := h; rfl
theorem RepA.len {J : Nat → Prop} {w : World} : ∀ (ds : List D) (cs : List Value), RepA J w ds cs → cs.length = dszL ds
 | [], cs, h => by simp only [RepA] at h; subst h; rfl
 | d :: ds, cs, h => by
  simp only [RepA] at h
  obtain ⟨x, y, rfl, h1, h2⟩ := h
  rw [List.length_append, RepC.len d x h1, RepA.len ds y h2, dszL]
end
theorem qgz {α : Type} {x y us : List α} {o : Nat} : setRange (x ++ y) (x.length + o) us = x ++ setRange y o us := by
 unfold setRange
 rw [List.take_append, List.take_of_length_le (by omega), List.append_assoc, show x.length + o - x.length = o by omega]
 congr 2
 rw [List.drop_append, List.drop_of_length_le (by omega), List.nil_append]
 congr 2
 omega
theorem qfu {α : Type} {x y us : List α} {o : Nat} (h : o + us.length ≤ x.length) : setRange (x ++ y) o us = setRange x o us ++ y := by
 unfold setRange
 rw [List.take_append, List.drop_append, show o - x.length = 0 by omega, show o + us.length - x.length = 0 by omega]
 simp
theorem RepA.setAt {J : Nat → Prop} {w : World} {f f' : D} {us : List Value} {post : List D} (hu : RepC J w f' us) (hl : us.length = dsz f) : ∀ {pre : List D} {cs : List Value}, RepA J w (pre ++ f :: post) cs → dszL pre + us.length ≤ cs.length ∧ RepA J w (pre ++ f' :: post) (setRange cs (dszL pre) us)
 | [], cs, h => by
  simp only [List.nil_append, RepA] at h ⊢
  obtain ⟨x, y, rfl, h1, h2⟩ := h
  have e1 := RepC.len _ _ h1
  refine ⟨by simp [dszL]; omega, us, y, ?_, hu, h2⟩
  rw [dszL, qfu (by omega)]
  congr 1
  unfold setRange
  rw [show 0 + us.length = x.length by omega]
  simp
 | p :: pre, cs, h => by
  simp only [List.cons_append, RepA] at h ⊢
  obtain ⟨x, y, rfl, h1, h2⟩ := h
  have e1 := RepC.len _ _ h1
  obtain ⟨i1, i2⟩ := RepA.setAt hu hl h2
  refine ⟨by simp [dszL]; omega, x, setRange y (dszL pre) us, ?_, h1, i2⟩
  rw [dszL, ← e1, qgz]
theorem RepE.setAt {J : Nat → Prop} {w : World} {k : Nat} {f f' : D} {us : List Value} {pre post : List D} (hu : RepC J w f' us) (hl : us.length = dsz f) : ∀ {ds : List D} {cs : List Value} {i : Nat}, RepE J w k ds cs → ds[i]? = some (.agg (pre ++ f :: post)) → i * k + dszL pre + us.length ≤ cs.length ∧ RepE J w k (ds.set i (.agg (pre ++ f' :: post))) (setRange cs (i * k + dszL pre) us)
 | [], _, _, _, h => by simp at h
 | d :: ds, cs, 0, h, hd => by
  simp at hd
  subst hd
  simp only [RepE] at h
  obtain ⟨h1, h2, h3⟩ := h
  simp only [RepC] at h2
  obtain ⟨i1, i2⟩ := RepA.setAt hu hl h2
  rw [List.length_take] at i1
  have hs : setRange cs (0 * k + dszL pre) us = setRange (cs.take k) (dszL pre) us ++ cs.drop k := by
   conv => lhs; rw [← List.take_append_drop k cs]
   rw [Nat.zero_mul, Nat.zero_add, qfu (by rw [List.length_take]; omega)]
  have hlen : (setRange (cs.take k) (dszL pre) us).length = k := by
   rw [qc7 _ _ _ (by rw [List.length_take]; omega), List.length_take]; omega
  rw [hs]
  simp only [List.set_cons_zero, RepE]
  refine ⟨by omega, by rw [List.length_append, hlen]; omega, ?_, ?_⟩
  ·simp only [RepC]
   rw [List.take_append, hlen, Nat.sub_self, List.take_zero, List.append_nil, List.take_of_length_le (by omega)]
   exact i2
  ·rw [List.drop_append, hlen, Nat.sub_self, List.drop_zero, List.drop_of_length_le (by omega), List.nil_append]
   exact h3
 | d :: ds, cs, i + 1, h, hd => by
  rw [List.getElem?_cons_succ] at hd
  simp only [RepE] at h
  obtain ⟨h1, h2, h3⟩ := h
  obtain ⟨i1, i2⟩ := RepE.setAt hu hl h3 hd
  rw [List.length_drop] at i1
  have e : (i + 1) * k + dszL pre = (cs.take k).length + (i * k + dszL pre) := by rw [Nat.succ_mul, List.length_take]; omega
  have hs : setRange cs ((i + 1) * k + dszL pre) us = cs.take k ++ setRange (cs.drop k) (i * k + dszL pre) us := by
   have h9 := qgz (x := cs.take k) (y := cs.drop k) (us := us) (o := i * k + dszL pre)
   rw [List.take_append_drop] at h9
   rw [e, h9]
  have hlk : (cs.take k).length = k := by rw [List.length_take]; omega
  rw [hs]
  simp only [List.set_cons_succ, RepE]
  refine ⟨by rw [Nat.succ_mul]; omega, by rw [List.length_append, hlk]; omega, ?_, ?_⟩
  ·rw [List.take_append, hlk, Nat.sub_self, List.take_zero, List.append_nil, List.take_take, Nat.min_self]
   exact h2
  ·rw [List.drop_append, hlk, Nat.sub_self, List.drop_zero, List.drop_of_length_le (by omega), List.nil_append]
   exact i2
theorem at_store_accW {P : Program} {tt : Tab} (hT : TTOK P tt) {t e : TypeId} {kd : TK} {x s : SV} {S : St} {K : SV → St → Prop} {b n c i k o : Nat} {f f' : D} {ds ds' : List D} (pre post : List D) (j : Nat) (hacc : nth S.accs j = some ⟨.slice (some ⟨b, 0, none⟩) n c, k, e, ds⟩) (hi : ds[i]? = some (.agg (pre ++ f :: post)))
  (ht : tt t = some kd) (hkd : kd.zeros.length = (cellsOf s).length) (hp : plainS s = true) (h1 : allOne (cellsOf s) = true) (hl : (cellsOf s).length = dsz f) (hr : RepS S.reps f' (cellsOf s)) (hx : x = .v (.pointer (some ⟨b, o, none⟩))) (ho : o = i * k + dszL pre) (hds : ds' = ds.set i (.agg (pre ++ f' :: post))) (h : forceL (setNth S.accs j ⟨.slice (some ⟨b, 0, none⟩) n c, k, e, ds'⟩) (fun accs => K undefS ⟨S.own, accs, S.reps⟩)) :
  AtSem P (fun ℓ => do Instr.storeAt t (x.den ℓ) (s.den ℓ); pure undef) S K := by
 subst hx hds
 rw [qu] at h
 constructor
 intro J ℓ w hG hJ
 have ha : S.accs[j]? = some ⟨.slice (some ⟨b, 0, none⟩) n c, k, e, ds⟩ := by rw [← qab]; exact hacc
 rcases (hG.accs _ (List.mem_of_getElem? ha)).two (fun _ _ _ e => by cases e) with ⟨hv, _⟩ | ⟨b', cap, cc, hv, hb, hcs, hle, hre⟩
 ·cases hv
 simp only [Value.slice.injEq, Option.some.injEq, Addr.mk.injEq, and_true] at hv
 obtain ⟨⟨rfl, _⟩, rfl, rfl⟩ := hv
 simp only at hb hcs hle hre
 have hlu : (qd ℓ (cellsOf s)).length = dsz f := by rw [qo]; exact hl
 have hu := RepS.sound (ℓ := ℓ) hG.reps f' (cellsOf s) hr
 have hroom := (RepE.setAt hu hlu hre hi).1
 have hst := run_storeCells_at P b o e (qd ℓ (cellsOf s)) 0 cc w hb (by simp at hroom; omega) (qge h1)
 have hset : (cc.toList.take o ++ qd ℓ (cellsOf s) ++ cc.toList.drop (o + (qd ℓ (cellsOf s)).length)) = setRange cc.toList o (qd ℓ (cellsOf s)) := by simp [setRange]
 simp only [Nat.add_zero, hset] at hst
 have hrow := setRow_heap w b cc (setRange cc.toList o (qd ℓ (cellsOf s))).toArray e (0, 0) hb
 have hgood := hG.regrow (j := j) (a' := ⟨.slice (some ⟨b, 0, none⟩) ds.length c, k, e, ds.set i (.agg (pre ++ f' :: post))⟩) (w' := w.setRow b (setRange cc.toList o (qd ℓ (cellsOf s))).toArray) hJ ha (by simp [World.setRow])
  (fun x hx hm => setRow_other w b x _ (fun e => hm (by simp [accBlk, e]))) (by simp [accBlk]) (fun x hx => ?_) (fun J' hj => ?_)
 ·refine ⟨undefS, ℓ, _, w.setRow b (setRange cc.toList o (qd ℓ (cellsOf s))).toArray, ?_, rfl, List.prefix_refl _, ⟨rfl, rfl, by simp [World.setRow], fun x hx hm => setRow_other w b x _ (fun e => hm ?_)⟩, hgood.1, hgood.2, h⟩
  ·have hcells : ((s.den ℓ).cells.size ≠ kd.zeros.length) = False := by
    rw [qaj ℓ hp]; simp [qo, hkd]
   have hst' : (storeCells ⟨b, o, none⟩ (s.den ℓ).cells.toList).run P w = .ok () (w.setRow b (setRange cc.toList o (qd ℓ (cellsOf s))).toArray) := by
    rw [qaj ℓ hp, hst]
   simp only [SV.den, Instr.storeAt, Instr.sureAddr, pure_bind, storeVar, Sem.run_bind, size_run hT ht, Result.andThen_ok, hcells, if_false, hst', Sem.run_pure, undefS, qd, undef]
  ·simp only [mutS]
   exact List.mem_append.2 (.inr (List.mem_flatMap.2 ⟨_, List.mem_of_getElem? ha, by simp [accBlk, e]⟩))
 ·simp [accBlk] at hx
  subst hx
  exact ⟨.inl (by simp [accBlk]), by simpa [World.setRow] using qag hb⟩
 ·refine .row ⟨b, c, _, by simp, hrow, ?_, by simpa using hle, ?_⟩
  ·simp only [List.size_toArray]
   rw [qc7 _ _ _ (by omega)]
   simpa using hcs
  simp only
  have hu' := RepC.map hj _ _ hu
  have hh := (RepE.setAt hu' hlu (RepE.map hj k _ _ hre) hi).2
  rw [← ho] at hh
  exact hh
end

section
open Go
end

section
open Go
end

section
open Go
end
end Go.Tr

namespace Go.Proofs.YthkgcfplebgolaaGreat
section
open Go.Tr Go Go.Proofs.Tryz
set_option maxRecDepth 10000
structure Qn where
 ctx : (List Tm)
 a : Tm
 b : Tm
 cls : Tm
abbrev Qn.enc (t : Qn) : D := .agg [.sl 4 (Tm.encL t.ctx), .agg [.int .i64 t.a.op, .int .i64 t.a.hd, .int .i64 t.a.n, .sl 4 (Tm.encL t.a.args)], .agg [.int .i64 t.b.op, .int .i64 t.b.hd, .int .i64 t.b.n, .sl 4 (Tm.encL t.b.args)], .agg [.int .i64 t.cls.op, .int .i64 t.cls.hd, .int .i64 t.cls.n, .sl 4 (Tm.encL t.cls.args)]]
abbrev Qn.encL (l : List Qn) : List D := l.map Qn.enc
theorem Qn.encL_eq (l : List Qn) : Qn.encL l = l.map Qn.enc := rfl
theorem Qn.enc_eq (t : Qn) : t.enc = .agg [.sl 4 (Tm.encL t.ctx), .agg [.int .i64 t.a.op, .int .i64 t.a.hd, .int .i64 t.a.n, .sl 4 (Tm.encL t.a.args)], .agg [.int .i64 t.b.op, .int .i64 t.b.hd, .int .i64 t.b.n, .sl 4 (Tm.encL t.b.args)], .agg [.int .i64 t.cls.op, .int .i64 t.cls.hd, .int .i64 t.cls.n, .sl 4 (Tm.encL t.cls.args)]] := rfl
theorem Qn.encL_length (l : List Qn) : (Qn.encL l).length = l.length := by simp
theorem Qn.encL_get {l : List Qn} {i : Nat} {t : Qn} (h : l[i]? = some t) : (Qn.encL l)[i]? = some (.agg [.sl 4 (Tm.encL t.ctx), .agg [.int .i64 t.a.op, .int .i64 t.a.hd, .int .i64 t.a.n, .sl 4 (Tm.encL t.a.args)], .agg [.int .i64 t.b.op, .int .i64 t.b.hd, .int .i64 t.b.n, .sl 4 (Tm.encL t.b.args)], .agg [.int .i64 t.cls.op, .int .i64 t.cls.hd, .int .i64 t.cls.n, .sl 4 (Tm.encL t.cls.args)]]) := by rw [Qn.encL_eq, List.getElem?_map, h]; rfl
structure Pb where
 metas : (List Mt)
 left : (List Qn)
abbrev Pb.enc (t : Pb) : D := .agg [.sl 10 (Mt.encL t.metas), .sl 13 (Qn.encL t.left)]
abbrev Pb.encL (l : List Pb) : List D := l.map Pb.enc
theorem Pb.encL_eq (l : List Pb) : Pb.encL l = l.map Pb.enc := rfl
theorem Pb.enc_eq (t : Pb) : t.enc = .agg [.sl 10 (Mt.encL t.metas), .sl 13 (Qn.encL t.left)] := rfl
theorem Pb.encL_length (l : List Pb) : (Pb.encL l).length = l.length := by simp
theorem Pb.encL_get {l : List Pb} {i : Nat} {t : Pb} (h : l[i]? = some t) : (Pb.encL l)[i]? = some (.agg [.sl 10 (Mt.encL t.metas), .sl 13 (Qn.encL t.left)]) := by rw [Pb.encL_eq, List.getElem?_map, h]; rfl
structure RWk where
 sig : (List Dc)
 metas : (List Mt)
 queue : (List Qn)
 left : (List Qn)
 fixed : Int
 steps : Int
abbrev RWk.enc (t : RWk) : D := .agg [.sl 6 (Dc.encL t.sig), .sl 10 (Mt.encL t.metas), .sl 13 (Qn.encL t.queue), .sl 13 (Qn.encL t.left), .int .i64 t.fixed, .int .i64 t.steps]
abbrev RWk.encL (l : List RWk) : List D := l.map RWk.enc
theorem RWk.encL_eq (l : List RWk) : RWk.encL l = l.map RWk.enc := rfl
theorem RWk.enc_eq (t : RWk) : t.enc = .agg [.sl 6 (Dc.encL t.sig), .sl 10 (Mt.encL t.metas), .sl 13 (Qn.encL t.queue), .sl 13 (Qn.encL t.left), .int .i64 t.fixed, .int .i64 t.steps] := rfl
theorem RWk.encL_length (l : List RWk) : (RWk.encL l).length = l.length := by simp
theorem RWk.encL_get {l : List RWk} {i : Nat} {t : RWk} (h : l[i]? = some t) : (RWk.encL l)[i]? = some (.agg [.sl 6 (Dc.encL t.sig), .sl 10 (Mt.encL t.metas), .sl 13 (Qn.encL t.queue), .sl 13 (Qn.encL t.left), .int .i64 t.fixed, .int .i64 t.steps]) := by rw [RWk.encL_eq, List.getElem?_map, h]; rfl
structure Mtt where
 what : Int
 k : Int
 keep : (List Bool)
abbrev Mtt.enc (t : Mtt) : D := .agg [.int .i64 t.what, .int .i64 t.k, .sl 1 (List.map D.bool t.keep)]
abbrev Mtt.encL (l : List Mtt) : List D := l.map Mtt.enc
theorem Mtt.encL_eq (l : List Mtt) : Mtt.encL l = l.map Mtt.enc := rfl
theorem Mtt.enc_eq (t : Mtt) : t.enc = .agg [.int .i64 t.what, .int .i64 t.k, .sl 1 (List.map D.bool t.keep)] := rfl
theorem Mtt.encL_length (l : List Mtt) : (Mtt.encL l).length = l.length := by simp
theorem Mtt.encL_get {l : List Mtt} {i : Nat} {t : Mtt} (h : l[i]? = some t) : (Mtt.encL l)[i]? = some (.agg [.int .i64 t.what, .int .i64 t.k, .sl 1 (List.map D.bool t.keep)]) := by rw [Mtt.encL_eq, List.getElem?_map, h]; rfl
structure Vls where
 metas : (List Mt)
 state : (List Int)
 value : (List Tm)
 err : (List Int)
abbrev Vls.enc (t : Vls) : D := .agg [.sl 10 (Mt.encL t.metas), .sl 1 (List.map (D.int .i64) t.state), .sl 4 (Tm.encL t.value), .sl 1 (List.map (D.int .i64) t.err)]
abbrev Vls.encL (l : List Vls) : List D := l.map Vls.enc
theorem Vls.encL_eq (l : List Vls) : Vls.encL l = l.map Vls.enc := rfl
theorem Vls.enc_eq (t : Vls) : t.enc = .agg [.sl 10 (Mt.encL t.metas), .sl 1 (List.map (D.int .i64) t.state), .sl 4 (Tm.encL t.value), .sl 1 (List.map (D.int .i64) t.err)] := rfl
theorem Vls.encL_length (l : List Vls) : (Vls.encL l).length = l.length := by simp
theorem Vls.encL_get {l : List Vls} {i : Nat} {t : Vls} (h : l[i]? = some t) : (Vls.encL l)[i]? = some (.agg [.sl 10 (Mt.encL t.metas), .sl 1 (List.map (D.int .i64) t.state), .sl 4 (Tm.encL t.value), .sl 1 (List.map (D.int .i64) t.err)]) := by rw [Vls.encL_eq, List.getElem?_map, h]; rfl
structure Ak where
 sig : (List Dc)
 metas : (List Mt)
 l : (List Qn)
abbrev Ak.enc (t : Ak) : D := .agg [.sl 6 (Dc.encL t.sig), .sl 10 (Mt.encL t.metas), .sl 13 (Qn.encL t.l)]
abbrev Ak.encL (l : List Ak) : List D := l.map Ak.enc
theorem Ak.encL_eq (l : List Ak) : Ak.encL l = l.map Ak.enc := rfl
theorem Ak.enc_eq (t : Ak) : t.enc = .agg [.sl 6 (Dc.encL t.sig), .sl 10 (Mt.encL t.metas), .sl 13 (Qn.encL t.l)] := rfl
theorem Ak.encL_length (l : List Ak) : (Ak.encL l).length = l.length := by simp
theorem Ak.encL_get {l : List Ak} {i : Nat} {t : Ak} (h : l[i]? = some t) : (Ak.encL l)[i]? = some (.agg [.sl 6 (Dc.encL t.sig), .sl 10 (Mt.encL t.metas), .sl 13 (Qn.encL t.l)]) := by rw [Ak.encL_eq, List.getElem?_map, h]; rfl
structure Tw where
 ctx : (List Tm)
 a : Tm
 b : Tm
abbrev Tw.enc (t : Tw) : D := .agg [.sl 4 (Tm.encL t.ctx), .agg [.int .i64 t.a.op, .int .i64 t.a.hd, .int .i64 t.a.n, .sl 4 (Tm.encL t.a.args)], .agg [.int .i64 t.b.op, .int .i64 t.b.hd, .int .i64 t.b.n, .sl 4 (Tm.encL t.b.args)]]
abbrev Tw.encL (l : List Tw) : List D := l.map Tw.enc
theorem Tw.encL_eq (l : List Tw) : Tw.encL l = l.map Tw.enc := rfl
theorem Tw.enc_eq (t : Tw) : t.enc = .agg [.sl 4 (Tm.encL t.ctx), .agg [.int .i64 t.a.op, .int .i64 t.a.hd, .int .i64 t.a.n, .sl 4 (Tm.encL t.a.args)], .agg [.int .i64 t.b.op, .int .i64 t.b.hd, .int .i64 t.b.n, .sl 4 (Tm.encL t.b.args)]] := rfl
theorem Tw.encL_length (l : List Tw) : (Tw.encL l).length = l.length := by simp
theorem Tw.encL_get {l : List Tw} {i : Nat} {t : Tw} (h : l[i]? = some t) : (Tw.encL l)[i]? = some (.agg [.sl 4 (Tm.encL t.ctx), .agg [.int .i64 t.a.op, .int .i64 t.a.hd, .int .i64 t.a.n, .sl 4 (Tm.encL t.a.args)], .agg [.int .i64 t.b.op, .int .i64 t.b.hd, .int .i64 t.b.n, .sl 4 (Tm.encL t.b.args)]]) := by rw [Tw.encL_eq, List.getElem?_map, h]; rfl
structure Qu where
 l : (List Qn)
abbrev Qu.enc (t : Qu) : D := .agg [.sl 13 (Qn.encL t.l)]
abbrev Qu.encL (l : List Qu) : List D := l.map Qu.enc
theorem Qu.encL_eq (l : List Qu) : Qu.encL l = l.map Qu.enc := rfl
theorem Qu.enc_eq (t : Qu) : t.enc = .agg [.sl 13 (Qn.encL t.l)] := rfl
theorem Qu.encL_length (l : List Qu) : (Qu.encL l).length = l.length := by simp
theorem Qu.encL_get {l : List Qu} {i : Nat} {t : Qu} (h : l[i]? = some t) : (Qu.encL l)[i]? = some (.agg [.sl 13 (Qn.encL t.l)]) := by rw [Qu.encL_eq, List.getElem?_map, h]; rfl
structure UWk where
 sig : (List Dc)
 metas : (List Mt)
 fixed : Int
 steps : Int
 queue : Qu
 left : (List Qn)
abbrev UWk.enc (t : UWk) : D := .agg [.sl 6 (Dc.encL t.sig), .sl 10 (Mt.encL t.metas), .int .i64 t.fixed, .int .i64 t.steps, .agg [.sl 13 (Qn.encL t.queue.l)], .sl 13 (Qn.encL t.left)]
abbrev UWk.encL (l : List UWk) : List D := l.map UWk.enc
theorem UWk.encL_eq (l : List UWk) : UWk.encL l = l.map UWk.enc := rfl
theorem UWk.enc_eq (t : UWk) : t.enc = .agg [.sl 6 (Dc.encL t.sig), .sl 10 (Mt.encL t.metas), .int .i64 t.fixed, .int .i64 t.steps, .agg [.sl 13 (Qn.encL t.queue.l)], .sl 13 (Qn.encL t.left)] := rfl
theorem UWk.encL_length (l : List UWk) : (UWk.encL l).length = l.length := by simp
theorem UWk.encL_get {l : List UWk} {i : Nat} {t : UWk} (h : l[i]? = some t) : (UWk.encL l)[i]? = some (.agg [.sl 6 (Dc.encL t.sig), .sl 10 (Mt.encL t.metas), .int .i64 t.fixed, .int .i64 t.steps, .agg [.sl 13 (Qn.encL t.queue.l)], .sl 13 (Qn.encL t.left)]) := by rw [UWk.encL_eq, List.getElem?_map, h]; rfl
structure Flu where
 e : Int
abbrev Flu.enc (t : Flu) : D := .agg [.int .i64 t.e]
abbrev Flu.encL (l : List Flu) : List D := l.map Flu.enc
theorem Flu.encL_eq (l : List Flu) : Flu.encL l = l.map Flu.enc := rfl
theorem Flu.enc_eq (t : Flu) : t.enc = .agg [.int .i64 t.e] := rfl
theorem Flu.encL_length (l : List Flu) : (Flu.encL l).length = l.length := by simp
theorem Flu.encL_get {l : List Flu} {i : Nat} {t : Flu} (h : l[i]? = some t) : (Flu.encL l)[i]? = some (.agg [.int .i64 t.e]) := by rw [Flu.encL_eq, List.getElem?_map, h]; rfl
structure Fls where
 e : Int
abbrev Fls.enc (t : Fls) : D := .agg [.int .i64 t.e]
abbrev Fls.encL (l : List Fls) : List D := l.map Fls.enc
theorem Fls.encL_eq (l : List Fls) : Fls.encL l = l.map Fls.enc := rfl
theorem Fls.enc_eq (t : Fls) : t.enc = .agg [.int .i64 t.e] := rfl
theorem Fls.encL_length (l : List Fls) : (Fls.encL l).length = l.length := by simp
theorem Fls.encL_get {l : List Fls} {i : Nat} {t : Fls} (h : l[i]? = some t) : (Fls.encL l)[i]? = some (.agg [.int .i64 t.e]) := by rw [Fls.encL_eq, List.getElem?_map, h]; rfl
structure SWk where
 steps : Int
abbrev SWk.enc (t : SWk) : D := .agg [.int .i64 t.steps]
abbrev SWk.encL (l : List SWk) : List D := l.map SWk.enc
theorem SWk.encL_eq (l : List SWk) : SWk.encL l = l.map SWk.enc := rfl
theorem SWk.enc_eq (t : SWk) : t.enc = .agg [.int .i64 t.steps] := rfl
theorem SWk.encL_length (l : List SWk) : (SWk.encL l).length = l.length := by simp
theorem SWk.encL_get {l : List SWk} {i : Nat} {t : SWk} (h : l[i]? = some t) : (SWk.encL l)[i]? = some (.agg [.int .i64 t.steps]) := by rw [SWk.encL_eq, List.getElem?_map, h]; rfl
mutual
def R03_put : Nat → (List Int) → Int → Option ((List Int))
 | 0, _, _ => none
 | n + 1, v1, v3 =>
  R03_put_L1 n v1 v3 0
def R03_put_L1 : Nat → (List Int) → Int → Int → Option ((List Int))
 | 0, _, _, _ => none
 | n + 1, v1, v3, v4 =>
  cond (decide (v4 < ((List.map (D.int .i64) v1).length : Int))) (
  cond (decide (0 ≤ v4 ∧ (v4).toNat < (List.map (D.int .i64) v1).length)) (
  (v1[(v4).toNat]?).bind (fun v9 =>
  cond (decide (v9 < v3)) (
  R03_put_L1 n v1 v3 (IntKind.i64.wrap (v4 + 1))) (
  cond (decide (v4 < ((List.map (D.int .i64) v1).length : Int))) (
  cond (decide (0 ≤ v4 ∧ (v4).toNat < (List.map (D.int .i64) v1).length)) (
  (v1[(v4).toNat]?).bind (fun v16 =>
  cond (v16 == v3) (
  some (v1)) (
  cond (decide ((0 : Int) ≤ (0 : Int) ∧ (0 : Int) ≤ v4 ∧ v4 ≤ ((List.map (D.int .i64) v1).length : Int))) (
  cond (decide ((List.map (D.int .i64) (v1.take v4.toNat)).length ≤ 1000000)) (
  cond (decide ((List.map (D.int .i64) ((v1.take v4.toNat) ++ [v3])).length ≤ 1000000)) (
  cond (decide ((0 : Int) ≤ v4 ∧ v4 ≤ ((List.map (D.int .i64) v1).length : Int) ∧ ((List.map (D.int .i64) v1).length : Int) ≤ ((List.map (D.int .i64) v1).length : Int))) (
  cond (decide ((List.map (D.int .i64) (((v1.take v4.toNat) ++ [v3]) ++ (v1.drop v4.toNat))).length ≤ 1000000)) (
  some ((((v1.take v4.toNat) ++ [v3]) ++ (v1.drop v4.toNat)))) none) none) none) none) none))) none) (
  cond (decide ((0 : Int) ≤ (0 : Int) ∧ (0 : Int) ≤ v4 ∧ v4 ≤ ((List.map (D.int .i64) v1).length : Int))) (
  cond (decide ((List.map (D.int .i64) (v1.take v4.toNat)).length ≤ 1000000)) (
  cond (decide ((List.map (D.int .i64) ((v1.take v4.toNat) ++ [v3])).length ≤ 1000000)) (
  cond (decide ((0 : Int) ≤ v4 ∧ v4 ≤ ((List.map (D.int .i64) v1).length : Int) ∧ ((List.map (D.int .i64) v1).length : Int) ≤ ((List.map (D.int .i64) v1).length : Int))) (
  cond (decide ((List.map (D.int .i64) (((v1.take v4.toNat) ++ [v3]) ++ (v1.drop v4.toNat))).length ≤ 1000000)) (
  some ((((v1.take v4.toNat) ++ [v3]) ++ (v1.drop v4.toNat)))) none) none) none) none) none)))) none) (
  cond (decide (v4 < ((List.map (D.int .i64) v1).length : Int))) (
  cond (decide (0 ≤ v4 ∧ (v4).toNat < (List.map (D.int .i64) v1).length)) (
  (v1[(v4).toNat]?).bind (fun v45 =>
  cond (v45 == v3) (
  some (v1)) (
  cond (decide ((0 : Int) ≤ (0 : Int) ∧ (0 : Int) ≤ v4 ∧ v4 ≤ ((List.map (D.int .i64) v1).length : Int))) (
  cond (decide ((List.map (D.int .i64) (v1.take v4.toNat)).length ≤ 1000000)) (
  cond (decide ((List.map (D.int .i64) ((v1.take v4.toNat) ++ [v3])).length ≤ 1000000)) (
  cond (decide ((0 : Int) ≤ v4 ∧ v4 ≤ ((List.map (D.int .i64) v1).length : Int) ∧ ((List.map (D.int .i64) v1).length : Int) ≤ ((List.map (D.int .i64) v1).length : Int))) (
  cond (decide ((List.map (D.int .i64) (((v1.take v4.toNat) ++ [v3]) ++ (v1.drop v4.toNat))).length ≤ 1000000)) (
  some ((((v1.take v4.toNat) ++ [v3]) ++ (v1.drop v4.toNat)))) none) none) none) none) none))) none) (
  cond (decide ((0 : Int) ≤ (0 : Int) ∧ (0 : Int) ≤ v4 ∧ v4 ≤ ((List.map (D.int .i64) v1).length : Int))) (
  cond (decide ((List.map (D.int .i64) (v1.take v4.toNat)).length ≤ 1000000)) (
  cond (decide ((List.map (D.int .i64) ((v1.take v4.toNat) ++ [v3])).length ≤ 1000000)) (
  cond (decide ((0 : Int) ≤ v4 ∧ v4 ≤ ((List.map (D.int .i64) v1).length : Int) ∧ ((List.map (D.int .i64) v1).length : Int) ≤ ((List.map (D.int .i64) v1).length : Int))) (
  cond (decide ((List.map (D.int .i64) (((v1.take v4.toNat) ++ [v3]) ++ (v1.drop v4.toNat))).length ≤ 1000000)) (
  some ((((v1.take v4.toNat) ++ [v3]) ++ (v1.drop v4.toNat)))) none) none) none) none) none))
 end
theorem qhx (n : Nat) (v1 : (List Int)) (v3 : Int) (a2 : OA) (c2 : Nat) (r : (List Int)) (hr : R03_put n v1 v3 = some r) : Meets Tryz.prog (.val (.fn (.func 287) [] [])) [(nU v1 a2 c2), (iS v3)] ⟨[], [⟨.slice a2 ((List.map (D.int .i64) v1).length) c2, 1, 3, (List.map (D.int .i64) v1)⟩], []⟩ (fun o S' => ∃ (b1 : OA) (d1 : Nat), o = .ret (nU r b1 d1) ∧ S' = ⟨[], [⟨.slice b1 ((List.map (D.int .i64) r).length) d1, 1, 3, (List.map (D.int .i64) r)⟩], []⟩) := by
 rcases n with _ | n
 ·exact qe hr
 rw [R03_put.eq_2] at hr
 refine qb (N := 49) (m := 0) (dt := fun _ => none) [] ttOK func287 rfl call287 ntmps287 rfl rfl rfl mixed (by kernel_rfl) ?_
 refine AtLoop.mk ⟨Nat × Int, fun x => [(0, (nU v1 a2 c2)), (1, (iS v3)), (5, (iS x.2))], fun x => ⟨[], [⟨.slice a2 ((List.map (D.int .i64) v1).length) c2, 1, 3, (List.map (D.int .i64) v1)⟩], []⟩, fun x => R03_put_L1 x.1 v1 v3 x.2 = some r, fun x => x.1, (n, 0), hr, ⟨rfl, rfl, rfl, trivial⟩, (StLe.gen 0 [.old 0] [] rfl rfl rfl rfl rfl rfl rfl), fun x _ => ⟨rfl, rfl⟩, ?_⟩
 rintro ⟨n, v4⟩ HH
 have hr : R03_put_L1 n v1 v3 v4 = some r := HH
 rcases n with _ | n
 ·exact qe hr
 rw [R03_put_L1.eq_2] at hr
 refine AtGuard.mk (fun h5 => ?_) (fun h5 => ?_)
 ·replace hr := qg h5 hr
  obtain ⟨h6, hr⟩ := qj hr
  refine qeh ttOK 0 rfl rfl rfl rfl h6 ?_
  intro b7 h8
  subst h8
  obtain ⟨v9, h10, hr⟩ := bind_some hr
  refine qev ttOK 0 rfl (qa7 (D.int .i64) h10) rfl (.inl ⟨_, rfl⟩) rfl ?_
  refine AtIf.mk (fun h11 => ?_) (fun h11 => ?_)
  ·replace hr := qg h11 hr
   exact ⟨(n, (IntKind.i64.wrap (v4 + 1))), hr, Nat.lt_succ_self _, ⟨rfl, rfl, rfl, trivial⟩, (StLe.gen 0 [.old 0] [] rfl rfl rfl rfl rfl rfl rfl)⟩
  ·replace hr := qf h11 hr
   refine AtGuard.mk (fun h12 => ?_) (fun h12 => ?_)
   ·replace hr := qg h12 hr
    obtain ⟨h13, hr⟩ := qj hr
    refine qeh ttOK 0 rfl rfl rfl rfl h13 ?_
    intro b14 h15
    obtain rfl : b7 = b14 := by injection h15 with h15; injection h15
    obtain ⟨v16, h17, hr⟩ := bind_some hr
    refine qev ttOK 0 rfl (qa7 (D.int .i64) h17) rfl (.inl ⟨_, rfl⟩) rfl ?_
    refine AtIf.mk (fun h18 => ?_) (fun h18 => ?_)
    ·replace hr := qg h18 hr
     replace hr := osi hr; subst hr
     exact AtRet.gen ⟨[], [⟨.slice (some ⟨b7, 0, none⟩) ((List.map (D.int .i64) v1).length) c2, 1, 3, (List.map (D.int .i64) v1)⟩], []⟩ (StLe.gen 0 [.old 0] [] rfl rfl rfl rfl rfl rfl rfl) rfl rfl ⟨(some ⟨b7, 0, none⟩), c2, rfl, rfl⟩
    ·replace hr := qf h18 hr
     obtain ⟨h19, hr⟩ := qj hr
     refine AtPure.le (S' := ⟨[], [], [(.slice (some ⟨b7, 0, none⟩) ((List.map (D.int .i64) v1).length) c2, .sl 1 (List.map (D.int .i64) v1))]⟩) (StLe.gen 0 [] [.froz 0] rfl rfl rfl rfl rfl rfl rfl) rfl ?_
     refine qaa ttOK 0 0 v4 (ds' := (List.map (D.int .i64) (v1.take v4.toNat))) rfl rfl rfl (.inr ⟨rfl, rfl⟩) (.inl ⟨_, rfl⟩) h19 (sl_h ..) ?_
     intro a20 c20
     obtain ⟨h21, hr⟩ := qj hr
     refine AtSem.le (S' := ⟨[], [⟨.slice none 0 0, 1, 3, []⟩], [(.slice (some ⟨b7, 0, none⟩) ((List.map (D.int .i64) v1).length) c2, .sl 1 (List.map (D.int .i64) v1)), (nQ (v1.take v4.toNat) a20 c20)]⟩) (StLe.gen 0 [.nil 1 3] [.old 0, .old 1] rfl rfl rfl rfl rfl rfl rfl) rfl ?_
     refine qm (ds' := (List.map (D.int .i64) (v1.take v4.toNat))) ttOK 8 0 1 rfl (by kernel_rfl) rfl rfl rfl rfl (List.nil_append _).symm h21 (by decide) ?_
     intro a22 c22
     refine qk (n := 1) ttOK 8 [.int .i64 v3] (ds' := (List.map (D.int .i64) ([v3]))) rfl (by kernel_rfl) ⟨⟨rfl, rfl, rfl, rfl⟩, trivial⟩ rfl rfl (by decide) (by decide) ?_
     intro a23
     obtain ⟨h24, hr⟩ := qj hr
     refine qm (ds' := (List.map (D.int .i64) ((v1.take v4.toNat) ++ [v3]))) ttOK 8 0 2 rfl (by kernel_rfl) rfl rfl rfl rfl (by simp only [List.map_append]) h24 (by decide) ?_
     intro a25 c25
     obtain ⟨h26, hr⟩ := qj hr
     refine qaa ttOK 0 v4 ((List.map (D.int .i64) v1).length : Int) (ds' := (List.map (D.int .i64) (v1.drop v4.toNat))) rfl rfl rfl (.inl ⟨_, rfl⟩) (.inr ⟨rfl, rfl⟩) h26 (sl_l ..) ?_
     intro a27 c27
     obtain ⟨h28, hr⟩ := qj hr
     refine qm (ds' := (List.map (D.int .i64) (((v1.take v4.toNat) ++ [v3]) ++ (v1.drop v4.toNat)))) ttOK 8 0 3 rfl (by kernel_rfl) rfl rfl rfl rfl (by simp only [List.map_append]) h28 (by decide) ?_
     intro a29 c29
     replace hr := osi hr; subst hr
     exact AtRet.gen ⟨[], [⟨.slice a29 ((List.map (D.int .i64) (((v1.take v4.toNat) ++ [v3]) ++ (v1.drop v4.toNat))).length) c29, 1, 3, (List.map (D.int .i64) (((v1.take v4.toNat) ++ [v3]) ++ (v1.drop v4.toNat)))⟩], []⟩ (StLe.gen 0 [.old 0] [] rfl rfl rfl rfl rfl rfl rfl) rfl rfl ⟨a29, c29, rfl, rfl⟩
   ·replace hr := qf h12 hr
    refine AtIf.mk (fun h => ff h) (fun _ => ?_)
    obtain ⟨h30, hr⟩ := qj hr
    refine AtPure.le (S' := ⟨[], [], [(.slice (some ⟨b7, 0, none⟩) ((List.map (D.int .i64) v1).length) c2, .sl 1 (List.map (D.int .i64) v1))]⟩) (StLe.gen 0 [] [.froz 0] rfl rfl rfl rfl rfl rfl rfl) rfl ?_
    refine qaa ttOK 0 0 v4 (ds' := (List.map (D.int .i64) (v1.take v4.toNat))) rfl rfl rfl (.inr ⟨rfl, rfl⟩) (.inl ⟨_, rfl⟩) h30 (sl_h ..) ?_
    intro a31 c31
    obtain ⟨h32, hr⟩ := qj hr
    refine AtSem.le (S' := ⟨[], [⟨.slice none 0 0, 1, 3, []⟩], [(.slice (some ⟨b7, 0, none⟩) ((List.map (D.int .i64) v1).length) c2, .sl 1 (List.map (D.int .i64) v1)), (nQ (v1.take v4.toNat) a31 c31)]⟩) (StLe.gen 0 [.nil 1 3] [.old 0, .old 1] rfl rfl rfl rfl rfl rfl rfl) rfl ?_
    refine qm (ds' := (List.map (D.int .i64) (v1.take v4.toNat))) ttOK 8 0 1 rfl (by kernel_rfl) rfl rfl rfl rfl (List.nil_append _).symm h32 (by decide) ?_
    intro a33 c33
    refine qk (n := 1) ttOK 8 [.int .i64 v3] (ds' := (List.map (D.int .i64) ([v3]))) rfl (by kernel_rfl) ⟨⟨rfl, rfl, rfl, rfl⟩, trivial⟩ rfl rfl (by decide) (by decide) ?_
    intro a34
    obtain ⟨h35, hr⟩ := qj hr
    refine qm (ds' := (List.map (D.int .i64) ((v1.take v4.toNat) ++ [v3]))) ttOK 8 0 2 rfl (by kernel_rfl) rfl rfl rfl rfl (by simp only [List.map_append]) h35 (by decide) ?_
    intro a36 c36
    obtain ⟨h37, hr⟩ := qj hr
    refine qaa ttOK 0 v4 ((List.map (D.int .i64) v1).length : Int) (ds' := (List.map (D.int .i64) (v1.drop v4.toNat))) rfl rfl rfl (.inl ⟨_, rfl⟩) (.inr ⟨rfl, rfl⟩) h37 (sl_l ..) ?_
    intro a38 c38
    obtain ⟨h39, hr⟩ := qj hr
    refine qm (ds' := (List.map (D.int .i64) (((v1.take v4.toNat) ++ [v3]) ++ (v1.drop v4.toNat)))) ttOK 8 0 3 rfl (by kernel_rfl) rfl rfl rfl rfl (by simp only [List.map_append]) h39 (by decide) ?_
    intro a40 c40
    replace hr := osi hr; subst hr
    exact AtRet.gen ⟨[], [⟨.slice a40 ((List.map (D.int .i64) (((v1.take v4.toNat) ++ [v3]) ++ (v1.drop v4.toNat))).length) c40, 1, 3, (List.map (D.int .i64) (((v1.take v4.toNat) ++ [v3]) ++ (v1.drop v4.toNat)))⟩], []⟩ (StLe.gen 0 [.old 0] [] rfl rfl rfl rfl rfl rfl rfl) rfl rfl ⟨a40, c40, rfl, rfl⟩
 ·replace hr := qf h5 hr
  refine AtIf.mk (fun h => ff h) (fun _ => ?_)
  refine AtGuard.mk (fun h41 => ?_) (fun h41 => ?_)
  ·replace hr := qg h41 hr
   obtain ⟨h42, hr⟩ := qj hr
   refine qeh ttOK 0 rfl rfl rfl rfl h42 ?_
   intro b43 h44
   subst h44
   obtain ⟨v45, h46, hr⟩ := bind_some hr
   refine qev ttOK 0 rfl (qa7 (D.int .i64) h46) rfl (.inl ⟨_, rfl⟩) rfl ?_
   refine AtIf.mk (fun h47 => ?_) (fun h47 => ?_)
   ·replace hr := qg h47 hr
    replace hr := osi hr; subst hr
    exact AtRet.gen ⟨[], [⟨.slice (some ⟨b43, 0, none⟩) ((List.map (D.int .i64) v1).length) c2, 1, 3, (List.map (D.int .i64) v1)⟩], []⟩ (StLe.gen 0 [.old 0] [] rfl rfl rfl rfl rfl rfl rfl) rfl rfl ⟨(some ⟨b43, 0, none⟩), c2, rfl, rfl⟩
   ·replace hr := qf h47 hr
    obtain ⟨h48, hr⟩ := qj hr
    refine AtPure.le (S' := ⟨[], [], [(.slice (some ⟨b43, 0, none⟩) ((List.map (D.int .i64) v1).length) c2, .sl 1 (List.map (D.int .i64) v1))]⟩) (StLe.gen 0 [] [.froz 0] rfl rfl rfl rfl rfl rfl rfl) rfl ?_
    refine qaa ttOK 0 0 v4 (ds' := (List.map (D.int .i64) (v1.take v4.toNat))) rfl rfl rfl (.inr ⟨rfl, rfl⟩) (.inl ⟨_, rfl⟩) h48 (sl_h ..) ?_
    intro a49 c49
    obtain ⟨h50, hr⟩ := qj hr
    refine AtSem.le (S' := ⟨[], [⟨.slice none 0 0, 1, 3, []⟩], [(.slice (some ⟨b43, 0, none⟩) ((List.map (D.int .i64) v1).length) c2, .sl 1 (List.map (D.int .i64) v1)), (nQ (v1.take v4.toNat) a49 c49)]⟩) (StLe.gen 0 [.nil 1 3] [.old 0, .old 1] rfl rfl rfl rfl rfl rfl rfl) rfl ?_
    refine qm (ds' := (List.map (D.int .i64) (v1.take v4.toNat))) ttOK 8 0 1 rfl (by kernel_rfl) rfl rfl rfl rfl (List.nil_append _).symm h50 (by decide) ?_
    intro a51 c51
    refine qk (n := 1) ttOK 8 [.int .i64 v3] (ds' := (List.map (D.int .i64) ([v3]))) rfl (by kernel_rfl) ⟨⟨rfl, rfl, rfl, rfl⟩, trivial⟩ rfl rfl (by decide) (by decide) ?_
    intro a52
    obtain ⟨h53, hr⟩ := qj hr
    refine qm (ds' := (List.map (D.int .i64) ((v1.take v4.toNat) ++ [v3]))) ttOK 8 0 2 rfl (by kernel_rfl) rfl rfl rfl rfl (by simp only [List.map_append]) h53 (by decide) ?_
    intro a54 c54
    obtain ⟨h55, hr⟩ := qj hr
    refine qaa ttOK 0 v4 ((List.map (D.int .i64) v1).length : Int) (ds' := (List.map (D.int .i64) (v1.drop v4.toNat))) rfl rfl rfl (.inl ⟨_, rfl⟩) (.inr ⟨rfl, rfl⟩) h55 (sl_l ..) ?_
    intro a56 c56
    obtain ⟨h57, hr⟩ := qj hr
    refine qm (ds' := (List.map (D.int .i64) (((v1.take v4.toNat) ++ [v3]) ++ (v1.drop v4.toNat)))) ttOK 8 0 3 rfl (by kernel_rfl) rfl rfl rfl rfl (by simp only [List.map_append]) h57 (by decide) ?_
    intro a58 c58
    replace hr := osi hr; subst hr
    exact AtRet.gen ⟨[], [⟨.slice a58 ((List.map (D.int .i64) (((v1.take v4.toNat) ++ [v3]) ++ (v1.drop v4.toNat))).length) c58, 1, 3, (List.map (D.int .i64) (((v1.take v4.toNat) ++ [v3]) ++ (v1.drop v4.toNat)))⟩], []⟩ (StLe.gen 0 [.old 0] [] rfl rfl rfl rfl rfl rfl rfl) rfl rfl ⟨a58, c58, rfl, rfl⟩
  ·replace hr := qf h41 hr
   refine AtIf.mk (fun h => ff h) (fun _ => ?_)
   obtain ⟨h59, hr⟩ := qj hr
   refine AtPure.le (S' := ⟨[], [], [(nQ v1 a2 c2)]⟩) (StLe.gen 0 [] [.froz 0] rfl rfl rfl rfl rfl rfl rfl) rfl ?_
   refine qaa ttOK 0 0 v4 (ds' := (List.map (D.int .i64) (v1.take v4.toNat))) rfl rfl rfl (.inr ⟨rfl, rfl⟩) (.inl ⟨_, rfl⟩) h59 (sl_h ..) ?_
   intro a60 c60
   obtain ⟨h61, hr⟩ := qj hr
   refine AtSem.le (S' := ⟨[], [⟨.slice none 0 0, 1, 3, []⟩], [(nQ v1 a2 c2), (nQ (v1.take v4.toNat) a60 c60)]⟩) (StLe.gen 0 [.nil 1 3] [.old 0, .old 1] rfl rfl rfl rfl rfl rfl rfl) rfl ?_
   refine qm (ds' := (List.map (D.int .i64) (v1.take v4.toNat))) ttOK 8 0 1 rfl (by kernel_rfl) rfl rfl rfl rfl (List.nil_append _).symm h61 (by decide) ?_
   intro a62 c62
   refine qk (n := 1) ttOK 8 [.int .i64 v3] (ds' := (List.map (D.int .i64) ([v3]))) rfl (by kernel_rfl) ⟨⟨rfl, rfl, rfl, rfl⟩, trivial⟩ rfl rfl (by decide) (by decide) ?_
   intro a63
   obtain ⟨h64, hr⟩ := qj hr
   refine qm (ds' := (List.map (D.int .i64) ((v1.take v4.toNat) ++ [v3]))) ttOK 8 0 2 rfl (by kernel_rfl) rfl rfl rfl rfl (by simp only [List.map_append]) h64 (by decide) ?_
   intro a65 c65
   obtain ⟨h66, hr⟩ := qj hr
   refine qaa ttOK 0 v4 ((List.map (D.int .i64) v1).length : Int) (ds' := (List.map (D.int .i64) (v1.drop v4.toNat))) rfl rfl rfl (.inl ⟨_, rfl⟩) (.inr ⟨rfl, rfl⟩) h66 (sl_l ..) ?_
   intro a67 c67
   obtain ⟨h68, hr⟩ := qj hr
   refine qm (ds' := (List.map (D.int .i64) (((v1.take v4.toNat) ++ [v3]) ++ (v1.drop v4.toNat)))) ttOK 8 0 3 rfl (by kernel_rfl) rfl rfl rfl rfl (by simp only [List.map_append]) h68 (by decide) ?_
   intro a69 c69
   replace hr := osi hr; subst hr
   exact AtRet.gen ⟨[], [⟨.slice a69 ((List.map (D.int .i64) (((v1.take v4.toNat) ++ [v3]) ++ (v1.drop v4.toNat))).length) c69, 1, 3, (List.map (D.int .i64) (((v1.take v4.toNat) ++ [v3]) ++ (v1.drop v4.toNat)))⟩], []⟩ (StLe.gen 0 [.old 0] [] rfl rfl rfl rfl rfl rfl rfl) rfl rfl ⟨a69, c69, rfl, rfl⟩
def R03_below : Nat → Tm → Int → Option (Int)
 | 0, _, _ => none
 | n + 1, v1, v3 =>
  cond ((v1.op == 3) || ((v1.op == 2) && (v3 == 1))) (
  some (1)) (
  some (0))
theorem qcl (n : Nat) (v1 : Tm) (v3 : Int) (a2 : OA) (c2 : Nat) (r : Int) (hr : R03_below n v1 v3 = some r) : Pure Tryz.prog (.val (.fn (.func 288) [] [])) [(.agg [(iS v1.op), (iS v1.hd), (iS v1.n), (tU v1.args a2 c2)]), (iS v3)] [(tQ v1.args a2 c2)] (fun r' out => r' = (iS r) ∧ out = []) := by
 rcases n with _ | n
 ·exact qe hr
 rw [R03_below.eq_2] at hr
 refine qb (N := 17) (m := 0) (dt := fun _ => none) [] ttOK func288 rfl call288 ntmps288 rfl rfl rfl mixed (by kernel_rfl) ?_
 refine AtIf.mk (fun h4 => ?_) (fun h4 => ?_)
 ·replace hr := qg h4 hr
  replace hr := osi hr; subst hr
  exact qa [] [] rfl rfl ⟨rfl, rfl⟩
 ·replace hr := qf h4 hr
  replace hr := osi hr; subst hr
  exact qa [] [] rfl rfl ⟨rfl, rfl⟩
mutual
def R03_heads : Nat → Tm → Int → Int → (List Int) → Option ((List Int))
 | 0, _, _, _, _ => none
 | n + 1, v1, v3, v4, v5 =>
  cond ((v1.op == 4) && (v1.hd == v3)) (
  cond (v3 != 1) (
  (R03_put n v5 v1.n).bind (fun v9 =>
  R03_heads_L1 n v1 v3 v4 v9 0)) (
  cond (decide (v1.n ≥ v4)) (
  (R03_put n v5 (IntKind.i64.wrap (v1.n - v4))).bind (fun v27 =>
  R03_heads_L1 n v1 v3 v4 v27 0)) (
  R03_heads_L1 n v1 v3 v4 v5 0))) (
  R03_heads_L1 n v1 v3 v4 v5 0)
def R03_heads_L1 : Nat → Tm → Int → Int → (List Int) → Int → Option ((List Int))
 | 0, _, _, _, _, _ => none
 | n + 1, v1, v3, v4, v12, v14 =>
  cond (decide (v14 < ((Tm.encL v1.args).length : Int))) (
  (idx v1.args v14).bind (fun v16 =>
  (R03_below n v1 v14).bind (fun v21 =>
  (R03_heads n v16 v3 (IntKind.i64.wrap (v4 + v21)) v12).bind (fun v23 =>
  R03_heads_L1 n v1 v3 v4 v23 (IntKind.i64.wrap (v14 + 1)))))) (
  some (v12))
 end
theorem qj0 : ∀ (N : Nat), (∀ (n : Nat), n ≤ N → ∀ (v1 : Tm) (v3 : Int) (v4 : Int) (v5 : (List Int)) (a2 : OA) (c2 : Nat) (a6 : OA) (c6 : Nat) (r : (List Int)), R03_heads n v1 v3 v4 v5 = some r → Meets Tryz.prog (.val (.fn (.func 213) [] [])) [(.agg [(iS v1.op), (iS v1.hd), (iS v1.n), (tU v1.args a2 c2)]), (iS v3), (iS v4), (nU v5 a6 c6)] ⟨[], [⟨.slice a6 ((List.map (D.int .i64) v5).length) c6, 1, 3, (List.map (D.int .i64) v5)⟩], [(tQ v1.args a2 c2)]⟩ (fun o S' => ∃ (b1 : OA) (d1 : Nat), o = .ret (nU r b1 d1) ∧ S' = ⟨[], [⟨.slice b1 ((List.map (D.int .i64) r).length) d1, 1, 3, (List.map (D.int .i64) r)⟩], []⟩)) := by
 intro N
 induction N with
 | zero =>
  intro n hn v1 v3 v4 v5 a2 c2 a6 c6 r hr; obtain rfl : n = 0 := (by omega); exact qe hr
 | succ N ih =>
  intro n hn v1 v3 v4 v5 a2 c2 a6 c6 r hr
  rcases n with _ | n
  ·exact qe hr
  replace hn : n ≤ N := by omega
  rw [R03_heads.eq_2] at hr
  refine qb (N := 56) (m := 0) (dt := drawsOf [(9, .node [0, 1, 2, 3, 4, 5, 6, 7, 8, 11] [(9, .node [10] [(12, .leaf [13])])], [12], [])]) [] ttOK func213 rfl call213 ntmps213 rfl rfl rfl mixed (by kernel_rfl) ?_
  refine AtIf.mk (fun h7 => ?_) (fun h7 => ?_)
  ·replace hr := qg h7 hr
   refine AtIf.mk (fun h8 => ?_) (fun h8 => ?_)
   ·replace hr := qg h8 hr
    obtain ⟨v9, h10, hr⟩ := bind_some hr
    refine (qhx n v5 v1.n a6 c6 _ h10).frameRA [] [0] [] rfl rfl rfl rfl rfl rfl rfl rfl rfl ?_
    rintro _ _ ⟨a11, c11, rfl, rfl⟩
    refine ⟨rfl, [], rfl, ?_⟩
    refine AtLoop.mk ⟨Nat × (List Int) × Option Addr × Nat × Int, fun x => [(1, (iS v3)), (2, (iS v4)), (3, (nU x.2.1 x.2.2.1 x.2.2.2.1)), (4, (.loc 0 0)), (9, (iS x.2.2.2.2))], fun x => ⟨[.cells 41 [(iS v1.op), (iS v1.hd), (iS v1.n), (tU v1.args a2 c2)]], [⟨.slice x.2.2.1 ((List.map (D.int .i64) x.2.1).length) x.2.2.2.1, 1, 3, (List.map (D.int .i64) x.2.1)⟩], [(tQ v1.args a2 c2)]⟩, fun x => x.1 ≤ N ∧ R03_heads_L1 x.1 v1 v3 v4 x.2.1 x.2.2.2.2 = some r, fun x => x.1, (n, v9, a11, c11, 0), ⟨by omega, hr⟩, ⟨rfl, rfl, rfl, rfl, rfl, trivial⟩, (StLe.gen 1 [.old 0] [.old 0] rfl rfl rfl rfl rfl rfl rfl), fun x _ => ⟨rfl, rfl⟩, ?_⟩
    rintro ⟨n, v12, a13, c13, v14⟩ HH
    obtain ⟨hn, hr⟩ : n ≤ N ∧ R03_heads_L1 n v1 v3 v4 v12 v14 = some r := HH
    rcases n with _ | n
    ·exact qe hr
    rw [R03_heads_L1.eq_2] at hr
    refine AtIf.mk (fun h15 => ?_) (fun h15 => ?_)
    ·replace hr := qg h15 hr
     obtain ⟨v16, h17, hr⟩ := bind_some hr
     obtain ⟨h18, h19⟩ := qi h17
     refine qh ttOK 0 rfl rfl rfl rfl h18 (Tm.encL_get h19) ?_
     intro a20 c20 _ _
     obtain ⟨v21, h22, hr⟩ := bind_some hr
     refine (qcl n v1 v14 a2 c2 _ h22).atR [0] rfl rfl rfl ?_
     rintro _ _ ⟨rfl, rfl⟩
     refine ⟨fun _ _ h => h, ?_⟩
     obtain ⟨v23, h24, hr⟩ := bind_some hr
     refine (ih n (by omega) v16 v3 (IntKind.i64.wrap (v4 + v21)) v12 a20 c20 a13 c13 _ h24).frameRA [] [0] [1] rfl rfl rfl rfl rfl rfl rfl rfl rfl ?_
     rintro _ _ ⟨a25, c25, rfl, rfl⟩
     refine ⟨rfl, [], rfl, ?_⟩
     exact ⟨(n, v23, a25, c25, (IntKind.i64.wrap (v14 + 1))), ⟨by omega, hr⟩, Nat.lt_succ_self _, ⟨rfl, rfl, rfl, rfl, rfl, trivial⟩, (StLe.gen 1 [.old 0] [.old 0] rfl rfl rfl rfl rfl rfl rfl)⟩
    ·replace hr := qf h15 hr
     replace hr := osi hr; subst hr
     exact AtRet.gen ⟨[], [⟨.slice a13 ((List.map (D.int .i64) v12).length) c13, 1, 3, (List.map (D.int .i64) v12)⟩], []⟩ (StLe.gen 0 [.old 0] [] rfl rfl rfl rfl rfl rfl rfl) rfl rfl ⟨a13, c13, rfl, rfl⟩
   ·replace hr := qf h8 hr
    refine AtIf.mk (fun h26 => ?_) (fun h26 => ?_)
    ·replace hr := qg h26 hr
     obtain ⟨v27, h28, hr⟩ := bind_some hr
     refine (qhx n v5 (IntKind.i64.wrap (v1.n - v4)) a6 c6 _ h28).frameRA [] [0] [] rfl rfl rfl rfl rfl rfl rfl rfl rfl ?_
     rintro _ _ ⟨a29, c29, rfl, rfl⟩
     refine ⟨rfl, [], rfl, ?_⟩
     refine AtLoop.mk ⟨Nat × (List Int) × Option Addr × Nat × Int, fun x => [(1, (iS v3)), (2, (iS v4)), (3, (nU x.2.1 x.2.2.1 x.2.2.2.1)), (4, (.loc 0 0)), (9, (iS x.2.2.2.2))], fun x => ⟨[.cells 41 [(iS v1.op), (iS v1.hd), (iS v1.n), (tU v1.args a2 c2)]], [⟨.slice x.2.2.1 ((List.map (D.int .i64) x.2.1).length) x.2.2.2.1, 1, 3, (List.map (D.int .i64) x.2.1)⟩], [(tQ v1.args a2 c2)]⟩, fun x => x.1 ≤ N ∧ R03_heads_L1 x.1 v1 v3 v4 x.2.1 x.2.2.2.2 = some r, fun x => x.1, (n, v27, a29, c29, 0), ⟨by omega, hr⟩, ⟨rfl, rfl, rfl, rfl, rfl, trivial⟩, (StLe.gen 1 [.old 0] [.old 0] rfl rfl rfl rfl rfl rfl rfl), fun x _ => ⟨rfl, rfl⟩, ?_⟩
     rintro ⟨n, v30, a31, c31, v32⟩ HH
     obtain ⟨hn, hr⟩ : n ≤ N ∧ R03_heads_L1 n v1 v3 v4 v30 v32 = some r := HH
     rcases n with _ | n
     ·exact qe hr
     rw [R03_heads_L1.eq_2] at hr
     refine AtIf.mk (fun h33 => ?_) (fun h33 => ?_)
     ·replace hr := qg h33 hr
      obtain ⟨v34, h35, hr⟩ := bind_some hr
      obtain ⟨h36, h37⟩ := qi h35
      refine qh ttOK 0 rfl rfl rfl rfl h36 (Tm.encL_get h37) ?_
      intro a38 c38 _ _
      obtain ⟨v39, h40, hr⟩ := bind_some hr
      refine (qcl n v1 v32 a2 c2 _ h40).atR [0] rfl rfl rfl ?_
      rintro _ _ ⟨rfl, rfl⟩
      refine ⟨fun _ _ h => h, ?_⟩
      obtain ⟨v41, h42, hr⟩ := bind_some hr
      refine (ih n (by omega) v34 v3 (IntKind.i64.wrap (v4 + v39)) v30 a38 c38 a31 c31 _ h42).frameRA [] [0] [1] rfl rfl rfl rfl rfl rfl rfl rfl rfl ?_
      rintro _ _ ⟨a43, c43, rfl, rfl⟩
      refine ⟨rfl, [], rfl, ?_⟩
      exact ⟨(n, v41, a43, c43, (IntKind.i64.wrap (v32 + 1))), ⟨by omega, hr⟩, Nat.lt_succ_self _, ⟨rfl, rfl, rfl, rfl, rfl, trivial⟩, (StLe.gen 1 [.old 0] [.old 0] rfl rfl rfl rfl rfl rfl rfl)⟩
     ·replace hr := qf h33 hr
      replace hr := osi hr; subst hr
      exact AtRet.gen ⟨[], [⟨.slice a31 ((List.map (D.int .i64) v30).length) c31, 1, 3, (List.map (D.int .i64) v30)⟩], []⟩ (StLe.gen 0 [.old 0] [] rfl rfl rfl rfl rfl rfl rfl) rfl rfl ⟨a31, c31, rfl, rfl⟩
    ·replace hr := qf h26 hr
     refine AtLoop.mk ⟨Nat × (List Int) × Option Addr × Nat × Int, fun x => [(1, (iS v3)), (2, (iS v4)), (3, (nU x.2.1 x.2.2.1 x.2.2.2.1)), (4, (.loc 0 0)), (9, (iS x.2.2.2.2))], fun x => ⟨[.cells 41 [(iS v1.op), (iS v1.hd), (iS v1.n), (tU v1.args a2 c2)]], [⟨.slice x.2.2.1 ((List.map (D.int .i64) x.2.1).length) x.2.2.2.1, 1, 3, (List.map (D.int .i64) x.2.1)⟩], [(tQ v1.args a2 c2)]⟩, fun x => x.1 ≤ N ∧ R03_heads_L1 x.1 v1 v3 v4 x.2.1 x.2.2.2.2 = some r, fun x => x.1, (n, v5, a6, c6, 0), ⟨by omega, hr⟩, ⟨rfl, rfl, rfl, rfl, rfl, trivial⟩, (StLe.gen 1 [.old 0] [.old 0] rfl rfl rfl rfl rfl rfl rfl), fun x _ => ⟨rfl, rfl⟩, ?_⟩
     rintro ⟨n, v44, a45, c45, v46⟩ HH
     obtain ⟨hn, hr⟩ : n ≤ N ∧ R03_heads_L1 n v1 v3 v4 v44 v46 = some r := HH
     rcases n with _ | n
     ·exact qe hr
     rw [R03_heads_L1.eq_2] at hr
     refine AtIf.mk (fun h47 => ?_) (fun h47 => ?_)
     ·replace hr := qg h47 hr
      obtain ⟨v48, h49, hr⟩ := bind_some hr
      obtain ⟨h50, h51⟩ := qi h49
      refine qh ttOK 0 rfl rfl rfl rfl h50 (Tm.encL_get h51) ?_
      intro a52 c52 _ _
      obtain ⟨v53, h54, hr⟩ := bind_some hr
      refine (qcl n v1 v46 a2 c2 _ h54).atR [0] rfl rfl rfl ?_
      rintro _ _ ⟨rfl, rfl⟩
      refine ⟨fun _ _ h => h, ?_⟩
      obtain ⟨v55, h56, hr⟩ := bind_some hr
      refine (ih n (by omega) v48 v3 (IntKind.i64.wrap (v4 + v53)) v44 a52 c52 a45 c45 _ h56).frameRA [] [0] [1] rfl rfl rfl rfl rfl rfl rfl rfl rfl ?_
      rintro _ _ ⟨a57, c57, rfl, rfl⟩
      refine ⟨rfl, [], rfl, ?_⟩
      exact ⟨(n, v55, a57, c57, (IntKind.i64.wrap (v46 + 1))), ⟨by omega, hr⟩, Nat.lt_succ_self _, ⟨rfl, rfl, rfl, rfl, rfl, trivial⟩, (StLe.gen 1 [.old 0] [.old 0] rfl rfl rfl rfl rfl rfl rfl)⟩
     ·replace hr := qf h47 hr
      replace hr := osi hr; subst hr
      exact AtRet.gen ⟨[], [⟨.slice a45 ((List.map (D.int .i64) v44).length) c45, 1, 3, (List.map (D.int .i64) v44)⟩], []⟩ (StLe.gen 0 [.old 0] [] rfl rfl rfl rfl rfl rfl rfl) rfl rfl ⟨a45, c45, rfl, rfl⟩
  ·replace hr := qf h7 hr
   refine AtLoop.mk ⟨Nat × (List Int) × Option Addr × Nat × Int, fun x => [(1, (iS v3)), (2, (iS v4)), (3, (nU x.2.1 x.2.2.1 x.2.2.2.1)), (4, (.loc 0 0)), (9, (iS x.2.2.2.2))], fun x => ⟨[.cells 41 [(iS v1.op), (iS v1.hd), (iS v1.n), (tU v1.args a2 c2)]], [⟨.slice x.2.2.1 ((List.map (D.int .i64) x.2.1).length) x.2.2.2.1, 1, 3, (List.map (D.int .i64) x.2.1)⟩], [(tQ v1.args a2 c2)]⟩, fun x => x.1 ≤ N ∧ R03_heads_L1 x.1 v1 v3 v4 x.2.1 x.2.2.2.2 = some r, fun x => x.1, (n, v5, a6, c6, 0), ⟨by omega, hr⟩, ⟨rfl, rfl, rfl, rfl, rfl, trivial⟩, (StLe.gen 1 [.old 0] [.old 0] rfl rfl rfl rfl rfl rfl rfl), fun x _ => ⟨rfl, rfl⟩, ?_⟩
   rintro ⟨n, v58, a59, c59, v60⟩ HH
   obtain ⟨hn, hr⟩ : n ≤ N ∧ R03_heads_L1 n v1 v3 v4 v58 v60 = some r := HH
   rcases n with _ | n
   ·exact qe hr
   rw [R03_heads_L1.eq_2] at hr
   refine AtIf.mk (fun h61 => ?_) (fun h61 => ?_)
   ·replace hr := qg h61 hr
    obtain ⟨v62, h63, hr⟩ := bind_some hr
    obtain ⟨h64, h65⟩ := qi h63
    refine qh ttOK 0 rfl rfl rfl rfl h64 (Tm.encL_get h65) ?_
    intro a66 c66 _ _
    obtain ⟨v67, h68, hr⟩ := bind_some hr
    refine (qcl n v1 v60 a2 c2 _ h68).atR [0] rfl rfl rfl ?_
    rintro _ _ ⟨rfl, rfl⟩
    refine ⟨fun _ _ h => h, ?_⟩
    obtain ⟨v69, h70, hr⟩ := bind_some hr
    refine (ih n (by omega) v62 v3 (IntKind.i64.wrap (v4 + v67)) v58 a66 c66 a59 c59 _ h70).frameRA [] [0] [1] rfl rfl rfl rfl rfl rfl rfl rfl rfl ?_
    rintro _ _ ⟨a71, c71, rfl, rfl⟩
    refine ⟨rfl, [], rfl, ?_⟩
    exact ⟨(n, v69, a71, c71, (IntKind.i64.wrap (v60 + 1))), ⟨by omega, hr⟩, Nat.lt_succ_self _, ⟨rfl, rfl, rfl, rfl, rfl, trivial⟩, (StLe.gen 1 [.old 0] [.old 0] rfl rfl rfl rfl rfl rfl rfl)⟩
   ·replace hr := qf h61 hr
    replace hr := osi hr; subst hr
    exact AtRet.gen ⟨[], [⟨.slice a59 ((List.map (D.int .i64) v58).length) c59, 1, 3, (List.map (D.int .i64) v58)⟩], []⟩ (StLe.gen 0 [.old 0] [] rfl rfl rfl rfl rfl rfl rfl) rfl rfl ⟨a59, c59, rfl, rfl⟩
theorem qdt (n : Nat) (v1 : Tm) (v3 : Int) (v4 : Int) (v5 : (List Int)) (a2 : OA) (c2 : Nat) (a6 : OA) (c6 : Nat) (r : (List Int)) (hr : R03_heads n v1 v3 v4 v5 = some r) : Meets Tryz.prog (.val (.fn (.func 213) [] [])) [(.agg [(iS v1.op), (iS v1.hd), (iS v1.n), (tU v1.args a2 c2)]), (iS v3), (iS v4), (nU v5 a6 c6)] ⟨[], [⟨.slice a6 ((List.map (D.int .i64) v5).length) c6, 1, 3, (List.map (D.int .i64) v5)⟩], [(tQ v1.args a2 c2)]⟩ (fun o S' => ∃ (b1 : OA) (d1 : Nat), o = .ret (nU r b1 d1) ∧ S' = ⟨[], [⟨.slice b1 ((List.map (D.int .i64) r).length) d1, 1, 3, (List.map (D.int .i64) r)⟩], []⟩) := (qj0 n) n (Nat.le_refl _) v1 v3 v4 v5 a2 c2 a6 c6 r hr
def R03_Metas : Nat → Tm → Option ((List Int))
 | 0, _ => none
 | n + 1, v1 =>
  (R03_heads n v1 3 0 ([])).bind (fun v3 =>
  some (v3))
theorem qfq (n : Nat) (v1 : Tm) (a2 : OA) (c2 : Nat) (r : (List Int)) (hr : R03_Metas n v1 = some r) : Meets Tryz.prog (.val (.fn (.func 134) [] [])) [(.agg [(iS v1.op), (iS v1.hd), (iS v1.n), (tU v1.args a2 c2)])] ⟨[], [], [(tQ v1.args a2 c2)]⟩ (fun o S' => ∃ (b1 : OA) (d1 : Nat), o = .ret (nU r b1 d1) ∧ S' = ⟨[], [⟨.slice b1 ((List.map (D.int .i64) r).length) d1, 1, 3, (List.map (D.int .i64) r)⟩], []⟩) := by
 rcases n with _ | n
 ·exact qe hr
 rw [R03_Metas.eq_2] at hr
 refine qb (N := 5) (m := 0) (dt := fun _ => none) [] ttOK func134 rfl call134 ntmps134 rfl rfl rfl mixed (by kernel_rfl) ?_
 obtain ⟨v3, h4, hr⟩ := bind_some hr
 refine Meets.le (S' := ⟨[.cells 41 [(iS v1.op), (iS v1.hd), (iS v1.n), (tU v1.args a2 c2)]], [⟨.slice none 0 0, 1, 3, []⟩], [(tQ v1.args a2 c2)]⟩) (StLe.gen 1 [.nil 1 3] [.old 0] rfl rfl rfl rfl rfl rfl rfl) rfl ?_
 refine (qdt n v1 3 0 ([]) a2 c2 none 0 _ h4).frameRA [] [0] [0] rfl rfl rfl rfl rfl rfl rfl rfl rfl ?_
 rintro _ _ ⟨a5, c5, rfl, rfl⟩
 refine ⟨rfl, [], rfl, ?_⟩
 replace hr := osi hr; subst hr
 exact AtRet.gen ⟨[], [⟨.slice a5 ((List.map (D.int .i64) v3).length) c5, 1, 3, (List.map (D.int .i64) v3)⟩], []⟩ (StLe.gen 0 [.old 0] [] rfl rfl rfl rfl rfl rfl rfl) rfl rfl ⟨a5, c5, rfl, rfl⟩
def R03_Free : Nat → Tm → Option ((List Int))
 | 0, _ => none
 | n + 1, v1 =>
  (R03_heads n v1 1 0 ([])).bind (fun v3 =>
  some (v3))
theorem qme (n : Nat) (v1 : Tm) (a2 : OA) (c2 : Nat) (r : (List Int)) (hr : R03_Free n v1 = some r) : Pure Tryz.prog (.val (.fn (.func 173) [] [])) [(.agg [(iS v1.op), (iS v1.hd), (iS v1.n), (tU v1.args a2 c2)])] [(tQ v1.args a2 c2)] (fun r' out => ∃ (b1 : OA) (d1 : Nat), r' = (nU r b1 d1) ∧ out = [(nQ r b1 d1)]) := by
 rcases n with _ | n
 ·exact qe hr
 rw [R03_Free.eq_2] at hr
 refine qb (N := 5) (m := 0) (dt := fun _ => none) [] ttOK func173 rfl call173 ntmps173 rfl rfl rfl mixed (by kernel_rfl) ?_
 obtain ⟨v3, h4, hr⟩ := bind_some hr
 refine Meets.le (S' := ⟨[.cells 41 [(iS v1.op), (iS v1.hd), (iS v1.n), (tU v1.args a2 c2)]], [⟨.slice none 0 0, 1, 3, []⟩], [(tQ v1.args a2 c2)]⟩) (StLe.gen 1 [.nil 1 3] [.old 0] rfl rfl rfl rfl rfl rfl rfl) rfl ?_
 refine (qdt n v1 1 0 ([]) a2 c2 none 0 _ h4).frameRA [] [0] [0] rfl rfl rfl rfl rfl rfl rfl rfl rfl ?_
 rintro _ _ ⟨a5, c5, rfl, rfl⟩
 refine ⟨rfl, [], rfl, ?_⟩
 replace hr := osi hr; subst hr
 exact qa [.froz 0] [(nQ v3 a5 c5)] rfl rfl ⟨a5, c5, rfl, rfl⟩
def R01_small : Nat → Int → Option (Bool)
 | 0, _ => none
 | n + 1, v1 =>
  some (((decide (v1 ≥ 97)) && (decide (v1 ≤ 122))))
def R01_IsCapital : Nat → ByteArray → Option (Bool)
 | 0, _ => none
 | n + 1, v1 =>
  cond (refNameF v1) (
  (idx v1.data.toList 0).bind (fun v3 =>
  (R01_small n (v3.toNat : Int)).bind (fun v7 =>
  some ((!v7))))) (
  some (false))
mutual
def R03_SameAll : Nat → (List Tm) → (List Tm) → Option (Bool)
 | 0, _, _ => none
 | n + 1, v1, v3 =>
  cond (((Tm.encL v1).length : Int) != ((Tm.encL v3).length : Int)) (
  some (false)) (
  R03_SameAll_L1 n v1 v3 0)
def R03_SameAll_L1 : Nat → (List Tm) → (List Tm) → Int → Option (Bool)
 | 0, _, _, _ => none
 | n + 1, v1, v3, v6 =>
  cond (decide (v6 < ((Tm.encL v1).length : Int))) (
  (idx v1 v6).bind (fun v8 =>
  (idx v3 v6).bind (fun v13 =>
  cond (!(sameF v8 v13)) (
  some (false)) (
  R03_SameAll_L1 n v1 v3 (IntKind.i64.wrap (v6 + 1)))))) (
  some (true))
 end
theorem qig (n : Nat) (v1 : (List Tm)) (v3 : (List Tm)) (a2 : OA) (c2 : Nat) (a4 : OA) (c4 : Nat) (r : Bool) (hr : R03_SameAll n v1 v3 = some r) : Pure Tryz.prog (.val (.fn (.func 48) [] [])) [(tU v1 a2 c2), (tU v3 a4 c4)] [(tQ v1 a2 c2), (tQ v3 a4 c4)] (fun r' out => r' = (bS r) ∧ out = []) := by
 rcases n with _ | n
 ·exact qe hr
 rw [R03_SameAll.eq_2] at hr
 refine qb (N := 27) (m := 0) (dt := drawsOf [(6, .node [0, 1, 2, 3, 4, 5, 6, 7] [(8, .leaf [9])], [8], [])]) [] ttOK func48 rfl call48 ntmps48 rfl rfl rfl mixed (by kernel_rfl) ?_
 refine AtIf.mk (fun h5 => ?_) (fun h5 => ?_)
 ·replace hr := qg h5 hr
  replace hr := osi hr; subst hr
  exact qa [] [] rfl rfl ⟨rfl, rfl⟩
 ·replace hr := qf h5 hr
  refine AtLoop.mk ⟨Nat × Int, fun x => [(0, (tU v1 a2 c2)), (1, (tU v3 a4 c4)), (5, (iS x.2))], fun x => ⟨[], [], [(tQ v1 a2 c2), (tQ v3 a4 c4)]⟩, fun x => R03_SameAll_L1 x.1 v1 v3 x.2 = some r, fun x => x.1, (n, 0), hr, ⟨rfl, rfl, rfl, trivial⟩, (StLe.gen 0 [] [.old 0, .old 1] rfl rfl rfl rfl rfl rfl rfl), fun x _ => ⟨rfl, rfl⟩, ?_⟩
  rintro ⟨n, v6⟩ HH
  have hr : R03_SameAll_L1 n v1 v3 v6 = some r := HH
  rcases n with _ | n
  ·exact qe hr
  rw [R03_SameAll_L1.eq_2] at hr
  refine AtIf.mk (fun h7 => ?_) (fun h7 => ?_)
  ·replace hr := qg h7 hr
   obtain ⟨v8, h9, hr⟩ := bind_some hr
   obtain ⟨h10, h11⟩ := qi h9
   refine qh ttOK 0 rfl rfl rfl rfl h10 (Tm.encL_get h11) ?_
   intro a12 c12 _ _
   obtain ⟨v13, h14, hr⟩ := bind_some hr
   obtain ⟨h15, h16⟩ := qi h14
   refine qh ttOK 1 rfl rfl rfl rfl h15 (Tm.encL_get h16) ?_
   intro a17 c17 _ _
   refine (qic v8 v13 a12 a17 c12 c17).atR [2, 3] rfl rfl rfl ?_
   rintro _ _ ⟨rfl, rfl⟩
   refine AtIf.mk (fun h18 => ?_) (fun h18 => ?_)
   ·replace hr := qg h18 hr
    replace hr := osi hr; subst hr
    exact qa [] [] rfl rfl ⟨rfl, rfl⟩
   ·replace hr := qf h18 hr
    exact ⟨(n, (IntKind.i64.wrap (v6 + 1))), hr, Nat.lt_succ_self _, ⟨rfl, rfl, rfl, trivial⟩, (StLe.gen 0 [] [.old 0, .old 1] rfl rfl rfl rfl rfl rfl rfl)⟩
  ·replace hr := qf h7 hr
   replace hr := osi hr; subst hr
   exact qa [] [] rfl rfl ⟨rfl, rfl⟩
mutual
def qn4 : Nat → Tm → Tm → (List Int) → (List Int) → Option ((List Int) × (List Int) × Bool)
 | 0, _, _, _, _ => none
 | n + 1, v1, v3, v5, v7 =>
  cond (((v1.op != v3.op) || (v1.hd != v3.hd)) || (((Tm.encL v1.args).length : Int) != ((Tm.encL v3.args).length : Int))) (
  some (v5, v7, false)) (
  cond ((v1.op == 4) && (v1.hd == 3)) (
  qfa n v5 v7 v1 v3 false 0) (
  cond (v1.n != v3.n) (
  some (v5, v7, false)) (
  qdk n v1 v3 v5 v7 true 0)))
def qdk : Nat → Tm → Tm → (List Int) → (List Int) → Bool → Int → Option ((List Int) × (List Int) × Bool)
 | 0, _, _, _, _, _, _ => none
 | n + 1, v1, v3, v42, v44, v46, v47 =>
  cond ((decide (v47 < ((Tm.encL v1.args).length : Int))) && v46) (
  (idx v1.args v47).bind (fun v50 =>
  (idx v3.args v47).bind (fun v55 =>
  (qn4 n v50 v55 v42 v44).bind (fun v60 =>
  qdk n v1 v3 v60.1 v60.2.1 v60.2.2 (IntKind.i64.wrap (v47 + 1)))))) (
  some (v42, v44, v46))
def qfa : Nat → (List Int) → (List Int) → Tm → Tm → Bool → Int → Option ((List Int) × (List Int) × Bool)
 | 0, _, _, _, _, _, _ => none
 | n + 1, v5, v7, v1, v3, v11, v12 =>
  cond (decide (v12 < ((List.map (D.int .i64) v5).length : Int))) (
  cond (decide (0 ≤ v12 ∧ (v12).toNat < (List.map (D.int .i64) v5).length)) (
  cond (decide (0 ≤ v12 ∧ (v12).toNat < (List.map (D.int .i64) v7).length)) (
  (v5[(v12).toNat]?).bind (fun v20 =>
  (v7[(v12).toNat]?).bind (fun v22 =>
  cond ((v20 == v1.n) != (v22 == v3.n)) (
  some (v5, v7, false)) (
  cond v11 (
  qfa n v5 v7 v1 v3 true (IntKind.i64.wrap (v12 + 1))) (
  cond (decide (0 ≤ v12 ∧ (v12).toNat < (List.map (D.int .i64) v5).length)) (
  (v5[(v12).toNat]?).bind (fun v33 =>
  qfa n v5 v7 v1 v3 (v33 == v1.n) (IntKind.i64.wrap (v12 + 1)))) none))))) none) none) (
  cond (!v11) (
  cond (decide ((List.map (D.int .i64) (v5 ++ [v1.n])).length ≤ 1000000)) (
  cond (decide ((List.map (D.int .i64) (v7 ++ [v3.n])).length ≤ 1000000)) (
  qdk n v1 v3 (v5 ++ [v1.n]) (v7 ++ [v3.n]) true 0) none) none) (
  qdk n v1 v3 v5 v7 true 0))
 end
def R09_Alike : Nat → Tm → Tm → Option (Bool)
 | 0, _, _ => none
 | n + 1, v1, v3 =>
  (qn4 n v1 v3 ([]) ([])).bind (fun v5 =>
  some (v5.2.2))
def R03_App : Nat → Int → Int → (List Tm) → Option (Tm)
 | 0, _, _, _ => none
 | n + 1, v1, v2, v3 =>
  some ((Tm.mk 4 v1 v2 v3))
theorem qh0 (n : Nat) (v1 : Int) (v2 : Int) (v3 : (List Tm)) (a4 : OA) (c4 : Nat) (r : Tm) (hr : R03_App n v1 v2 v3 = some r) : Meets Tryz.prog (.val (.fn (.func 116) [] [])) [(iS v1), (iS v2), (tU v3 a4 c4)] ⟨[], [⟨.slice a4 ((Tm.encL v3).length) c4, 4, 41, (Tm.encL v3)⟩], []⟩ (fun o S' => ∃ (b1 : OA) (d1 : Nat), o = .ret (.agg [(iS r.op), (iS r.hd), (iS r.n), (tU r.args b1 d1)]) ∧ S' = ⟨[], [⟨.slice b1 ((Tm.encL r.args).length) d1, 4, 41, (Tm.encL r.args)⟩], []⟩) := by
 rcases n with _ | n
 ·exact qe hr
 rw [R03_App.eq_2] at hr
 refine qb (N := 11) (m := 0) (dt := fun _ => none) [] ttOK func116 rfl call116 ntmps116 rfl rfl rfl mixed (by kernel_rfl) ?_
 replace hr := osi hr; subst hr
 exact AtRet.gen ⟨[], [⟨.slice a4 ((Tm.encL v3).length) c4, 4, 41, (Tm.encL v3)⟩], []⟩ (StLe.gen 0 [.old 0] [] rfl rfl rfl rfl rfl rfl rfl) rfl rfl ⟨a4, c4, rfl, rfl⟩
def R03_Pi : Nat → Tm → Tm → Option (Tm)
 | 0, _, _ => none
 | n + 1, v1, v3 =>
  some ((Tm.mk 2 0 0 ([v1, v3])))
theorem qos (n : Nat) (v1 : Tm) (v3 : Tm) (a2 : OA) (c2 : Nat) (a4 : OA) (c4 : Nat) (r : Tm) (hr : R03_Pi n v1 v3 = some r) : Pure Tryz.prog (.val (.fn (.func 187) [] [])) [(.agg [(iS v1.op), (iS v1.hd), (iS v1.n), (tU v1.args a2 c2)]), (.agg [(iS v3.op), (iS v3.hd), (iS v3.n), (tU v3.args a4 c4)])] [(tQ v1.args a2 c2), (tQ v3.args a4 c4)] (fun r' out => ∃ (b1 : OA) (d1 : Nat), r' = (.agg [(iS r.op), (iS r.hd), (iS r.n), (tU r.args b1 d1)]) ∧ out = [(tQ r.args b1 d1)]) := by
 rcases n with _ | n
 ·exact qe hr
 rw [R03_Pi.eq_2] at hr
 refine qb (N := 9) (m := 0) (dt := fun _ => none) [] ttOK func187 rfl call187 ntmps187 rfl rfl rfl mixed (by kernel_rfl) ?_
 refine qk (n := 2) ttOK 48 [.agg [.int .i64 v1.op, .int .i64 v1.hd, .int .i64 v1.n, .sl 4 (Tm.encL v1.args)], .agg [.int .i64 v3.op, .int .i64 v3.hd, .int .i64 v3.n, .sl 4 (Tm.encL v3.args)]] (ds' := (Tm.encL ([v1, v3]))) rfl (by kernel_rfl) ⟨⟨rfl, rfl, rfl, ⟨[(iS v1.op)], _, rfl, rfl, ⟨[(iS v1.hd)], _, rfl, rfl, ⟨[(iS v1.n)], _, rfl, rfl, ⟨[(tU v1.args a2 c2)], _, rfl, (.inl ⟨_, rfl, ql (j := 0) rfl⟩), rfl⟩⟩⟩⟩⟩, ⟨⟨rfl, rfl, rfl, ⟨[(iS v3.op)], _, rfl, rfl, ⟨[(iS v3.hd)], _, rfl, rfl, ⟨[(iS v3.n)], _, rfl, rfl, ⟨[(tU v3.args a4 c4)], _, rfl, (.inl ⟨_, rfl, ql (j := 1) rfl⟩), rfl⟩⟩⟩⟩⟩, trivial⟩⟩ rfl (by simp only [Tm.encL_eq, List.map_cons, List.map_nil, Tm.enc_eq] <;> rfl) (by decide) (by decide) ?_
 intro a5
 replace hr := osi hr; subst hr
 exact qa [.old 2] [(tQ ([v1, v3]) a5 2)] rfl rfl ⟨a5, 2, rfl, rfl⟩
def R04_number : Nat → Int → Option (Bool)
 | 0, _ => none
 | n + 1, v1 =>
  some (((decide (v1 ≥ 0)) && (decide (v1 ≤ 9999))))
theorem qi0 (n : Nat) (v1 : Int)  (r : Bool) (hr : R04_number n v1 = some r) : Pure Tryz.prog (.val (.fn (.func 290) [] [])) [(iS v1)] [] (fun r' out => r' = (bS r) ∧ out = []) := by
 rcases n with _ | n
 ·exact qe hr
 rw [R04_number.eq_2] at hr
 refine qb (N := 9) (m := 0) (dt := fun _ => none) [] ttOK func290 rfl call290 ntmps290 rfl rfl rfl mixed (by kernel_rfl) ?_
 replace hr := osi hr; subst hr
 exact qa [] [] rfl rfl ⟨rfl, rfl⟩
def R05_IsName : Nat → ByteArray → Option (Bool)
 | 0, _ => none
 | n + 1, v1 =>
  some (((isSmallF v1) && (!(v1.toList == (⟨#[116, 121, 112, 101]⟩ : ByteArray).toList))))
theorem qko (n : Nat) (v1 : ByteArray)  (r : Bool) (hr : R05_IsName n v1 = some r) : Pure Tryz.prog (.val (.fn (.func 184) [] [])) [(sS v1)] [] (fun r' out => r' = (bS r) ∧ out = []) := by
 rcases n with _ | n
 ·exact qe hr
 rw [R05_IsName.eq_2] at hr
 refine qb (N := 9) (m := 0) (dt := fun _ => none) [] ttOK func184 rfl call184 ntmps184 rfl rfl rfl mixed (by kernel_rfl) ?_
 refine (qjx v1).atR [] rfl rfl rfl ?_
 rintro _ _ ⟨rfl, rfl⟩
 replace hr := osi hr; subst hr
 exact qa [] [] rfl rfl ⟨rfl, rfl⟩
def R03_Constants : Nat → Tm → Option ((List Int))
 | 0, _ => none
 | n + 1, v1 =>
  (R03_heads n v1 2 0 ([])).bind (fun v3 =>
  some (v3))
theorem qgx (n : Nat) (v1 : Tm) (a2 : OA) (c2 : Nat) (r : (List Int)) (hr : R03_Constants n v1 = some r) : Pure Tryz.prog (.val (.fn (.func 255) [] [])) [(.agg [(iS v1.op), (iS v1.hd), (iS v1.n), (tU v1.args a2 c2)])] [(tQ v1.args a2 c2)] (fun r' out => ∃ (b1 : OA) (d1 : Nat), r' = (nU r b1 d1) ∧ out = [(nQ r b1 d1)]) := by
 rcases n with _ | n
 ·exact qe hr
 rw [R03_Constants.eq_2] at hr
 refine qb (N := 5) (m := 0) (dt := fun _ => none) [] ttOK func255 rfl call255 ntmps255 rfl rfl rfl mixed (by kernel_rfl) ?_
 obtain ⟨v3, h4, hr⟩ := bind_some hr
 refine Meets.le (S' := ⟨[.cells 41 [(iS v1.op), (iS v1.hd), (iS v1.n), (tU v1.args a2 c2)]], [⟨.slice none 0 0, 1, 3, []⟩], [(tQ v1.args a2 c2)]⟩) (StLe.gen 1 [.nil 1 3] [.old 0] rfl rfl rfl rfl rfl rfl rfl) rfl ?_
 refine (qdt n v1 2 0 ([]) a2 c2 none 0 _ h4).frameRA [] [0] [0] rfl rfl rfl rfl rfl rfl rfl rfl rfl ?_
 rintro _ _ ⟨a5, c5, rfl, rfl⟩
 refine ⟨rfl, [], rfl, ?_⟩
 replace hr := osi hr; subst hr
 exact qa [.froz 0] [(nQ v3 a5 c5)] rfl rfl ⟨a5, c5, rfl, rfl⟩
def R05_closed : Nat → Tm → Int → Option (Bool)
 | 0, _, _ => none
 | n + 1, v1, v3 =>
  (R03_Constants n v1).bind (fun v4 =>
  (R03_Free n v1).bind (fun v7 =>
  cond (((List.map (D.int .i64) v7).length : Int) == 0) (
  (R03_Metas n v1).bind (fun v11 =>
  cond (((List.map (D.int .i64) v11).length : Int) == 0) (
  cond (((List.map (D.int .i64) v4).length : Int) == 0) (
  some (true)) (
  (idx v4 (IntKind.i64.wrap (((List.map (D.int .i64) v4).length : Int) - 1))).bind (fun v16 =>
  some ((decide (v16 < v3)))))) (
  some (false)))) (
  some (false))))
theorem qi4 (n : Nat) (v1 : Tm) (v3 : Int) (a2 : OA) (c2 : Nat) (r : Bool) (hr : R05_closed n v1 v3 = some r) : Pure Tryz.prog (.val (.fn (.func 185) [] [])) [(.agg [(iS v1.op), (iS v1.hd), (iS v1.n), (tU v1.args a2 c2)]), (iS v3)] [(tQ v1.args a2 c2)] (fun r' out => r' = (bS r) ∧ out = []) := by
 rcases n with _ | n
 ·exact qe hr
 rw [R05_closed.eq_2] at hr
 refine qb (N := 33) (m := 0) (dt := fun _ => none) [] ttOK func185 rfl call185 ntmps185 rfl rfl rfl mixed (by kernel_rfl) ?_
 obtain ⟨v4, h5, hr⟩ := bind_some hr
 refine (qgx n v1 a2 c2 _ h5).atR [0] rfl rfl rfl ?_
 rintro _ _ ⟨a6, c6, rfl, rfl⟩
 obtain ⟨v7, h8, hr⟩ := bind_some hr
 refine (qme n v1 a2 c2 _ h8).atR [0] rfl rfl rfl ?_
 rintro _ _ ⟨a9, c9, rfl, rfl⟩
 refine AtGuard.mk (fun h10 => ?_) (fun h10 => ?_)
 ·replace hr := qg h10 hr
  obtain ⟨v11, h12, hr⟩ := bind_some hr
  refine (qfq n v1 a2 c2 _ h12).frameRA [] [] [0] rfl rfl rfl rfl rfl rfl rfl rfl rfl ?_
  rintro _ _ ⟨a13, c13, rfl, rfl⟩
  refine ⟨rfl, [], rfl, ?_⟩
  refine AtGuard.mk (fun h14 => ?_) (fun h14 => ?_)
  ·replace hr := qg h14 hr
   refine AtGuard.mk (fun h15 => ?_) (fun h15 => ?_)
   ·replace hr := qf h15 hr
    obtain ⟨v16, h17, hr⟩ := bind_some hr
    obtain ⟨h18, h19⟩ := qi h17
    refine qh ttOK 1 rfl rfl rfl rfl h18 (qa7 (D.int .i64) h19) ?_
    replace hr := osi hr; subst hr
    exact qa [] [] rfl rfl ⟨rfl, rfl⟩
   ·replace hr := qg h15 hr
    replace hr := osi hr; subst hr
    exact qa [] [] rfl rfl ⟨rfl, rfl⟩
  ·replace hr := qf h14 hr
   replace hr := osi hr; subst hr
   exact qa [] [] rfl rfl ⟨rfl, rfl⟩
 ·replace hr := qf h10 hr
  refine AtGuard.mk (fun h => ff h) (fun _ => ?_)
  replace hr := osi hr; subst hr
  exact qa [] [] rfl rfl ⟨rfl, rfl⟩
mutual
def R05_formed : Nat → (List Dc) → Dc → Option (Bool)
 | 0, _, _ => none
 | n + 1, v1, v3 =>
  (R05_IsName n v3.name).bind (fun v5 =>
  cond (!v5) (
  some (false)) (
  cond (!(refProper v3.cls)) (
  some (false)) (
  (R05_closed n v3.cls ((Dc.encL v1).length : Int)).bind (fun v9 =>
  cond (!v9) (
  some (false)) (
  R05_formed_L1 n v1 v3 0)))))
def R05_formed_L1 : Nat → (List Dc) → Dc → Int → Option (Bool)
 | 0, _, _, _ => none
 | n + 1, v1, v3, v12 =>
  cond (decide (v12 < ((Dc.encL v1).length : Int))) (
  (idx v1 v12).bind (fun v14 =>
  cond (v14.name.toList == v3.name.toList) (
  some (false)) (
  R05_formed_L1 n v1 v3 (IntKind.i64.wrap (v12 + 1))))) (
  (R03_Split n v3.cls).bind (fun v20 =>
  cond (v20.2.op == 4) (
  cond (v20.2.hd != 2) (
  some (false)) (
  (R05_family n v1 v20.2.n).bind (fun v26 =>
  cond (!v26) (
  some (false)) (
  some (((((v20.2.op == 1) || (v20.2.op == 4)) && (decide (v3.implicit ≥ 0))) && (decide (v3.implicit ≤ ((Tm.encL v20.1).length : Int))))))))) (
  some (((((v20.2.op == 1) || (v20.2.op == 4)) && (decide (v3.implicit ≥ 0))) && (decide (v3.implicit ≤ ((Tm.encL v20.1).length : Int))))))))
 end
theorem qjm (n : Nat) (v1 : (List Dc)) (v3 : Dc) (a2 : OA) (c2 : Nat) (a4 : OA) (c4 : Nat) (r : Bool) (hr : R05_formed n v1 v3 = some r) : Pure Tryz.prog (.val (.fn (.func 112) [] [])) [(.v (.slice a2 ((Dc.encL v1).length) c2)), (.agg [(sS v3.name), (iS v3.cls.op), (iS v3.cls.hd), (iS v3.cls.n), (tU v3.cls.args a4 c4), (iS v3.implicit)])] [(.slice a2 ((Dc.encL v1).length) c2, .sl 6 (Dc.encL v1)), (tQ v3.cls.args a4 c4)] (fun r' out => r' = (bS r) ∧ out = []) := by
 rcases n with _ | n
 ·exact qe hr
 rw [R05_formed.eq_2] at hr
 refine qb (N := 80) (m := 0) (dt := fun _ => none) [] ttOK func112 rfl call112 ntmps112 rfl rfl rfl mixed (by kernel_rfl) ?_
 obtain ⟨v5, h6, hr⟩ := bind_some hr
 refine (qko n v3.name _ h6).atR [] rfl rfl rfl ?_
 rintro _ _ ⟨rfl, rfl⟩
 refine AtGuard.mk (fun h7 => ?_) (fun h7 => ?_)
 ·replace hr := qf h7 hr
  refine (qam v3.cls a4 c4).atR [1] rfl rfl rfl ?_
  rintro _ _ ⟨rfl, rfl⟩
  refine AtGuard.mk (fun h8 => ?_) (fun h8 => ?_)
  ·replace hr := qf h8 hr
   obtain ⟨v9, h10, hr⟩ := bind_some hr
   refine (qi4 n v3.cls ((Dc.encL v1).length : Int) a4 c4 _ h10).atR [1] rfl rfl rfl ?_
   rintro _ _ ⟨rfl, rfl⟩
   refine AtIf.mk (fun h11 => ?_) (fun h11 => ?_)
   ·replace hr := qg h11 hr
    replace hr := osi hr; subst hr
    exact qa [] [] rfl rfl ⟨rfl, rfl⟩
   ·replace hr := qf h11 hr
    refine AtLoop.mk ⟨Nat × Int, fun x => [(0, (.v (.slice a2 ((Dc.encL v1).length) c2))), (3, (.loc 0 0)), (27, (.v (.slice a2 ((Dc.encL v1).length) c2))), (28, (iS ((Dc.encL v1).length : Int))), (29, (iS x.2))], fun x => ⟨[.cells 165 [(sS v3.name), (iS v3.cls.op), (iS v3.cls.hd), (iS v3.cls.n), (tU v3.cls.args a4 c4), (iS v3.implicit)]], [], [(.slice a2 ((Dc.encL v1).length) c2, .sl 6 (Dc.encL v1)), (tQ v3.cls.args a4 c4)]⟩, fun x => R05_formed_L1 x.1 v1 v3 x.2 = some r, fun x => x.1, (n, 0), hr, ⟨rfl, rfl, rfl, rfl, rfl, trivial⟩, (StLe.gen 1 [] [.old 0, .old 1] rfl rfl rfl rfl rfl rfl rfl), fun x _ => ⟨rfl, rfl⟩, ?_⟩
    rintro ⟨n, v12⟩ HH
    have hr : R05_formed_L1 n v1 v3 v12 = some r := HH
    rcases n with _ | n
    ·exact qe hr
    rw [R05_formed_L1.eq_2] at hr
    refine AtIf.mk (fun h13 => ?_) (fun h13 => ?_)
    ·replace hr := qg h13 hr
     obtain ⟨v14, h15, hr⟩ := bind_some hr
     obtain ⟨h16, h17⟩ := qi h15
     refine qh ttOK 0 rfl rfl rfl rfl h16 (Dc.encL_get h17) ?_
     intro a18 c18 _ _
     refine AtIf.mk (fun h19 => ?_) (fun h19 => ?_)
     ·replace hr := qg h19 hr
      replace hr := osi hr; subst hr
      exact qa [] [] rfl rfl ⟨rfl, rfl⟩
     ·replace hr := qf h19 hr
      exact ⟨(n, (IntKind.i64.wrap (v12 + 1))), hr, Nat.lt_succ_self _, ⟨rfl, rfl, rfl, rfl, rfl, trivial⟩, (StLe.gen 1 [] [.old 0, .old 1] rfl rfl rfl rfl rfl rfl rfl)⟩
    ·replace hr := qf h13 hr
     obtain ⟨v20, h21, hr⟩ := bind_some hr
     refine (qds n v3.cls a4 c4 _ h21).atR [1] rfl rfl rfl ?_
     rintro _ _ ⟨a22, c22, a23, c23, rfl, rfl⟩
     refine AtGuard.mk (fun h24 => ?_) (fun h24 => ?_)
     ·replace hr := qg h24 hr
      refine AtGuard.mk (fun h25 => ?_) (fun h25 => ?_)
      ·replace hr := qf h25 hr
       obtain ⟨v26, h27, hr⟩ := bind_some hr
       refine (qey n v1 v20.2.n a2 c2 _ h27).atR [0] rfl rfl rfl ?_
       rintro _ _ ⟨rfl, rfl⟩
       refine AtIf.mk (fun h28 => ?_) (fun h28 => ?_)
       ·replace hr := qg h28 hr
        replace hr := osi hr; subst hr
        exact qa [] [] rfl rfl ⟨rfl, rfl⟩
       ·replace hr := qf h28 hr
        replace hr := osi hr; subst hr
        exact qa [] [] rfl rfl ⟨rfl, rfl⟩
      ·replace hr := qg h25 hr
       refine AtIf.mk (fun _ => ?_) (fun h => tf h)
       replace hr := osi hr; subst hr
       exact qa [] [] rfl rfl ⟨rfl, rfl⟩
     ·replace hr := qf h24 hr
      refine AtIf.mk (fun h => ff h) (fun _ => ?_)
      replace hr := osi hr; subst hr
      exact qa [] [] rfl rfl ⟨rfl, rfl⟩
  ·replace hr := qg h8 hr
   refine AtIf.mk (fun _ => ?_) (fun h => tf h)
   replace hr := osi hr; subst hr
   exact qa [] [] rfl rfl ⟨rfl, rfl⟩
 ·replace hr := qg h7 hr
  refine AtGuard.mk (fun h => tf h) (fun _ => ?_)
  refine AtIf.mk (fun _ => ?_) (fun h => tf h)
  replace hr := osi hr; subst hr
  exact qa [] [] rfl rfl ⟨rfl, rfl⟩
mutual
def R05_Formed : Nat → (List Dc) → Option (Bool)
 | 0, _ => none
 | n + 1, v1 =>
  R05_Formed_L1 n v1 0
def R05_Formed_L1 : Nat → (List Dc) → Int → Option (Bool)
 | 0, _, _ => none
 | n + 1, v1, v3 =>
  cond ((decide (v3 < ((Dc.encL v1).length : Int))) && (decide (((Dc.encL v1).length : Int) ≤ 100))) (
  cond (decide ((0 : Int) ≤ (0 : Int) ∧ (0 : Int) ≤ v3 ∧ v3 ≤ ((Dc.encL v1).length : Int))) (
  (idx v1 v3).bind (fun v7 =>
  (R05_formed n (v1.take v3.toNat) v7).bind (fun v12 =>
  cond (!v12) (
  some (false)) (
  R05_Formed_L1 n v1 (IntKind.i64.wrap (v3 + 1)))))) none) (
  some ((decide (((Dc.encL v1).length : Int) ≤ 100))))
 end
theorem qeu (n : Nat) (v1 : (List Dc)) (a2 : OA) (c2 : Nat) (r : Bool) (hr : R05_Formed n v1 = some r) : Pure Tryz.prog (.val (.fn (.func 36) [] [])) [(.v (.slice a2 ((Dc.encL v1).length) c2))] [(.slice a2 ((Dc.encL v1).length) c2, .sl 6 (Dc.encL v1))] (fun r' out => r' = (bS r) ∧ out = []) := by
 rcases n with _ | n
 ·exact qe hr
 rw [R05_Formed.eq_2] at hr
 refine qb (N := 27) (m := 0) (dt := drawsOf [(4, .node [0, 1, 2, 3, 4, 5, 6] [(7, .leaf [8])], [7], [])]) [] ttOK func36 rfl call36 ntmps36 rfl rfl rfl mixed (by kernel_rfl) ?_
 refine AtLoop.mk ⟨Nat × Int, fun x => [(0, (.v (.slice a2 ((Dc.encL v1).length) c2))), (3, (iS x.2))], fun x => ⟨[], [], [(.slice a2 ((Dc.encL v1).length) c2, .sl 6 (Dc.encL v1))]⟩, fun x => R05_Formed_L1 x.1 v1 x.2 = some r, fun x => x.1, (n, 0), hr, ⟨rfl, rfl, trivial⟩, (StLe.gen 0 [] [.old 0] rfl rfl rfl rfl rfl rfl rfl), fun x _ => ⟨rfl, rfl⟩, ?_⟩
 rintro ⟨n, v3⟩ HH
 have hr : R05_Formed_L1 n v1 v3 = some r := HH
 rcases n with _ | n
 ·exact qe hr
 rw [R05_Formed_L1.eq_2] at hr
 refine AtIf.mk (fun h4 => ?_) (fun h4 => ?_)
 ·replace hr := qg h4 hr
  obtain ⟨h5, hr⟩ := qj hr
  refine qaa ttOK 0 0 v3 (ds' := (Dc.encL (v1.take v3.toNat))) rfl rfl rfl (.inr ⟨rfl, rfl⟩) (.inl ⟨_, rfl⟩) h5 (by simp only [Dc.encL_eq]; exact sl_h ..) ?_
  intro a6 c6
  obtain ⟨v7, h8, hr⟩ := bind_some hr
  obtain ⟨h9, h10⟩ := qi h8
  refine qh ttOK 0 rfl rfl rfl rfl h9 (Dc.encL_get h10) ?_
  intro a11 c11 _ _
  obtain ⟨v12, h13, hr⟩ := bind_some hr
  refine (qjm n (v1.take v3.toNat) v7 a6 c6 a11 c11 _ h13).atR [1, 2] rfl rfl rfl ?_
  rintro _ _ ⟨rfl, rfl⟩
  refine AtIf.mk (fun h14 => ?_) (fun h14 => ?_)
  ·replace hr := qg h14 hr
   replace hr := osi hr; subst hr
   exact qa [] [] rfl rfl ⟨rfl, rfl⟩
  ·replace hr := qf h14 hr
   exact ⟨(n, (IntKind.i64.wrap (v3 + 1))), hr, Nat.lt_succ_self _, ⟨rfl, rfl, trivial⟩, (StLe.gen 0 [] [.old 0] rfl rfl rfl rfl rfl rfl rfl)⟩
 ·replace hr := qf h4 hr
  replace hr := osi hr; subst hr
  exact qa [] [] rfl rfl ⟨rfl, rfl⟩
end
end Go.Proofs.YthkgcfplebgolaaGreat

namespace Go.Tr
section
open Go
section
variable {P : Program} {tt : Tab} {c : Cx} {ℓ : List Base} {kn : Atoms} {gen : Gen} {env : Env} {S : St} {a : Act} {w : World}
theorem qeo {f : FuncId} {fn : Func} {A B : Code} {id : Nat} {o2 : Oper} {h : FuncId} {as0 : Array Operand} {tys : Array TypeId} {N m : Nat} {dt : Draws} {caps args : List SV} {R : Out → St → Prop} (fzE : Env) (m2 : Nat) (cuts : List Nat) (hT : TTOK P tt) (hf : P.funcs[f]? = some fn)
  (hb : fn.body = some (A.seq ((Code.region id #[o2] false).seq B))) (hcall : ∀ ag w, (callFunc f ag).run P w = .ok (.enter f ag) w)
  (hN : fn.ntmps = N) (hle : Nat.ble (args ++ caps).length N = true) (hwf : qr S.own.length (args ++ caps) = true) (hm : S.own.length = m)
  (hD : P.follows .mixedOrders = true) (hdrA : DrawsOK dt A = true) (hdrB : DrawsOK dt B = true) (hzA : FzOK [N] A = true) (hzB : FzOK (fzE.map (·.1)) B = true)
  (h2g : o2.guard = none) (h2d : o2.dst = none) (h2o : o2.op = .defer { callee := .value (.func h), args := as0, argTypes := tys })
  (hcallh : ∀ ag w, (callFunc h ag).run P w = .ok (.enter h ag) w) (k : Nat) (hq : ∀ (ag : Array Value) (w : World), ag.size = k → CallsDIn (fen none) 0 P h ag .returning w (fun e u' w' => (∃ v, e = .returned v) ∧ u' = .returning ∧ w' = w))
  (hv : vcC P tt N m none dt A cuts (seqK (fun env S => ∃ cs, cs.length = k ∧ qr S.own.length cs = true ∧ Nat.beq S.own.length m2 = true ∧ getAll (getter [] env []) as0.toList = some cs ∧ envLe env fzE ∧ vcC P tt N m2 none dt B cuts (vcEndR P tt m fn.results.toList fzE h cs R) env S) (fun _ _ _ => False)) (argEnv 0 (args ++ caps)) S) : Meets P (.val (.fn (.func f) [] caps)) args S R := by
 intro J ℓ w hG hJ
 refine ⟨.enter f (qd ℓ (args ++ caps)).toArray, ?_, ?_⟩
 ·simp only [Cal.sem, SV.den, qd, Deferred.ofValue, Sem.run_bind, Sem.run_pure, Result.andThen_ok, invoke, qar]
  simpa using hcall _ w
 ·let c : Cx := ⟨J, ℓ, S, w, N, none, [], [N], #[]⟩
  have hout : ∀ (Y : Array Value), Y.size = N → Y.getD N undef = (#[] : Array Value).getD N undef := by
   intro Y hY
   rw [Array.getD_eq_getD_getElem?, Array.getElem?_eq_none (by omega)]
   simp
  have hsz : (qd ℓ (args ++ caps)).toArray.size ≤ fn.ntmps := by
   rw [List.size_toArray, qo, hN]; exact Nat.le_of_ble_eq_true hle
  have hI : Inv c ℓ [] [] (argEnv 0 (args ++ caps)) S { tmps := (qd ℓ (args ++ caps)).toArray ++ Array.replicate (fn.ntmps - (qd ℓ (args ++ caps)).toArray.size) undef, defers := [] } w := by
   refine ⟨?_, ⟨rfl, by simp [marksOf], by simp [marksOf]⟩, ?_, fun t s tags h => by simp [gfind] at h, by simp [Holds], hG.toJ (fun b _ hb => ⟨hb, by simp [marksOf]⟩), hJ, List.prefix_refl _, Ext.refl _ _, fun b hb => .inl hb⟩
   ·have hs : ((qd ℓ (args ++ caps)).toArray ++ Array.replicate (fn.ntmps - (qd ℓ (args ++ caps)).toArray.size) undef).size = N := by
     rw [Array.size_append, Array.size_replicate]; omega
    refine ⟨hs, fun t ht => ?_, fun _ => rfl⟩
    have ht : t = N := by simpa [c] using ht
    subst ht
    exact hout _ hs
   ·intro t s hs
    obtain ⟨_, hs⟩ := qb9 _ _ _ _ hs
    rw [Nat.sub_zero] at hs
    refine ⟨SV.wfL_iff.1 hwf s (List.mem_of_getElem? hs), ?_⟩
    have hlt : t < (args ++ caps).length := (List.getElem?_eq_some_iff.1 hs).1
    have hget : (qd ℓ (args ++ caps))[t]? = some (s.den ℓ) := by rw [qcx, hs]; rfl
    rw [Array.getD_eq_getD_getElem?, Array.getElem?_append_left (by rw [List.size_toArray, qo]; exact hlt)]
    simp [hget]
  have hm' : c.ℓ0.length = m := by rw [← hm]; exact hG.len
  refine qci (F := fen none) hf hb trivial (fun b hbf => ?_)
  have hbe : (P.funcs[b.fn]?).isSome = true := by rw [hbf, hf]; rfl
  refine qdp (qav (qa8 (c := c) rfl hm' hT (fun i hi => by cases hi) hD (fun _ => hbe) A hdrA hzA cuts _ ℓ _ S _ w hI hv) ?_)
  intro e a1 w1 hq1
  cases e with
  | normal =>
   obtain ⟨ℓ1, env2, S1, hI2, cs, hk, hcw, hm2, hs1, hle2, hB⟩ := hq1
   have hm2 := Nat.eq_of_beq_eq_true hm2
   refine qdp (qe3 (qcw ?_))
   show wpOpsIn (fen none) 0 P #[o2] _ [0] a1 w1
   have hargs := (qw (hI2.pctx hT (by simp [Holds])) _ _ hs1).2
   have hargs' : as0.map a1.eval = (qd ℓ1 cs).toArray := by rw [← Array.toList_inj, Array.toList_map, hargs]
   refine qd2 (ro := none) (o := o2) rfl ?_
   rw [if_pos (by simp [Region.wanted, h2g])]
   have hres : (execOp a1.eval o2).run P w1 = .ok (.defer { target := .fn (.func h) #[], args := (qd ℓ1 cs).toArray }) w1 := by
    simp only [execOp, h2o, resolve, Act.eval, Deferred.ofValue, Sem.run_bind]
    rw [show as0.map a1.eval = (qd ℓ1 cs).toArray from hargs']
    simp [Sem.run_pure]
   refine ⟨fun _ _ => trivial, ?_⟩
   rw [show (fen none).round = none from rfl, Oper.semAt_none, hres, Oper.uponIn_defer, h2d]
   show Exit.then _ _ .normal _ _
   obtain ⟨a2, rfl⟩ : ∃ a2, a2 = a1 := ⟨_, rfl⟩
   have hmk2 : marksOf a2.defers = [] := hI2.size.2.2 (by simp [c])
   have hrs2 : a2.defers = [] := by rw [← qax hmk2]; exact hI2.defers.eq
   let d0 : Deferred := { target := .fn (.func h) #[], args := (qd ℓ1 cs).toArray }
   let c2 : Cx := ⟨J, ℓ1, S1, w1, N, none, [d0], fzE.map (·.1), a2.tmps⟩
   have hI3 : Inv c2 ℓ1 [] [] env2 S1 { a2 with defers := d0 :: a2.defers } w1 := by
    rw [hrs2]
    refine ⟨⟨hI2.size.1, fun t _ => rfl, fun _ => rfl⟩, ⟨rfl, by simp [marksOf, d0], by simp [marksOf, d0]⟩, hI2.env, hI2.gen, hI2.kn, ?_, fun b hb => hI2.fresh0 b (Nat.le_trans hI2.ext.size hb), List.prefix_refl _, Ext.refl _ _, fun b hb => .inl hb⟩
    exact hI2.good.toJ (fun b _ hb => ⟨hb.1, by simp [marksOf, d0]⟩)
   have hm3 : c2.ℓ0.length = m2 := by rw [← hm2]; exact hI2.good.len
   show wpB b (fen none) 0 P B _ { a2 with defers := d0 :: a2.defers } w1
   refine qav (qa8 (c := c2) rfl hm3 hT (fun i hi => by cases hi) hD (fun _ => hbe) B hdrB hzB cuts _ ℓ1 env2 S1 _ w1 hI3 hB) ?_
   have hcden : ∀ ℓ', ℓ1 <+: ℓ' → qd ℓ' cs = qd ℓ1 cs := fun ℓ' hp => qx (n := S1.own.length) (fun i hi => qau hp (by rw [hI2.good.len]; exact hi)) cs hcw
   have fin : ∀ ℓ' env' S' a' w' r, Inv { c2 with base := [] } ℓ' [] [] env' S' a' w' → a'.defers = [] → resOf tt S'.own env' fn.results.toList = some r → AtRet m (.ret r) S' R → LeavesIn (fen none) 0 P fn a'.tmps (CallPost J ℓ S w R) [] .returning w' := by
    intro ℓ' env' S' a' w' r hI' hda hr hk2
    have hres := qb5 (P := P) hT (fn := fn) hI' hr
    have hIc : Inv c ℓ' [] [] env' S' a' w' := qhq (c := c) (c' := { c2 with base := [] }) hI2 rfl rfl rfl rfl rfl hI' hda rfl (fun t ht => by
     have ht : t = N := by simpa [c] using ht
     subst ht
     exact hout _ hI'.size.1)
    exact ⟨_, hres.2, qf0 (c := c) rfl rfl rfl hm' hIc (fun b hb => hb.1) hk2⟩
   have hret : ∀ ℓ' env' S' a' w' r, Inv c2 ℓ' [] [] env' S' a' w' → resOf tt S'.own env' fn.results.toList = some r → AtRet m (.ret r) S' R → LeavesInM (fen none) 0 P fn a'.tmps (CallPost J ℓ S w R) a'.defers .returning w' := by
    intro ℓ' env' S' a' w' r hI' hr hk2
    refine qbg (by simp) _ _ _ ?_ hI'.defers (fun w2 hs => ?_)
    ·intro d' hd'
     have hd' : d' = d0 := by simpa [c2] using hd'
     subst hd'
     refine ⟨rfl, _, _, h, (qd ℓ1 cs).toArray, rfl, fun w => ?_, fun w => hq _ w (by simp [qo, hk])⟩
     simp only [invoke, d0]
     simpa using hcallh _ w
    ·exact fin ℓ' env' S' { a' with defers := [] } _ r (hI'.shut hs) rfl hr hk2
   intro e a' w' hq2
   cases e with
   | normal =>
    obtain ⟨ℓ', env', S', hI', hk2⟩ := hq2
    simp only [vcEndR, vcEnd] at hk2
    split at hk2
    ·rename_i r hr
     exact hret _ _ _ _ _ _ hI' hr hk2
    ·exact hk2.elim
   | ret =>
    obtain ⟨ℓ', env', S', hI', hk2⟩ := hq2
    simp only [vcEndR, vcEnd] at hk2
    split at hk2
    ·rename_i r hr
     exact hret _ _ _ _ _ _ hI' hr hk2
    ·exact hk2.elim
   | exit id =>
    obtain ⟨ℓ', env', S', hI', hk2⟩ := hq2
    exact hk2.elim
   | goto l => exact hq2.elim
   | panic ch =>
    obtain ⟨ℓ', S', v, hI', hv, rfl, hk2⟩ := hq2
    obtain ⟨hne, hcat⟩ := hk2
    have hmk : marksOf a'.defers = [] := hI'.size.2.2 (by
     show fzE.map (·.1) ≠ []
     intro h0
     rw [List.map_eq_nil_iff] at h0
     subst h0
     cases hne)
    have hds : a'.defers = [d0] := by rw [← qax hmk]; exact hI'.defers.eq
    rw [show bodyPostM (fen none) 0 P fn (CallPost J ℓ S w R) (.panic [{ v := v.den ℓ', recovered := false }]) a' w' = LeavesInM (fen none) 0 P fn a'.tmps (CallPost J ℓ S w R) a'.defers (.panicking [{ v := v.den ℓ', recovered := false }]) w' from rfl, hds]
    refine ⟨by simp, .inr ⟨fun h => by simp [fen] at h, _, _, h, (qd ℓ1 cs).toArray, rfl, ?_, fun _ _ => trivial, ?_⟩⟩
    ·simp only [invoke, d0]
     simpa using hcallh _ w'
    ·have hcc := hcat (c2.Ja a') ℓ' w' hI'.good hI'.freshJ
     rw [hcden ℓ' hI'.pre] at hcc
     refine CallsDIn.mono hcc ?_
     rintro e u' w4 ⟨⟨x, rfl⟩, hset, ℓ4, S4, hst, hRS⟩
     simp only [hset]
     have hI4 := hI'.step hst
     have hI5 := hI4.clear hmk
     have hI6 : Inv { c2 with base := [] } ℓ4 [] [] fzE S4 { a' with defers := [] } w4 := by
      refine ⟨hI5.size, hI5.defers, ?_, hI5.gen, hI5.kn, hI5.good, hI5.fresh0, hI5.pre, hI5.ext, hI5.fresh⟩
      intro t s hs
      obtain ⟨hw1, hd1⟩ := hI2.env t s (qca hle2 t s hs)
      have hmem : t ∈ fzE.map (·.1) := qiw hs
      have hp4 : ℓ1 <+: ℓ4 := hI5.pre
      refine ⟨SV.wf_mono ?_ s hw1, ?_⟩
      ·rw [← hI2.good.len, ← hI5.good.len]; exact hp4.length_le
      ·have h1 := hI5.size.2.1 t hmem
       rw [h1]
       show a2.tmps.getD t undef = _
       rw [hd1]
       exact (qy (n := S1.own.length) (fun i hi => qau hp4 (by rw [hI2.good.len]; exact hi)) s hw1).symm
     revert hRS
     split
     ·rename_i r hr
      intro hRS
      exact fin ℓ4 fzE S4 { a' with defers := [] } _ r hI6 rfl hr hRS
     ·exact fun hRS => hRS.elim
   | outgrown => exact hq2.elim
  | exit id => obtain ⟨ℓ', env', S', hI', hk2⟩ := hq1; exact hk2.elim
  | goto l => exact hq1.elim
  | ret => obtain ⟨ℓ', env', S', hI', hk2⟩ := hq1; exact hk2.elim
  | panic ch => obtain ⟨ℓ', S', v, hI', hv, rfl, hk2⟩ := hq1; exact hk2.elim
  | outgrown => exact hq1.elim
theorem qiu {f : FuncId} {fn : Func} {A C B : Code} {id : Nat} {o2 : Oper} {h : FuncId} {as0 : Array Operand} {tys : Array TypeId} {N m : Nat} {dt : Draws} {caps args : List SV} {R : Out → St → Prop} (fzE : Env) (m2 : Nat) (cuts : List Nat) (hT : TTOK P tt) (hf : P.funcs[f]? = some fn)
  (hb : fn.body = some (A.seq (C.seq ((Code.region id #[o2] false).seq B)))) (hcall : ∀ ag w, (callFunc f ag).run P w = .ok (.enter f ag) w)
  (hN : fn.ntmps = N) (hle : Nat.ble (args ++ caps).length N = true) (hwf : qr S.own.length (args ++ caps) = true) (hm : S.own.length = m)
  (hD : P.follows .mixedOrders = true) (hdrA : DrawsOK dt A = true) (hdrC : DrawsOK dt C = true) (hdrB : DrawsOK dt B = true) (hzA : FzOK [N] A = true) (hzC : FzOK [N] C = true) (hzB : FzOK (fzE.map (·.1)) B = true)
  (h2g : o2.guard = none) (h2d : o2.dst = none) (h2o : o2.op = .defer { callee := .value (.func h), args := as0, argTypes := tys })
  (hcallh : ∀ ag w, (callFunc h ag).run P w = .ok (.enter h ag) w) (k : Nat) (hq : ∀ (ag : Array Value) (w : World), ag.size = k → CallsDIn (fen none) 0 P h ag .returning w (fun e u' w' => (∃ v, e = .returned v) ∧ u' = .returning ∧ w' = w))
  (hv : vcC P tt N m none dt A cuts (seqK (fun env S => vcC P tt N m none dt C cuts (seqK (fun env S => ∃ cs, cs.length = k ∧ qr S.own.length cs = true ∧ Nat.beq S.own.length m2 = true ∧ getAll (getter [] env []) as0.toList = some cs ∧ envLe env fzE ∧ vcC P tt N m2 none dt B cuts (vcEndR P tt m fn.results.toList fzE h cs R) env S) (vcEnd tt m fn.results.toList R)) env S) (vcEnd tt m fn.results.toList R)) (argEnv 0 (args ++ caps)) S) : Meets P (.val (.fn (.func f) [] caps)) args S R := by
 intro J ℓ w hG hJ
 refine ⟨.enter f (qd ℓ (args ++ caps)).toArray, ?_, ?_⟩
 ·simp only [Cal.sem, SV.den, qd, Deferred.ofValue, Sem.run_bind, Sem.run_pure, Result.andThen_ok, invoke, qar]
  simpa using hcall _ w
 ·let c : Cx := ⟨J, ℓ, S, w, N, none, [], [N], #[]⟩
  have hout : ∀ (Y : Array Value), Y.size = N → Y.getD N undef = (#[] : Array Value).getD N undef := by
   intro Y hY
   rw [Array.getD_eq_getD_getElem?, Array.getElem?_eq_none (by omega)]
   simp
  have hsz : (qd ℓ (args ++ caps)).toArray.size ≤ fn.ntmps := by
   rw [List.size_toArray, qo, hN]; exact Nat.le_of_ble_eq_true hle
  have hI : Inv c ℓ [] [] (argEnv 0 (args ++ caps)) S { tmps := (qd ℓ (args ++ caps)).toArray ++ Array.replicate (fn.ntmps - (qd ℓ (args ++ caps)).toArray.size) undef, defers := [] } w := by
   refine ⟨?_, ⟨rfl, by simp [marksOf], by simp [marksOf]⟩, ?_, fun t s tags h => by simp [gfind] at h, by simp [Holds], hG.toJ (fun b _ hb => ⟨hb, by simp [marksOf]⟩), hJ, List.prefix_refl _, Ext.refl _ _, fun b hb => .inl hb⟩
   ·have hs : ((qd ℓ (args ++ caps)).toArray ++ Array.replicate (fn.ntmps - (qd ℓ (args ++ caps)).toArray.size) undef).size = N := by
     rw [Array.size_append, Array.size_replicate]; omega
    refine ⟨hs, fun t ht => ?_, fun _ => rfl⟩
    have ht : t = N := by simpa [c] using ht
    subst ht
    exact hout _ hs
   ·intro t s hs
    obtain ⟨_, hs⟩ := qb9 _ _ _ _ hs
    rw [Nat.sub_zero] at hs
    refine ⟨SV.wfL_iff.1 hwf s (List.mem_of_getElem? hs), ?_⟩
    have hlt : t < (args ++ caps).length := (List.getElem?_eq_some_iff.1 hs).1
    have hget : (qd ℓ (args ++ caps))[t]? = some (s.den ℓ) := by rw [qcx, hs]; rfl
    rw [Array.getD_eq_getD_getElem?, Array.getElem?_append_left (by rw [List.size_toArray, qo]; exact hlt)]
    simp [hget]
  have hm' : c.ℓ0.length = m := by rw [← hm]; exact hG.len
  refine qci (F := fen none) hf hb trivial (fun b hbf => ?_)
  have hbe : (P.funcs[b.fn]?).isSome = true := by rw [hbf, hf]; rfl
  have hret0 : ∀ ℓ' env' S' a' w' r, Inv c ℓ' [] [] env' S' a' w' → resOf tt S'.own env' fn.results.toList = some r → AtRet m (.ret r) S' R → LeavesInM (fen none) 0 P fn a'.tmps (CallPost J ℓ S w R) a'.defers .returning w' := by
   intro ℓ' env' S' a' w' r hI' hr hk
   refine qcp (by simp) _ _ hI'.defers (fun w2 hs => ?_)
   have hI2 := hI'.shut hs
   have hres := qb5 (P := P) hT (fn := fn) hI2 hr
   exact ⟨_, hres.2, qf0 (c := c) rfl rfl rfl hm' hI2 (fun b hb => hb.1) hk⟩
  have early : ∀ (e : Exit) (a' : Act) (w' : World) (G : Env → St → Prop), e ≠ .normal → QK c (seqK G (vcEnd tt m fn.results.toList R)) e a' w' → bodyPostM (fen none) 0 P fn (CallPost J ℓ S w R) e a' w' := by
   intro e a' w' G hne hq
   cases e with
   | normal => exact (hne rfl).elim
   | ret =>
    obtain ⟨ℓ', env', S', hI', hk⟩ := hq
    simp only [seqK, vcEnd] at hk
    split at hk
    ·rename_i r hr
     exact hret0 _ _ _ _ _ _ hI' hr hk
    ·exact hk.elim
   | exit id =>
    obtain ⟨ℓ', env', S', hI', hk⟩ := hq
    exact hk.elim
   | goto l => exact hq.elim
   | panic ch =>
    obtain ⟨ℓ', S', v, hI', hv, rfl, hk⟩ := hq
    refine qcp (by simp) _ _ hI'.defers (fun w2 hs => ?_)
    exact qf0 (c := c) (o := .pan v) rfl rfl rfl hm' (hI'.shut hs) (fun b hb => hb.1) hk
   | outgrown => exact hq.elim
  refine qdp (qav (qa8 (c := c) rfl hm' hT (fun i hi => by cases hi) hD (fun _ => hbe) A hdrA hzA cuts _ ℓ _ S _ w hI hv) ?_)
  intro e a0 w0 hq0
  cases e with
  | normal =>
   obtain ⟨ℓ0, env0, S0, hI0, hC⟩ := hq0
   refine qdp (qav (qa8 (c := c) rfl hm' hT (fun i hi => by cases hi) hD (fun _ => hbe) C hdrC hzC cuts _ ℓ0 _ S0 _ w0 hI0 hC) ?_)
   intro e a1 w1 hq1
   cases e with
   | normal =>
    obtain ⟨ℓ1, env2, S1, hI2, cs, hk, hcw, hm2, hs1, hle2, hB⟩ := hq1
    have hm2 := Nat.eq_of_beq_eq_true hm2
    refine qdp (qe3 (qcw ?_))
    show wpOpsIn (fen none) 0 P #[o2] _ [0] a1 w1
    have hargs := (qw (hI2.pctx hT (by simp [Holds])) _ _ hs1).2
    have hargs' : as0.map a1.eval = (qd ℓ1 cs).toArray := by rw [← Array.toList_inj, Array.toList_map, hargs]
    refine qd2 (ro := none) (o := o2) rfl ?_
    rw [if_pos (by simp [Region.wanted, h2g])]
    have hres : (execOp a1.eval o2).run P w1 = .ok (.defer { target := .fn (.func h) #[], args := (qd ℓ1 cs).toArray }) w1 := by
     simp only [execOp, h2o, resolve, Act.eval, Deferred.ofValue, Sem.run_bind]
     rw [show as0.map a1.eval = (qd ℓ1 cs).toArray from hargs']
     simp [Sem.run_pure]
    refine ⟨fun _ _ => trivial, ?_⟩
    rw [show (fen none).round = none from rfl, Oper.semAt_none, hres, Oper.uponIn_defer, h2d]
    show Exit.then _ _ .normal _ _
    obtain ⟨a2, rfl⟩ : ∃ a2, a2 = a1 := ⟨_, rfl⟩
    have hmk2 : marksOf a2.defers = [] := hI2.size.2.2 (by simp [c])
    have hrs2 : a2.defers = [] := by rw [← qax hmk2]; exact hI2.defers.eq
    let d0 : Deferred := { target := .fn (.func h) #[], args := (qd ℓ1 cs).toArray }
    let c2 : Cx := ⟨J, ℓ1, S1, w1, N, none, [d0], fzE.map (·.1), a2.tmps⟩
    have hI3 : Inv c2 ℓ1 [] [] env2 S1 { a2 with defers := d0 :: a2.defers } w1 := by
     rw [hrs2]
     refine ⟨⟨hI2.size.1, fun t _ => rfl, fun _ => rfl⟩, ⟨rfl, by simp [marksOf, d0], by simp [marksOf, d0]⟩, hI2.env, hI2.gen, hI2.kn, ?_, fun b hb => hI2.fresh0 b (Nat.le_trans hI2.ext.size hb), List.prefix_refl _, Ext.refl _ _, fun b hb => .inl hb⟩
     exact hI2.good.toJ (fun b _ hb => ⟨hb.1, by simp [marksOf, d0]⟩)
    have hm3 : c2.ℓ0.length = m2 := by rw [← hm2]; exact hI2.good.len
    show wpB b (fen none) 0 P B _ { a2 with defers := d0 :: a2.defers } w1
    refine qav (qa8 (c := c2) rfl hm3 hT (fun i hi => by cases hi) hD (fun _ => hbe) B hdrB hzB cuts _ ℓ1 env2 S1 _ w1 hI3 hB) ?_
    have hcden : ∀ ℓ', ℓ1 <+: ℓ' → qd ℓ' cs = qd ℓ1 cs := fun ℓ' hp => qx (n := S1.own.length) (fun i hi => qau hp (by rw [hI2.good.len]; exact hi)) cs hcw
    have fin : ∀ ℓ' env' S' a' w' r, Inv { c2 with base := [] } ℓ' [] [] env' S' a' w' → a'.defers = [] → resOf tt S'.own env' fn.results.toList = some r → AtRet m (.ret r) S' R → LeavesIn (fen none) 0 P fn a'.tmps (CallPost J ℓ S w R) [] .returning w' := by
     intro ℓ' env' S' a' w' r hI' hda hr hk2
     have hres := qb5 (P := P) hT (fn := fn) hI' hr
     have hIc : Inv c ℓ' [] [] env' S' a' w' := qhq (c := c) (c' := { c2 with base := [] }) hI2 rfl rfl rfl rfl rfl hI' hda rfl (fun t ht => by
      have ht : t = N := by simpa [c] using ht
      subst ht
      exact hout _ hI'.size.1)
     exact ⟨_, hres.2, qf0 (c := c) rfl rfl rfl hm' hIc (fun b hb => hb.1) hk2⟩
    have hret : ∀ ℓ' env' S' a' w' r, Inv c2 ℓ' [] [] env' S' a' w' → resOf tt S'.own env' fn.results.toList = some r → AtRet m (.ret r) S' R → LeavesInM (fen none) 0 P fn a'.tmps (CallPost J ℓ S w R) a'.defers .returning w' := by
     intro ℓ' env' S' a' w' r hI' hr hk2
     refine qbg (by simp) _ _ _ ?_ hI'.defers (fun w2 hs => ?_)
     ·intro d' hd'
      have hd' : d' = d0 := by simpa [c2] using hd'
      subst hd'
      refine ⟨rfl, _, _, h, (qd ℓ1 cs).toArray, rfl, fun w => ?_, fun w => hq _ w (by simp [qo, hk])⟩
      simp only [invoke, d0]
      simpa using hcallh _ w
     ·exact fin ℓ' env' S' { a' with defers := [] } _ r (hI'.shut hs) rfl hr hk2
    intro e a' w' hq2
    cases e with
    | normal =>
     obtain ⟨ℓ', env', S', hI', hk2⟩ := hq2
     simp only [vcEndR, vcEnd] at hk2
     split at hk2
     ·rename_i r hr
      exact hret _ _ _ _ _ _ hI' hr hk2
     ·exact hk2.elim
    | ret =>
     obtain ⟨ℓ', env', S', hI', hk2⟩ := hq2
     simp only [vcEndR, vcEnd] at hk2
     split at hk2
     ·rename_i r hr
      exact hret _ _ _ _ _ _ hI' hr hk2
     ·exact hk2.elim
    | exit id =>
     obtain ⟨ℓ', env', S', hI', hk2⟩ := hq2
     exact hk2.elim
    | goto l => exact hq2.elim
    | panic ch =>
     obtain ⟨ℓ', S', v, hI', hv, rfl, hk2⟩ := hq2
     obtain ⟨hne, hcat⟩ := hk2
     have hmk : marksOf a'.defers = [] := hI'.size.2.2 (by
      show fzE.map (·.1) ≠ []
      intro h0
      rw [List.map_eq_nil_iff] at h0
      subst h0
      cases hne)
     have hds : a'.defers = [d0] := by rw [← qax hmk]; exact hI'.defers.eq
     rw [show bodyPostM (fen none) 0 P fn (CallPost J ℓ S w R) (.panic [{ v := v.den ℓ', recovered := false }]) a' w' = LeavesInM (fen none) 0 P fn a'.tmps (CallPost J ℓ S w R) a'.defers (.panicking [{ v := v.den ℓ', recovered := false }]) w' from rfl, hds]
     refine ⟨by simp, .inr ⟨fun h => by simp [fen] at h, _, _, h, (qd ℓ1 cs).toArray, rfl, ?_, fun _ _ => trivial, ?_⟩⟩
     ·simp only [invoke, d0]
      simpa using hcallh _ w'
     ·have hcc := hcat (c2.Ja a') ℓ' w' hI'.good hI'.freshJ
      rw [hcden ℓ' hI'.pre] at hcc
      refine CallsDIn.mono hcc ?_
      rintro e u' w4 ⟨⟨x, rfl⟩, hset, ℓ4, S4, hst, hRS⟩
      simp only [hset]
      have hI4 := hI'.step hst
      have hI5 := hI4.clear hmk
      have hI6 : Inv { c2 with base := [] } ℓ4 [] [] fzE S4 { a' with defers := [] } w4 := by
       refine ⟨hI5.size, hI5.defers, ?_, hI5.gen, hI5.kn, hI5.good, hI5.fresh0, hI5.pre, hI5.ext, hI5.fresh⟩
       intro t s hs
       obtain ⟨hw1, hd1⟩ := hI2.env t s (qca hle2 t s hs)
       have hmem : t ∈ fzE.map (·.1) := qiw hs
       have hp4 : ℓ1 <+: ℓ4 := hI5.pre
       refine ⟨SV.wf_mono ?_ s hw1, ?_⟩
       ·rw [← hI2.good.len, ← hI5.good.len]; exact hp4.length_le
       ·have h1 := hI5.size.2.1 t hmem
        rw [h1]
        show a2.tmps.getD t undef = _
        rw [hd1]
        exact (qy (n := S1.own.length) (fun i hi => qau hp4 (by rw [hI2.good.len]; exact hi)) s hw1).symm
      revert hRS
      split
      ·rename_i r hr
       intro hRS
       exact fin ℓ4 fzE S4 { a' with defers := [] } _ r hI6 rfl hr hRS
      ·exact fun hRS => hRS.elim
    | outgrown => exact hq2.elim
   | exit id => exact early _ _ _ _ (by simp) hq1
   | goto l => exact early _ _ _ _ (by simp) hq1
   | ret => exact early _ _ _ _ (by simp) hq1
   | panic ch => exact early _ _ _ _ (by simp) hq1
   | outgrown => exact early _ _ _ _ (by simp) hq1
  | exit id => exact early _ _ _ _ (by simp) hq0
  | goto l => exact early _ _ _ _ (by simp) hq0
  | ret => exact early _ _ _ _ (by simp) hq0
  | panic ch => exact early _ _ _ _ (by simp) hq0
  | outgrown => exact early _ _ _ _ (by simp) hq0
end
end
end Go.Tr
