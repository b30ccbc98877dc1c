/- Rules for the uses of the framework: types, contracts at a call (Meets.pure, Meets.frame), indices, appends. Conditions stand in each rule. -/
import Derived.Test.YtjjgfenincdgpaaFwH
import Derived.Laws.BitsLemmas
namespace Go.Tr
open Go
set_option linter.unusedSimpArgs false

/-- The fields of a struct type, one after the other. -/
def fieldsOK (P : Program) : List Field → List Nat → Prop
  | [], [] => True
  | f :: fs, n :: ns => (Nat.beq n 0 = false ∧ ∀ w, (sizeOf f.type).run P w = .ok n w) ∧ fieldsOK P fs ns
  | _, _ => False

theorem fieldsOK_spec {P : Program} : ∀ {fs : List Field} {ns : List Nat}, fieldsOK P fs ns → ns.length = fs.length ∧ ∀ (i : Nat) (f : Field) (n : Nat), fs[i]? = some f → ns[i]? = some n → n ≠ 0 ∧ ∀ w, (sizeOf f.type).run P w = .ok n w
  | [], [], _ => ⟨rfl, fun i f n h => by simp at h⟩
  | [], _ :: _, h => by simp [fieldsOK] at h
  | _ :: _, [], h => by simp [fieldsOK] at h
  | f :: fs, n :: ns, h => by
    simp only [fieldsOK] at h
    obtain ⟨h1, h2⟩ := fieldsOK_spec h.2
    refine ⟨by simp [h1], fun i f' n' hf hn => ?_⟩
    cases i with
    | zero =>
      simp at hf hn
      subst hf hn
      refine ⟨fun e => ?_, h.1.2⟩
      have := h.1.1
      subst e
      simp at this
    | succ i => exact h2 i f' n' (by simpa using hf) (by simpa using hn)

theorem tyStruct {P : Program} {t : TypeId} {offs szs : List Nat} {zs : List Value} {fs : Array Field} (h1 : ∀ w, (isAgg t).run P w = .ok true w) (h2 : ∀ w, (sizeOf t).run P w = .ok zs.length w) (h3 : ∀ w, (zeroValue t).run P w = .ok (.agg zs.toArray) w)
    (h4 : P.underlying t = some (.struct fs)) (h5 : fs.toList.map (·.offset) = offs) (h6 : fieldsOK P fs.toList szs) : TyOK P t (.struct offs szs zs) := by
  obtain ⟨h7, h8⟩ := fieldsOK_spec h6
  exact ⟨h1, h2, h3, fs, h4, h5, by simpa using h7, fun i f n hf hn => h8 i f n (by simpa using hf) hn⟩

theorem Meets.mono {P : Program} {cl : Cal} {args : List SV} {S : St} {R R' : Out → St → Prop} (h : Meets P cl args S R) (hr : ∀ o S', R o S' → R' o S') : Meets P cl args S R' := by
  intro J ℓ w hG hJ
  obtain ⟨nx, h1, h2⟩ := h J ℓ w hG hJ
  exact ⟨nx, h1, h2.mono fun e w' ⟨ℓ', o, S', a1, a2, a3, a4, a5, a6, a7⟩ => ⟨ℓ', o, S', a1, a2, a3, a4, a5, a6, hr _ _ a7⟩⟩

/-- What the data that are known tell of lengths. -/
theorem Meets.of_ok {P : Program} {cl : Cal} {args : List SV} {S : St} {R : Out → St → Prop} (h : (∀ p ∈ S.reps, okD p.2) → Meets P cl args S R) : Meets P cl args S R := by
  intro J ℓ w hG hJ
  exact h (fun p hp => (hG.reps p hp).ok) J ℓ w hG hJ

/-- A contract of a call that writes nothing of its caller's and hands back data alone. -/
def Pure (P : Program) (cl : Cal) (args : List SV) (rs : List (Value × D)) (R : SV → List (Value × D) → Prop) : Prop :=
  Meets P cl args ⟨[], [], rs⟩ (fun o S' => ∃ r out, o = .ret r ∧ S' = ⟨[], [], out⟩ ∧ r.wf 0 = true ∧ R r out)

theorem mutS_nil (S : St) (h1 : S.own = []) (h2 : S.accs = []) (ℓ : List Base) : mutS ℓ S = [] := by
  cases ℓ <;> simp [mutS, h1, h2, mutL]

theorem denL_nil (ℓ ℓ' : List Base) (l : List SV) (h : SV.wfL 0 l = true) : SV.denL ℓ l = SV.denL ℓ' l := SV.denL_congr (n := 0) (fun i hi => by omega) l h
theorem den_nil (ℓ ℓ' : List Base) (s : SV) (h : s.wf 0 = true) : s.den ℓ = s.den ℓ' := SV.den_congr (n := 0) (fun i hi => by omega) s h

theorem cal_sem_nil (ℓ ℓ' : List Base) (args : List SV) (cl : Cal) (h : SV.wfL 0 args = true) (hc : cl.wf 0 = true) : cl.sem ℓ args = cl.sem ℓ' args := by
  have h1 := denL_nil ℓ ℓ' args h
  cases cl with
  | val F => have h2 := den_nil ℓ ℓ' F hc; simp only [Cal.sem]; rw [h1, h2]
  | meth r name => have h2 := den_nil ℓ ℓ' r hc; simp only [Cal.sem]; rw [h1, h2]

/-- At a call: a pure contract whose data are among what is known. -/
theorem Pure.at {P : Program} {cl : Cal} {args : List SV} {rs : List (Value × D)} {R : SV → List (Value × D) → Prop} {S : St} {K : Out → St → Prop} (h : Pure P cl args rs R) (hrs : ∀ p ∈ rs, p ∈ S.reps) (hargs : SV.wfL 0 args = true) (hcl : cl.wf 0 = true)
    (k : ∀ r out, R r out → addReps S out (fun S' => K (.ret r) S')) : Meets P cl args S K := by
  simp only [addReps_eq] at k
  intro J ℓ w hG hJ
  have hG0 : Good (Jx J (mutS ℓ S)) [] ⟨[], [], rs⟩ w := by
    refine ⟨rfl, by simp [mutS, mutL], by simp [mutS, mutL], by simp [mutS, mutL], by simp, by simp, by simp, ?_⟩
    intro p hp
    refine (hG.reps p (hrs p hp)).map (fun b _ hb => ⟨⟨hb, by simp [mutS, mutL]⟩, rfl⟩)
  have hJ0 : Fresh (Jx J (mutS ℓ S)) w := fun b hb => ⟨hJ b hb, fun hm => by have := hG.lt b hm; omega⟩
  obtain ⟨nx, h1, h2⟩ := h _ [] w hG0 hJ0
  refine ⟨nx, by rw [cal_sem_nil ℓ [] args cl hargs hcl]; exact h1, h2.mono ?_⟩
  rintro e w' ⟨ℓ', o, S', he, hwf, _, hx, hG', hf, r, out, rfl, rfl, hr0, hR⟩
  have hx0 : Ext [] w w' := by simpa [mutS, mutL] using hx
  have hℓ' : ℓ' = [] := by have := hG'.len; simpa using this
  subst hℓ'
  refine ⟨ℓ, .ret r, ⟨S.own, S.accs, S.reps ++ out⟩, ?_, SV.wf_mono (Nat.zero_le _) r hr0, List.prefix_refl _, hx0.mono (by simp), ?_, fun b hb => .inl hb, k r out hR⟩
  · rw [he]; simp only [Out.ending]; rw [SV.den_congr (n := 0) (ℓ := ℓ) (ℓ' := []) (fun i hi => by omega) r hr0]
  · have hsame : ∀ b, b < w.heap.size → w'.heap[b]? = w.heap[b]? := fun b hb => hx0.block b hb (by simp)
    have hm : mutS ℓ ⟨S.own, S.accs, S.reps ++ out⟩ = mutS ℓ S := rfl
    refine ⟨hG.len, hG.nodup, fun b hb => Nat.lt_of_lt_of_le (hG.lt b hb) hx0.size, hG.memJ, hG.wf, ?_, ?_, ?_⟩
    · intro i b k hi hk
      exact (hG.own i b k hi hk).keep (wf_of_mem hG.wf hk) (fun _ _ => rfl) (fun _ _ hj => hj) (fun hlt => hsame _ hlt)
    · intro a ha
      exact (hG.accs a ha).keep (fun x hx hj => ⟨hj, hsame x hx⟩) (fun x _ hlt => hsame x hlt)
    · intro p hp
      rcases List.mem_append.1 hp with h3 | h3
      · exact (hG.reps p h3).map (fun b hb hj => ⟨hj, hsame b hb⟩)
      · have := hG'.reps p h3
        refine this.map (fun b _ hj => ⟨?_, rfl⟩)
        exact hj.1

/-- The end of a pure function. -/
theorem AtRet.pure {r : SV} {S : St} {R : SV → List (Value × D) → Prop} (out : List (Value × D)) (hr : r.wf 0 = true) (ho : ∀ p ∈ out, p ∈ S.reps) (h : R r out) : AtRet 0 (.ret r) S (fun o S' => ∃ r out, o = .ret r ∧ S' = ⟨[], [], out⟩ ∧ r.wf 0 = true ∧ R r out) :=
  ⟨⟨[], [], out⟩, StLe.part S 0 (Nat.zero_le _) (by simp) [] (List.nil_sublist _) out ho, Nat.zero_le _, hr, r, out, rfl, rfl, hr, h⟩

/-- The cells of a datum, with names for the slices in it. -/
def openD : D → (List SV → List (Value × D) → Prop) → Prop
  | .int k n, K => K [.v (.int k n)] []
  | .bool b, K => K [.v (.bool b)] []
  | .str s, K => K [.v (.string s)] []
  | .sl k ds, K => ∀ a cap, ds.length ≤ cap → ds.length ≤ 1152921504606846976 → K [.v (.slice a ds.length cap)] [(.slice a ds.length cap, .sl k ds)]
  | .agg ds, K => openA ds K
  | .ifc t d, K => openD d (fun svs rs => match svs with
    | [s] => K [.ifc t s] rs
    | _ => True)
where
  openA : List D → (List SV → List (Value × D) → Prop) → Prop
  | [], K => K [] []
  | d :: r, K => openD d (fun xs rs => openA r (fun ys ss => forceL (xs ++ ys) (fun l => forceL (rs ++ ss) (fun l' => K l l'))))

mutual
theorem openD_sound {J : Nat → Prop} {w : World} : ∀ (d : D) (cs : List Value) (K : List SV → List (Value × D) → Prop), RepC J w d cs → openD d K → ∃ svs rs, (∀ ℓ, SV.denL ℓ svs = cs) ∧ SV.wfL 0 svs = true ∧ (∀ p ∈ rs, Rep J w p.1 p.2) ∧ K svs rs
  | .int k n, cs, K, h, hk => by simp only [RepC] at h; subst h; exact ⟨_, _, fun ℓ => rfl, rfl, by simp, hk⟩
  | .bool b, cs, K, h, hk => by simp only [RepC] at h; subst h; exact ⟨_, _, fun ℓ => rfl, rfl, by simp, hk⟩
  | .str s, cs, K, h, hk => by simp only [RepC] at h; subst h; exact ⟨_, _, fun ℓ => rfl, rfl, by simp, hk⟩
  | .sl k ds, cs, K, h, hk => by
    have h' := h
    simp only [RepC] at h
    obtain ⟨a, cap, rfl, hle, _⟩ := h
    refine ⟨_, _, fun ℓ => rfl, rfl, ?_, hk a cap hle.1 hle.2⟩
    intro p hp
    simp at hp
    subst hp
    exact h'
  | .agg ds, cs, K, h, hk => by
    simp only [RepC] at h
    simp only [openD] at hk
    exact openA_sound ds cs K h hk
  | .ifc t d, cs, K, h, hk => by
    simp only [RepC] at h
    obtain ⟨v, rfl, h2⟩ := h
    simp only [openD] at hk
    obtain ⟨svs, rs, e1, w1, p1, hk1⟩ := openD_sound d [v] _ h2 hk
    have hl : svs.length = 1 := by have := congrArg List.length (e1 []); simpa [SV.denL_length] using this
    match svs, hl with
    | [s], _ =>
      refine ⟨[.ifc t s], rs, fun ℓ => ?_, by simpa [SV.wfL, SV.wf] using w1, p1, hk1⟩
      have := e1 ℓ
      simp only [SV.denL, List.cons.injEq, and_true] at this
      simp only [SV.denL, SV.den, this]
theorem openA_sound {J : Nat → Prop} {w : World} : ∀ (ds : List D) (cs : List Value) (K : List SV → List (Value × D) → Prop), RepA J w ds cs → openD.openA ds K → ∃ svs rs, (∀ ℓ, SV.denL ℓ svs = cs) ∧ SV.wfL 0 svs = true ∧ (∀ p ∈ rs, Rep J w p.1 p.2) ∧ K svs rs
  | [], cs, K, h, hk => by
    simp only [RepA] at h
    subst h
    exact ⟨[], [], fun ℓ => rfl, rfl, by simp, hk⟩
  | d :: ds, cs, K, h, hk => by
    simp only [RepA] at h
    obtain ⟨x, y, rfl, h1, h2⟩ := h
    simp only [openD.openA] at hk
    obtain ⟨sx, rx, e1, w1, p1, hk1⟩ := openD_sound d x _ h1 hk
    obtain ⟨sy, ry, e2, w2, p2, hk2⟩ := openA_sound ds y _ h2 hk1
    rw [forceL_eq, forceL_eq] at hk2
    refine ⟨_, _, fun ℓ => by rw [SV.denL_append, e1, e2], wfL_append w1 w2, ?_, hk2⟩
    intro p hp
    rcases List.mem_append.1 hp with h3 | h3
    · exact p1 p h3
    · exact p2 p h3
 end

/-- More that is known: a block that nobody changes, and data. -/
theorem Good.know {J : Nat → Prop} {ℓ : List Base} {S : St} {w : World} (h : Good J ℓ S w) (b : Base) (cs : List SV) (hcs : SV.wfL 0 cs = true) (hok : BlkOK (Jx J (mutS ℓ S)) ℓ w b (.imm cs)) (rs : List (Value × D)) (hrs : ∀ p ∈ rs, Rep (Jx J (mutS ℓ S)) w p.1 p.2) :
    Good J (ℓ ++ [b]) ⟨S.own ++ [.imm cs], S.accs, S.reps ++ rs⟩ w ∧ ∀ x, x ∈ mutS (ℓ ++ [b]) ⟨S.own ++ [.imm cs], S.accs, S.reps ++ rs⟩ ↔ x ∈ mutS ℓ S := by
  have hm : ∀ x, x ∈ mutS (ℓ ++ [b]) ⟨S.own ++ [.imm cs], S.accs, S.reps⟩ ↔ x ∈ mutS ℓ S := by
    intro x
    rw [mutS_push h.len b (.imm cs) x]
    simp [Blk.mut]
  have hm' : mutS (ℓ ++ [b]) ⟨S.own ++ [.imm cs], S.accs, S.reps⟩ = mutS ℓ S := by
    simp [mutS, mutL_append h.len, mutL, Blk.mut]
  have hg := h.push b (.imm cs) (SV.wfL_mono (Nat.zero_le _) cs hcs) (by simp [Blk.mut]) (Nat.le_refl _) (fun _ _ => rfl) (by rw [hm']; exact hok)
  have hm2 : mutS (ℓ ++ [b]) ⟨S.own ++ [.imm cs], S.accs, S.reps ++ rs⟩ = mutS ℓ S := hm'
  refine ⟨⟨hg.len, hg.nodup, hg.lt, hg.memJ, hg.wf, hg.own, hg.accs, ?_⟩, fun x => by rw [hm2]⟩
  intro p hp
  rcases List.mem_append.1 hp with h3 | h3
  · exact hg.reps p h3
  · rw [hm2]; exact hrs p h3

/-- More data that are known. -/
theorem Good.reps_add {J : Nat → Prop} {ℓ : List Base} {S : St} {w : World} (h : Good J ℓ S w) (rs : List (Value × D)) (hrs : ∀ p ∈ rs, Rep (Jx J (mutS ℓ S)) w p.1 p.2) : Good J ℓ ⟨S.own, S.accs, S.reps ++ rs⟩ w := by
  refine ⟨h.len, h.nodup, h.lt, h.memJ, h.wf, h.own, h.accs, ?_⟩
  intro p hp
  rcases List.mem_append.1 hp with h3 | h3
  · exact h.reps p h3
  · exact hrs p h3

theorem OwnKept.append (S : St) (l : List Blk) (accs : List Acc) (reps : List (Value × D)) : OwnKept S ⟨S.own ++ l, accs, reps⟩ := by
  intro i cs h
  have hlt : i < S.own.length := by
    rcases Nat.lt_or_ge i S.own.length with h1 | h1
    · exact h1
    · rw [nth_eq, List.getElem?_eq_none h1] at h; simp [cellsIn] at h
  rw [nth_eq] at h ⊢
  show cellsIn ((S.own ++ l)[i]?) = some cs
  rw [List.getElem?_append_left hlt]
  exact h

theorem addr_add (b off k : Nat) : (⟨b, off, none⟩ : Addr).add k = ⟨b, off + k, none⟩ := by
  unfold Addr.add; split
  · rename_i h; simp [h]
  · rfl

/-- x[i] of a slice that reads as data. -/
theorem at_index {P : Program} {tt : Tab} (hT : TTOK P tt) {t e : TypeId} {k : Nat} {x ix : SV} {S : St} {K : SV → St → Prop} {a : Option Addr} {n c : Nat} {i : Int} {kk : IntKind} {ds : List D} {d : D} (j : Nat) (hx : x = .v (.slice a n c)) (hi : ix = .v (.int kk i)) (ht : tt t = some (.slice e k))
    (hr : nth S.reps j = some (.slice a n c, .sl k ds)) (h0 : 0 ≤ i) (hd : ds[i.toNat]? = some d)
    (h : openD d (fun cs rs => forceL (S.own ++ [.imm cs]) (fun own => putOwn S own (fun S1 => addReps S1 rs (fun S' => K (.loc S.own.length 0) S'))))) : AtPure P (fun ℓ => Instr.indexAt t (x.den ℓ) (ix.den ℓ)) S K := by
  subst hx hi
  constructor
  intro J ℓ w hG hJ
  have hrep := hG.reps _ (List.mem_of_getElem? (by rw [← nth_eq]; exact hr))
  simp only [Rep, RepC] at hrep
  obtain ⟨a', cap, heq, hle, hbl⟩ := hrep
  simp only [List.cons.injEq, Value.slice.injEq, and_true] at heq
  obtain ⟨rfl, rfl, rfl⟩ := heq
  have hlt : i.toNat < ds.length := (List.getElem?_eq_some_iff.1 hd).1
  rcases hbl with h1 | ⟨b, off, cc, T, fz, rfl, hjb, hb, he⟩
  · subst h1; simp at hlt
  · obtain ⟨hlen, hc⟩ := he.get hd
    obtain ⟨svs, rs, e1, w1, p1, hk⟩ := openD_sound d _ _ hc h
    rw [forceL_eq, putOwn_eq, addReps_eq] at hk
    obtain ⟨hG', hm⟩ := hG.know ⟨b, off + i.toNat * k⟩ svs w1 ⟨hjb, cc, T, fz, hb, k, by rw [e1, List.drop_drop]⟩ rs p1
    refine ⟨_, ℓ ++ [⟨b, off + i.toNat * k⟩], _, ?_, by simpa using loc_wf _, List.prefix_append _ _, hG', fun y hy => (hm y).1 hy, OwnKept.append _ _ _ _, hk⟩
    intro w'
    obtain ⟨_, hu, hse⟩ := hT t _ ht
    simp only [Instr.indexAt, SV.den, asIntOf, pure_bind, Sem.run_bind, run_underlying' hu, Result.andThen_ok, Sem.run_pure]
    rw [if_pos ⟨h0, by omega⟩]
    simp only [Sem.run_bind, hse, Result.andThen_ok, Sem.run_pure, addr_add]
    rw [← hG.len, getD_new]
    simp

mutual
/-- The cells read as the datum, by what is known. -/
def RepS (reps : List (Value × D)) : D → List SV → Prop
  | .int k n, cs => cs = [.v (.int k n)]
  | .bool b, cs => cs = [.v (.bool b)]
  | .str s, cs => cs = [.v (.string s)]
  | .sl k ds, cs => (∃ v, cs = [.v v] ∧ (v, .sl k ds) ∈ reps) ∨ (ds = [] ∧ cs = [.v (.slice none 0 0)])
  | .agg ds, cs => RepSA reps ds cs
  | .ifc t d, cs => ∃ s, cs = [.ifc t s] ∧ RepS reps d [s]
def RepSA (reps : List (Value × D)) : List D → List SV → Prop
  | [], cs => cs = []
  | d :: ds, cs => ∃ x y, cs = x ++ y ∧ RepS reps d x ∧ RepSA reps ds y
 end

mutual
theorem RepS.sound {J : Nat → Prop} {w : World} {ℓ : List Base} {reps : List (Value × D)} (hr : ∀ p ∈ reps, Rep J w p.1 p.2) : ∀ (d : D) (cs : List SV), RepS reps d cs → RepC J w d (SV.denL ℓ cs)
  | .int k n, cs, h => by simp only [RepS] at h; subst h; rfl
  | .bool b, cs, h => by simp only [RepS] at h; subst h; rfl
  | .str s, cs, h => by simp only [RepS] at h; subst h; rfl
  | .sl k ds, cs, h => by
    simp only [RepS] at h
    rcases h with ⟨v, rfl, hv⟩ | ⟨rfl, rfl⟩
    · exact hr _ hv
    · exact ⟨none, 0, rfl, ⟨Nat.le_refl _, Nat.zero_le _⟩, .inl rfl⟩
  | .agg ds, cs, h => by
    simp only [RepS] at h
    simp only [RepC]
    exact RepSA.sound hr ds cs h
  | .ifc t d, cs, h => by
    simp only [RepS] at h
    obtain ⟨s, rfl, h2⟩ := h
    exact ⟨s.den ℓ, rfl, RepS.sound hr d [s] h2⟩
theorem RepSA.sound {J : Nat → Prop} {w : World} {ℓ : List Base} {reps : List (Value × D)} (hr : ∀ p ∈ reps, Rep J w p.1 p.2) : ∀ (ds : List D) (cs : List SV), RepSA reps ds cs → RepA J w ds (SV.denL ℓ cs)
  | [], cs, h => by simp only [RepSA] at h; subst h; rfl
  | d :: ds, cs, h => by
    simp only [RepSA] at h
    obtain ⟨x, y, rfl, h1, h2⟩ := h
    rw [SV.denL_append]
    exact ⟨_, _, rfl, RepS.sound hr d x h1, RepSA.sound hr ds y h2⟩
 end

def wfB (n : Nat) : List Blk → Bool
  | [] => true
  | k :: r => match k.wf n with
    | true => wfB n r
    | false => false

theorem wfB_spec {n : Nat} : ∀ {l : List Blk}, wfB n l = true → ∀ k ∈ l, k.wf n = true
  | [], _, k, hk => by simp at hk
  | k0 :: r, h, k, hk => by
    simp only [wfB] at h
    split at h
    · rename_i h0
      rcases List.mem_cons.1 hk with h1 | h1
      · subst h1; exact h0
      · exact wfB_spec h k h1
    · cases h

theorem StLe.of {S S' : St} (h1 : S.own.take S'.own.length = S'.own) (h2 : S'.accs.Sublist S.accs) (h3 : ∀ p ∈ S'.reps, p ∈ S.reps) (hle : Nat.ble S'.own.length S.own.length = true) (hwf : wfB S'.own.length S'.own = true) : StLe S S' := by
  have := StLe.part S S'.own.length (Nat.le_of_ble_eq_true hle) (by rw [h1]; exact wfB_spec hwf) S'.accs h2 S'.reps h3
  rw [h1] at this
  exact this

/-- The own blocks and data that are named, no slices of its own. -/
theorem StLe.to {S : St} (own : List Blk) (reps : List (Value × D)) (h1 : S.own.take own.length = own) (h3 : ∀ p ∈ reps, p ∈ S.reps) (hle : Nat.ble own.length S.own.length = true) (hwf : wfB own.length own = true) : StLe S ⟨own, [], reps⟩ :=
  StLe.of h1 (List.nil_sublist _) h3 hle hwf

/-- The end of a function that was handed own blocks: what they hold now. -/
theorem ret_own {m : Nat} {o : Out} {S : St} {R : Out → St → Prop} (own : List Blk) (h1 : S.own.take own.length = own) (hm : Nat.beq own.length m = true) (hle : Nat.ble own.length S.own.length = true) (hwf : wfB own.length own = true) (ho : o.wf own.length = true) (h : R o ⟨own, [], []⟩) : AtRet m o S R :=
  ⟨⟨own, [], []⟩, StLe.to own [] h1 (by simp) hle hwf, Nat.le_of_eq (Nat.eq_of_beq_eq_true hm).symm, ho, h⟩

theorem StLe.refl (S : St) : StLe S S := by
  refine ⟨Nat.le_refl _, fun J ℓ w h => ?_⟩
  rw [← h.len, List.take_length]
  exact ⟨h, fun _ hb => hb⟩

theorem wrap_i64 {n : Int} (h1 : -9223372036854775808 ≤ n) (h2 : n ≤ 9223372036854775807) : IntKind.i64.wrap n = n := by
  rw [IntKind.wrap_i64]; omega

end Go.Tr
