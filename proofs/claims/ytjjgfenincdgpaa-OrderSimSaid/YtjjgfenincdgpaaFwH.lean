/- A region's operations in the text's order, and code, are sound (vcOps_sound, vcC_sound); a contract out of a function's body (spec_of_body). Condition: the type table is the program's (TTOK). -/
import Derived.Test.YtjjgfenincdgpaaFwG
import Derived.Deep.LoopGhost
import Derived.LoopNIn
namespace Go.Tr
open Go
set_option linter.unusedSimpArgs false

section
variable {P : Program} {tt : Tab} {c : Cx} {ℓ : List Base} {kn al : Atoms} {gen : Gen} {env : Env} {S : St} {a : Act} {w : World}

theorem put_get_self {a : Act} {d : Nat} {v : Value} (h : d < a.tmps.size) : (a.put (some d) v).tmps.getD d undef = v := by
  simp [Act.put, Array.getD, h]
theorem put_get_other {a : Act} {d t : Nat} {v : Value} (h : t ≠ d) : (a.put (some d) v).tmps.getD t undef = a.tmps.getD t undef := by
  simp only [Act.put, Array.getD_eq_getD_getElem?]
  rw [Array.getElem?_setIfInBounds_ne (Ne.symm h)]

theorem freshG_spec {d : Nat} : ∀ {gen : Gen}, freshG d gen = true → ∀ t s tags, gfind gen t = some (s, tags) → t ≠ d ∧ ∀ p ∈ tags, p.1 ≠ d
  | [], _, t, s, tags, h => by simp [gfind] at h
  | (n, s0, tags0) :: r, hf, t, s, tags, h => by
    simp only [freshG] at hf
    split at hf
    · cases hf
    · rename_i hb
      simp only [Bool.or_eq_false_iff] at hb
      simp only [gfind] at h
      split at h
      · rename_i hn
        have hn := Nat.eq_of_beq_eq_true hn
        cases h
        subst hn
        refine ⟨fun e => ?_, fun p hp e => ?_⟩
        · subst e; simp at hb
        · have := hb.2
          rw [List.any_eq_false] at this
          have := this p hp
          subst e
          simp at this
      · exact freshG_spec hf t s tags h

theorem freshK_spec {d : Nat} : ∀ {kn : Atoms}, freshK d kn = true → ∀ p ∈ kn, p.1 ≠ d
  | [], _, p, hp => by simp at hp
  | (n, b) :: r, hf, p, hp => by
    simp only [freshK] at hf
    split at hf
    · cases hf
    · rename_i hb
      rcases List.mem_cons.1 hp with h1 | h1
      · subst h1; intro e; subst e; simp at hb
      · exact freshK_spec hf p h1

theorem holds_put {a : Act} {d : Nat} {v : Value} {l : Atoms} (h : ∀ p ∈ l, p.1 ≠ d) : Holds (a.put (some d) v) l ↔ Holds a l := by
  constructor
  · intro hh p hp; have := hh p hp; rwa [put_get_other (h p hp)] at this
  · intro hh p hp; rw [put_get_other (h p hp)]; exact hh p hp

theorem put_size (a : Act) (d : Option Nat) (v : Value) : (a.put d v).tmps.size = a.tmps.size := by cases d <;> simp [Act.put]
theorem put_defers (a : Act) (d : Option Nat) (v : Value) : (a.put d v).defers = a.defers := by cases d <;> simp [Act.put]

theorem Ja_put (a : Act) (d : Option Nat) (v : Value) : c.Ja (a.put d v) = c.Ja a := by unfold Cx.Ja; rw [put_defers]

theorem EnvOK.grow {n n' : Nat} {ℓ' : List Base} (h : EnvOK ℓ n env a) (hn : n ≤ n') (hℓ : ∀ i, i < n → ℓ'.getD i default = ℓ.getD i default) : EnvOK ℓ' n' env a := fun t s hs => by
  have := h t s hs
  exact ⟨SV.wf_mono hn s this.1, by rw [SV.den_congr hℓ s this.1]; exact this.2⟩
theorem GenOK.grow {n n' : Nat} {ℓ' : List Base} (h : GenOK ℓ n gen a) (hn : n ≤ n') (hℓ : ∀ i, i < n → ℓ'.getD i default = ℓ.getD i default) : GenOK ℓ' n' gen a := fun t s tags hs => by
  have := h t s tags hs
  exact ⟨fun hh => ⟨SV.wf_mono hn s (this.1 hh).1, by rw [SV.den_congr hℓ s (this.1 hh).1]; exact (this.1 hh).2⟩, this.2⟩

theorem Stepped.own_le {J : Nat → Prop} {ℓ' : List Base} {S' : St} {w' : World} (h : Stepped J ℓ S w ℓ' S' w') (hl : ℓ.length = S.own.length) : S.own.length ≤ S'.own.length := by
  rw [← hl, ← h.good.len]; exact h.pre.length_le

theorem Marks.ext {w0 : World} {ds : List Deferred} {w w' : World} {m : List Nat} (h : Marks w0 ds w) (hx : Ext m w w') (hm : ∀ r ∈ marksOf ds, r ∉ m) : Marks w0 ds w' :=
  ⟨h.eq, h.nodup, fun r hr => ⟨(h.blk r hr).1, (hx.block r (lt_of_get (h.blk r hr).2) (hm r hr)).trans (h.blk r hr).2⟩⟩

theorem Inv.marks_mut (hI : Inv c ℓ kn gen env S a w) : ∀ r ∈ marksOf a.defers, r ∉ mutS ℓ S := fun r hr hm => (hI.good.memJ r hm).2 hr

/-- Behind a step nothing but the world and the state has turned. -/
theorem Inv.step (hI : Inv c ℓ kn gen env S a w) {ℓ' : List Base} {S' : St} {w' : World} (hs : Stepped (c.Ja a) ℓ S w ℓ' S' w') : Inv c ℓ' kn gen env S' a w' := by
  have hle := hs.own_le hI.good.len
  have hℓ : ∀ i, i < S.own.length → ℓ'.getD i default = ℓ.getD i default := fun i hi => prefix_getD hs.pre (by rw [hI.good.len]; exact hi)
  refine ⟨hI.size, hI.defers.ext hs.ext hI.marks_mut, hI.env.grow hle hℓ, hI.gen.grow hle hℓ, hI.kn, hs.good, hI.fresh0, hI.pre.trans hs.pre, hI.ext.then hs.ext hI.fresh, ?_⟩
  intro b hb
  rcases hs.fresh b hb with h1 | h1
  · exact hI.fresh b h1
  · exact .inr (Nat.le_trans hI.ext.size h1)

theorem putK_sound {N : Nat} {dst : Option Nat} {s : SV} {K : Env → Prop} (hN : c.N = N) (hI : Inv c ℓ kn gen env S a w) (hs : s.wf S.own.length = true) (h : putK N dst s kn gen env K) :
    ∃ env', K env' ∧ Inv c ℓ kn gen env' S (a.put dst (s.den ℓ)) w := by
  unfold putK at h
  split at h
  · refine ⟨env, h, ?_⟩
    exact hI
  · rename_i d
    split at h
    · rename_i hb
      simp only [Bool.and_eq_true] at hb
      obtain ⟨⟨h1, h2⟩, h3⟩ := hb
      have h1 := blt_true.1 h1
      have hlt : d < a.tmps.size := by rw [hI.size, hN]; exact h1
      refine ⟨_, h, ?_⟩
      refine ⟨by rw [put_size]; exact hI.size, by rw [put_defers]; exact hI.defers, ?_, ?_, ?_, by rw [Ja_put]; exact hI.good, hI.fresh0, hI.pre, hI.ext, hI.fresh⟩
      · intro t s' hs'
        simp only [find] at hs'
        split at hs'
        · rename_i hn
          have hn := Nat.eq_of_beq_eq_true hn
          cases hs'
          subst hn
          exact ⟨hs, put_get_self hlt⟩
        · rename_i hn
          have hne : t ≠ d := fun e => by subst e; simp at hn
          rw [put_get_other hne]
          exact hI.env t s' hs'
      · intro t s' tags hs'
        obtain ⟨hne, htags⟩ := freshG_spec h2 t s' tags hs'
        have := hI.gen t s' tags hs'
        rw [put_get_other hne, holds_put htags]
        exact this
      · exact (holds_put (freshK_spec h3)).2 hI.kn
    · exact h.elim

theorem putG_sound {N : Nat} {dst : Option Nat} {s : SV} {tags : Atoms} {K : Gen → Prop} {v : Value} (hN : c.N = N) (hI : Inv c ℓ kn gen env S a w) (hv : Holds a tags → s.wf S.own.length = true ∧ v = s.den ℓ) (hv' : ¬ Holds a tags → v = undef) (h : putG N dst s tags kn gen env K) :
    ∃ gen', K gen' ∧ Inv c ℓ kn gen' env S (a.put dst v) w := by
  unfold putG at h
  split at h
  · exact ⟨gen, h, hI⟩
  · rename_i d
    split at h
    · rename_i hb
      simp only [Bool.and_eq_true] at hb
      obtain ⟨⟨h1, h2⟩, h3, h4⟩ := hb
      have h1 := blt_true.1 h1
      have hlt : d < a.tmps.size := by rw [hI.size, hN]; exact h1
      split at h
      · rename_i hnone
        refine ⟨_, h, ?_⟩
        refine ⟨by rw [put_size]; exact hI.size, by rw [put_defers]; exact hI.defers, ?_, ?_, ?_, by rw [Ja_put]; exact hI.good, hI.fresh0, hI.pre, hI.ext, hI.fresh⟩
        · intro t s' hs'
          have hne : t ≠ d := fun e => by subst e; rw [hnone] at hs'; cases hs'
          rw [put_get_other hne]
          exact hI.env t s' hs'
        · intro t s' tags' hs'
          simp only [gfind] at hs'
          split at hs'
          · rename_i hn
            have hn := Nat.eq_of_beq_eq_true hn
            simp only [Option.some.injEq, Prod.mk.injEq] at hs'
            obtain ⟨rfl, rfl⟩ := hs'
            subst hn
            rw [put_get_self hlt, holds_put (freshK_spec h4)]
            exact ⟨hv, hv'⟩
          · obtain ⟨hne, htags⟩ := freshG_spec h2 t s' tags' hs'
            have := hI.gen t s' tags' hs'
            rw [put_get_other hne, holds_put htags]
            exact this
        · exact (holds_put (freshK_spec h3)).2 hI.kn
      · exact h.elim
    · exact h.elim

/-- The bool in a guard's slot. -/
theorem gfindE_sound (hI : Inv c ℓ kn gen env S a w) {g : Nat} {s : SV} {tags : Atoms} (h : gfindE gen env g = some (s, tags)) : (Holds a tags → a.tmps.getD g undef = s.den ℓ) ∧ (¬ Holds a tags → a.tmps.getD g undef = undef) := by
  unfold gfindE at h
  split at h
  · rename_i r hr
    cases h
    exact ⟨fun hh => ((hI.gen _ _ _ hr).1 hh).2, (hI.gen _ _ _ hr).2⟩
  · split at h
    · rename_i s' hs'
      simp only [Option.some.injEq, Prod.mk.injEq] at h
      obtain ⟨rfl, rfl⟩ := h
      exact ⟨fun _ => (hI.env _ _ hs').2, fun hn => (hn (by simp [Holds])).elim⟩
    · cases h

theorem yielded_eq {ops : Array Oper} {j g : Nat} (hg : guardSlot ops j = some g) : yielded ops a.tmps j = match a.tmps.getD g undef with
    | .bool b => some b
    | _ => none := by
  unfold guardSlot at hg
  split at hg
  · rename_i o ho
    rw [nth_eq] at ho
    have ho' : ops[j]? = some o := by simpa using ho
    simp only [yielded, ho', Option.bind_some, hg, Array.getD_eq_getD_getElem?]
    cases h : a.tmps[g]? with
    | none => simp [undef]
    | some v => cases v <;> simp
  · cases hg

/-- Nothing is said of the frame. -/
theorem Inv.noEnv (hI : Inv c ℓ kn gen env S a w) : Inv c ℓ [] [] [] S a w :=
  ⟨hI.size, hI.defers, fun t s h => by simp [find] at h, fun t s tags h => by simp [gfind] at h, by simp [Holds], hI.good, hI.fresh0, hI.pre, hI.ext, hI.fresh⟩

def OpsPost (c : Cx) (K : Env → St → Prop) (Kp : SV → St → Prop) (Q : Exit → Act → World → Prop) : Prop :=
  (∀ ℓ kn gen env S a w, Inv c ℓ kn gen env S a w → K env S → Q .normal a w) ∧
  (∀ ℓ S a w v, Inv c ℓ [] [] [] S a w → v.wf S.own.length = true → Kp v S → Q (.panic [{ v := v.den ℓ, recovered := false }]) a w)

theorem wpOps_some {ro : Option Nat} {ops : Array Oper} {Q : Exit → Act → World → Prop} {i : Nat} {rest : List Nat} {o : Oper} (ho : ops[i]? = some o) (h : if Region.wanted o (yielded ops a.tmps) then o.wpIn (fen ro) 0 P a w (wpOpsIn (fen ro) 0 P ops Q rest) Q else wpOpsIn (fen ro) 0 P ops Q rest (a.put o.dst undef) w) :
    wpOpsIn (fen ro) 0 P ops Q (i :: rest) a w := by
  simp only [wpOpsIn, ho]
  split
  · rename_i hw; rw [if_pos hw] at h; exact h
  · rename_i hw; rw [if_neg hw] at h; exact ⟨fun _ _ => trivial, h⟩

theorem tagsK_sound {A B : Atoms → Prop} (hI : Inv c ℓ kn gen env S a w) : ∀ (l kn' : Atoms), Holds a kn' → tagsK gen env A B l kn' → (∃ kn2, Holds a kn2 ∧ Holds a l ∧ A kn2) ∨ (∃ kn2, Holds a kn2 ∧ ¬ Holds a l ∧ B kn2)
  | [], kn', hk, h => .inl ⟨kn', hk, by simp [Holds], h⟩
  | (g, want) :: r, kn', hk, h => by
    simp only [tagsK_cons, tagsOne] at h
    split at h
    · rename_i b hb
      have hgb := hk _ (knownOf_mem hb)
      simp only at hgb
      split at h
      · rename_i hbw
        have := beqB_eq hbw
        subst this
        rcases tagsK_sound hI r kn' hk h with ⟨kn2, h1, h2, h3⟩ | ⟨kn2, h1, h2, h3⟩
        · exact .inl ⟨kn2, h1, fun p hp => by rcases List.mem_cons.1 hp with e | e; (subst e; exact hgb); exact h2 p e, h3⟩
        · exact .inr ⟨kn2, h1, fun hh => h2 (fun p hp => hh p (List.mem_cons_of_mem _ hp)), h3⟩
      · rename_i hbw
        have := beqB_ne hbw
        subst this
        refine .inr ⟨kn', hk, fun hh => ?_, h⟩
        have := hh (g, want) (by simp)
        rw [hgb] at this
        cases want <;> simp at this
    · split at h
      · rename_i b tg hgf
        split at h
        · rename_i hs
          have hge := (gfindE_sound hI hgf).1 (subAtoms_holds hs hk)
          simp only [SV.den] at hge
          by_cases hbw : b = want
          · subst hbw
            have hk2 : Holds a ((g, b) :: kn') := fun p hp => by rcases List.mem_cons.1 hp with e | e; (subst e; exact hge); exact hk p e
            rcases tagsK_sound hI r _ hk2 (h.t rfl) with ⟨kn2, h1, h2, h3⟩ | ⟨kn2, h1, h2, h3⟩
            · exact .inl ⟨kn2, h1, fun p hp => by rcases List.mem_cons.1 hp with e | e; (subst e; exact hge); exact h2 p e, h3⟩
            · exact .inr ⟨kn2, h1, fun hh => h2 (fun p hp => hh p (List.mem_cons_of_mem _ hp)), h3⟩
          · have hb2 : b = !want := by cases b <;> cases want <;> simp_all
            refine .inr ⟨_, fun p hp => ?_, fun hh => ?_, h.f hb2⟩
            · rcases List.mem_cons.1 hp with e | e
              · subst e; simp only; rw [hge, hb2]; cases want <;> rfl
              · exact hk p e
            · have := hh (g, want) (by simp)
              rw [hge] at this
              simp only [Value.bool.injEq] at this
              exact hbw this
        · exact h.elim
      · exact h.elim

theorem vcOps_sound {ro : Option Nat} {N : Nat} (hN : c.N = N) (hT : TTOK P tt) {ops : Array Oper} {K : Env → St → Prop} {Kp : SV → St → Prop} {Q : Exit → Act → World → Prop} (hQ : OpsPost c K Kp Q) :
    ∀ (rest : List Oper) (i : Nat), ops.toList.drop i = rest → ∀ ℓ kn gen env S a w, Inv c ℓ kn gen env S a w → vcOps P tt N ops rest kn gen env S K Kp → wpOpsIn (fen ro) 0 P ops Q (List.range' i rest.length) a w := by
  intro rest
  induction rest with
  | nil =>
    intro i _ ℓ kn gen env S a w hI h
    simp only [List.length_nil, List.range'_zero, wpOpsIn]
    exact hQ.1 _ _ _ _ _ _ _ hI h
  | cons o rest ih =>
    intro i hi ℓ kn gen env S a w hI h
    have ho : ops[i]? = some o := by
      have : (ops.toList.drop i)[0]? = some o := by rw [hi]; rfl
      simpa using this
    have hi' : ops.toList.drop (i + 1) = rest := by
      have := congrArg List.tail hi
      simpa using this
    have next := ih (i + 1) hi'
    simp only [List.length_cons, List.range'_succ]
    apply wpOps_some ho
    simp only [vcOps_cons, vcOp] at h
    -- an operation that is carried out
    have run : ∀ kn', Holds a kn' → vcRun P tt kn' (getter gen env kn') o S (fun s S' => putK N o.dst s kn' gen env (fun env' => vcOps P tt N ops rest kn' gen env' S' K Kp)) Kp → o.wpIn (fen ro) 0 P a w (wpOpsIn (fen ro) 0 P ops Q (List.range' (i + 1) rest.length)) Q := by
      intro kn' hk' hr
      have hI' : Inv c ℓ kn' gen env S a w := ⟨hI.size, hI.defers, hI.env, hI.gen, hk', hI.good, hI.fresh0, hI.pre, hI.ext, hI.fresh⟩
      refine vcRun_sound hT hI' hk' ?_ ?_ hr
      · intro r ℓ' S' w' hs hwf hk
        obtain ⟨env', hk2, hI2⟩ := putK_sound hN (hI'.step hs) hwf hk
        exact next _ _ _ _ _ _ _ hI2 hk2
      · intro v ℓ' S' w' hs hwf hk
        exact hQ.2 _ _ _ _ _ (hI'.step hs).noEnv hwf hk
    have skip : ∀ kn', Holds a kn' → putK N o.dst undefS kn' gen env (fun env' => vcOps P tt N ops rest kn' gen env' S K Kp) → wpOpsIn (fen ro) 0 P ops Q (List.range' (i + 1) rest.length) (a.put o.dst undef) w := by
      intro kn' hk' hr
      have hI' : Inv c ℓ kn' gen env S a w := ⟨hI.size, hI.defers, hI.env, hI.gen, hk', hI.good, hI.fresh0, hI.pre, hI.ext, hI.fresh⟩
      obtain ⟨env', hk2, hI2⟩ := putK_sound hN hI' (s := undefS) rfl hr
      exact next _ _ _ _ _ _ _ hI2 hk2
    split at h
    · rename_i hg
      have : Region.wanted o (yielded ops a.tmps) = true := by simp [Region.wanted, hg]
      rw [if_pos this]
      exact run kn hI.kn h
    · rename_i j want hg
      split at h
      · exact h.elim
      · rename_i g hgs
        have hy := yielded_eq (a := a) hgs
        have hwant : Region.wanted o (yielded ops a.tmps) = (yielded ops a.tmps j == some want) := by simp [Region.wanted, hg]
        split at h
        · rename_i b hb
          have hgb := hI.kn _ (knownOf_mem hb)
          simp only at hgb
          rw [hgb] at hy
          simp only at hy
          split at h
          · rename_i hbw
            have := beqB_eq hbw
            subst this
            rw [if_pos (by rw [hwant, hy]; simp)]
            exact run kn hI.kn h
          · rename_i hbw
            have := beqB_ne hbw
            subst this
            rw [if_neg (by rw [hwant, hy]; cases want <;> simp)]
            exact skip kn hI.kn h
        · split at h
          · rename_i b tg hgf
            have hge := gfindE_sound hI hgf
            simp only [SV.den] at hge
            split at h
            · rename_i s hs
              -- is the operation wanted?
              by_cases hw : Region.wanted o (yielded ops a.tmps) = true
              · rw [if_pos hw]
                rw [hwant] at hw
                have hbool : a.tmps.getD g undef = .bool want := by
                  rw [hy] at hw
                  cases hv : a.tmps.getD g undef with
                  | bool b' => rw [hv] at hw; simp at hw; rw [hw]
                  | _ => rw [hv] at hw; simp at hw
                have htg : Holds a tg := by
                  rcases Classical.em (Holds a tg) with h1 | h1
                  · exact h1
                  · have := hge.2 h1; rw [hbool] at this; cases this
                have hall : Holds a ((g, want) :: tg) := by
                  intro p hp
                  rcases List.mem_cons.1 hp with h1 | h1
                  · subst h1; exact hbool
                  · exact htg p h1
                have hpure := stepPure_sound (hI.pctx hT (hall.append hI.kn)) o hs
                refine up_wp (fun c' hc' => by rw [hc'] at hs; simp [stepPure] at hs) (wp_of_value hpure.2 ?_)
                obtain ⟨gen', hk2, hI2⟩ := putG_sound hN hI (v := s.den ℓ) (fun _ => ⟨hpure.1, rfl⟩) (fun hn => (hn hall).elim) h
                exact next _ _ _ _ _ _ _ hI2 hk2
              · rw [if_neg hw]
                have hnot : ¬ Holds a ((g, want) :: tg) := by
                  intro hh
                  have := hh (g, want) (by simp)
                  simp only at this
                  rw [this] at hy
                  simp only at hy
                  rw [hwant, hy] at hw
                  simp at hw
                obtain ⟨gen', hk2, hI2⟩ := putG_sound hN hI (s := s) (v := undef) (fun hh => (hnot hh).elim) (fun _ => rfl) h
                exact next _ _ _ _ _ _ _ hI2 hk2
            · rcases tagsK_sound hI _ _ hI.kn h with ⟨kn', hk', hall, hA⟩ | ⟨kn', hk', hno, hB⟩
              · have hgv : a.tmps.getD g undef = .bool want := hall (g, want) (by simp)
                rw [hgv] at hy
                simp only at hy
                rw [if_pos (by rw [hwant, hy]; simp)]
                exact run kn' hk' hA
              · rw [if_neg ?_]
                · exact skip kn' hk' hB
                · intro hw
                  rw [hwant] at hw
                  have hbool : a.tmps.getD g undef = .bool want := by
                    rw [hy] at hw
                    cases hv : a.tmps.getD g undef with
                    | bool b' => rw [hv] at hw; simp at hw; rw [hw]
                    | _ => rw [hv] at hw; simp at hw
                  have htg : Holds a tg := by
                    rcases Classical.em (Holds a tg) with h1 | h1
                    · exact h1
                    · have := hge.2 h1; rw [hbool] at this; cases this
                  refine hno (fun p hp => ?_)
                  simp only [List.reverse_cons, List.mem_append, List.mem_reverse, List.mem_singleton] at hp
                  rcases hp with h1 | h1
                  · exact htg p h1
                  · subst h1; exact hbool
          · rename_i tg hgf
            have hge := gfindE_sound hI hgf
            have hund : a.tmps.getD g undef = undef := by
              rcases Classical.em (Holds a tg) with h1 | h1
              · exact (hge.1 h1).trans rfl
              · exact hge.2 h1
            rw [hund] at hy
            rw [if_neg (by rw [hwant, hy]; simp [undef])]
            exact skip kn hI.kn h
          · exact h.elim

/-- Behind code: the symbolic ways meet the model's. -/
def QK (c : Cx) (K : X → Env → St → Prop) : Exit → Act → World → Prop
  | .normal, a, w => ∃ ℓ env S, Inv c ℓ [] [] env S a w ∧ K .norm env S
  | .exit id, a, w => ∃ ℓ env S, Inv c ℓ [] [] env S a w ∧ K (.exit id) env S
  | .ret, a, w => ∃ ℓ env S, Inv c ℓ [] [] env S a w ∧ K .ret env S
  | .panic ch, a, w => ∃ ℓ S v, Inv c ℓ [] [] [] S a w ∧ v.wf S.own.length = true ∧ ch = [{ v := v.den ℓ, recovered := false }] ∧ K (.pan v) [] S
  | _, _, _ => False

theorem Inv.bare {ℓ : List Base} {kn : Atoms} {gen : Gen} (hI : Inv c ℓ kn gen env S a w) : Inv c ℓ [] [] env S a w :=
  ⟨hI.size, hI.defers, hI.env, fun t s tags h => by simp [gfind] at h, by simp [Holds], hI.good, hI.fresh0, hI.pre, hI.ext, hI.fresh⟩

theorem envLe_spec : ∀ {inv : Env}, envLe env inv → ∀ t s, find inv t = some s → find env t = some s
  | [], _, t, s, h => by simp [find] at h
  | (n, s0) :: r, hh, t, s, h => by
    simp only [envLe] at hh
    simp only [find] at h
    split at h
    · rename_i hn
      have hn := Nat.eq_of_beq_eq_true hn
      cases h
      subst hn
      exact hh.1
    · exact envLe_spec hh.2 t s h

/-- A part of the state and of the frame. -/
theorem Inv.part (hI : Inv c ℓ [] [] env S a w) {env' : Env} {S' : St} (he : envLe env env') (hw : envWf S'.own.length env' = true) (hS : StLe S S') (hm : c.ℓ0.length ≤ S'.own.length) : Inv c (ℓ.take S'.own.length) [] [] env' S' a w := by
  obtain ⟨hle, hS⟩ := hS
  obtain ⟨hg, hmem⟩ := hS (c.Ja a) ℓ w hI.good
  refine ⟨hI.size, hI.defers, ?_, fun t s tags h => by simp [gfind] at h, by simp [Holds], hg, hI.fresh0, ?_, hI.ext, fun b hb => hI.fresh b (hmem b hb)⟩
  · intro t s hs
    have h1 := envWf_spec hw t s hs
    have h2 := hI.env t s (envLe_spec he t s hs)
    refine ⟨h1, ?_⟩
    rw [h2.2]
    refine (SV.den_congr (n := S'.own.length) (fun i hi => ?_) s h1).symm
    simp [List.getD, List.getElem?_take, hi]
  · refine List.prefix_of_prefix_length_le hI.pre (List.take_prefix _ _) ?_
    rw [List.length_take, hI.good.len]
    omega

theorem wp_ops_region {ro : Option Nat} {id : Nat} {ops : Array Oper} {Q : Exit → Act → World → Prop} (h : wpOpsIn (fen ro) 0 P ops Q (List.range' 0 ops.toList.length) a w) : (Code.region id ops false).wpIn (fen ro) 0 P Q a w := by
  refine wpIn_region ?_
  rw [List.range_eq_range']
  simpa using h

/-- A part of the code in which labels stand, none of which is jumped to. -/
theorem wpIn_scope {F : Fence} {n : Nat} {Q : Exit → Act → World → Prop} {body : Code} (hno : ∀ l a w, ¬ Q (.goto l) a w) (h : body.wpIn F n P Q a w) : (Code.scope body).wpIn F n P Q a w := by
  intro b k cs hro hb hr
  have s1 : step P (lone (b.atR a (.code (.scope body) :: k)) cs w) = .next (lone (b.atR a (.code body :: .inScope body :: k)) cs w) := step_lone_go (by simp [stepG, stepG.exec, Frame.atR])
  obtain ⟨e, a₁, w₁, hq, harr⟩ := h b (.inScope body :: k) cs hro hb hr
  have first : StepsIn (Machine.fenced P F) P (lone (b.atR a (.code (.scope body) :: k)) cs w) (lone (b.atR a (.code body :: .inScope body :: k)) cs w) := .one (fenced_calm (fr := b.atR a (.code (.scope body) :: k)) hb hr rfl) s1
  have hx : ∀ id, exitTo id (.inScope body :: k) = exitTo id k := fun id => by simp [exitTo]
  cases e with
  | normal =>
    have s2 : step P (lone (b.atR a₁ (.inScope body :: k)) cs w₁) = .next (lone (b.atR a₁ k) cs w₁) := step_lone_go (by simp [stepG, stepG.exec, Frame.atR])
    exact ⟨.normal, a₁, w₁, hq, first.trans (StepsIn.trans harr (.one (fenced_calm (fr := b.atR a₁ (.inScope body :: k)) hb hr rfl) s2))⟩
  | exit id => exact ⟨.exit id, a₁, w₁, hq, fun k' hk => first.trans (harr.1 k' (by rw [hx]; exact hk)), fun hrd hk => let ⟨k₁, h1, h2⟩ := harr.2 hrd (by rw [hx]; exact hk); ⟨k₁, h1, first.trans h2⟩⟩
  | goto l => exact (hno l a₁ w₁ hq).elim
  | ret => exact ⟨.ret, a₁, w₁, hq, .of_steps first harr⟩
  | panic ch => exact ⟨.panic ch, a₁, w₁, hq, .of_steps first harr⟩
  | outgrown => exact ⟨.outgrown, a₁, w₁, hq, .of_steps first harr⟩

/-- A loop whose invariant bears a number that each round lowers. -/
theorem wpIn_loop_ghost {F : Fence} {n : Nat} {Q : Exit → Act → World → Prop} {body : Code} (I : Nat → Act → World → Prop) (n₀ : Nat) (h₀ : I n₀ a w)
    (round : ∀ k a w, I k a w → body.wpIn F n P (Exit.then (fun a' w' => ∃ k', k' < k ∧ I k' a' w') Q) a w) : (Code.loop body).wpIn F n P Q a w := by
  have key : ∀ (k : Nat) (a : Act) (w : World), I k a w → Code.roundsIn F n P body Q (k + 1) a w := by
    intro k
    induction k using Nat.strongRecOn with
    | _ k ih =>
      intro a w h
      rw [roundsIn_succ]
      refine wpIn_mono (round k a w h) ?_
      intro e a' w' hq
      cases e with
      | normal =>
        obtain ⟨k', hlt, hI⟩ := hq
        have h1 := ih k' hlt a' w' hI
        -- more rounds may be left than are used
        have more : ∀ (p q : Nat) (a : Act) (w : World), p ≤ q → Code.roundsIn F n P body Q p a w → Code.roundsIn F n P body Q q a w := by
          intro p
          induction p with
          | zero => intro q a w _ h; exact h.elim
          | succ p ihp =>
            intro q a w hle h
            obtain ⟨q', rfl⟩ : ∃ q', q = q' + 1 := ⟨q - 1, by omega⟩
            rw [roundsIn_succ] at h ⊢
            refine wpIn_mono h ?_
            intro e a' w' hq
            cases e with
            | normal => exact ihp q' a' w' (by omega) hq
            | _ => exact hq
        exact more (k' + 1) k a' w' hlt h1
      | _ => exact hq
  exact wpIn_loop_rounds (n₀ + 1) (key n₀ a w h₀)

/-- What a result variable yields. -/
def resStep (a : Act) : ResultVar → Sem Value
  | .tmp t => pure (a.tmps.getD t undef)
  | .cell ad t => do loadVar t (← asAddr (a.tmps.getD ad undef))

theorem results_eq (fn : Func) (a : Act) : results fn a.tmps = (do let vs ← fn.results.mapM (resStep a); pure (if h : vs.size = 1 then vs[0] else .tuple vs)) := rfl

theorem resLoad_sound (hT : TTOK P tt) (hI : Inv c ℓ [] [] env S a w) {ad : Nat} {t : TypeId} {s : SV} (h : pureLoad tt S.own t (find env ad) = some s) : s.wf S.own.length = true ∧ (resStep a (.cell ad t)).run P w = .ok (s.den ℓ) w := by
  have hC := hI.pctx (P := P) (tt := tt) (al := []) hT (by simp [Holds])
  have h0 := stepPure_sound hC { (default : Oper) with op := .load t (.tmp ad) } (s := s) (by simpa [stepPure, getter, gfind] using h)
  refine ⟨h0.1, ?_⟩
  cases hf : find env ad with
  | none => rw [hf] at h; simp [pureLoad] at h
  | some x =>
    rw [hf] at h
    cases x with
    | loc i off =>
      have hv := (hI.env ad _ hf).2
      have h1 := h0.2
      simp only [execOp, Act.eval, hv, SV.den, Instr.loadAt, Instr.sureAddr, pure_bind, Sem.run_bind, Sem.run_pure] at h1
      simp only [resStep, hv, SV.den, asAddr, pure_bind]
      cases hl : (loadVar t ⟨(ℓ.getD i default).block, (ℓ.getD i default).off + off, none⟩).run P w with
      | ok v w1 => rw [hl] at h1; simp only [Result.andThen_ok, Result.ok.injEq, Next.value.injEq] at h1; rw [h1.1, h1.2]
      | halt x w1 => rw [hl] at h1; simp at h1
    | _ => simp [pureLoad] at h

theorem resS_sound (hT : TTOK P tt) (hI : Inv c ℓ [] [] env S a w) : ∀ (rs : List ResultVar) (l : List SV), resS tt S.own env rs = some l → SV.wfL S.own.length l = true ∧
    (rs.mapM (resStep a)).run P w = .ok (SV.denL ℓ l) w
  | [], l, h => by simp only [resS, Option.some.injEq] at h; subst h; exact ⟨rfl, by simp [SV.denL]⟩
  | .tmp t :: rs, l, h => by
    simp only [resS] at h
    split at h
    · rename_i s hs
      split at h
      · rename_i l' hl'
        cases h
        have h1 := hI.env t s hs
        have h2 := resS_sound hT hI rs l' hl'
        refine ⟨by simp [SV.wfL, h1.1, h2.1], ?_⟩
        simp only [List.mapM_cons, resStep, Sem.run_bind, Sem.run_pure, Result.andThen_ok, h2.2, SV.denL, h1.2]
      · cases h
    · cases h
  | .cell ad t :: rs, l, h => by
    simp only [resS] at h
    split at h
    · rename_i s hs
      split at h
      · rename_i l' hl'
        cases h
        have h1 := resLoad_sound hT hI hs
        have h2 := resS_sound hT hI rs l' hl'
        refine ⟨by simp [SV.wfL, h1.1, h2.1], ?_⟩
        simp only [List.mapM_cons, Sem.run_bind, Sem.run_pure, Result.andThen_ok, h1.2, h2.2, SV.denL]
      · cases h
    · cases h

theorem resOf_sound (hT : TTOK P tt) {fn : Func} (hI : Inv c ℓ [] [] env S a w) {r : SV} (h : resOf tt S.own env fn.results.toList = some r) : r.wf S.own.length = true ∧ (results fn a.tmps).run P w = .ok (r.den ℓ) w := by
  unfold resOf at h
  have key : ∀ l, resS tt S.own env fn.results.toList = some l → (results fn a.tmps).run P w = .ok (if h : (SV.denL ℓ l).toArray.size = 1 then (SV.denL ℓ l).toArray[0] else .tuple (SV.denL ℓ l).toArray) w := by
    intro l hl
    have h2 := (resS_sound (P := P) hT hI _ l hl).2
    rw [results_eq, Sem.run_bind, Array.mapM_eq_mapM_toList, Sem.run_map, h2]
    simp only [Result.andThen_ok, Sem.run_pure]
  split at h
  · rename_i s hs
    cases h
    have h1 := (resS_sound (P := P) hT hI _ _ hs).1
    refine ⟨by simpa [SV.wfL] using h1, ?_⟩
    rw [key _ hs]
    simp [SV.denL]
  · rename_i l hne hl
    cases h
    have h1 := (resS_sound (P := P) hT hI _ _ hl).1
    refine ⟨by simpa [SV.wf] using h1, ?_⟩
    rw [key _ hl]
    have : ¬ (SV.denL ℓ l).toArray.size = 1 := by
      simp only [List.size_toArray, SV.denL_length]
      intro h1
      obtain ⟨s, rfl⟩ := List.length_eq_one_iff.1 h1
      exact hne s rfl
    rw [dif_neg this]
    rfl
  · cases h

theorem argEnv_spec : ∀ (i : Nat) (args : List SV) (t : Nat) (s : SV), find (argEnv i args) t = some s → i ≤ t ∧ args[t - i]? = some s
  | i, [], t, s, h => by simp [argEnv, find] at h
  | i, s0 :: r, t, s, h => by
    simp only [argEnv, find] at h
    split at h
    · rename_i hn
      have hn := Nat.eq_of_beq_eq_true hn
      cases h
      subst hn
      simp
    · have := argEnv_spec (i + 1) r t s h
      refine ⟨by omega, ?_⟩
      obtain ⟨k, hk⟩ : ∃ k, t - i = k + 1 := ⟨t - i - 1, by omega⟩
      rw [hk, List.getElem?_cons_succ]
      have e : t - (i + 1) = k := by omega
      rw [← e]; exact this.2

end
end Go.Tr
