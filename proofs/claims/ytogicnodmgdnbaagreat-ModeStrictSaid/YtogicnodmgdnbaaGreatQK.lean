/- Merged texts: StD MoC MoD MoE Gt Gu G6 StE StF RowMS. Plain law: what mode.Strict returns; ModeFree answers true at every term and int. No program in sight. Plain law: the signs of implicit arguments, by mode and by trussref14. No program in sight. Plain law: the modes that are read. No program in sight. Plain law: ModeReads answers true at every signature and item whose lists are not too long. No program in sight. Fields of structs in a slice that the run has made and still may write; calls that make a list of ints while they read what grows. Conditions stand in each rule. A struct in a slice that the run has made and still may write is read. Conditions stand in the rule. ModeStrict with fuel, and its contract. Conditions stand in each. Plain law: the strict variables by trussref14 are those by mode; ModeStrict answers true at every term, int and mode. No program in sight. Plain law: Strict of trussref14 is that of mode; ModeStrict answers true at every term, int and mode. No program in sight. ModeStrict answers true at every input, and its arguments read as they did. No condition. -/
import Derived.Test.YtogicnodmgdnbaaGreatQJ
/-! StD -/
section
namespace Go.Proofs.YtogicnodmgdnbaaGreat
open Go.Tr Go
set_option linter.unusedVariables false
set_option linter.unusedSimpArgs false
set_option maxRecDepth 10000

theorem strict_ev (t : Tm) (fixed : Int) : Ev (fun q => mode_Strict q t fixed) (if isProper t = true ∧ 0 ≤ fixed ∧ fixed ≤ 30 then (strictL t fixed, 0) else ([], 2)) := by
  by_cases hc : isProper t = true ∧ 0 ≤ fixed ∧ fixed ≤ 30
  case neg =>
    rw [if_neg hc]
    refine Ev.succ (fun q => mode_Strict.eq_2 ..) (Ev.t ?_ (Ev.pure _))
    by_cases hp : isProper t = true
    · rw [if_pos hp]
      simp only [Bool.or_eq_true, decide_eq_true_eq, bne_iff_ne]
      by_cases h0 : 0 ≤ fixed
      · exact .inr (by have : ¬ fixed ≤ 30 := fun h => hc ⟨hp, h0, h⟩; omega)
      · exact .inl (.inr (by omega))
    · rw [if_neg hp]; rfl
  case pos =>
    rw [if_pos hc]
    obtain ⟨hp, hf0, hf1⟩ := hc
    obtain ⟨f, rfl⟩ : ∃ f : Nat, fixed = (f : Int) := ⟨fixed.toNat, by omega⟩
    obtain ⟨hok, hh, hcn⟩ := proper_small hp
    have hl := freeL_len hp
    have hfm := freeL_mem hp
    have hw : IntKind.i64.wrap ((f : Int) + ((List.map (D.int .i64) (freeL t)).length : Int)) = ((f + (freeL t).length : Nat) : Int) := by
      rw [List.length_map, wrap_i64 (by omega) (by omega)]; omega
    have hρ := rho_bound (fixed := (f : Int)) (l := freeL t) hf0 hf1 hl
    have hV := str_ren hρ (P := (· ∈ freeL t)) (opn := openF f) (opn' := openF f) (fun x y hx hy h => rho_inj x y hx hy h) (fun x hx => rho_open x hx) t 0 (by omega) (fun x hx => (hfm x).2 hx)
    have hVl := str_lengths (openF f) t 0
    have hVm : ∀ v ∈ strF (openF f) t 0, v ∈ freeL t ∧ v ≥ (f : Int) := by
      intro v hv
      obtain ⟨h1, h2⟩ := str_fv t 0 v hv
      exact ⟨(hfm v).2 h1, of_decide_eq_true h2⟩
    have hsm : Pr (renF (rho (f : Int) (freeL t)) t 0) := by
      rw [Pr, isProper_iff, ren_count, ren_height]
      exact ⟨ren_ok hρ t 0 (by omega) (by omega) hok, hcn, hh⟩
    generalize hN : f + (freeL t).length = N at hw
    have hfv : ∀ y ∈ fvF (renF (rho (f : Int) (freeL t)) t 0) 0, y < (N : Int) := by
      intro y hy
      rw [fv_ren hρ t 0 (by omega), List.mem_map] at hy
      obtain ⟨x, hx, rfl⟩ := hy
      have hx' := (hfm x).2 hx
      by_cases h : x ≥ (f : Int)
      · obtain ⟨k, e, hk⟩ := rho_mem hx' h
        have := (List.getElem?_eq_some_iff.1 hk).1
        omega
      · unfold rho; rw [if_pos (by omega)]; omega
    have hmap := map_ev (fixed := (f : Int)) (l := freeL t) ⟨hf0, hf1⟩ hl t 0 hp (by omega) (fun y hy => (hfm y).2 hy)
    have hsc := scopeStrict_ev (fillS_lv N f) (by rw [fillS_len]; omega) hsm (by rw [fillS_len]; exact hfv)
    rw [hV, List.map_map] at hsc
    generalize hVV : strF (openF f) t 0 = V at hV hVl hVm hsc
    have L2 : ∀ (ts pre : List Int), pre ++ ts = V → Ev (fun q => mode_Strict_L2 q (V.map (lvl (fillS N f N) ∘ rho (f : Int) (freeL t))) t (f : Int) pre (pre.length : Int)) (strictL t f, 0) := by
      intro ts
      induction ts with
      | nil =>
        intro pre h
        rw [List.append_nil] at h
        subst h
        refine Ev.succ (fun q => mode_Strict_L2.eq_2 ..) (Ev.f (by simp) (Ev.need (by rw [List.length_map]; exact decide_eq_true (by omega)) (Ev.need ?_ ((Ev.pure _).eq ?_))))
        · simp only [sorted, List.length_mergeSort]; exact decide_eq_true (by omega)
        · rw [compact_ddp, strictL, hVV]
      | cons v ts ih =>
        intro pre h
        have hpl : pre.length + ts.length + 1 = V.length := by rw [← h]; simp; omega
        obtain ⟨hv1, hv2⟩ := hVm v (by rw [← h]; simp)
        obtain ⟨k, e, hk⟩ := rho_mem hv1 hv2
        have hkl := (List.getElem?_eq_some_iff.1 hk).1
        have hg : idx (V.map (lvl (fillS N f N) ∘ rho (f : Int) (freeL t))) (pre.length : Int) = some ((N : Int) - 1 - ((f : Int) + k)) := by
          rw [idx_nat, List.getElem?_map, ← h, List.getElem?_append_right (Nat.le_refl _), Nat.sub_self]
          simp only [List.getElem?_cons_zero, Option.map_some, Function.comp, lvl, fillS_len, e]
        have hrec := ih (pre ++ [v]) (by rw [List.append_assoc]; exact h)
        refine Ev.succ (fun q => mode_Strict_L2.eq_2 ..) (Ev.t ?_ (Ev.some hg ?_))
        · rw [List.length_map, List.length_map]; exact decide_eq_true (by omega)
        · rw [hw, wrap_i64 (n := (N : Int) - 1) (by omega) (by omega), wrap_i64 (n := (N : Int) - 1 - ((N : Int) - 1 - ((f : Int) + k))) (by omega) (by omega), show (N : Int) - 1 - ((N : Int) - 1 - ((f : Int) + k)) - (f : Int) = (k : Int) by omega, wrap_i64 (n := (k : Int)) (by omega) (by omega)]
          refine Ev.some (idx_get hk) (Ev.need ?_ ?_)
          · rw [List.length_map, List.length_append]; simp; omega
          · rw [wrapS (by omega)]
            have e4 : pre.length + 1 = (pre ++ [v]).length := by simp
            rw [e4]
            exact hrec
    have L1 : ∀ (m k : Nat), k + m = N → Ev (fun q => mode_Strict_L1 q (f : Int) t (renF (rho (f : Int) (freeL t)) t 0) (fillS N f k) (k : Int)) (strictL t f, 0) := by
      intro m
      induction m with
      | zero =>
        intro k hk
        rw [Nat.add_zero] at hk
        subst hk
        refine Ev.succ (fun q => mode_Strict_L1.eq_2 ..) (Ev.f ?_ (hsc.bind (L2 V [] rfl)))
        rw [hw, Int.toNat_natCast, List.length_map, List.length_replicate]
        exact decide_eq_false (by omega)
      | succ m ih =>
        intro k hk
        refine Ev.succ (fun q => mode_Strict_L1.eq_2 ..) (Ev.t ?_ (Ev.need ?_ ?_))
        · rw [hw, Int.toNat_natCast, List.length_map, List.length_replicate]
          exact decide_eq_true (by omega)
        · rw [List.length_map, fillS_len, Int.toNat_natCast]; exact decide_eq_true ⟨by omega, by omega⟩
        · rw [hw, wrap_i64 (n := (N : Int) - 1) (by omega) (by omega), wrap_i64 (n := (N : Int) - 1 - k) (by omega) (by omega), Int.toNat_natCast, fillS_set N f k (by omega), wrapS (by omega)]
          exact ih (k + 1) (by omega)
    refine Ev.succ (fun q => mode_Strict.eq_2 ..) (Ev.f ?_ ?_)
    · rw [if_pos hp]
      rw [decide_eq_false (by omega), decide_eq_false (by omega)]; rfl
    · rw [hw]
      refine Ev.need (decide_eq_true ⟨by omega, by omega⟩) (hmap.bind ?_)
      rw [Int.toNat_natCast, ← fillS_0 N f]
      exact L1 N 0 (by omega)

theorem strictL_mem {t : Tm} {fixed : Int} (x : Int) : x ∈ strictL t fixed ↔ x ∈ strF (openF fixed) t 0 := by
  rw [strictL, ddp_mem, sorted_mem]
theorem strictL_lt (t : Tm) (fixed : Int) : (strictL t fixed).Pairwise (· < ·) := ddp_lt (sorted_le _)
theorem ddpA_len : ∀ (l : List Int) (x : Int), (ddpA x l).length ≤ l.length
  | [], x => by simp [ddpA]
  | y :: l, x => by
    simp only [ddpA]
    split
    · have := ddpA_len l x; simp; omega
    · have := ddpA_len l y; simp; omega
theorem strictL_len {t : Tm} (hp : Pr t) (fixed : Int) : (strictL t fixed).length ≤ 600 := by
  have h1 := str_lengths (openF fixed) t 0
  have h2 := (proper_small hp).2.2
  have h3 : ∀ l : List Int, (ddp l).length ≤ l.length := by
    intro l
    cases l with
    | nil => simp [ddp]
    | cons x l => have := ddpA_len l x; simp [ddp]; omega
  have h4 := h3 (sorted (strF (openF fixed) t 0))
  rw [strictL]
  simp only [sorted, List.length_mergeSort] at h4 ⊢
  omega

end Go.Proofs.YtogicnodmgdnbaaGreat
end

/-! MoC -/
section
namespace Go.Proofs.YtogicnodmgdnbaaGreat
open Go.Tr Go
set_option linter.unusedVariables false
set_option linter.unusedSimpArgs false
set_option maxRecDepth 10000

end Go.Proofs.YtogicnodmgdnbaaGreat
end

/-! MoD -/
section
namespace Go.Proofs.YtogicnodmgdnbaaGreat
open Go.Tr Go
set_option linter.unusedVariables false
set_option linter.unusedSimpArgs false
set_option maxRecDepth 10000

section
variable {d : Dc} {written : List Int} {imp : Nat} {fam : Int}
end
end Go.Proofs.YtogicnodmgdnbaaGreat
end

/-! MoE -/
section
namespace Go.Proofs.YtogicnodmgdnbaaGreat
open Go.Tr Go
set_option linter.unusedVariables false
set_option linter.unusedSimpArgs false
set_option maxRecDepth 10000

theorem same_evL (l : List Int) (hl : l.length ≤ 1000000) : ∀ (ts : List Int) (i : Nat), l.drop i = ts → i + ts.length = l.length → Ev (fun k => W14_ints_L1 k l l (i : Int)) true := by
  intro ts
  induction ts with
  | nil =>
    intro i hd hi
    simp only [List.length_nil, Nat.add_zero] at hi
    refine Ev.succ (fun k => W14_ints_L1.eq_2 ..) ?_
    exact Ev.f (by simp [hi]) (Ev.pure _)
  | cons u ts ih =>
    intro i hd hi
    simp only [List.length_cons] at hi
    have hu := getDrop hd
    refine Ev.succ (fun k => W14_ints_L1.eq_2 ..) ?_
    refine Ev.t (by simp; omega) (Ev.some (idx_get hu) (Ev.some (idx_get hu) (Ev.f (by simp) ?_)))
    rw [wrapS (by omega)]
    exact ih (i + 1) (dropDrop hd) (by omega)
/-- Both read the same. -/
def Jm (f g : Nat → Option (Md × Int)) : Prop := ∃ r, Ev f r ∧ Ev g r ∧ r.1.signs.length ≤ 1000000
theorem Jm.no (c : Int) : Jm (fun _ => some ((Md.mk 0 []), c)) (fun _ => some ((Md.mk 0 []), c)) := ⟨_, Ev.pure _, Ev.pure _, by simp⟩

end Go.Proofs.YtogicnodmgdnbaaGreat
end

/-! Gt -/
section
namespace Go.Tr
open Go
set_option linter.unusedSimpArgs false

theorem RepA.setOne {J : Nat → Prop} {w : World} {f f' : D} {u : Value} {post : List D} (hf : (D.one f).isSome = true) (hu : D.one f' = some u) : ∀ {pre : List D} {cs : List Value}, pre.all (fun p => (D.one p).isSome) = true → RepA J w (pre ++ f :: post) cs → pre.length < cs.length ∧ RepA J w (pre ++ f' :: post) (cs.set pre.length u)
  | [], cs, _, h => by
    simp only [List.nil_append, RepA] at h ⊢
    obtain ⟨x, y, rfl, h1, h2⟩ := h
    obtain ⟨v, hv⟩ := Option.isSome_iff_exists.1 hf
    rw [repC_one hv] at h1
    subst h1
    refine ⟨by simp, [u], y, rfl, (repC_one hu _).2 rfl, h2⟩
  | p :: pre, cs, hp, h => by
    simp only [List.all_cons, Bool.and_eq_true] at hp
    simp only [List.cons_append, RepA] at h ⊢
    obtain ⟨x, y, rfl, h1, h2⟩ := h
    obtain ⟨v, hv⟩ := Option.isSome_iff_exists.1 hp.1
    have h1' := (repC_one hv _).1 h1
    obtain ⟨i1, i2⟩ := RepA.setOne hf hu hp.2 h2
    subst h1'
    exact ⟨by simp at i1 ⊢; omega, [v], y.set pre.length u, by simp, h1, i2⟩

/-- The place of an element of a slice that may grow. -/
theorem at_index_accK {P : Program} {tt : Tab} (hT : TTOK P tt) {t e e' : TypeId} {k : Nat} {x ix : SV} {S : St} {K : SV → St → Prop} {a : Option Addr} {n c : Nat} {i : Int} {kk : IntKind} {ds : List D} {d : D} (j : Nat) (hx : x = .v (.slice a n c)) (hi : ix = .v (.int kk i)) (ht : tt t = some (.slice e k))
    (hacc : nth S.accs j = some ⟨.slice a n c, k, e', ds⟩) (h0 : 0 ≤ i) (hd : ds[i.toNat]? = some d) (h : ∀ b, a = some ⟨b, 0, none⟩ → K (.v (.pointer (some ⟨b, i.toNat * k, none⟩))) S) : AtPure P (fun ℓ => Instr.indexAt t (x.den ℓ) (ix.den ℓ)) S K := by
  have hlt : i.toNat < ds.length := (List.getElem?_eq_some_iff.1 hd).1
  constructor
  intro J ℓ w hG hJ
  have ha : S.accs[j]? = some ⟨.slice a n c, k, e', ds⟩ := by rw [← nth_eq]; exact hacc
  rcases hG.accs _ (List.mem_of_getElem? ha) with ⟨_, hd⟩ | ⟨b, cap, cc, hv, _, _, _, _⟩
  · simp only at hd; subst hd; simp at hlt
  simp only [Value.slice.injEq] at hv
  obtain ⟨rfl, rfl, rfl⟩ := hv
  exact (at_index_acc hT hx hi ht h0 (by omega) (h b rfl)).sem J ℓ w hG hJ

end Go.Tr
end

/-! Gu -/
section
namespace Go.Tr
open Go
set_option linter.unusedSimpArgs false

theorem at_load_accS {P : Program} {tt : Tab} (hT : TTOK P tt) {t e : TypeId} {x : SV} {S : St} {K : SV → St → Prop} {b n c i k o : Nat} {d : D} {ds : List D} {offs szs : List Nat} {zs : List Value} (j : Nat) (hacc : nth S.accs j = some ⟨.slice (some ⟨b, 0, none⟩) n c, k, e, ds⟩) (hd : ds[i]? = some d)
    (ht : tt t = some (.struct offs szs zs)) (hk : zs.length = k) (hx : x = .v (.pointer (some ⟨b, o, none⟩))) (ho : o = i * k) (h : openD d (fun cs rs => addReps S rs (fun S' => K (.agg cs) S'))) : AtSem P (fun ℓ => Instr.loadAt t (x.den ℓ)) S K := by
  subst hx hk ho
  constructor
  intro J ℓ w hG hJ
  have ha : S.accs[j]? = some ⟨.slice (some ⟨b, 0, none⟩) n c, zs.length, e, ds⟩ := by rw [← nth_eq]; exact hacc
  rcases hG.accs _ (List.mem_of_getElem? ha) with ⟨hv, _⟩ | ⟨b', cap, cc, hv, hb, _, _, hre⟩
  · cases hv
  simp only [Value.slice.injEq, Option.some.injEq, Addr.mk.injEq, and_true] at hv
  obtain ⟨⟨rfl, _⟩, _, _⟩ := hv
  obtain ⟨hl, hc⟩ := hre.get hd
  simp only at hl hc
  obtain ⟨svs, rs, e1, w1, p1, hk⟩ := openD_sound d _ _ hc h
  rw [addReps_eq] at hk
  obtain ⟨hagg, hsz, _, _⟩ := hT t _ ht
  have hlen : (SV.denL ℓ svs).length = zs.length := by
    rw [e1, List.length_take, List.length_drop]; omega
  have hrun := run_loadCells_list (P := P) w ⟨b, i * zs.length, none⟩ (SV.denL ℓ svs) (fun q v hq => by
    rw [e1] at hq
    have hq' : q < zs.length := by
      have := (List.getElem?_eq_some_iff.1 hq).1
      rw [List.length_take] at this
      omega
    rw [List.getElem?_take, if_pos hq', List.getElem?_drop] at hq
    have he : (Addr.add ⟨b, i * zs.length, none⟩ q) = ⟨b, i * zs.length + q, none⟩ := by
      unfold Addr.add; split
      · subst_vars; rfl
      · rfl
    rw [he]
    simp only [World.cell?, hb]
    simpa using hq)
  rw [hlen] at hrun
  refine ⟨.agg svs, ℓ, ⟨S.own, S.accs, S.reps ++ rs⟩, w, ?_, ?_, List.prefix_refl _, Ext.refl _ _, ⟨hG.len, hG.nodup, hG.lt, hG.memJ, hG.wf, hG.own, hG.accs, ?_⟩, fun _ hb => .inl hb, hk⟩
  · simp only [SV.den, Instr.loadAt, Instr.sureAddr, pure_bind, loadVar, Sem.run_bind, hagg, Result.andThen_ok, if_true, hsz, hrun, Sem.run_pure]
  · exact SV.wf_mono (Nat.zero_le _) _ (by simpa only [SV.wf] using w1)
  · intro p hp
    rcases List.mem_append.1 hp with h1 | h1
    · exact hG.reps p h1
    · exact p1 p h1
end Go.Tr
end

/-! G6 -/
section
namespace Go.Proofs.YtogicnodmgdnbaaGreat
open Go.Tr Go
set_option maxRecDepth 10000
set_option linter.unusedVariables false
set_option linter.unusedSimpArgs false

mutual
def mode_Inputs_2 : Nat → Md → (List Tm) → Option ((List Tm) × Int × (List Tm))
  | 0, _, _ => none
  | n + 1, v1, v3 =>
    cond (((List.map (D.int .i64) v1.signs).length : Int) != ((Tm.encL v3).length : Int)) (
    cond (decide (v3.length = v3.length)) (
    some ([], 2, v3)) none) (
    mode_Inputs_2_L1 n v3 v1 ([]) 0)
def mode_Inputs_2_L1 : Nat → (List Tm) → Md → (List Tm) → Int → Option ((List Tm) × Int × (List Tm))
  | 0, _, _, _, _ => none
  | n + 1, v3, v1, v26, v28 =>
    cond (decide (v28 < ((Tm.encL v3).length : Int))) (
    (idx v3 v28).bind (fun v30 =>
    (idx v1.signs v28).bind (fun v37 =>
    cond (v37 == 1) (
    (mode_copied n v30).bind (fun v42 =>
    cond (decide ((Tm.encL (v26 ++ [v42])).length ≤ 1000000)) (
    mode_Inputs_2_L1 n v3 v1 (v26 ++ [v42]) (IntKind.i64.wrap (v28 + 1))) none)) (
    mode_Inputs_2_L1 n v3 v1 v26 (IntKind.i64.wrap (v28 + 1)))))) (
    cond (decide (v3.length = v3.length)) (
    some (v26, 0, v3)) none)
 end
theorem mode_Inputs_2_spec (n : Nat) (v1 : Md) (v3 : (List Tm)) (a2 : Option Addr) (c2 : Nat) (a4 : Option Addr) (c4 : Nat) (r : (List Tm) × Int × (List Tm)) (hr : mode_Inputs_2 n v1 v3 = some r) : Meets Tryz.prog (.val (.fn (.func 29) [] [])) [(.agg [(.v (.int .i64 v1.family)), (.v (.slice a2 ((List.map (D.int .i64) v1.signs).length) c2))]), (.v (.slice a4 ((Tm.encL v3).length) c4))] ⟨[], [⟨.slice a4 ((Tm.encL v3).length) c4, 4, 47, (Tm.encL v3)⟩], [(.slice a2 ((List.map (D.int .i64) v1.signs).length) c2, .sl 1 (List.map (D.int .i64) v1.signs))]⟩ (fun o S' => ∃ (b1 : Option Addr) (d1 : Nat), r.2.2.length = v3.length ∧ o = .ret (.tup [(.v (.slice b1 ((Tm.encL r.1).length) d1)), (.v (.int .i64 r.2.1))]) ∧ S' = ⟨[], [⟨.slice a4 ((Tm.encL r.2.2).length) c4, 4, 47, (Tm.encL r.2.2)⟩], [(.slice b1 ((Tm.encL r.1).length) d1, .sl 4 (Tm.encL r.1))]⟩) := by
  rcases n with _ | n
  · exact no_some hr
  rw [mode_Inputs_2.eq_2] at hr
  refine spec_of_body (N := 35) (m := 0) (dt := fun _ => none) [] ttOK Tryz.func29 rfl Tryz.call29 Tryz.ntmps29 rfl rfl rfl mixed (by kernel_rfl) ?_
  refine AtIf.mk (fun h5 => ?_) (fun h5 => ?_)
  · replace hr := cond_t h5 hr
    obtain ⟨h6, hr⟩ := cond_need hr
    replace hr := Option.some.inj hr
    subst hr
    exact AtRet.gen ⟨[], [⟨.slice a4 ((Tm.encL v3).length) c4, 4, 47, (Tm.encL v3)⟩], [(.slice none 0 0, .sl 4 [])]⟩ (StLe.gen 0 [.old 0] [.nil 4] rfl rfl rfl rfl rfl rfl rfl) rfl rfl ⟨none, 0, of_decide_eq_true h6, rfl, rfl⟩
  · replace hr := cond_f h5 hr
    refine AtLoop.mk ⟨Nat × (List Tm) × Option Addr × Nat × Int, fun x => [(2, (.loc 0 0)), (6, (.v (.slice x.2.2.1 ((Tm.encL x.2.1).length) x.2.2.2.1))), (15, (.v (.slice a4 ((Tm.encL v3).length) c4))), (16, (.v (.int .i64 ((Tm.encL v3).length : Int)))), (17, (.v (.int .i64 x.2.2.2.2)))], fun x => ⟨[.cells 31 [(.v (.int .i64 v1.family)), (.v (.slice a2 ((List.map (D.int .i64) v1.signs).length) c2))]], [⟨.slice x.2.2.1 ((Tm.encL x.2.1).length) x.2.2.2.1, 4, 47, (Tm.encL x.2.1)⟩, ⟨.slice a4 ((Tm.encL v3).length) c4, 4, 47, (Tm.encL v3)⟩], [(.slice a2 ((List.map (D.int .i64) v1.signs).length) c2, .sl 1 (List.map (D.int .i64) v1.signs))]⟩, fun x => mode_Inputs_2_L1 x.1 v3 v1 x.2.1 x.2.2.2.2 = some r, fun x => x.1, (n, [], none, 0, 0), hr, ⟨rfl, rfl, rfl, rfl, rfl, trivial⟩, (StLe.gen 1 [.nil 4 47, .old 0] [.old 0] rfl rfl rfl rfl rfl rfl rfl), fun x _ => ⟨rfl, rfl⟩, ?_⟩
    rintro ⟨n, v26, a27, c27, v28⟩ HH
    have hr : mode_Inputs_2_L1 n v3 v1 v26 v28 = some r := HH
    rcases n with _ | n
    · exact no_some hr
    rw [mode_Inputs_2_L1.eq_2] at hr
    refine AtIf.mk (fun h29 => ?_) (fun h29 => ?_)
    · replace hr := cond_t h29 hr
      obtain ⟨v30, h31, hr⟩ := bind_some hr
      obtain ⟨h32, h33⟩ := idx_some h31
      refine at_index_accK ttOK 1 rfl rfl rfl rfl h32 (Tm.encL_get h33) ?_
      intro b34 h35
      subst h35
      refine at_load_accS ttOK 1 rfl (Tm.encL_get h33) rfl rfl rfl rfl ?_
      intro a36 c36 _ _
      obtain ⟨v37, h38, hr⟩ := bind_some hr
      obtain ⟨h39, h40⟩ := idx_some h38
      refine at_index ttOK 0 rfl rfl rfl rfl h39 (map_get (D.int .i64) h40) ?_
      refine AtIf.mk (fun h41 => ?_) (fun h41 => ?_)
      · replace hr := cond_t h41 hr
        obtain ⟨v42, h43, hr⟩ := bind_some hr
        refine (mode_copied_spec n v30 a36 c36 _ h43).atR [1] rfl rfl rfl ?_
        rintro _ _ ⟨a44, c44, rfl, rfl⟩
        refine at_buildG (n := 1) ttOK 48 [.agg [.int .i64 v42.op, .int .i64 v42.hd, .int .i64 v42.n, .sl 4 (Tm.encL v42.args)]] (ds' := (Tm.encL ([v42]))) rfl (by kernel_rfl) ⟨⟨rfl, rfl, rfl, ⟨[(.v (.int .i64 v42.op))], _, rfl, rfl, ⟨[(.v (.int .i64 v42.hd))], _, rfl, rfl, ⟨[(.v (.int .i64 v42.n))], _, rfl, rfl, ⟨[(.v (.slice a44 ((Tm.encL v42.args).length) c44))], _, rfl, (.inl ⟨_, rfl, nth_mem (j := 2) rfl⟩), rfl⟩⟩⟩⟩⟩, trivial⟩ rfl (by simp only [Tm.encL_eq, List.map_cons, List.map_nil, Tm.enc_eq] <;> rfl) (by decide) (by decide) ?_
        intro a45
        obtain ⟨h46, hr⟩ := cond_need hr
        refine at_appendG (ds' := (Tm.encL (v26 ++ [v42]))) ttOK 48 0 3 rfl (by kernel_rfl) rfl rfl rfl rfl (by simp only [Tm.encL_eq, List.map_append]) h46 (by decide) ?_
        intro a47 c47
        exact ⟨(n, (v26 ++ [v42]), a47, c47, (IntKind.i64.wrap (v28 + 1))), hr, Nat.lt_succ_self _, ⟨rfl, rfl, rfl, rfl, rfl, trivial⟩, (StLe.gen 1 [.old 0, .old 1] [.old 0] rfl rfl rfl rfl rfl rfl rfl)⟩
      · replace hr := cond_f h41 hr
        exact ⟨(n, v26, a27, c27, (IntKind.i64.wrap (v28 + 1))), hr, Nat.lt_succ_self _, ⟨rfl, rfl, rfl, rfl, rfl, trivial⟩, (StLe.gen 1 [.old 0, .old 1] [.old 0] rfl rfl rfl rfl rfl rfl rfl)⟩
    · replace hr := cond_f h29 hr
      obtain ⟨h48, hr⟩ := cond_need hr
      replace hr := Option.some.inj hr
      subst hr
      exact AtRet.gen ⟨[], [⟨.slice a4 ((Tm.encL v3).length) c4, 4, 47, (Tm.encL v3)⟩], [(.slice a27 ((Tm.encL v26).length) c27, .sl 4 (Tm.encL v26))]⟩ (StLe.gen 0 [.old 1] [.froz 0] rfl rfl rfl rfl rfl rfl rfl) rfl rfl ⟨a27, c27, of_decide_eq_true h48, rfl, rfl⟩
mutual
def R03_SameAll : Nat → (List Tm) → (List Tm) → Option (Bool)
  | 0, _, _ => none
  | n + 1, v1, v3 =>
    cond (((Tm.encL v1).length : Int) != ((Tm.encL v3).length : Int)) (
    some (false)) (
    R03_SameAll_L1 n v1 v3 0)
def R03_SameAll_L1 : Nat → (List Tm) → (List Tm) → Int → Option (Bool)
  | 0, _, _, _ => none
  | n + 1, v1, v3, v18 =>
    cond (decide (v18 < ((Tm.encL v1).length : Int))) (
    (idx v1 v18).bind (fun v20 =>
    (idx v3 v18).bind (fun v25 =>
    cond (!(sameF v20 v25)) (
    some (false)) (
    R03_SameAll_L1 n v1 v3 (IntKind.i64.wrap (v18 + 1)))))) (
    some (true))
 end
theorem R03_SameAll_spec (n : Nat) (v1 : (List Tm)) (v3 : (List Tm)) (a2 : Option Addr) (c2 : Nat) (a4 : Option Addr) (c4 : Nat) (r : Bool) (hr : R03_SameAll n v1 v3 = some r) : Pure Tryz.prog (.val (.fn (.func 30) [] [])) [(.v (.slice a2 ((Tm.encL v1).length) c2)), (.v (.slice a4 ((Tm.encL v3).length) c4))] [(.slice a2 ((Tm.encL v1).length) c2, .sl 4 (Tm.encL v1)), (.slice a4 ((Tm.encL v3).length) c4, .sl 4 (Tm.encL v3))] (fun r' out => r' = (.v (.bool r)) ∧ out = []) := by
  rcases n with _ | n
  · exact no_some hr
  rw [R03_SameAll.eq_2] at hr
  refine spec_of_body (N := 27) (m := 0) (dt := drawsOf [(6, .node [0, 1, 2, 3, 4, 5, 6, 7] [(8, .leaf [9])], [8], [])]) [] ttOK Tryz.func30 rfl Tryz.call30 Tryz.ntmps30 rfl rfl rfl mixed (by kernel_rfl) ?_
  refine AtIf.mk (fun h5 => ?_) (fun h5 => ?_)
  · replace hr := cond_t h5 hr
    replace hr := Option.some.inj hr
    subst hr
    exact AtRet.pureG [] [] rfl rfl ⟨rfl, rfl⟩
  · replace hr := cond_f h5 hr
    refine AtLoop.mk ⟨Nat × Int, fun x => [(0, (.v (.slice a2 ((Tm.encL v1).length) c2))), (1, (.v (.slice a4 ((Tm.encL v3).length) c4))), (5, (.v (.int .i64 x.2)))], fun x => ⟨[], [], [(.slice a2 ((Tm.encL v1).length) c2, .sl 4 (Tm.encL v1)), (.slice a4 ((Tm.encL v3).length) c4, .sl 4 (Tm.encL v3))]⟩, fun x => R03_SameAll_L1 x.1 v1 v3 x.2 = some r, fun x => x.1, (n, 0), hr, ⟨rfl, rfl, rfl, trivial⟩, (StLe.gen 0 [] [.old 0, .old 1] rfl rfl rfl rfl rfl rfl rfl), fun x _ => ⟨rfl, rfl⟩, ?_⟩
    rintro ⟨n, v18⟩ HH
    have hr : R03_SameAll_L1 n v1 v3 v18 = some r := HH
    rcases n with _ | n
    · exact no_some hr
    rw [R03_SameAll_L1.eq_2] at hr
    refine AtIf.mk (fun h19 => ?_) (fun h19 => ?_)
    · replace hr := cond_t h19 hr
      obtain ⟨v20, h21, hr⟩ := bind_some hr
      obtain ⟨h22, h23⟩ := idx_some h21
      refine at_index ttOK 0 rfl rfl rfl rfl h22 (Tm.encL_get h23) ?_
      intro a24 c24 _ _
      obtain ⟨v25, h26, hr⟩ := bind_some hr
      obtain ⟨h27, h28⟩ := idx_some h26
      refine at_index ttOK 1 rfl rfl rfl rfl h27 (Tm.encL_get h28) ?_
      intro a29 c29 _ _
      refine (refSame_spec v20 v25 a24 a29 c24 c29).atR [2, 3] rfl rfl rfl ?_
      rintro _ _ ⟨rfl, rfl⟩
      refine AtIf.mk (fun h30 => ?_) (fun h30 => ?_)
      · replace hr := cond_t h30 hr
        replace hr := Option.some.inj hr
        subst hr
        exact AtRet.pureG [] [] rfl rfl ⟨rfl, rfl⟩
      · replace hr := cond_f h30 hr
        exact ⟨(n, (IntKind.i64.wrap (v18 + 1))), hr, Nat.lt_succ_self _, ⟨rfl, rfl, rfl, trivial⟩, (StLe.gen 0 [] [.old 0, .old 1] rfl rfl rfl rfl rfl rfl rfl)⟩
    · replace hr := cond_f h19 hr
      replace hr := Option.some.inj hr
      subst hr
      exact AtRet.pureG [] [] rfl rfl ⟨rfl, rfl⟩
mutual
def W14_ModeStrict : Nat → Tm → Int → Md → Option (Bool)
  | 0, _, _, _ => none
  | n + 1, v1, v3, v4 =>
    (mode_Strict n v1 v3).bind (fun v6 =>
    cond (((!(refProper v1)) || (decide (v3 < 0))) || (decide (v3 > 30))) (
    cond ((((List.map (D.int .i64) v6.1).length : Int) == 0) && (v6.2 == 2)) (
    (W14_awake n ).bind (fun v11 =>
    some (v11))) (
    some (false))) (
    cond (v6.2 != 0) (
    some (false)) (
    (R14_Strict n v1 v3).bind (fun v14 =>
    (W14_ints n v6.1 v14).bind (fun v17 =>
    cond (!v17) (
    some (false)) (
    cond (decide ((0 : Int) ≤ (0 : Int) ∧ (0 : Int) ≤ (if 60 < ((List.map (D.int .i64) v4.signs).length : Int) then 60 else ((List.map (D.int .i64) v4.signs).length : Int)) ∧ (if 60 < ((List.map (D.int .i64) v4.signs).length : Int) then 60 else ((List.map (D.int .i64) v4.signs).length : Int)) ≤ ((List.map (D.int .i64) v4.signs).length : Int))) (
    W14_ModeStrict_L1 n v4 v1 ([]) ([]) 0) none))))))
def W14_ModeStrict_L1 : Nat → Md → Tm → (List Tm) → (List Tm) → Int → Option (Bool)
  | 0, _, _, _, _, _ => none
  | n + 1, v4, v1, v44, v46, v48 =>
    cond (decide (v48 < ((List.map (D.int .i64) (v4.signs.take (if 60 < ((List.map (D.int .i64) v4.signs).length : Int) then 60 else ((List.map (D.int .i64) v4.signs).length : Int)).toNat)).length : Int))) (
    (R03_App n 1 v48 ([])).bind (fun v50 =>
    cond (decide ((Tm.encL (v44 ++ [v50])).length ≤ 1000000)) (
    (idx (v4.signs.take (if 60 < ((List.map (D.int .i64) v4.signs).length : Int) then 60 else ((List.map (D.int .i64) v4.signs).length : Int)).toNat) v48).bind (fun v56 =>
    cond (v56 == 1) (
    (idx (v44 ++ [v50]) v48).bind (fun v61 =>
    cond (decide ((Tm.encL (v46 ++ [v61])).length ≤ 1000000)) (
    W14_ModeStrict_L1 n v4 v1 (v44 ++ [v50]) (v46 ++ [v61]) (IntKind.i64.wrap (v48 + 1))) none)) (
    W14_ModeStrict_L1 n v4 v1 (v44 ++ [v50]) v46 (IntKind.i64.wrap (v48 + 1))))) none)) (
    (mode_Inputs_2 n (Md.mk v4.family (v4.signs.take (if 60 < ((List.map (D.int .i64) v4.signs).length : Int) then 60 else ((List.map (D.int .i64) v4.signs).length : Int)).toNat)) v44).bind (fun v71 =>
    cond (decide ((Tm.encL (v71.2.2 ++ [v1])).length ≤ 1000000)) (
    (mode_Inputs_2 n (Md.mk v4.family (v4.signs.take (if 60 < ((List.map (D.int .i64) v4.signs).length : Int) then 60 else ((List.map (D.int .i64) v4.signs).length : Int)).toNat)) (v71.2.2 ++ [v1])).bind (fun v80 =>
    cond (v71.2.1 == 0) (
    (R03_SameAll n v71.1 v46).bind (fun v87 =>
    cond (v87 && (v80.2.1 == 2)) (
    (W14_awake n ).bind (fun v90 =>
    some (v90))) (
    some (false)))) (
    some (false)))) none))
 end
theorem W14_ModeStrict_spec (n : Nat) (v1 : Tm) (v3 : Int) (v4 : Md) (a2 : Option Addr) (c2 : Nat) (a5 : Option Addr) (c5 : Nat) (r : Bool) (hr : W14_ModeStrict n v1 v3 v4 = some r) : Pure Tryz.prog (.val (.fn (.func 7) [] [])) [(.agg [(.v (.int .i64 v1.op)), (.v (.int .i64 v1.hd)), (.v (.int .i64 v1.n)), (.v (.slice a2 ((Tm.encL v1.args).length) c2))]), (.v (.int .i64 v3)), (.agg [(.v (.int .i64 v4.family)), (.v (.slice a5 ((List.map (D.int .i64) v4.signs).length) c5))])] [(.slice a2 ((Tm.encL v1.args).length) c2, .sl 4 (Tm.encL v1.args)), (.slice a5 ((List.map (D.int .i64) v4.signs).length) c5, .sl 1 (List.map (D.int .i64) v4.signs))] (fun r' out => r' = (.v (.bool r)) ∧ out = []) := by
  rcases n with _ | n
  · exact no_some hr
  rw [W14_ModeStrict.eq_2] at hr
  refine spec_of_body (N := 119) (m := 0) (dt := drawsOf [(15, .node [0, 1, 2, 3, 4, 5] [(6, .node [] [(7, .node [] [(8, .leaf [9, 10, 11, 12, 13])])])], [8], [])]) [] ttOK Tryz.func7 rfl Tryz.call7 Tryz.ntmps7 rfl rfl rfl mixed (by kernel_rfl) ?_
  obtain ⟨v6, h7, hr⟩ := bind_some hr
  refine (mode_Strict_spec n v1 v3 a2 c2 _ h7).atR [0] rfl rfl rfl ?_
  rintro _ _ ⟨a8, c8, rfl, rfl⟩
  refine (refProper_spec v1 a2 c2).atR [0] rfl rfl rfl ?_
  rintro _ _ ⟨rfl, rfl⟩
  refine AtIf.mk (fun h9 => ?_) (fun h9 => ?_)
  · replace hr := cond_t h9 hr
    refine AtGuard.mk (fun h10 => ?_) (fun h10 => ?_)
    · replace hr := cond_t h10 hr
      obtain ⟨v11, h12, hr⟩ := bind_some hr
      refine (W14_awake_spec n  _ h12).atR [] rfl rfl rfl ?_
      rintro _ _ ⟨rfl, rfl⟩
      replace hr := Option.some.inj hr
      subst hr
      exact AtRet.pureG [] [] rfl rfl ⟨rfl, rfl⟩
    · replace hr := cond_f h10 hr
      replace hr := Option.some.inj hr
      subst hr
      exact AtRet.pureG [] [] rfl rfl ⟨rfl, rfl⟩
  · replace hr := cond_f h9 hr
    refine AtGuard.mk (fun h13 => ?_) (fun h13 => ?_)
    · replace hr := cond_f h13 hr
      obtain ⟨v14, h15, hr⟩ := bind_some hr
      refine (R14_Strict_spec n v1 v3 a2 c2 _ h15).atR [0] rfl rfl rfl ?_
      rintro _ _ ⟨a16, c16, rfl, rfl⟩
      obtain ⟨v17, h18, hr⟩ := bind_some hr
      refine (W14_ints_spec n v6.1 v14 a8 c8 a16 c16 _ h18).atR [2, 3] rfl rfl rfl ?_
      rintro _ _ ⟨rfl, rfl⟩
      refine AtIf.mk (fun h19 => ?_) (fun h19 => ?_)
      · replace hr := cond_t h19 hr
        replace hr := Option.some.inj hr
        subst hr
        exact AtRet.pureG [] [] rfl rfl ⟨rfl, rfl⟩
      · replace hr := cond_f h19 hr
        refine at_min ?_
        obtain ⟨h20, hr⟩ := cond_need hr
        refine at_sliceG ttOK 1 0 (if 60 < ((List.map (D.int .i64) v4.signs).length : Int) then 60 else ((List.map (D.int .i64) v4.signs).length : Int)) (ds' := (List.map (D.int .i64) (v4.signs.take (if 60 < ((List.map (D.int .i64) v4.signs).length : Int) then 60 else ((List.map (D.int .i64) v4.signs).length : Int)).toNat))) rfl rfl rfl (.inr ⟨rfl, rfl⟩) (.inl ⟨_, rfl⟩) h20 (sl_h ..) ?_
        intro a21 c21
        refine AtLoop.mk ⟨Nat × (List Tm) × Option Addr × Nat × (List Tm) × Option Addr × Nat × Int, fun x => [(3, (.loc 0 0)), (5, (.loc 1 0)), (9, (.v (.slice a21 ((List.map (D.int .i64) (v4.signs.take (if 60 < ((List.map (D.int .i64) v4.signs).length : Int) then 60 else ((List.map (D.int .i64) v4.signs).length : Int)).toNat)).length) c21))), (10, (.v (.slice x.2.2.1 ((Tm.encL x.2.1).length) x.2.2.2.1))), (11, (.v (.slice x.2.2.2.2.2.1 ((Tm.encL x.2.2.2.2.1).length) x.2.2.2.2.2.2.1))), (12, (.v (.int .i64 x.2.2.2.2.2.2.2)))], fun x => ⟨[.cells 47 [(.v (.int .i64 v1.op)), (.v (.int .i64 v1.hd)), (.v (.int .i64 v1.n)), (.v (.slice a2 ((Tm.encL v1.args).length) c2))], .cells 31 [(.v (.int .i64 v4.family)), (.v (.slice a5 ((List.map (D.int .i64) v4.signs).length) c5))]], [⟨.slice x.2.2.1 ((Tm.encL x.2.1).length) x.2.2.2.1, 4, 47, (Tm.encL x.2.1)⟩, ⟨.slice x.2.2.2.2.2.1 ((Tm.encL x.2.2.2.2.1).length) x.2.2.2.2.2.2.1, 4, 47, (Tm.encL x.2.2.2.2.1)⟩], [(.slice a2 ((Tm.encL v1.args).length) c2, .sl 4 (Tm.encL v1.args)), (.slice a5 ((List.map (D.int .i64) v4.signs).length) c5, .sl 1 (List.map (D.int .i64) v4.signs)), (.slice a8 ((List.map (D.int .i64) v6.1).length) c8, .sl 1 (List.map (D.int .i64) v6.1)), (.slice a16 ((List.map (D.int .i64) v14).length) c16, .sl 1 (List.map (D.int .i64) v14)), (.slice a21 ((List.map (D.int .i64) (v4.signs.take (if 60 < ((List.map (D.int .i64) v4.signs).length : Int) then 60 else ((List.map (D.int .i64) v4.signs).length : Int)).toNat)).length) c21, .sl 1 (List.map (D.int .i64) (v4.signs.take (if 60 < ((List.map (D.int .i64) v4.signs).length : Int) then 60 else ((List.map (D.int .i64) v4.signs).length : Int)).toNat)))]⟩, fun x => W14_ModeStrict_L1 x.1 v4 v1 x.2.1 x.2.2.2.2.1 x.2.2.2.2.2.2.2 = some r, fun x => x.1, (n, [], none, 0, [], none, 0, 0), hr, ⟨rfl, rfl, rfl, rfl, rfl, rfl, trivial⟩, (StLe.gen 2 [.nil 4 47, .nil 4 47] [.old 0, .old 1, .old 2, .old 3, .old 4] rfl rfl rfl rfl rfl rfl rfl), fun x _ => ⟨rfl, rfl⟩, ?_⟩
        rintro ⟨n, v44, a45, c45, v46, a47, c47, v48⟩ HH
        have hr : W14_ModeStrict_L1 n v4 v1 v44 v46 v48 = some r := HH
        rcases n with _ | n
        · exact no_some hr
        rw [W14_ModeStrict_L1.eq_2] at hr
        refine AtIf.mk (fun h49 => ?_) (fun h49 => ?_)
        · replace hr := cond_t h49 hr
          obtain ⟨v50, h51, hr⟩ := bind_some hr
          refine Meets.nilRep 4 ?_
          refine (R03_App_spec n 1 v48 ([]) none 0 _ h51).atR [0] rfl rfl rfl ?_
          rintro _ _ ⟨a52, c52, rfl, rfl⟩
          refine at_buildG (n := 1) ttOK 48 [.agg [.int .i64 v50.op, .int .i64 v50.hd, .int .i64 v50.n, .sl 4 (Tm.encL v50.args)]] (ds' := (Tm.encL ([v50]))) rfl (by kernel_rfl) ⟨⟨rfl, rfl, rfl, ⟨[(.v (.int .i64 v50.op))], _, rfl, rfl, ⟨[(.v (.int .i64 v50.hd))], _, rfl, rfl, ⟨[(.v (.int .i64 v50.n))], _, rfl, rfl, ⟨[(.v (.slice a52 ((Tm.encL v50.args).length) c52))], _, rfl, (.inl ⟨_, rfl, nth_mem (j := 6) rfl⟩), rfl⟩⟩⟩⟩⟩, trivial⟩ rfl (by simp only [Tm.encL_eq, List.map_cons, List.map_nil, Tm.enc_eq] <;> rfl) (by decide) (by decide) ?_
          intro a53
          obtain ⟨h54, hr⟩ := cond_need hr
          refine at_appendG (ds' := (Tm.encL (v44 ++ [v50]))) ttOK 48 0 7 rfl (by kernel_rfl) rfl rfl rfl rfl (by simp only [Tm.encL_eq, List.map_append]) h54 (by decide) ?_
          intro a55 c55
          obtain ⟨v56, h57, hr⟩ := bind_some hr
          obtain ⟨h58, h59⟩ := idx_some h57
          refine at_index ttOK 5 rfl rfl rfl rfl h58 (map_get (D.int .i64) h59) ?_
          refine AtIf.mk (fun h60 => ?_) (fun h60 => ?_)
          · replace hr := cond_t h60 hr
            obtain ⟨v61, h62, hr⟩ := bind_some hr
            obtain ⟨h63, h64⟩ := idx_some h62
            refine at_index_accK ttOK 0 rfl rfl rfl rfl h63 (Tm.encL_get h64) ?_
            intro b65 h66
            subst h66
            refine at_load_accS ttOK 0 rfl (Tm.encL_get h64) rfl rfl rfl rfl ?_
            intro a67 c67 _ _
            refine at_buildG (n := 1) ttOK 48 [.agg [.int .i64 v61.op, .int .i64 v61.hd, .int .i64 v61.n, .sl 4 (Tm.encL v61.args)]] (ds' := (Tm.encL ([v61]))) rfl (by kernel_rfl) ⟨⟨rfl, rfl, rfl, ⟨[(.v (.int .i64 v61.op))], _, rfl, rfl, ⟨[(.v (.int .i64 v61.hd))], _, rfl, rfl, ⟨[(.v (.int .i64 v61.n))], _, rfl, rfl, ⟨[(.v (.slice a67 ((Tm.encL v61.args).length) c67))], _, rfl, (.inl ⟨_, rfl, nth_mem (j := 8) rfl⟩), rfl⟩⟩⟩⟩⟩, trivial⟩ rfl (by simp only [Tm.encL_eq, List.map_cons, List.map_nil, Tm.enc_eq] <;> rfl) (by decide) (by decide) ?_
            intro a68
            obtain ⟨h69, hr⟩ := cond_need hr
            refine at_appendG (ds' := (Tm.encL (v46 ++ [v61]))) ttOK 48 1 9 rfl (by kernel_rfl) rfl rfl rfl rfl (by simp only [Tm.encL_eq, List.map_append]) h69 (by decide) ?_
            intro a70 c70
            exact ⟨(n, (v44 ++ [v50]), (some ⟨b65, 0, none⟩), c55, (v46 ++ [v61]), a70, c70, (IntKind.i64.wrap (v48 + 1))), hr, Nat.lt_succ_self _, ⟨rfl, rfl, rfl, rfl, rfl, rfl, trivial⟩, (StLe.gen 2 [.old 0, .old 1] [.old 1, .old 2, .old 3, .old 4, .old 5] rfl rfl rfl rfl rfl rfl rfl)⟩
          · replace hr := cond_f h60 hr
            exact ⟨(n, (v44 ++ [v50]), a55, c55, v46, a47, c47, (IntKind.i64.wrap (v48 + 1))), hr, Nat.lt_succ_self _, ⟨rfl, rfl, rfl, rfl, rfl, rfl, trivial⟩, (StLe.gen 2 [.old 0, .old 1] [.old 1, .old 2, .old 3, .old 4, .old 5] rfl rfl rfl rfl rfl rfl rfl)⟩
        · replace hr := cond_f h49 hr
          obtain ⟨v71, h72, hr⟩ := bind_some hr
          refine (mode_Inputs_2_spec n (Md.mk v4.family (v4.signs.take (if 60 < ((List.map (D.int .i64) v4.signs).length : Int) then 60 else ((List.map (D.int .i64) v4.signs).length : Int)).toNat)) v44 a21 c21 a45 c45 _ h72).frameRA [] [0] [4] rfl rfl rfl rfl rfl rfl rfl rfl rfl ?_
          rintro _ _ ⟨a74, c74, h73, rfl, rfl⟩
          refine ⟨rfl, [], rfl, ?_⟩
          try dsimp only
          rw [show (Tm.encL v71.2.2).length = (Tm.encL v44).length by simp [h73, Tm.encL_length]]
          obtain ⟨m75, h76⟩ : ∃ m75, m75 = (Tm.encL v44).length := ⟨_, rfl⟩
          rw [← h76]
          refine at_buildG (n := 1) ttOK 48 [.agg [.int .i64 v1.op, .int .i64 v1.hd, .int .i64 v1.n, .sl 4 (Tm.encL v1.args)]] (ds' := (Tm.encL ([v1]))) rfl (by kernel_rfl) ⟨⟨rfl, rfl, rfl, ⟨[(.v (.int .i64 v1.op))], _, rfl, rfl, ⟨[(.v (.int .i64 v1.hd))], _, rfl, rfl, ⟨[(.v (.int .i64 v1.n))], _, rfl, rfl, ⟨[(.v (.slice a2 ((Tm.encL v1.args).length) c2))], _, rfl, (.inl ⟨_, rfl, nth_mem (j := 0) rfl⟩), rfl⟩⟩⟩⟩⟩, trivial⟩ rfl (by simp only [Tm.encL_eq, List.map_cons, List.map_nil, Tm.enc_eq] <;> rfl) (by decide) (by decide) ?_
          intro a77
          refine ⟨fun _ _ h => h, ?_⟩
          obtain ⟨h78, hr⟩ := cond_need hr
          refine at_appendG (ds' := (Tm.encL (v71.2.2 ++ [v1]))) ttOK 48 0 6 rfl (by kernel_rfl) rfl rfl rfl rfl (by simp only [Tm.encL_eq, List.map_append]) h78 (by decide) ?_
          intro a79 c79
          refine ⟨fun _ _ h => h, ?_⟩
          obtain ⟨v80, h81, hr⟩ := bind_some hr
          obtain rfl : m75 = (Tm.encL v71.2.2).length := by rw [h76]; simp [Tm.encL_length, h73]
          refine (mode_Inputs_2_spec n (Md.mk v4.family (v4.signs.take (if 60 < ((List.map (D.int .i64) v4.signs).length : Int) then 60 else ((List.map (D.int .i64) v4.signs).length : Int)).toNat)) (v71.2.2 ++ [v1]) a21 c21 a79 c79 _ h81).frameRA [] [0] [4] rfl rfl rfl rfl rfl rfl rfl rfl rfl ?_
          rintro _ _ ⟨a83, c83, h82, rfl, rfl⟩
          refine ⟨rfl, [], rfl, ?_⟩
          try dsimp only
          rw [show (Tm.encL v80.2.2).length = (Tm.encL (v71.2.2 ++ [v1])).length by simp [h82, Tm.encL_length]]
          obtain ⟨m84, h85⟩ : ∃ m84, m84 = (Tm.encL (v71.2.2 ++ [v1])).length := ⟨_, rfl⟩
          rw [← h85]
          refine AtGuard.mk (fun h86 => ?_) (fun h86 => ?_)
          · replace hr := cond_t h86 hr
            obtain ⟨v87, h88, hr⟩ := bind_some hr
            obtain rfl : m84 = (Tm.encL v80.2.2).length := by rw [h85]; simp [Tm.encL_length, h82]
            refine (R03_SameAll_spec n v71.1 v46 a74 c74 a47 c47 _ h88).atB [.old 5, .froz 1] rfl rfl rfl ?_
            rintro _ _ ⟨rfl, rfl⟩
            refine ⟨rfl, ?_⟩
            refine AtGuard.mk (fun h89 => ?_) (fun h89 => ?_)
            · replace hr := cond_t h89 hr
              obtain ⟨v90, h91, hr⟩ := bind_some hr
              refine (W14_awake_spec n  _ h91).atR [] rfl rfl rfl ?_
              rintro _ _ ⟨rfl, rfl⟩
              replace hr := Option.some.inj hr
              subst hr
              exact AtRet.pureG [] [] rfl rfl ⟨rfl, rfl⟩
            · replace hr := cond_f h89 hr
              replace hr := Option.some.inj hr
              subst hr
              exact AtRet.pureG [] [] rfl rfl ⟨rfl, rfl⟩
          · replace hr := cond_f h86 hr
            refine AtGuard.mk (fun h => ff h) (fun _ => ?_)
            obtain rfl : m84 = (Tm.encL v80.2.2).length := by rw [h85]; simp [Tm.encL_length, h82]
            replace hr := Option.some.inj hr
            subst hr
            exact AtRet.pureG [] [] rfl rfl ⟨rfl, rfl⟩
    · replace hr := cond_t h13 hr
      refine AtIf.mk (fun _ => ?_) (fun h => tf h)
      replace hr := Option.some.inj hr
      subst hr
      exact AtRet.pureG [] [] rfl rfl ⟨rfl, rfl⟩
end Go.Proofs.YtogicnodmgdnbaaGreat
end

/-! StE -/
section
namespace Go.Proofs.YtogicnodmgdnbaaGreat
open Go.Tr Go
set_option linter.unusedVariables false
set_option linter.unusedSimpArgs false
set_option maxRecDepth 10000

/-- What Short of trussref04 says. -/
def refSh (q : Option (Int × Int)) (r : Int × Int × Bool) : Prop := match q with
  | some (h, n) => r = (h, n, true)
  | none => r.2.2 = false

theorem refShort_y : ∀ (N : Nat) (u : Tm), u.height ≤ N → Pr u → Yields (fun q => R04_Short q u) (refSh (shF u 0)) := by
  intro N
  induction N with
  | zero => intro u hu; have := Tm.height_pos u; omega
  | succ N ih =>
    have L2 : ∀ (v : Tm) (k : Nat), Pr v → v.height ≤ N + 1 → k ≤ 1000 → v.args.length = k → ∀ (ts : List Tm) (i : Nat), v.args.drop i = ts → i + ts.length = v.args.length → Yields (fun q => R04_Short_L2 q (k : Int) v (i : Int)) (fun r => if shArgs ts k i = true then (if v.hd = 1 then r = (v.hd, v.n - k, decide (v.n ≥ k)) else r = (v.hd, v.n, true)) else r.2.2 = false) := by
      intro v k hv hvh hk hvk ts
      have hn := pr_n hv
      have hlen := pr_len hv
      induction ts with
      | nil =>
        intro i hd hi
        simp only [List.length_nil, Nat.add_zero] at hi
        refine Yields.succ (fun q => R04_Short_L2.eq_2 ..) (Yields.ite (fun h => ?_) (fun _ => ?_))
        · simp at h; omega
        rw [show (fun r : Int × Int × Bool => if shArgs [] (k : Int) (i : Int) = true then (if v.hd = 1 then r = (v.hd, v.n - k, decide (v.n ≥ k)) else r = (v.hd, v.n, true)) else r.2.2 = false) = (fun r => (if v.hd = 1 then r = (v.hd, v.n - k, decide (v.n ≥ k)) else r = (v.hd, v.n, true))) from funext fun r => if_pos rfl]
        refine Yields.ite (fun h => ?_) (fun h => ?_)
        · have h : v.hd = 1 := by simpa using h
          refine Yields.pure ?_
          rw [if_pos h, wrap_i64 (by omega) (by omega)]
        · have h : ¬ v.hd = 1 := by simpa using h
          refine Yields.pure ?_
          rw [if_neg h]
      | cons t ts ihl =>
        intro i hd hi
        simp only [List.length_cons] at hi
        have ht := getDrop hd
        have htm := List.mem_of_getElem? ht
        have hth := Tm.height_le htm
        have e := ih t (by rw [Tm.height_eq] at hvh; omega) (pr_arg hv htm)
        refine Yields.succ (fun q => R04_Short_L2.eq_2 ..) (Yields.ite (fun _ => ?_) (fun h => ?_))
        · refine Yields.some (idx_get ht) (Yields.bind e (fun r hr => ?_))
          rw [wrap_i64 (n := (k : Int) - 1) (by omega) (by omega), wrap_i64 (n := (k : Int) - 1 - i) (by omega) (by omega), wrapS (by omega)]
          have hs : shArgs (t :: ts) (k : Int) (i : Int) = ((shF t 0 == some (1, (k : Int) - 1 - i)) && shArgs ts k ((i : Int) + 1)) := rfl
          rw [hs]
          cases hq : shF t 0 with
          | none =>
            rw [hq] at hr
            have hr : r.2.2 = false := hr
            refine Yields.ite (fun _ => Yields.pure ?_) (fun h => ?_)
            · rw [if_neg (by simp)]
            · rw [hr] at h; simp at h
          | some q =>
            obtain ⟨h, m⟩ := q
            rw [hq] at hr
            have hr : r = (h, m, true) := hr
            subst hr
            by_cases hc : h = 1 ∧ m = (k : Int) - 1 - i
            · obtain ⟨rfl, rfl⟩ := hc
              refine Yields.ite (fun h => ?_) (fun _ => ?_)
              · simp at h
              · simp only [beq_self_eq_true, Bool.true_and]
                exact ihl (i + 1) (dropDrop hd) (by omega)
            · have e1 : ((some (h, m) : Option (Int × Int)) == some (1, (k : Int) - 1 - i)) = false := by
                rw [beq_eq_false_iff_ne]
                intro e; injection e with e; injection e with e1 e2; exact hc ⟨e1, e2⟩
              rw [e1, Bool.false_and]
              refine Yields.ite (fun _ => Yields.pure (by rw [if_neg (by decide)])) (fun hh => ?_)
              exfalso
              simp only [Bool.or_eq_false_iff, bne_eq_false_iff_eq] at hh
              exact hc ⟨hh.1.2, hh.2⟩
        · simp at h; omega
    have L1 : ∀ (M : Nat) (v : Tm) (k : Nat), v.height ≤ M → v.height ≤ N + 1 → Pr v → k + v.height ≤ 1000 → Yields (fun q => R04_Short_L1 q v (k : Int)) (refSh (shF v (k : Int))) := by
      intro M
      induction M with
      | zero => intro v k hv; have := Tm.height_pos v; omega
      | succ M ihM =>
        intro v k hv hvN hp hk
        rw [shF_eq]
        by_cases h3 : v.op = 3
        · rw [if_pos h3]
          obtain ⟨a, ha, _, hh, _⟩ := okAll_one (proper_small hp).1 h3
          have := ihM a (k + 1) (by omega) (by omega) (pr_arg hp (by rw [ha]; simp)) (by omega)
          refine Yields.succ (fun q => R04_Short_L1.eq_2 ..) (Yields.ite (fun _ => Yields.some (x := a) (by rw [ha]; rfl) ?_) (fun h => ?_))
          · rw [wrapS (by omega), ha]
            exact this
          · simp [h3] at h
        · rw [if_neg h3]
          refine Yields.succ (fun q => R04_Short_L1.eq_2 ..) (Yields.ite (fun h => ?_) (fun _ => ?_))
          · simp [h3] at h
          by_cases hc : v.op = 4 ∧ (v.args.length : Int) = k
          · obtain ⟨c1, c2⟩ := hc
            refine Yields.ite (fun h => ?_) (fun _ => ?_)
            · rw [Tm.encL_length, c1, c2] at h; simp at h
            refine Yields.mono (L2 v k hp hvN (by omega) (by omega) v.args 0 rfl (by simp)) (fun r hr => ?_)
            have hr : if shArgs v.args (k : Int) 0 = true then (if v.hd = 1 then r = (v.hd, v.n - k, decide (v.n ≥ k)) else r = (v.hd, v.n, true)) else r.2.2 = false := hr
            by_cases ha : shArgs v.args (k : Int) 0 = true
            · rw [if_pos ha] at hr
              by_cases h1 : v.hd = 1
              · rw [if_pos h1] at hr
                by_cases hnk : v.n < k
                · rw [if_neg (fun hh => hh.2.2.1 ⟨h1, hnk⟩)]
                  show r.2.2 = false
                  rw [hr]; exact decide_eq_false (by omega)
                · rw [if_pos (show v.op = 4 ∧ (v.args.length : Int) = k ∧ ¬(v.hd = 1 ∧ v.n < k) ∧ shArgs v.args k 0 = true from ⟨c1, c2, fun hh => hnk hh.2, ha⟩), if_pos h1]
                  show r = (v.hd, v.n - k, true)
                  rw [hr, decide_eq_true (by omega)]
              · rw [if_neg h1] at hr
                rw [if_pos (show v.op = 4 ∧ (v.args.length : Int) = k ∧ ¬(v.hd = 1 ∧ v.n < k) ∧ shArgs v.args k 0 = true from ⟨c1, c2, fun hh => h1 hh.1, ha⟩), if_neg h1]
                exact hr
            · rw [if_neg ha] at hr
              rw [if_neg (fun hh => ha hh.2.2.2)]
              exact hr
          · rw [if_neg (fun hh => hc ⟨hh.1, hh.2.1⟩)]
            refine Yields.ite (fun _ => Yields.pure rfl) (fun h => ?_)
            exfalso
            rw [Tm.encL_length] at h
            simp only [Bool.or_eq_false_iff, bne_eq_false_iff_eq] at h
            exact hc h
    intro u hu hp
    have hpp := (proper_small hp).2.1
    exact Yields.succ (fun q => R04_Short.eq_2 ..) (L1 u.height u 0 (Nat.le_refl _) hu hp (by omega))

theorem refPattern_ev {st : Sta} {opn : Int → Bool} (hs : Lv st.opn opn) (hl : st.opn.length ≤ 100000) (l : List Tm) (b : Nat) (hb : b ≤ 100000) (hll : l.length ≤ 600) (hp : ∀ x ∈ l, Pr x) (hf : ∀ x ∈ l, ∀ y ∈ fvF x b, y < (st.opn.length : Int)) :
    Ev (fun q => R14_State_pattern q st l (b : Int)) (patF opn b [] l) := by
  have loop : ∀ (ts : List Tm) (i : Nat) (seen : List Int), l.drop i = ts → i + ts.length = l.length → seen.length = i → Ev (fun q => R14_State_pattern_L1 q l (b : Int) st seen (i : Int)) (patF opn b seen ts) := by
    intro ts
    induction ts with
    | nil =>
      intro i seen hd hi hse
      simp only [List.length_nil, Nat.add_zero] at hi
      exact Ev.succ (fun q => R14_State_pattern_L1.eq_2 ..) (Ev.f (by rw [Tm.encL_length]; simp; omega) (Ev.pure _))
    | cons x ts ih =>
      intro i seen hd hi hse
      simp only [List.length_cons] at hi
      have hx := getDrop hd
      have hxm := List.mem_of_getElem? hx
      have hxp := hp x hxm
      obtain ⟨r, r1, r2⟩ := refShort_y x.height x (Nat.le_refl _) hxp
      refine Ev.succ (fun q => R14_State_pattern_L1.eq_2 ..) (Ev.t (by rw [Tm.encL_length]; simp; omega) (Ev.some (idx_get hx) (r1.bind ?_)))
      simp only [patF]
      cases hq : shF x 0 with
      | none =>
        rw [hq] at r2
        have r2 : r.2.2 = false := r2
        exact Ev.t (by rw [r2]; rfl) (Ev.pure _)
      | some q =>
        obtain ⟨h, n⟩ := q
        rw [hq] at r2
        have r2 : r = (h, n, true) := r2
        subst r2
        by_cases h1 : h = 1
        case neg =>
          have e : (h == 1) = false := by simpa using h1
          refine Ev.t (by simp [h1]) ((Ev.pure _).eq ?_)
          simp only [e, Bool.false_and]
        case pos =>
          subst h1
          dsimp only
          have hn := sh_bound x 0 1 n (by omega) (proper_small hxp).1 hq
          have hcl : decide ((List.map (D.int .i64) (seen ++ [n])).length ≤ 1000000) = true := by
            rw [List.length_map, List.length_append]; simp; omega
          have hrec := ih (i + 1) (seen ++ [n]) (dropDrop hd) (by omega) (by simp; omega)
          have inner : ∀ (us : List Int) (k : Nat), seen.drop k = us → k + us.length = seen.length → Ev (fun q => R14_State_pattern_L2 q seen (1, n, true) (i : Int) st l (b : Int) (k : Int)) (!(us.any (fun y => n == y)) && patF opn b (seen ++ [n]) ts) := by
            intro us
            induction us with
            | nil =>
              intro k hk hkl
              simp only [List.length_nil, Nat.add_zero] at hkl
              refine Ev.succ (fun q => R14_State_pattern_L2.eq_2 ..) (Ev.f (by simp; omega) (Ev.need hcl ?_))
              rw [wrapS (by omega)]
              exact hrec.eq (by simp)
            | cons y us ihu =>
              intro k hk hkl
              simp only [List.length_cons] at hkl
              have hy := getDrop hk
              refine Ev.succ (fun q => R14_State_pattern_L2.eq_2 ..) (Ev.t (by simp; omega) (Ev.need ?_ (Ev.some (x := y) (by rw [Int.toNat_natCast]; exact hy) ?_)))
              · rw [List.length_map, Int.toNat_natCast]; exact decide_eq_true ⟨by omega, by omega⟩
              · refine Ev.ite (fun h => (Ev.pure _).eq ?_) (fun h => ?_)
                · have h : y = n := by simpa using h
                  subst h; simp
                · have h : ¬ y = n := by simpa using h
                  rw [wrapS (by omega)]
                  refine (ihu (k + 1) (dropDrop hk) (by omega)).eq ?_
                  have : (n == y) = false := by
                    rw [beq_eq_false_iff_ne]; exact fun e => h e.symm
                  simp only [List.any_cons, this, Bool.false_or]
          have hin := inner seen 0 rfl (by simp)
          refine Ev.f rfl ?_
          simp only [beq_self_eq_true, Bool.true_and]
          refine Ev.ite (fun hnb => ?_) (fun hnb => ?_)
          · have hnb' : n ≥ b := of_decide_eq_true hnb
            have hy := hf x hxm (n - b) (by
              have := sh_fv x 0 b n (by omega) hq hnb'
              rwa [Int.add_zero] at this)
            have hi' := hs (n - b) (by omega) hy
            rw [List.length_map, wrap_i64 (n := (st.opn.length : Int) - 1) (by omega) (by omega), wrap_i64 (n := n - (b : Int)) (by omega) (by omega), wrap_i64 (by omega) (by omega)]
            refine Ev.some hi' ?_
            rw [decide_eq_true hnb', Bool.true_and]
            refine Ev.ite (fun ho => (Ev.pure _).eq (by rw [ho]; simp)) (fun ho => ?_)
            rw [ho]
            exact hin.eq (by simp)
          · have hnb' : ¬ n ≥ b := of_decide_eq_false hnb
            rw [decide_eq_false hnb', Bool.false_and]
            exact hin.eq (by simp)
  exact Ev.succ (fun q => R14_State_pattern.eq_2 ..) (loop l 0 [] rfl (by simp) rfl)

/-! what is written -/
def setsF : List Bool → List Int → List Bool
  | o, [] => o
  | o, v :: vs => setsF (o.set v.toNat true) vs
theorem setsF_len : ∀ (vs : List Int) (o : List Bool), (setsF o vs).length = o.length
  | [], _ => rfl
  | v :: vs, o => by rw [setsF, setsF_len vs]; simp
theorem setsF_append : ∀ (a b : List Int) (o : List Bool), setsF o (a ++ b) = setsF (setsF o a) b
  | [], _, _ => rfl
  | v :: a, b, o => by rw [List.cons_append, setsF, setsF_append a b]; rfl
theorem setsF_get : ∀ (vs : List Int) (o : List Bool) (j : Nat), j < o.length → (∀ v ∈ vs, 0 ≤ v) → (setsF o vs)[j]? = some ((o[j]?).getD false || decide ((j : Int) ∈ vs))
  | [], o, j, hj, _ => by simp [setsF, List.getElem?_eq_getElem hj]
  | v :: vs, o, j, hj, hv => by
    rw [setsF, setsF_get vs _ j (by simpa using hj) (fun x hx => hv x (List.mem_cons_of_mem _ hx))]
    have h0 := hv v (List.mem_cons_self ..)
    by_cases e : v.toNat = j
    · have e' : (j : Int) = v := by omega
      subst e
      rw [List.getElem?_set_self hj]
      simp [e']
    · have e' : ¬ (j : Int) = v := by omega
      rw [List.getElem?_set_ne e]
      simp [e']

theorem refStrict_ev {st : Sta} {opn : Int → Bool} (hs : Lv st.opn opn) (hl : st.opn.length ≤ 100000) (t : Tm) : ∀ (b : Nat) (out : List Bool), Pr t → b + t.height ≤ 1000 → out.length = st.opn.length → (∀ y ∈ fvF t b, y < (st.opn.length : Int)) →
    Ev (fun q => R14_State_strict q st t (b : Int) out) (setsF out ((strF opn t b).map (lvl st.opn))) := by
  induction t using Tm.ind with
  | h t ih =>
    intro b out hp hb hout hf
    have hn := pr_n hp
    have hlen := pr_len hp
    have hh := hb
    rw [Tm.height_eq] at hh
    have sub : ∀ (i : Nat) (x : Tm) (u : Nat), t.args[i]? = some x → under t.op (i : Int) = (u : Int) → ∀ (o : List Bool), o.length = st.opn.length → Ev (fun q => R14_State_strict q st x ((b + u : Nat) : Int) o) (setsF o ((strF opn x ((b + u : Nat) : Int)).map (lvl st.opn))) := by
      intro i x u hx hu' o ho
      have hxm := List.mem_of_getElem? hx
      have hxh := Tm.height_le hxm
      have hu := under_le t.op i
      refine ih x hxm (b + u) o (pr_arg hp hxm) (by omega) ho ?_
      intro y hy
      refine hf y ?_
      rw [fvF_eq, List.mem_append]
      refine .inr (fvL_mem y t.op t.args 0 b i x hx ?_)
      rw [Nat.zero_add, hu']
      exact hy
    have loop : (∀ i : Int, under t.op i = 0) → ∀ (ts : List Tm) (i : Nat) (o : List Bool), t.args.drop i = ts → i + ts.length = t.args.length → o.length = st.opn.length → Ev (fun q => R14_State_strict_L1 q t st (b : Int) out o (i : Int)) (setsF o ((strL opn t.op ts i b).map (lvl st.opn))) := by
      intro h0 ts
      induction ts with
      | nil =>
        intro i o hd hi ho
        simp only [List.length_nil, Nat.add_zero] at hi
        exact Ev.succ (fun q => R14_State_strict_L1.eq_2 ..) (Ev.f (by rw [Tm.encL_length]; simp; omega) (Ev.need (decide_eq_true (by omega)) (Ev.pure _)))
      | cons x ts ihl =>
        intro i o hd hi ho
        simp only [List.length_cons] at hi
        have hx := getDrop hd
        have e := sub i x 0 hx (h0 i) o ho
        refine Ev.succ (fun q => R14_State_strict_L1.eq_2 ..) (Ev.t (by rw [Tm.encL_length]; simp; omega) (Ev.some (idx_get hx) (e.bind ?_)))
        rw [wrapS (by omega)]
        have := ihl (i + 1) (setsF o ((strF opn x ((b + 0 : Nat) : Int)).map (lvl st.opn))) (dropDrop hd) (by omega) (by rw [setsF_len]; exact ho)
        refine this.eq ?_
        simp only [strL, h0, List.map_append, setsF_append, Nat.add_zero, Int.add_zero]
    refine Ev.succ (fun q => R14_State_strict.eq_2 ..) ?_
    rw [strF_eq]
    by_cases h3 : t.op = 3
    · obtain ⟨a, ha, _⟩ := okAll_one (proper_small hp).1 h3
      have e := sub 0 a 1 (by rw [ha]; rfl) (by rw [h3]; simp [under]) out hout
      refine Ev.t (by simpa using h3) (Ev.some (x := a) (by rw [ha]; rfl) ?_)
      rw [wrapS (by omega)]
      refine e.bind (Ev.need (decide_eq_true (by rw [setsF_len])) ((Ev.pure _).eq ?_))
      rw [if_neg (by omega), ha, h3]
      simp only [strL, List.append_nil]
      have : under 3 ((0 : Nat) : Int) = 1 := by simp [under]
      rw [this]; rfl
    refine Ev.f (by simpa using h3) ?_
    by_cases h2 : t.op = 2
    · obtain ⟨a, c, ha, _⟩ := okAll_two (proper_small hp).1 h2
      have e1 := sub 0 a 0 (by rw [ha]; rfl) (by rw [h2]; simp [under]) out hout
      have e2 := sub 1 c 1 (by rw [ha]; rfl) (by rw [h2]; simp [under]) (setsF out ((strF opn a ((b + 0 : Nat) : Int)).map (lvl st.opn))) (by rw [setsF_len]; exact hout)
      refine Ev.t (by simpa using h2) (Ev.some (x := a) (by rw [ha]; rfl) (e1.bind (Ev.some (x := c) (by rw [ha]; rfl) ?_)))
      rw [wrapS (by omega)]
      refine e2.bind (Ev.need (decide_eq_true (by rw [setsF_len, setsF_len])) ((Ev.pure _).eq ?_))
      rw [if_neg (by omega), ha, h2]
      simp only [strL, List.append_nil]
      have u0 : under 2 ((0 : Nat) : Int) = 0 := by simp [under]
      have u1 : under 2 ((0 + 1 : Nat) : Int) = 1 := by simp [under]
      rw [u0, u1, List.map_append, setsF_append, Int.add_zero]; rfl
    refine Ev.f (by simpa using h2) ?_
    have h0 : ∀ i : Int, under t.op i = 0 := by
      intro i; unfold under; rw [if_neg (by omega)]
    have hloop := loop h0 t.args 0 out rfl (by simp) hout
    by_cases h4 : t.op = 4 ∧ t.hd = 1 ∧ t.n ≥ b
    · obtain ⟨c1, c2, c3⟩ := h4
      have hy := hf (t.n - b) (by rw [fvF_eq, if_pos ⟨c1, c2, c3⟩]; simp)
      have hi' := hs (t.n - b) (by omega) hy
      refine Ev.t (by rw [c1, c2, decide_eq_true c3]; rfl) ?_
      rw [List.length_map, wrap_i64 (n := (st.opn.length : Int) - 1) (by omega) (by omega), wrap_i64 (n := t.n - (b : Int)) (by omega) (by omega), wrap_i64 (n := (st.opn.length : Int) - 1 - (t.n - b)) (by omega) (by omega)]
      refine Ev.some hi' (Ev.ite (fun ho => ?_) (fun ho => ?_))
      · rw [if_pos (show t.op = 4 ∧ t.hd = 1 ∧ t.n ≥ b ∧ opn (t.n - b) = true from ⟨c1, c2, c3, ho⟩)]
        have hpat := refPattern_ev hs hl t.args b (by omega) hlen (fun x hx => pr_arg hp hx) (by
          intro x hx y hy
          obtain ⟨j, hj⟩ := List.mem_iff_getElem?.1 hx
          refine hf y ?_
          rw [fvF_eq, List.mem_append]
          refine .inr (fvL_mem y t.op t.args 0 b j x hj ?_)
          rw [h0, Int.add_zero]
          exact hy)
        refine hpat.bind (Ev.ite (fun hh => ?_) (fun hh => ?_))
        · rw [if_pos hh]
          refine Ev.need ?_ (Ev.need (decide_eq_true (by simp)) ((Ev.pure _).eq rfl))
          rw [List.length_map, hout]; exact decide_eq_true ⟨by omega, by omega⟩
        · rw [if_neg (by rw [hh]; decide)]
          exact Ev.need (decide_eq_true rfl) ((Ev.pure _).eq rfl)
      · rw [if_neg (fun hh => by rw [hh.2.2.2] at ho; cases ho)]
        exact hloop
    · rw [if_neg (fun hh => h4 ⟨hh.1, hh.2.1, hh.2.2.1⟩)]
      refine Ev.f ?_ hloop
      simp only [Bool.and_eq_false_iff, beq_eq_false_iff_ne, decide_eq_false_iff_not]
      by_cases c1 : t.op = 4
      · by_cases c2 : t.hd = 1
        · exact .inr (fun c3 => h4 ⟨c1, c2, c3⟩)
        · exact .inl (.inr c2)
      · exact .inl (.inl c1)
end Go.Proofs.YtogicnodmgdnbaaGreat
end

/-! StF -/
section
namespace Go.Proofs.YtogicnodmgdnbaaGreat
open Go.Tr Go
set_option linter.unusedVariables false
set_option linter.unusedSimpArgs false
set_option maxRecDepth 10000

def scS (n : Nat) (fixed : Int) (m : Nat) : List Bool := (List.range m).map (fun (j : Nat) => decide ((n : Int) - 1 - (j : Int) ≥ fixed))
theorem scS_len (n : Nat) (fixed : Int) (m : Nat) : (scS n fixed m).length = m := by simp [scS]
theorem scS_succ (n : Nat) (fixed : Int) (m : Nat) : scS n fixed m ++ [decide ((n : Int) - 1 - (m : Int) ≥ fixed)] = scS n fixed (m + 1) := by
  simp only [scS, List.range_succ, List.map_append, List.map_cons, List.map_nil]
theorem scS_lv (n : Nat) (fixed : Int) : Lv (scS n fixed n) (openF fixed) := by
  intro v h0 h1
  rw [scS_len] at h1 ⊢
  obtain ⟨j, hj⟩ : ∃ j : Nat, (n : Int) - 1 - v = (j : Int) := ⟨((n : Int) - 1 - v).toNat, by omega⟩
  rw [hj, idx_nat]
  simp only [scS, List.getElem?_map]
  rw [List.getElem?_range (by omega)]
  simp only [Option.map_some, Option.some.injEq]
  rw [show (n : Int) - 1 - (j : Int) = v by omega]

/-- The numbers below n that are in a list. -/
def outF (V : List Int) (n : Nat) : List Int := (List.range n).filterMap (fun j => if ((j : Nat) : Int) ∈ V then some (j : Int) else none)
theorem outF_succ (V : List Int) (n : Nat) : outF V (n + 1) = outF V n ++ (if ((n : Nat) : Int) ∈ V then [(n : Int)] else []) := by
  simp only [outF, List.range_succ, List.filterMap_append]
  congr 1
  by_cases h : ((n : Nat) : Int) ∈ V
  · rw [if_pos h]; simp [List.filterMap_cons, h]
  · rw [if_neg h]; simp [List.filterMap_cons, h]
theorem outF_mem (V : List Int) (n : Nat) (x : Int) : x ∈ outF V n ↔ x ∈ V ∧ 0 ≤ x ∧ x < (n : Int) := by
  simp only [outF, List.mem_filterMap, List.mem_range]
  constructor
  · rintro ⟨j, hj, h⟩
    split at h
    · rename_i hm
      injection h with h
      subst h
      exact ⟨hm, by omega, by omega⟩
    · cases h
  · rintro ⟨h1, h2, h3⟩
    refine ⟨x.toNat, by omega, ?_⟩
    have e : ((x.toNat : Nat) : Int) = x := by omega
    rw [e, if_pos h1]
theorem outF_lt (V : List Int) : ∀ n : Nat, (outF V n).Pairwise (· < ·)
  | 0 => by simp [outF]
  | n + 1 => by
    rw [outF_succ, List.pairwise_append]
    refine ⟨outF_lt V n, by split <;> simp, ?_⟩
    intro a ha b hb
    have h1 := (outF_mem V n a).1 ha
    split at hb
    · rw [List.mem_singleton] at hb; subst hb; exact h1.2.2
    · cases hb
theorem outF_len (V : List Int) : ∀ n : Nat, (outF V n).length ≤ n
  | 0 => by simp [outF]
  | n + 1 => by
    rw [outF_succ, List.length_append]
    have := outF_len V n
    split <;> simp <;> omega

theorem with_ev (st : Sta) (b : Bool) (h1 : st.opn.length ≤ 100000) (h2 : st.known.length ≤ 100000) : Ev (fun q => R14_State_With q st b) (Sta.mk (st.opn ++ [b]) (st.known ++ [false])) := by
  refine Ev.succ (fun q => R14_State_With.eq_2 ..) (Ev.need ?_ (Ev.need ?_ (Ev.need ?_ (Ev.need ?_ (Ev.pure _)))))
  · rw [List.length_map]; exact decide_eq_true (by omega)
  · rw [List.length_map]; exact decide_eq_true (by omega)
  · rw [List.length_map, List.length_append]; simp; omega
  · rw [List.length_map, List.length_append]; simp; omega

theorem refStrictL_ev {t : Tm} (hp : Pr t) {f : Nat} (hf : f ≤ 30) : Ev (fun q => R14_Strict q t (f : Int)) (strictL t (f : Int)) := by
  obtain ⟨hok, hh, hcn⟩ := proper_small hp
  have hfm : ∀ x, x ∈ headsF 1 t 0 [] ↔ x ∈ fvF t 0 := by
    intro x
    rw [heads_mem x t 0 [] hok (by omega) (by omega)]
    simp
  have hfb : ∀ x ∈ headsF 1 t 0 [], 0 ≤ x ∧ x ≤ 9999 := fun x hx => fv_bound t 0 hok (by omega) x ((hfm x).1 hx)
  have hfl : (headsF 1 t 0 []).length ≤ 600 := by
    have := headsF_length 1 t 0 []
    simp only [List.length_nil] at this
    omega
  have hVb : ∀ v ∈ strF (openF f) t 0, v ∈ headsF 1 t 0 [] := fun v hv => (hfm v).2 (str_fv t 0 v hv).1
  generalize hF : headsF 1 t 0 [] = F at hfm hfb hfl hVb
  have rest : ∀ N : Nat, f ≤ N → N ≤ 10000 → (∀ v ∈ F, v < (N : Int)) → Ev (fun q => R14_Strict_L2 q (f : Int) (N : Int) t (Sta.mk [] []) (IntKind.i64.wrap ((N : Int) - 1))) (strictL t (f : Int)) := by
    intro N hN0 hN1 hNv
    have hfv : ∀ y ∈ fvF t 0, y < ((scS N f N).length : Int) := by
      intro y hy
      rw [scS_len]
      exact hNv y ((hfm y).2 hy)
    have hV0 : ∀ v ∈ (strF (openF f) t 0).map (lvl (scS N f N)), 0 ≤ v := by
      intro v hv
      obtain ⟨x, hx, rfl⟩ := List.mem_map.1 hv
      have := hNv x (hVb x hx)
      simp only [lvl, scS_len]
      omega
    have L3 : ∀ (kn : List Bool) (m i : Nat), i + m = N → Ev (fun q => R14_Strict_L3 q (N : Int) (setsF (List.replicate N false) ((strF (openF f) t 0).map (lvl (scS N f N)))) (outF (strF (openF f) t 0) i) (i : Int)) (strictL t (f : Int)) := by
      intro kn m
      induction m with
      | zero =>
        intro i hi
        rw [Nat.add_zero] at hi
        subst hi
        refine Ev.succ (fun q => R14_Strict_L3.eq_2 ..) (Ev.f (decide_eq_false (by omega)) ((Ev.pure _).eq ?_))
        refine lt_ext (outF_lt _ _) (strictL_lt t f) (fun z => ?_)
        rw [outF_mem, strictL_mem]
        constructor
        · exact fun h => h.1
        · intro h
          exact ⟨h, (hfb z (hVb z h)).1, hNv z (hVb z h)⟩
      | succ m ih =>
        intro i hi
        have hw : IntKind.i64.wrap (IntKind.i64.wrap ((N : Int) - 1) - (i : Int)) = ((N - 1 - i : Nat) : Int) := by
          rw [wrap_i64 (n := (N : Int) - 1) (by omega) (by omega), wrap_i64 (by omega) (by omega)]; omega
        have hg := setsF_get ((strF (openF f) t 0).map (lvl (scS N f N))) (List.replicate N false) (N - 1 - i) (by simp; omega) hV0
        have hmem : decide ((((N - 1 - i : Nat)) : Int) ∈ (strF (openF f) t 0).map (lvl (scS N f N))) = decide (((i : Nat) : Int) ∈ strF (openF f) t 0) := by
          refine decide_eq_decide.2 ?_
          rw [List.mem_map]
          constructor
          · rintro ⟨x, hx, e⟩
            simp only [lvl, scS_len] at e
            have : x = (i : Int) := by omega
            rw [← this]; exact hx
          · intro h
            exact ⟨_, h, by simp only [lvl, scS_len]; omega⟩
        rw [hmem] at hg
        have hrep : ((List.replicate N false)[N - 1 - i]?).getD false = false := by
          rw [List.getElem?_replicate]; split <;> rfl
        rw [hrep, Bool.false_or] at hg
        have hol := outF_len (strF (openF f) t 0) i
        have hrec := ih (i + 1) (by omega)
        rw [outF_succ] at hrec
        refine Ev.succ (fun q => R14_Strict_L3.eq_2 ..) (Ev.t (decide_eq_true (by omega)) ?_)
        rw [hw, Int.toNat_natCast, wrapS (by omega)]
        refine Ev.need ?_ (Ev.some hg ?_)
        · rw [List.length_map, setsF_len]; simp; omega
        · by_cases hi' : ((i : Nat) : Int) ∈ strF (openF f) t 0
          · rw [if_pos hi'] at hrec
            refine Ev.t (decide_eq_true hi') (Ev.need ?_ hrec)
            rw [List.length_map, List.length_append]; simp; omega
          · rw [if_neg hi', List.append_nil] at hrec
            exact Ev.f (decide_eq_false hi') hrec
    have L2 : ∀ (m j : Nat) (kn : List Bool), j + m = N → kn.length = j → Ev (fun q => R14_Strict_L2 q (f : Int) (N : Int) t (Sta.mk (scS N f j) kn) ((m : Int) - 1)) (strictL t (f : Int)) := by
      intro m
      induction m with
      | zero =>
        intro j kn hj hk
        rw [Nat.add_zero] at hj
        subst hj
        have hst := refStrict_ev (st := Sta.mk (scS j f j) kn) (scS_lv j f) (by rw [scS_len]; omega) t 0 (List.replicate j false) hp (by omega) (by rw [scS_len]; simp) hfv
        refine Ev.succ (fun q => R14_Strict_L2.eq_2 ..) (Ev.f (decide_eq_false (by omega)) (Ev.need (decide_eq_true (by omega)) ?_))
        rw [Int.toNat_natCast]
        refine hst.bind ?_
        exact L3 kn j 0 (by omega)
      | succ m ih =>
        intro j kn hj hk
        refine Ev.succ (fun q => R14_Strict_L2.eq_2 ..) (Ev.t (decide_eq_true (by omega)) ((with_ev _ _ (by simp only [scS_len]; omega) (by simp only; omega)).bind ?_))
        have hrec := ih (j + 1) (kn ++ [false]) (by omega) (by simp; omega)
        rw [wrap_i64 (by omega) (by omega), show ((m + 1 : Nat) : Int) - 1 - 1 = (m : Int) - 1 by omega, show ((m + 1 : Nat) : Int) - 1 = (N : Int) - 1 - (j : Int) by omega, scS_succ]
        exact hrec
    rw [wrap_i64 (by omega) (by omega)]
    exact L2 N 0 [] (by omega) rfl
  have L1 : ∀ (ts : List Int) (i : Nat) (n : Nat), F.drop i = ts → i + ts.length = F.length → f ≤ n → n ≤ 10000 → (∀ v ∈ F.take i, v < (n : Int)) → Ev (fun q => R14_Strict_L1 q F (f : Int) t (n : Int) (i : Int)) (strictL t (f : Int)) := by
    intro ts
    induction ts with
    | nil =>
      intro i n hd hi h1 h2 h3
      simp only [List.length_nil, Nat.add_zero] at hi
      rw [hi, List.take_length] at h3
      exact Ev.succ (fun q => R14_Strict_L1.eq_2 ..) (Ev.f (by rw [List.length_map]; exact decide_eq_false (by omega)) (rest n h1 h2 h3))
    | cons v ts ih =>
      intro i n hd hi h1 h2 h3
      simp only [List.length_cons] at hi
      have hv := getDrop hd
      have hvb := hfb v (List.mem_of_getElem? hv)
      refine Ev.succ (fun q => R14_Strict_L1.eq_2 ..) (Ev.t (by rw [List.length_map]; exact decide_eq_true (by omega)) (Ev.some (idx_get hv) ?_))
      rw [wrap_i64 (n := v + 1) (by omega) (by omega), wrapS (by omega)]
      obtain ⟨n', hn'⟩ : ∃ n' : Nat, (if v + 1 > (n : Int) then v + 1 else (n : Int)) = (n' : Int) := ⟨(if v + 1 > (n : Int) then v + 1 else (n : Int)).toNat, by split <;> omega⟩
      have hn2 : n ≤ n' ∧ v + 1 ≤ (n' : Int) ∧ n' ≤ 10000 := by
        split at hn' <;> omega
      rw [hn']
      refine ih (i + 1) n' (dropDrop hd) (by omega) (by omega) hn2.2.2 ?_
      intro x hx
      rw [List.take_add_one, hv] at hx
      rcases List.mem_append.1 hx with h | h
      · have := h3 x h; omega
      · have : x = v := by simpa using h
        omega
  have hfree := refFree_ev (t := t) (by omega) (by omega)
  rw [hF] at hfree
  exact Ev.succ (fun q => R14_Strict.eq_2 ..) (hfree.bind (L1 F 0 f rfl (by simp) (Nat.le_refl _) (by omega) (by simp)))

/-! arguments -/
abbrev appV (j : Nat) : Tm := Tm.mk 4 1 (j : Int) []
def appsF (n : Nat) : List Tm := (List.range n).map appV
theorem appsF_len (n : Nat) : (appsF n).length = n := by simp [appsF]
theorem appsF_succ (n : Nat) : appsF n ++ [appV n] = appsF (n + 1) := by simp [appsF, List.range_succ]
theorem appsF_get {n j : Nat} (h : j < n) : idx (appsF n) (j : Int) = some (appV j) := by
  rw [idx_nat, appsF, List.getElem?_map, List.getElem?_range h]; rfl
def wantF : List Int → Nat → List Tm
  | [], _ => []
  | s :: ss, i => if s = 1 then appV i :: wantF ss (i + 1) else wantF ss (i + 1)
theorem wantF_len : ∀ (l : List Int) (i : Nat), (wantF l i).length ≤ l.length
  | [], _ => by simp [wantF]
  | s :: ss, i => by
    simp only [wantF]
    have := wantF_len ss (i + 1)
    split <;> simp <;> omega
theorem wantF_snoc : ∀ (a : List Int) (s : Int) (i : Nat), wantF (a ++ [s]) i = wantF a i ++ (if s = 1 then [appV (i + a.length)] else [])
  | [], s, i => by simp [wantF]
  | x :: a, s, i => by
    rw [List.cons_append, wantF, wantF, wantF_snoc a s (i + 1)]
    have : i + 1 + a.length = i + (x :: a).length := by simp; omega
    rw [this]
    split <;> simp

theorem copied_ev (j : Nat) : Ev (fun q => mode_copied q (appV j)) (appV j) := by
  refine Ev.succ (fun q => mode_copied.eq_2 ..) (Ev.succ (fun q => mode_copied_L1.eq_2 ..) (Ev.f rfl (Ev.pure _)))

theorem inputs_ev (fam : Int) (S : List Int) (hS : S.length ≤ 100) : Ev (fun q => mode_Inputs_2 q (Md.mk fam S) (appsF S.length)) (wantF S 0, 0, appsF S.length) := by
  have loop : ∀ (ts pre : List Int), pre ++ ts = S → Ev (fun q => mode_Inputs_2_L1 q (appsF S.length) (Md.mk fam S) (wantF pre 0) (pre.length : Int)) (wantF S 0, 0, appsF S.length) := by
    intro ts
    induction ts with
    | nil =>
      intro pre h
      rw [List.append_nil] at h
      subst h
      exact Ev.succ (fun q => mode_Inputs_2_L1.eq_2 ..) (Ev.f (by rw [Tm.encL_length, appsF_len]; exact decide_eq_false (by omega)) (Ev.need (decide_eq_true rfl) (Ev.pure _)))
    | cons s ts ih =>
      intro pre h
      have hpl : pre.length + ts.length + 1 = S.length := by rw [← h]; simp; omega
      have hs : idx S (pre.length : Int) = some s := by
        rw [idx_nat, ← h, List.getElem?_append_right (Nat.le_refl _), Nat.sub_self]; rfl
      have hrec := ih (pre ++ [s]) (by rw [List.append_assoc]; exact h)
      rw [wantF_snoc, Nat.zero_add] at hrec
      have hwl := wantF_len pre 0
      have e1 : (pre ++ [s]).length = pre.length + 1 := by simp
      rw [e1] at hrec
      refine Ev.succ (fun q => mode_Inputs_2_L1.eq_2 ..) (Ev.t (by rw [Tm.encL_length, appsF_len]; exact decide_eq_true (by omega)) (Ev.some (appsF_get (by omega)) (Ev.some hs ?_)))
      rw [wrapS (by omega)]
      by_cases h1 : s = 1
      · rw [if_pos h1] at hrec
        refine Ev.t (by simpa using h1) ((copied_ev pre.length).bind (Ev.need ?_ hrec))
        rw [Tm.encL_length, List.length_append]; simp; omega
      · rw [if_neg h1, List.append_nil] at hrec
        exact Ev.f (by simpa using h1) hrec
  refine Ev.succ (fun q => mode_Inputs_2.eq_2 ..) (Ev.f ?_ (loop S [] rfl))
  rw [Tm.encL_length, appsF_len, List.length_map]; simp

theorem inputsNo_ev (fam : Int) (S : List Int) (l : List Tm) (h : S.length ≠ l.length) : Ev (fun q => mode_Inputs_2 q (Md.mk fam S) l) ([], 2, l) := by
  refine Ev.succ (fun q => mode_Inputs_2.eq_2 ..) (Ev.t ?_ (Ev.need (decide_eq_true rfl) (Ev.pure _)))
  rw [Tm.encL_length, List.length_map, bne_iff_ne]
  intro e
  exact h (Int.ofNat.inj e)

theorem sameAll_ev (l : List Tm) (hl : l.length ≤ 1000) (hs : ∀ x ∈ l, sameF x x = true) : Ev (fun q => R03_SameAll q l l) true := by
  have loop : ∀ (ts : List Tm) (i : Nat), l.drop i = ts → i + ts.length = l.length → Ev (fun q => R03_SameAll_L1 q l l (i : Int)) true := by
    intro ts
    induction ts with
    | nil =>
      intro i hd hi
      simp only [List.length_nil, Nat.add_zero] at hi
      exact Ev.succ (fun q => R03_SameAll_L1.eq_2 ..) (Ev.f (by rw [Tm.encL_length]; exact decide_eq_false (by omega)) (Ev.pure _))
    | cons x ts ih =>
      intro i hd hi
      simp only [List.length_cons] at hi
      have hx := getDrop hd
      refine Ev.succ (fun q => R03_SameAll_L1.eq_2 ..) (Ev.t (by rw [Tm.encL_length]; exact decide_eq_true (by omega)) (Ev.some (idx_get hx) (Ev.some (idx_get hx) (Ev.f (by rw [hs x (List.mem_of_getElem? hx)]; rfl) ?_))))
      rw [wrapS (by omega)]
      exact ih (i + 1) (dropDrop hd) (by omega)
  exact Ev.succ (fun q => R03_SameAll.eq_2 ..) (Ev.f (by simp) (loop l 0 rfl (by simp)))

theorem want_same : ∀ (l : List Int) (i : Nat), ∀ x ∈ wantF l i, sameF x x = true
  | [], _, x, hx => by cases hx
  | s :: ss, i, x, hx => by
    simp only [wantF] at hx
    split at hx
    · rcases List.mem_cons.1 hx with e | h
      · subst e
        rw [sameF_eq]
        simp [appV, Tm.op, Tm.hd, Tm.n, Tm.args, sameL]
      · exact want_same ss (i + 1) x h
    · exact want_same ss (i + 1) x hx

theorem modeStrict_ev (t : Tm) (fixed : Int) (m : Md) : Ev (fun k => W14_ModeStrict k t fixed m) true := by
  refine Ev.succ (fun k => W14_ModeStrict.eq_2 ..) ((strict_ev t fixed).bind ?_)
  rw [refProper_eq]
  by_cases hc : isProper t = true ∧ 0 ≤ fixed ∧ fixed ≤ 30
  case neg =>
    rw [if_neg hc]
    refine Ev.t ?_ (Ev.t rfl (awake14_ev.bind (Ev.pure _)))
    by_cases hp : isProper t = true
    · simp only [hp, Bool.or_eq_true, decide_eq_true_eq]
      by_cases h0 : 0 ≤ fixed
      · exact .inr (by have : ¬ fixed ≤ 30 := fun h => hc ⟨hp, h0, h⟩; omega)
      · exact .inl (.inr (by omega))
    · rw [Bool.eq_false_iff.2 hp]; rfl
  case pos =>
    rw [if_pos hc]
    obtain ⟨hp, hf0, hf1⟩ := hc
    obtain ⟨f, rfl⟩ : ∃ f : Nat, fixed = (f : Int) := ⟨fixed.toNat, by omega⟩
    have hr := refStrictL_ev hp (f := f) (by omega)
    have hlen := strictL_len hp (f : Int)
    have hin : Ev (fun k => W14_ints k (strictL t (f : Int)) (strictL t (f : Int))) true := by
      refine Ev.succ (fun k => W14_ints.eq_2 ..) ?_
      exact Ev.f (by simp) (same_evL _ (by omega) _ 0 rfl (by simp))
    refine Ev.f ?_ (Ev.f rfl (hr.bind (hin.bind (Ev.f rfl (Ev.need ?_ ?_)))))
    · rw [hp, decide_eq_false (by omega), decide_eq_false (by omega)]; rfl
    · rw [List.length_map]; refine decide_eq_true ?_; split <;> omega
    have hS : (m.signs.take (if 60 < ((List.map (D.int .i64) m.signs).length : Int) then 60 else ((List.map (D.int .i64) m.signs).length : Int)).toNat).length ≤ 60 := by
      rw [List.length_map, List.length_take]; split <;> omega
    have key : ∀ (S : List Int), S = m.signs.take (if 60 < ((List.map (D.int .i64) m.signs).length : Int) then 60 else ((List.map (D.int .i64) m.signs).length : Int)).toNat → S.length ≤ 60 → ∀ (ts pre : List Int), pre ++ ts = S → Ev (fun k => W14_ModeStrict_L1 k m t (appsF pre.length) (wantF pre 0) (pre.length : Int)) true := by
      intro S hSe hSl ts
      induction ts with
      | nil =>
        intro pre h
        rw [List.append_nil] at h
        subst h
        have hi1 := inputs_ev m.family pre (by omega)
        have hi2 := inputsNo_ev m.family pre (appsF pre.length ++ [t]) (by rw [List.length_append, appsF_len]; simp)
        have hwl := wantF_len pre 0
        refine Ev.succ (fun k => W14_ModeStrict_L1.eq_2 ..) ?_
        rw [← hSe]
        refine Ev.f (by rw [List.length_map]; exact decide_eq_false (by omega)) (hi1.bind (Ev.need ?_ (hi2.bind (Ev.t rfl ((sameAll_ev _ (by omega) (want_same _ _)).bind (Ev.t rfl (awake14_ev.bind (Ev.pure _))))))))
        rw [Tm.encL_length, List.length_append, appsF_len]; simp; omega
      | cons s ts ih =>
        intro pre h
        have hpl : pre.length + ts.length + 1 = S.length := by rw [← h]; simp; omega
        have hs : idx S (pre.length : Int) = some s := by
          rw [idx_nat, ← h, List.getElem?_append_right (Nat.le_refl _), Nat.sub_self]; rfl
        have hrec := ih (pre ++ [s]) (by rw [List.append_assoc]; exact h)
        rw [wantF_snoc, Nat.zero_add] at hrec
        have hwl := wantF_len pre 0
        have e1 : (pre ++ [s]).length = pre.length + 1 := by simp
        rw [e1] at hrec
        have happ : Ev (fun k => R03_App k 1 (pre.length : Int) []) (appV pre.length) := Ev.succ (fun k => R03_App.eq_2 ..) (Ev.pure _)
        refine Ev.succ (fun k => W14_ModeStrict_L1.eq_2 ..) ?_
        rw [← hSe]
        refine Ev.t (by rw [List.length_map]; exact decide_eq_true (by omega)) (happ.bind ?_)
        rw [appsF_succ]
        refine Ev.need (by rw [Tm.encL_length, appsF_len]; exact decide_eq_true (by omega)) (Ev.some hs ?_)
        rw [wrapS (by omega)]
        by_cases h1 : s = 1
        · rw [if_pos h1] at hrec
          refine Ev.t (by simpa using h1) (Ev.some (appsF_get (by omega)) (Ev.need ?_ hrec))
          rw [Tm.encL_length, List.length_append]; simp; omega
        · rw [if_neg h1, List.append_nil] at hrec
          exact Ev.f (by simpa using h1) hrec
    exact key _ rfl hS _ [] rfl
end Go.Proofs.YtogicnodmgdnbaaGreat
end

/-! RowMS -/
section
namespace Go.Proofs.YtogicnodmgdnbaaGreat
open Go.Tr Go
open Go.ChangeShapes Go.WideShapes Go.ChangeAt Go.RowKit
set_option maxRecDepth 10000

theorem modeStrict_spec (t : Tm) (f : Int) (m : Md) (a2 : Option Addr) (c2 : Nat) (a4 : Option Addr) (c4 : Nat) :
    Pure Tryz.prog (fnS 7) [tmS t a2 c2, iS f, (.agg [(.v (.int .i64 m.family)), (.v (.slice a4 ((List.map (D.int .i64) m.signs).length) c4))])] [tmR t a2 c2, (.slice a4 ((List.map (D.int .i64) m.signs).length) c4, .sl 1 (List.map (D.int .i64) m.signs))] (fun r out => r = bS true ∧ out = []) := by
  obtain ⟨N, h⟩ := modeStrict_ev t f m
  exact W14_ModeStrict_spec N t f m a2 c2 a4 c4 _ (h N (Nat.le_refl _))

set_option maxRecDepth 100000 in
theorem modeStrict_lifted (os : Os) (started : os.Started) (H : Type) (enc : TypeId × Value → H) :
    ReturnsInHanded {} Tryz.checked os 7 .any (Rows.modeStrictSpec.pre6 enc Tryz.prog Tryz.f7 Rows.modeStrictRow.domain false) (Rows.modeStrictSpec.post enc Tryz.prog Tryz.f7 false true false false) := by
  refine returnsInHanded_of_change_sized (C := Tryz.checked) own started (by kernel_rfl) Tryz.func7
    (ChangeSpec.witness6 (enc := enc) (C := Tryz.checked) false ⟨#[], #[.agg #[.int .i64 0, .int .i64 0, .int .i64 0, .slice none 0 0], .int .i64 0, .agg #[.int .i64 0, .slice none 0 0]], []⟩ 8 (by kernel_rfl) (by kernel_rfl) (by kernel_rfl) (by kernel_rfl)) ?_
  intro W base args ds gs before hval hW _ hsz _
  have hW' := hW
  obtain ⟨p, q, hA0, hV, rfl, _, _⟩ := hW
  have hA : DataW.TrodAll enc Tryz.prog W 0 (fun _ => true) true Tryz.f7.params.toList args.toList ds p := hA0
  rw [Tryz.params7] at hA hval
  have hsz : (DataW.weightsEach Tryz.prog ([47, 3, 31] ++ []) (ds ++ gs)).all (· ≤ reachBytes) = true := by
    have := hsz
    rw [Tryz.params7] at this
    exact this
  obtain ⟨v0, vs0, d0, ds0, p0, q0, ha0, rfl, rfl, h0, r0⟩ := trodAll_cons hA
  obtain ⟨v1, vs1, d1, ds1, p1, q1, rfl, rfl, rfl, h1, r1⟩ := trodAll_cons r0
  obtain ⟨v2, vs2, d2, ds2, p2, q2, rfl, rfl, rfl, h2, r2⟩ := trodAll_cons r1
  obtain ⟨rfl, rfl, rfl⟩ := trodAll_nil r2
  obtain ⟨rfl, rfl⟩ := trodVars_none hV
  obtain rfl : args = #[v0, v1, v2] := by rw [← Array.toList_inj, ha0]
  have hw := all_le hsz
  simp only [List.append_nil, DataW.weightsEach, List.mem_append] at hw
  obtain ⟨t, a2, c2, rfl, e2⟩ := arg_Tm (hval 0 _ _ rfl rfl) h0 (fun y hy => hw y (.inl hy))
  obtain ⟨f, rfl, _⟩ := arg_int (hval 1 _ _ rfl rfl) h1
  obtain ⟨m, a4, c4, rfl, e4⟩ := arg_Md (hval 2 _ _ rfl rfl) h2 (fun y hy => hw y (.inr (.inr hy)))
  refine ((modeStrict_spec t f m a2 c2 a4 c4).calls Tryz.call7 (W := W) ?_).mono ?_
  · intro r hr
    simp only [List.mem_cons, List.not_mem_nil, or_false] at hr
    rcases hr with rfl | rfl
    · exact e2
    · exact e4
  rintro e W' ⟨r, out, rfl, ⟨rfl, rfl⟩, hx⟩
  refine ⟨_, rfl, post_true kids full hW' rfl ?_ ?_ (by kernel_rfl) Tryz.underlying4 hx⟩
  · rw [Tryz.params7]
    decide +kernel
  · intro ds hl
    rw [Tryz.params7] at hl
    match ds, hl with
    | [_, _, _], _ => rfl

theorem modeStrict_holds : Rows.ModeStrictSaid :=
  OpenClaim.holds_of_wide 7 Tryz.f7 rfl rfl rfl rfl rfl rfl rfl ⟨rfl, rfl, rfl, rfl, rfl⟩ rfl rfl rfl rfl rfl (by kernel_rfl) Tryz.func7 (by kernel_rfl)
    (of_decide_eq_true (by kernel_rfl)) (by unfold Func.isWrapper; first | (rw [if_pos (by decide +kernel)]; kernel_rfl) | (rw [if_neg (by decide +kernel)]; exact ⟨rfl, rfl⟩))
    (fun os started H enc _ => modeStrict_lifted os started H enc)
#print axioms modeStrict_holds
end Go.Proofs.YtogicnodmgdnbaaGreat
end
