/- Rules for interfaces, and for operations whose answer is one value. Conditions stand in each rule. -/
import Derived.Test.YtjjgfenincdgpaaFwO
import Derived.Laws.Small
import Derived.Laws.Build
namespace Go.Tr
open Go
set_option linter.unusedSimpArgs false

/-- An operation whose answer is one value, whatever the world. -/
theorem AtPure.val {P : Program} {m : List Base → Sem Value} {S : St} {K : SV → St → Prop} (r : SV) (hr : r.wf S.own.length = true) (h : ∀ ℓ w, (m ℓ).run P w = .ok (r.den ℓ) w) (k : K r S) : AtPure P m S K :=
  ⟨fun _ ℓ _ hG _ => ⟨r, ℓ, S, fun w' => h ℓ w', hr, List.prefix_refl _, hG, fun _ hb => hb, fun _ _ hi => hi, k⟩⟩

theorem AtSem.val {P : Program} {m : List Base → Sem Value} {S : St} {K : SV → St → Prop} (r : SV) (hr : r.wf S.own.length = true) (h : ∀ ℓ w, (m ℓ).run P w = .ok (r.den ℓ) w) (k : K r S) : AtSem P m S K :=
  ⟨fun _ ℓ w hG _ => ⟨r, ℓ, S, w, h ℓ w, hr, List.prefix_refl _, Ext.refl _ _, hG, fun _ hb => .inl hb, k⟩⟩

/-- A value becomes an interface's. -/
theorem at_iface {P : Program} {t : TypeId} {s : SV} {S : St} {K : SV → St → Prop} (hc : P.concrete t = true) (hs : s.wf S.own.length = true) (k : K (.ifc t s) S) : AtPure P (fun ℓ => Instr.makeInterface t (s.den ℓ)) S K :=
  AtPure.val (.ifc t s) (by simpa only [SV.wf] using hs) (fun ℓ w => by rw [run_makeInterface w t _ hc]; rfl) k

/-- max, min of two ints. -/
theorem at_max {P : Program} {ts : Array TypeId} {t : TypeId} {k k' : IntKind} {x y : Int} {S : St} {K : SV → St → Prop} (h : K (.v (.int k (if y > x then y else x))) S) : AtPure P (fun ℓ => Builtin.max_ ts t (SV.denL ℓ [.v (.int k x), .v (.int k' y)]).toArray) S K :=
  AtPure.val _ rfl (fun _ _ => run_max_int2 ..) h
theorem at_min {P : Program} {ts : Array TypeId} {t : TypeId} {k k' : IntKind} {x y : Int} {S : St} {K : SV → St → Prop} (h : K (.v (.int k (if y < x then y else x))) S) : AtPure P (fun ℓ => Builtin.min_ ts t (SV.denL ℓ [.v (.int k x), .v (.int k' y)]).toArray) S K :=
  AtPure.val _ rfl (fun _ _ => run_min_int2 ..) h

/-- A call of an interface's method is one of the function that the value's type has for it. -/
theorem Meets.meth {P : Program} {t : TypeId} {f : FuncId} {name : String} {s : SV} {args : List SV} {S : St} {R : Out → St → Prop} (hm : ∀ v as w, (callMethod (.iface t v) name as).run P w = .ok (.enter f (#[v] ++ as)) w) (hf : ∀ as w, (callFunc f as).run P w = .ok (.enter f as) w)
    (h : Meets P (.val (.fn (.func f) [] [])) (s :: args) S R) : Meets P (.meth (.ifc t s) name) args S R := by
  intro J ℓ w hG hJ
  obtain ⟨nx, h1, h2⟩ := h J ℓ w hG hJ
  refine ⟨nx, ?_, h2⟩
  rw [← h1]
  simp only [Cal.sem, SV.den, SV.denL, Deferred.ofValue, Sem.run_bind, Sem.run_pure, Result.andThen_ok, invoke]
  rw [hf]
  have e1 : (#[Value.iface t (s.den ℓ)] ++ (SV.denL ℓ args).toArray)[0]? = some (Value.iface t (s.den ℓ)) := by simp
  have e2 : (#[Value.iface t (s.den ℓ)] ++ (SV.denL ℓ args).toArray).extract 1 (#[Value.iface t (s.den ℓ)] ++ (SV.denL ℓ args).toArray).size = (SV.denL ℓ args).toArray := by
    apply Array.ext'
    simp [Array.toList_extract, List.extract]
  simp only [e1, e2, hm]
  simp

mutual
theorem SV.ren_id {n : Nat} {r : Nat → Nat} (h : ∀ i, i < n → r i = i) : ∀ (s : SV), s.wf n = true → s.ren r = s
  | .v _, _ => rfl
  | .loc i off, hw => by simp only [SV.wf, blt_true] at hw; simp only [SV.ren, h i hw]
  | .fn f first caps, hw => by
    simp only [SV.wf, Bool.and_eq_true] at hw
    simp only [SV.ren, SV.renL_id h first hw.1, SV.renL_id h caps hw.2]
  | .agg cs, hw => by simp only [SV.wf] at hw; simp only [SV.ren, SV.renL_id h cs hw]
  | .tup xs, hw => by simp only [SV.wf] at hw; simp only [SV.ren, SV.renL_id h xs hw]
  | .mp i, hw => by simp only [SV.wf, blt_true] at hw; simp only [SV.ren, h i hw]
  | .ifc t s, hw => by simp only [SV.wf] at hw; simp only [SV.ren, SV.ren_id h s hw]
  | .yld i, hw => by simp only [SV.wf, blt_true] at hw; simp only [SV.ren, h i hw]
theorem SV.renL_id {n : Nat} {r : Nat → Nat} (h : ∀ i, i < n → r i = i) : ∀ (l : List SV), SV.wfL n l = true → SV.renL r l = l
  | [], _ => rfl
  | s :: ss, hw => by
    simp only [SV.wfL, Bool.and_eq_true] at hw
    simp only [SV.renL, SV.ren_id h s hw.1, SV.renL_id h ss hw.2]
 end

theorem envRen_id {n : Nat} {r : Nat → Nat} (h : ∀ i, i < n → r i = i) : ∀ {env : Env}, envWf n env = true → envRen r env = env
  | [], _ => rfl
  | (t, s) :: e, hw => by
    simp only [envWf] at hw
    split at hw
    · rename_i hs; simp only [envRen, SV.ren_id h s hs, envRen_id h hw]
    · cases hw

theorem Blk.ren_id {n : Nat} {r : Nat → Nat} (h : ∀ i, i < n → r i = i) {k : Blk} (hw : k.wf n = true) : k.ren r = k := by
  cases k <;> simp only [Blk.wf, Blk.ren] at hw ⊢
  · rw [SV.renL_id h _ hw]
  · rw [SV.renL_id h _ hw]
  · rw [envRen_id h hw]
  · simp only [blt_true] at hw; rw [h _ hw]

theorem setAll_range (ks own extra : List Blk) (hl : ks.length = own.length) : setAll (own ++ extra) (List.range own.length) ks = ks ++ extra := by
  have hnd : (List.range own.length).Nodup := List.nodup_range
  apply List.ext_getElem?
  intro i
  rcases Nat.lt_or_ge i own.length with h | h
  · have hk : ks[i]? = some (ks[i]'(by omega)) := List.getElem?_eq_getElem (by omega)
    rw [setAll_at _ _ _ i i _ hnd (by simp [h]) hk (by simp; omega), List.getElem?_append_left (by omega), hk]
  · rw [setAll_other _ _ _ i (by simp; omega), List.getElem?_append_right h, List.getElem?_append_right (by omega), hl]

/-- At a call that is handed the first own blocks, as they stand, and some of the slices that may grow. -/
theorem Meets.frame0 {P : Program} {cl : Cal} {args : List SV} {own : List Blk} {accs : List Acc} {rs : List (Value × D)} {R : Out → St → Prop} {S : St} {K : Out → St → Prop} (h : Meets P cl args ⟨own, accs, rs⟩ R) (extra : List Blk) (rest : List Acc) (hS : S.own = own ++ extra) (hac : S.accs.Perm (accs ++ rest))
    (hown : ∀ k ∈ own, k.wf own.length = true) (hrs : ∀ p ∈ rs, p ∈ S.reps) (hargs : SV.wfL own.length args = true) (hcl : cl.wf own.length = true)
    (k : ∀ o s', R o s' → s'.own.map Blk.mut = own.map Blk.mut ∧ K o ⟨s'.own ++ extra, s'.accs ++ rest, S.reps ++ s'.reps⟩) : Meets P cl args S K := by
  have hid : ∀ i, i < own.length → rixN (List.range own.length) S.own.length i = i := fun i hi => by simp [rixN, hi, List.getD]
  refine Meets.frameG (rest := rest) h (List.range own.length) ?_ (SV.renL_id hid args hargs).symm hac List.nodup_range (by simp) ?_ hrs (by simpa using hargs) (by simpa using hcl) ?_
  · cases cl with
    | val F => simp only [Cal.ren]; rw [SV.ren_id hid F hcl]
    | meth x name => simp only [Cal.ren]; rw [SV.ren_id hid x hcl]
  · intro p q hp
    have hlt : p < own.length := (List.getElem?_eq_some_iff.1 hp).1
    have hw := hown q (List.mem_of_getElem? hp)
    refine ⟨p, by simp [hlt], ?_, by simpa using hw⟩
    rw [hS, List.getElem?_append_left hlt, hp, Blk.ren_id (fun i hi => by simp [rixN, hi, List.getD]) hw]
  · intro o s' hR hwo hws
    obtain ⟨hm, hK⟩ := k o s' hR
    have hl : s'.own.length = own.length := by simpa using congrArg List.length hm
    refine ⟨s'.own, [], by simp, hm, ?_⟩
    have e1 : s'.own.map (Blk.ren (rixN (List.range own.length) S.own.length)) = s'.own := by
      have := List.map_congr_left (f := Blk.ren (rixN (List.range own.length) S.own.length)) (g := id) (l := s'.own) (fun q hq => Blk.ren_id (n := s'.own.length) (by rw [hl]; exact hid) (hws q hq))
      rw [this, List.map_id]
    have e2 : o.ren (rixN (List.range own.length) S.own.length) = o := by
      cases o with
      | ret x => simp only [Out.ren]; rw [SV.ren_id (n := s'.own.length) (by rw [hl]; exact hid) x hwo]
      | pan x => simp only [Out.ren]; rw [SV.ren_id (n := s'.own.length) (by rw [hl]; exact hid) x hwo]
    rw [e1, e2, hS, setAll_range _ _ _ hl]
    simpa using hK

/-- The end of a function: own blocks and what may grow stay in hand. -/
theorem ret_keep {m : Nat} {o : Out} {S : St} {R : Out → St → Prop} (own : List Blk) (h1 : S.own.take own.length = own) (hm : Nat.beq own.length m = true) (hle : Nat.ble own.length S.own.length = true) (hwf : wfB own.length own = true) (ho : o.wf own.length = true) (h : R o ⟨own, S.accs, []⟩) : AtRet m o S R :=
  ⟨⟨own, S.accs, []⟩, StLe.of h1 (List.Sublist.refl _) (by simp) hle hwf, Nat.le_of_eq (Nat.eq_of_beq_eq_true hm).symm, ho, h⟩

theorem Good.nilAcc {J : Nat → Prop} {ℓ : List Base} {own : List Blk} {accs : List Acc} {rs : List (Value × D)} {w : World} (k : Nat) (T : TypeId) (h : Good J ℓ ⟨own, accs, rs⟩ w) : Good J ℓ ⟨own, ⟨.slice none 0 0, k, T, []⟩ :: accs, rs⟩ w := by
  have hm : mutS ℓ ⟨own, ⟨.slice none 0 0, k, T, []⟩ :: accs, rs⟩ = mutS ℓ ⟨own, accs, rs⟩ := by simp [mutS, accBlk]
  refine ⟨h.len, by rw [hm]; exact h.nodup, by rw [hm]; exact h.lt, by rw [hm]; exact h.memJ, h.wf, by rw [hm]; exact h.own, ?_, by rw [hm]; exact h.reps⟩
  rw [hm]
  intro a ha
  rcases List.mem_cons.1 ha with e | e
  · subst e; exact .inl ⟨rfl, rfl⟩
  · exact h.accs a e

/-- A slice that is nil may grow. -/
theorem Meets.nilAcc {P : Program} {cl : Cal} {args : List SV} {own : List Blk} {accs : List Acc} {rs : List (Value × D)} {R : Out → St → Prop} (k : Nat) (T : TypeId) (h : Meets P cl args ⟨own, ⟨.slice none 0 0, k, T, []⟩ :: accs, rs⟩ R) : Meets P cl args ⟨own, accs, rs⟩ R := by
  intro J ℓ w hG hJ
  have hm : mutS ℓ ⟨own, ⟨.slice none 0 0, k, T, []⟩ :: accs, rs⟩ = mutS ℓ ⟨own, accs, rs⟩ := by simp [mutS, accBlk]
  obtain ⟨nx, h1, h2⟩ := h J ℓ w (hG.nilAcc k T) hJ
  refine ⟨nx, h1, h2.mono ?_⟩
  rintro e w' ⟨ℓ', o, S', a1, a2, a3, a4, a5, a6, a7⟩
  rw [hm] at a4 a6
  exact ⟨ℓ', o, S', a1, a2, a3, a4, a5, a6, a7⟩

theorem StLe.nilAcc {S : St} {own : List Blk} {accs : List Acc} {rs : List (Value × D)} (k : Nat) (T : TypeId) (h : StLe S ⟨own, accs, rs⟩) : StLe S ⟨own, ⟨.slice none 0 0, k, T, []⟩ :: accs, rs⟩ := by
  refine ⟨h.1, fun J ℓ w hG => ?_⟩
  have hm : ∀ ℓ, mutS ℓ ⟨own, ⟨.slice none 0 0, k, T, []⟩ :: accs, rs⟩ = mutS ℓ ⟨own, accs, rs⟩ := by intro ℓ; simp [mutS, accBlk]
  obtain ⟨h1, h2⟩ := h.2 J ℓ w hG
  exact ⟨h1.nilAcc k T, by rw [hm]; exact h2⟩

/-- What reads as a slice is one. -/
def isSl : Value × D → Prop
  | (v, .sl _ ds) => ∃ a c, v = .slice a ds.length c ∧ ds.length ≤ c ∧ ds.length ≤ 1152921504606846976
  | _ => True

theorem isSl_of_rep {J : Nat → Prop} {w : World} {p : Value × D} (h : Rep J w p.1 p.2) : isSl p := by
  obtain ⟨v, d⟩ := p
  cases d with
  | sl k ds =>
    simp only [Rep, RepC] at h
    obtain ⟨a, cap, heq, hle, _⟩ := h
    simp only [List.cons.injEq, and_true] at heq
    exact ⟨a, cap, heq, hle.1, hle.2⟩
  | _ => trivial

/-- A contract's slices are slices. -/
theorem Pure.opened {P : Program} {cl : Cal} {args : List SV} {rs : List (Value × D)} {R : SV → List (Value × D) → Prop} (h : Pure P cl args rs R) : Pure P cl args rs (fun r out => R r out ∧ ∀ p ∈ out, isSl p) := by
  intro J ℓ w hG hJ
  obtain ⟨nx, h1, h2⟩ := h J ℓ w hG hJ
  refine ⟨nx, h1, h2.mono ?_⟩
  rintro e w' ⟨ℓ', o, S', a1, a2, a3, a4, a5, a6, r, out, rfl, rfl, hr, hR⟩
  exact ⟨ℓ', _, _, a1, a2, a3, a4, a5, a6, r, out, rfl, rfl, hr, hR, fun p hp => isSl_of_rep (a5.reps p hp)⟩

end Go.Tr
