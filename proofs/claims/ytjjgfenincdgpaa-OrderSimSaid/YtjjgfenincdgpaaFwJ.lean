/- A call that is handed own blocks (Meets.frame): its contract speaks of these blocks alone; all else stays. Conditions: each block is handed in once; the call keeps their number and kinds. -/
import Derived.Test.YtjjgfenincdgpaaFwI
namespace Go.Tr
open Go
set_option linter.unusedSimpArgs false

def Blk.ren (r : Nat → Nat) : Blk → Blk
  | .cells T cs => .cells T (SV.renL r cs)
  | .obj o => .obj o
  | .imm cs => .imm (SV.renL r cs)
  | .dead => .dead
  | .iter i s n p => .iter (r i) s n p
  | .lp x => .lp ⟨x.N, envRen r x.env, x.ps, x.assign, x.body, x.state, x.pend⟩

theorem ren_find {r : Nat → Nat} : ∀ {env : Env} {t : Nat} {s : SV}, find env t = some s → find (envRen r env) t = some (s.ren r)
  | [], t, s, h => by simp [find] at h
  | (n, s1) :: e, t, s, h => by
    simp only [find, envRen] at h ⊢
    cases hb : Nat.beq n t with
    | true => rw [hb] at h; cases h; rfl
    | false => rw [hb] at h; exact ren_find h

def Out.ren (r : Nat → Nat) : Out → Out
  | .ret x => .ret (x.ren r)
  | .pan x => .pan (x.ren r)

def Cal.ren (r : Nat → Nat) : Cal → Cal
  | .val F => .val (F.ren r)
  | .meth x name => .meth (x.ren r) name

theorem Blk.ren_mut (r : Nat → Nat) (k : Blk) : (k.ren r).mut = k.mut := by cases k <;> rfl

theorem mutL_uniq : ∀ {ℓ : List Base} {own : List Blk}, (mutL ℓ own).Nodup → ∀ (i j : Nat) (b b' : Base) (k k' : Blk), ℓ[i]? = some b → own[i]? = some k → k.mut = true → ℓ[j]? = some b' → own[j]? = some k' → k'.mut = true → b.block = b'.block → i = j := by
  intro ℓ
  induction ℓ with
  | nil => intro own _ i j b b' k k' h1; simp at h1
  | cons c ℓ ih =>
    intro own hnd i j b b' k k' h1 h2 h3 h4 h5 h6 h7
    cases own with
    | nil => simp at h2
    | cons q own =>
      simp only [mutL] at hnd
      rw [List.nodup_append] at hnd
      cases i with
      | zero =>
        cases j with
        | zero => rfl
        | succ j =>
          simp at h1 h2 h4 h5
          subst h1 h2
          simp only [h3, if_true] at hnd
          exact (hnd.2.2 c.block (by simp) b'.block (mem_mutL.2 ⟨j, b', k', h4, h5, h6, rfl⟩) h7).elim
      | succ i =>
        cases j with
        | zero =>
          simp at h1 h2 h4 h5
          subst h4 h5
          simp only [h6, if_true] at hnd
          exact (hnd.2.2 c.block (by simp) b.block (mem_mutL.2 ⟨i, b, k, h1, h2, h3, rfl⟩) h7.symm).elim
        | succ j =>
          simp at h1 h2 h4 h5
          rw [ih hnd.2.1 i j b b' k k' h1 h2 h3 h4 h5 h6 h7]

theorem mutL_nodup : ∀ {ℓ : List Base} {own : List Blk}, (∀ (i j : Nat) (b b' : Base) (k k' : Blk), ℓ[i]? = some b → own[i]? = some k → k.mut = true → ℓ[j]? = some b' → own[j]? = some k' → k'.mut = true → b.block = b'.block → i = j) → (mutL ℓ own).Nodup := by
  intro ℓ
  induction ℓ with
  | nil => intro own _; simp [mutL]
  | cons c ℓ ih =>
    intro own h
    cases own with
    | nil => simp [mutL]
    | cons q own =>
      simp only [mutL]
      rw [List.nodup_append]
      refine ⟨by split <;> simp, ih (fun i j b b' k k' h1 h2 h3 h4 h5 h6 h7 => by
        have := h (i + 1) (j + 1) b b' k k' (by simpa using h1) (by simpa using h2) h3 (by simpa using h4) (by simpa using h5) h6 h7
        omega), ?_⟩
      intro x hx y hy hxy
      split at hx
      · rename_i hq
        simp at hx
        subst hx hxy
        obtain ⟨i, b, k, h1, h2, h3, h4⟩ := mem_mutL.1 hy
        have := h 0 (i + 1) c b q k rfl rfl hq (by simpa using h1) (by simpa using h2) h3 h4.symm
        omega
      · simp at hx

theorem mutL_congr : ∀ {ℓ : List Base} {own own' : List Blk}, own.map Blk.mut = own'.map Blk.mut → mutL ℓ own = mutL ℓ own'
  | [], own, own', _ => by simp [mutL]
  | b :: ℓ, [], [], _ => rfl
  | b :: ℓ, [], _ :: _, h => by simp at h
  | b :: ℓ, _ :: _, [], h => by simp at h
  | b :: ℓ, k :: ks, k' :: ks', h => by
    simp only [List.map_cons, List.cons.injEq] at h
    simp only [mutL, h.1, mutL_congr (ℓ := ℓ) h.2]

/-- Own blocks handed back into their places. -/
def setAll (own : List Blk) : List Nat → List Blk → List Blk
  | i :: ix, k :: ks => setAll (own.set i k) ix ks
  | _, _ => own

theorem setAll_length : ∀ (ix : List Nat) (ks own : List Blk), (setAll own ix ks).length = own.length
  | [], ks, own => by cases ks <;> rfl
  | i :: ix, [], own => rfl
  | i :: ix, k :: ks, own => by simp only [setAll, setAll_length ix ks, List.length_set]

theorem setAll_other : ∀ (ix : List Nat) (ks own : List Blk) (i : Nat), i ∉ ix → (setAll own ix ks)[i]? = own[i]?
  | [], ks, own, i, _ => by cases ks <;> rfl
  | j :: ix, [], own, i, _ => rfl
  | j :: ix, k :: ks, own, i, h => by
    simp only [List.mem_cons, not_or] at h
    simp only [setAll, setAll_other ix ks _ i h.2]
    rw [List.getElem?_set_ne (Ne.symm h.1)]

theorem setAll_at : ∀ (ix : List Nat) (ks own : List Blk) (p i : Nat) (k : Blk), ix.Nodup → ix[p]? = some i → ks[p]? = some k → i < own.length → (setAll own ix ks)[i]? = some k
  | [], ks, own, p, i, k, _, h, _, _ => by simp at h
  | j :: ix, [], own, p, i, k, _, _, h, _ => by simp at h
  | j :: ix, q :: ks, own, 0, i, k, hn, h1, h2, h3 => by
    simp at h1 h2
    subst h1 h2
    simp only [setAll]
    rw [setAll_other ix ks _ j (List.nodup_cons.1 hn).1, List.getElem?_set_self h3]
  | j :: ix, q :: ks, own, p + 1, i, k, hn, h1, h2, h3 => by
    simp only [setAll]
    exact setAll_at ix ks _ p i k (List.nodup_cons.1 hn).2 (by simpa using h1) (by simpa using h2) (by simpa using h3)

theorem setAll_mut : ∀ (ix : List Nat) (ks own : List Blk), (∀ (p i : Nat) (k : Blk), ix[p]? = some i → ks[p]? = some k → ∃ q, own[i]? = some q ∧ q.mut = k.mut) → ix.Nodup → (setAll own ix ks).map Blk.mut = own.map Blk.mut
  | [], ks, own, _, _ => by cases ks <;> rfl
  | i :: ix, [], own, _, _ => rfl
  | i :: ix, k :: ks, own, h, hn => by
    simp only [setAll]
    obtain ⟨q, hq, hm⟩ := h 0 i k rfl rfl
    have e : (own.set i k).map Blk.mut = own.map Blk.mut := by
      apply List.ext_getElem?
      intro j
      simp only [List.getElem?_map, List.getElem?_set]
      split
      · subst_vars
        split
        · simp [hq, hm]
        · rename_i hlt; rw [List.getElem?_eq_none (by omega)] at hq; cases hq
      · rfl
    rw [setAll_mut ix ks _ ?_ (List.nodup_cons.1 hn).2, e]
    intro p j k' h1 h2
    have hne : j ≠ i := fun e => (List.nodup_cons.1 hn).1 (e ▸ List.mem_of_getElem? h1)
    obtain ⟨q', hq', hm'⟩ := h (p + 1) j k' (by simpa using h1) (by simpa using h2)
    exact ⟨q', by rw [List.getElem?_set_ne (Ne.symm hne)]; exact hq', hm'⟩

theorem BlkOK.ren {J J' : Nat → Prop} {ℓ ℓ' : List Base} {w : World} {b : Base} {k : Blk} {n : Nat} {r : Nat → Nat} (hr : ∀ i, i < n → ℓ.getD (r i) default = ℓ'.getD i default) (hw : k.wf n = true) (hJ : ∀ x, J x → J' x) : BlkOK J ℓ' w b k → BlkOK J' ℓ w b (k.ren r) := by
  intro h
  cases k with
  | cells T cs =>
    simp only [BlkOK, Blk.ren, Blk.wf] at h hw ⊢
    rw [SV.denL_ren hr cs hw]; exact h
  | obj o => exact h
  | imm cs =>
    simp only [BlkOK, Blk.ren, Blk.wf] at h hw ⊢
    rw [SV.denL_ren hr cs hw]; exact ⟨hJ _ h.1, h.2⟩
  | dead => trivial
  | lp x =>
    simp only [BlkOK, Blk.ren, Blk.wf] at h hw ⊢
    obtain ⟨h0, q, hb, h1, h2, h3, h4, h5, h6, h7⟩ := h
    refine ⟨h0, q, hb, h1, h2, h3, h4, h5, h6, fun t s hs => ?_⟩
    obtain ⟨s0, hs0, rfl⟩ := find_ren hs
    rw [SV.den_ren hr s0 (envWf_spec hw t s0 hs0)]
    exact h7 t s0 hs0
  | iter i s n p =>
    simp only [BlkOK, Blk.ren, Blk.wf, blt_true] at h hw ⊢
    rw [hr i hw]; exact h

theorem BlkOK.unren {J J' : Nat → Prop} {ℓ ℓ' : List Base} {w : World} {b : Base} {k : Blk} {n : Nat} {r : Nat → Nat} (hr : ∀ i, i < n → ℓ.getD (r i) default = ℓ'.getD i default) (hw : k.wf n = true) (hJ : ∀ x, J x → J' x) : BlkOK J ℓ w b (k.ren r) → BlkOK J' ℓ' w b k := by
  intro h
  cases k with
  | cells T cs =>
    simp only [BlkOK, Blk.ren, Blk.wf] at h hw ⊢
    rw [SV.denL_ren hr cs hw] at h; exact h
  | obj o => exact h
  | imm cs =>
    simp only [BlkOK, Blk.ren, Blk.wf] at h hw ⊢
    rw [SV.denL_ren hr cs hw] at h; exact ⟨hJ _ h.1, h.2⟩
  | dead => trivial
  | lp x =>
    simp only [BlkOK, Blk.ren, Blk.wf] at h hw ⊢
    obtain ⟨h0, q, hb, h1, h2, h3, h4, h5, h6, h7⟩ := h
    refine ⟨h0, q, hb, h1, h2, h3, h4, h5, h6, fun t s hs => ?_⟩
    rw [← SV.den_ren hr s (envWf_spec hw t s hs)]
    exact h7 t _ (ren_find hs)
  | iter i s n p =>
    simp only [BlkOK, Blk.ren, Blk.wf, blt_true] at h hw ⊢
    rw [hr i hw] at h; exact h

theorem Blk.wf_ren {n m : Nat} {r : Nat → Nat} (h : ∀ i, i < n → r i < m) {k : Blk} (hk : k.wf n = true) : (k.ren r).wf m = true := by
  cases k <;> simp only [Blk.wf, Blk.ren] at hk ⊢
  · exact SV.wfL_ren h _ hk
  · exact SV.wfL_ren h _ hk
  · exact envWf_ren h hk
  · simp only [blt_true] at hk ⊢; exact h _ hk

theorem cal_sem_ren {n : Nat} {ℓ ℓ' : List Base} {r : Nat → Nat} (h : ∀ i, i < n → ℓ.getD (r i) default = ℓ'.getD i default) (args : List SV) (cl : Cal) (ha : SV.wfL n args = true) (hc : cl.wf n = true) : (cl.ren r).sem ℓ (SV.renL r args) = cl.sem ℓ' args := by
  have h1 := SV.denL_ren h args ha
  cases cl with
  | val F => have h2 := SV.den_ren h F hc; simp only [Cal.ren, Cal.sem]; rw [h1, h2]
  | meth x name => have h2 := SV.den_ren h x hc; simp only [Cal.ren, Cal.sem]; rw [h1, h2]

def rix (ix : List Nat) : Nat → Nat := fun i => ix.getD i 0

/-- The blocks ix are handed in; what is new stands behind the n that there were. -/
def rixN (ix : List Nat) (n : Nat) : Nat → Nat := fun i => if i < ix.length then ix.getD i 0 else n + (i - ix.length)

theorem flatMap_perm {α β : Type} (f : α → List β) {l l' : List α} (h : l.Perm l') : (l.flatMap f).Perm (l'.flatMap f) := by
  induction h with
  | nil => exact .refl _
  | cons x _ ih => simp only [List.flatMap_cons]; exact ih.append_left _
  | swap x y l => simp only [List.flatMap_cons, ← List.append_assoc]; exact List.perm_append_comm.append_right _
  | trans _ _ h1 h2 => exact h1.trans h2

/-- At a call that is handed the own blocks ix and some of the slices that may grow: its contract is over these alone (numbered anew); it may hand back new ones. -/
theorem Meets.frameG {P : Program} {cl : Cal} {args : List SV} {own : List Blk} {accs rest : List Acc} {rs : List (Value × D)} {R : Out → St → Prop} {S : St} {K : Out → St → Prop} {cl' : Cal} {args' : List SV} (h : Meets P cl args ⟨own, accs, rs⟩ R) (ix : List Nat)
    (hcl' : cl' = cl.ren (rixN ix S.own.length)) (hargs' : args' = SV.renL (rixN ix S.own.length) args) (hac : S.accs.Perm (accs ++ rest))
    (hn : ix.Nodup) (hlen : own.length = ix.length) (hown : ∀ (p : Nat) (k : Blk), own[p]? = some k → ∃ i, ix[p]? = some i ∧ S.own[i]? = some (k.ren (rixN ix S.own.length)) ∧ k.wf ix.length = true)
    (hrs : ∀ p ∈ rs, p ∈ S.reps) (hargs : SV.wfL ix.length args = true) (hcl : cl.wf ix.length = true)
    (k : ∀ o s', R o s' → o.wf s'.own.length = true → (∀ q ∈ s'.own, q.wf s'.own.length = true) → ∃ kept new, s'.own = kept ++ new ∧ kept.map Blk.mut = own.map Blk.mut ∧
      K (o.ren (rixN ix S.own.length)) ⟨setAll S.own ix (kept.map (Blk.ren (rixN ix S.own.length))) ++ new.map (Blk.ren (rixN ix S.own.length)), s'.accs ++ rest, S.reps ++ s'.reps⟩) : Meets P cl' args' S K := by
  subst hcl' hargs'
  intro J ℓ w hG hJ
  let r := rixN ix S.own.length
  let bl : Acc → List Nat := fun a => accBlk a.v
  let ℓs : List Base := ix.map (fun i => ℓ.getD i default)
  have hℓslen : ℓs.length = ix.length := by simp [ℓs]
  have hixlt : ∀ (p i : Nat), ix[p]? = some i → i < S.own.length := by
    intro p i hp
    have hp' : p < own.length := by rw [hlen]; exact (List.getElem?_eq_some_iff.1 hp).1
    obtain ⟨i', h1, h2, _⟩ := hown p own[p] (List.getElem?_eq_getElem hp')
    rw [hp] at h1
    cases h1
    exact (List.getElem?_eq_some_iff.1 h2).1
  have rlow : ∀ (p i : Nat), ix[p]? = some i → r p = i := by
    intro p i hp
    have := (List.getElem?_eq_some_iff.1 hp)
    simp only [r, rixN, this.1, if_true, List.getD, hp, Option.getD_some]
  have hr : ∀ i, i < ix.length → ℓ.getD (r i) default = ℓs.getD i default := by
    intro i hi
    rw [rlow i _ (List.getElem?_eq_getElem hi)]
    simp [ℓs, List.getD, List.getElem?_map, List.getElem?_eq_getElem hi]
  have hℓs : ∀ (p : Nat) (b : Base), ℓs[p]? = some b → ∃ i, ix[p]? = some i ∧ ℓ[i]? = some b := by
    intro p b hp
    simp only [ℓs, List.getElem?_map, Option.map_eq_some_iff] at hp
    obtain ⟨i, hi, rfl⟩ := hp
    have hlt : i < ℓ.length := by rw [hG.len]; exact hixlt p i hi
    exact ⟨i, hi, by simp [List.getD, List.getElem?_eq_getElem hlt]⟩
  have hmem : ∀ b, b ∈ mutL ℓs own → b ∈ mutL ℓ S.own := by
    intro b hb
    obtain ⟨p, b', q, h1, h2, h3, h4⟩ := mem_mutL.1 hb
    obtain ⟨i, h5, h6⟩ := hℓs p b' h1
    obtain ⟨i', h7, h8, _⟩ := hown p q h2
    rw [h5] at h7
    cases h7
    exact mem_mutL.2 ⟨i, b', _, h6, h8, by rw [Blk.ren_mut]; exact h3, h4⟩
  -- the blocks that may be written: A own ones, C of the slices that are handed in, Rr of the others
  have hnS0 := hG.nodup
  simp only [mutS] at hnS0
  have hperm := flatMap_perm bl hac
  have hnS : (mutL ℓ S.own ++ (accs.flatMap bl ++ rest.flatMap bl)).Nodup := by
    rw [← List.flatMap_append]
    exact (hperm.append_left _).nodup_iff.1 hnS0
  rw [List.nodup_append, List.nodup_append] at hnS
  obtain ⟨hnA, ⟨hnC, hnR, hCR⟩, hACR⟩ := hnS
  have hAC : ∀ x, x ∈ mutL ℓ S.own → x ∈ accs.flatMap bl → False := fun x h1 h2 => hACR x h1 x (List.mem_append.2 (.inl h2)) rfl
  have hAR : ∀ x, x ∈ mutL ℓ S.own → x ∈ rest.flatMap bl → False := fun x h1 h2 => hACR x h1 x (List.mem_append.2 (.inr h2)) rfl
  have hCR' : ∀ x, x ∈ accs.flatMap bl → x ∈ rest.flatMap bl → False := fun x h1 h2 => hCR x h1 x h2 rfl
  have memS : ∀ x, x ∈ mutS ℓ S ↔ x ∈ mutL ℓ S.own ∨ x ∈ accs.flatMap bl ∨ x ∈ rest.flatMap bl := by
    intro x
    simp only [mutS]
    rw [List.mem_append, hperm.mem_iff, List.flatMap_append, List.mem_append]
  have hnd : (mutL ℓs own).Nodup := by
    refine mutL_nodup ?_
    intro p q b b' k1 k2 h1 h2 h3 h4 h5 h6 h7
    obtain ⟨i, e1, e2⟩ := hℓs p b h1
    obtain ⟨j, e3, e4⟩ := hℓs q b' h4
    obtain ⟨i', e5, e6, _⟩ := hown p k1 h2
    obtain ⟨j', e7, e8, _⟩ := hown q k2 h5
    rw [e1] at e5; cases e5
    rw [e3] at e7; cases e7
    have := mutL_uniq hnA i j b b' _ _ e2 e6 (by rw [Blk.ren_mut]; exact h3) e4 e8 (by rw [Blk.ren_mut]; exact h6) h7
    subst this
    have hp1 := (List.getElem?_eq_some_iff.1 e1)
    have hq1 := (List.getElem?_eq_some_iff.1 e3)
    exact (List.getElem_inj hn).1 (hp1.2.trans hq1.2.symm)
  have mems : ∀ x, x ∈ mutS ℓs ⟨own, accs, rs⟩ ↔ x ∈ mutL ℓs own ∨ x ∈ accs.flatMap bl := by
    intro x; simp only [mutS, List.mem_append]; rfl
  have hmemS : ∀ b, b ∈ mutS ℓs ⟨own, accs, rs⟩ → b ∈ mutS ℓ S := fun b hb => by
    rcases (mems b).1 hb with h1 | h1
    · exact (memS b).2 (.inl (hmem b h1))
    · exact (memS b).2 (.inr (.inl h1))
  let Js : Nat → Prop := fun b => J b ∧ (b ∈ mutS ℓ S → b ∈ mutS ℓs ⟨own, accs, rs⟩)
  have hJin : ∀ b, Jx J (mutS ℓ S) b → Jx Js (mutS ℓs ⟨own, accs, rs⟩) b := by
    rintro b ⟨h1, h2⟩
    exact ⟨⟨h1, fun hb => (h2 hb).elim⟩, fun hb => h2 (hmemS b hb)⟩
  have hG0 : Good Js ℓs ⟨own, accs, rs⟩ w := by
    refine ⟨by simp [ℓs, hlen], ?_, fun b hb => hG.lt b (hmemS b hb), fun b hb => ⟨hG.memJ b (hmemS b hb), fun _ => hb⟩, ?_, ?_, ?_, ?_⟩
    · simp only [mutS]
      rw [List.nodup_append]
      exact ⟨hnd, hnC, fun x hx y hy e => hAC x (hmem x hx) (e ▸ hy)⟩
    · intro q hq
      obtain ⟨p, hp⟩ := List.getElem?_of_mem hq
      rw [hlen]
      exact (hown p q hp).choose_spec.2.2
    · intro p b q hb hq
      obtain ⟨i, e1, e2⟩ := hℓs p b hb
      obtain ⟨i', e3, e4, e5⟩ := hown p q hq
      rw [e1] at e3; cases e3
      exact (hG.own i b _ e2 e4).unren hr e5 hJin
    · intro ac hac'
      exact (hG.accs ac (hac.mem_iff.2 (List.mem_append.2 (.inl hac')))).keep (fun x _ hj => ⟨hJin x hj, rfl⟩) (fun _ _ _ => rfl)
    · intro p hp
      exact (hG.reps p (hrs p hp)).map (fun b _ hb => ⟨hJin b hb, rfl⟩)
  have hJ0 : Fresh Js w := fun b hb => ⟨hJ b hb, fun hm => by have := hG.lt b hm; omega⟩
  obtain ⟨nx, h1, h2⟩ := h Js ℓs w hG0 hJ0
  refine ⟨nx, by rw [cal_sem_ren hr args cl hargs hcl]; exact h1, h2.mono ?_⟩
  rintro e w' ⟨ℓ', o, s', he, hwf, hpre, hx, hG', hf, hR⟩
  obtain ⟨kept, new, hs', hmut, hK⟩ := k o s' hR hwf hG'.wf
  obtain ⟨ℓn, rfl⟩ := hpre
  have hklen : kept.length = ix.length := by have := congrArg List.length hmut; simpa [hlen] using this
  have hnlen : ℓn.length = new.length := by
    have := hG'.len
    simp only [hs', List.length_append, hℓslen, hklen] at this
    omega
  have hslen : s'.own.length = ix.length + new.length := by rw [hs', List.length_append, hklen]
  -- what may be written behind the call
  have hM' : mutS (ℓs ++ ℓn) s' = (mutL ℓs own ++ mutL ℓn new) ++ s'.accs.flatMap bl := by
    simp only [mutS]
    rw [hs', mutL_append (by rw [hℓslen, hklen]), mutL_congr hmut]
  have hnM := hG'.nodup
  rw [hM', List.nodup_append, List.nodup_append] at hnM
  obtain ⟨⟨_, hnB, hsB⟩, hnC', hsBC⟩ := hnM
  have memM : ∀ x, x ∈ mutS (ℓs ++ ℓn) s' ↔ x ∈ mutL ℓs own ∨ x ∈ mutL ℓn new ∨ x ∈ s'.accs.flatMap bl := by
    intro x; rw [hM', List.mem_append, List.mem_append, or_assoc]
  -- what is new, is new
  have hnew : ∀ x, x ∈ mutL ℓn new ∨ x ∈ s'.accs.flatMap bl → x ∈ accs.flatMap bl ∨ w.heap.size ≤ x := by
    intro x hx'
    have hm : x ∈ mutS (ℓs ++ ℓn) s' := (memM x).2 (.inr hx')
    rcases hf x hm with h3 | h3
    · rcases (mems x).1 h3 with h4 | h4
      · exfalso
        rcases hx' with h5 | h5
        · exact hsB x h4 x h5 rfl
        · exact hsBC x (List.mem_append.2 (.inl h4)) x h5 rfl
      · exact .inl h4
    · exact .inr h3
  have hltS : ∀ x, x ∈ mutS ℓ S → x < w.heap.size := hG.lt
  have hnA' : ∀ x, x ∈ mutL ℓ S.own → x ∈ mutL ℓn new ∨ x ∈ s'.accs.flatMap bl → False := by
    intro x h3 h4
    rcases hnew x h4 with h5 | h5
    · exact hAC x h3 h5
    · have := hltS x ((memS x).2 (.inl h3)); omega
  have hnR' : ∀ x, x ∈ rest.flatMap bl → x ∈ mutL ℓn new ∨ x ∈ s'.accs.flatMap bl → False := by
    intro x h3 h4
    rcases hnew x h4 with h5 | h5
    · exact hCR' x h5 h3
    · have := hltS x ((memS x).2 (.inr (.inr h3))); omega
  let S' : St := ⟨setAll S.own ix (kept.map (Blk.ren r)) ++ new.map (Blk.ren r), s'.accs ++ rest, S.reps ++ s'.reps⟩
  have hflag : ∀ (p i : Nat) (q : Blk), ix[p]? = some i → (kept.map (Blk.ren r))[p]? = some q → ∃ q', S.own[i]? = some q' ∧ q'.mut = q.mut := by
    intro p i q hp hq
    simp only [List.getElem?_map, Option.map_eq_some_iff] at hq
    obtain ⟨q0, hq0, rfl⟩ := hq
    have hp' : p < own.length := by rw [hlen]; exact (List.getElem?_eq_some_iff.1 hp).1
    obtain ⟨i', e1, e2, _⟩ := hown p own[p] (List.getElem?_eq_getElem hp')
    rw [hp] at e1; cases e1
    refine ⟨_, e2, ?_⟩
    rw [Blk.ren_mut, Blk.ren_mut]
    have := congrArg (fun l => l[p]?) hmut
    simp only [List.getElem?_map, hq0, List.getElem?_eq_getElem hp', Option.map_some, Option.some.injEq] at this
    exact this.symm
  have hmutnew : mutL ℓn (new.map (Blk.ren r)) = mutL ℓn new := by
    refine mutL_congr ?_
    simp [Blk.ren_mut]
  have hMf : mutS (ℓ ++ ℓn) S' = (mutL ℓ S.own ++ mutL ℓn new) ++ (s'.accs.flatMap bl ++ rest.flatMap bl) := by
    simp only [mutS, S']
    rw [mutL_append (by rw [setAll_length]; exact hG.len), mutL_congr (setAll_mut ix _ S.own hflag hn), hmutnew, List.flatMap_append]
  have memF : ∀ x, x ∈ mutS (ℓ ++ ℓn) S' ↔ x ∈ mutL ℓ S.own ∨ x ∈ mutL ℓn new ∨ x ∈ s'.accs.flatMap bl ∨ x ∈ rest.flatMap bl := by
    intro x; rw [hMf]; simp only [List.mem_append, or_assoc]
  have hfresh : ∀ x, x ∈ mutS (ℓ ++ ℓn) S' → x ∈ mutS ℓ S ∨ w.heap.size ≤ x := by
    intro x hx'
    rcases (memF x).1 hx' with h3 | h3 | h3 | h3
    · exact .inl ((memS x).2 (.inl h3))
    · exact (hnew x (.inl h3)).imp (fun h4 => (memS x).2 (.inr (.inl h4))) id
    · exact (hnew x (.inr h3)).imp (fun h4 => (memS x).2 (.inr (.inl h4))) id
    · exact .inl ((memS x).2 (.inr (.inr h3)))
  have hkeepJ : ∀ x, x < w.heap.size → Jx J (mutS ℓ S) x → Jx J (mutS (ℓ ++ ℓn) S') x ∧ w'.heap[x]? = w.heap[x]? :=
    fun x hx' hj => ⟨⟨hj.1, fun hm => by rcases hfresh x hm with h3 | h3; exact hj.2 h3; omega⟩, hx.block x hx' (fun hm => hj.2 (hmemS x hm))⟩
  have hJout : ∀ x, Jx Js (mutS (ℓs ++ ℓn) s') x → Jx J (mutS (ℓ ++ ℓn) S') x := by
    rintro x ⟨⟨h3, h4⟩, h5⟩
    refine ⟨h3, fun hm => ?_⟩
    rcases (memF x).1 hm with h6 | h6 | h6 | h6
    · rcases (mems x).1 (h4 ((memS x).2 (.inl h6))) with h7 | h7
      · exact h5 ((memM x).2 (.inl h7))
      · exact hAC x h6 h7
    · exact h5 ((memM x).2 (.inr (.inl h6)))
    · exact h5 ((memM x).2 (.inr (.inr h6)))
    · rcases (mems x).1 (h4 ((memS x).2 (.inr (.inr h6)))) with h7 | h7
      · exact hAR x (hmem x h7) h6
      · exact hCR' x h7 h6
  -- the new numbers
  have hr' : ∀ i, i < s'.own.length → (ℓ ++ ℓn).getD (r i) default = (ℓs ++ ℓn).getD i default := by
    intro i hi
    rcases Nat.lt_or_ge i ix.length with h3 | h3
    · have hlt : r i < ℓ.length := by rw [rlow i _ (List.getElem?_eq_getElem h3), hG.len]; exact hixlt i _ (List.getElem?_eq_getElem h3)
      rw [getD_append_left hlt, getD_append_left (by rw [hℓslen]; exact h3)]
      exact hr i h3
    · have e1 : r i = ℓ.length + (i - ix.length) := by simp [r, rixN, Nat.not_lt.2 h3, hG.len]
      rw [e1]
      simp only [List.getD]
      rw [List.getElem?_append_right (by omega), List.getElem?_append_right (by rw [hℓslen]; exact h3), hℓslen, Nat.add_sub_cancel_left]
  have hS'len : S'.own.length = S.own.length + new.length := by simp [S', setAll_length]
  have hrlt : ∀ i, i < s'.own.length → r i < S'.own.length := by
    intro i hi
    rw [hS'len]
    rcases Nat.lt_or_ge i ix.length with h3 | h3
    · have := hixlt i _ (List.getElem?_eq_getElem h3)
      rw [rlow i _ (List.getElem?_eq_getElem h3)]; omega
    · have e1 : r i = S.own.length + (i - ix.length) := by simp [r, rixN, Nat.not_lt.2 h3]
      rw [e1]; rw [hslen] at hi; omega
  have hℓold : ∀ i, i < S.own.length → (ℓ ++ ℓn).getD i default = ℓ.getD i default := fun i hi => getD_append_left (by rw [hG.len]; exact hi)
  have hsub : ∀ x, x ∈ mutS ℓs ⟨own, accs, rs⟩ → x < w.heap.size → x ∈ mutS ℓ S := fun x hm _ => hmemS x hm
  refine ⟨ℓ ++ ℓn, o.ren r, S', ?_, ?_, List.prefix_append _ _, hx.mono hsub, ?_, hfresh, hK⟩
  · rw [he]
    cases o with
    | ret x => simp only [Out.ren, Out.ending]; rw [SV.den_ren hr' x hwf]
    | pan x => simp only [Out.ren, Out.ending]; rw [SV.den_ren hr' x hwf]
  · cases o with
    | ret x => exact SV.wf_ren hrlt x hwf
    | pan x => exact SV.wf_ren hrlt x hwf
  · constructor
    · rw [hS'len, List.length_append, hG.len, hnlen]
    · rw [hMf, List.nodup_append, List.nodup_append, List.nodup_append]
      refine ⟨⟨hnA, hnB, fun x h3 y h4 e => hnA' x h3 (.inl (e ▸ h4))⟩, ⟨hnC', hnR, fun x h3 y h4 e => hnR' x (e ▸ h4) (.inr h3)⟩, ?_⟩
      intro x h3 y h4 e
      subst e
      rcases List.mem_append.1 h3 with h5 | h5
      · rcases List.mem_append.1 h4 with h6 | h6
        · exact hnA' x h5 (.inr h6)
        · exact hAR x h5 h6
      · rcases List.mem_append.1 h4 with h6 | h6
        · exact hsBC x (List.mem_append.2 (.inr h5)) x h6 rfl
        · exact hnR' x h6 (.inl h5)
    · intro x hx'
      rcases (memF x).1 hx' with h3 | h3 | h3 | h3
      · exact Nat.lt_of_lt_of_le (hltS x ((memS x).2 (.inl h3))) hx.size
      · exact hG'.lt x ((memM x).2 (.inr (.inl h3)))
      · exact hG'.lt x ((memM x).2 (.inr (.inr h3)))
      · exact Nat.lt_of_lt_of_le (hltS x ((memS x).2 (.inr (.inr h3)))) hx.size
    · intro x hx'
      rcases (memF x).1 hx' with h3 | h3 | h3 | h3
      · exact hG.memJ x ((memS x).2 (.inl h3))
      · exact (hG'.memJ x ((memM x).2 (.inr (.inl h3)))).1
      · exact (hG'.memJ x ((memM x).2 (.inr (.inr h3)))).1
      · exact hG.memJ x ((memS x).2 (.inr (.inr h3)))
    · intro q hq
      rcases List.mem_append.1 hq with hq | hq
      · obtain ⟨i, hi⟩ := List.getElem?_of_mem hq
        by_cases hix : i ∈ ix
        · obtain ⟨p, hp⟩ := List.getElem?_of_mem hix
          have hp' : p < kept.length := by rw [hklen]; exact (List.getElem?_eq_some_iff.1 hp).1
          rw [setAll_at ix _ S.own p i ((kept[p]).ren r) hn hp (by simp [List.getElem?_eq_getElem hp']) (hixlt p i hp)] at hi
          cases hi
          exact Blk.wf_ren hrlt (hG'.wf _ (by rw [hs']; exact List.mem_append.2 (.inl (List.getElem_mem hp'))))
        · rw [setAll_other ix _ _ i hix] at hi
          exact Blk.wf_mono (by rw [hS'len]; omega) (wf_of_mem hG.wf hi)
      · obtain ⟨q0, hq0, rfl⟩ := List.mem_map.1 hq
        exact Blk.wf_ren hrlt (hG'.wf _ (by rw [hs']; exact List.mem_append.2 (.inr hq0)))
    · intro i b q hb hq
      simp only [S'] at hq
      rcases Nat.lt_or_ge i S.own.length with hlt | hge
      · rw [List.getElem?_append_left (by rw [hG.len]; exact hlt)] at hb
        rw [List.getElem?_append_left (by rw [setAll_length]; exact hlt)] at hq
        by_cases hix : i ∈ ix
        · obtain ⟨p, hp⟩ := List.getElem?_of_mem hix
          have hp' : p < kept.length := by rw [hklen]; exact (List.getElem?_eq_some_iff.1 hp).1
          rw [setAll_at ix _ S.own p i ((kept[p]).ren r) hn hp (by simp [List.getElem?_eq_getElem hp']) (hixlt p i hp)] at hq
          cases hq
          have hbp : (ℓs ++ ℓn)[p]? = some b := by
            rw [List.getElem?_append_left (by rw [hℓslen, ← hklen]; exact hp')]
            simp [ℓs, List.getElem?_map, hp, List.getD, hb]
          have hkp : s'.own[p]? = some kept[p] := by rw [hs', List.getElem?_append_left hp', List.getElem?_eq_getElem hp']
          exact (hG'.own p b _ hbp hkp).ren hr' (wf_of_mem hG'.wf hkp) hJout
        · rw [setAll_other ix _ _ i hix] at hq
          have h0 := hG.own i b q hb hq
          have hwq := wf_of_mem hG.wf hq
          by_cases hqm : q.mut = true
          · refine h0.keep hwq hℓold (fun x hx' hj => (hkeepJ x hx' hj).1) (fun hlt => hx.block _ hlt (fun hm => ?_))
            have hbA : b.block ∈ mutL ℓ S.own := mem_mutL.2 ⟨i, b, q, hb, hq, hqm, rfl⟩
            rcases (mems _).1 hm with hm | hm
            · obtain ⟨p, b', q', e1, e2, e3, e4⟩ := mem_mutL.1 hm
              obtain ⟨j, e5, e6⟩ := hℓs p b' e1
              obtain ⟨j', e7, e8, _⟩ := hown p q' e2
              rw [e5] at e7; cases e7
              have := mutL_uniq hnA i j b b' _ _ hb hq hqm e6 e8 (by rw [Blk.ren_mut]; exact e3) e4.symm
              subst this
              exact hix (List.mem_of_getElem? e5)
            · exact hAC _ hbA hm
          · cases q with
            | cells T cs => simp [Blk.mut] at hqm
            | obj oo => simp [Blk.mut] at hqm
            | lp x => simp [Blk.mut] at hqm
            | iter i s n p => simp [Blk.mut] at hqm
            | imm cs =>
              have hj0 := h0
              simp only [BlkOK] at hj0
              exact h0.keep hwq hℓold (fun x hx' hj => (hkeepJ x hx' hj).1) (fun hlt => (hkeepJ _ hlt hj0.1).2)
            | dead => trivial
      · rw [List.getElem?_append_right (by rw [hG.len]; exact hge)] at hb
        rw [List.getElem?_append_right (by rw [setAll_length]; exact hge)] at hq
        rw [setAll_length] at hq
        rw [hG.len] at hb
        simp only [List.getElem?_map, Option.map_eq_some_iff] at hq
        obtain ⟨q0, hq0, rfl⟩ := hq
        have hbp : (ℓs ++ ℓn)[ix.length + (i - S.own.length)]? = some b := by
          rw [List.getElem?_append_right (by rw [hℓslen]; omega), hℓslen, Nat.add_sub_cancel_left]; exact hb
        have hkp : s'.own[ix.length + (i - S.own.length)]? = some q0 := by
          rw [hs', List.getElem?_append_right (by rw [hklen]; omega), hklen, Nat.add_sub_cancel_left]; exact hq0
        exact (hG'.own _ b _ hbp hkp).ren hr' (wf_of_mem hG'.wf hkp) hJout
    · intro ac hac'
      rcases List.mem_append.1 hac' with h3 | h3
      · exact (hG'.accs ac h3).keep (fun x _ hj => ⟨hJout x hj, rfl⟩) (fun _ _ _ => rfl)
      · refine (hG.accs ac (hac.mem_iff.2 (List.mem_append.2 (.inr h3)))).keep hkeepJ (fun x hxa hlt => hx.block x hlt (fun hm => ?_))
        have hxR : x ∈ rest.flatMap bl := List.mem_flatMap.2 ⟨ac, h3, hxa⟩
        rcases (mems x).1 hm with h4 | h4
        · exact hAR x (hmem x h4) hxR
        · exact hCR' x h4 hxR
    · intro p hp
      rcases List.mem_append.1 hp with h3 | h3
      · exact (hG.reps p h3).map hkeepJ
      · exact (hG'.reps p h3).map (fun x _ hj => ⟨hJout x hj, rfl⟩)

mutual
theorem SV.ren_congr {n : Nat} {r r' : Nat → Nat} (h : ∀ i, i < n → r i = r' i) : ∀ (s : SV), s.wf n = true → s.ren r = s.ren r'
  | .v _, _ => rfl
  | .loc i off, hw => by simp only [SV.wf, blt_true] at hw; simp only [SV.ren, h i hw]
  | .fn f first caps, hw => by
    simp only [SV.wf, Bool.and_eq_true] at hw
    simp only [SV.ren, SV.renL_congr h first hw.1, SV.renL_congr h caps hw.2]
  | .agg cs, hw => by simp only [SV.wf] at hw; simp only [SV.ren, SV.renL_congr h cs hw]
  | .tup xs, hw => by simp only [SV.wf] at hw; simp only [SV.ren, SV.renL_congr h xs hw]
  | .mp i, hw => by simp only [SV.wf, blt_true] at hw; simp only [SV.ren, h i hw]
  | .ifc t s, hw => by simp only [SV.wf] at hw; simp only [SV.ren, SV.ren_congr h s hw]
  | .yld i, hw => by simp only [SV.wf, blt_true] at hw; simp only [SV.ren, h i hw]
theorem SV.renL_congr {n : Nat} {r r' : Nat → Nat} (h : ∀ i, i < n → r i = r' i) : ∀ (l : List SV), SV.wfL n l = true → SV.renL r l = SV.renL r' l
  | [], _ => rfl
  | s :: ss, hw => by
    simp only [SV.wfL, Bool.and_eq_true] at hw
    simp only [SV.renL, SV.ren_congr h s hw.1, SV.renL_congr h ss hw.2]
 end

theorem envRen_congr {n : Nat} {r r' : Nat → Nat} (h : ∀ i, i < n → r i = r' i) : ∀ {env : Env}, envWf n env = true → envRen r env = envRen r' env
  | [], _ => rfl
  | (t, s) :: e, hw => by
    simp only [envWf] at hw
    split at hw
    · rename_i hs; simp only [envRen, SV.ren_congr h s hs, envRen_congr h hw]
    · cases hw

theorem Blk.ren_congr {n : Nat} {r r' : Nat → Nat} (h : ∀ i, i < n → r i = r' i) {k : Blk} (hw : k.wf n = true) : k.ren r = k.ren r' := by
  cases k <;> simp only [Blk.wf, Blk.ren] at hw ⊢
  · rw [SV.renL_congr h _ hw]
  · rw [SV.renL_congr h _ hw]
  · rw [envRen_congr h hw]
  · simp only [blt_true] at hw; rw [h _ hw]

theorem rixN_low (ix : List Nat) (n : Nat) : ∀ i, i < ix.length → rix ix i = rixN ix n i := fun i hi => by simp [rixN, rix, hi]

/-- At a call that is handed the own blocks ix: its contract is over these alone (numbered anew); it hands back these. -/
theorem Meets.frame {P : Program} {cl : Cal} {args : List SV} {own : List Blk} {rs : List (Value × D)} {R : Out → St → Prop} {S : St} {K : Out → St → Prop} {cl' : Cal} {args' : List SV} (h : Meets P cl args ⟨own, [], rs⟩ R) (ix : List Nat)
    (hcl' : cl' = cl.ren (rix ix)) (hargs' : args' = SV.renL (rix ix) args)
    (hn : ix.Nodup) (hlen : own.length = ix.length) (hown : ∀ (p : Nat) (k : Blk), own[p]? = some k → ∃ i, ix[p]? = some i ∧ S.own[i]? = some (k.ren (rix ix)) ∧ k.wf ix.length = true)
    (hrs : ∀ p ∈ rs, p ∈ S.reps) (hargs : SV.wfL ix.length args = true) (hcl : cl.wf ix.length = true)
    (k : ∀ o s', R o s' → s'.accs = [] ∧ s'.own.map Blk.mut = own.map Blk.mut ∧ ∃ ks, s'.own.map (Blk.ren (rix ix)) = ks ∧ forceL (setAll S.own ix ks) (fun own => putOwn S own (fun S1 => addReps S1 s'.reps (fun S' => K (o.ren (rix ix)) S')))) : Meets P cl' args' S K := by
  simp only [forceL_eq, putOwn_eq, addReps_eq] at k
  have hc := rixN_low ix S.own.length
  refine Meets.frameG (rest := S.accs) h ix ?_ ?_ (List.Perm.refl _) hn hlen ?_ hrs hargs hcl ?_
  · rw [hcl']
    cases cl with
    | val F => simp only [Cal.ren]; rw [SV.ren_congr hc F hcl]
    | meth x name => simp only [Cal.ren]; rw [SV.ren_congr hc x hcl]
  · rw [hargs', SV.renL_congr hc args hargs]
  · intro p q hp
    obtain ⟨i, h1, h2, h3⟩ := hown p q hp
    exact ⟨i, h1, by rw [← Blk.ren_congr hc h3]; exact h2, h3⟩
  · intro o s' hR hwo hws
    obtain ⟨ha, hmut, ks, hks, hK⟩ := k o s' hR
    have hsl : s'.own.length = ix.length := by have := congrArg List.length hmut; simpa [hlen] using this
    refine ⟨s'.own, [], by simp, hmut, ?_⟩
    have e1 : s'.own.map (Blk.ren (rixN ix S.own.length)) = ks := by
      rw [← hks]
      refine List.map_congr_left (fun q hq => ?_)
      exact (Blk.ren_congr hc (by rw [← hsl]; exact hws q hq)).symm
    have e2 : o.ren (rixN ix S.own.length) = o.ren (rix ix) := by
      cases o with
      | ret x => simp only [Out.ren]; rw [SV.ren_congr hc x (by rw [← hsl]; exact hwo)]
      | pan x => simp only [Out.ren]; rw [SV.ren_congr hc x (by rw [← hsl]; exact hwo)]
    rw [e1, e2, ha]
    simpa using hK

end Go.Tr
