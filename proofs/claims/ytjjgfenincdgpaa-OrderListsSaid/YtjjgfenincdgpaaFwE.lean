/- How a state goes on describing the world when a block is made or written (Good.push, Good.update), and when parts of it are forgotten. No condition: lemmas for the other texts. -/
import Derived.Test.YtjjgfenincdgpaaFwC
import Derived.Test.YtjjgfenincdgpaaFwD
import Derived.Laws.CopyRow
namespace Go.Tr
open Go

theorem mem_mutL {x : Nat} : ∀ {ℓ : List Base} {own : List Blk}, x ∈ mutL ℓ own ↔ ∃ (i : Nat) (b : Base) (k : Blk), ℓ[i]? = some b ∧ own[i]? = some k ∧ k.mut = true ∧ b.block = x
  | [], own => by simp [mutL]
  | b :: ℓ, [] => by simp [mutL]
  | b :: ℓ, k :: ks => by
    simp only [mutL, List.mem_append, mem_mutL (ℓ := ℓ) (own := ks)]
    constructor
    · rintro (h | ⟨i, b', k', h1, h2, h3, h4⟩)
      · split at h
        · rename_i hk
          exact ⟨0, b, k, rfl, rfl, hk, (by simpa using h : x = b.block).symm⟩
        · simp at h
      · exact ⟨i + 1, b', k', by simpa using h1, by simpa using h2, h3, h4⟩
    · rintro ⟨i, b', k', h1, h2, h3, h4⟩
      cases i with
      | zero =>
        simp at h1 h2
        subst h1 h2
        left; simp [h3, h4]
      | succ i => right; exact ⟨i, b', k', by simpa using h1, by simpa using h2, h3, h4⟩

theorem mutL_append : ∀ {ℓ ℓ' : List Base} {own own' : List Blk}, ℓ.length = own.length → mutL (ℓ ++ ℓ') (own ++ own') = mutL ℓ own ++ mutL ℓ' own'
  | [], ℓ', [], own', _ => by simp [mutL]
  | [], _, _ :: _, _, h => by simp at h
  | _ :: _, _, [], _, h => by simp at h
  | b :: ℓ, ℓ', k :: ks, own', h => by simp only [List.cons_append, mutL, mutL_append (ℓ := ℓ) (own := ks) (by simpa using h), List.append_assoc]

theorem mutL_set : ∀ {ℓ : List Base} {own : List Blk} {i : Nat} {k k' : Blk}, own[i]? = some k → k'.mut = k.mut → mutL ℓ (own.set i k') = mutL ℓ own
  | [], own, i, k, k', _, _ => by cases own <;> cases i <;> simp [mutL]
  | b :: ℓ, [], i, k, k', h, _ => by simp at h
  | b :: ℓ, q :: ks, 0, k, k', h, hm => by simp at h; subst h; simp [mutL, hm]
  | b :: ℓ, q :: ks, i + 1, k, k', h, hm => by simp only [List.set_cons_succ, mutL]; rw [mutL_set (i := i) (by simpa using h) hm]

theorem mutL_take : ∀ {ℓ : List Base} {own : List Blk} (n : Nat), (mutL (ℓ.take n) (own.take n)).Sublist (mutL ℓ own)
  | [], own, n => by simp [mutL]
  | b :: ℓ, [], n => by cases n <;> simp [mutL]
  | b :: ℓ, k :: ks, 0 => by simp [mutL]
  | b :: ℓ, k :: ks, n + 1 => by simp only [List.take_succ_cons, mutL]; exact (List.Sublist.refl _).append (mutL_take n)

theorem wf_of_mem {own : List Blk} {n : Nat} (h : ∀ k ∈ own, k.wf n = true) {i : Nat} {k : Blk} (hi : own[i]? = some k) : k.wf n = true := h k (List.mem_of_getElem? hi)

theorem Blk.wf_mono {n m : Nat} (h : n ≤ m) {k : Blk} (hk : k.wf n = true) : k.wf m = true := by
  cases k <;> simp only [Blk.wf] at hk ⊢
  · exact SV.wfL_mono h _ hk
  · exact SV.wfL_mono h _ hk
  · exact envWf_mono h hk
  · simp only [blt_true] at hk ⊢; omega

/-- A block's description in a world that holds the same there, at more own blocks. -/
theorem BlkOK.keep {J J' : Nat → Prop} {ℓ ℓ' : List Base} {w w' : World} {b : Base} {k : Blk} {n : Nat} (h : BlkOK J ℓ w b k) (hwf : k.wf n = true) (hℓ : ∀ i, i < n → ℓ'.getD i default = ℓ.getD i default)
    (hJ : ∀ x, x < w.heap.size → J x → J' x) (hw : b.block < w.heap.size → w'.heap[b.block]? = w.heap[b.block]?) : BlkOK J' ℓ' w' b k := by
  cases k with
  | cells T cs =>
    simp only [BlkOK, Blk.wf] at h hwf ⊢
    rw [SV.denL_congr hℓ cs hwf, hw (lt_of_get h.2)]
    exact h
  | obj o =>
    simp only [BlkOK] at h ⊢
    rw [hw (lt_of_get h.2)]
    exact h
  | imm cs =>
    simp only [BlkOK, Blk.wf] at h hwf ⊢
    obtain ⟨hj, c, T, fz, hb, k', ht⟩ := h
    have hlt := lt_of_get hb
    exact ⟨hJ _ hlt hj, c, T, fz, (hw hlt).trans hb, k', by rw [SV.denL_congr hℓ cs hwf]; exact ht⟩
  | dead => trivial
  | lp x =>
    simp only [BlkOK, Blk.wf] at h hwf ⊢
    obtain ⟨h0, r, hb, h1, h2, h3, h4, h5, h6, h7⟩ := h
    exact ⟨h0, r, (hw (lt_of_get hb)).trans hb, h1, h2, h3, h4, h5, h6, fun t s hs => by rw [SV.den_congr hℓ s (envWf_spec hwf t s hs)]; exact h7 t s hs⟩
  | iter i s n p =>
    simp only [BlkOK, Blk.wf, blt_true] at h hwf ⊢
    rw [hw (lt_of_get h.2), hℓ i hwf]
    exact h

theorem AccOK.keep {J J' : Nat → Prop} {w w' : World} {a : Acc} (h : AccOK J w a) (hJ : ∀ x, x < w.heap.size → J x → J' x ∧ w'.heap[x]? = w.heap[x]?) (hw : ∀ x ∈ accBlk a.v, x < w.heap.size → w'.heap[x]? = w.heap[x]?) : AccOK J' w' a := by
  rcases h with h | ⟨b, cap, c, hv, hb, hs, hl, hr⟩
  · exact .inl h
  · exact .inr ⟨b, cap, c, hv, (hw b (by simp [hv, accBlk]) (lt_of_get hb)).trans hb, hs, hl, RepE.map hJ _ _ _ hr⟩

theorem getD_append_left {ℓ ℓ' : List Base} {i : Nat} (h : i < ℓ.length) : (ℓ ++ ℓ').getD i default = ℓ.getD i default := by
  simp [List.getD, List.getElem?_append_left h]

theorem prefix_getD {ℓ ℓ' : List Base} (h : ℓ <+: ℓ') {i : Nat} (hi : i < ℓ.length) : ℓ'.getD i default = ℓ.getD i default := by
  obtain ⟨t, rfl⟩ := h
  exact getD_append_left hi

theorem mutS_push {ℓ : List Base} {S : St} (hl : ℓ.length = S.own.length) (b : Base) (k : Blk) : ∀ x, x ∈ mutS (ℓ ++ [b]) ⟨S.own ++ [k], S.accs, S.reps⟩ ↔ x ∈ mutS ℓ S ∨ (k.mut = true ∧ x = b.block) := by
  intro x
  simp only [mutS, mutL_append hl, List.mem_append, mutL, List.append_nil]
  constructor
  · rintro ((h | h) | h)
    · exact .inl (.inl h)
    · split at h
      · rename_i hk; exact .inr ⟨hk, by simpa using h⟩
      · simp at h
    · exact .inl (.inr h)
  · rintro ((h | h) | ⟨h, rfl⟩)
    · exact .inl (.inl h)
    · exact .inr h
    · exact .inl (.inr (by simp [h]))

/-- A new block in a world that has kept all others. -/
theorem Good.push {J : Nat → Prop} {ℓ : List Base} {S : St} {w w' : World} (h : Good J ℓ S w) (b : Base) (k : Blk) (hwf : k.wf S.own.length = true) (hb : k.mut = true → w.heap.size ≤ b.block ∧ b.block < w'.heap.size ∧ J b.block)
    (hsize : w.heap.size ≤ w'.heap.size) (hw : ∀ x, x < w.heap.size → w'.heap[x]? = w.heap[x]?)
    (hok : BlkOK (Jx J (mutS (ℓ ++ [b]) ⟨S.own ++ [k], S.accs, S.reps⟩)) ℓ w' b k) : Good J (ℓ ++ [b]) ⟨S.own ++ [k], S.accs, S.reps⟩ w' := by
  have hm := mutS_push h.len b k
  have hJ : ∀ x, x < w.heap.size → Jx J (mutS ℓ S) x → Jx J (mutS (ℓ ++ [b]) ⟨S.own ++ [k], S.accs, S.reps⟩) x := by
    intro x hx ⟨h1, h2⟩
    refine ⟨h1, fun hx' => ?_⟩
    rcases (hm x).1 hx' with h3 | ⟨h3, rfl⟩
    · exact h2 h3
    · have := (hb h3).1; omega
  have hget : ∀ i, i < S.own.length → (ℓ ++ [b]).getD i default = ℓ.getD i default := fun i hi => getD_append_left (by rw [h.len]; exact hi)
  constructor
  · simp [h.len]
  · simp only [mutS, mutL_append h.len, mutL, List.append_nil]
    have hn := h.nodup
    simp only [mutS] at hn
    rw [List.nodup_append] at hn
    split
    · rename_i hk
      have hb' := hb hk
      rw [List.append_assoc, List.nodup_append]
      refine ⟨hn.1, ?_, ?_⟩
      · rw [List.singleton_append, List.nodup_cons]
        refine ⟨fun hx => ?_, hn.2.1⟩
        have := h.lt b.block (by simp only [mutS]; exact List.mem_append.2 (.inr hx))
        omega
      · intro x hx y hy
        rcases List.mem_append.1 hy with h1 | h1
        · have := h.lt x (by simp only [mutS]; exact List.mem_append.2 (.inl hx))
          simp at h1
          omega
        · exact hn.2.2 x hx y h1
    · rw [List.append_nil]; exact List.nodup_append.2 hn
  · intro x hx
    rcases (hm x).1 hx with h1 | ⟨h1, rfl⟩
    · exact Nat.lt_of_lt_of_le (h.lt x h1) hsize
    · exact (hb h1).2.1
  · intro x hx
    rcases (hm x).1 hx with h1 | ⟨h1, rfl⟩
    · exact h.memJ x h1
    · exact (hb h1).2.2
  · intro q hq
    simp only [List.length_append, List.length_singleton]
    rcases List.mem_append.1 hq with h1 | h1
    · exact Blk.wf_mono (by omega) (h.wf q h1)
    · simp at h1; subst h1; exact Blk.wf_mono (by omega) hwf
  · intro i b' k' hi hk'
    simp only at hk'
    rcases Nat.lt_or_ge i S.own.length with hlt | hge
    · rw [List.getElem?_append_left (by rw [h.len]; exact hlt)] at hi
      rw [List.getElem?_append_left hlt] at hk'
      have := h.own i b' k' hi hk'
      exact this.keep (wf_of_mem h.wf hk') hget hJ (fun hx => hw _ hx)
    · rw [List.getElem?_append_right (by rw [h.len]; exact hge)] at hi
      rw [List.getElem?_append_right hge] at hk'
      have e1 : i - ℓ.length = 0 := by
        rcases Nat.eq_zero_or_pos (i - ℓ.length) with h0 | h0
        · exact h0
        · rw [List.getElem?_eq_none (by simp; omega)] at hi; cases hi
      have e2 : i - S.own.length = 0 := by rw [h.len] at e1; exact e1
      rw [e1] at hi; rw [e2] at hk'
      simp at hi hk'
      subst hi hk'
      cases k with
      | cells T cs =>
        simp only [BlkOK, Blk.wf] at hok hwf ⊢
        rw [SV.denL_congr hget cs hwf]; exact hok
      | obj o => exact hok
      | imm cs =>
        simp only [BlkOK, Blk.wf] at hok hwf ⊢
        rw [SV.denL_congr hget cs hwf]; exact hok
      | dead => trivial
      | lp x => exact hok.keep hwf hget (fun _ _ hj => hj) (fun _ => rfl)
      | iter i s n p => exact hok.keep hwf hget (fun _ _ hj => hj) (fun _ => rfl)
  · intro a ha
    exact (h.accs a ha).keep (fun x hx hj => ⟨hJ x hx hj, hw x hx⟩) (fun x _ hx => hw x hx)
  · intro p hp
    exact (h.reps p hp).map (fun x hx hj => ⟨hJ x hx hj, hw x hx⟩)

/-- An own block that is written. -/
theorem Good.update {J : Nat → Prop} {ℓ : List Base} {S : St} {w w' : World} (h : Good J ℓ S w) {i : Nat} {b : Base} {k k' : Blk} (hk : S.own[i]? = some k) (hb : ℓ[i]? = some b) (hm : k.mut = true) (hm' : k'.mut = true) (hwf : k'.wf S.own.length = true)
    (hsize : w.heap.size ≤ w'.heap.size) (hw : ∀ x, x < w.heap.size → x ≠ b.block → w'.heap[x]? = w.heap[x]?) (hok : BlkOK (Jx J (mutS ℓ S)) ℓ w' b k') : Good J ℓ ⟨S.own.set i k', S.accs, S.reps⟩ w' := by
  have hmut : mutS ℓ ⟨S.own.set i k', S.accs, S.reps⟩ = mutS ℓ S := by
    simp only [mutS]; rw [mutL_set hk (hm'.trans hm.symm)]
  have hbm : b.block ∈ mutS ℓ S := by simp only [mutS]; exact List.mem_append.2 (.inl (mem_mutL.2 ⟨i, b, k, hb, hk, hm, rfl⟩))
  have hJ : ∀ x, x < w.heap.size → Jx J (mutS ℓ S) x → Jx J (mutS ℓ S) x ∧ w'.heap[x]? = w.heap[x]? :=
    fun x hx hj => ⟨hj, hw x hx (fun e => hj.2 (e ▸ hbm))⟩
  have hn := h.nodup
  simp only [mutS] at hn
  rw [List.nodup_append] at hn
  -- two different places of a list without repetition
  have huniq : ∀ (ℓ : List Base) (own : List Blk), (mutL ℓ own).Nodup → ∀ (i j : Nat) (b b' : Base) (k k' : Blk), ℓ[i]? = some b → own[i]? = some k → k.mut = true → ℓ[j]? = some b' → own[j]? = some k' → k'.mut = true → b.block = b'.block → i = j := by
    intro ℓ
    induction ℓ with
    | nil => intro own _ i j b b' k k' h1; simp at h1
    | cons c ℓ ih =>
      intro own hnd i j b b' k k' h1 h2 h3 h4 h5 h6 h7
      cases own with
      | nil => simp at h2
      | cons q own =>
        simp only [mutL] at hnd
        rw [List.nodup_append] at hnd
        cases i with
        | zero =>
          cases j with
          | zero => rfl
          | succ j =>
            simp at h1 h2 h4 h5
            subst h1 h2
            simp only [h3, if_true] at hnd
            exact (hnd.2.2 c.block (by simp) b'.block (mem_mutL.2 ⟨j, b', k', h4, h5, h6, rfl⟩) h7).elim
        | succ i =>
          cases j with
          | zero =>
            simp at h1 h2 h4 h5
            subst h4 h5
            simp only [h6, if_true] at hnd
            exact (hnd.2.2 c.block (by simp) b.block (mem_mutL.2 ⟨i, b, k, h1, h2, h3, rfl⟩) h7.symm).elim
          | succ j =>
            simp at h1 h2 h4 h5
            rw [ih own hnd.2.1 i j b b' k k' h1 h2 h3 h4 h5 h6 h7]
  constructor
  · simp [h.len]
  · rw [hmut]; exact h.nodup
  · rw [hmut]; exact fun x hx => Nat.lt_of_lt_of_le (h.lt x hx) hsize
  · rw [hmut]; exact h.memJ
  · intro q hq
    simp only [List.length_set] at hq ⊢
    rcases List.mem_or_eq_of_mem_set hq with h1 | h1
    · exact h.wf q h1
    · subst h1; exact hwf
  · intro j b' q hj hq
    rw [hmut]
    simp only at hq
    by_cases hij : i = j
    · subst hij
      rw [hb] at hj
      cases hj
      rw [List.getElem?_set_self (by
        rcases Nat.lt_or_ge i S.own.length with h1 | h1
        · exact h1
        · rw [List.getElem?_eq_none h1] at hk; cases hk)] at hq
      cases hq
      exact hok
    · rw [List.getElem?_set_ne hij] at hq
      have h0 := h.own j b' q hj hq
      by_cases hqm : q.mut = true
      · have hne : b'.block ≠ b.block := fun e => hij (huniq ℓ S.own hn.1 i j b b' k q hb hk hm hj hq hqm e.symm)
        exact h0.keep (wf_of_mem h.wf hq) (fun _ _ => rfl) (fun x hx hj => (hJ x hx hj).1) (fun hx => hw _ hx hne)
      · cases q with
        | cells T cs => simp [Blk.mut] at hqm
        | obj o => simp [Blk.mut] at hqm
        | lp x => simp [Blk.mut] at hqm
        | iter i s n p => simp [Blk.mut] at hqm
        | imm cs =>
          have hj0 := h0
          simp only [BlkOK] at hj0
          refine h0.keep (wf_of_mem h.wf hq) (fun _ _ => rfl) (fun x hx hj => (hJ x hx hj).1) (fun hx => (hJ _ hx hj0.1).2)
        | dead => trivial
  · intro a ha
    rw [hmut]
    refine (h.accs a ha).keep hJ (fun x hx hlt => hw x hlt (fun e => ?_))
    subst e
    exact (hn.2.2 b.block (mem_mutL.2 ⟨i, b, k, hb, hk, hm, rfl⟩) b.block (List.mem_flatMap.2 ⟨a, ha, hx⟩) rfl).elim
  · intro p hp
    rw [hmut]
    exact (h.reps p hp).map hJ

theorem sublist_flatMap {α β : Type} (f : α → List β) : ∀ {l l' : List α}, l.Sublist l' → (l.flatMap f).Sublist (l'.flatMap f)
  | _, _, .slnil => by simp
  | _, _, .cons a h => by simp only [List.flatMap_cons]; exact (sublist_flatMap f h).trans (List.sublist_append_right _ _)
  | _, _, .cons_cons a h => by simp only [List.flatMap_cons]; exact (List.Sublist.refl _).append (sublist_flatMap f h)

/-- A part of the state. -/
theorem StLe.part (S : St) (n : Nat) (hn : n ≤ S.own.length) (hwf : ∀ k ∈ S.own.take n, k.wf n = true) (accs : List Acc) (ha : accs.Sublist S.accs) (reps : List (Value × D)) (hr : ∀ p ∈ reps, p ∈ S.reps) : StLe S ⟨S.own.take n, accs, reps⟩ := by
  have hlen : (S.own.take n).length = n := by rw [List.length_take]; omega
  refine ⟨by rw [hlen]; exact hn, fun J ℓ w h => ?_⟩
  rw [hlen]
  have hsub : (mutS (ℓ.take n) ⟨S.own.take n, accs, reps⟩).Sublist (mutS ℓ S) := by
    simp only [mutS]
    exact (mutL_take n).append (sublist_flatMap _ ha)
  have hmem : ∀ b ∈ mutS (ℓ.take n) ⟨S.own.take n, accs, reps⟩, b ∈ mutS ℓ S := fun b hb => hsub.subset hb
  have hJ : ∀ x, x < w.heap.size → Jx J (mutS ℓ S) x → Jx J (mutS (ℓ.take n) ⟨S.own.take n, accs, reps⟩) x ∧ w.heap[x]? = w.heap[x]? := fun x _ hj => ⟨⟨hj.1, fun hx => hj.2 (hmem x hx)⟩, rfl⟩
  refine ⟨?_, hmem⟩
  constructor
  · simp [h.len]
  · exact hsub.nodup h.nodup
  · exact fun b hb => h.lt b (hmem b hb)
  · exact fun b hb => h.memJ b (hmem b hb)
  · intro k hk; rw [hlen]; exact hwf k hk
  · intro i b k hi hk
    simp only at hk
    have hin : i < n := by
      rcases Nat.lt_or_ge i n with h1 | h1
      · exact h1
      · rw [List.getElem?_eq_none (by rw [hlen]; exact h1)] at hk; cases hk
    rw [List.getElem?_take, if_pos hin] at hi hk
    refine (h.own i b k hi hk).keep (hwf k (List.mem_of_getElem? (by rw [List.getElem?_take, if_pos hin]; exact hk))) (fun j hj => ?_) (fun x hx hj => (hJ x hx hj).1) (fun _ => rfl)
    simp [List.getD, hj]
  · intro a ha'
    exact (h.accs a (ha.subset ha')).keep hJ (fun _ _ _ => rfl)
  · intro p hp
    exact (h.reps p (hr p hp)).map hJ

end Go.Tr
