/- Merged texts: FwO FwP Tm Base SortLay TermA TermB TermC Sorted Free OrdA OrdB OrdC OrdD OrdE OrdF Ref3A. Rules for maps with int keys (made by the run itself), for walks over them. Conditions stand in each rule. Rules for interfaces, and for operations whose answer is one value. Conditions stand in each rule. Terms as plain data, and what the packages term and trussref03 compute over them. No condition: definitions and lemmas. What every contract of this seat wants. No condition. The facts that the library's contract of slices.Sort at []int asks of the program. No condition. TermA The contracts of term.proper and term.Check. Condition: the argument reads as a term (its slices are not longer than 2^60). The contracts of term.numbers' visitor, of maps.Keys' iterator and slices.Collect over it (at ints). Conditions stand in each. The contract of slices.Sort at a slice of ints that the run has made: it is sorted in its place. Condition: fewer than 2^62 elements. The contracts of maps.Keys, term.numbers and term.Free. Condition: the argument reads as a term. The contracts of order.isScope, order.isObject, term.Same. Condition: the arguments read as terms. The contract of order's match (its inner function). Condition: the arguments read as terms. The contracts of order's match and strip. Condition: the arguments read as terms; strip: each TLam has an argument, and the term is not nested deeper than 10^6. The contract of order's walk, for a visitor that is handed own blocks. Conditions: each TLam has an argument; what the visitor does stands in its contract. The contracts of order's within, compare and Compare. Conditions: for compare, each TLam has an argument, and the terms are not nested deeper than 10^6. Proper terms in plain words; the contract of order.Compare. Condition: the arguments read as terms. The contracts of trussref03's formed, nodes, Proper, Depth, Size, Same and below. Conditions: the arguments read as terms; Depth: a term nested at most 10^6 deep. -/
import Derived.Test.YtnolnmfpmhpapaaGreatDoorQD
import Derived.Laws.Small
import Derived.Laws.Build
import Derived.KernelRfl
import Derived.Shelf.Sort.Plain
import Derived.Sort.OwnSortedInts
/-! FwO -/
section
namespace Go.Tr
open Go
set_option linter.unusedSimpArgs false

/-- The entries of a map that nothing was taken from, the n-th one laid as the n-th. -/
def entries (q : IntKind) : List (Int × Value) → Nat → List MapEntry
  | [], _ => []
  | (k, v) :: r, i => ⟨.int q k, v, i⟩ :: entries q r (i + 1)

def mapO (q : IntKind) (l : List (Int × Value)) : Obj := .map (entries q l 0).toArray l.length

def lookM : List (Int × Value) → Int → Option Value
  | [], _ => none
  | (k, v) :: r, n => if n = k then some v else lookM r n

def putAt (n : Int) (v : Value) : List (Int × Value) → List (Int × Value)
  | [] => [(n, v)]
  | (k, u) :: r => if n = k then (k, v) :: r else (k, u) :: putAt n v r

theorem entries_length (q : IntKind) : ∀ (l : List (Int × Value)) (i : Nat), (entries q l i).length = l.length
  | [], _ => rfl
  | _ :: r, i => by simp [entries, entries_length q r]

theorem entries_append (q : IntKind) : ∀ (l l' : List (Int × Value)) (i : Nat), entries q (l ++ l') i = entries q l i ++ entries q l' (i + l.length)
  | [], l', i => by simp [entries]
  | (k, v) :: r, l', i => by
    simp only [List.cons_append, entries, entries_append q r l', List.length_cons]
    congr 3; omega

theorem findNow_entries (q : IntKind) (n : Int) : ∀ (l : List (Int × Value)) (i j : Nat), Instr.findNow (.int q) (.int q n) (entries q l i) j =
    some (match l.findIdx? (fun p => n = p.1) with
      | some m => (l[m]?).map (fun p => (j + m, p.2))
      | none => none)
  | [], i, j => by simp [entries, Instr.findNow]
  | (k, v) :: r, i, j => by
    simp only [entries, Instr.findNow, Instr.sameNow, if_true]
    by_cases h : n = k
    · subst h; simp [List.findIdx?_cons]
    · have hb : (n == k) = false := by simpa using h
      simp only [hb, findNow_entries q n r (i + 1) (j + 1), List.findIdx?_cons, h, decide_false]
      cases hf : r.findIdx? (fun p => n = p.1) with
      | none => simp
      | some m =>
        have e : j + 1 + m = j + (m + 1) := by omega
        simp [e]

theorem look_idx (n : Int) : ∀ (l : List (Int × Value)), lookM l n = match l.findIdx? (fun p => n = p.1) with
    | some m => (l[m]?).map (·.2)
    | none => none
  | [] => rfl
  | (k, v) :: r => by
    simp only [lookM, List.findIdx?_cons]
    by_cases h : n = k
    · subst h; simp
    · rw [if_neg h, look_idx n r]
      simp only [h, decide_false]
      cases hf : r.findIdx? (fun p => n = p.1) with
      | none => simp
      | some m => simp

theorem putAt_none (n : Int) (v : Value) : ∀ (l : List (Int × Value)), l.findIdx? (fun p => n = p.1) = none → putAt n v l = l ++ [(n, v)]
  | [], _ => rfl
  | (k, u) :: r, h => by
    simp only [List.findIdx?_cons] at h
    by_cases hk : n = k
    · subst hk; simp at h
    · simp only [putAt, if_neg hk, List.cons_append]
      rw [putAt_none n v r]
      cases hf : r.findIdx? (fun p => n = p.1) with
      | none => rfl
      | some m => rw [hf] at h; simp [hk] at h

theorem putAt_some (q : IntKind) (n : Int) (v : Value) : ∀ (l : List (Int × Value)) (m i : Nat), l.findIdx? (fun p => n = p.1) = some m → (entries q l i).modify m (fun e => { e with key := .int q n, val := v }) = entries q (putAt n v l) i ∧ (putAt n v l).length = l.length
  | [], m, i, h => by simp at h
  | (k, u) :: r, m, i, h => by
    simp only [List.findIdx?_cons] at h
    by_cases hk : n = k
    · subst hk
      simp at h
      subst h
      simp [putAt, entries]
    · simp only [hk, decide_false] at h
      cases hf : r.findIdx? (fun p => n = p.1) with
      | none => rw [hf] at h; simp at h
      | some m' =>
        rw [hf] at h
        simp at h
        subst h
        obtain ⟨h1, h2⟩ := putAt_some q n v r m' (i + 1) hf
        simp only [putAt, if_neg hk, entries, List.modify_succ_cons, h1, List.length_cons, h2, and_self]

theorem entries_key (q : IntKind) (l : List (Int × Value)) (i m : Nat) : ((entries q l i)[m]?).map (·.key) = (l[m]?).map (fun p => Value.int q p.1) := by
  induction l generalizing i m with
  | nil => simp [entries]
  | cons p r ih =>
    obtain ⟨k, v⟩ := p
    cases m with
    | zero => simp [entries]
    | succ m => simpa [entries] using ih (i + 1) m

theorem run_checkKey_int {P : Program} {k : TypeId} {q : IntKind} (hk : P.underlying k = some (.int q)) (b : Bool) (n : Int) (w : World) : (Instr.checkKey b 10000 k (.int q n)).run P w = .ok () w := by
  unfold Instr.checkKey
  simp [run_underlying hk]

/-- A map is made. -/
theorem at_makeMap {P : Program} {t : TypeId} (q : IntKind) {S : St} {K : SV → St → Prop} (h : forceL (S.own ++ [.obj (mapO q [])]) (fun own => putOwn S own (fun S' => K (.mp S.own.length) S'))) : AtSem P (fun ℓ => Instr.makeMap t (denO ℓ none)) S K := by
  rw [forceL_eq, putOwn_eq] at h
  constructor
  intro J ℓ w hG hJ
  have hold : ∀ x, x < w.heap.size → (w.alloc (mapO q [])).heap[x]? = w.heap[x]? := fun x hx => by
    show (w.heap.push _)[x]? = _
    rw [Array.getElem?_push, if_neg (by omega)]
  have hm := mutS_push hG.len (S := S) ⟨w.heap.size, 0⟩ (.obj (mapO q []))
  refine ⟨.mp S.own.length, ℓ ++ [⟨w.heap.size, 0⟩], _, w.alloc (mapO q []), ?_, by simp [SV.wf], List.prefix_append _ _, ⟨rfl, rfl, by simp, fun x hx _ => hold x hx⟩, ?_, ?_, h⟩
  · simp only [Instr.makeMap, denO, SV.den]
    rw [← hG.len, getD_new]
    simp [mapO, entries]
  · exact hG.push ⟨w.heap.size, 0⟩ (.obj _) rfl (fun _ => ⟨Nat.le_refl _, by simp, hJ _ (Nat.le_refl _)⟩) (by simp) hold ⟨rfl, World.alloc_heap_new w _⟩
  · intro x hx
    rcases (hm x).1 hx with h1 | ⟨_, h1⟩
    · exact .inl h1
    · subst h1; exact .inr (Nat.le_refl _)

theorem own_obj {J : Nat → Prop} {ℓ : List Base} {S : St} {w : World} (hG : Good J ℓ S w) {i : Nat} {o : Obj} (hi : nth S.own i = some (.obj o)) : ∃ b, ℓ[i]? = some b ∧ S.own[i]? = some (.obj o) ∧ (ℓ.getD i default).block = b.block ∧ b.off = 0 ∧ w.heap[b.block]? = some o := by
  have hk : S.own[i]? = some (.obj o) := by rw [← nth_eq]; exact hi
  obtain ⟨b, hb, hok⟩ := own_at hG hk
  simp only [BlkOK] at hok
  exact ⟨b, hb, hk, by simp [List.getD, hb], hok.1, hok.2⟩

theorem run_getMap {P : Program} {w : World} {r : Nat} {es : Array MapEntry} {c : Nat} (h : w.heap[r]? = some (.map es c)) : (getObj r).run P w = .ok (.map es c) w := by simp [getObj, Sem.run, h]
theorem run_setMap {P : Program} {w : World} {r : Nat} {es : Array MapEntry} {c : Nat} (o' : Obj) (h : w.heap[r]? = some (.map es c)) : (setObj r o').run P w = .ok () (w.putObj r o') := by simp [setObj, Sem.run, h, World.putObj]

/-- An own object is written. -/
theorem Good.putObj {J : Nat → Prop} {ℓ : List Base} {S : St} {w : World} (hG : Good J ℓ S w) {i : Nat} {b : Base} {k k' : Blk} (hk : S.own[i]? = some k) (hb : ℓ[i]? = some b) (hm : k.mut = true) (hm' : k'.mut = true) (hwf : k'.wf S.own.length = true) (o' : Obj)
    (hok : BlkOK (Jx J (mutS ℓ S)) ℓ (w.putObj b.block o') b k') : Ext (mutS ℓ S) w (w.putObj b.block o') ∧ Good J ℓ ⟨S.own.set i k', S.accs, S.reps⟩ (w.putObj b.block o') ∧ ∀ x ∈ mutS ℓ ⟨S.own.set i k', S.accs, S.reps⟩, x ∈ mutS ℓ S ∨ w.heap.size ≤ x := by
  have hbm : b.block ∈ mutS ℓ S := by simp only [mutS]; exact List.mem_append.2 (.inl (mem_mutL.2 ⟨i, b, k, hb, hk, hm, rfl⟩))
  have hmut : mutS ℓ ⟨S.own.set i k', S.accs, S.reps⟩ = mutS ℓ S := by
    simp only [mutS]; rw [mutL_set hk (hm'.trans hm.symm)]
  have hoth : ∀ y, y ≠ b.block → (w.putObj b.block o').heap[y]? = w.heap[y]? := fun y hy => World.putObj_heap_other hy
  refine ⟨⟨rfl, rfl, by simp, fun y _ hy => hoth y (fun e => hy (e ▸ hbm))⟩, ?_, fun x hx => .inl (by rw [hmut] at hx; exact hx)⟩
  exact hG.update hk hb hm hm' hwf (by simp) (fun y _ hy => hoth y hy) hok

/-- m[n], with or without the word whether it is there. -/
theorem at_lookup {P : Program} {tt : Tab} (hT : TTOK P tt) {t k e : TypeId} {q : IntKind} {x ix : SV} {S : St} {K : SV → St → Prop} {i : Nat} {n : Int} {l : List (Int × Value)} {ok : Bool} (z : Value) (ht : tt t = some (.map k e)) (hk : P.underlying k = some (.int q)) (hz : ∀ w, (zeroValue e).run P w = .ok z w)
    (hx : x = .mp i) (hi : nth S.own i = some (.obj (mapO q l))) (hix : ix = .v (.int q n))
    (h1 : ∀ v, lookM l n = some v → K (if ok then .tup [.v v, .v (.bool true)] else .v v) S) (h2 : lookM l n = none → K (if ok then .tup [.v z, .v (.bool false)] else .v z) S) : AtSem P (fun ℓ => Instr.lookup t (x.den ℓ) (ix.den ℓ) ok) S K := by
  subst hx hix
  constructor
  intro J ℓ w hG hJ
  obtain ⟨b, hb, hk', hbl, hoff, hh⟩ := own_obj hG hi
  have hu := (hT t _ ht).2
  have hrun : (Instr.lookup t ((SV.mp i).den ℓ) ((SV.v (.int q n)).den ℓ) ok).run P w = .ok ((match lookM l n with
      | some v => (if ok then SV.tup [.v v, .v (.bool true)] else .v v)
      | none => (if ok then .tup [.v z, .v (.bool false)] else .v z)).den ℓ) w := by
    simp only [Instr.lookup, SV.den, Sem.run_bind, run_underlying' hu, Result.andThen_ok]
    have hg := run_getMap (P := P) hh
    rw [hbl]
    simp only [Sem.run_bind, hg, Result.andThen_ok, Sem.run_pure]
    simp only [run_checkKey_int hk, Result.andThen_ok, Instr.findKey, Sem.run_bind, run_underlying hk, findNow_entries]
    rw [look_idx]
    cases hf : l.findIdx? (fun p => n = p.1) with
    | none => simp [hz, Result.andThen]; cases ok <;> simp [SV.den, SV.denL]
    | some m =>
      have hlt : m < l.length := by
        obtain ⟨hlt, _⟩ := List.findIdx?_eq_some_iff_getElem.1 hf
        exact hlt
      simp only [List.getElem?_eq_getElem hlt, Option.map_some, Sem.run_pure, Result.andThen_ok]
      cases ok <;> simp [SV.den, SV.denL]
  cases hl : lookM l n with
  | some v =>
    rw [hl] at hrun
    exact ⟨_, ℓ, S, w, hrun, by cases ok <;> rfl, List.prefix_refl _, Ext.refl _ _, hG, fun b hb => .inl hb, h1 v hl⟩
  | none =>
    rw [hl] at hrun
    exact ⟨_, ℓ, S, w, hrun, by cases ok <;> rfl, List.prefix_refl _, Ext.refl _ _, hG, fun b hb => .inl hb, h2 hl⟩

/-- m[n] = x. -/
theorem at_mapPut {P : Program} {tt : Tab} (hT : TTOK P tt) {t k e : TypeId} {q : IntKind} {x ix y : SV} {S : St} {K : SV → St → Prop} {i : Nat} {n : Int} {l : List (Int × Value)} (v : Value) (ht : tt t = some (.map k e)) (hk : P.underlying k = some (.int q))
    (hx : x = .mp i) (hi : nth S.own i = some (.obj (mapO q l))) (hix : ix = .v (.int q n)) (hy : ∀ ℓ, y.den ℓ = v)
    (h : forceL (setNth S.own i (.obj (mapO q (putAt n v l)))) (fun own => putOwn S own (fun S' => K undefS S'))) : AtSem P (fun ℓ => do Instr.mapUpdate t (x.den ℓ) (ix.den ℓ) (y.den ℓ); pure undef) S K := by
  subst hx hix
  rw [forceL_eq, putOwn_eq] at h
  constructor
  intro J ℓ w hG hJ
  obtain ⟨b, hb, hk', hbl, hoff, hh⟩ := own_obj hG hi
  have hu := (hT t _ ht).2
  have hrun : (Instr.mapUpdate t ((SV.mp i).den ℓ) ((SV.v (.int q n)).den ℓ) (y.den ℓ)).run P w = .ok () (w.putObj b.block (mapO q (putAt n v l))) := by
    simp only [Instr.mapUpdate, SV.den, hy, Sem.run_bind, run_underlying' hu, Result.andThen_ok, hbl]
    have hg := run_getMap (P := P) hh
    simp only [hg, Result.andThen_ok, run_checkKey_int hk, Instr.findKey, Sem.run_bind, run_underlying hk, findNow_entries]
    cases hf : l.findIdx? (fun p => n = p.1) with
    | none =>
      simp only [Sem.run_pure, Result.andThen_ok]
      rw [run_setMap _ hh, putAt_none n v l hf]
      simp [mapO, entries_append, entries]
    | some m =>
      obtain ⟨hlt, hpm, _⟩ := List.findIdx?_eq_some_iff_getElem.1 hf
      simp only [decide_eq_true_eq] at hpm
      simp only [List.getElem?_eq_getElem hlt, Option.map_some, Sem.run_pure, Result.andThen_ok, Nat.zero_add]
      have hkey : (((entries q l 0).toArray[m]?).map (·.key)).getD (.int q n) = .int q n := by
        have := entries_key q l 0 m
        simp only [List.getElem?_toArray]
        rw [this, List.getElem?_eq_getElem hlt]
        simp [← hpm]
      rw [hkey]
      have hst : (Instr.keyThatStays (.int q n) (.int q n)).run P w = .ok (.int q n) w := by simp [Instr.keyThatStays, Instr.sameBits]
      simp only [Sem.run_bind, hst, Result.andThen_ok]
      rw [run_setMap _ hh]
      obtain ⟨h1, h2⟩ := putAt_some q n v l m 0 hf
      simp only [mapO, h2]
      rw [← h1]
      simp
  obtain ⟨g1, g2, g3⟩ := hG.putObj (k' := .obj (mapO q (putAt n v l))) hk' hb rfl rfl rfl (mapO q (putAt n v l)) ⟨hoff, World.putObj_heap_same (lt_of_get hh)⟩
  refine ⟨undefS, ℓ, _, w.putObj b.block (mapO q (putAt n v l)), ?_, rfl, List.prefix_refl _, g1, g2, g3, h⟩
  simp only [Sem.run_bind, hrun, Result.andThen_ok, Sem.run_pure]
  rfl

theorem entries_get (q : IntKind) : ∀ (l : List (Int × Value)) (i m : Nat), (entries q l i)[m]? = (l[m]?).map (fun p => ⟨.int q p.1, p.2, i + m⟩)
  | [], i, m => by simp [entries]
  | (k, v) :: r, i, 0 => by simp [entries]
  | (k, v) :: r, i, m + 1 => by
    simp only [entries, List.getElem?_cons_succ, entries_get q r (i + 1) m]
    have e : i + 1 + m = i + (m + 1) := by omega
    rw [e]

theorem mem_entries {q : IntKind} {l : List (Int × Value)} {e : MapEntry} (h : e ∈ entries q l 0) : ∃ m p, l[m]? = some p ∧ e = ⟨.int q p.1, p.2, m⟩ := by
  obtain ⟨m, hm⟩ := List.getElem?_of_mem h
  rw [entries_get] at hm
  cases hp : l[m]? with
  | none => rw [hp] at hm; cases hm
  | some p => rw [hp] at hm; simp at hm; exact ⟨m, p, hp, hm.symm⟩

theorem run_choose_map {P : Program} (n : Nat) (hn : 0 < n) (w : World) : ∃ j w1, j < n ∧ (w1 = w ∨ w1 = w.drew) ∧ (choose (.mapNext n)).run P w = .ok j w1 := by
  rw [run_choose]
  by_cases h : n ≤ 1
  · exact ⟨0, w, hn, .inl rfl, by simp [Question.forced, h]⟩
  · exact ⟨_, _, Nat.mod_lt _ hn, .inr rfl, by simp [Question.forced, h, Question.cut]; rfl⟩

/-- One step of a walk over a map that stays as it is. -/
theorem run_next_map {P : Program} {ty : TypeId} {q : IntKind} {l : List (Int × Value)} {bi bm : Nat} {seen : Array Nat} {w : World} (hi : w.heap[bi]? = some (.mapIter (some bm) l.length seen l.length)) (hm : w.heap[bm]? = some (mapO q l)) :
    ∃ w1, (w1 = w ∨ w1 = w.drew) ∧
      (((∀ m, m < l.length → m ∈ seen) ∧ (Instr.next (.pointer (some ⟨bi, 0, none⟩)) false ty).run P w = .ok (.tuple #[.bool false]) w1) ∨
       ∃ m p, l[m]? = some p ∧ m ∉ seen ∧ (Instr.next (.pointer (some ⟨bi, 0, none⟩)) false ty).run P w = .ok (.tuple #[.bool true, .int q p.1, p.2]) (w1.putObj bi (.mapIter (some bm) l.length (seen.push m) l.length))) := by
  have hgi : (getObj bi).run P w = .ok (.mapIter (some bm) l.length seen l.length) w := by simp [getObj, Sem.run, hi]
  have hgm : (getObj bm).run P w = .ok (.map (entries q l 0).toArray l.length) w := run_getMap hm
  have hnot : (!seen.isEmpty && !(entries q l 0).toArray.isEmpty && (entries q l 0).toArray.all (·.born ≥ l.length)) = false := by
    cases l with
    | nil => simp [entries]
    | cons p r => obtain ⟨k, v⟩ := p; simp [entries]
  let left := (entries q l 0).toArray.filter fun e => !seen.contains e.born
  have hold : left.filter (·.born < l.length) = left := by
    rw [Array.filter_eq_self]
    intro e he
    simp only [left, Array.mem_filter, List.mem_toArray] at he
    obtain ⟨m, p, hp, rfl⟩ := mem_entries he.1
    simpa using (List.getElem?_eq_some_iff.1 hp).1
  have hnew : left.filter (·.born ≥ l.length) = #[] := by
    rw [Array.filter_eq_empty_iff]
    intro e he
    simp only [left, Array.mem_filter, List.mem_toArray] at he
    obtain ⟨m, p, hp, rfl⟩ := mem_entries he.1
    simpa using (List.getElem?_eq_some_iff.1 hp).1
  by_cases hl : left = #[]
  · have hc : ((if left.isEmpty then #[none] else #[]) ++ (left ++ #[]).map some : Array (Option MapEntry)) = #[none] := by simp [hl]
    refine ⟨w, .inl rfl, .inl ⟨?_, ?_⟩⟩
    · intro m hlt
      have h1 := Array.filter_eq_empty_iff.1 hl
      have h2 := h1 (⟨.int q l[m].1, l[m].2, m⟩ : MapEntry) (by
        rw [List.mem_toArray]
        refine List.mem_of_getElem? (i := m) ?_
        rw [entries_get, List.getElem?_eq_getElem hlt]; simp)
      simpa using h2
    · simp only [Instr.next, Sem.run_bind, hgi, Result.andThen_ok, hgm]
      rw [if_neg (by rw [hnot]; simp)]
      simp only [Sem.run_bind, Sem.run_pure, Result.andThen_ok]
      rw [show (entries q l 0).toArray.filter (fun e => !seen.contains e.born) = left from rfl, hold, hnew, hc]
      simp [Question.forced]
  · have hc : ((if left.isEmpty then #[none] else #[]) ++ (left ++ #[]).map some : Array (Option MapEntry)) = left.map some := by
      have : left.isEmpty = false := by simpa using hl
      simp [this]
    have hpos : 0 < left.size := by
      rcases Nat.eq_zero_or_pos left.size with h | h
      · exact (hl (Array.size_eq_zero_iff.1 h)).elim
      · exact h
    obtain ⟨j, w1, hj, hw1, hch⟩ := run_choose_map (P := P) (left.map some).size (by simpa using hpos) w
    have hj' : j < left.size := by simpa using hj
    have hmem : left[j] ∈ left := Array.getElem_mem hj'
    have hmem' := hmem
    simp only [left, Array.mem_filter, List.mem_toArray] at hmem'
    obtain ⟨m, p, hp, he⟩ := mem_entries hmem'.1
    have hns : m ∉ seen := by
      have := hmem'.2
      rw [he] at this
      simpa using this
    refine ⟨w1, hw1, .inr ⟨m, p, hp, hns, ?_⟩⟩
    have hset : (setObj bi (.mapIter (some bm) l.length (seen.push m) l.length)).run P w1 = .ok () (w1.putObj bi (.mapIter (some bm) l.length (seen.push m) l.length)) := by
      have : w1.heap[bi]? = some (.mapIter (some bm) l.length seen l.length) := by rcases hw1 with rfl | rfl <;> exact hi
      simp [setObj, Sem.run, this, World.putObj]
    simp only [Instr.next, Sem.run_bind, hgi, Result.andThen_ok, hgm]
    rw [if_neg (by rw [hnot]; simp)]
    simp only [Sem.run_bind, Sem.run_pure, Result.andThen_ok]
    rw [show (entries q l 0).toArray.filter (fun e => !seen.contains e.born) = left from rfl, hold, hnew, hc, hch]
    simp only [Result.andThen_ok]
    have hget : (left.map some)[j]? = some (some left[j]) := by simp [hj']
    rw [hget]
    have he' : left[j] = { key := Value.int q p.fst, val := p.snd, born := m } := he
    simp only [Sem.run_bind, he', hset, Result.andThen_ok, Sem.run_pure]

/-- 'for .. range m' begins. -/
theorem at_range {P : Program} {tt : Tab} (hT : TTOK P tt) {t k e : TypeId} {q : IntKind} {x : SV} {S : St} {K : SV → St → Prop} {i : Nat} {l : List (Int × Value)} (ht : tt t = some (.map k e)) (hx : x = .mp i) (hi : nth S.own i = some (.obj (mapO q l)))
    (h : forceL (S.own ++ [.iter i l.length #[] l.length]) (fun own => putOwn S own (fun S' => K (.loc S.own.length 0) S'))) : AtSem P (fun ℓ => Instr.range t (x.den ℓ)) S K := by
  subst hx
  rw [forceL_eq, putOwn_eq] at h
  constructor
  intro J ℓ w hG hJ
  obtain ⟨b, hb, hk', hbl, hoff, hh⟩ := own_obj hG hi
  have hu := (hT t _ ht).2
  have hilt : i < S.own.length := (List.getElem?_eq_some_iff.1 hk').1
  have hold : ∀ x, x < w.heap.size → (w.alloc (.mapIter (some b.block) l.length #[] l.length)).heap[x]? = w.heap[x]? := fun x hx => by
    show (w.heap.push _)[x]? = _
    rw [Array.getElem?_push, if_neg (by omega)]
  have hm := mutS_push hG.len (S := S) ⟨w.heap.size, 0⟩ (.iter i l.length #[] l.length)
  refine ⟨.loc S.own.length 0, ℓ ++ [⟨w.heap.size, 0⟩], _, w.alloc (.mapIter (some b.block) l.length #[] l.length), ?_, by simp [SV.wf], List.prefix_append _ _, ⟨rfl, rfl, by simp, fun x hx _ => hold x hx⟩, ?_, ?_, h⟩
  · have hg : (getObj b.block).run P w = .ok (.map (entries q l 0).toArray l.length) w := run_getMap hh
    simp only [Instr.range, SV.den, Sem.run_bind, run_underlying' hu, Result.andThen_ok, hbl, hg, Sem.run_pure]
    rw [← hG.len, getD_new]
    simp
  · refine hG.push ⟨w.heap.size, 0⟩ (.iter i l.length #[] l.length) (by simp [Blk.wf, hilt]) (fun _ => ⟨Nat.le_refl _, by simp, hJ _ (Nat.le_refl _)⟩) (by simp) hold ⟨rfl, ?_⟩
    rw [hbl]
    exact World.alloc_heap_new w _
  · intro x hx
    rcases (hm x).1 hx with h1 | ⟨_, h1⟩
    · exact .inl h1
    · subst h1; exact .inr (Nat.le_refl _)

theorem Good.drew {J : Nat → Prop} {ℓ : List Base} {S : St} {w : World} (h : Good J ℓ S w) : Good J ℓ S w.drew := h.kept (fun _ h => h) (Nat.le_refl _) (fun _ _ _ => rfl)

theorem own_iter {J : Nat → Prop} {ℓ : List Base} {S : St} {w : World} (hG : Good J ℓ S w) {i j since : Nat} {seen : Array Nat} {stepped : Nat} (hi : nth S.own i = some (.iter j since seen stepped)) : ∃ b, ℓ[i]? = some b ∧ S.own[i]? = some (.iter j since seen stepped) ∧ (ℓ.getD i default).block = b.block ∧ (ℓ.getD i default).off = 0 ∧ b.off = 0 ∧ w.heap[b.block]? = some (.mapIter (some (ℓ.getD j default).block) since seen stepped) := by
  have hk : S.own[i]? = some (.iter j since seen stepped) := by rw [← nth_eq]; exact hi
  obtain ⟨b, hb, hok⟩ := own_at hG hk
  simp only [BlkOK] at hok
  exact ⟨b, hb, hk, by simp [List.getD, hb], by simp [List.getD, hb, hok.1], hok.1, hok.2⟩

/-- A walk's next entry: some one that has not been met; or all have been. -/
theorem at_next {P : Program} {ty : TypeId} {q : IntKind} {x : SV} {S : St} {K : SV → St → Prop} {i j : Nat} {l : List (Int × Value)} {seen : Array Nat} (hx : x = .loc i 0) (hi : nth S.own i = some (.iter j l.length seen l.length)) (hj : nth S.own j = some (.obj (mapO q l)))
    (h0 : (∀ m, m < l.length → m ∈ seen) → K (.tup [.v (.bool false)]) S)
    (h1 : ∀ m p, l[m]? = some p → m ∉ seen → forceL (setNth S.own i (.iter j l.length (seen.push m) l.length)) (fun own => putOwn S own (fun S' => K (.tup [.v (.bool true), .v (.int q p.1), .v p.2]) S'))) : AtSem P (fun ℓ => Instr.next (x.den ℓ) false ty) S K := by
  subst hx
  simp only [forceL_eq, putOwn_eq] at h1
  constructor
  intro J ℓ w hG hJ
  obtain ⟨b, hb, hk, hbl, hbo, hoff, hh⟩ := own_iter hG hi
  obtain ⟨b2, hb2, hk2, hbl2, hoff2, hh2⟩ := own_obj hG hj
  rw [hbl2] at hh
  have hden : (SV.loc i 0).den ℓ = .pointer (some ⟨b.block, 0, none⟩) := by simp only [SV.den, hbl, hbo, Nat.zero_add]
  obtain ⟨w1, hw1, hor⟩ := run_next_map (P := P) (ty := ty) hh hh2
  have hG1 : Good J ℓ S w1 := by rcases hw1 with rfl | rfl; exact hG; exact hG.drew
  have hx1 : Ext (mutS ℓ S) w w1 := by rcases hw1 with rfl | rfl; exact Ext.refl _ _; exact ⟨rfl, rfl, Nat.le_refl _, fun _ _ _ => rfl⟩
  have hh1 : w1.heap[b.block]? = some (.mapIter (some b2.block) l.length seen l.length) := by rcases hw1 with rfl | rfl <;> exact hh
  rcases hor with ⟨hall, hrun⟩ | ⟨m, p, hp, hns, hrun⟩
  · exact ⟨.tup [.v (.bool false)], ℓ, S, w1, by rw [hden, hrun]; rfl, rfl, List.prefix_refl _, hx1, hG1, fun b hb => .inl hb, h0 hall⟩
  · have hjlt : j < S.own.length := (List.getElem?_eq_some_iff.1 hk2).1
    obtain ⟨g1, g2, g3⟩ := hG1.putObj (k' := .iter j l.length (seen.push m) l.length) hk hb rfl rfl (by simp [Blk.wf, hjlt]) (.mapIter (some b2.block) l.length (seen.push m) l.length) ⟨hoff, by rw [hbl2]; exact World.putObj_heap_same (lt_of_get hh1)⟩
    have hsz : w1.heap.size = w.heap.size := by rcases hw1 with rfl | rfl <;> rfl
    refine ⟨.tup [.v (.bool true), .v (.int q p.1), .v p.2], ℓ, _, _, by rw [hden, hrun]; rfl, rfl, List.prefix_refl _, hx1.trans g1, g2, fun b hb => by rw [← hsz]; exact g3 b hb, h1 m p hp hns⟩

/-- The entry that a walk is at. -/
theorem at_entry {P : Program} {q : IntKind} {x : SV} {S : St} {K : SV → St → Prop} {i j m : Nat} {p : Int × Value} {l : List (Int × Value)} {seen : Array Nat} (hx : x = .loc i 0) (hi : nth S.own i = some (.iter j l.length (seen.push m) l.length)) (hj : nth S.own j = some (.obj (mapO q l))) (hp : l[m]? = some p)
    (h : K (.tup [.v (.int q p.1), .v p.2]) S) : AtSem P (fun ℓ => Instr.entry (x.den ℓ)) S K := by
  subst hx
  constructor
  intro J ℓ w hG hJ
  obtain ⟨b, hb, hk, hbl, hbo, hoff, hh⟩ := own_iter hG hi
  obtain ⟨b2, hb2, hk2, hbl2, hoff2, hh2⟩ := own_obj hG hj
  rw [hbl2] at hh
  have hden : (SV.loc i 0).den ℓ = .pointer (some ⟨b.block, 0, none⟩) := by simp only [SV.den, hbl, hbo, Nat.zero_add]
  have hgi : (getObj b.block).run P w = .ok (.mapIter (some b2.block) l.length (seen.push m) l.length) w := by simp [getObj, Sem.run, hh]
  have hgm : (getObj b2.block).run P w = .ok (.map (entries q l 0).toArray l.length) w := run_getMap hh2
  have hfind : (entries q l 0).toArray.find? (·.born == m) = some ⟨.int q p.1, p.2, m⟩ := by
    rw [List.find?_toArray, List.find?_eq_some_iff_getElem]
    refine ⟨by simp, m, by rw [entries_length]; exact (List.getElem?_eq_some_iff.1 hp).1, ?_, ?_⟩
    · have := entries_get q l 0 m
      rw [hp] at this
      simpa using (List.getElem?_eq_some_iff.1 this).2
    · intro j' hj'
      have := entries_get q l 0 j'
      have hlt : j' < l.length := by have := (List.getElem?_eq_some_iff.1 hp).1; omega
      rw [List.getElem?_eq_getElem hlt] at this
      have h2 := (List.getElem?_eq_some_iff.1 this).2
      rw [h2]
      simp; omega
  refine ⟨_, ℓ, S, w, ?_, rfl, List.prefix_refl _, Ext.refl _ _, hG, fun b hb => .inl hb, h⟩
  rw [hden]
  simp only [Instr.entry, Sem.run_bind, hgi, Result.andThen_ok, Array.back?_push, hgm]
  rw [if_neg (by simp)]
  simp only [Sem.run_bind, Sem.run_pure, Result.andThen_ok, hfind]
  rfl

end Go.Tr
end

/-! FwP -/
section
namespace Go.Tr
open Go
set_option linter.unusedSimpArgs false

/-- An operation whose answer is one value, whatever the world. -/
theorem AtPure.val {P : Program} {m : List Base → Sem Value} {S : St} {K : SV → St → Prop} (r : SV) (hr : r.wf S.own.length = true) (h : ∀ ℓ w, (m ℓ).run P w = .ok (r.den ℓ) w) (k : K r S) : AtPure P m S K :=
  ⟨fun _ ℓ _ hG _ => ⟨r, ℓ, S, fun w' => h ℓ w', hr, List.prefix_refl _, hG, fun _ hb => hb, fun _ _ hi => hi, k⟩⟩

theorem AtSem.val {P : Program} {m : List Base → Sem Value} {S : St} {K : SV → St → Prop} (r : SV) (hr : r.wf S.own.length = true) (h : ∀ ℓ w, (m ℓ).run P w = .ok (r.den ℓ) w) (k : K r S) : AtSem P m S K :=
  ⟨fun _ ℓ w hG _ => ⟨r, ℓ, S, w, h ℓ w, hr, List.prefix_refl _, Ext.refl _ _, hG, fun _ hb => .inl hb, k⟩⟩

/-- A value becomes an interface's. -/
theorem at_iface {P : Program} {t : TypeId} {s : SV} {S : St} {K : SV → St → Prop} (hc : P.concrete t = true) (hs : s.wf S.own.length = true) (k : K (.ifc t s) S) : AtPure P (fun ℓ => Instr.makeInterface t (s.den ℓ)) S K :=
  AtPure.val (.ifc t s) (by simpa only [SV.wf] using hs) (fun ℓ w => by rw [run_makeInterface w t _ hc]; rfl) k

/-- max, min of two ints. -/
theorem at_max {P : Program} {ts : Array TypeId} {t : TypeId} {k k' : IntKind} {x y : Int} {S : St} {K : SV → St → Prop} (h : K (.v (.int k (if y > x then y else x))) S) : AtPure P (fun ℓ => Builtin.max_ ts t (SV.denL ℓ [.v (.int k x), .v (.int k' y)]).toArray) S K :=
  AtPure.val _ rfl (fun _ _ => run_max_int2 ..) h
theorem at_min {P : Program} {ts : Array TypeId} {t : TypeId} {k k' : IntKind} {x y : Int} {S : St} {K : SV → St → Prop} (h : K (.v (.int k (if y < x then y else x))) S) : AtPure P (fun ℓ => Builtin.min_ ts t (SV.denL ℓ [.v (.int k x), .v (.int k' y)]).toArray) S K :=
  AtPure.val _ rfl (fun _ _ => run_min_int2 ..) h

/-- A call of an interface's method is one of the function that the value's type has for it. -/
theorem Meets.meth {P : Program} {t : TypeId} {f : FuncId} {name : String} {s : SV} {args : List SV} {S : St} {R : Out → St → Prop} (hm : ∀ v ag w, (callMethod (.iface t v) name ag).run P w = .ok (.enter f (#[v] ++ ag)) w) (hf : ∀ ag w, (callFunc f ag).run P w = .ok (.enter f ag) w)
    (h : Meets P (.val (.fn (.func f) [] [])) (s :: args) S R) : Meets P (.meth (.ifc t s) name) args S R := by
  intro J ℓ w hG hJ
  obtain ⟨nx, h1, h2⟩ := h J ℓ w hG hJ
  refine ⟨nx, ?_, h2⟩
  rw [← h1]
  simp only [Cal.sem, SV.den, SV.denL, Deferred.ofValue, Sem.run_bind, Sem.run_pure, Result.andThen_ok, invoke]
  rw [hf]
  have e1 : (#[Value.iface t (s.den ℓ)] ++ (SV.denL ℓ args).toArray)[0]? = some (Value.iface t (s.den ℓ)) := by simp
  have e2 : (#[Value.iface t (s.den ℓ)] ++ (SV.denL ℓ args).toArray).extract 1 (#[Value.iface t (s.den ℓ)] ++ (SV.denL ℓ args).toArray).size = (SV.denL ℓ args).toArray := by
    apply Array.ext'
    simp [Array.toList_extract, List.extract]
  simp only [e1, e2, hm]
  simp

mutual
theorem SV.ren_id {n : Nat} {r : Nat → Nat} (h : ∀ i, i < n → r i = i) : ∀ (s : SV), s.wf n = true → s.ren r = s
  | .v _, _ => rfl
  | .loc i off, hw => by simp only [SV.wf, blt_true] at hw; simp only [SV.ren, h i hw]
  | .fn f first caps, hw => by
    simp only [SV.wf, Bool.and_eq_true] at hw
    simp only [SV.ren, SV.renL_id h first hw.1, SV.renL_id h caps hw.2]
  | .agg cs, hw => by simp only [SV.wf] at hw; simp only [SV.ren, SV.renL_id h cs hw]
  | .tup xs, hw => by simp only [SV.wf] at hw; simp only [SV.ren, SV.renL_id h xs hw]
  | .mp i, hw => by simp only [SV.wf, blt_true] at hw; simp only [SV.ren, h i hw]
  | .ifc t s, hw => by simp only [SV.wf] at hw; simp only [SV.ren, SV.ren_id h s hw]
  | .yld i, hw => by simp only [SV.wf, blt_true] at hw; simp only [SV.ren, h i hw]
theorem SV.renL_id {n : Nat} {r : Nat → Nat} (h : ∀ i, i < n → r i = i) : ∀ (l : List SV), SV.wfL n l = true → SV.renL r l = l
  | [], _ => rfl
  | s :: ss, hw => by
    simp only [SV.wfL, Bool.and_eq_true] at hw
    simp only [SV.renL, SV.ren_id h s hw.1, SV.renL_id h ss hw.2]
 end

theorem envRen_id {n : Nat} {r : Nat → Nat} (h : ∀ i, i < n → r i = i) : ∀ {env : Env}, envWf n env = true → envRen r env = env
  | [], _ => rfl
  | (t, s) :: e, hw => by
    simp only [envWf] at hw
    split at hw
    · rename_i hs; simp only [envRen, SV.ren_id h s hs, envRen_id h hw]
    · cases hw

theorem Blk.ren_id {n : Nat} {r : Nat → Nat} (h : ∀ i, i < n → r i = i) {k : Blk} (hw : k.wf n = true) : k.ren r = k := by
  cases k <;> simp only [Blk.wf, Blk.ren] at hw ⊢
  · rw [SV.renL_id h _ hw]
  · rw [SV.renL_id h _ hw]
  · rw [envRen_id h hw]
  · simp only [blt_true] at hw; rw [h _ hw]

theorem setAll_range (ks own extra : List Blk) (hl : ks.length = own.length) : setAll (own ++ extra) (List.range own.length) ks = ks ++ extra := by
  have hnd : (List.range own.length).Nodup := List.nodup_range
  apply List.ext_getElem?
  intro i
  rcases Nat.lt_or_ge i own.length with h | h
  · have hk : ks[i]? = some (ks[i]'(by omega)) := List.getElem?_eq_getElem (by omega)
    rw [setAll_at _ _ _ i i _ hnd (by simp [h]) hk (by simp; omega), List.getElem?_append_left (by omega), hk]
  · rw [setAll_other _ _ _ i (by simp; omega), List.getElem?_append_right h, List.getElem?_append_right (by omega), hl]

/-- At a call that is handed the first own blocks, as they stand, and some of the slices that may grow. -/
theorem Meets.frame0 {P : Program} {cl : Cal} {args : List SV} {own : List Blk} {accs : List Acc} {rs : List (Value × D)} {R : Out → St → Prop} {S : St} {K : Out → St → Prop} (h : Meets P cl args ⟨own, accs, rs⟩ R) (extra : List Blk) (rest : List Acc) (hS : S.own = own ++ extra) (hac : S.accs.Perm (accs ++ rest))
    (hown : ∀ k ∈ own, k.wf own.length = true) (hrs : ∀ p ∈ rs, p ∈ S.reps) (hargs : SV.wfL own.length args = true) (hcl : cl.wf own.length = true)
    (k : ∀ o s', R o s' → s'.own.map Blk.mut = own.map Blk.mut ∧ K o ⟨s'.own ++ extra, s'.accs ++ rest, S.reps ++ s'.reps⟩) : Meets P cl args S K := by
  have hid : ∀ i, i < own.length → rixN (List.range own.length) S.own.length i = i := fun i hi => by simp [rixN, hi, List.getD]
  refine Meets.frameG (rest := rest) h (List.range own.length) ?_ (SV.renL_id hid args hargs).symm hac List.nodup_range (by simp) ?_ hrs (by simpa using hargs) (by simpa using hcl) ?_
  · cases cl with
    | val F => simp only [Cal.ren]; rw [SV.ren_id hid F hcl]
    | meth x name => simp only [Cal.ren]; rw [SV.ren_id hid x hcl]
  · intro p q hp
    have hlt : p < own.length := (List.getElem?_eq_some_iff.1 hp).1
    have hw := hown q (List.mem_of_getElem? hp)
    refine ⟨p, by simp [hlt], ?_, by simpa using hw⟩
    rw [hS, List.getElem?_append_left hlt, hp, Blk.ren_id (fun i hi => by simp [rixN, hi, List.getD]) hw]
  · intro o s' hR hwo hws
    obtain ⟨hm, hK⟩ := k o s' hR
    have hl : s'.own.length = own.length := by simpa using congrArg List.length hm
    refine ⟨s'.own, [], by simp, hm, ?_⟩
    have e1 : s'.own.map (Blk.ren (rixN (List.range own.length) S.own.length)) = s'.own := by
      have := List.map_congr_left (f := Blk.ren (rixN (List.range own.length) S.own.length)) (g := id) (l := s'.own) (fun q hq => Blk.ren_id (n := s'.own.length) (by rw [hl]; exact hid) (hws q hq))
      rw [this, List.map_id]
    have e2 : o.ren (rixN (List.range own.length) S.own.length) = o := by
      cases o with
      | ret x => simp only [Out.ren]; rw [SV.ren_id (n := s'.own.length) (by rw [hl]; exact hid) x hwo]
      | pan x => simp only [Out.ren]; rw [SV.ren_id (n := s'.own.length) (by rw [hl]; exact hid) x hwo]
    rw [e1, e2, hS, setAll_range _ _ _ hl]
    simpa using hK

/-- The end of a function: own blocks and what may grow stay in hand. -/
theorem ret_keep {m : Nat} {o : Out} {S : St} {R : Out → St → Prop} (own : List Blk) (h1 : S.own.take own.length = own) (hm : Nat.beq own.length m = true) (hle : Nat.ble own.length S.own.length = true) (hwf : wfB own.length own = true) (ho : o.wf own.length = true) (h : R o ⟨own, S.accs, []⟩) : AtRet m o S R :=
  ⟨⟨own, S.accs, []⟩, StLe.of h1 (List.Sublist.refl _) (by simp) hle hwf, Nat.le_of_eq (Nat.eq_of_beq_eq_true hm).symm, ho, h⟩

theorem Good.nilAcc {J : Nat → Prop} {ℓ : List Base} {own : List Blk} {accs : List Acc} {rs : List (Value × D)} {w : World} (k : Nat) (T : TypeId) (h : Good J ℓ ⟨own, accs, rs⟩ w) : Good J ℓ ⟨own, ⟨.slice none 0 0, k, T, []⟩ :: accs, rs⟩ w := by
  have hm : mutS ℓ ⟨own, ⟨.slice none 0 0, k, T, []⟩ :: accs, rs⟩ = mutS ℓ ⟨own, accs, rs⟩ := by simp [mutS, accBlk]
  refine ⟨h.len, by rw [hm]; exact h.nodup, by rw [hm]; exact h.lt, by rw [hm]; exact h.memJ, h.wf, by rw [hm]; exact h.own, ?_, by rw [hm]; exact h.reps⟩
  rw [hm]
  intro a ha
  rcases List.mem_cons.1 ha with e | e
  · subst e; exact .inl ⟨rfl, rfl⟩
  · exact h.accs a e

/-- A slice that is nil may grow. -/
theorem Meets.nilAcc {P : Program} {cl : Cal} {args : List SV} {own : List Blk} {accs : List Acc} {rs : List (Value × D)} {R : Out → St → Prop} (k : Nat) (T : TypeId) (h : Meets P cl args ⟨own, ⟨.slice none 0 0, k, T, []⟩ :: accs, rs⟩ R) : Meets P cl args ⟨own, accs, rs⟩ R := by
  intro J ℓ w hG hJ
  have hm : mutS ℓ ⟨own, ⟨.slice none 0 0, k, T, []⟩ :: accs, rs⟩ = mutS ℓ ⟨own, accs, rs⟩ := by simp [mutS, accBlk]
  obtain ⟨nx, h1, h2⟩ := h J ℓ w (hG.nilAcc k T) hJ
  refine ⟨nx, h1, h2.mono ?_⟩
  rintro e w' ⟨ℓ', o, S', a1, a2, a3, a4, a5, a6, a7⟩
  rw [hm] at a4 a6
  exact ⟨ℓ', o, S', a1, a2, a3, a4, a5, a6, a7⟩

theorem StLe.nilAcc {S : St} {own : List Blk} {accs : List Acc} {rs : List (Value × D)} (k : Nat) (T : TypeId) (h : StLe S ⟨own, accs, rs⟩) : StLe S ⟨own, ⟨.slice none 0 0, k, T, []⟩ :: accs, rs⟩ := by
  refine ⟨h.1, fun J ℓ w hG => ?_⟩
  have hm : ∀ ℓ, mutS ℓ ⟨own, ⟨.slice none 0 0, k, T, []⟩ :: accs, rs⟩ = mutS ℓ ⟨own, accs, rs⟩ := by intro ℓ; simp [mutS, accBlk]
  obtain ⟨h1, h2⟩ := h.2 J ℓ w hG
  exact ⟨h1.nilAcc k T, by rw [hm]; exact h2⟩

/-- What reads as a slice is one. -/
def isSl : Value × D → Prop
  | (v, .sl _ ds) => ∃ a c, v = .slice a ds.length c ∧ ds.length ≤ c ∧ ds.length ≤ 1152921504606846976
  | _ => True

theorem isSl_of_rep {J : Nat → Prop} {w : World} {p : Value × D} (h : Rep J w p.1 p.2) : isSl p := by
  obtain ⟨v, d⟩ := p
  cases d with
  | sl k ds =>
    simp only [Rep, RepC] at h
    obtain ⟨a, cap, heq, hle, _⟩ := h
    simp only [List.cons.injEq, and_true] at heq
    exact ⟨a, cap, heq, hle.1, hle.2⟩
  | _ => trivial

/-- A contract's slices are slices. -/
theorem Pure.opened {P : Program} {cl : Cal} {args : List SV} {rs : List (Value × D)} {R : SV → List (Value × D) → Prop} (h : Pure P cl args rs R) : Pure P cl args rs (fun r out => R r out ∧ ∀ p ∈ out, isSl p) := by
  intro J ℓ w hG hJ
  obtain ⟨nx, h1, h2⟩ := h J ℓ w hG hJ
  refine ⟨nx, h1, h2.mono ?_⟩
  rintro e w' ⟨ℓ', o, S', a1, a2, a3, a4, a5, a6, r, out, rfl, rfl, hr, hR⟩
  exact ⟨ℓ', _, _, a1, a2, a3, a4, a5, a6, r, out, rfl, rfl, hr, hR, fun p hp => isSl_of_rep (a5.reps p hp)⟩

end Go.Tr
end

/-! Tm -/
section
namespace Go.Proofs.YtnolnmfpmhpapaaGreatDoor
open Go.Tr Go

inductive Tm where
  | mk (op hd n : Int) (args : List Tm)

def Tm.op : Tm → Int | .mk o _ _ _ => o
def Tm.hd : Tm → Int | .mk _ h _ _ => h
def Tm.n : Tm → Int | .mk _ _ n _ => n
def Tm.args : Tm → List Tm | .mk _ _ _ a => a

theorem Tm.eta (t : Tm) : t = .mk t.op t.hd t.n t.args := by cases t; rfl

mutual
def Tm.enc : Tm → D
  | .mk o h n a => .agg [.int .i64 o, .int .i64 h, .int .i64 n, .sl 4 (Tm.encL a)]
def Tm.encL : List Tm → List D
  | [] => []
  | t :: ts => t.enc :: Tm.encL ts
 end

theorem Tm.encL_eq : ∀ (l : List Tm), Tm.encL l = l.map Tm.enc
  | [] => rfl
  | t :: ts => by simp only [Tm.encL, List.map_cons, Tm.encL_eq ts]
theorem Tm.encL_length (l : List Tm) : (Tm.encL l).length = l.length := by simp [Tm.encL_eq]
theorem Tm.encL_get {l : List Tm} {i : Nat} {t : Tm} (h : l[i]? = some t) : (Tm.encL l)[i]? = some (.agg [.int .i64 t.op, .int .i64 t.hd, .int .i64 t.n, .sl 4 (Tm.encL t.args)]) := by
  rw [Tm.encL_eq, List.getElem?_map, h]; cases t; rfl

/-- Induction over a term: what holds of all its Args holds of it. -/
theorem Tm.ind {motive : Tm → Prop} (h : ∀ t, (∀ x ∈ t.args, motive x) → motive t) (t : Tm) : motive t := by
  induction t using Tm.rec (motive_2 := fun ts => ∀ x ∈ ts, motive x) with
  | nil => rename_i x hx; cases hx
  | cons t ts ih1 ih2 => rename_i x hx; rcases List.mem_cons.1 hx with e | e; (subst e; exact ih1); exact ih2 x e
  | mk op hd n args ih => exact h _ ih

/-- A term's slice, as the machine has it. -/
abbrev tmS (t : Tm) (a : Option Addr) (c : Nat) : SV := .agg [.v (.int .i64 t.op), .v (.int .i64 t.hd), .v (.int .i64 t.n), .v (.slice a (Tm.encL t.args).length c)]
abbrev tmR (t : Tm) (a : Option Addr) (c : Nat) : Value × D := (.slice a (Tm.encL t.args).length c, .sl 4 (Tm.encL t.args))
abbrev iS (n : Int) : SV := .v (.int .i64 n)
abbrev bS (b : Bool) : SV := .v (.bool b)
abbrev fnS (f : Nat) : Cal := .val (.fn (.func f) [] [])

/-- What a node shows by itself. -/
def okNode (op hd n : Int) (len : Nat) : Bool :=
  if op = 1 then decide ((hd = 0 ∧ n = 0) ∧ len = 0)
  else if op = 2 then decide ((hd = 0 ∧ n = 0) ∧ len = 2)
  else if op = 3 then decide ((hd = 0 ∧ n = 0) ∧ len = 1)
  else if op = 4 then decide (((1 ≤ hd ∧ hd ≤ 3) ∧ 0 ≤ n) ∧ n ≤ 9999)
  else false

mutual
def properF : Tm → Int → Int → Bool × Int
  | .mk op hd n args, depth, k =>
    if 600 < k + 1 ∨ 40 < depth then (false, k + 1)
    else if okNode op hd n args.length = true then properL args (depth + 1) (k + 1) else (false, k + 1)
def properL : List Tm → Int → Int → Bool × Int
  | [], _, k => (true, k)
  | t :: ts, depth, k => match properF t depth k with
    | (true, k') => properL ts depth k'
    | (false, k') => (false, k')
 end

theorem properF_eq (t : Tm) (depth k : Int) : properF t depth k = if 600 < k + 1 ∨ 40 < depth then (false, k + 1)
    else if okNode t.op t.hd t.n t.args.length = true then properL t.args (depth + 1) (k + 1) else (false, k + 1) := by
  cases t; rfl

theorem properF_le (t : Tm) : ∀ (depth k : Int), 0 ≤ k → k ≤ 600 → k ≤ (properF t depth k).2 ∧ (properF t depth k).2 ≤ 601 ∧ ((properF t depth k).1 = true → (properF t depth k).2 ≤ 600) := by
  induction t using Tm.ind with
  | h t ih =>
    intro depth k h1 h2
    have hl : ∀ (ts : List Tm), (∀ x ∈ ts, x ∈ t.args) → ∀ (depth k : Int), 0 ≤ k → k ≤ 600 → k ≤ (properL ts depth k).2 ∧ (properL ts depth k).2 ≤ 601 ∧ ((properL ts depth k).1 = true → (properL ts depth k).2 ≤ 600) := by
      intro ts
      induction ts with
      | nil => intro _ depth k h1 h2; simp only [properL]; exact ⟨Int.le_refl _, by omega, fun _ => h2⟩
      | cons x ts ihl =>
        intro hx depth k h1 h2
        have hx1 := ih x (hx x (by simp)) depth k h1 h2
        simp only [properL]
        cases hp : properF x depth k with
        | mk b k' =>
          rw [hp] at hx1
          cases b with
          | true =>
            have := ihl (fun y hy => hx y (by simp [hy])) depth k' (by simp at hx1; omega) (hx1.2.2 rfl)
            simp only at hx1 ⊢
            exact ⟨by omega, this.2.1, this.2.2⟩
          | false => simpa using hx1
    rw [properF_eq]
    split
    · exact ⟨by simp only; omega, by simp only; omega, fun h => by simp at h⟩
    · split
      · have := hl t.args (fun _ h => h) (depth + 1) (k + 1) (by omega) (by omega)
        exact ⟨by omega, this.2.1, this.2.2⟩
      · exact ⟨by simp; omega, by simp; omega, by simp⟩

end Go.Proofs.YtnolnmfpmhpapaaGreatDoor
end

/-! Base -/
section
namespace Go.Proofs.YtnolnmfpmhpapaaGreatDoor
open Go.Tr Go
theorem mixed : Tryz.prog.follows .mixedOrders = true := by kernel_rfl

/-- Two bools are compared. -/
theorem at_boolNe {x y : Operand} {a b : Bool} {S : St} {K : SV → St → Prop} (h : K (bS (a != b)) S) : AtPure Tryz.prog (fun ℓ => do eqGuard .neq 4 x y ((bS a).den ℓ) ((bS b).den ℓ); binOp .neq 4 ((bS a).den ℓ) ((bS b).den ℓ)) S K := by
  refine AtPure.val _ rfl (fun ℓ w => ?_) h
  cases a <;> cases b <;> kernel_rfl
end Go.Proofs.YtnolnmfpmhpapaaGreatDoor
end

/-! SortLay -/
section
namespace Go.Proofs.YtnolnmfpmhpapaaGreatDoor
open Go Go.Shelf
def sortRen : Go.Shelf.Ren := ⟨fun | 189 => 246 | 125 => 255 | 257 => 254 | 128 => 269 | 129 => 228 | 294 => 260 | 295 => 261 | 296 => 262 | 297 => 263 | 298 => 264 | 299 => 265 | 216 => 266 | 300 => 267 | 301 => 268 | 328 => 271 | 329 => 272 | 330 => 273 | 331 => 274 | 332 => 275 | 215 => 276 | 343 => 277 | n => n, fun | 28 => 23 | 3 => 3 | 46 => 277 | 0 => 0 | 51 => 275 | 53 => 248 | 4 => 4 | 183 => 311 | 182 => 310 | 131 => 215 | 5 => 5 | 9 => 9 | 218 => 316 | 222 => 170 | 228 => 321 | 229 => 95 | n => n, fun  | n => n⟩
theorem sortLays : Go.Proofs.Lays.n189 Tryz.prog sortRen := {
  mixed := by kernel_rfl
  f125 := Tryz.func255.trans (congrArg some (by kernel_rfl))
  f128 := Tryz.func269.trans (congrArg some (by kernel_rfl))
  f129 := Tryz.func228.trans (congrArg some (by kernel_rfl))
  f189 := Tryz.func246.trans (congrArg some (by kernel_rfl))
  f215 := Tryz.func276.trans (congrArg some (by kernel_rfl))
  f216 := Tryz.func266.trans (congrArg some (by kernel_rfl))
  f257 := Tryz.func254.trans (congrArg some (by kernel_rfl))
  f294 := Tryz.func260.trans (congrArg some (by kernel_rfl))
  f295 := Tryz.func261.trans (congrArg some (by kernel_rfl))
  f296 := Tryz.func262.trans (congrArg some (by kernel_rfl))
  f297 := Tryz.func263.trans (congrArg some (by kernel_rfl))
  f298 := Tryz.func264.trans (congrArg some (by kernel_rfl))
  f299 := Tryz.func265.trans (congrArg some (by kernel_rfl))
  f300 := Tryz.func267.trans (congrArg some (by kernel_rfl))
  f301 := Tryz.func268.trans (congrArg some (by kernel_rfl))
  f328 := Tryz.func271.trans (congrArg some (by kernel_rfl))
  f329 := Tryz.func272.trans (congrArg some (by kernel_rfl))
  f330 := Tryz.func273.trans (congrArg some (by kernel_rfl))
  f331 := Tryz.func274.trans (congrArg some (by kernel_rfl))
  f332 := Tryz.func275.trans (congrArg some (by kernel_rfl))
  f343 := Tryz.func277.trans (congrArg some (by kernel_rfl))
  t0 := Tryz.underlying0
  a0 := Tryz.isAgg0
  z0 := Tryz.sizeOf0
  v0 := Tryz.zeroValue0
  t3 := Tryz.underlying3
  a3 := Tryz.isAgg3
  z3 := Tryz.sizeOf3
  v3 := Tryz.zeroValue3
  t4 := Tryz.underlying4
  a4 := Tryz.isAgg4
  z4 := Tryz.sizeOf4
  v4 := Tryz.zeroValue4
  t5 := Tryz.underlying5
  a5 := Tryz.isAgg5
  z5 := Tryz.sizeOf5
  v5 := Tryz.zeroValue5
  t9 := Tryz.underlying9
  a9 := Tryz.isAgg9
  z9 := Tryz.sizeOf9
  v9 := Tryz.zeroValue9
  t28 := Tryz.underlying23
  a28 := Tryz.isAgg23
  z28 := Tryz.sizeOf23
  v28 := Tryz.zeroValue23
  t46 := Tryz.underlying277
  a46 := Tryz.isAgg277
  z46 := Tryz.sizeOf277
  v46 := Tryz.zeroValue277
  t51 := Tryz.underlying275
  a51 := Tryz.isAgg275
  z51 := Tryz.sizeOf275
  v51 := Tryz.zeroValue275
  t53 := Tryz.underlying248
  a53 := Tryz.isAgg248
  z53 := Tryz.sizeOf248
  v53 := Tryz.zeroValue248
  t131 := Tryz.underlying215
  a131 := Tryz.isAgg215
  z131 := Tryz.sizeOf215
  v131 := Tryz.zeroValue215
  t182 := Tryz.underlying310
  a182 := Tryz.isAgg310
  z182 := Tryz.sizeOf310
  v182 := Tryz.zeroValue310
  t183 := Tryz.underlying311
  a183 := Tryz.isAgg311
  z183 := Tryz.sizeOf311
  v183 := Tryz.zeroValue311
  t218 := Tryz.underlying316
  a218 := Tryz.isAgg316
  z218 := Tryz.sizeOf316
  v218 := Tryz.zeroValue316
  t222 := Tryz.underlying170
  a222 := Tryz.isAgg170
  z222 := Tryz.sizeOf170
  v222 := Tryz.zeroValue170
  t228 := Tryz.underlying321
  a228 := Tryz.isAgg321
  z228 := Tryz.sizeOf321
  v228 := Tryz.zeroValue321
  t229 := Tryz.underlying95
  a229 := Tryz.isAgg95
  z229 := Tryz.sizeOf95
  v229 := Tryz.zeroValue95 }
end Go.Proofs.YtnolnmfpmhpapaaGreatDoor
end

/-! TermA -/
section
namespace Go.Proofs.YtnolnmfpmhpapaaGreatDoor
open Go.Tr Go
set_option maxRecDepth 10000

def under (op i : Int) : Int := if op = 3 ∨ op = 2 ∧ i = 1 then 1 else 0
theorem under_le (op i : Int) : 0 ≤ under op i ∧ under op i ≤ 1 := by unfold under; split <;> omega

theorem under_spec (t : Tm) (a : Option Addr) (c : Nat) (i : Int) : Pure Tryz.prog (fnS 176) [tmS t a c, iS i] [] (fun r out => r = iS (under t.op i) ∧ out = []) := by
  refine spec_of_body (N := 17) (m := 0) (dt := fun _ => none) [] ttOK Tryz.func176 rfl Tryz.call176 Tryz.ntmps176 rfl rfl rfl mixed (by kernel_rfl) ?_
  refine AtIf.mk (fun h => ?_) (fun h => ?_)
  · refine AtRet.pure [] rfl (by simp) ⟨?_, rfl⟩
    unfold under; rw [if_pos (by simpa using h)]
  · refine AtRet.pure [] rfl (by simp) ⟨?_, rfl⟩
    unfold under; rw [if_neg (by simpa using h)]

section
variable {σ : Type} (step : σ → Tm → Int → σ)
mutual
def walkF : Tm → σ → Int → σ
  | .mk o h n args, s, b => walkL o args 0 (step s (.mk o h n args) b) b
def walkL : Int → List Tm → Nat → σ → Int → σ
  | _, [], _, s, _ => s
  | o, t :: ts, i, s, b => walkL o ts (i + 1) (walkF t s (b + under o i)) b
 end
theorem walkF_eq (t : Tm) (s : σ) (b : Int) : walkF step t s b = walkL step t.op t.args 0 (step s t b) b := by cases t; rfl
end

mutual
def Tm.height : Tm → Nat
  | .mk _ _ _ args => Tm.heightL args + 1
def Tm.heightL : List Tm → Nat
  | [] => 0
  | t :: ts => max t.height (Tm.heightL ts)
 end
theorem Tm.height_eq (t : Tm) : t.height = Tm.heightL t.args + 1 := by cases t; rfl
theorem Tm.height_le {ts : List Tm} {t : Tm} (h : t ∈ ts) : t.height ≤ Tm.heightL ts := by
  induction ts with
  | nil => cases h
  | cons x xs ih =>
    simp only [Tm.heightL]
    rcases List.mem_cons.1 h with e | e
    · subst e; omega
    · have := ih e; omega

/-- A visitor that is handed the own blocks 0, 1, 2: what a visit makes of them. -/
theorem each_spec3 {σ : Type} (F : SV) (hF0 : F.wf 3 = true) (B0 B1 B2 : σ → Blk) (I : σ → Prop) (step : σ → Tm → Int → σ)
    (hmut : ∀ s s', (B0 s).mut = (B0 s').mut ∧ (B1 s).mut = (B1 s').mut ∧ (B2 s).mut = (B2 s').mut) (hwf : ∀ s, (B0 s).wf 3 = true ∧ (B1 s).wf 3 = true ∧ (B2 s).wf 3 = true)
    (hren : ∀ s, (B0 s).ren (rix [0, 1, 2]) = B0 s ∧ (B1 s).ren (rix [0, 1, 2]) = B1 s ∧ (B2 s).ren (rix [0, 1, 2]) = B2 s) (hFren : F.ren (rix [0, 1, 2]) = F)
    (hF : ∀ s t b a c, I s → 0 ≤ b → b ≤ 1000000 → Meets Tryz.prog (.val F) [tmS t a c, iS b] ⟨[B0 s, B1 s, B2 s], [], [tmR t a c]⟩ (fun o S' => o = .ret (.tup []) ∧ I (step s t b) ∧ S' = ⟨[B0 (step s t b), B1 (step s t b), B2 (step s t b)], [], []⟩)) :
    ∀ (t : Tm) (s : σ) (b : Int) a c, I s → 0 ≤ b → b + t.height ≤ 1000000 → Meets Tryz.prog (fnS 120) [tmS t a c, iS b, F] ⟨[B0 s, B1 s, B2 s], [], [tmR t a c]⟩
      (fun o S' => o = .ret (.tup []) ∧ I (walkF step t s b) ∧ S' = ⟨[B0 (walkF step t s b), B1 (walkF step t s b), B2 (walkF step t s b)], [], []⟩) := by
  intro t
  induction t using Tm.ind with
  | h t ih =>
  intro s b a c hI hb1 hb2
  refine Meets.of_ok fun hok => ?_
  have hB : (Tm.encL t.args).length ≤ 1152921504606846976 := (hok _ (List.mem_cons_self ..)).1
  refine spec_of_body (N := 29) (m := 3) (dt := drawsOf [(5, .node [0, 1, 2, 3, 6] [(4, .node [5] [(7, .leaf [])])], [7], [])]) [] ttOK Tryz.func120 rfl Tryz.call120 Tryz.ntmps120 rfl (by simp [SV.wfL, SV.wf, hF0]) rfl mixed (by kernel_rfl) ?_
  have hw := hwf s
  have frameOK : ∀ (s : σ) (tail : List Blk) (p : Nat) (k : Blk), [B0 s, B1 s, B2 s][p]? = some k → ∃ i, [0, 1, 2][p]? = some i ∧ (B0 s :: B1 s :: B2 s :: tail)[i]? = some (k.ren (rix [0, 1, 2])) ∧ k.wf 3 = true := by
    intro s tail p k hp
    match p, hp with
    | 0, hp => simp at hp; subst hp; exact ⟨0, rfl, by rw [(hren s).1]; rfl, (hwf s).1⟩
    | 1, hp => simp at hp; subst hp; exact ⟨1, rfl, by rw [(hren s).2.1]; rfl, (hwf s).2.1⟩
    | 2, hp => simp at hp; subst hp; exact ⟨2, rfl, by rw [(hren s).2.2]; rfl, (hwf s).2.2⟩
  refine (hF s t b a c hI hb1 (by omega)).frame [0, 1, 2] (by simp [Cal.ren, hFren]) rfl (by decide) rfl ?_ (by simp) rfl hF0 ?_
  · exact fun p k hp => frameOK s _ p k hp
  rintro o s' ⟨rfl, hI1, rfl⟩
  have hm := hmut s (step s t b)
  refine ⟨rfl, by simp [hm], [B0 (step s t b), B1 (step s t b), B2 (step s t b)], by simp [hren], ?_⟩
  have hlen := Tm.encL_length t.args
  have hh := Tm.height_eq t
  refine AtLoop.mk ⟨Nat × σ, fun x => [(15, iS x.1), (14, iS (Tm.encL t.args).length), (13, .v (.slice a (Tm.encL t.args).length c)), (3, .loc 3 0), (1, iS b), (2, F)],
    fun x => ⟨[B0 x.2, B1 x.2, B2 x.2, .cells 54 [iS t.op, iS t.hd, iS t.n, .v (.slice a (Tm.encL t.args).length c)]], [], [tmR t a c]⟩,
    fun x => x.1 ≤ t.args.length ∧ I x.2 ∧ walkF step t s b = walkL step t.op (t.args.drop x.1) x.1 x.2 b,
    fun x => t.args.length - x.1, (0, step s t b), ⟨Nat.zero_le _, hI1, by simpa using walkF_eq step t s b⟩, ⟨rfl, rfl, rfl, rfl, rfl, rfl, trivial⟩, StLe.refl _, ?_, ?_⟩
  · intro x _
    have hF4 : F.wf 4 = true := SV.wf_mono (by omega) F hF0
    exact ⟨by simp [envWf, SV.wf, hF4]; rfl, rfl⟩
  rintro ⟨i, s1⟩ ⟨hi, hI2, hinv⟩
  simp only at hi hI2 hinv ⊢
  refine AtIf.mk (fun h1 => ?_) (fun h1 => ?_)
  · simp only [decide_eq_true_eq, hlen] at h1
    have hlt : i < t.args.length := by omega
    obtain ⟨t', ht'⟩ : ∃ t', t.args[i]? = some t' := ⟨_, List.getElem?_eq_getElem hlt⟩
    refine at_index ttOK 0 rfl rfl rfl rfl (by omega) (by rw [Int.toNat_natCast]; exact Tm.encL_get ht') ?_
    intro a' c' _ hB'
    refine (under_spec t a c i).at (by simp) rfl rfl ?_
    rintro r out ⟨rfl, rfl⟩
    refine ⟨fun _ _ h => h, ?_⟩
    have hu := under_le t.op i
    have hht : t'.height ≤ Tm.heightL t.args := Tm.height_le (List.mem_of_getElem? ht')
    have hw2 : IntKind.i64.wrap (b + under t.op i) = b + under t.op i := wrap_i64 (by omega) (by omega)
    have hs := ih t' (List.mem_of_getElem? ht') s1 (b + under t.op i) a' c' hI2 (by omega) (by omega)
    refine hs.frame [0, 1, 2] rfl (by simp only [hw2]; show _ = [_, _, F.ren _]; rw [hFren]; rfl) (by decide) rfl ?_ ?_ ?_ rfl ?_
    · exact fun p k hp => frameOK s1 _ p k hp
    · intro p hp; simp at hp; subst hp; simp
    · simp [SV.wfL, SV.wf, hF0]
    · rintro o s' ⟨rfl, hI3, rfl⟩
      have hm := hmut s1 (walkF step t' s1 (b + under t.op i))
      refine ⟨rfl, by simp [hm], [B0 (walkF step t' s1 (b + under t.op i)), B1 (walkF step t' s1 (b + under t.op i)), B2 (walkF step t' s1 (b + under t.op i))], by simp [hren], ?_⟩
      have hw3 : IntKind.i64.wrap (i + 1) = ((i + 1 : Nat) : Int) := wrap_i64 (by omega) (by omega)
      refine ⟨(i + 1, walkF step t' s1 (b + under t.op i)), ⟨by omega, hI3, ?_⟩, by simp; omega, ⟨by rw [← hw3]; rfl, rfl, rfl, rfl, rfl, rfl, trivial⟩, StLe.to _ _ rfl (by simp) rfl ?_⟩
      · rw [hinv]
        have hd : t.args.drop i = t' :: t.args.drop (i + 1) := by
          rw [List.drop_eq_getElem_cons hlt]
          congr 1
          rw [List.getElem?_eq_getElem hlt] at ht'
          simpa using ht'
        simp only [hd, walkL]
      · have := hwf (walkF step t' s1 (b + under t.op i))
        simp only [wfB, List.length_cons, List.length_nil, Blk.wf_mono (show 3 ≤ 0 + 1 + 1 + 1 + 1 by omega) this.1, Blk.wf_mono (show 3 ≤ 0 + 1 + 1 + 1 + 1 by omega) this.2.1, Blk.wf_mono (show 3 ≤ 0 + 1 + 1 + 1 + 1 by omega) this.2.2]
        rfl
  · refine ret_own [B0 s1, B1 s1, B2 s1] rfl rfl rfl ?_ rfl ⟨rfl, ?_⟩
    · have := hwf s1
      simp only [wfB, List.length_cons, List.length_nil, this.1, this.2.1, this.2.2]
    · simp only [decide_eq_false_iff_not, hlen] at h1
      rw [List.drop_of_length_le (by omega)] at hinv
      simp only [walkL] at hinv
      rw [hinv]
      exact ⟨hI2, rfl⟩
end Go.Proofs.YtnolnmfpmhpapaaGreatDoor
end

/-! TermB -/
section
namespace Go.Proofs.YtnolnmfpmhpapaaGreatDoor
open Go.Tr Go
set_option maxRecDepth 10000
theorem proper_spec (t : Tm) : ∀ (depth k : Int) (a : Option Addr) (c : Nat), 0 ≤ depth → depth ≤ 41 → 0 ≤ k → k ≤ 600 →
    Meets Tryz.prog (fnS 175) [tmS t a c, iS depth, .loc 0 0] ⟨[.cells 3 [iS k]], [], [tmR t a c]⟩
      (fun o S' => o = .ret (bS (properF t depth k).1) ∧ S' = ⟨[.cells 3 [iS (properF t depth k).2]], [], []⟩) := by
  induction t using Tm.ind with
  | h t ih =>
  intro depth k a c hd1 hd2 hk1 hk2
  refine Meets.of_ok fun hok => ?_
  have hB : (Tm.encL t.args).length ≤ 1152921504606846976 := (hok _ (List.mem_cons_self ..)).1
  have hlen := Tm.encL_length t.args
  refine spec_of_body (N := 95) (m := 1) (dt := fun _ => none) [6] ttOK Tryz.func175 rfl Tryz.call175 Tryz.ntmps175 rfl rfl rfl mixed (by kernel_rfl) ?_
  have hw : IntKind.i64.wrap (k + 1) = k + 1 := wrap_i64 (by omega) (by omega)
  have hF := properF_eq t depth k
  refine AtIf.mk ?_ ?_
  · intro h
    rw [hw] at h
    refine ret_own [.cells 3 [iS (k + 1)]] (by simp only [hw]; rfl) rfl rfl rfl rfl ?_
    rw [hF, if_pos (by simpa using h)]
    exact ⟨rfl, rfl⟩
  · intro h
    rw [hw] at h
    have hno : ¬ (600 < k + 1 ∨ 40 < depth) := by simpa using h
    rw [if_neg hno] at hF
    refine AtCut.mk ⟨Unit, fun _ => [(7, iS (Tm.encL t.args).length), (8, bS (okNode t.op t.hd t.n t.args.length)), (3, .loc 1 0), (1, iS depth), (2, .loc 0 0)],
      fun _ => ⟨[.cells 3 [iS (k + 1)], .cells 54 [iS t.op, iS t.hd, iS t.n, .v (.slice a (Tm.encL t.args).length c)]], [], [tmR t a c]⟩,
      fun _ => True, fun _ _ => ⟨rfl, rfl⟩, ?_, ?_⟩
    · have fin : ∀ {b : Bool} {env : Env} {S : St}, b = okNode t.op t.hd t.n t.args.length → S = ⟨[.cells 3 [iS (IntKind.i64.wrap (k + 1))], .cells 54 [iS t.op, iS t.hd, iS t.n, .v (.slice a (Tm.encL t.args).length c)]], [], [tmR t a c]⟩ →
          envLe env [(7, iS (Tm.encL t.args).length), (8, bS b), (3, .loc 1 0), (1, iS depth), (2, .loc 0 0)] → 
          ∃ x : Unit, True ∧ envLe env [(7, iS (Tm.encL t.args).length), (8, bS (okNode t.op t.hd t.n t.args.length)), (3, .loc 1 0), (1, iS depth), (2, .loc 0 0)] ∧ StLe S ⟨[.cells 3 [iS (k + 1)], .cells 54 [iS t.op, iS t.hd, iS t.n, .v (.slice a (Tm.encL t.args).length c)]], [], [tmR t a c]⟩ := by
        rintro b env S rfl rfl he
        exact ⟨(), trivial, he, by rw [hw]; exact StLe.refl _⟩
      refine AtIf.mk (fun h1 => ?_) (fun h1 => AtIf.mk (fun h2 => ?_) (fun h2 => AtIf.mk (fun h3 => ?_) (fun h3 => AtIf.mk (fun h4 => ?_) (fun h4 => ?_))))
      · refine fin ?_ rfl ⟨rfl, rfl, rfl, rfl, rfl, trivial⟩
        simp only [beq_iff_eq] at h1
        simp only [okNode, h1, hlen]
        rw [Bool.eq_iff_iff]; simp
      · refine fin ?_ rfl ⟨rfl, rfl, rfl, rfl, rfl, trivial⟩
        simp only [beq_iff_eq] at h2
        simp only [okNode, h2, hlen]
        rw [Bool.eq_iff_iff]; simp; omega
      · refine fin ?_ rfl ⟨rfl, rfl, rfl, rfl, rfl, trivial⟩
        simp only [beq_iff_eq] at h3
        simp only [okNode, h3, hlen]
        rw [Bool.eq_iff_iff]; simp; omega
      · refine fin ?_ rfl ⟨rfl, rfl, rfl, rfl, rfl, trivial⟩
        simp only [beq_iff_eq] at h4
        simp only [okNode, h4]
        rw [Bool.eq_iff_iff]; simp
      · simp only [beq_eq_false_iff_ne] at h1 h2 h3 h4
        refine ret_own [.cells 3 [iS (k + 1)]] (by simp only [hw]; rfl) rfl rfl rfl rfl ?_
        have : okNode t.op t.hd t.n t.args.length = false := by simp [okNode, h1, h2, h3, h4]
        rw [hF, this]
        exact ⟨rfl, rfl⟩
    · intro _ _
      refine AtLoop.mk ⟨Nat × Bool × Int, fun x => [(9, iS x.1), (7, iS (Tm.encL t.args).length), (8, bS x.2.1), (3, .loc 1 0), (1, iS depth), (2, .loc 0 0)],
        fun x => ⟨[.cells 3 [iS x.2.2], .cells 54 [iS t.op, iS t.hd, iS t.n, .v (.slice a (Tm.encL t.args).length c)]], [], [tmR t a c]⟩,
        fun x => x.1 ≤ t.args.length ∧ 0 ≤ x.2.2 ∧ (x.2.1 = true → x.2.2 ≤ 600) ∧ properF t depth k = if x.2.1 then properL (t.args.drop x.1) (depth + 1) x.2.2 else (false, x.2.2),
        fun x => t.args.length - x.1, (0, okNode t.op t.hd t.n t.args.length, k + 1), ?_, ⟨rfl, rfl, rfl, rfl, rfl, rfl, trivial⟩, StLe.refl _, fun x _ => ⟨rfl, rfl⟩, ?_⟩
      · exact ⟨Nat.zero_le _, by simp; omega, fun _ => by simp; omega, by simpa using hF⟩
      · rintro ⟨i, ok, kk⟩ ⟨hi, hk0, hk6, hinv⟩
        simp only at hi hk0 hk6 hinv ⊢
        refine AtIf.mk (fun h1 => ?_) (fun h1 => ?_)
        · simp only [Bool.and_eq_true, decide_eq_true_eq, hlen] at h1
          obtain ⟨h1, rfl⟩ := h1
          have hlt : i < t.args.length := by omega
          obtain ⟨t', ht'⟩ : ∃ t', t.args[i]? = some t' := ⟨_, List.getElem?_eq_getElem hlt⟩
          refine at_index ttOK 0 rfl rfl rfl rfl (by omega) (by rw [Int.toNat_natCast]; exact Tm.encL_get ht') ?_
          intro a' c' _ _
          have hw2 : IntKind.i64.wrap (depth + 1) = depth + 1 := wrap_i64 (by omega) (by omega)
          have hspec := ih t' (List.mem_of_getElem? ht') (depth + 1) kk a' c' (by omega) (by omega) hk0 (hk6 rfl)
          refine hspec.frame [0] rfl (by simp only [hw2]; rfl) (by simp) rfl ?_ ?_ rfl rfl ?_
          · intro p q hp
            match p, hp with
            | 0, hp => simp at hp; subst hp; exact ⟨0, rfl, rfl, rfl⟩
          · intro p hp; simp at hp; subst hp; exact List.mem_cons_of_mem _ (List.mem_cons_self ..)
          · rintro o s' ⟨rfl, rfl⟩
            refine ⟨rfl, rfl, [.cells 3 [iS (properF t' (depth + 1) kk).2]], rfl, ?_⟩
            have hle := properF_le t' (depth + 1) kk hk0 (hk6 rfl)
            have hw3 : IntKind.i64.wrap (i + 1) = ((i + 1 : Nat) : Int) := wrap_i64 (by omega) (by omega)
            refine ⟨(i + 1, (properF t' (depth + 1) kk).1, (properF t' (depth + 1) kk).2), ⟨by omega, by simp; omega, hle.2.2, ?_⟩, by simp; omega, ⟨by rw [← hw3]; rfl, rfl, rfl, rfl, rfl, rfl, trivial⟩, StLe.to _ _ rfl (by simp) rfl rfl⟩
            rw [hinv]
            have hd : t.args.drop i = t' :: t.args.drop (i + 1) := by
              rw [List.drop_eq_getElem_cons hlt]
              congr 1
              rw [List.getElem?_eq_getElem hlt] at ht'
              simpa using ht'
            simp only [if_true, hd, properL]
            cases properF t' (depth + 1) kk with
            | mk b k' => cases b <;> rfl
        · refine ret_own [.cells 3 [iS kk]] rfl rfl rfl rfl rfl ?_
          have : properF t depth k = (ok, kk) := by
            rw [hinv]
            cases ok with
            | false => rfl
            | true =>
              simp only [Bool.and_true, decide_eq_false_iff_not, hlen] at h1
              rw [List.drop_of_length_le (by omega)]
              rfl
          rw [this]
          exact ⟨rfl, rfl⟩

/-- A term is proper. -/
def isProper (t : Tm) : Bool := (properF t 1 0).1

theorem check_spec (t : Tm) (a : Option Addr) (c : Nat) : Pure Tryz.prog (fnS 119) [tmS t a c] [tmR t a c] (fun r out => r = iS (if isProper t then 0 else 2) ∧ out = []) := by
  refine spec_of_body (N := 7) (m := 0) (dt := fun _ => none) [] ttOK Tryz.func119 rfl Tryz.call119 Tryz.ntmps119 rfl rfl rfl mixed (by kernel_rfl) ?_
  have hs := proper_spec t 1 0 a c (by omega) (by omega) (by omega) (by omega)
  refine hs.frame [1] rfl rfl (by decide) rfl ?_ (by simp) rfl rfl ?_
  · intro p q hp
    match p, hp with
    | 0, hp => simp at hp; subst hp; exact ⟨1, rfl, rfl, rfl⟩
  rintro o s' ⟨rfl, rfl⟩
  refine ⟨rfl, rfl, [.cells 3 [iS (properF t 1 0).2]], rfl, ?_⟩
  refine AtIf.mk (fun h => ?_) (fun h => ?_)
  · refine AtRet.pure [] rfl (by simp) ⟨?_, rfl⟩
    simp only [Bool.not_eq_true'] at h
    simp [isProper, h]
  · refine AtRet.pure [] rfl (by simp) ⟨?_, rfl⟩
    simp only [Bool.not_eq_false'] at h
    simp [isProper, h]
end Go.Proofs.YtnolnmfpmhpapaaGreatDoor
end

/-! TermC -/
section
namespace Go.Proofs.YtnolnmfpmhpapaaGreatDoor
open Go.Tr Go
set_option maxRecDepth 10000

theorem nodup_bound : ∀ (n : Nat) (l : List Nat), l.Nodup → (∀ m ∈ l, m < n) → l.length ≤ n
  | 0, l, _, h => by
    cases l with
    | nil => simp
    | cons a l => have := h a (by simp); omega
  | n + 1, l, hn, h => by
    by_cases hm : n ∈ l
    · have h1 := nodup_bound n (l.erase n) (hn.erase n) (fun m hm' => by
        have := (hn.mem_erase_iff.1 hm')
        have := h m this.2
        omega)
      rw [List.length_erase_of_mem hm] at h1
      omega
    · have h1 := nodup_bound n l hn (fun m hm' => by
        have h2 := h m hm'
        have h3 : m ≠ n := fun e => hm (e ▸ hm')
        omega)
      omega

theorem int_under : Tryz.prog.underlying 3 = some (.int .i64) := Tryz.underlying3

/-- What a node adds to the numbers that were found. -/
def noteStep (f : Tm → Int → Int × Bool) (l : List (Int × Value)) (t : Tm) (b : Int) : List (Int × Value) :=
  if t.op = 4 ∧ (f t b).2 = true then putAt (f t b).1 (.bool true) l else l

/-- The function that numbers asks of each node, by what it answers. -/
def AsksOK (OF : SV) (f : Tm → Int → Int × Bool) : Prop :=
  ∀ t b a c, 0 ≤ b → b ≤ 1000000 → Pure Tryz.prog (.val OF) [tmS t a c, iS b] [tmR t a c] (fun r out => r = .tup [iS (f t b).1, bS (f t b).2] ∧ out = [])

theorem numbers1_spec (OF : SV) (hOF : OF.wf 0 = true) (f : Tm → Int → Int × Bool) (hf : AsksOK OF f) (t : Tm) (a : Option Addr) (c : Nat) (b : Int) (hb : 0 ≤ b) (hb1 : b ≤ 1000000) (l : List (Int × Value)) :
    Meets Tryz.prog (.val (.fn (.func 233) [] [.loc 0 0, .loc 2 0])) [tmS t a c, iS b] ⟨[.cells 255 [OF], .obj (mapO .i64 l), .cells 279 [.mp 1]], [], [tmR t a c]⟩
      (fun o S' => o = .ret (.tup []) ∧ S' = ⟨[.cells 255 [OF], .obj (mapO .i64 (noteStep f l t b)), .cells 279 [.mp 1]], [], []⟩) := by
  refine spec_of_body (N := 21) (m := 3) (dt := fun _ => none) [] ttOK Tryz.func233 rfl Tryz.call233 Tryz.ntmps233 rfl (by simp [SV.wfL, SV.wf]) rfl mixed (by kernel_rfl) ?_
  refine AtIf.mk (fun h => ?_) (fun h => ?_)
  · simp only [beq_iff_eq] at h
    refine (hf t b a c hb hb1).at (by simp) rfl hOF ?_
    rintro r out ⟨rfl, rfl⟩
    refine AtIf.mk (fun h2 => ?_) (fun h2 => ?_)
    · refine at_mapPut ttOK (.bool true) rfl int_under rfl rfl rfl (fun _ => rfl) ?_
      refine ret_own [.cells 255 [OF], .obj (mapO .i64 (putAt (f t b).1 (.bool true) l)), .cells 279 [.mp 1]] rfl rfl rfl ?_ rfl ⟨rfl, ?_⟩
      · simp [wfB, Blk.wf, SV.wfL, SV.wf, SV.wf_mono (Nat.zero_le _) OF hOF, mapO]; rfl
      · rw [noteStep, if_pos ⟨h, h2⟩]
    · refine ret_own [.cells 255 [OF], .obj (mapO .i64 l), .cells 279 [.mp 1]] rfl rfl rfl ?_ rfl ⟨rfl, ?_⟩
      · simp [wfB, Blk.wf, SV.wfL, SV.wf, SV.wf_mono (Nat.zero_le _) OF hOF, mapO]; rfl
      · rw [noteStep, if_neg (fun hh => by rw [h2] at hh; cases hh.2)]
  · simp only [beq_eq_false_iff_ne] at h
    refine ret_own [.cells 255 [OF], .obj (mapO .i64 l), .cells 279 [.mp 1]] rfl rfl rfl ?_ rfl ⟨rfl, ?_⟩
    · simp [wfB, Blk.wf, SV.wfL, SV.wf, SV.wf_mono (Nat.zero_le _) OF hOF, mapO]; rfl
    · rw [noteStep, if_neg (fun hh => h hh.1)]

/-- What Free asks of a node. -/
def freeOf (t : Tm) (b : Int) : Int × Bool := (IntKind.i64.wrap (t.n - b), t.hd == 1 && decide (b ≤ t.n))

theorem free1_spec : AsksOK (.fn (.func 208) [] []) freeOf := by
  intro t b a c _ _
  refine spec_of_body (N := 19) (m := 0) (dt := drawsOf [(1, .leaf [0, 1, 2, 3, 4, 5, 6, 7, 8, 9, 10, 11, 12, 13, 14], [], [])]) [] ttOK Tryz.func208 rfl Tryz.call208 Tryz.ntmps208 rfl rfl rfl mixed (by kernel_rfl) ?_
  refine AtRet.pure [] rfl (by simp) ⟨rfl, rfl⟩

/-- A function that is asked for each key, from left to right: the keys so far are told by its state. -/
structure AsksKey (n0 : Nat) (Y : SV) {σ : Type} (m0 m1 : Blk) (B2 B3 : σ → Blk) (A : σ → List Acc) (kof : σ → List Int) (L : Nat) : Prop where
  wf : Y.wf n0 = true
  does : ∀ s k, (kof s).length < L → Meets Tryz.prog (.val Y) [iS k] ⟨[m0, m1, B2 s, B3 s], A s, []⟩ (fun o S' => o = .ret (bS true) ∧ ∃ s', kof s' = kof s ++ [k] ∧ S' = ⟨[m0, m1, B2 s', B3 s'], A s', []⟩)

theorem keys1_spec (l : List (Int × Value)) {σ : Type} (Y : SV) (B2 B3 : σ → Blk) (A : σ → List Acc) (kof : σ → List Int) (hY : AsksKey 4 Y (.obj (mapO .i64 l)) (.cells 279 [.mp 0]) B2 B3 A kof l.length)
    (hB : ∀ s s', (B2 s).mut = (B2 s').mut ∧ (B3 s).mut = (B3 s').mut) (hwf : ∀ s, (B2 s).wf 4 = true ∧ (B3 s).wf 4 = true) (s0 : σ) (h0 : kof s0 = []) :
    Meets Tryz.prog (.val (.fn (.func 247) [] [.loc 1 0])) [Y] ⟨[.obj (mapO .i64 l), .cells 279 [.mp 0], B2 s0, B3 s0], A s0, []⟩
      (fun o S' => o = .ret (.tup []) ∧ ∃ s, (kof s).Perm (l.map (·.1)) ∧ S' = ⟨[.obj (mapO .i64 l), .cells 279 [.mp 0], B2 s, B3 s], A s, []⟩) := by
  refine spec_of_body (N := 14) (m := 4) (dt := fun _ => none) [] ttOK Tryz.func247 rfl Tryz.call247 Tryz.ntmps247 rfl (by simp [SV.wfL, SV.wf, hY.wf]) rfl mixed (by kernel_rfl) ?_
  refine at_range ttOK rfl rfl rfl ?_
  have hlt : ∀ (seen : Array Nat), seen.toList.Nodup → (∀ m ∈ seen.toList, m < l.length) → seen.size ≤ l.length := fun seen h1 h2 => by
    simpa using nodup_bound l.length seen.toList h1 h2
  refine AtLoop.mk ⟨σ × Array Nat, fun _ => [(5, .loc 4 0), (0, Y)], fun x => ⟨[.obj (mapO .i64 l), .cells 279 [.mp 0], B2 x.1, B3 x.1, .iter 0 l.length x.2 l.length], A x.1, []⟩,
    fun x => kof x.1 = x.2.toList.map (fun m => ((l[m]?).map (·.1)).getD 0) ∧ x.2.toList.Nodup ∧ ∀ m ∈ x.2.toList, m < l.length, fun x => l.length - x.2.size, (s0, #[]), ⟨by simp [h0], by simp, by simp⟩, ⟨rfl, rfl, trivial⟩, StLe.refl _, ?_, ?_⟩
  · intro x _
    refine ⟨?_, rfl⟩
    simp [envWf, SV.wf, SV.wf_mono (show 4 ≤ 5 by omega) Y hY.wf]
    rfl
  rintro ⟨s, seen⟩ ⟨hk, hnd, hsm⟩
  simp only at hk hnd hsm ⊢
  refine at_next rfl rfl rfl ?_ ?_
  · intro hall
    refine AtIf.mk (fun h => by cases h) (fun _ => ?_)
    refine ret_keep [.obj (mapO .i64 l), .cells 279 [.mp 0], B2 s, B3 s] rfl rfl rfl ?_ rfl ⟨rfl, s, ?_, rfl⟩
    · have := hwf s
      simp only [wfB, List.length_cons, List.length_nil, this.1, this.2]
      rfl
    · rw [hk]
      have hp : seen.toList.Perm (List.range l.length) := by
        refine (List.perm_ext_iff_of_nodup hnd List.nodup_range).2 (fun m => ?_)
        rw [List.mem_range]
        exact ⟨hsm m, fun hm => by simpa using hall m hm⟩
      refine (hp.map _).trans (List.Perm.of_eq ?_)
      apply List.ext_getElem?
      intro m
      simp only [List.getElem?_map]
      rcases Nat.lt_or_ge m l.length with h | h
      · simp [h]
      · simp [Nat.not_lt.2 h]
  · intro m p hp hns
    refine AtIf.mk (fun _ => ?_) (fun h => by cases h)
    refine at_entry rfl rfl rfl hp ?_
    have hmlt : m < l.length := (List.getElem?_eq_some_iff.1 hp).1
    have hsz : (seen.push m).size ≤ l.length := hlt (seen.push m) (by simp [List.nodup_append, hnd]; intro a ha e; subst e; exact hns (by simpa using ha)) (by simp; rintro a (ha | ha); exact hsm a (by simpa using ha); omega)
    have hs := hY.does s p.1 (by rw [hk]; simp at hsz ⊢; omega)
    have hw := hwf s
    refine hs.frame0 [.iter 0 l.length (seen.push m) l.length] [] rfl (by simp) ?_ (by simp) rfl hY.wf ?_
    · intro q hq
      simp only [List.mem_cons, List.not_mem_nil, or_false] at hq
      rcases hq with rfl | rfl | rfl | rfl
      · rfl
      · rfl
      · exact hw.1
      · exact hw.2
    rintro o s' ⟨rfl, s2, hk2, rfl⟩
    refine ⟨by simp [hB s s2], ?_⟩
    refine AtIf.mk (fun h => by cases h) (fun _ => ?_)
    refine ⟨(s2, seen.push m), ⟨?_, ?_, ?_⟩, ?_, ⟨rfl, rfl, trivial⟩, ?_⟩
    · simp [hk2, hk, hp]
    · simp [List.nodup_append, hnd]; intro a ha e; subst e; exact hns (by simpa using ha)
    · simp; rintro a (ha | ha); exact hsm a (by simpa using ha); omega
    · simp at hsz ⊢; omega
    · simp only [List.append_nil]
      exact StLe.refl _

/-- What slices.AppendSeq has collected. -/
abbrev seqB2 (x : List Int × Value) : Blk := .cells 23 [.v x.2]
abbrev seqA (x : List Int × Value) : List Acc := [⟨x.2, 1, 3, x.1.map (D.int .i64)⟩]

theorem appendSeq_spec (l : List (Int × Value)) (hL : l.length ≤ 1000000) :
    Meets Tryz.prog (fnS 253) [.v (.slice none 0 0), .fn (.func 247) [] [.loc 1 0]] ⟨[.obj (mapO .i64 l), .cells 279 [.mp 0]], [⟨.slice none 0 0, 1, 3, []⟩], []⟩
      (fun o S' => ∃ (ks : List Int) (v : Value), ks.Perm (l.map (·.1)) ∧ o = .ret (.v v) ∧ S' = ⟨[.obj (mapO .i64 l), .cells 279 [.mp 0]], [⟨v, 1, 3, ks.map (D.int .i64)⟩], []⟩) := by
  refine spec_of_body (N := 13) (m := 2) (dt := fun _ => none) [] ttOK Tryz.func253 rfl Tryz.call253 Tryz.ntmps253 rfl rfl rfl mixed (by kernel_rfl) ?_
  refine AtRange.mk ⟨[(2, .loc 2 0)], ⟨rfl, trivial⟩, rfl, rfl, ⟨_, _, _, rfl, Tryz.call247⟩, ?_⟩
  refine (keys1_spec l (.yld 3) seqB2 (fun _ => _) seqA (·.1) ⟨rfl, ?_⟩ (fun _ _ => ⟨rfl, rfl⟩) (fun _ => ⟨rfl, rfl⟩) ([], .slice none 0 0) rfl).mono ?_
  · rintro ⟨ks, v⟩ k hlt
    simp only at hlt
    refine spec_of_round (N := 13) (m := 4) (dt := fun _ => none) [] ttOK rfl rfl rfl rfl rfl rfl mixed (by kernel_rfl) (by kernel_rfl) ?_
    refine at_build ttOK 8 [.int .i64 k] rfl (by kernel_rfl) ⟨⟨rfl, rfl, rfl, rfl⟩, trivial⟩ rfl (by decide) (by decide) ?_
    intro a
    refine at_append ttOK 8 0 0 rfl (by kernel_rfl) rfl rfl rfl rfl (by simp; omega) (by simp; omega) ?_
    intro a' c'
    refine ret_keep [.obj (mapO .i64 l), .cells 279 [.mp 0], seqB2 (ks ++ [k], .slice a' ((ks.map (D.int .i64)).length + 1) c'), _] rfl rfl rfl rfl rfl ⟨rfl, (ks ++ [k], .slice a' ((ks.map (D.int .i64)).length + 1) c'), rfl, ?_⟩
    simp [stOf]
  · rintro o S' ⟨rfl, ⟨ks, v⟩, hp, rfl⟩
    refine ⟨⟨_, StLe.of (S' := ⟨[.obj (mapO .i64 l), .cells 279 [.mp 0]], seqA (ks, v), []⟩) rfl (List.Sublist.refl _) (by simp) rfl rfl, Nat.le_refl _, rfl, ks, v, hp, rfl, rfl⟩⟩
end Go.Proofs.YtnolnmfpmhpapaaGreatDoor
end

/-! Sorted -/
section
namespace Go.Proofs.YtnolnmfpmhpapaaGreatDoor
open Go.Tr Go
set_option maxRecDepth 10000

theorem repE_ints {J : Nat → Prop} {w : World} : ∀ (ks : List Int) (cs : List Value), RepE J w 1 (ks.map (D.int .i64)) cs ↔ cs.take ks.length = ks.map (Value.int .i64)
  | [], cs => by simp [RepE]
  | k :: ks, cs => by
    simp only [List.map_cons, RepE, repE_ints ks, RepC, List.length_cons]
    cases cs with
    | nil => simp
    | cons c cs => simp

def sorted (ks : List Int) : List Int := ks.mergeSort fun x y => decide (x ≤ y)

theorem sorted_perm {l l' : List Int} (h : l.Perm l') : sorted l = sorted l' := by
  have tr : ∀ a b c : Int, decide (a ≤ b) = true → decide (b ≤ c) = true → decide (a ≤ c) = true := by simp; omega
  have tot : ∀ a b : Int, (decide (a ≤ b) || decide (b ≤ a)) = true := by simp; omega
  refine List.Perm.eq_of_pairwise (le := fun x y : Int => x ≤ y) ?_ ?_ ?_ (((List.mergeSort_perm l _).trans h).trans (List.mergeSort_perm l' _).symm)
  · intro a b _ _ h1 h2; omega
  · exact (List.pairwise_mergeSort tr tot l).imp (by simp)
  · exact (List.pairwise_mergeSort tr tot l').imp (by simp)

theorem sort_some (ks : List Int) (b cap : Nat) (hlen : ks.length < 4611686018427387904) :
    Meets Tryz.prog (fnS 246) [.v (.slice (some ⟨b, 0, none⟩) ks.length cap)] ⟨[], [⟨.slice (some ⟨b, 0, none⟩) ks.length cap, 1, 3, ks.map (D.int .i64)⟩], []⟩
      (fun o S' => o = .ret (.tup []) ∧ S' = ⟨[], [⟨.slice (some ⟨b, 0, none⟩) ks.length cap, 1, 3, (sorted ks).map (D.int .i64)⟩], []⟩) := by
  intro J ℓ w hG hJ
  have hl : ℓ = [] := by have := hG.len; simpa using this
  subst hl
  have hacc := hG.accs _ (List.mem_singleton.2 rfl)
  rcases hacc with ⟨hv, _⟩ | ⟨g, cp, c, hv, hgb, hcs, hle, hre⟩
  · cases hv
  simp only [List.length_map, Value.slice.injEq, Option.some.injEq, Addr.mk.injEq, and_true, true_and] at hv
  obtain ⟨rfl, rfl⟩ := hv
  simp only [List.length_map] at hle
  have ht := (repE_ints ks c.toList).1 hre
  refine ⟨.enter 246 #[.slice (some ⟨b, 0, none⟩) ks.length cap], ?_, ?_⟩
  · simp only [Cal.sem, SV.den, SV.denL, Deferred.ofValue, Sem.run_bind, Sem.run_pure, Result.andThen_ok, invoke]
    exact Tryz.call246 _ _
  · have hc := Any.slices_Sort_int sortLays b 0 cap ks w (holds_of_blockI hgb ht) (lt_of_get hgb) hlen
    refine CallsIn.mono ((callsIn_wide (n := 0)).2 hc) ?_
    rintro e w' ⟨rfl, n, os, rfl⟩
    have hsl : (sorted ks).length = ks.length := by simp [sorted, List.length_mergeSort]
    have hgr := grownBy_sortedI (w := w) (g := b) (n := n) (os := os) (sorted ks).toArray
    have hhs := heap_sortedI (n := n) (os := os) (sorted ks).toArray hgb
    have hgood := hG.regrow (j := 0) (a' := ⟨.slice (some ⟨b, 0, none⟩) ks.length cap, 1, 3, (sorted ks).map (D.int .i64)⟩) (w' := Go.Sort.grow (Go.Sort.putRow (Value.int .i64) (Go.Sort.ahead w n) b 0 (sorted ks).toArray) os) hJ rfl hgr.size
      (fun x hx hm => hgr.block x hx (fun e => hm (by simp only [Option.some.injEq] at e; simp [accBlk, e]))) (by simp [accBlk]) (fun x hx => ?_) (fun J' hj => ?_)
    · refine ⟨[], .ret (.tup []), _, rfl, rfl, List.prefix_refl _, ⟨hgr.os, hgr.output, hgr.size, fun x hx hm => hgr.block x hx (fun e => hm ?_)⟩, hgood.1, hgood.2, rfl, rfl⟩
      simp only [Option.some.injEq] at e
      simp [mutS, mutL, accBlk, e]
    · simp [accBlk] at hx
      subst hx
      exact ⟨.inl (by simp [accBlk]), lt_of_get hhs⟩
    · refine .inr ⟨b, cap, _, by simp [hsl], hhs, by simp [Go.Sort.putCells, hcs], by simp [hsl]; exact hle, ?_⟩
      rw [repE_ints, hsl, ← hsl]
      exact take_putCellsI c (sorted ks) (by rw [hsl, hcs]; simp; exact hle.1)

abbrev nilS : SV := .v (.slice none 0 0)

theorem insertion_none : Pure Tryz.prog (fnS 260) [nilS, iS 0, iS 0] [] (fun r out => r = .tup [] ∧ out = []) := by
  refine spec_of_body (N := 49) (m := 0) (dt := drawsOf [(4, .node [0, 1, 2, 3, 4, 5, 6, 7, 8, 9, 10, 11, 12] [(13, .leaf [14])], [13], []), (6, .node [0, 1, 2, 3, 4, 5, 6, 7, 8, 9, 10, 11, 12, 13, 14] [(15, .node [16] [(17, .leaf [])])], [17], [])]) [] ttOK Tryz.func260 rfl Tryz.call260 Tryz.ntmps260 rfl rfl rfl mixed (by kernel_rfl) ?_
  refine AtLoop.mk ⟨Unit, fun _ => [(6, iS 1), (2, iS 0)], fun _ => ⟨[], [], []⟩, fun _ => True, fun _ => 0, (), trivial, ⟨rfl, rfl, trivial⟩, StLe.refl _, fun _ _ => ⟨rfl, rfl⟩, ?_⟩
  intro _ _
  refine AtIf.mk (fun h => by cases h) (fun _ => ?_)
  exact AtRet.pure [] rfl (by simp) ⟨rfl, rfl⟩

theorem pdq_none (lim : Int) : Pure Tryz.prog (fnS 254) [nilS, iS 0, iS 0, iS lim] [] (fun r out => r = .tup [] ∧ out = []) := by
  refine spec_of_body (N := 134) (m := 0) (dt := drawsOf [(17, .node [0, 1, 2, 3, 4, 5, 6, 7, 8, 9, 10, 11] [(12, .leaf [13, 14])], [12], [])]) [] ttOK Tryz.func254 rfl Tryz.call254 Tryz.ntmps254 rfl rfl rfl mixed (by kernel_rfl) ?_
  refine AtLoop.mk ⟨Unit, fun _ => [(0, nilS), (1, iS 0), (2, iS 0)], fun _ => ⟨[], [], []⟩, fun _ => True, fun _ => 0, (), trivial, ⟨rfl, rfl, rfl, trivial⟩, StLe.refl _, fun _ _ => ⟨rfl, rfl⟩, ?_⟩
  intro _ _
  refine AtIf.mk (fun _ => ?_) (fun h => by cases h)
  refine insertion_none.at (by simp) rfl rfl ?_
  rintro r out ⟨rfl, rfl⟩
  exact AtRet.pure [] rfl (by simp) ⟨rfl, rfl⟩

theorem len64_zero : Pure Tryz.prog (fnS 228) [.v (.int .u64 0)] [] (fun r out => r = iS 0 ∧ out = []) := by
  refine spec_of_body (N := 25) (m := 0) (dt := fun _ => none) [] ttOK Tryz.func228 rfl Tryz.call228 Tryz.ntmps228 rfl rfl rfl mixed (by kernel_rfl) ?_
  refine AtIf.mk (fun h => by cases h) (fun _ => ?_)
  refine AtIf.mk (fun h => by cases h) (fun _ => ?_)
  refine AtIf.mk (fun h => by cases h) (fun _ => ?_)
  refine AtSem.val (.v (.int .u8 0)) rfl (fun _ _ => by kernel_rfl) ?_
  refine AtPure.val (.v (.int .u8 0)) rfl (fun _ _ => by kernel_rfl) ?_
  refine AtSem.val (.v (.int .i64 0)) rfl (fun _ _ => by kernel_rfl) ?_
  exact AtRet.pure [] rfl (by simp) ⟨rfl, rfl⟩

theorem len_zero : Pure Tryz.prog (fnS 255) [.v (.int .u64 0)] [] (fun r out => r = iS 0 ∧ out = []) := by
  refine spec_of_body (N := 8) (m := 0) (dt := fun _ => none) [] ttOK Tryz.func255 rfl Tryz.call255 Tryz.ntmps255 rfl rfl rfl mixed (by kernel_rfl) ?_
  refine AtIf.mk (fun h => by cases h) (fun _ => ?_)
  refine len64_zero.at (by simp) rfl rfl ?_
  rintro r out ⟨rfl, rfl⟩
  exact AtRet.pure [] rfl (by simp) ⟨rfl, rfl⟩

theorem sort_none : Pure Tryz.prog (fnS 246) [nilS] [] (fun r out => r = .tup [] ∧ out = []) := by
  refine spec_of_body (N := 11) (m := 0) (dt := fun _ => none) [] ttOK Tryz.func246 rfl Tryz.call246 Tryz.ntmps246 rfl rfl rfl mixed (by kernel_rfl) ?_
  refine AtSem.val (.v (.int .u64 0)) rfl (fun _ _ => by kernel_rfl) ?_
  refine len_zero.at (by simp) rfl rfl ?_
  rintro r out ⟨rfl, rfl⟩
  refine (pdq_none 0).at (by simp) rfl rfl ?_
  rintro r out ⟨rfl, rfl⟩
  exact AtRet.pure [] rfl (by simp) ⟨rfl, rfl⟩

/-- What may grow is nil, or lies in a block. -/
theorem acc_cases {P : Program} {cl : Cal} {args : List SV} {v : Value} {k : Nat} {T : TypeId} {ds : List D} {R : Out → St → Prop} (h1 : v = .slice none 0 0 → ds = [] → Meets P cl args ⟨[], [⟨v, k, T, ds⟩], []⟩ R) (h2 : ∀ b cap, v = .slice (some ⟨b, 0, none⟩) ds.length cap → Meets P cl args ⟨[], [⟨v, k, T, ds⟩], []⟩ R) : Meets P cl args ⟨[], [⟨v, k, T, ds⟩], []⟩ R := by
  intro J ℓ w hG hJ
  rcases hG.accs _ (List.mem_singleton.2 rfl) with ⟨hv, hd⟩ | ⟨b, cap, c, hv, _⟩
  · exact h1 hv hd J ℓ w hG hJ
  · exact h2 b cap hv J ℓ w hG hJ

theorem sort_spec (ks : List Int) (v : Value) (hlen : ks.length < 4611686018427387904) :
    Meets Tryz.prog (fnS 246) [.v v] ⟨[], [⟨v, 1, 3, ks.map (D.int .i64)⟩], []⟩ (fun o S' => o = .ret (.tup []) ∧ S' = ⟨[], [⟨v, 1, 3, (sorted ks).map (D.int .i64)⟩], []⟩) := by
  refine acc_cases (fun hv hd => ?_) (fun b cap hv => ?_)
  · have hk : ks = [] := by simpa using hd
    subst hv hk
    refine sort_none.at (by simp) rfl rfl ?_
    rintro r out ⟨rfl, rfl⟩
    exact ⟨rfl, by simp [sorted]⟩
  · rw [List.length_map] at hv
    subst hv
    exact sort_some ks b cap hlen

theorem collect_spec (l : List (Int × Value)) (hL : l.length ≤ 1000000) :
    Meets Tryz.prog (fnS 245) [.fn (.func 247) [] [.loc 1 0]] ⟨[.obj (mapO .i64 l), .cells 279 [.mp 0]], [], []⟩
      (fun o S' => ∃ (ks : List Int) (v : Value), ks.Perm (l.map (·.1)) ∧ o = .ret (.v v) ∧ S' = ⟨[.obj (mapO .i64 l), .cells 279 [.mp 0]], [⟨v, 1, 3, ks.map (D.int .i64)⟩], []⟩) := by
  refine spec_of_body (N := 5) (m := 2) (dt := fun _ => none) [] ttOK Tryz.func245 rfl Tryz.call245 Tryz.ntmps245 rfl rfl rfl mixed (by kernel_rfl) ?_
  refine (Meets.nilAcc 1 3 (appendSeq_spec l hL)).frame0 [] [] rfl (by simp) ?_ (by simp) rfl rfl ?_
  · intro q hq
    simp only [List.mem_cons, List.not_mem_nil, or_false] at hq
    rcases hq with rfl | rfl <;> rfl
  rintro o s' ⟨ks, v, hp, rfl, rfl⟩
  refine ⟨rfl, ?_⟩
  exact ret_keep [.obj (mapO .i64 l), .cells 279 [.mp 0]] rfl rfl rfl rfl rfl ⟨ks, v, hp, rfl, rfl⟩

theorem sorted_spec (l : List (Int × Value)) (hL : l.length ≤ 1000000) :
    Meets Tryz.prog (fnS 234) [.fn (.func 247) [] [.loc 1 0]] ⟨[.obj (mapO .i64 l), .cells 279 [.mp 0]], [], []⟩
      (fun o S' => ∃ (v : Value), o = .ret (.v v) ∧ S' = ⟨[.obj (mapO .i64 l), .cells 279 [.mp 0]], [⟨v, 1, 3, (sorted (l.map (·.1))).map (D.int .i64)⟩], []⟩) := by
  refine spec_of_body (N := 9) (m := 2) (dt := fun _ => none) [] ttOK Tryz.func234 rfl Tryz.call234 Tryz.ntmps234 rfl rfl rfl mixed (by kernel_rfl) ?_
  refine (collect_spec l hL).frame0 [] [] rfl (by simp) ?_ (by simp) rfl rfl ?_
  · intro q hq
    simp only [List.mem_cons, List.not_mem_nil, or_false] at hq
    rcases hq with rfl | rfl <;> rfl
  rintro o s' ⟨ks, v, hp, rfl, rfl⟩
  refine ⟨rfl, ?_⟩
  have hks : ks.length ≤ 1000000 := by rw [hp.length_eq, List.length_map]; exact hL
  refine (sort_spec ks v (by omega)).frame0 [.obj (mapO .i64 l), .cells 279 [.mp 0]] [] rfl (by simp) (by simp) (by simp) rfl rfl ?_
  rintro o s' ⟨rfl, rfl⟩
  refine ⟨rfl, ?_⟩
  refine ret_keep [.obj (mapO .i64 l), .cells 279 [.mp 0]] rfl rfl rfl rfl rfl ⟨v, rfl, ?_⟩
  have hs : sorted ks = sorted (l.map (·.1)) := sorted_perm hp
  rw [hs]; rfl
end Go.Proofs.YtnolnmfpmhpapaaGreatDoor
end

/-! Free -/
section
namespace Go.Proofs.YtnolnmfpmhpapaaGreatDoor
open Go.Tr Go
set_option maxRecDepth 10000

theorem keys_spec (l : List (Int × Value)) : Meets Tryz.prog (fnS 235) [.mp 0] ⟨[.obj (mapO .i64 l)], [], []⟩
    (fun o S' => o = .ret (.fn (.func 247) [] [.loc 1 0]) ∧ S' = ⟨[.obj (mapO .i64 l), .cells 279 [.mp 0]], [], []⟩) := by
  refine spec_of_body (N := 4) (m := 1) (dt := fun _ => none) [] ttOK Tryz.func235 rfl Tryz.call235 Tryz.ntmps235 rfl rfl rfl mixed (by kernel_rfl) ?_
  exact AtRet.mk ⟨⟨[.obj (mapO .i64 l), .cells 279 [.mp 0]], [], []⟩, StLe.to _ _ rfl (by simp) rfl rfl, Nat.le_of_ble_eq_true rfl, rfl, rfl, rfl⟩

/-- The numbers that the nodes of a term give. -/
def numsOf (f : Tm → Int → Int × Bool) (t : Tm) : List Int := sorted ((walkF (noteStep f) t [] 0).map (·.1))

theorem putAt_length (n : Int) (v : Value) : ∀ (l : List (Int × Value)), (putAt n v l).length ≤ l.length + 1
  | [] => by simp [putAt]
  | (k, u) :: r => by
    simp only [putAt]
    split
    · simp
    · simp; exact putAt_length n v r

mutual
def Tm.count : Tm → Nat
  | .mk _ _ _ args => Tm.countL args + 1
def Tm.countL : List Tm → Nat
  | [] => 0
  | t :: ts => t.count + Tm.countL ts
 end

theorem noteStep_length (f : Tm → Int → Int × Bool) (l : List (Int × Value)) (t : Tm) (b : Int) : (noteStep f l t b).length ≤ l.length + 1 := by
  unfold noteStep; split
  · exact putAt_length _ _ _
  · omega

mutual
theorem walkF_length (f : Tm → Int → Int × Bool) : ∀ (t : Tm) (l : List (Int × Value)) (b : Int), (walkF (noteStep f) t l b).length ≤ l.length + t.count
  | .mk o h n args, l, b => by
    simp only [walkF, Tm.count]
    have h1 := walkL_length f o args 0 (noteStep f l (.mk o h n args) b) b
    have h2 := noteStep_length f l (.mk o h n args) b
    omega
theorem walkL_length (f : Tm → Int → Int × Bool) : ∀ (o : Int) (ts : List Tm) (i : Nat) (l : List (Int × Value)) (b : Int), (walkL (noteStep f) o ts i l b).length ≤ l.length + Tm.countL ts
  | o, [], i, l, b => by simp [walkL, Tm.countL]
  | o, t :: ts, i, l, b => by
    simp only [walkL, Tm.countL]
    have h1 := walkF_length f t l (b + under o i)
    have h2 := walkL_length f o ts (i + 1) (walkF (noteStep f) t l (b + under o i)) b
    omega
 end

mutual
/-- A proper term has few nodes, and is not nested deep. -/
theorem properF_count : ∀ (t : Tm) (d k : Int), (properF t d k).1 = true → (properF t d k).2 = k + t.count ∧ d + t.height ≤ 41
  | .mk o h n args, d, k, hp => by
    rw [properF_eq] at hp ⊢
    split at hp
    · cases hp
    · split at hp
      · rename_i h1 h2
        have h3 := properL_count args (d + 1) (k + 1) hp
        rw [if_neg h1, if_pos h2]
        simp only [Tm.args, Tm.count, Tm.height] at h3 ⊢
        refine ⟨by omega, ?_⟩
        have := h3.2
        rcases this with h4 | h4
        · omega
        · subst h4; simp only [Tm.heightL]; omega
      · cases hp
theorem properL_count : ∀ (ts : List Tm) (d k : Int), (properL ts d k).1 = true → (properL ts d k).2 = k + Tm.countL ts ∧ (d + Tm.heightL ts ≤ 41 ∨ ts = [])
  | [], d, k, _ => by simp [properL, Tm.countL]
  | t :: ts, d, k, hp => by
    simp only [properL] at hp ⊢
    cases hq : properF t d k with
    | mk b k' =>
      rw [hq] at hp
      cases b with
      | false => cases hp
      | true =>
        simp only at hp ⊢
        have h1 := properF_count t d k (by rw [hq])
        rw [hq] at h1
        have h2 := properL_count ts d k' hp
        simp only [Tm.countL, Tm.heightL] at h1 h2 ⊢
        refine ⟨by omega, .inl ?_⟩
        rcases h2.2 with h3 | h3
        · omega
        · subst h3; simp only [Tm.heightL]; omega
 end

theorem isProper_count {t : Tm} (h : isProper t = true) : t.count ≤ 600 ∧ t.height ≤ 40 := by
  have h1 := properF_count t 1 0 h
  have h2 := properF_le t 1 0 (by omega) (by omega)
  have h3 := h2.2.2 h
  omega

/-- A slice of ints, as data. -/
abbrev intsD (l : List Int) : D := .sl 1 (l.map (D.int .i64))

abbrev fS (g : Nat) : SV := .fn (.func g) [] []

theorem numbers_spec (g : Nat) (f : Tm → Int → Int × Bool) (hf : AsksOK (fS g) f) (t : Tm) (a : Option Addr) (c : Nat) :
    Pure Tryz.prog (fnS 207) [tmS t a c, fS g] [tmR t a c] (fun r out => (isProper t = false ∧ r = .tup [nilS, iS 2] ∧ out = []) ∨
      (isProper t = true ∧ ∃ v, r = .tup [.v v, iS 0] ∧ out = [(v, intsD (numsOf f t))])) := by
  refine spec_of_body (N := 20) (m := 0) (dt := fun _ => none) [] ttOK Tryz.func207 rfl Tryz.call207 Tryz.ntmps207 rfl rfl rfl mixed (by kernel_rfl) ?_
  refine (check_spec t a c).at (by simp) rfl rfl ?_
  rintro r out ⟨rfl, rfl⟩
  refine AtIf.mk (fun h => ?_) (fun h => ?_)
  · cases hp : isProper t with
    | true => rw [hp] at h; cases h
    | false => exact AtRet.pure [] rfl (by simp) (.inl ⟨rfl, by simp, rfl⟩)
  cases hp : isProper t with
  | false => rw [hp] at h; cases h
  | true =>
  obtain ⟨hc1, hc2⟩ := isProper_count hp
  refine at_makeMap .i64 ?_
  have hv := each_spec3 (.fn (.func 233) [] [.loc 0 0, .loc 2 0]) rfl (fun _ : List (Int × Value) => .cells 255 [fS g]) (fun l => .obj (mapO .i64 l)) (fun _ => .cells 279 [.mp 1]) (fun _ => True) (noteStep f)
    (fun _ _ => ⟨rfl, rfl, rfl⟩) (fun _ => ⟨rfl, rfl, rfl⟩) (fun _ => ⟨rfl, rfl, rfl⟩) rfl
    (fun l t b a c _ hb hb1 => (numbers1_spec (fS g) rfl f hf t a c b hb hb1 l).mono (by rintro o S' ⟨rfl, rfl⟩; exact ⟨rfl, trivial, rfl⟩)) t [] 0 a c trivial (by omega) (by omega)
  refine hv.frame [1, 2, 3] rfl rfl (by decide) rfl ?_ (by simp) rfl rfl ?_
  · intro p q hp
    match p, hp with
    | 0, hp => simp at hp; subst hp; exact ⟨1, rfl, rfl, rfl⟩
    | 1, hp => simp at hp; subst hp; exact ⟨2, rfl, rfl, rfl⟩
    | 2, hp => simp at hp; subst hp; exact ⟨3, rfl, rfl, rfl⟩
  rintro o s' ⟨rfl, _, rfl⟩
  have hl := walkF_length f t [] 0
  generalize hl' : walkF (noteStep f) t [] 0 = l at hl ⊢
  refine ⟨rfl, rfl, [.cells 255 [fS g], .obj (mapO .i64 l), .cells 279 [.mp 2]], rfl, ?_⟩
  refine (keys_spec l).frameG [2] (rest := []) rfl rfl (List.Perm.refl _) (by decide) rfl ?_ (by simp) rfl rfl ?_
  · intro p q hp
    match p, hp with
    | 0, hp => simp at hp; subst hp; exact ⟨2, rfl, rfl, rfl⟩
  rintro o s' ⟨rfl, rfl⟩ _ _
  refine ⟨[.obj (mapO .i64 l)], [.cells 279 [.mp 0]], rfl, rfl, ?_⟩
  refine (sorted_spec l (by simp at hl; omega)).frameG [2, 4] (rest := []) rfl rfl (List.Perm.refl _) (by decide) rfl ?_ (by simp) rfl rfl ?_
  · intro p q hp
    match p, hp with
    | 0, hp => simp at hp; subst hp; exact ⟨2, rfl, rfl, rfl⟩
    | 1, hp => simp at hp; subst hp; exact ⟨4, rfl, rfl, rfl⟩
  rintro o s' ⟨v, rfl, rfl⟩ _ _
  refine ⟨_, [], (List.append_nil _).symm, rfl, ?_⟩
  refine AtRet.grown [(v, intsD (numsOf f t))] rfl (fun p hp => .inr ?_) (.inr ⟨rfl, v, rfl, rfl⟩)
  simp only [List.mem_singleton] at hp
  subst hp
  refine ⟨_, List.mem_append.2 (.inl (List.mem_singleton.2 rfl)), ?_⟩
  simp only [numsOf, hl']

theorem free_spec (t : Tm) (a : Option Addr) (c : Nat) :
    Pure Tryz.prog (fnS 171) [tmS t a c] [tmR t a c] (fun r out => (isProper t = false ∧ r = .tup [nilS, iS 2] ∧ out = []) ∨
      (isProper t = true ∧ ∃ v, r = .tup [.v v, iS 0] ∧ out = [(v, intsD (numsOf freeOf t))])) := by
  refine spec_of_body (N := 8) (m := 0) (dt := fun _ => none) [] ttOK Tryz.func171 rfl Tryz.call171 Tryz.ntmps171 rfl rfl rfl mixed (by kernel_rfl) ?_
  refine (numbers_spec 208 freeOf free1_spec t a c).at (by simp) rfl rfl ?_
  rintro r out (⟨hp, rfl, rfl⟩ | ⟨hp, v, rfl, rfl⟩)
  · exact AtRet.pure [] rfl (by simp) (.inl ⟨hp, rfl, rfl⟩)
  · exact AtRet.pure [(v, intsD (numsOf freeOf t))] rfl (by simp) (.inr ⟨hp, v, rfl, rfl⟩)
end Go.Proofs.YtnolnmfpmhpapaaGreatDoor
end

/-! OrdA -/
section
namespace Go.Proofs.YtnolnmfpmhpapaaGreatDoor
open Go.Tr Go
set_option maxRecDepth 10000

def isScopeF (n fixed : Int) : Bool := ((decide (n ≥ 0) && decide (n ≤ 30)) && decide (fixed ≥ 0)) && decide (fixed ≤ n)

theorem encL_ints_get {l : List Int} {i : Nat} {k : Int} (h : l[i]? = some k) : (l.map (D.int .i64))[i]? = some (.int .i64 k) := by simp [h]

/-- All free numbers are below n. -/
def isObjectF (t : Tm) (n : Int) : Bool := isProper t && match (numsOf freeOf t).getLast? with
  | none => true
  | some k => decide (k < n)

def all2 (p : Tm → Tm → Bool) : List Tm → List Tm → Bool
  | a :: us, b :: vs => p a b && all2 p us vs
  | _, _ => true

theorem all2_drop {p : Tm → Tm → Bool} {us vs : List Tm} {i : Nat} {x y : Tm} (hx : us[i]? = some x) (hy : vs[i]? = some y) : all2 p (us.drop i) (vs.drop i) = (p x y && all2 p (us.drop (i + 1)) (vs.drop (i + 1))) := by
  have h1 := List.getElem?_eq_some_iff.1 hx
  have h2 := List.getElem?_eq_some_iff.1 hy
  rw [List.drop_eq_getElem_cons h1.1, List.drop_eq_getElem_cons h2.1, h1.2, h2.2]
  rfl

mutual
def sameF : Tm → Tm → Bool
  | .mk o h n us, b => ((o == b.op && h == b.hd) && n == b.n) && (us.length == b.args.length && sameL us b.args)
def sameL : List Tm → List Tm → Bool
  | u :: us, v :: vs => sameF u v && sameL us vs
  | _, _ => true
 end
theorem sameF_eq (a b : Tm) : sameF a b = (((a.op == b.op && a.hd == b.hd) && a.n == b.n) && (a.args.length == b.args.length && sameL a.args b.args)) := by cases a; rfl
theorem all2_same : ∀ (us vs : List Tm), all2 sameF us vs = sameL us vs
  | [], _ => by simp [all2, sameL]
  | _ :: _, [] => by simp [all2, sameL]
  | u :: us, v :: vs => by simp only [all2, sameL, all2_same us vs]

end Go.Proofs.YtnolnmfpmhpapaaGreatDoor
end

/-! OrdB -/
section
namespace Go.Proofs.YtnolnmfpmhpapaaGreatDoor
open Go.Tr Go
set_option maxRecDepth 10000

/-- A map from ints to ints, as the machine has it. -/
def encI (l : List (Int × Int)) : List (Int × Value) := l.map fun p => (p.1, Value.int .i64 p.2)

def lookI : List (Int × Int) → Int → Option Int
  | [], _ => none
  | (k, v) :: r, n => if n = k then some v else lookI r n

def putI (n v : Int) : List (Int × Int) → List (Int × Int)
  | [] => [(n, v)]
  | (k, u) :: r => if n = k then (k, v) :: r else (k, u) :: putI n v r

theorem look_encI (n : Int) : ∀ (l : List (Int × Int)), lookM (encI l) n = (lookI l n).map (Value.int .i64)
  | [] => rfl
  | (k, v) :: r => by
    simp only [encI, List.map_cons, lookM, lookI]
    split
    · rfl
    · exact look_encI n r

theorem putAt_encI (n v : Int) : ∀ (l : List (Int × Int)), putAt n (.int .i64 v) (encI l) = encI (putI n v l)
  | [] => rfl
  | (k, u) :: r => by
    simp only [encI, List.map_cons, putAt, putI]
    split
    · rfl
    · simp only [List.map_cons, List.cons.injEq, true_and]
      exact putAt_encI n v r

/-- What a node decides: none: not the same. -/
def headF (st fx o h n m k : Int) (l : List (Int × Int)) : Option (List (Int × Int)) :=
  if o = 4 ∧ h = 1 ∧ k ≤ m then
    if IntKind.i64.wrap (n - k) < 0 then none
    else if st ≤ IntKind.i64.wrap (m - k) ∧ IntKind.i64.wrap (n - k) ≠ IntKind.i64.wrap (IntKind.i64.wrap (m - k) - st) then none
    else if IntKind.i64.wrap (m - k) < st then
      if fx ≤ IntKind.i64.wrap (n - k) then none
      else match lookI l (IntKind.i64.wrap (m - k)) with
        | some old => if old ≠ IntKind.i64.wrap (n - k) then none else some (putI (IntKind.i64.wrap (m - k)) (IntKind.i64.wrap (n - k)) l)
        | none => some (putI (IntKind.i64.wrap (m - k)) (IntKind.i64.wrap (n - k)) l)
    else some l
  else if n ≠ m then none else some l

mutual
def matchF (st fx : Int) : Tm → Tm → Int → List (Int × Int) → Bool × List (Int × Int)
  | .mk o h n us, b, k, l =>
    if o ≠ b.op ∨ h ≠ b.hd ∨ us.length ≠ b.args.length then (false, l)
    else match headF st fx o h n b.n k l with
      | none => (false, l)
      | some l' => matchL st fx o us b.args 0 k l'
def matchL (st fx : Int) : Int → List Tm → List Tm → Nat → Int → List (Int × Int) → Bool × List (Int × Int)
  | o, u :: us, v :: vs, i, k, l => match matchF st fx u v (IntKind.i64.wrap (k + under o i)) l with
    | (true, l') => matchL st fx o us vs (i + 1) k l'
    | (false, l') => (false, l')
  | _, _, _, _, _, l => (true, l)
 end

theorem matchF_eq (st fx : Int) (a b : Tm) (k : Int) (l : List (Int × Int)) : matchF st fx a b k l = if a.op ≠ b.op ∨ a.hd ≠ b.hd ∨ a.args.length ≠ b.args.length then (false, l)
    else match headF st fx a.op a.hd a.n b.n k l with
      | none => (false, l)
      | some l' => matchL st fx a.op a.args b.args 0 k l' := by cases a; rfl

end Go.Proofs.YtnolnmfpmhpapaaGreatDoor
end

/-! OrdC -/
section
namespace Go.Proofs.YtnolnmfpmhpapaaGreatDoor
open Go.Tr Go
set_option maxRecDepth 10000

mutual
def stripF : Tm → Tm × Nat
  | .mk o h n us => if o = 3 then stripL us (.mk o h n us) else (.mk o h n us, 0)
def stripL : List Tm → Tm → Tm × Nat
  | [], t => (t, 0)
  | u :: _, _ => ((stripF u).1, (stripF u).2 + 1)
 end

mutual
/-- Each TLam has an argument. -/
def lamOK : Tm → Bool
  | .mk o _ _ us => (o != 3 || !us.isEmpty) && lamOKL us
def lamOKL : List Tm → Bool
  | [] => true
  | u :: us => lamOK u && lamOKL us
 end

theorem lamOKL_mem : ∀ {us : List Tm} {u : Tm}, lamOKL us = true → u ∈ us → lamOK u = true
  | [], u, _, h => by simp at h
  | v :: us, u, h, hm => by
    simp only [lamOKL, Bool.and_eq_true] at h
    rcases List.mem_cons.1 hm with e | e
    · subst e; exact h.1
    · exact lamOKL_mem h.2 e

theorem lamOK_arg {t u : Tm} (h : lamOK t = true) (hu : u ∈ t.args) : lamOK u = true := by
  cases t; simp only [lamOK, Bool.and_eq_true] at h; exact lamOKL_mem h.2 hu

theorem lamOK_ne {t : Tm} (h : lamOK t = true) (ho : t.op = 3) : t.args ≠ [] := by
  cases t with
  | mk o hd n us =>
    simp only [Tm.op] at ho
    subst ho
    simp only [lamOK, Bool.and_eq_true, bne_self_eq_false, Bool.false_or] at h
    intro e
    simp only [Tm.args] at e
    subst e
    simp at h

theorem stripF_lam {t u : Tm} {us : List Tm} (ho : t.op = 3) (hu : t.args = u :: us) : stripF t = ((stripF u).1, (stripF u).2 + 1) := by
  cases t with
  | mk o hd n vs =>
    simp only [Tm.op] at ho
    simp only [Tm.args] at hu
    subst ho hu
    simp [stripF, stripL]
theorem stripF_no {t : Tm} (ho : t.op ≠ 3) : stripF t = (t, 0) := by
  cases t with
  | mk o hd n vs => simp only [Tm.op] at ho; simp [stripF, ho]

end Go.Proofs.YtnolnmfpmhpapaaGreatDoor
end

/-! OrdD -/
section
namespace Go.Proofs.YtnolnmfpmhpapaaGreatDoor
open Go.Tr Go
set_option maxRecDepth 10000

section
variable {σ : Type} (vis : σ → Tm → Int → Bool × σ) (fx : Int)

/-- Nothing is sought in such a term. -/
def shutF (o h n st : Int) : Bool := o != 4 || (h == 3 || (h == 1 && decide (n ≥ IntKind.i64.wrap (st + fx))))

mutual
def innerG : Tm → Nat → Int → σ → Bool × σ
  | .mk o h n us, k, st, s => if o = 3 then innerL us k st s else
      if 0 < k ∧ fx = 0 then (true, s) else
        match (if 0 < k ∧ o = 4 then vis s (.mk o h n us) (IntKind.i64.wrap (st + k)) else (true, s)) with
        | (false, s2) => (false, s2)
        | (true, s2) => if shutF fx o h n (IntKind.i64.wrap (st + k)) then (true, s2) else argsG us (IntKind.i64.wrap (st + k)) s2
def innerL : List Tm → Nat → Int → σ → Bool × σ
  | [], _, _, s => (true, s)
  | u :: _, k, st, s => innerG u (k + 1) st s
def argsG : List Tm → Int → σ → Bool × σ
  | [], _, s => (true, s)
  | x :: xs, st, s => match vis s x st with
    | (false, s1) => (false, s1)
    | (true, s1) => match innerG x 0 st s1 with
      | (false, s2) => (false, s2)
      | (true, s2) => argsG xs st s2
 end

def walkG (t : Tm) (st : Int) (s : σ) : Bool × σ := if shutF fx t.op t.hd t.n st then (true, s) else argsG vis fx t.args st s

theorem innerG_no {t : Tm} (h : t.op ≠ 3) (k : Nat) (st : Int) (s : σ) : innerG vis fx t k st s = if 0 < k ∧ fx = 0 then (true, s) else
    match (if 0 < k ∧ t.op = 4 then vis s t (IntKind.i64.wrap (st + k)) else (true, s)) with
    | (false, s2) => (false, s2)
    | (true, s2) => walkG vis fx t (IntKind.i64.wrap (st + k)) s2 := by
  cases t with
  | mk o hd n us =>
    simp only [Tm.op] at h
    simp only [innerG, if_neg h, walkG, Tm.op, Tm.hd, Tm.n, Tm.args]
    rfl

theorem innerG_strip : ∀ (n : Nat) (t : Tm), t.height ≤ n → lamOK t = true → ∀ (k : Nat) (st : Int) (s : σ), innerG vis fx t k st s = innerG vis fx (stripF t).1 (k + (stripF t).2) st s ∧ (stripF t).1.op ≠ 3 ∧ (stripF t).1.height ≤ t.height ∧ lamOK (stripF t).1 = true
  | 0, t, hn, _, _, _, _ => by have := Tm.height_eq t; omega
  | n + 1, t, hn, hl, k, st, s => by
    by_cases ho : t.op = 3
    · obtain ⟨v, vs, hargs⟩ : ∃ v vs, t.args = v :: vs := List.exists_cons_of_ne_nil (lamOK_ne hl ho)
      have hvm : v ∈ t.args := by rw [hargs]; simp
      have hht := Tm.height_le hvm
      have hhe := Tm.height_eq t
      have ih := innerG_strip n v (by omega) (lamOK_arg hl hvm) (k + 1) st s
      rw [stripF_lam ho hargs]
      refine ⟨?_, ih.2.1, by simp only; omega, ih.2.2.2⟩
      cases t with
      | mk o hd m us =>
        simp only [Tm.op] at ho
        simp only [Tm.args] at hargs
        subst ho hargs
        simp only [innerG, if_true, innerL]
        rw [ih.1]
        congr 1
        omega
    · rw [stripF_no ho]
      exact ⟨rfl, ho, Nat.le_refl _, hl⟩
end

/-- A visitor that is handed four own blocks. -/
structure Visits {σ : Type} (vis : σ → Tm → Int → Bool × σ) (Y : SV) (B0 B1 B2 B3 : σ → Blk) (xr : Value × D) (I : σ → Prop) : Prop where
  wf0 : Y.wf 4 = true
  wf : ∀ s, (B0 s).wf 4 = true ∧ (B1 s).wf 4 = true ∧ (B2 s).wf 4 = true ∧ (B3 s).wf 4 = true
  mt : ∀ s s', (B0 s).mut = (B0 s').mut ∧ (B1 s).mut = (B1 s').mut ∧ (B2 s).mut = (B2 s').mut ∧ (B3 s).mut = (B3 s').mut
  does : ∀ s t k a c, I s → Meets Tryz.prog (.val Y) [tmS t a c, iS k] ⟨[B0 s, B1 s, B2 s, B3 s], [], [tmR t a c, xr]⟩ (fun o S' => o = .ret (bS (vis s t k).1) ∧ ((vis s t k).1 = true → I (vis s t k).2) ∧ S' = ⟨[B0 (vis s t k).2, B1 (vis s t k).2, B2 (vis s t k).2, B3 (vis s t k).2], [], []⟩)

end Go.Proofs.YtnolnmfpmhpapaaGreatDoor
end

/-! OrdE -/
section
namespace Go.Proofs.YtnolnmfpmhpapaaGreatDoor
open Go.Tr Go
set_option maxRecDepth 10000

/-- The first loop over a function in a code: what it does ahead of its body, and its body. -/
noncomputable def rfOf : Code → Option (Code × Code)
  | .rangeFunc _ _ a b => some (a, b)
  | .seq a b => match rfOf a with
    | some r => some r
    | none => rfOf b
  | .cond _ t e => match rfOf t with
    | some r => some r
    | none => rfOf e
  | .block _ b => rfOf b
  | .loop b => rfOf b
  | .scope b => rfOf b
  | _ => none

noncomputable def rfAs (f : Func) : Code := match f.body with
  | none => .skip
  | some c => match rfOf c with
    | some (a, _) => a
    | none => .skip
noncomputable def rfBody (f : Func) : Code := match f.body with
  | none => .skip
  | some c => match rfOf c with
    | some (_, b) => b
    | none => .skip

/-- What compare does with an object that is visited. -/
abbrev vMatch (fx : Int) (a : Tm) : Bool → Tm → Int → Bool × Bool := fun s x k => (!(matchF k fx a x 0 []).1, s || (matchF k fx a x 0 []).1)

abbrev outB (s : Bool) : Blk := .cells 3 [iS (match s with
  | true => 2
  | false => 0)]

abbrev tmB (t : Tm) (a : Option Addr) (c : Nat) : Blk := .cells 54 [iS t.op, iS t.hd, iS t.n, .v (.slice a (Tm.encL t.args).length c)]

def compareF (fx : Int) (a b : Tm) : Int := if sameF a b then 1 else if 0 < (stripF b).2 ∧ fx = 0 then 0 else if (walkG (vMatch fx a) fx (stripF b).1 (stripF b).2 false).2 then 2 else 0

end Go.Proofs.YtnolnmfpmhpapaaGreatDoor
end

/-! OrdF -/
section
namespace Go.Proofs.YtnolnmfpmhpapaaGreatDoor
open Go.Tr Go
set_option maxRecDepth 10000

mutual
/-- Each node is built as nodes are. -/
def okAll : Tm → Bool
  | .mk o h n us => okNode o h n us.length && okAllL us
def okAllL : List Tm → Bool
  | [] => true
  | u :: us => okAll u && okAllL us
 end

theorem okAllL_mem : ∀ {us : List Tm} {u : Tm}, okAllL us = true → u ∈ us → okAll u = true
  | [], u, _, h => by simp at h
  | v :: us, u, h, hm => by
    simp only [okAllL, Bool.and_eq_true] at h
    rcases List.mem_cons.1 hm with e | e
    · subst e; exact h.1
    · exact okAllL_mem h.2 e

theorem okAll_arg {t u : Tm} (h : okAll t = true) (hu : u ∈ t.args) : okAll u = true := by
  cases t; simp only [okAll, Bool.and_eq_true] at h; exact okAllL_mem h.2 hu

mutual
theorem Tm.count_pos : ∀ t : Tm, 1 ≤ t.count
  | .mk _ _ _ us => by simp only [Tm.count]; omega
theorem Tm.height_pos : ∀ t : Tm, 1 ≤ t.height
  | .mk _ _ _ us => by simp only [Tm.height]; omega
 end

mutual
theorem properF_iff : ∀ (t : Tm) (d k : Int), (properF t d k).1 = true ↔ okAll t = true ∧ k + t.count ≤ 600 ∧ d + t.height ≤ 41
  | .mk o h n us, d, k => by
    have hl := properL_iff us (d + 1) (k + 1)
    simp only [properF, Tm.count, Tm.height, okAll, Bool.and_eq_true]
    by_cases h1 : 600 < k + 1 ∨ 40 < d
    · rw [if_pos h1]
      simp only [Bool.false_eq_true, false_iff]
      omega
    · rw [if_neg h1]
      by_cases h2 : okNode o h n us.length = true
      · rw [if_pos h2, hl]
        simp only [h2, true_and]
        constructor
        · rintro ⟨h3, h4, h5⟩
          refine ⟨h3, ?_, ?_⟩
          · rcases h4 with h4 | rfl
            · omega
            · simp only [Tm.countL]; omega
          rcases h5 with rfl | h5
          · simp only [Tm.heightL]; omega
          · omega
        · rintro ⟨h3, h4, h5⟩
          exact ⟨h3, .inl (by omega), .inr (by omega)⟩
      · rw [if_neg h2]
        simp [h2]
theorem properL_iff : ∀ (us : List Tm) (d k : Int), (properL us d k).1 = true ↔ okAllL us = true ∧ (k + Tm.countL us ≤ 600 ∨ us = []) ∧ (us = [] ∨ d + Tm.heightL us ≤ 41)
  | [], d, k => by simp [properL, okAllL]
  | u :: us, d, k => by
    have h1 := properF_iff u d k
    have hc := fun h => properF_count u d k h
    have hp := Tm.count_pos u
    have hq := Tm.height_pos u
    simp only [properL, okAllL, Tm.countL, Tm.heightL, Bool.and_eq_true]
    cases hu : properF u d k with
    | mk b k' =>
      rw [hu] at h1 hc
      cases b with
      | false =>
        simp only [Bool.false_eq_true, false_iff] at h1 ⊢
        rintro ⟨⟨h2, h3⟩, h4, h5⟩
        simp at h4 h5
        exact h1 ⟨h2, by omega, by omega⟩
      | true =>
        have h1 := h1.1 rfl
        have hk := (hc rfl).1
        simp only at hk
        subst hk
        simp only
        rw [properL_iff us d (k + u.count)]
        simp only [h1.1, true_and, reduceCtorEq, or_false, false_or]
        constructor
        · rintro ⟨h2, h3, h4⟩
          refine ⟨h2, ?_, ?_⟩
          · rcases h3 with h3 | rfl
            · omega
            · simp only [Tm.countL]; omega
          · rcases h4 with rfl | h4
            · simp only [Tm.heightL]; omega
            · omega
        · rintro ⟨h2, h3, h4⟩
          exact ⟨h2, .inl (by omega), .inr (by omega)⟩
 end

theorem isProper_iff (t : Tm) : isProper t = true ↔ okAll t = true ∧ t.count ≤ 600 ∧ t.height ≤ 40 := by
  rw [isProper, properF_iff]
  constructor
  · rintro ⟨h1, h2, h3⟩; exact ⟨h1, by omega, by omega⟩
  · rintro ⟨h1, h2, h3⟩; exact ⟨h1, by omega, by omega⟩

mutual
theorem okAll_lamOK : ∀ t : Tm, okAll t = true → lamOK t = true
  | .mk o h n us, hp => by
    simp only [okAll, Bool.and_eq_true] at hp
    simp only [lamOK, Bool.and_eq_true, Bool.or_eq_true, bne_iff_ne]
    refine ⟨?_, okAllL_lamOK us hp.2⟩
    by_cases ho : o = 3
    · right
      subst ho
      have := hp.1
      cases us with
      | nil => simp [okNode] at this
      | cons u us => rfl
    · exact .inl ho
theorem okAllL_lamOK : ∀ us : List Tm, okAllL us = true → lamOKL us = true
  | [], _ => rfl
  | u :: us, hp => by
    simp only [okAllL, Bool.and_eq_true] at hp
    simp only [lamOKL, Bool.and_eq_true]
    exact ⟨okAll_lamOK u hp.1, okAllL_lamOK us hp.2⟩
 end

theorem isObjectF_proper {t : Tm} {n : Int} (h : isObjectF t n = true) : isProper t = true := by
  simp only [isObjectF, Bool.and_eq_true] at h; exact h.1

/-- What order.Compare answers. -/
def compareE (n fx : Int) (a b : Tm) : Int × Int := if isScopeF n fx = true ∧ isObjectF a n = true ∧ isObjectF b n = true then (compareF fx a b, 0) else (0, 2)

end Go.Proofs.YtnolnmfpmhpapaaGreatDoor
end

/-! Ref3A -/
section
namespace Go.Proofs.YtnolnmfpmhpapaaGreatDoor
open Go.Tr Go
set_option maxRecDepth 10000

theorem drop_cons {α : Type} {l : List α} {i : Nat} {x : α} (h : l[i]? = some x) : l.drop i = x :: l.drop (i + 1) := by
  obtain ⟨hlt, he⟩ := List.getElem?_eq_some_iff.1 h
  rw [List.drop_eq_getElem_cons hlt, he]

mutual
def formedF : Tm → Int → Bool
  | .mk o h n us, d => if 40 < d then false else okNode o h n us.length && formedL us (d + 1)
def formedL : List Tm → Int → Bool
  | [], _ => true
  | u :: us, d => formedF u d && formedL us d
 end
theorem formedF_eq (t : Tm) (d : Int) : formedF t d = if 40 < d then false else okNode t.op t.hd t.n t.args.length && formedL t.args (d + 1) := by cases t; rfl

theorem formed_spec (t : Tm) : ∀ (d : Int) (a : Option Addr) (c : Nat), 0 ≤ d → d ≤ 41 → Pure Tryz.prog (fnS 77) [tmS t a c, iS d] [tmR t a c] (fun r out => r = bS (formedF t d) ∧ out = []) := by
  induction t using Tm.ind with
  | h t ih =>
  intro d a c hd0 hd1
  refine Meets.of_ok fun hok => ?_
  have hB : (Tm.encL t.args).length ≤ 1152921504606846976 := (hok _ (List.mem_cons_self ..)).1
  have hlen := Tm.encL_length t.args
  have hF := formedF_eq t d
  refine spec_of_body (N := 94) (m := 0) (dt := fun _ => none) [3] ttOK Tryz.func77 rfl Tryz.call77 Tryz.ntmps77 rfl rfl rfl mixed (by kernel_rfl) ?_
  refine AtIf.mk (fun h => ?_) (fun h => ?_)
  · simp only [decide_eq_true_eq] at h
    exact AtRet.pure [] rfl (by simp) ⟨by rw [hF, if_pos h], rfl⟩
  have h : ¬ 40 < d := by simpa using h
  rw [if_neg h] at hF
  refine AtCut.mk ⟨Unit, fun _ => [(2, .loc 0 0), (1, iS d)],
      fun _ => ⟨[.cells 54 [iS t.op, iS t.hd, iS t.n, .v (.slice a (Tm.encL t.args).length c)]], [], [tmR t a c]⟩,
      fun _ => okNode t.op t.hd t.n t.args.length = true, fun _ _ => ⟨rfl, rfl⟩, ?_, ?_⟩
  · have bad : okNode t.op t.hd t.n t.args.length = false → formedF t d = false := fun h => by rw [hF, h]; rfl
    refine AtIf.mk (fun h1 => ?_) (fun h1 => AtIf.mk (fun h2 => ?_) (fun h2 => AtIf.mk (fun h3 => ?_) (fun h3 => AtIf.mk (fun h4 => ?_) (fun h4 => ?_))))
    · simp only [beq_iff_eq] at h1
      refine AtIf.mk (fun h5 => ?_) (fun h5 => ?_)
      · refine AtRet.pure [] rfl (by simp) ⟨?_, rfl⟩
        rw [bad]
        simp only [okNode, h1]
        simp [hlen] at h5 ⊢
        first | omega | (intros; simp_all) | simp_all
      · refine ⟨(), ?_, ⟨rfl, rfl, trivial⟩, StLe.refl _⟩
        simp only [okNode, h1]
        simp [hlen] at h5 ⊢
        first | omega | (intros; simp_all) | simp_all
    · simp only [beq_iff_eq] at h2
      refine AtIf.mk (fun h5 => ?_) (fun h5 => ?_)
      · refine AtRet.pure [] rfl (by simp) ⟨?_, rfl⟩
        rw [bad]
        simp only [okNode, h2]
        simp [hlen] at h5 ⊢
        omega
      · refine ⟨(), ?_, ⟨rfl, rfl, trivial⟩, StLe.refl _⟩
        simp only [okNode, h2]
        simp [hlen] at h5 ⊢
        omega
    · simp only [beq_iff_eq] at h3
      refine AtIf.mk (fun h5 => ?_) (fun h5 => ?_)
      · refine AtRet.pure [] rfl (by simp) ⟨?_, rfl⟩
        rw [bad]
        simp only [okNode, h3]
        simp [hlen] at h5 ⊢
        omega
      · refine ⟨(), ?_, ⟨rfl, rfl, trivial⟩, StLe.refl _⟩
        simp only [okNode, h3]
        simp [hlen] at h5 ⊢
        omega
    · simp only [beq_iff_eq] at h4
      refine AtIf.mk (fun h5 => ?_) (fun h5 => ?_)
      · refine AtRet.pure [] rfl (by simp) ⟨?_, rfl⟩
        rw [bad]
        simp only [okNode, h4]
        simp at h5 ⊢
        omega
      · refine ⟨(), ?_, ⟨rfl, rfl, trivial⟩, StLe.refl _⟩
        simp only [okNode, h4]
        simp at h5 ⊢
        omega
    · simp only [beq_eq_false_iff_ne] at h1 h2 h3 h4
      refine AtRet.pure [] rfl (by simp) ⟨?_, rfl⟩
      rw [bad]
      simp [okNode, h1, h2, h3, h4]
  intro _ hok2
  rw [hok2, Bool.true_and] at hF
  refine AtLoop.mk ⟨Nat, fun i => [(5, iS i), (2, .loc 0 0), (1, iS d)], fun _ => ⟨[.cells 54 [iS t.op, iS t.hd, iS t.n, .v (.slice a (Tm.encL t.args).length c)]], [], [tmR t a c]⟩,
    fun i => i ≤ t.args.length ∧ formedF t d = formedL (t.args.drop i) (d + 1), fun i => t.args.length - i, 0, ⟨Nat.zero_le _, hF⟩, ⟨rfl, rfl, rfl, trivial⟩, StLe.refl _, fun _ _ => ⟨rfl, rfl⟩, ?_⟩
  rintro i ⟨hi, hinv⟩
  refine AtIf.mk (fun h1 => ?_) (fun h1 => ?_)
  · simp only [decide_eq_true_eq, hlen] at h1
    obtain ⟨x, hx⟩ : ∃ x, t.args[i]? = some x := ⟨_, List.getElem?_eq_getElem (by omega)⟩
    refine at_index ttOK 0 rfl rfl rfl rfl (by omega) (by rw [Int.toNat_natCast]; exact Tm.encL_get hx) ?_
    intro a1 c1 _ _
    have hw2 : IntKind.i64.wrap (d + 1) = d + 1 := wrap_i64 (by omega) (by omega)
    have hsp := ih x (List.mem_of_getElem? hx) (d + 1) a1 c1 (by omega) (by omega)
    rw [← hw2] at hsp
    refine hsp.at (by simp) rfl rfl ?_
    rintro r out ⟨rfl, rfl⟩
    rw [drop_cons hx, formedL, ← hw2] at hinv
    refine AtIf.mk (fun h2 => ?_) (fun h2 => ?_)
    · have h2 : formedF x (IntKind.i64.wrap (d + 1)) = false := by simpa using h2
      exact AtRet.pure [] rfl (by simp) ⟨by rw [hinv, h2]; rfl, rfl⟩
    · have h2 : formedF x (IntKind.i64.wrap (d + 1)) = true := by simpa using h2
      have hw3 : IntKind.i64.wrap (i + 1) = ((i + 1 : Nat) : Int) := wrap_i64 (by omega) (by omega)
      exact ⟨i + 1, ⟨by omega, by rw [hinv, h2, hw2]; rfl⟩, by simp only; omega, ⟨by rw [← hw3]; rfl, rfl, rfl, trivial⟩, StLe.to _ _ rfl (by simp) rfl rfl⟩
  · simp only [decide_eq_false_iff_not, hlen] at h1
    rw [List.drop_of_length_le (by omega)] at hinv
    exact AtRet.pure [] rfl (by simp) ⟨by rw [hinv]; rfl, rfl⟩

mutual
def nodesF : Tm → Int → Int
  | .mk _ _ _ us, m => if m + 1 < nodesL us m 1 then m + 1 else nodesL us m 1
def nodesL : List Tm → Int → Int → Int
  | [], _, n => n
  | u :: us, m, n => if n ≤ m then nodesL us m (n + nodesF u (m - n)) else n
 end
theorem nodesF_eq (t : Tm) (m : Int) : nodesF t m = if m + 1 < nodesL t.args m 1 then m + 1 else nodesL t.args m 1 := by cases t; rfl

mutual
theorem nodesF_le : ∀ (t : Tm) (m : Int), 0 ≤ m → 1 ≤ nodesF t m ∧ nodesF t m ≤ m + 1
  | .mk _ _ _ us, m, h => by
    have := nodesL_le us m 1 (by omega) (by omega)
    simp only [nodesF]
    split <;> omega
theorem nodesL_le : ∀ (us : List Tm) (m n : Int), 1 ≤ n → n ≤ m + 1 → n ≤ nodesL us m n ∧ nodesL us m n ≤ m + 1
  | [], m, n, h1, h2 => by simp only [nodesL]; omega
  | u :: us, m, n, h1, h2 => by
    simp only [nodesL]
    split
    · have h3 := nodesF_le u (m - n) (by omega)
      have h4 := nodesL_le us m (n + nodesF u (m - n)) (by omega) (by omega)
      omega
    · omega
 end

theorem nodes_spec (t : Tm) : ∀ (m : Int) (a : Option Addr) (c : Nat), 0 ≤ m → m ≤ 1000000 → Pure Tryz.prog (fnS 76) [tmS t a c, iS m] [tmR t a c] (fun r out => r = iS (nodesF t m) ∧ out = []) := by
  induction t using Tm.ind with
  | h t ih =>
  intro m a c hm0 hm1
  refine Meets.of_ok fun hok => ?_
  have hB : (Tm.encL t.args).length ≤ 1152921504606846976 := (hok _ (List.mem_cons_self ..)).1
  have hlen := Tm.encL_length t.args
  refine spec_of_body (N := 34) (m := 0) (dt := fun _ => none) [] ttOK Tryz.func76 rfl Tryz.call76 Tryz.ntmps76 rfl rfl rfl mixed (by kernel_rfl) ?_
  refine AtLoop.mk ⟨Nat × Int, fun x => [(6, iS x.1), (5, iS x.2), (2, .loc 0 0), (1, iS m)], fun _ => ⟨[.cells 54 [iS t.op, iS t.hd, iS t.n, .v (.slice a (Tm.encL t.args).length c)]], [], [tmR t a c]⟩,
    fun x => x.1 ≤ t.args.length ∧ 1 ≤ x.2 ∧ x.2 ≤ m + 1 ∧ nodesL t.args m 1 = nodesL (t.args.drop x.1) m x.2, fun x => t.args.length - x.1, (0, 1), ⟨Nat.zero_le _, Int.le_refl _, by simp only; omega, rfl⟩, ⟨rfl, rfl, rfl, rfl, trivial⟩, StLe.refl _, fun _ _ => ⟨rfl, rfl⟩, ?_⟩
  rintro ⟨i, n⟩ ⟨hi, hn0, hn1, hinv⟩
  simp only at hi hn0 hn1 hinv ⊢
  refine AtIf.mk (fun h1 => ?_) (fun h1 => ?_)
  · simp only [Bool.and_eq_true, decide_eq_true_eq, hlen] at h1
    obtain ⟨x, hx⟩ : ∃ x, t.args[i]? = some x := ⟨_, List.getElem?_eq_getElem (by omega)⟩
    refine at_index ttOK 0 rfl rfl rfl rfl (by omega) (by rw [Int.toNat_natCast]; exact Tm.encL_get hx) ?_
    intro a1 c1 _ _
    have hw2 : IntKind.i64.wrap (m - n) = m - n := wrap_i64 (by omega) (by omega)
    have hsp := ih x (List.mem_of_getElem? hx) (m - n) a1 c1 (by omega) (by omega)
    rw [← hw2] at hsp
    refine hsp.at (by simp) rfl rfl ?_
    rintro r out ⟨rfl, rfl⟩
    have hle := nodesF_le x (m - n) (by omega)
    have hw3 : IntKind.i64.wrap (i + 1) = ((i + 1 : Nat) : Int) := wrap_i64 (by omega) (by omega)
    have hw4 : IntKind.i64.wrap (n + nodesF x (m - n)) = n + nodesF x (m - n) := wrap_i64 (by omega) (by omega)
    refine ⟨(i + 1, n + nodesF x (m - n)), ⟨by omega, by simp only; omega, by simp only; omega, ?_⟩, by simp only; omega, ⟨by rw [← hw3]; rfl, by simp only [hw2, hw4]; rfl, rfl, rfl, trivial⟩, StLe.to _ _ rfl (by simp) rfl rfl⟩
    rw [hinv, drop_cons hx, nodesL, if_pos h1.2]
  · have hw2 : IntKind.i64.wrap (m + 1) = m + 1 := wrap_i64 (by omega) (by omega)
    refine at_min ?_
    have hres : nodesL t.args m 1 = n := by
      rw [hinv]
      by_cases hlt : i < t.args.length
      · obtain ⟨x, hx⟩ : ∃ x, t.args[i]? = some x := ⟨_, List.getElem?_eq_getElem (by omega)⟩
        simp only [Bool.and_eq_false_iff, decide_eq_false_iff_not, hlen] at h1
        rw [drop_cons hx, nodesL, if_neg (by omega)]
      · rw [List.drop_of_length_le (by omega), nodesL]
    refine AtRet.pure [] rfl (by simp) ⟨?_, rfl⟩
    rw [nodesF_eq, hres, hw2]

/-- What trussref03.Proper answers. -/
def refProper (t : Tm) : Bool := decide (nodesF t 600 ≤ 600) && formedF t 1

theorem refProper_spec (t : Tm) (a : Option Addr) (c : Nat) : Pure Tryz.prog (fnS 24) [tmS t a c] [tmR t a c] (fun r out => r = bS (refProper t) ∧ out = []) := by
  refine spec_of_body (N := 10) (m := 0) (dt := fun _ => none) [] ttOK Tryz.func24 rfl Tryz.call24 Tryz.ntmps24 rfl rfl rfl mixed (by kernel_rfl) ?_
  refine (nodes_spec t 600 a c (by omega) (by omega)).at (by simp) rfl rfl ?_
  rintro r out ⟨rfl, rfl⟩
  refine AtGuard.mk (fun h => ?_) (fun h => ?_)
  · refine (formed_spec t 1 a c (by omega) (by omega)).at (by simp) rfl rfl ?_
    rintro r out ⟨rfl, rfl⟩
    have h : decide (nodesF t 600 ≤ 600) = true := h
    exact AtRet.pure [] rfl (by simp) ⟨by rw [refProper, h]; rfl, rfl⟩
  · have h : decide (nodesF t 600 ≤ 600) = false := h
    exact AtRet.pure [] rfl (by simp) ⟨by rw [refProper, h]; rfl, rfl⟩
end Go.Proofs.YtnolnmfpmhpapaaGreatDoor
end
