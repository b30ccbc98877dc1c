/- Rules for maps with int keys (made by the run itself), for walks over them. Conditions stand in each rule. -/
import Derived.Test.YtjjgfenincdgpaaFwN
namespace Go.Tr
open Go
set_option linter.unusedSimpArgs false

/-- The entries of a map that nothing was taken from, the n-th one laid as the n-th. -/
def entries (q : IntKind) : List (Int × Value) → Nat → List MapEntry
  | [], _ => []
  | (k, v) :: r, i => ⟨.int q k, v, i⟩ :: entries q r (i + 1)

def mapO (q : IntKind) (l : List (Int × Value)) : Obj := .map (entries q l 0).toArray l.length

def lookM : List (Int × Value) → Int → Option Value
  | [], _ => none
  | (k, v) :: r, n => if n = k then some v else lookM r n

def putAt (n : Int) (v : Value) : List (Int × Value) → List (Int × Value)
  | [] => [(n, v)]
  | (k, u) :: r => if n = k then (k, v) :: r else (k, u) :: putAt n v r

theorem entries_length (q : IntKind) : ∀ (l : List (Int × Value)) (i : Nat), (entries q l i).length = l.length
  | [], _ => rfl
  | _ :: r, i => by simp [entries, entries_length q r]

theorem entries_append (q : IntKind) : ∀ (l l' : List (Int × Value)) (i : Nat), entries q (l ++ l') i = entries q l i ++ entries q l' (i + l.length)
  | [], l', i => by simp [entries]
  | (k, v) :: r, l', i => by
    simp only [List.cons_append, entries, entries_append q r l', List.length_cons]
    congr 3; omega

theorem findNow_entries (q : IntKind) (n : Int) : ∀ (l : List (Int × Value)) (i j : Nat), Instr.findNow (.int q) (.int q n) (entries q l i) j =
    some (match l.findIdx? (fun p => n = p.1) with
      | some m => (l[m]?).map (fun p => (j + m, p.2))
      | none => none)
  | [], i, j => by simp [entries, Instr.findNow]
  | (k, v) :: r, i, j => by
    simp only [entries, Instr.findNow, Instr.sameNow, if_true]
    by_cases h : n = k
    · subst h; simp [List.findIdx?_cons]
    · have hb : (n == k) = false := by simpa using h
      simp only [hb, findNow_entries q n r (i + 1) (j + 1), List.findIdx?_cons, h, decide_false]
      cases hf : r.findIdx? (fun p => n = p.1) with
      | none => simp
      | some m =>
        have e : j + 1 + m = j + (m + 1) := by omega
        simp [e]

theorem look_idx (n : Int) : ∀ (l : List (Int × Value)), lookM l n = match l.findIdx? (fun p => n = p.1) with
    | some m => (l[m]?).map (·.2)
    | none => none
  | [] => rfl
  | (k, v) :: r => by
    simp only [lookM, List.findIdx?_cons]
    by_cases h : n = k
    · subst h; simp
    · rw [if_neg h, look_idx n r]
      simp only [h, decide_false]
      cases hf : r.findIdx? (fun p => n = p.1) with
      | none => simp
      | some m => simp

theorem putAt_none (n : Int) (v : Value) : ∀ (l : List (Int × Value)), l.findIdx? (fun p => n = p.1) = none → putAt n v l = l ++ [(n, v)]
  | [], _ => rfl
  | (k, u) :: r, h => by
    simp only [List.findIdx?_cons] at h
    by_cases hk : n = k
    · subst hk; simp at h
    · simp only [putAt, if_neg hk, List.cons_append]
      rw [putAt_none n v r]
      cases hf : r.findIdx? (fun p => n = p.1) with
      | none => rfl
      | some m => rw [hf] at h; simp [hk] at h

theorem putAt_some (q : IntKind) (n : Int) (v : Value) : ∀ (l : List (Int × Value)) (m i : Nat), l.findIdx? (fun p => n = p.1) = some m → (entries q l i).modify m (fun e => { e with key := .int q n, val := v }) = entries q (putAt n v l) i ∧ (putAt n v l).length = l.length
  | [], m, i, h => by simp at h
  | (k, u) :: r, m, i, h => by
    simp only [List.findIdx?_cons] at h
    by_cases hk : n = k
    · subst hk
      simp at h
      subst h
      simp [putAt, entries]
    · simp only [hk, decide_false] at h
      cases hf : r.findIdx? (fun p => n = p.1) with
      | none => rw [hf] at h; simp at h
      | some m' =>
        rw [hf] at h
        simp at h
        subst h
        obtain ⟨h1, h2⟩ := putAt_some q n v r m' (i + 1) hf
        simp only [putAt, if_neg hk, entries, List.modify_succ_cons, h1, List.length_cons, h2, and_self]

theorem entries_key (q : IntKind) (l : List (Int × Value)) (i m : Nat) : ((entries q l i)[m]?).map (·.key) = (l[m]?).map (fun p => Value.int q p.1) := by
  induction l generalizing i m with
  | nil => simp [entries]
  | cons p r ih =>
    obtain ⟨k, v⟩ := p
    cases m with
    | zero => simp [entries]
    | succ m => simpa [entries] using ih (i + 1) m

theorem run_checkKey_int {P : Program} {k : TypeId} {q : IntKind} (hk : P.underlying k = some (.int q)) (b : Bool) (n : Int) (w : World) : (Instr.checkKey b 10000 k (.int q n)).run P w = .ok () w := by
  unfold Instr.checkKey
  simp [run_underlying hk]

/-- A map is made. -/
theorem at_makeMap {P : Program} {t : TypeId} (q : IntKind) {S : St} {K : SV → St → Prop} (h : forceL (S.own ++ [.obj (mapO q [])]) (fun own => putOwn S own (fun S' => K (.mp S.own.length) S'))) : AtSem P (fun ℓ => Instr.makeMap t (denO ℓ none)) S K := by
  rw [forceL_eq, putOwn_eq] at h
  constructor
  intro J ℓ w hG hJ
  have hold : ∀ x, x < w.heap.size → (w.alloc (mapO q [])).heap[x]? = w.heap[x]? := fun x hx => by
    show (w.heap.push _)[x]? = _
    rw [Array.getElem?_push, if_neg (by omega)]
  have hm := mutS_push hG.len (S := S) ⟨w.heap.size, 0⟩ (.obj (mapO q []))
  refine ⟨.mp S.own.length, ℓ ++ [⟨w.heap.size, 0⟩], _, w.alloc (mapO q []), ?_, by simp [SV.wf], List.prefix_append _ _, ⟨rfl, rfl, by simp, fun x hx _ => hold x hx⟩, ?_, ?_, h⟩
  · simp only [Instr.makeMap, denO, SV.den]
    rw [← hG.len, getD_new]
    simp [mapO, entries]
  · exact hG.push ⟨w.heap.size, 0⟩ (.obj _) rfl (fun _ => ⟨Nat.le_refl _, by simp, hJ _ (Nat.le_refl _)⟩) (by simp) hold ⟨rfl, World.alloc_heap_new w _⟩
  · intro x hx
    rcases (hm x).1 hx with h1 | ⟨_, h1⟩
    · exact .inl h1
    · subst h1; exact .inr (Nat.le_refl _)

theorem own_obj {J : Nat → Prop} {ℓ : List Base} {S : St} {w : World} (hG : Good J ℓ S w) {i : Nat} {o : Obj} (hi : nth S.own i = some (.obj o)) : ∃ b, ℓ[i]? = some b ∧ S.own[i]? = some (.obj o) ∧ (ℓ.getD i default).block = b.block ∧ b.off = 0 ∧ w.heap[b.block]? = some o := by
  have hk : S.own[i]? = some (.obj o) := by rw [← nth_eq]; exact hi
  obtain ⟨b, hb, hok⟩ := own_at hG hk
  simp only [BlkOK] at hok
  exact ⟨b, hb, hk, by simp [List.getD, hb], hok.1, hok.2⟩

theorem run_getMap {P : Program} {w : World} {r : Nat} {es : Array MapEntry} {c : Nat} (h : w.heap[r]? = some (.map es c)) : (getObj r).run P w = .ok (.map es c) w := by simp [getObj, Sem.run, h]
theorem run_setMap {P : Program} {w : World} {r : Nat} {es : Array MapEntry} {c : Nat} (o' : Obj) (h : w.heap[r]? = some (.map es c)) : (setObj r o').run P w = .ok () (w.putObj r o') := by simp [setObj, Sem.run, h, World.putObj]

/-- An own object is written. -/
theorem Good.putObj {J : Nat → Prop} {ℓ : List Base} {S : St} {w : World} (hG : Good J ℓ S w) {i : Nat} {b : Base} {k k' : Blk} (hk : S.own[i]? = some k) (hb : ℓ[i]? = some b) (hm : k.mut = true) (hm' : k'.mut = true) (hwf : k'.wf S.own.length = true) (o' : Obj)
    (hok : BlkOK (Jx J (mutS ℓ S)) ℓ (w.putObj b.block o') b k') : Ext (mutS ℓ S) w (w.putObj b.block o') ∧ Good J ℓ ⟨S.own.set i k', S.accs, S.reps⟩ (w.putObj b.block o') ∧ ∀ x ∈ mutS ℓ ⟨S.own.set i k', S.accs, S.reps⟩, x ∈ mutS ℓ S ∨ w.heap.size ≤ x := by
  have hbm : b.block ∈ mutS ℓ S := by simp only [mutS]; exact List.mem_append.2 (.inl (mem_mutL.2 ⟨i, b, k, hb, hk, hm, rfl⟩))
  have hmut : mutS ℓ ⟨S.own.set i k', S.accs, S.reps⟩ = mutS ℓ S := by
    simp only [mutS]; rw [mutL_set hk (hm'.trans hm.symm)]
  have hoth : ∀ y, y ≠ b.block → (w.putObj b.block o').heap[y]? = w.heap[y]? := fun y hy => World.putObj_heap_other hy
  refine ⟨⟨rfl, rfl, by simp, fun y _ hy => hoth y (fun e => hy (e ▸ hbm))⟩, ?_, fun x hx => .inl (by rw [hmut] at hx; exact hx)⟩
  exact hG.update hk hb hm hm' hwf (by simp) (fun y _ hy => hoth y hy) hok

/-- m[n], with or without the word whether it is there. -/
theorem at_lookup {P : Program} {tt : Tab} (hT : TTOK P tt) {t k e : TypeId} {q : IntKind} {x ix : SV} {S : St} {K : SV → St → Prop} {i : Nat} {n : Int} {l : List (Int × Value)} {ok : Bool} (z : Value) (ht : tt t = some (.map k e)) (hk : P.underlying k = some (.int q)) (hz : ∀ w, (zeroValue e).run P w = .ok z w)
    (hx : x = .mp i) (hi : nth S.own i = some (.obj (mapO q l))) (hix : ix = .v (.int q n))
    (h1 : ∀ v, lookM l n = some v → K (if ok then .tup [.v v, .v (.bool true)] else .v v) S) (h2 : lookM l n = none → K (if ok then .tup [.v z, .v (.bool false)] else .v z) S) : AtSem P (fun ℓ => Instr.lookup t (x.den ℓ) (ix.den ℓ) ok) S K := by
  subst hx hix
  constructor
  intro J ℓ w hG hJ
  obtain ⟨b, hb, hk', hbl, hoff, hh⟩ := own_obj hG hi
  have hu := (hT t _ ht).2
  have hrun : (Instr.lookup t ((SV.mp i).den ℓ) ((SV.v (.int q n)).den ℓ) ok).run P w = .ok ((match lookM l n with
      | some v => (if ok then SV.tup [.v v, .v (.bool true)] else .v v)
      | none => (if ok then .tup [.v z, .v (.bool false)] else .v z)).den ℓ) w := by
    simp only [Instr.lookup, SV.den, Sem.run_bind, run_underlying' hu, Result.andThen_ok]
    have hg := run_getMap (P := P) hh
    rw [hbl]
    simp only [Sem.run_bind, hg, Result.andThen_ok, Sem.run_pure]
    simp only [run_checkKey_int hk, Result.andThen_ok, Instr.findKey, Sem.run_bind, run_underlying hk, findNow_entries]
    rw [look_idx]
    cases hf : l.findIdx? (fun p => n = p.1) with
    | none => simp [hz, Result.andThen]; cases ok <;> simp [SV.den, SV.denL]
    | some m =>
      have hlt : m < l.length := by
        obtain ⟨hlt, _⟩ := List.findIdx?_eq_some_iff_getElem.1 hf
        exact hlt
      simp only [List.getElem?_eq_getElem hlt, Option.map_some, Sem.run_pure, Result.andThen_ok]
      cases ok <;> simp [SV.den, SV.denL]
  cases hl : lookM l n with
  | some v =>
    rw [hl] at hrun
    exact ⟨_, ℓ, S, w, hrun, by cases ok <;> rfl, List.prefix_refl _, Ext.refl _ _, hG, fun b hb => .inl hb, h1 v hl⟩
  | none =>
    rw [hl] at hrun
    exact ⟨_, ℓ, S, w, hrun, by cases ok <;> rfl, List.prefix_refl _, Ext.refl _ _, hG, fun b hb => .inl hb, h2 hl⟩

/-- m[n] = x. -/
theorem at_mapPut {P : Program} {tt : Tab} (hT : TTOK P tt) {t k e : TypeId} {q : IntKind} {x ix y : SV} {S : St} {K : SV → St → Prop} {i : Nat} {n : Int} {l : List (Int × Value)} (v : Value) (ht : tt t = some (.map k e)) (hk : P.underlying k = some (.int q))
    (hx : x = .mp i) (hi : nth S.own i = some (.obj (mapO q l))) (hix : ix = .v (.int q n)) (hy : ∀ ℓ, y.den ℓ = v)
    (h : forceL (setNth S.own i (.obj (mapO q (putAt n v l)))) (fun own => putOwn S own (fun S' => K undefS S'))) : AtSem P (fun ℓ => do Instr.mapUpdate t (x.den ℓ) (ix.den ℓ) (y.den ℓ); pure undef) S K := by
  subst hx hix
  rw [forceL_eq, putOwn_eq] at h
  constructor
  intro J ℓ w hG hJ
  obtain ⟨b, hb, hk', hbl, hoff, hh⟩ := own_obj hG hi
  have hu := (hT t _ ht).2
  have hrun : (Instr.mapUpdate t ((SV.mp i).den ℓ) ((SV.v (.int q n)).den ℓ) (y.den ℓ)).run P w = .ok () (w.putObj b.block (mapO q (putAt n v l))) := by
    simp only [Instr.mapUpdate, SV.den, hy, Sem.run_bind, run_underlying' hu, Result.andThen_ok, hbl]
    have hg := run_getMap (P := P) hh
    simp only [hg, Result.andThen_ok, run_checkKey_int hk, Instr.findKey, Sem.run_bind, run_underlying hk, findNow_entries]
    cases hf : l.findIdx? (fun p => n = p.1) with
    | none =>
      simp only [Sem.run_pure, Result.andThen_ok]
      rw [run_setMap _ hh, putAt_none n v l hf]
      simp [mapO, entries_append, entries]
    | some m =>
      obtain ⟨hlt, hpm, _⟩ := List.findIdx?_eq_some_iff_getElem.1 hf
      simp only [decide_eq_true_eq] at hpm
      simp only [List.getElem?_eq_getElem hlt, Option.map_some, Sem.run_pure, Result.andThen_ok, Nat.zero_add]
      have hkey : (((entries q l 0).toArray[m]?).map (·.key)).getD (.int q n) = .int q n := by
        have := entries_key q l 0 m
        simp only [List.getElem?_toArray]
        rw [this, List.getElem?_eq_getElem hlt]
        simp [← hpm]
      rw [hkey]
      have hst : (Instr.keyThatStays (.int q n) (.int q n)).run P w = .ok (.int q n) w := by simp [Instr.keyThatStays, Instr.sameBits]
      simp only [Sem.run_bind, hst, Result.andThen_ok]
      rw [run_setMap _ hh]
      obtain ⟨h1, h2⟩ := putAt_some q n v l m 0 hf
      simp only [mapO, h2]
      rw [← h1]
      simp
  obtain ⟨g1, g2, g3⟩ := hG.putObj (k' := .obj (mapO q (putAt n v l))) hk' hb rfl rfl rfl (mapO q (putAt n v l)) ⟨hoff, World.putObj_heap_same (lt_of_get hh)⟩
  refine ⟨undefS, ℓ, _, w.putObj b.block (mapO q (putAt n v l)), ?_, rfl, List.prefix_refl _, g1, g2, g3, h⟩
  simp only [Sem.run_bind, hrun, Result.andThen_ok, Sem.run_pure]
  rfl

theorem entries_get (q : IntKind) : ∀ (l : List (Int × Value)) (i m : Nat), (entries q l i)[m]? = (l[m]?).map (fun p => ⟨.int q p.1, p.2, i + m⟩)
  | [], i, m => by simp [entries]
  | (k, v) :: r, i, 0 => by simp [entries]
  | (k, v) :: r, i, m + 1 => by
    simp only [entries, List.getElem?_cons_succ, entries_get q r (i + 1) m]
    have e : i + 1 + m = i + (m + 1) := by omega
    rw [e]

theorem mem_entries {q : IntKind} {l : List (Int × Value)} {e : MapEntry} (h : e ∈ entries q l 0) : ∃ m p, l[m]? = some p ∧ e = ⟨.int q p.1, p.2, m⟩ := by
  obtain ⟨m, hm⟩ := List.getElem?_of_mem h
  rw [entries_get] at hm
  cases hp : l[m]? with
  | none => rw [hp] at hm; cases hm
  | some p => rw [hp] at hm; simp at hm; exact ⟨m, p, hp, hm.symm⟩

theorem run_choose_map {P : Program} (n : Nat) (hn : 0 < n) (w : World) : ∃ j w1, j < n ∧ (w1 = w ∨ w1 = w.drew) ∧ (choose (.mapNext n)).run P w = .ok j w1 := by
  rw [run_choose]
  by_cases h : n ≤ 1
  · exact ⟨0, w, hn, .inl rfl, by simp [Question.forced, h]⟩
  · exact ⟨_, _, Nat.mod_lt _ hn, .inr rfl, by simp [Question.forced, h, Question.cut]; rfl⟩

/-- One step of a walk over a map that stays as it is. -/
theorem run_next_map {P : Program} {ty : TypeId} {q : IntKind} {l : List (Int × Value)} {bi bm : Nat} {seen : Array Nat} {w : World} (hi : w.heap[bi]? = some (.mapIter (some bm) l.length seen l.length)) (hm : w.heap[bm]? = some (mapO q l)) :
    ∃ w1, (w1 = w ∨ w1 = w.drew) ∧
      (((∀ m, m < l.length → m ∈ seen) ∧ (Instr.next (.pointer (some ⟨bi, 0, none⟩)) false ty).run P w = .ok (.tuple #[.bool false]) w1) ∨
       ∃ m p, l[m]? = some p ∧ m ∉ seen ∧ (Instr.next (.pointer (some ⟨bi, 0, none⟩)) false ty).run P w = .ok (.tuple #[.bool true, .int q p.1, p.2]) (w1.putObj bi (.mapIter (some bm) l.length (seen.push m) l.length))) := by
  have hgi : (getObj bi).run P w = .ok (.mapIter (some bm) l.length seen l.length) w := by simp [getObj, Sem.run, hi]
  have hgm : (getObj bm).run P w = .ok (.map (entries q l 0).toArray l.length) w := run_getMap hm
  have hnot : (!seen.isEmpty && !(entries q l 0).toArray.isEmpty && (entries q l 0).toArray.all (·.born ≥ l.length)) = false := by
    cases l with
    | nil => simp [entries]
    | cons p r => obtain ⟨k, v⟩ := p; simp [entries]
  let left := (entries q l 0).toArray.filter fun e => !seen.contains e.born
  have hold : left.filter (·.born < l.length) = left := by
    rw [Array.filter_eq_self]
    intro e he
    simp only [left, Array.mem_filter, List.mem_toArray] at he
    obtain ⟨m, p, hp, rfl⟩ := mem_entries he.1
    simpa using (List.getElem?_eq_some_iff.1 hp).1
  have hnew : left.filter (·.born ≥ l.length) = #[] := by
    rw [Array.filter_eq_empty_iff]
    intro e he
    simp only [left, Array.mem_filter, List.mem_toArray] at he
    obtain ⟨m, p, hp, rfl⟩ := mem_entries he.1
    simpa using (List.getElem?_eq_some_iff.1 hp).1
  by_cases hl : left = #[]
  · have hc : ((if left.isEmpty then #[none] else #[]) ++ (left ++ #[]).map some : Array (Option MapEntry)) = #[none] := by simp [hl]
    refine ⟨w, .inl rfl, .inl ⟨?_, ?_⟩⟩
    · intro m hlt
      have h1 := Array.filter_eq_empty_iff.1 hl
      have h2 := h1 (⟨.int q l[m].1, l[m].2, m⟩ : MapEntry) (by
        rw [List.mem_toArray]
        refine List.mem_of_getElem? (i := m) ?_
        rw [entries_get, List.getElem?_eq_getElem hlt]; simp)
      simpa using h2
    · simp only [Instr.next, Sem.run_bind, hgi, Result.andThen_ok, hgm]
      rw [if_neg (by rw [hnot]; simp)]
      simp only [Sem.run_bind, Sem.run_pure, Result.andThen_ok]
      rw [show (entries q l 0).toArray.filter (fun e => !seen.contains e.born) = left from rfl, hold, hnew, hc]
      simp [Question.forced]
  · have hc : ((if left.isEmpty then #[none] else #[]) ++ (left ++ #[]).map some : Array (Option MapEntry)) = left.map some := by
      have : left.isEmpty = false := by simpa using hl
      simp [this]
    have hpos : 0 < left.size := by
      rcases Nat.eq_zero_or_pos left.size with h | h
      · exact (hl (Array.size_eq_zero_iff.1 h)).elim
      · exact h
    obtain ⟨j, w1, hj, hw1, hch⟩ := run_choose_map (P := P) (left.map some).size (by simpa using hpos) w
    have hj' : j < left.size := by simpa using hj
    have hmem : left[j] ∈ left := Array.getElem_mem hj'
    have hmem' := hmem
    simp only [left, Array.mem_filter, List.mem_toArray] at hmem'
    obtain ⟨m, p, hp, he⟩ := mem_entries hmem'.1
    have hns : m ∉ seen := by
      have := hmem'.2
      rw [he] at this
      simpa using this
    refine ⟨w1, hw1, .inr ⟨m, p, hp, hns, ?_⟩⟩
    have hset : (setObj bi (.mapIter (some bm) l.length (seen.push m) l.length)).run P w1 = .ok () (w1.putObj bi (.mapIter (some bm) l.length (seen.push m) l.length)) := by
      have : w1.heap[bi]? = some (.mapIter (some bm) l.length seen l.length) := by rcases hw1 with rfl | rfl <;> exact hi
      simp [setObj, Sem.run, this, World.putObj]
    simp only [Instr.next, Sem.run_bind, hgi, Result.andThen_ok, hgm]
    rw [if_neg (by rw [hnot]; simp)]
    simp only [Sem.run_bind, Sem.run_pure, Result.andThen_ok]
    rw [show (entries q l 0).toArray.filter (fun e => !seen.contains e.born) = left from rfl, hold, hnew, hc, hch]
    simp only [Result.andThen_ok]
    have hget : (left.map some)[j]? = some (some left[j]) := by simp [hj']
    rw [hget]
    have he' : left[j] = { key := Value.int q p.fst, val := p.snd, born := m } := he
    simp only [Sem.run_bind, he', hset, Result.andThen_ok, Sem.run_pure]

/-- 'for .. range m' begins. -/
theorem at_range {P : Program} {tt : Tab} (hT : TTOK P tt) {t k e : TypeId} {q : IntKind} {x : SV} {S : St} {K : SV → St → Prop} {i : Nat} {l : List (Int × Value)} (ht : tt t = some (.map k e)) (hx : x = .mp i) (hi : nth S.own i = some (.obj (mapO q l)))
    (h : forceL (S.own ++ [.iter i l.length #[] l.length]) (fun own => putOwn S own (fun S' => K (.loc S.own.length 0) S'))) : AtSem P (fun ℓ => Instr.range t (x.den ℓ)) S K := by
  subst hx
  rw [forceL_eq, putOwn_eq] at h
  constructor
  intro J ℓ w hG hJ
  obtain ⟨b, hb, hk', hbl, hoff, hh⟩ := own_obj hG hi
  have hu := (hT t _ ht).2
  have hilt : i < S.own.length := (List.getElem?_eq_some_iff.1 hk').1
  have hold : ∀ x, x < w.heap.size → (w.alloc (.mapIter (some b.block) l.length #[] l.length)).heap[x]? = w.heap[x]? := fun x hx => by
    show (w.heap.push _)[x]? = _
    rw [Array.getElem?_push, if_neg (by omega)]
  have hm := mutS_push hG.len (S := S) ⟨w.heap.size, 0⟩ (.iter i l.length #[] l.length)
  refine ⟨.loc S.own.length 0, ℓ ++ [⟨w.heap.size, 0⟩], _, w.alloc (.mapIter (some b.block) l.length #[] l.length), ?_, by simp [SV.wf], List.prefix_append _ _, ⟨rfl, rfl, by simp, fun x hx _ => hold x hx⟩, ?_, ?_, h⟩
  · have hg : (getObj b.block).run P w = .ok (.map (entries q l 0).toArray l.length) w := run_getMap hh
    simp only [Instr.range, SV.den, Sem.run_bind, run_underlying' hu, Result.andThen_ok, hbl, hg, Sem.run_pure]
    rw [← hG.len, getD_new]
    simp
  · refine hG.push ⟨w.heap.size, 0⟩ (.iter i l.length #[] l.length) (by simp [Blk.wf, hilt]) (fun _ => ⟨Nat.le_refl _, by simp, hJ _ (Nat.le_refl _)⟩) (by simp) hold ⟨rfl, ?_⟩
    rw [hbl]
    exact World.alloc_heap_new w _
  · intro x hx
    rcases (hm x).1 hx with h1 | ⟨_, h1⟩
    · exact .inl h1
    · subst h1; exact .inr (Nat.le_refl _)

theorem Good.drew {J : Nat → Prop} {ℓ : List Base} {S : St} {w : World} (h : Good J ℓ S w) : Good J ℓ S w.drew := h.kept (fun _ h => h) (Nat.le_refl _) (fun _ _ _ => rfl)

theorem own_iter {J : Nat → Prop} {ℓ : List Base} {S : St} {w : World} (hG : Good J ℓ S w) {i j since : Nat} {seen : Array Nat} {stepped : Nat} (hi : nth S.own i = some (.iter j since seen stepped)) : ∃ b, ℓ[i]? = some b ∧ S.own[i]? = some (.iter j since seen stepped) ∧ (ℓ.getD i default).block = b.block ∧ (ℓ.getD i default).off = 0 ∧ b.off = 0 ∧ w.heap[b.block]? = some (.mapIter (some (ℓ.getD j default).block) since seen stepped) := by
  have hk : S.own[i]? = some (.iter j since seen stepped) := by rw [← nth_eq]; exact hi
  obtain ⟨b, hb, hok⟩ := own_at hG hk
  simp only [BlkOK] at hok
  exact ⟨b, hb, hk, by simp [List.getD, hb], by simp [List.getD, hb, hok.1], hok.1, hok.2⟩

/-- A walk's next entry: some one that has not been met; or all have been. -/
theorem at_next {P : Program} {ty : TypeId} {q : IntKind} {x : SV} {S : St} {K : SV → St → Prop} {i j : Nat} {l : List (Int × Value)} {seen : Array Nat} (hx : x = .loc i 0) (hi : nth S.own i = some (.iter j l.length seen l.length)) (hj : nth S.own j = some (.obj (mapO q l)))
    (h0 : (∀ m, m < l.length → m ∈ seen) → K (.tup [.v (.bool false)]) S)
    (h1 : ∀ m p, l[m]? = some p → m ∉ seen → forceL (setNth S.own i (.iter j l.length (seen.push m) l.length)) (fun own => putOwn S own (fun S' => K (.tup [.v (.bool true), .v (.int q p.1), .v p.2]) S'))) : AtSem P (fun ℓ => Instr.next (x.den ℓ) false ty) S K := by
  subst hx
  simp only [forceL_eq, putOwn_eq] at h1
  constructor
  intro J ℓ w hG hJ
  obtain ⟨b, hb, hk, hbl, hbo, hoff, hh⟩ := own_iter hG hi
  obtain ⟨b2, hb2, hk2, hbl2, hoff2, hh2⟩ := own_obj hG hj
  rw [hbl2] at hh
  have hden : (SV.loc i 0).den ℓ = .pointer (some ⟨b.block, 0, none⟩) := by simp only [SV.den, hbl, hbo, Nat.zero_add]
  obtain ⟨w1, hw1, hor⟩ := run_next_map (P := P) (ty := ty) hh hh2
  have hG1 : Good J ℓ S w1 := by rcases hw1 with rfl | rfl; exact hG; exact hG.drew
  have hx1 : Ext (mutS ℓ S) w w1 := by rcases hw1 with rfl | rfl; exact Ext.refl _ _; exact ⟨rfl, rfl, Nat.le_refl _, fun _ _ _ => rfl⟩
  have hh1 : w1.heap[b.block]? = some (.mapIter (some b2.block) l.length seen l.length) := by rcases hw1 with rfl | rfl <;> exact hh
  rcases hor with ⟨hall, hrun⟩ | ⟨m, p, hp, hns, hrun⟩
  · exact ⟨.tup [.v (.bool false)], ℓ, S, w1, by rw [hden, hrun]; rfl, rfl, List.prefix_refl _, hx1, hG1, fun b hb => .inl hb, h0 hall⟩
  · have hjlt : j < S.own.length := (List.getElem?_eq_some_iff.1 hk2).1
    obtain ⟨g1, g2, g3⟩ := hG1.putObj (k' := .iter j l.length (seen.push m) l.length) hk hb rfl rfl (by simp [Blk.wf, hjlt]) (.mapIter (some b2.block) l.length (seen.push m) l.length) ⟨hoff, by rw [hbl2]; exact World.putObj_heap_same (lt_of_get hh1)⟩
    have hsz : w1.heap.size = w.heap.size := by rcases hw1 with rfl | rfl <;> rfl
    refine ⟨.tup [.v (.bool true), .v (.int q p.1), .v p.2], ℓ, _, _, by rw [hden, hrun]; rfl, rfl, List.prefix_refl _, hx1.trans g1, g2, fun b hb => by rw [← hsz]; exact g3 b hb, h1 m p hp hns⟩

/-- The entry that a walk is at. -/
theorem at_entry {P : Program} {q : IntKind} {x : SV} {S : St} {K : SV → St → Prop} {i j m : Nat} {p : Int × Value} {l : List (Int × Value)} {seen : Array Nat} (hx : x = .loc i 0) (hi : nth S.own i = some (.iter j l.length (seen.push m) l.length)) (hj : nth S.own j = some (.obj (mapO q l))) (hp : l[m]? = some p)
    (h : K (.tup [.v (.int q p.1), .v p.2]) S) : AtSem P (fun ℓ => Instr.entry (x.den ℓ)) S K := by
  subst hx
  constructor
  intro J ℓ w hG hJ
  obtain ⟨b, hb, hk, hbl, hbo, hoff, hh⟩ := own_iter hG hi
  obtain ⟨b2, hb2, hk2, hbl2, hoff2, hh2⟩ := own_obj hG hj
  rw [hbl2] at hh
  have hden : (SV.loc i 0).den ℓ = .pointer (some ⟨b.block, 0, none⟩) := by simp only [SV.den, hbl, hbo, Nat.zero_add]
  have hgi : (getObj b.block).run P w = .ok (.mapIter (some b2.block) l.length (seen.push m) l.length) w := by simp [getObj, Sem.run, hh]
  have hgm : (getObj b2.block).run P w = .ok (.map (entries q l 0).toArray l.length) w := run_getMap hh2
  have hfind : (entries q l 0).toArray.find? (·.born == m) = some ⟨.int q p.1, p.2, m⟩ := by
    rw [List.find?_toArray, List.find?_eq_some_iff_getElem]
    refine ⟨by simp, m, by rw [entries_length]; exact (List.getElem?_eq_some_iff.1 hp).1, ?_, ?_⟩
    · have := entries_get q l 0 m
      rw [hp] at this
      simpa using (List.getElem?_eq_some_iff.1 this).2
    · intro j' hj'
      have := entries_get q l 0 j'
      have hlt : j' < l.length := by have := (List.getElem?_eq_some_iff.1 hp).1; omega
      rw [List.getElem?_eq_getElem hlt] at this
      have h2 := (List.getElem?_eq_some_iff.1 this).2
      rw [h2]
      simp; omega
  refine ⟨_, ℓ, S, w, ?_, rfl, List.prefix_refl _, Ext.refl _ _, hG, fun b hb => .inl hb, h⟩
  rw [hden]
  simp only [Instr.entry, Sem.run_bind, hgi, Result.andThen_ok, Array.back?_push, hgm]
  rw [if_neg (by simp)]
  simp only [Sem.run_bind, Sem.run_pure, Result.andThen_ok, hfind]
  rfl

end Go.Tr
