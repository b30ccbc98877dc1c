/- Rules for the uses of the framework: slices of slices, slices that are built, slices that grow, maps with int keys. Conditions stand in each rule. -/
import Derived.Test.YtjjgfenincdgpaaFwM
import Derived.Laws.AppendOwn
namespace Go.Tr
open Go
set_option linter.unusedSimpArgs false

/-- A bound of a slice expression: what is not written is d. -/
def bnd (d : Nat) (n : Nat) : Option SV → Prop
  | none => n = d
  | some (.v (.int _ i)) => i = n
  | _ => False

theorem bnd_cases {d n : Nat} {s : Option SV} (h : bnd d n s) : (s = none ∧ n = d) ∨ ∃ k, s = some (.v (.int k n)) := by
  cases s with
  | none => exact .inl ⟨rfl, h⟩
  | some s =>
    cases s with
    | v x => cases x <;> simp only [bnd] at h; subst h; exact .inr ⟨_, rfl⟩
    | _ => exact h.elim

theorem RepE.take_cells {J : Nat → Prop} {w : World} {k : Nat} {ds : List D} {c : List Value} (h : RepE J w k ds c) (i : Nat) : RepE J w k (ds.take i) c := RepE.take i h

/-- The part x[l:h] of a slice that reads as data. -/
theorem Rep.part {J : Nat → Prop} {w : World} {a : Option Addr} {n c k : Nat} {ds : List D} (h : Rep J w (.slice a n c) (.sl k ds)) {lo hi : Nat} (h1 : lo ≤ hi) (h2 : hi ≤ n) (size : Nat) (hs : size = k) :
    Rep J w (.slice (if c = lo then a else a.map (·.add (lo * size))) (hi - lo) (c - lo)) (.sl k ((ds.take hi).drop lo)) := by
  subst hs
  simp only [Rep, RepC] at h ⊢
  obtain ⟨a', cap, heq, hle, hb⟩ := h
  simp only [List.cons.injEq, Value.slice.injEq, and_true] at heq
  obtain ⟨rfl, rfl, rfl⟩ := heq
  have hlen : ((ds.take hi).drop lo).length = hi - lo := by simp; omega
  refine ⟨_, _, by rw [hlen], ⟨by rw [hlen]; omega, by rw [hlen]; omega⟩, ?_⟩
  rcases hb with h3 | ⟨b, off, cc, T, fz, rfl, hj, hbb, he⟩
  · subst h3; left; simp
  · by_cases hc : c = lo
    · left
      rw [List.drop_eq_nil_iff]
      simp; omega
    · right
      refine ⟨b, off + lo * size, cc, T, fz, by rw [if_neg hc]; simp [addr_add], hj, hbb, ?_⟩
      have := RepE.drop lo (RepE.take hi he)
      rw [List.drop_drop] at this
      exact this

theorem at_slice {P : Program} {tt : Tab} (hT : TTOK P tt) {t e : TypeId} {k : Nat} {x : SV} {sl sh : Option SV} {S : St} {K : SV → St → Prop} {a : Option Addr} {n c : Nat} {ds : List D} (j lo hi : Nat) (hx : x = .v (.slice a n c)) (ht : tt t = some (.slice e k))
    (hr : nth S.reps j = some (.slice a n c, .sl k ds)) (hlo : bnd 0 lo sl) (hhi : bnd n hi sh) (h1 : lo ≤ hi) (h2 : hi ≤ n)
    (h : ∀ a' c', hi - lo ≤ c' → addReps S [(.slice a' (hi - lo) c', .sl k ((ds.take hi).drop lo))] (fun S' => K (.v (.slice a' (hi - lo) c')) S')) : AtPure P (fun ℓ => Instr.sliceAt t (x.den ℓ) (denO ℓ sl) (denO ℓ sh) (denO ℓ none)) S K := by
  subst hx
  constructor
  intro J ℓ w hG hJ
  have hrep := hG.reps _ (List.mem_of_getElem? (by rw [← nth_eq]; exact hr))
  have hcap : n ≤ c := by
    simp only [Rep, RepC] at hrep
    obtain ⟨a', cap, heq, hle, _⟩ := hrep
    simp only [List.cons.injEq, Value.slice.injEq, and_true] at heq
    obtain ⟨rfl, rfl, rfl⟩ := heq
    exact hle.1
  have hpart := hrep.part h1 h2 k rfl
  have hk := h (if c = lo then a else a.map (·.add (lo * k))) (c - lo) (by omega)
  rw [addReps_eq] at hk
  have hG' := hG.reps_add [(_, _)] (by intro p hp; simp only [List.mem_singleton] at hp; subst hp; exact hpart)
  refine ⟨_, ℓ, _, ?_, rfl, List.prefix_refl _, hG', fun b hb => hb, fun i cs hi => hi, hk⟩
  intro w'
  obtain ⟨_, hu, hse⟩ := hT t _ ht
  have hb : (Instr.sliceBounds true n c (denO ℓ sl) (denO ℓ sh) none).run P w' = .ok (lo, hi, c) w' := by
    rcases bnd_cases hlo with ⟨rfl, rfl⟩ | ⟨k1, rfl⟩ <;> rcases bnd_cases hhi with ⟨rfl, rfl⟩ | ⟨k2, rfl⟩ <;> simp [Instr.sliceBounds, Instr.sliceBound, asIntOf, denO, SV.den, h1, Nat.le_trans h2 hcap, h2]
  simp only [Instr.sliceAt, SV.den, Sem.run_bind, run_underlying' hu, Result.andThen_ok]
  simp only [Instr.slice, Sem.run_bind, run_underlying' hu, Result.andThen_ok, denO]
  have hb' := hb
  simp only [denO] at hb'
  rw [hb']
  simp only [Result.andThen_ok, hse, Sem.run_pure]

/-- What is known of a type whose values make up rows. -/
def elemB (P : Program) (e : TypeId) (k bytes : Nat) : Bool :=
  match P.info? e with
  | some i => (Nat.beq i.size k && Nat.beq i.bytes bytes) && (match i.zero with
    | some z => Nat.beq z.cells.size k
    | none => false)
  | none => false

theorem elemB_spec {P : Program} {e : TypeId} {k bytes : Nat} (h : elemB P e k bytes = true) : ∃ i z, P.info? e = some i ∧ i.size = k ∧ i.bytes = bytes ∧ i.zero = some z ∧ z.cells.size = k := by
  unfold elemB at h
  split at h
  · rename_i i hi
    simp only [Bool.and_eq_true] at h
    obtain ⟨⟨h1, h2⟩, h3⟩ := h
    split at h3
    · rename_i z hz
      exact ⟨i, z, hi, Nat.eq_of_beq_eq_true h1, Nat.eq_of_beq_eq_true h2, hz, Nat.eq_of_beq_eq_true h3⟩
    · cases h3
  · cases h

/-- The parts of a slice literal, one behind the other, each of k cells. -/
def partsOK (reps : List (Value × D)) (k : Nat) : Nat → List (Nat × SV) → List D → Prop
  | _, [], [] => True
  | i, (j, s) :: l, d :: ds => (j = i ∧ plainS s = true ∧ (cellsOf s).length = k ∧ RepS reps d (cellsOf s)) ∧ partsOK reps k (i + 1) l ds
  | _, _, _ => False

theorem fill_row (ℓ : List Base) {reps : List (Value × D)} {k : Nat} : ∀ (l : List (Nat × SV)) (ds : List D) (i : Nat) (cells : List Value), partsOK reps k i l ds → i * k + ds.length * k ≤ cells.length →
    ∃ flat, flat.length = ds.length * k ∧ Instr.fill (fun i => some (i * k, k)) cells.toArray (denParts ℓ l) = some (cells.take (i * k) ++ flat ++ cells.drop (i * k + ds.length * k)).toArray ∧
      ∀ {J : Nat → Prop} {w : World}, (∀ p ∈ reps, Rep J w p.1 p.2) → ∀ tail, RepE J w k ds (flat ++ tail)
  | [], [], i, cells, _, hl => ⟨[], by simp, by simp [denParts, Instr.fill], fun _ _ => trivial⟩
  | [], _ :: _, i, cells, h, _ => h.elim
  | _ :: _, [], i, cells, h, _ => h.elim
  | (j, s) :: l, d :: ds, i, cells, h, hl => by
    obtain ⟨⟨rfl, hp, hk, hrep⟩, h⟩ := h
    simp only [List.length_cons, Nat.add_mul, Nat.one_mul] at hl
    have hc : (s.den ℓ).cells = (SV.denL ℓ (cellsOf s)).toArray := den_cells_of_plain ℓ hp
    have hxl : (SV.denL ℓ (cellsOf s)).length = k := by rw [SV.denL_length, hk]
    have hf := foldl_set_range (SV.denL ℓ (cellsOf s)) cells.toArray (j * k) (by simp only [List.size_toArray]; omega)
    have hsr : setRange cells (j * k) (SV.denL ℓ (cellsOf s)) = cells.take (j * k) ++ SV.denL ℓ (cellsOf s) ++ cells.drop (j * k + k) := by
      simp only [setRange, hxl]; try rw [List.append_assoc]
    have hlen : (setRange cells (j * k) (SV.denL ℓ (cellsOf s))).length = cells.length := setRange_length _ _ _ (by omega)
    obtain ⟨flat, hfl, hfill, hrepE⟩ := fill_row ℓ l ds (j + 1) (setRange cells (j * k) (SV.denL ℓ (cellsOf s))) h (by rw [hlen, Nat.add_mul]; omega)
    refine ⟨SV.denL ℓ (cellsOf s) ++ flat, by rw [List.length_append, hxl, hfl, List.length_cons, Nat.add_mul]; omega, ?_, ?_⟩
    · simp only [denParts, Instr.fill, hc]
      rw [if_neg (by simp [hxl]; omega)]
      simp only [] at hf
      rw [hf]
      rw [hfill]
      have e1 : (j + 1) * k = j * k + k := by rw [Nat.add_mul]; omega
      rw [e1, hsr]
      congr 2
      have hpre : (cells.take (j * k) ++ SV.denL ℓ (cellsOf s)).length = j * k + k := by simp [hxl]; omega
      rw [List.take_append_of_le_length (by omega), List.take_of_length_le (by omega)]
      rw [List.drop_append, List.drop_of_length_le (by omega), hpre]
      simp only [List.nil_append, List.drop_drop, List.append_assoc, List.length_cons, Nat.add_mul, Nat.one_mul]
      congr 3
      congr 1
      omega
    · intro J w hr tail
      simp only [RepE, List.append_assoc]
      refine ⟨by simp [hxl], ?_, ?_⟩
      · rw [List.take_append_of_le_length (by omega), List.take_of_length_le (by omega)]
        exact RepS.sound hr d _ hrep
      · rw [List.drop_append, List.drop_of_length_le (by omega), hxl, Nat.sub_self]
        exact hrepE hr tail

theorem run_zeroValue {P : Program} {e : TypeId} {i : TypeInfo} {z : Value} (hi : P.info? e = some i) (hz : i.zero = some z) (w : World) : (zeroValue e).run P w = .ok z w := by
  simp [zeroValue, typeInfo, hi, hz]

/-- A slice literal: what the model does. -/
theorem run_build {P : Program} {tt : Tab} (hT : TTOK P tt) {t e : TypeId} {k bytes n : Nat} (ht : tt t = some (.slice e k)) (hel : elemB P e k bytes = true) {ℓ : List Base} {reps : List (Value × D)} {l : List (Nat × SV)} {ds : List D} (hl : partsOK reps k 0 l ds) (hn : ds.length = n) (hlim : n * k ≤ 16777216) (w : World) :
    ∃ flat : List Value, flat.length = n * k ∧ (Instr.buildSlice t n (denParts ℓ l).toArray).run P w = .ok (.slice (some ⟨w.heap.size, 0, none⟩) n n) (w.alloc (.cells flat.toArray e (0, 0))) ∧
      ∀ {J : Nat → Prop} {w : World}, (∀ p ∈ reps, Rep J w p.1 p.2) → RepE J w k ds flat := by
  obtain ⟨_, hu, hse⟩ := hT t _ ht
  obtain ⟨i, z, hi, hik, _, hz, hzk⟩ := elemB_spec hel
  have hkey : ∀ zero : Array Value, ∃ flat : List Value, flat.length = n * k ∧ Instr.fill (fun i => some (i * k, k)) ((Array.range (n * k)).map (zero[· % zero.size]!)) (denParts ℓ l) = some flat.toArray ∧
      ∀ {J : Nat → Prop} {w : World}, (∀ p ∈ reps, Rep J w p.1 p.2) → RepE J w k ds flat := by
    intro zero
    obtain ⟨flat, h1, h2, h3⟩ := fill_row ℓ l ds 0 ((Array.range (n * k)).map (zero[· % zero.size]!)).toList hl (by simp [hn])
    refine ⟨flat, by rw [h1, hn], ?_, fun hr => by simpa using h3 hr []⟩
    simp only [Array.toArray_toList, Nat.zero_mul, List.take_zero, List.nil_append, Nat.zero_add] at h2
    rw [h2, hn, List.drop_of_length_le (by simp), List.append_nil]
  by_cases h0 : n * k = 0
  · obtain ⟨flat, h1, h2, h3⟩ := hkey #[]
    refine ⟨flat, h1, ?_, h3⟩
    simp only [Instr.buildSlice, Sem.run_bind, run_underlying' hu, Result.andThen_ok, hse]
    rw [if_neg (by omega), if_pos h0]
    simp only [Sem.run_bind, Sem.run_pure, Result.andThen_ok]
    rw [h2]
    simp [newRow]
  · obtain ⟨flat, h1, h2, h3⟩ := hkey z.cells
    refine ⟨flat, h1, ?_, h3⟩
    simp only [Instr.buildSlice, Sem.run_bind, run_underlying' hu, Result.andThen_ok, hse]
    rw [if_neg (by omega), if_neg h0]
    simp only [Sem.run_bind, Sem.run_pure, Result.andThen_ok, run_zeroValue hi hz]
    rw [h2]
    simp [newRow]

/-- A world with a new block beside all that there was. -/
theorem Good.beside {J : Nat → Prop} {ℓ : List Base} {S : St} {w w' : World} (h : Good J ℓ S w) (hsz : w.heap.size ≤ w'.heap.size) (hw : ∀ b, b < w.heap.size → w'.heap[b]? = w.heap[b]?) : Good J ℓ S w' :=
  h.kept (fun _ h => h) hsz (fun b hb _ => hw b hb)

/-- A slice literal that nobody writes to. -/
theorem at_build {P : Program} {tt : Tab} (hT : TTOK P tt) {t e : TypeId} {k n : Nat} {l : List (Nat × SV)} {S : St} {K : SV → St → Prop} (bytes : Nat) (ds : List D) (ht : tt t = some (.slice e k)) (hel : elemB P e k bytes = true) (hl : partsOK S.reps k 0 l ds) (hn : ds.length = n) (hlim : n * k ≤ 16777216) (hpos : n ≤ 16777216)
    (h : ∀ a, addReps S [(.slice a n n, .sl k ds)] (fun S' => K (.v (.slice a n n)) S')) : AtSem P (fun ℓ => Instr.buildSlice t n (denParts ℓ l).toArray) S K := by
  constructor
  intro J ℓ w hG hJ
  obtain ⟨flat, hfl, hrun, hrep⟩ := run_build hT ht hel (ℓ := ℓ) hl hn hlim w
  have hold : ∀ x, x < w.heap.size → (w.alloc (.cells flat.toArray e (0, 0))).heap[x]? = w.heap[x]? := fun x hx => by
    show (w.heap.push _)[x]? = _
    rw [Array.getElem?_push, if_neg (by omega)]
  have hG1 := hG.beside (w' := w.alloc (.cells flat.toArray e (0, 0))) (by simp) hold
  have hk := h (some ⟨w.heap.size, 0, none⟩)
  rw [addReps_eq] at hk
  refine ⟨.v (.slice (some ⟨w.heap.size, 0, none⟩) n n), ℓ, ⟨S.own, S.accs, S.reps ++ [(.slice (some ⟨w.heap.size, 0, none⟩) n n, .sl k ds)]⟩, w.alloc (.cells flat.toArray e (0, 0)), hrun, rfl, List.prefix_refl _, ⟨rfl, rfl, by simp, fun b hb _ => hold b hb⟩, hG1.reps_add [(_, _)] ?_, fun b hb => .inl hb, hk⟩
  intro p hp
  simp only [List.mem_singleton] at hp
  subst hp
  simp only [Rep, RepC]
  refine ⟨_, _, by rw [hn], ⟨by omega, by omega⟩, .inr ⟨w.heap.size, 0, flat.toArray, e, (0, 0), rfl, ⟨hJ _ (Nat.le_refl _), fun hm => by have := hG.lt _ hm; omega⟩, World.alloc_heap_new w _, ?_⟩⟩
  simpa using hrep hG1.reps

/-- Each cell of a datum is one cell. -/
theorem RepC.one {J : Nat → Prop} {w : World} : ∀ (d : D) (cs : List Value), RepC J w d cs → ∀ u ∈ cs, u.oneCell' = true
  | .int k n, cs, h, u, hu => by simp only [RepC] at h; subst h; simp at hu; subst hu; rfl
  | .bool b, cs, h, u, hu => by simp only [RepC] at h; subst h; simp at hu; subst hu; rfl
  | .str s, cs, h, u, hu => by simp only [RepC] at h; subst h; simp at hu; subst hu; rfl
  | .sl k ds, cs, h, u, hu => by simp only [RepC] at h; obtain ⟨a, cap, rfl, _⟩ := h; simp at hu; subst hu; rfl
  | .agg ds, cs, h, u, hu => by simp only [RepC] at h; exact RepA.one ds cs h u hu
  | .ifc t d, cs, h, u, hu => by simp only [RepC] at h; obtain ⟨v, rfl, _⟩ := h; simp at hu; subst hu; rfl
where
  RepA.one {J : Nat → Prop} {w : World} : ∀ (ds : List D) (cs : List Value), RepA J w ds cs → ∀ u ∈ cs, u.oneCell' = true
  | [], cs, h, u, hu => by simp only [RepA] at h; subst h; simp at hu
  | d :: ds, cs, h, u, hu => by
    simp only [RepA] at h
    obtain ⟨x, y, rfl, h1, h2⟩ := h
    rcases List.mem_append.1 hu with h3 | h3
    · exact RepC.one d x h1 u h3
    · exact RepA.one ds y h2 u h3

theorem RepE.one {J : Nat → Prop} {w : World} {k : Nat} : ∀ (ds : List D) (cs : List Value), RepE J w k ds cs → ∀ u ∈ cs.take (ds.length * k), u.oneCell' = true
  | [], cs, _, u, hu => by simp at hu
  | d :: ds, cs, h, u, hu => by
    simp only [RepE] at h
    simp only [List.length_cons, Nat.add_mul, Nat.one_mul] at hu
    rw [Nat.add_comm, List.take_add] at hu
    rcases List.mem_append.1 hu with h3 | h3
    · exact RepC.one d _ h.2.1 u h3
    · exact RepE.one ds _ h.2.2 u h3

/-- A slice that may grow is put in another one's place: it lies where that one lay, or in a new block. -/
theorem Good.regrow {J : Nat → Prop} {ℓ : List Base} {S : St} {w w' : World} (h : Good J ℓ S w) (hJ : Fresh J w) {j : Nat} {a a' : Acc} (ha : S.accs[j]? = some a) (hsz : w.heap.size ≤ w'.heap.size) (hw : ∀ b, b < w.heap.size → b ∉ accBlk a.v → w'.heap[b]? = w.heap[b]?) (hnd : (accBlk a'.v).Nodup)
    (hblk : ∀ b ∈ accBlk a'.v, (b ∈ accBlk a.v ∨ w.heap.size ≤ b) ∧ b < w'.heap.size)
    (hok : ∀ J', (∀ x, x < w.heap.size → Jx J (mutS ℓ S) x → J' x ∧ w'.heap[x]? = w.heap[x]?) → AccOK J' w' a') :
    Good J ℓ ⟨S.own, S.accs.set j a', S.reps⟩ w' ∧ (∀ b ∈ mutS ℓ ⟨S.own, S.accs.set j a', S.reps⟩, b ∈ mutS ℓ S ∨ w.heap.size ≤ b) := by
  have hlt : j < S.accs.length := (List.getElem?_eq_some_iff.1 ha).1
  have hsplit : S.accs = S.accs.take j ++ a :: S.accs.drop (j + 1) := by
    have e1 := (List.getElem?_eq_some_iff.1 ha).2
    rw [← e1, ← List.drop_eq_getElem_cons hlt, List.take_append_drop]
  have hset : S.accs.set j a' = S.accs.take j ++ a' :: S.accs.drop (j + 1) := List.set_eq_take_append_cons_drop .. |>.trans (by rw [if_pos hlt])
  generalize hl1 : S.accs.take j = l1 at *
  generalize hl2 : S.accs.drop (j + 1) = l2 at *
  let bl : Acc → List Nat := fun a => accBlk a.v
  have hM : mutS ℓ S = mutL ℓ S.own ++ (l1.flatMap bl ++ (accBlk a.v ++ l2.flatMap bl)) := by
    simp only [mutS, hsplit, List.flatMap_append, List.flatMap_cons, bl]
  have hM' : mutS ℓ ⟨S.own, S.accs.set j a', S.reps⟩ = mutL ℓ S.own ++ (l1.flatMap bl ++ (accBlk a'.v ++ l2.flatMap bl)) := by
    simp only [mutS, hset, List.flatMap_append, List.flatMap_cons, bl]
  have hn := h.nodup
  rw [hM, List.nodup_append, List.nodup_append, List.nodup_append] at hn
  obtain ⟨n1, ⟨n2, ⟨n3, n4, n34⟩, n234⟩, n1234⟩ := hn
  have oldlt : ∀ b, b ∈ mutL ℓ S.own ∨ b ∈ l1.flatMap bl ∨ b ∈ l2.flatMap bl → b < w.heap.size := fun b hb => h.lt b (by
    rw [hM]; simp only [List.mem_append]
    rcases hb with h1 | h1 | h1
    · exact .inl h1
    · exact .inr (.inl h1)
    · exact .inr (.inr (.inr h1)))
  -- what else may be written is not the slice's block
  have apart : ∀ b, b ∈ mutL ℓ S.own ∨ b ∈ l1.flatMap bl ∨ b ∈ l2.flatMap bl → b ∉ accBlk a.v := by
    intro b hb hm
    rcases hb with h1 | h1 | h1
    · exact n1234 b h1 b (List.mem_append.2 (.inr (List.mem_append.2 (.inl hm)))) rfl
    · exact n234 b h1 b (List.mem_append.2 (.inl hm)) rfl
    · exact n34 b hm b h1 rfl
  have apart' : ∀ b, b ∈ mutL ℓ S.own ∨ b ∈ l1.flatMap bl ∨ b ∈ l2.flatMap bl → b ∉ accBlk a'.v := by
    intro b hb hm
    rcases (hblk b hm).1 with h1 | h1
    · exact apart b hb h1
    · have := oldlt b hb; omega
  have hmem : ∀ b, b ∈ mutS ℓ ⟨S.own, S.accs.set j a', S.reps⟩ → (b ∈ mutL ℓ S.own ∨ b ∈ l1.flatMap bl ∨ b ∈ l2.flatMap bl) ∨ b ∈ accBlk a'.v := by
    intro b hb
    rw [hM'] at hb
    simp only [List.mem_append] at hb
    rcases hb with h1 | h1 | h1 | h1
    · exact .inl (.inl h1)
    · exact .inl (.inr (.inl h1))
    · exact .inr h1
    · exact .inl (.inr (.inr h1))
  have hin : ∀ b, b ∈ mutL ℓ S.own ∨ b ∈ l1.flatMap bl ∨ b ∈ l2.flatMap bl → b ∈ mutS ℓ S := by
    intro b hb
    rw [hM]; simp only [List.mem_append]
    rcases hb with h1 | h1 | h1
    · exact .inl h1
    · exact .inr (.inl h1)
    · exact .inr (.inr (.inr h1))
  have hina : ∀ b, b ∈ accBlk a.v → b ∈ mutS ℓ S := by
    intro b hb; rw [hM]; simp only [List.mem_append]; exact .inr (.inr (.inl hb))
  have hx : ∀ x, x < w.heap.size → Jx J (mutS ℓ S) x → Jx J (mutS ℓ ⟨S.own, S.accs.set j a', S.reps⟩) x ∧ w'.heap[x]? = w.heap[x]? := by
    intro x hlt' hj
    refine ⟨⟨hj.1, fun hm => ?_⟩, hw x hlt' (fun hm => hj.2 (hina x hm))⟩
    rcases hmem x hm with h1 | h1
    · exact hj.2 (hin x h1)
    · rcases (hblk x h1).1 with h2 | h2
      · exact hj.2 (hina x h2)
      · omega
  refine ⟨⟨h.len, ?_, ?_, ?_, h.wf, ?_, ?_, ?_⟩, ?_⟩
  · rw [hM', List.nodup_append, List.nodup_append, List.nodup_append]
    refine ⟨n1, ⟨n2, ⟨hnd, n4, ?_⟩, ?_⟩, ?_⟩
    · intro x h1 y h2 e; subst e; exact apart' x (.inr (.inr h2)) h1
    · intro x h1 y h2 e; subst e
      rcases List.mem_append.1 h2 with h3 | h3
      · exact apart' x (.inr (.inl h1)) h3
      · exact n234 x h1 x (List.mem_append.2 (.inr h3)) rfl
    · intro x h1 y h2 e; subst e
      rcases List.mem_append.1 h2 with h3 | h3
      · exact n1234 x h1 x (List.mem_append.2 (.inl h3)) rfl
      · rcases List.mem_append.1 h3 with h4 | h4
        · exact apart' x (.inl h1) h4
        · exact n1234 x h1 x (List.mem_append.2 (.inr (List.mem_append.2 (.inr h4)))) rfl
  · intro b hb
    rcases hmem b hb with h1 | h1
    · exact Nat.lt_of_lt_of_le (oldlt b h1) hsz
    · exact (hblk b h1).2
  · intro b hb
    rcases hmem b hb with h1 | h1
    · exact h.memJ b (hin b h1)
    · rcases (hblk b h1).1 with h2 | h2
      · exact h.memJ b (hina b h2)
      · exact hJ b h2
  · intro i b k hi hk
    have h0 := h.own i b k hi hk
    have own : k.mut = true → b.block < w.heap.size → w'.heap[b.block]? = w.heap[b.block]? := fun hm hlt => hw _ hlt (apart _ (.inl (mem_mutL.2 ⟨i, b, k, hi, hk, hm, rfl⟩)))
    have hwk := wf_of_mem h.wf hk
    cases k with
    | cells T cs => exact h0.keep hwk (fun _ _ => rfl) (fun x hlt hj => (hx x hlt hj).1) (own rfl)
    | obj o => exact h0.keep hwk (fun _ _ => rfl) (fun x hlt hj => (hx x hlt hj).1) (own rfl)
    | lp x => exact h0.keep hwk (fun _ _ => rfl) (fun x hlt hj => (hx x hlt hj).1) (own rfl)
    | iter i s n p => exact h0.keep hwk (fun _ _ => rfl) (fun x hlt hj => (hx x hlt hj).1) (own rfl)
    | imm cs =>
      have h1 := h0
      simp only [BlkOK] at h1
      exact h0.keep hwk (fun _ _ => rfl) (fun x hlt hj => (hx x hlt hj).1) (fun hlt => (hx _ hlt h1.1).2)
    | dead => trivial
  · intro x hx'
    simp only [hset] at hx'
    have old : (x ∈ l1 ∨ x ∈ l2) → AccOK (Jx J (mutS ℓ ⟨S.own, S.accs.set j a', S.reps⟩)) w' x := by
      intro hm
      refine (h.accs x (by rw [hsplit]; rcases hm with h1 | h1; exact List.mem_append.2 (.inl h1); exact List.mem_append.2 (.inr (List.mem_cons_of_mem _ h1)))).keep hx (fun y hy hlt => hw y hlt (apart y ?_))
      rcases hm with h1 | h1
      · exact .inr (.inl (List.mem_flatMap.2 ⟨x, h1, hy⟩))
      · exact .inr (.inr (List.mem_flatMap.2 ⟨x, h1, hy⟩))
    rcases List.mem_append.1 hx' with h1 | h1
    · exact old (.inl h1)
    · rcases List.mem_cons.1 h1 with h2 | h2
      · subst h2; exact hok _ hx
      · exact old (.inr h2)
  · exact fun p hp => (h.reps p hp).map hx
  · intro b hb
    rcases hmem b hb with h1 | h1
    · exact .inl (hin b h1)
    · exact (hblk b h1).1.imp (hina b) id

/-- append(s, x...) of a slice that may grow. -/
theorem at_append {P : Program} {tt : Tab} (hT : TTOK P tt) {t e ty : TypeId} {k : Nat} {x y : SV} {S : St} {K : SV → St → Prop} {v : Value} {a : Option Addr} {m c : Nat} {ds es : List D} (bytes j i : Nat) (ht : tt t = some (.slice e k)) (hel : elemB P e k bytes = true)
    (hx : x = .v v) (hacc : nth S.accs j = some ⟨v, k, e, ds⟩) (hy : y = .v (.slice a m c)) (hr : nth S.reps i = some (.slice a m c, .sl k es)) (hlim : (ds.length + es.length) * bytes ≤ 140737488355328) (hlen : ds.length + es.length ≤ 1152921504606846976)
    (h : ∀ a' c', forceL (setNth S.accs j ⟨.slice a' (ds.length + es.length) c', k, e, ds ++ es⟩) (fun accs => K (.v (.slice a' (ds.length + es.length) c')) ⟨S.own, accs, S.reps⟩)) : AtSem P (fun ℓ => Builtin.append_ #[t, t] ty (SV.denL ℓ [x, y]).toArray) S K := by
  simp only [forceL_eq] at h
  subst hx hy
  constructor
  intro J ℓ w hG hJ
  obtain ⟨_, hu, hse⟩ := hT t _ ht
  obtain ⟨ti, z, hi, hik, hby, hz, hzk⟩ := elemB_spec hel
  have ha : S.accs[j]? = some ⟨v, k, e, ds⟩ := by rw [← nth_eq]; exact hacc
  have hok := hG.accs _ (List.mem_of_getElem? ha)
  have hrep := hG.reps _ (List.mem_of_getElem? (by rw [← nth_eq]; exact hr))
  simp only [Rep, RepC] at hrep
  obtain ⟨a', cap, heq, hle, hb⟩ := hrep
  simp only [List.cons.injEq, Value.slice.injEq, and_true] at heq
  obtain ⟨rfl, rfl, rfl⟩ := heq
  have hut : P.underlying t = some (.slice e) := hu
  -- put together
  have fin : ∀ v' w' a', a' = (⟨v', k, e, ds ++ es⟩ : Acc) → (∃ b' c', v' = .slice b' (ds.length + es.length) c') → (Builtin.append_ #[t, t] ty #[v, .slice a es.length c]).run P w = .ok v' w' → w'.os = w.os → w'.output = w.output → w.heap.size ≤ w'.heap.size → (∀ b, b < w.heap.size → b ∉ accBlk v → w'.heap[b]? = w.heap[b]?) → (accBlk v').Nodup →
      (∀ b ∈ accBlk v', (b ∈ accBlk v ∨ w.heap.size ≤ b) ∧ b < w'.heap.size) → (∀ J', (∀ x, x < w.heap.size → Jx J (mutS ℓ S) x → J' x ∧ w'.heap[x]? = w.heap[x]?) → AccOK J' w' a') →
      ∃ r ℓ' S' w', (Builtin.append_ #[t, t] ty (SV.denL ℓ [.v v, .v (.slice a es.length c)]).toArray).run P w = .ok (r.den ℓ') w' ∧ r.wf S'.own.length = true ∧ ℓ <+: ℓ' ∧ Ext (mutS ℓ S) w w' ∧ Good J ℓ' S' w' ∧ (∀ b ∈ mutS ℓ' S', b ∈ mutS ℓ S ∨ w.heap.size ≤ b) ∧ K r S' := by
    intro v' w' a' ea hv' hrun h1 h2 h3 h4 h5 h6 h7
    subst ea
    obtain ⟨b', c', rfl⟩ := hv'
    obtain ⟨hG', hf⟩ := hG.regrow hJ ha h3 h4 h5 h6 h7
    refine ⟨.v (.slice b' (ds.length + es.length) c'), ℓ, _, w', hrun, rfl, List.prefix_refl _, ⟨h1, h2, h3, fun b hb hm => h4 b hb (fun hb' => hm ?_)⟩, hG', hf, h b' c'⟩
    simp only [mutS]
    exact List.mem_append.2 (.inr (List.mem_flatMap.2 ⟨_, List.mem_of_getElem? ha, hb'⟩))
  -- nothing is appended
  by_cases hes : es = []
  · subst hes
    rcases hok with ⟨hv, hd⟩ | ⟨b, cp, cc, hv, hbb, hcs, hl, hre⟩
    · simp only at hv hd
      subst hv hd
      refine fin (.slice none 0 0) w _ rfl ⟨_, _, rfl⟩ ?_ rfl rfl (Nat.le_refl _) (fun _ _ _ => rfl) (by simp [accBlk]) (by simp [accBlk]) (fun J' _ => .inl ⟨rfl, rfl⟩)
      cases a with
      | none => simp [Builtin.append_, run_underlying hut, sizeOf, typeInfo, hi, Builtin.lenOf, run_firstCells_none]
      | some ad =>
        have hf := run_firstCells_some (P := P) w ti.size 0 ad 0 c [] (by simp) (by simp)
        simp [Builtin.append_, run_underlying hut, sizeOf, typeInfo, hi, Builtin.lenOf, hf]
    · simp only at hv
      subst hv
      refine fin (.slice (some ⟨b, 0, none⟩) ds.length cp) w _ rfl ⟨_, _, rfl⟩ ?_ rfl rfl (Nat.le_refl _) (fun _ _ _ => rfl) (by simp [accBlk]) (fun x hx => ⟨.inl hx, hG.lt x (by simp only [mutS]; exact List.mem_append.2 (.inr (List.mem_flatMap.2 ⟨_, List.mem_of_getElem? ha, hx⟩)))⟩) (fun J' hj => ?_)
      · cases a with
        | none => simp [Builtin.append_, run_underlying hut, sizeOf, typeInfo, hi, Builtin.lenOf, run_firstCells_none, hl.1, storeCells]
        | some ad =>
          have hf := run_firstCells_some (P := P) w ti.size 0 ad 0 c [] (by simp) (by simp)
          simp [Builtin.append_, run_underlying hut, sizeOf, typeInfo, hi, Builtin.lenOf, hf, hl.1, storeCells]
      · refine .inr ⟨b, cp, cc, by simp, hbb, hcs, by simpa using hl, ?_⟩
        simp only [List.append_nil]
        exact RepE.map hj k _ _ hre
  -- something is
  · obtain ⟨bb, off, bc, bT, fz, rfl, hbj, hbb, hbe⟩ := hb.resolve_left hes
    have hpos : 0 < es.length := List.length_pos_iff.2 hes
    let news := (bc.toList.drop off).take (es.length * k)
    have hnl : news.length = es.length * k := by
      have := hbe.len
      simp only [news, List.length_take]; omega
    have hnews : ∀ q u, news[q]? = some u → w.cell? ((⟨bb, off, none⟩ : Addr).add q) = some u := by
      intro q u hq
      simp only [news, List.getElem?_take, List.getElem?_drop] at hq
      split at hq
      · rw [addr_add]
        simp only [World.cell?, hbb]
        simpa using hq
      · cases hq
    have hone : ∀ u ∈ news, u.oneCell' = true := RepE.one es _ hbe
    have hrn : ∀ {J' : Nat → Prop} {w' : World}, (∀ x, x < w.heap.size → Jx J (mutS ℓ S) x → J' x ∧ w'.heap[x]? = w.heap[x]?) → RepE J' w' k es news := by
      intro J' w' hj
      refine RepE.cut (RepE.map hj k es _ hbe) (Nat.le_of_eq hnl.symm) ?_
      simp only [news, List.take_take, Nat.min_self]
    rcases hok with ⟨hv, hd⟩ | ⟨b, cp, cc, hv, hgb, hcs, hl, hre⟩
    · simp only at hv hd
      subst hv hd
      simp only [List.length_nil, Nat.zero_add] at hlim hlen
      have hrun := run_append_nil (P := P) w t ty e ti z hut hi hz ⟨bb, off, none⟩ es.length c news (by rw [hik]; exact hnl) hnews hpos (by omega) (by rw [hby]; omega)
      have hge := grownCap_ge w es.length 0 e
      refine fin _ _ _ rfl ⟨some ⟨w.heap.size, 0, none⟩, grownCap w es.length 0 e, by simp⟩ hrun rfl rfl (by simp) ?_ (by simp [accBlk]) ?_ ?_
      · intro x hx _
        show (w.drew.heap.push _)[x]? = _
        rw [Array.getElem?_push, if_neg (by show ¬ x = w.heap.size; omega)]; rfl
      · intro x hx
        simp [accBlk] at hx
        subst hx
        exact ⟨.inr (Nat.le_refl _), by show w.heap.size < (w.heap.push _).size; simp⟩
      · intro J' hj
        refine .inr ⟨w.heap.size, grownCap w es.length 0 e, _, by simp, World.alloc_heap_new w.drew _, ?_, by simp; exact ⟨hge, hlen⟩, ?_⟩
        · simp only [Array.size_append, List.size_toArray, hnl, size_zeroCells, hzk, ← Nat.add_mul]
          congr 1; omega
        · simp only [List.nil_append, Array.toList_append]
          exact RepE.cut (hrn hj) (by simp [hnl]) (by rw [List.take_append_of_le_length (by simp [hnl])])
    · simp only at hv hgb hcs hl hre
      subst hv
      have hlen' : ((ds ++ es).length) = ds.length + es.length := by simp
      by_cases hroom : ds.length + es.length ≤ cp
      · have hfit : ds.length * ti.size + news.length ≤ cc.size := by rw [hik, hnl, hcs, ← Nat.add_mul]; exact Nat.mul_le_mul_right _ hroom
        have hrun := run_append_room (P := P) w t ty e ti hut hi b ds.length cp cc hgb ⟨bb, off, none⟩ es.length c news (by rw [hik]; exact hnl) hnews hone hroom hfit
        rw [hik] at hrun hfit
        refine fin _ _ _ rfl ⟨_, _, rfl⟩ hrun rfl rfl (by simp) ?_ (by simp [accBlk]) ?_ ?_
        · intro x hx hm
          exact setRow_other w b x _ (fun e => hm (by simp [accBlk, e]))
        · intro x hx
          simp [accBlk] at hx
          subst hx
          exact ⟨.inl (by simp [accBlk]), by simpa using lt_of_get hgb⟩
        · intro J' hj
          refine .inr ⟨b, cp, _, by rw [hlen'], setRow_heap w b cc _ e _ hgb, ?_, by rw [hlen']; exact ⟨hroom, hlen⟩, ?_⟩
          · simp only [List.size_toArray, List.length_append, List.length_take, List.length_drop, Array.length_toList]
            omega
          · have h1 := RepE.map hj k ds _ hre
            have hdl := hre.len
            have h2 : RepE J' (w.setRow b (cc.toList.take (ds.length * k) ++ news ++ cc.toList.drop (ds.length * k + news.length)).toArray) k (ds ++ es) (cc.toList.take (ds.length * k) ++ news) := by
              have htl : (cc.toList.take (ds.length * k)).length = ds.length * k := by rw [List.length_take, Nat.min_eq_left hdl]
              exact RepE.append (RepE.cut h1 (Nat.le_of_eq htl.symm) (by rw [List.take_take, Nat.min_self])) htl (hrn hj)
            exact RepE.cut h2 (by simp [hnl, Nat.add_mul]; have := hdl; simp at this; omega) (by
              rw [List.append_assoc]
              rw [← List.append_assoc, List.take_append_of_le_length]
              simp [hnl, Nat.add_mul]; have := hdl; simp at this; omega)
      · have hlo : ((cc.toList).take (ds.length * k)).length = ds.length * ti.size := by
          have := hre.len
          rw [hik, List.length_take]; omega
        have holds : ∀ q u, ((cc.toList).take (ds.length * k))[q]? = some u → w.cell? ((⟨b, 0, none⟩ : Addr).add q) = some u := by
          intro q u hq
          rw [List.getElem?_take] at hq
          split at hq
          · rw [addr_add]
            simp only [World.cell?, hgb, Nat.zero_add]
            simpa using hq
          · cases hq
        have hrun := run_append_grow (P := P) w t ty e ti z hut hi hz ⟨b, 0, none⟩ ds.length cp ((cc.toList).take (ds.length * k)) hlo holds ⟨bb, off, none⟩ es.length c news (by rw [hik]; exact hnl) hnews (by omega) (by omega) (growslice_fits (by omega) (by rw [hby]; exact hlim))
        have hge := grownCap_ge w (ds.length + es.length) cp e
        refine fin _ _ _ rfl ⟨_, _, rfl⟩ hrun rfl rfl (by simp) ?_ (by simp [accBlk]) ?_ ?_
        · intro x hx _
          show (w.drew.heap.push _)[x]? = _
          rw [Array.getElem?_push, if_neg (by show ¬ x = w.heap.size; omega)]; rfl
        · intro x hx
          simp [accBlk] at hx
          subst hx
          exact ⟨.inr (Nat.le_refl _), by show w.heap.size < (w.heap.push _).size; simp⟩
        · intro J' hj
          refine .inr ⟨w.heap.size, grownCap w (ds.length + es.length) cp e, _, by rw [hlen'], World.alloc_heap_new w.drew _, ?_, by rw [hlen']; exact ⟨hge, hlen⟩, ?_⟩
          · rw [hik] at hlo
            simp only [Array.size_append, List.size_toArray, hnl, hlo, size_zeroCells, hzk, ← Nat.add_mul]
            congr 1; omega
          · simp only [Array.toList_append]
            rw [hik] at hlo
            have h1 := RepE.map hj k ds _ hre
            have h2 := RepE.append (RepE.cut h1 (ys := cc.toList.take (ds.length * k)) (Nat.le_of_eq hlo.symm) (by rw [List.take_take, Nat.min_self])) hlo (hrn hj)
            exact RepE.cut h2 (by simp only [List.length_append, hlo, hnl, hlen', Nat.add_mul]; omega) (by rw [List.take_append_of_le_length]; simp only [List.length_append, hlo, hnl, hlen', Nat.add_mul]; omega)

/-- What has grown is data from now on. -/
theorem StLe.freeze (S : St) (n : Nat) (hn : n ≤ S.own.length) (hwf : ∀ k ∈ S.own.take n, k.wf n = true) (reps : List (Value × D)) (hr : ∀ p ∈ reps, p ∈ S.reps ∨ ∃ a ∈ S.accs, p = (a.v, .sl a.k a.ds)) : StLe S ⟨S.own.take n, [], reps⟩ := by
  refine ⟨by rw [List.length_take]; omega, fun J ℓ w h => ?_⟩
  obtain ⟨_, h2⟩ := StLe.part S n hn hwf [] (List.nil_sublist _) (reps.filter (fun _ => false)) (by simp)
  obtain ⟨hg, hm⟩ := h2 J ℓ w h
  refine ⟨⟨hg.len, hg.nodup, hg.lt, hg.memJ, hg.wf, hg.own, by simp, fun p hp => ?_⟩, hm⟩
  have hx : ∀ x, x < w.heap.size → Jx J (mutS ℓ S) x → Jx J (mutS (ℓ.take (S.own.take n).length) ⟨S.own.take n, [], reps⟩) x ∧ w.heap[x]? = w.heap[x]? := fun x _ hj => ⟨⟨hj.1, fun hmm => hj.2 (hm x hmm)⟩, rfl⟩
  rcases hr p hp with h1 | ⟨a, ha, rfl⟩
  · exact (h.reps p h1).map hx
  · have hok := h.accs a ha
    simp only [Rep, RepC]
    rcases hok with ⟨hv, hd⟩ | ⟨b, cp, cc, hv, hgb, hcs, hl, hre⟩
    · rw [hv, hd]
      exact ⟨none, 0, rfl, ⟨Nat.le_refl _, Nat.zero_le _⟩, .inl rfl⟩
    · rw [hv]
      have hbm : b ∈ S.accs.flatMap (fun a => accBlk a.v) := List.mem_flatMap.2 ⟨a, ha, by simp [hv, accBlk]⟩
      have hnd := h.nodup
      simp only [mutS] at hnd
      rw [List.nodup_append] at hnd
      refine ⟨_, cp, rfl, hl, .inr ⟨b, 0, cc, a.T, (0, 0), rfl, ⟨h.memJ b (by simp only [mutS]; exact List.mem_append.2 (.inr hbm)), fun hmm => ?_⟩, hgb, ?_⟩⟩
      · simp only [mutS, List.flatMap_nil, List.append_nil, List.length_take, Nat.min_eq_left hn] at hmm
        exact hnd.2.2 b ((mutL_take n).subset hmm) b hbm rfl
      · simpa using RepE.map hx a.k _ _ hre

/-- The end of a pure function that hands back what has grown. -/
theorem AtRet.grown {r : SV} {S : St} {R : SV → List (Value × D) → Prop} (out : List (Value × D)) (hr : r.wf 0 = true) (ho : ∀ p ∈ out, p ∈ S.reps ∨ ∃ a ∈ S.accs, p = (a.v, .sl a.k a.ds)) (h : R r out) : AtRet 0 (.ret r) S (fun o S' => ∃ r out, o = .ret r ∧ S' = ⟨[], [], out⟩ ∧ r.wf 0 = true ∧ R r out) :=
  ⟨⟨[], [], out⟩, StLe.freeze S 0 (Nat.zero_le _) (by simp) out ho, Nat.zero_le _, hr, r, out, rfl, rfl, hr, h⟩

end Go.Tr
